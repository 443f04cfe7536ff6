/-
  Which graphs may be: the program's answer is the document's (plain law).
-/
import Derived.Test.YtpfgofnmkaljaaaMg48
import Derived.Test.YtpfgofnmkaljaaaMg37
set_option linter.unusedVariables false
set_option linter.unusedSimpArgs false
namespace Go.Ab.Try
open Go Go.Proofs Go.Ab
theorem kcases (k : Int) : k ≤ 0 ∨ k = 1 ∨ k = 2 ∨ k = 3 ∨ k = 4 ∨ k = 5 ∨ k = 6 ∨ k = 7 ∨ k = 8 ∨ k = 9 ∨ 10 ≤ k := by omega
theorem knot {k : Int} (h : k ≤ 0 ∨ 10 ≤ k) : (k == 1) = false ∧ (k == 2) = false ∧ (k == 3) = false ∧ (k == 4) = false ∧ (k == 5) = false ∧ (k == 6) = false ∧ (k == 7) = false ∧ (k == 8) = false ∧ (k == 9) = false := by
  simp only [beq_eq_false_iff_ne]
  omega
theorem ports_eq (o : SOp) : graph_Ports o = pontoonref05_Ports o := by
  unfold graph_Ports pontoonref05_Ports letIn
  rcases kcases o.Kind with h | h | h | h | h | h | h | h | h | h | h
  · obtain ⟨h1, h2, h3, h4, h5, h6, h7, h8, h9⟩ := knot (.inl h)
    have : decide (o.Kind < 1) = true := by simp; omega
    simp [h1, h2, h3, h4, h5, h6, h7, h8, h9, this]
  iterate 9 simp [h]
  · obtain ⟨h1, h2, h3, h4, h5, h6, h7, h8, h9⟩ := knot (.inr h)
    have : decide (o.Kind > 9) = true := by simp; omega
    simp [h1, h2, h3, h4, h5, h6, h7, h8, h9, this]
theorem fields_eq (o : SOp) (parts : Int) : graph_fields o parts = pontoonref05_fields o parts := by
  unfold graph_fields pontoonref05_fields graph_fn letIn
  rcases kcases o.Kind with h | h | h | h | h | h | h | h | h | h | h
  · obtain ⟨h1, h2, h3, h4, h5, h6, h7, h8, h9⟩ := knot (.inl h)
    have hb : (o.Kind != 1) = true := by simp only [bne, h1]; rfl
    simp only [h1, h2, h3, h4, h5, h6, h7, hb, cond_false, Bool.true_and]
  · simp [h]
  · simp [h]
  · simp [h]
  · simp only [h]
    cases hp : (o.Part != 0) with
    | true => simp
    | false =>
      by_cases f1 : o.Fn = 1
      · simp [f1]
      · by_cases f2 : o.Fn = 2
        · simp [f2]
        · by_cases f3 : o.Fn = 3
          · simp [f3]
          · simp [beq_eq_false_iff_ne.2 f1, beq_eq_false_iff_ne.2 f2, beq_eq_false_iff_ne.2 f3]
  · simp [h]
  · simp [h]
  · simp [h]
  · simp [h]
  · simp [h]
  · obtain ⟨h1, h2, h3, h4, h5, h6, h7, h8, h9⟩ := knot (.inr h)
    have hb : (o.Kind != 1) = true := by simp only [bne, h1]; rfl
    simp only [h1, h2, h3, h4, h5, h6, h7, hb, cond_false, Bool.true_and]
theorem dropD {α : Type} [Inhabited α] (l : List α) (i : Nat) (h : i < l.length) : l.drop i = l.getD i default :: l.drop (i + 1) := by
  rw [List.drop_eq_getElem_cons h]
  simp [List.getD, List.getElem?_eq_getElem h]
theorem index_L0 (l : List SEdge) (f : SEdge → Bool) (i : Nat) : match slices_IndexFunc_Edge_L0 l f i with | .inl k => 0 ≤ k ∧ (l.drop i).any f = true | .inr _ => (l.drop i).any f = false := by
  rw [slices_IndexFunc_Edge_L0.eq_def]
  by_cases h : i < l.length
  · rw [dif_pos (by simpa using h), dropD l i h]
    cases hf : f (l.getD i default) with
    | true => simp only [dif_pos]; exact ⟨by omega, by rw [List.any_cons, hf]; rfl⟩
    | false =>
      rw [dif_neg (by simp)]
      have := index_L0 l f (i + 1)
      rw [List.any_cons, hf, Bool.false_or]
      exact this
  · rw [dif_neg (by simpa using h), List.drop_of_length_le (by omega)]
    rfl
termination_by l.length - i
theorem contains_eq (l : List SEdge) (f : SEdge → Bool) : slices_ContainsFunc_Edge l f = l.any f := by
  have := index_L0 l f 0
  unfold slices_ContainsFunc_Edge slices_IndexFunc_Edge letIn
  cases h : slices_IndexFunc_Edge_L0 l f 0 with
  | inl k => rw [h] at this; simp only [List.drop_zero] at this; rw [this.2]; simp only [Sum.elim_inl]; simpa using this.1
  | inr u => rw [h] at this; simp only [List.drop_zero] at this; rw [this]; simp
theorem inputs_L0_eq (g : SGraph) (n : Int) (i : Nat) : pontoonref05_inputs_L0 g n i = if (((g.Ops.getD n.toNat default).In.drop i).any fun e => graph_edges_c1 e n g) = true then Sum.inl false else Sum.inr () := by
  rw [pontoonref05_inputs_L0.eq_def]
  by_cases h : i < (g.Ops.getD n.toNat default).In.length
  · rw [dif_pos (by simpa using h), dropD _ i h]
    have hc : ((((decide ((List.getD ((List.getD g.Ops (Int.toNat n) default).In) i default).From < 0)) || (decide ((List.getD ((List.getD g.Ops (Int.toNat n) default).In) i default).From ≥ n))) || (decide ((List.getD ((List.getD g.Ops (Int.toNat n) default).In) i default).Port < 0))) || (decide ((List.getD ((List.getD g.Ops (Int.toNat n) default).In) i default).Port ≥ (pontoonref05_Ports (List.getD g.Ops (Int.toNat ((List.getD ((List.getD g.Ops (Int.toNat n) default).In) i default).From)) default))))) =
        graph_edges_c1 ((g.Ops.getD n.toNat default).In.getD i default) n g := by
      unfold graph_edges_c1
      rw [ports_eq]
    rw [hc]
    cases hf : graph_edges_c1 ((g.Ops.getD n.toNat default).In.getD i default) n g with
    | true => rw [dif_pos rfl, List.any_cons, hf, Bool.true_or, if_pos rfl]
    | false => rw [dif_neg Bool.false_ne_true, inputs_L0_eq g n (i + 1), List.any_cons, hf, Bool.false_or]
  · rw [dif_neg (by simpa using h), List.drop_of_length_le (by omega)]
    simp
termination_by (g.Ops.getD n.toNat default).In.length - i
decreasing_by all_goals (simp only [List.getD_eq_getElem?_getD] at *; omega)
theorem edges_eq (g : SGraph) (n : Int) : graph_edges g n = pontoonref05_inputs g n := by
  have ho : ∀ k : Int, (bif (k == 8) then ((2, 4) : Nat × Nat) else ((bif (k == 1) then ((0, 0) : Nat × Nat) else (1, 1)).1, (bif (k == 1) then ((0, 0) : Nat × Nat) else (1, 1)).2)) =
      (bif (k == 1) then (0, 0) else (bif (k == 8) then (2, 4) else (1, 1))) := fun k => by
    by_cases h1 : k = 1
    · simp [h1]
    · by_cases h8 : k = 8
      · simp [h8]
      · simp [beq_eq_false_iff_ne.2 h1, beq_eq_false_iff_ne.2 h8]
  unfold graph_edges pontoonref05_inputs letIn
  simp only [ho]
  rw [contains_eq, inputs_L0_eq]
  congr 1
  simp only [List.drop_zero]
  cases ((g.Ops.getD n.toNat default).In.any fun e => graph_edges_c1 e n g) <;> rfl
def upto (g : SGraph) (n : Nat) : List SEdge := (g.Ops.take n).flatMap (·.In)
theorem sameE (a b : SEdge) : (decide ([a.From, a.Port] = [b.From, b.Port])) = decide (a = b) := by
  cases a; cases b; simp
theorem many_L1_eq (g : SGraph) (e : SEdge) (i c k : Nat) : pontoonref05_many_L1 g e i c k = c + ((g.Ops.getD i default).In.drop k).count e := by
  rw [pontoonref05_many_L1.eq_def]
  by_cases h : k < (g.Ops.getD i default).In.length
  · rw [dif_pos (by simpa using h), dropD _ k h]
    simp only [letIn, sameE]
    rw [many_L1_eq g e i _ (k + 1), List.count_cons]
    by_cases he : (g.Ops.getD i default).In.getD k default = e
    · rw [dif_pos (by simpa using he)]; simp only [beq_iff_eq, he, if_true]; omega
    · rw [dif_neg (by simpa using he)]; simp only [beq_iff_eq, he, if_false]; omega
  · rw [dif_neg (by simpa using h), List.drop_of_length_le (by omega)]
    simp
termination_by (g.Ops.getD i default).In.length - k
decreasing_by all_goals (simp only [List.getD_eq_getElem?_getD] at *; omega)
theorem many_L0_eq (g : SGraph) (n : Nat) (hn : n ≤ g.Ops.length) (e : SEdge) (c i : Nat) : pontoonref05_many_L0 g (n : Int) e c i = c + (((g.Ops.take n).drop i).flatMap (·.In)).count e := by
  rw [pontoonref05_many_L0.eq_def]
  by_cases h : i < n
  · rw [dif_pos (by simpa using h)]
    have hl : i < (g.Ops.take n).length := by simp; omega
    have hg : (g.Ops.take n).getD i default = g.Ops.getD i default := by simp [List.getD, List.getElem?_take, h]
    rw [dropD _ i hl, List.flatMap_cons, List.count_append, hg]
    simp only [letIn]
    rw [many_L0_eq g n hn e _ (i + 1), many_L1_eq, List.drop_zero]
    omega
  · rw [dif_neg (by simpa using h), List.drop_of_length_le (by simp; omega)]
    simp
termination_by n - i
theorem many_eq (g : SGraph) (n : Nat) (hn : n ≤ g.Ops.length) (e : SEdge) : pontoonref05_many g (n : Int) e = (((upto g n).count e : Nat) : Int) := by
  unfold pontoonref05_many letIn upto
  rw [many_L0_eq g n hn e 0 0, List.drop_zero, Nat.zero_add]
theorem upto_succ (g : SGraph) (i : Nat) (h : i < g.Ops.length) : upto g (i + 1) = upto g i ++ (g.Ops.getD i default).In := by
  unfold upto
  rw [List.take_add_one, List.flatMap_append]
  simp [List.getD, List.getElem?_eq_getElem h]
theorem one_L0_eq (g : SGraph) (i : Nat) (k : Nat) (l : List SEdge) (hl : l.Nodup) : (if (l ++ (g.Ops.getD i default).In.drop k).Nodup then graph_one_L0 g (i : Int) k l = Sum.inr (l ++ (g.Ops.getD i default).In.drop k) else ∃ t, graph_one_L0 g (i : Int) k l = Sum.inl (53, t)) := by
  rw [graph_one_L0.eq_def]
  simp only [Int.toNat_natCast]
  by_cases h : k < (g.Ops.getD i default).In.length
  · rw [dif_pos (by simpa using h), dropD _ k h]
    by_cases hm : (g.Ops.getD i default).In.getD k default ∈ l
    · rw [if_neg, dif_pos (by simpa using hm)]
      · exact ⟨l, rfl⟩
      · intro hn
        have := (List.nodup_append.1 hn).2.2 _ hm _ List.mem_cons_self
        exact this rfl
    · rw [dif_neg (by simpa using hm)]
      have hadd : addS l ((g.Ops.getD i default).In.getD k default) = l ++ [(g.Ops.getD i default).In.getD k default] := by simp only [addS, decide_eq_false hm, cond_false]
      rw [hadd]
      have hl' : (l ++ [(g.Ops.getD i default).In.getD k default]).Nodup := by
        rw [List.nodup_append]
        refine ⟨hl, by simp, fun a ha b hb => ?_⟩
        rw [List.mem_singleton.1 hb]
        exact fun e => hm (e ▸ ha)
      have ih := one_L0_eq g i (k + 1) _ hl'
      simp only [List.append_assoc, List.singleton_append] at ih
      exact ih
  · rw [dif_neg (by simpa using h), List.drop_of_length_le (by omega), List.append_nil, if_pos hl]
termination_by (g.Ops.getD i default).In.length - k
decreasing_by all_goals (simp only [List.getD_eq_getElem?_getD] at *; omega)
theorem ref_L1_eq (g : SGraph) (i : Nat) (hi : i < g.Ops.length) (k : Nat) : pontoonref05_Check_L1 g i k = if (((g.Ops.getD i default).In.drop k).all fun e => decide ((upto g (i + 1)).count e ≤ 1)) = true then Sum.inr () else Sum.inl ((i : Int), 53) := by
  rw [pontoonref05_Check_L1.eq_def]
  by_cases h : k < (g.Ops.getD i default).In.length
  · rw [dif_pos (by simpa using h), dropD _ k h, many_eq g (i + 1) (by omega)]
    by_cases hc : (upto g (i + 1)).count ((g.Ops.getD i default).In.getD k default) ≤ 1
    · rw [dif_neg (by intro hh; have := of_decide_eq_true hh; omega), ref_L1_eq g i hi (k + 1), List.all_cons, decide_eq_true hc, Bool.true_and]
    · rw [dif_pos (decide_eq_true (by omega)), List.all_cons, decide_eq_false hc, Bool.false_and, if_neg Bool.false_ne_true]
  · rw [dif_neg (by simpa using h), List.drop_of_length_le (by omega)]
    simp
termination_by (g.Ops.getD i default).In.length - k
decreasing_by all_goals (simp only [List.getD_eq_getElem?_getD] at *; omega)
theorem nodup_iff (l m : List SEdge) (hl : l.Nodup) : (l ++ m).Nodup ↔ ∀ e ∈ m, (l ++ m).count e ≤ 1 := by
  rw [List.nodup_iff_count]
  constructor
  · exact fun h e _ => h e
  · intro h e
    by_cases hm : e ∈ m
    · exact h e hm
    · rw [List.count_append, List.count_eq_zero_of_not_mem hm]
      exact List.nodup_iff_count.1 hl e
theorem phase1 (g : SGraph) (i : Nat) (hi : i ≤ g.Ops.length) (hn : (upto g i).Nodup) :
    (∃ v, graph_Check_L0 g i (upto g i) = Sum.inl v ∧ pontoonref05_Check_L0 g i = Sum.inl v ∧ v.2 ≠ 0) ∨ (graph_Check_L0 g i (upto g i) = Sum.inr (upto g g.Ops.length) ∧ pontoonref05_Check_L0 g i = Sum.inr ()) := by
  rw [graph_Check_L0.eq_def, pontoonref05_Check_L0.eq_def]
  by_cases h : i < g.Ops.length
  · rw [dif_pos (by simpa using h), dif_pos (by simpa using h)]
    simp only [letIn, graph_one, Int.toNat_natCast, fields_eq, edges_eq]
    cases hk : ((decide ((List.getD g.Ops i default).Kind < 1)) || (decide ((List.getD g.Ops i default).Kind > 9))) with
    | true => exact .inl ⟨_, rfl, rfl, by simp⟩
    | false =>
      simp only [cond_false, Bool.false_eq_true, dif_neg, not_false_eq_true]
      cases hf : pontoonref05_fields (List.getD g.Ops i default) g.Parts with
      | false => exact .inl ⟨_, rfl, rfl, by simp⟩
      | true =>
        simp only [Bool.not_true, cond_false, Bool.false_eq_true, dif_neg, not_false_eq_true]
        cases he : pontoonref05_inputs g (i : Int) with
        | false => exact .inl ⟨_, rfl, rfl, by simp⟩
        | true =>
          simp only [Bool.not_true, cond_false, Bool.false_eq_true, dif_neg, not_false_eq_true]
          have h1 := one_L0_eq g i 0 (upto g i) hn
          rw [List.drop_zero, ← upto_succ g i h] at h1
          have h2 := ref_L1_eq g i h 0
          rw [List.drop_zero] at h2
          have h3 : (upto g (i + 1)).Nodup ↔ ((g.Ops.getD i default).In.all fun e => decide ((upto g (i + 1)).count e ≤ 1)) = true := by
            rw [upto_succ g i h, nodup_iff _ _ hn]
            simp
          by_cases hd : (upto g (i + 1)).Nodup
          · rw [if_pos hd] at h1
            rw [if_pos (h3.1 hd)] at h2
            rw [h1, h2]
            exact phase1 g (i + 1) (by omega) hd
          · rw [if_neg hd] at h1
            rw [if_neg (fun hh => hd (h3.2 hh))] at h2
            obtain ⟨t, ht⟩ := h1
            rw [ht, h2]
            exact .inl ⟨_, rfl, rfl, by simp⟩
  · rw [dif_neg (by simpa using h), dif_neg (by simpa using h)]
    have : i = g.Ops.length := by omega
    subst this
    exact .inr ⟨rfl, rfl⟩
termination_by g.Ops.length - i
def looseAt (g : SGraph) (i k : Nat) : Prop := ∃ p, k ≤ p ∧ (p : Int) < pontoonref05_Ports (g.Ops.getD i default) ∧ (⟨(i : Int), (p : Int)⟩ : SEdge) ∉ upto g g.Ops.length
theorem loose_step {g : SGraph} {i k : Nat} (hk : (k : Int) < pontoonref05_Ports (g.Ops.getD i default)) (hm : (⟨(i : Int), (k : Int)⟩ : SEdge) ∈ upto g g.Ops.length) : looseAt g i k ↔ looseAt g i (k + 1) := by
  constructor
  · rintro ⟨p, h1, h2, h3⟩
    refine ⟨p, ?_, h2, h3⟩
    by_cases e : p = k
    · subst e; exact absurd hm h3
    · omega
  · rintro ⟨p, h1, h2, h3⟩
    exact ⟨p, by omega, h2, h3⟩
theorem ref_L3_eq (g : SGraph) (i k : Nat) : (looseAt g i k → pontoonref05_Check_L3 g i k = Sum.inl ((i : Int), 54)) ∧ (¬ looseAt g i k → pontoonref05_Check_L3 g i k = Sum.inr ()) := by
  rw [pontoonref05_Check_L3.eq_def]
  by_cases h : (k : Int) < pontoonref05_Ports (g.Ops.getD i default)
  · rw [dif_pos (decide_eq_true h), many_eq g _ (Nat.le_refl _)]
    by_cases hm : (⟨(i : Int), (k : Int)⟩ : SEdge) ∈ upto g g.Ops.length
    · have hc : 0 < (upto g g.Ops.length).count (⟨(i : Int), (k : Int)⟩ : SEdge) := List.count_pos_iff.2 hm
      rw [dif_neg (by intro hh; have := eq_of_beq hh; omega), loose_step h hm]
      exact ref_L3_eq g i (k + 1)
    · have hc : (upto g g.Ops.length).count (⟨(i : Int), (k : Int)⟩ : SEdge) = 0 := List.count_eq_zero_of_not_mem hm
      rw [dif_pos (by rw [hc]; rfl)]
      exact ⟨fun _ => rfl, fun hn => absurd ⟨k, Nat.le_refl _, h, hm⟩ hn⟩
  · rw [dif_neg (by intro hh; exact h (of_decide_eq_true hh))]
    exact ⟨fun ⟨p, h1, h2, _⟩ => by omega, fun _ => rfl⟩
termination_by (pontoonref05_Ports (g.Ops.getD i default)).toNat - k
decreasing_by all_goals (simp only [List.getD_eq_getElem?_getD] at *; omega)
theorem graph_L2_eq (g : SGraph) (b : Bool) (i lo : Nat) (o : Nat × List Int) (k : Nat) :
    ((b = true ∨ ¬ looseAt g i k) → graph_Check_L2 g (upto g g.Ops.length) b i lo o k = (o.1, lo, b, o.2)) ∧ (b = false → looseAt g i k → graph_Check_L2 g (upto g g.Ops.length) b i lo o k = (o.1, i, true, o.2)) := by
  rw [graph_Check_L2.eq_def]
  rw [ports_eq]
  by_cases h : (k : Int) < pontoonref05_Ports (g.Ops.getD i default)
  · rw [dif_pos (decide_eq_true h)]
    cases b with
    | true =>
      rw [dif_pos rfl]
      exact ⟨fun _ => rfl, fun hh => by cases hh⟩
    | false =>
      rw [dif_neg Bool.false_ne_true]
      by_cases hm : (⟨(i : Int), (k : Int)⟩ : SEdge) ∈ upto g g.Ops.length
      · rw [dif_neg (by rw [decide_eq_true hm]; decide), loose_step h hm]
        exact graph_L2_eq g false i lo o (k + 1)
      · rw [dif_pos (by rw [decide_eq_false hm]; rfl)]
        refine ⟨fun hh => ?_, fun _ _ => rfl⟩
        rcases hh with hh | hh
        · cases hh
        · exact absurd ⟨k, Nat.le_refl _, h, hm⟩ hh
  · rw [dif_neg (by intro hh; exact h (of_decide_eq_true hh))]
    exact ⟨fun _ => rfl, fun _ ⟨p, h1, h2, _⟩ => by omega⟩
termination_by (pontoonref05_Ports (g.Ops.getD i default)).toNat - k
decreasing_by all_goals (simp only [List.getD_eq_getElem?_getD] at *; omega)
def isSrc (o : SOp) (p : Nat) : Bool := (o.Kind == 1) && (o.Part == (p : Int))
def isSink (o : SOp) : Bool := o.Kind == 9
def srcs (l : List SOp) (p : Nat) : Nat := l.countP fun o => isSrc o p
def tally (l : List Int) (o : SOp) : List Int := bif o.Kind == 1 then l.set o.Part.toNat (IntKind.i64.wrap (l.getD o.Part.toNat default + 1)) else l
theorem L5_eq (g : SGraph) (p a b i : Nat) : pontoonref05_Check_L5 g p a b i = (a + (bif p == 0 then (g.Ops.drop i).countP isSink else 0), b + srcs (g.Ops.drop i) p) := by
  rw [pontoonref05_Check_L5.eq_def]
  by_cases h : i < g.Ops.length
  · rw [dif_pos (by simpa using h), dropD _ i h]
    simp only [letIn, srcs, List.countP_cons]
    have hs : ((((g.Ops.getD i default).Kind == 1) && ((g.Ops.getD i default).Part == ((p : Nat) : Int)))) = isSrc (g.Ops.getD i default) p := rfl
    have hk : ((g.Ops.getD i default).Kind == 9) = isSink (g.Ops.getD i default) := rfl
    have hp : ((((p : Nat) : Int) == 0)) = (p == 0) := by
      cases hq : (p == 0) with
      | true => have := eq_of_beq hq; subst this; rfl
      | false => have := ne_of_beq_false hq; exact beq_eq_false_iff_ne.2 (by omega)
    rw [hs, hk, hp, L5_eq g p _ _ (i + 1)]
    cases isSrc (g.Ops.getD i default) p <;> cases isSink (g.Ops.getD i default) <;> cases (p == 0) <;> simp [srcs] <;> omega
  · rw [dif_neg (by simpa using h), List.drop_of_length_le (by omega)]
    cases (p == 0) <;> simp [srcs]
termination_by g.Ops.length - i
theorem L1_step (g : SGraph) (T : List SEdge) (s : Nat) (b : Bool) (i : Nat) (l : List Int) (lo : Nat) (h : i < g.Ops.length) :
    graph_Check_L1 g T s b i l lo = (fun q : Nat × Nat × Bool × List Int => graph_Check_L1 g T q.1 q.2.2.1 (i + 1) q.2.2.2 q.2.1) (graph_Check_L2 g T b i lo (s + (bif isSink (g.Ops.getD i default) then 1 else 0), tally l (g.Ops.getD i default)) 0) := by
  rw [graph_Check_L1.eq_def, dif_pos (by simpa using h)]
  simp only [letIn]
  have ho : (if h52 : ((List.getD g.Ops i default).Kind == 1) = true then (s, (List.set l (Int.toNat ((List.getD g.Ops i default).Part)) (IntKind.i64.wrap ((List.getD l (Int.toNat ((List.getD g.Ops i default).Part)) default) + 1)))) else (if h53 : ((List.getD g.Ops i default).Kind == 9) = true then (s + 1, l) else (s, l))) =
      (s + (bif isSink (g.Ops.getD i default) then 1 else 0), tally l (g.Ops.getD i default)) := by
    unfold isSink tally
    generalize g.Ops.getD i default = o
    by_cases h1 : o.Kind = 1
    · simp [h1]
    · by_cases h9 : o.Kind = 9
      · simp [h9]
      · simp [beq_eq_false_iff_ne.2 h1, beq_eq_false_iff_ne.2 h9, h1, h9]
  rw [ho]
theorem L1_true (g : SGraph) (s : Nat) (i : Nat) (l : List Int) (lo : Nat) : graph_Check_L1 g (upto g g.Ops.length) s true i l lo = (s + (g.Ops.drop i).countP isSink, lo, true, (g.Ops.drop i).foldl tally l) := by
  by_cases h : i < g.Ops.length
  · rw [L1_step g _ s true i l lo h, (graph_L2_eq g true i lo _ 0).1 (.inl rfl), dropD _ i h]
    simp only [List.countP_cons, List.foldl_cons]
    rw [L1_true g _ (i + 1)]
    cases isSink (g.Ops.getD i default) <;> simp <;> omega
  · rw [graph_Check_L1.eq_def, dif_neg (by simpa using h), List.drop_of_length_le (by omega)]
    simp
termination_by g.Ops.length - i
theorem phase2 (g : SGraph) (s : Nat) (i : Nat) (l : List Int) (lo : Nat) :
    (∃ j, graph_Check_L1 g (upto g g.Ops.length) s false i l lo = (s + (g.Ops.drop i).countP isSink, j, true, (g.Ops.drop i).foldl tally l) ∧ pontoonref05_Check_L2 g i = Sum.inl ((j : Int), 54)) ∨
    (graph_Check_L1 g (upto g g.Ops.length) s false i l lo = (s + (g.Ops.drop i).countP isSink, lo, false, (g.Ops.drop i).foldl tally l) ∧ pontoonref05_Check_L2 g i = Sum.inr ()) := by
  by_cases h : i < g.Ops.length
  · rw [L1_step g _ s false i l lo h, pontoonref05_Check_L2.eq_def, dif_pos (by simpa using h), dropD _ i h]
    simp only [List.countP_cons, List.foldl_cons, letIn]
    have hc : ∀ k, s + (bif isSink (g.Ops.getD i default) then 1 else 0) + k = s + (k + if isSink (g.Ops.getD i default) = true then 1 else 0) := fun k => by
      cases isSink (g.Ops.getD i default) <;> simp <;> omega
    by_cases hl : looseAt g i 0
    · rw [(graph_L2_eq g false i lo _ 0).2 rfl hl, (ref_L3_eq g i 0).1 hl]
      simp only [Sum.elim_inl]
      rw [L1_true, hc]
      exact .inl ⟨i, rfl, rfl⟩
    · rw [(graph_L2_eq g false i lo _ 0).1 (.inr hl), (ref_L3_eq g i 0).2 hl]
      simp only [Sum.elim_inr]
      rw [← hc]
      exact phase2 g _ (i + 1) _ lo
  · rw [graph_Check_L1.eq_def, dif_neg (by simpa using h), pontoonref05_Check_L2.eq_def, dif_neg (by simpa using h), List.drop_of_length_le (by omega)]
    exact .inr ⟨by simp, rfl⟩
termination_by g.Ops.length - i
theorem index_L0i (l : List Int) (f : Int → Bool) (i : Nat) : match slices_IndexFunc_int_L0 l f i with | .inl k => 0 ≤ k ∧ (l.drop i).any f = true | .inr _ => (l.drop i).any f = false := by
  rw [slices_IndexFunc_int_L0.eq_def]
  by_cases h : i < l.length
  · rw [dif_pos (by simpa using h), dropD l i h]
    cases hf : f (l.getD i default) with
    | true => simp only [dif_pos]; exact ⟨by omega, by rw [List.any_cons, hf]; rfl⟩
    | false =>
      rw [dif_neg (by simp)]
      have := index_L0i l f (i + 1)
      rw [List.any_cons, hf, Bool.false_or]
      exact this
  · rw [dif_neg (by simpa using h), List.drop_of_length_le (by omega)]
    rfl
termination_by l.length - i
theorem contains_int (l : List Int) (f : Int → Bool) : slices_ContainsFunc_int l f = l.any f := by
  have := index_L0i l f 0
  unfold slices_ContainsFunc_int slices_IndexFunc_int letIn
  cases h : slices_IndexFunc_int_L0 l f 0 with
  | inl k => rw [h] at this; simp only [List.drop_zero] at this; rw [this.2]; simp only [Sum.elim_inl]; simpa using this.1
  | inr u => rw [h] at this; simp only [List.drop_zero] at this; rw [this]; simp
theorem tally_len (l : List Int) (o : SOp) : (tally l o).length = l.length := by
  unfold tally
  cases o.Kind == 1 <;> simp
theorem fold_tally (m : List SOp) : ∀ (l : List Int), (∀ o ∈ m, o.Kind = 1 → 0 ≤ o.Part ∧ o.Part < l.length) → (∀ p, p < l.length → 0 ≤ l.getD p 0 ∧ l.getD p 0 + m.length ≤ 4611686018427387904) →
    (m.foldl tally l).length = l.length ∧ ∀ p, p < l.length → (m.foldl tally l).getD p 0 = l.getD p 0 + (srcs m p : Nat) := by
  induction m with
  | nil => intro l _ _; exact ⟨rfl, fun p _ => by simp [srcs]⟩
  | cons o r ih =>
    intro l hp hb
    have hkey : ∀ p, p < l.length → (tally l o).getD p 0 = l.getD p 0 + (bif isSrc o p then 1 else 0) := fun p hpl => by
      unfold tally isSrc
      by_cases hk : o.Kind = 1
      · obtain ⟨h1, h2⟩ := hp o List.mem_cons_self hk
        simp only [hk, beq_self_eq_true, cond_true, Bool.true_and]
        have hlt : o.Part.toNat < l.length := by omega
        by_cases hq : o.Part.toNat = p
        · have hq2 : (o.Part == (p : Int)) = true := beq_iff_eq.2 (by omega)
          have h3 := hb p hpl
          simp only [List.length_cons] at h3
          have h4 : l.getD o.Part.toNat default = l.getD p 0 := by rw [hq]; rfl
          rw [hq2, h4]
          have h5 : (l.set o.Part.toNat (IntKind.i64.wrap (l.getD p 0 + 1))).getD p 0 = IntKind.i64.wrap (l.getD p 0 + 1) := by
            rw [List.getD_eq_getElem?_getD, hq, List.getElem?_set_self hpl]
            rfl
          rw [h5, IntKind.wrap_i64]
          simp only [cond_true]
          omega
        · have hq2 : (o.Part == (p : Int)) = false := beq_eq_false_iff_ne.2 (by omega)
          rw [hq2]
          simp only [cond_false, Int.add_zero, List.getD_eq_getElem?_getD]
          rw [List.getElem?_set_ne hq]
      · simp [beq_eq_false_iff_ne.2 hk]
    have hlen := tally_len l o
    obtain ⟨i1, i2⟩ := ih (tally l o) (fun o' ho' hk => by rw [hlen]; exact hp o' (List.mem_cons_of_mem _ ho') hk) (fun p hpl => by
      rw [hlen] at hpl
      have h3 := hb p hpl
      simp only [List.length_cons] at h3
      rw [hkey p hpl]
      cases isSrc o p <;> simp only [cond_true, cond_false] <;> omega)
    simp only [List.foldl_cons]
    refine ⟨by rw [i1, hlen], fun p hpl => ?_⟩
    rw [i2 p (by rw [hlen]; exact hpl), hkey p hpl]
    simp only [srcs, List.countP_cons]
    cases isSrc o p <;> simp only [cond_true, cond_false, if_true, Bool.false_eq_true, if_false] <;> omega
theorem L4_eq (g : SGraph) (s p : Nat) : ((∀ q, p ≤ q → (q : Int) < g.Parts → srcs g.Ops q = 1) → pontoonref05_Check_L4 g s p = Sum.inr (s + (bif (p == 0) && decide ((p : Int) < g.Parts) then g.Ops.countP isSink else 0))) ∧
    ((∃ q, p ≤ q ∧ (q : Int) < g.Parts ∧ srcs g.Ops q ≠ 1) → pontoonref05_Check_L4 g s p = Sum.inl (0, 55)) := by
  rw [pontoonref05_Check_L4.eq_def]
  by_cases h : (p : Int) < g.Parts
  · rw [dif_pos (decide_eq_true h)]
    simp only [letIn]
    rw [L5_eq g p s 0 0, List.drop_zero]
    simp only [Nat.zero_add]
    obtain ⟨i1, i2⟩ := L4_eq g (s + (bif p == 0 then g.Ops.countP isSink else 0)) (p + 1)
    by_cases h1 : srcs g.Ops p = 1
    · rw [dif_neg (by rw [h1]; decide)]
      simp only [Sum.elim_inr]
      refine ⟨fun hq => ?_, fun ⟨q, hq1, hq2, hq3⟩ => i2 ⟨q, ?_, hq2, hq3⟩⟩
      · rw [i1 fun q hq1 hq2 => hq q (by omega) hq2, decide_eq_true h]
        simp
      · by_cases e : q = p
        · subst e; exact absurd h1 hq3
        · omega
    · rw [dif_pos (by rw [bne_iff_ne]; omega)]
      exact ⟨fun hq => absurd (hq p (Nat.le_refl _) h) h1, fun _ => rfl⟩
  · rw [dif_neg (by intro hh; exact h (of_decide_eq_true hh)), decide_eq_false h]
    exact ⟨fun _ => by simp, fun ⟨q, hq1, hq2, _⟩ => by omega⟩
termination_by g.Parts.toNat - p
theorem fields_all (g : SGraph) (i : Nat) (T : List SEdge) (T' : List SEdge) (h : graph_Check_L0 g i T = Sum.inr T') : ∀ j, i ≤ j → j < g.Ops.length → graph_fields (g.Ops.getD j default) g.Parts = true := by
  rw [graph_Check_L0.eq_def] at h
  by_cases hi : i < g.Ops.length
  · rw [dif_pos (by simpa using hi)] at h
    simp only [letIn] at h
    split at h
    · cases h
    · rename_i h1
      have h2 : (graph_one g (i : Int) T).1 = 0 := by simpa using h1
      have ih := fields_all g (i + 1) _ T' h
      intro j hj hjl
      by_cases e : j = i
      · subst e; exact graph_one_fields g j T h2
      · exact ih j (by omega) hjl
  · intro j hj hjl; omega
termination_by g.Ops.length - i
theorem check_eq (g : SGraph) : graph_Check g = pontoonref05_Check g := by
  unfold graph_Check pontoonref05_Check
  cases hP : ((decide (g.Parts < 1)) || (decide (g.Parts > 4))) with
  | true => rfl
  | false =>
    cases hL : decide (((g.Ops.length : Nat) : Int) > 24) with
    | true => rfl
    | false =>
      simp only [cond_false, letIn]
      simp only [Bool.or_eq_false_iff, decide_eq_false_iff_not] at hP
      have hlen : g.Ops.length ≤ 24 := by have := of_decide_eq_false hL; omega
      have hu : upto g 0 = [] := by simp [upto]
      have h1 := phase1 g 0 (Nat.zero_le _) (by rw [hu]; exact List.nodup_nil)
      rw [hu] at h1
      rcases h1 with ⟨v, h1, h2, _⟩ | ⟨h1, h2⟩
      · rw [h1, h2]; rfl
      · have hfields := fields_all g 0 _ _ h1
        rw [h1, h2]
        simp only [Sum.elim_inr]
        rcases phase2 g 0 0 (List.replicate g.Parts.toNat 0) 0 with ⟨j, h3, h4⟩ | ⟨h3, h4⟩
        · rw [h3, h4]; rfl
        · rw [h3, h4]
          simp only [Sum.elim_inr, cond_false, List.drop_zero, Nat.zero_add]
          have hrep : ∀ p, p < g.Parts.toNat → (List.replicate g.Parts.toNat (0 : Int)).getD p 0 = 0 := fun p hp => by
            rw [List.getD_eq_getElem?_getD, List.getElem?_replicate]
            split <;> rfl
          obtain ⟨f1, f2⟩ := fold_tally g.Ops (List.replicate g.Parts.toNat 0) (fun o ho hk => by
            obtain ⟨i, hi, rfl⟩ := List.getElem_of_mem ho
            have hf := hfields i (Nat.zero_le _) hi
            have e : g.Ops.getD i default = g.Ops[i] := by simp [List.getD, List.getElem?_eq_getElem hi]
            rw [e] at hf
            have := fields_part _ _ hf hk
            simp only [List.length_replicate]
            omega) (fun p hp => by
            simp only [List.length_replicate] at hp
            rw [hrep p hp]
            omega)
          simp only [List.length_replicate] at f1 f2
          rw [contains_int]
          obtain ⟨g1, g2⟩ := L4_eq g 0 0
          by_cases hall : ∀ q : Nat, (q : Int) < g.Parts → srcs g.Ops q = 1
          · have hany : ((g.Ops.foldl tally (List.replicate g.Parts.toNat 0)).any fun x => graph_Check_c1 x) = false := by
              rw [List.any_eq_false]
              intro x hx
              obtain ⟨p, hp, rfl⟩ := List.getElem_of_mem hx
              have hp' : p < g.Parts.toNat := by omega
              have hv := f2 p hp'
              rw [hrep p hp', hall p (by omega), List.getD_eq_getElem?_getD, List.getElem?_eq_getElem hp] at hv
              simp only [Option.getD_some] at hv
              rw [hv]
              decide
            have hany' : (g.Ops.foldl tally (List.replicate g.Parts.toNat 0)).any graph_Check_c1 = false := hany
            rw [hany', g1 fun q _ hq => hall q hq]
            have : decide (((0 : Nat) : Int) < g.Parts) = true := by simp; omega
            rw [this]
            simp
          · have hex : ∃ q : Nat, (q : Int) < g.Parts ∧ srcs g.Ops q ≠ 1 := by
              apply Classical.byContradiction
              intro hn
              exact hall fun q hq => Classical.byContradiction fun hne => hn ⟨q, hq, hne⟩
            obtain ⟨q, hq1, hq2⟩ := hex
            have hany : (g.Ops.foldl tally (List.replicate g.Parts.toNat 0)).any graph_Check_c1 = true := by
              rw [List.any_eq_true]
              have hq' : q < g.Parts.toNat := by omega
              have hv := f2 q hq'
              have hlt : q < (g.Ops.foldl tally (List.replicate g.Parts.toNat 0)).length := by omega
              rw [hrep q hq', List.getD_eq_getElem?_getD, List.getElem?_eq_getElem hlt] at hv
              simp only [Option.getD_some] at hv
              refine ⟨_, List.getElem_mem hlt, ?_⟩
              rw [hv]
              unfold graph_Check_c1
              rw [bne_iff_ne]
              omega
            rw [hany, g2 ⟨q, Nat.zero_le _, hq1, hq2⟩]
            rfl
end Go.Ab.Try
