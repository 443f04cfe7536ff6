/-
  What a graph that may be is like (plain).
  What flows through a graph: no more than what came in (plain).
-/
import Derived.Test.YtpfgofnmkaljaaaMg49
import Derived.Test.YtpfgofnmkaljaaaMg45
set_option linter.unusedVariables false
set_option linter.unusedSimpArgs false
namespace Go.Ab.Try
open Go Go.Proofs Go.Ab
structure EOk (g : SGraph) (n : Nat) : Prop where
  src : (g.Ops.getD n default).Kind = 1 → (g.Ops.getD n default).In = []
  uni : (g.Ops.getD n default).Kind = 8 → 2 ≤ (g.Ops.getD n default).In.length ∧ (g.Ops.getD n default).In.length ≤ 4
  one : (g.Ops.getD n default).Kind ≠ 1 → (g.Ops.getD n default).Kind ≠ 8 → (g.Ops.getD n default).In.length = 1
  each : ∀ e ∈ (g.Ops.getD n default).In, 0 ≤ e.From ∧ e.From < (n : Int) ∧ 0 ≤ e.Port ∧ e.Port < graph_Ports (g.Ops.getD e.From.toNat default)
theorem edges_ok (g : SGraph) (n : Nat) (h : graph_edges g (n : Int) = true) : EOk g n := by
  unfold graph_edges letIn at h
  rw [contains_eq] at h
  simp only [Int.toNat_natCast] at h
  have key : ∀ (lo hi : Nat), (bif ((decide ((((g.Ops.getD n default).In.length : Nat) : Int) < ((lo : Nat) : Int))) || (decide ((((g.Ops.getD n default).In.length : Nat) : Int) > ((hi : Nat) : Int)))) then false else (!((g.Ops.getD n default).In.any fun y0 => graph_edges_c1 y0 (n : Int) g))) = true →
      (lo ≤ (g.Ops.getD n default).In.length ∧ (g.Ops.getD n default).In.length ≤ hi) ∧ ∀ e ∈ (g.Ops.getD n default).In, 0 ≤ e.From ∧ e.From < (n : Int) ∧ 0 ≤ e.Port ∧ e.Port < graph_Ports (g.Ops.getD e.From.toNat default) := by
    intro lo hi h
    cases hc : ((decide ((((g.Ops.getD n default).In.length : Nat) : Int) < ((lo : Nat) : Int))) || (decide ((((g.Ops.getD n default).In.length : Nat) : Int) > ((hi : Nat) : Int)))) with
    | true => rw [hc] at h; cases h
    | false =>
      rw [hc] at h
      simp only [cond_false, Bool.not_eq_true', List.any_eq_false] at h
      simp only [Bool.or_eq_false_iff, decide_eq_false_iff_not] at hc
      refine ⟨by omega, fun e he => ?_⟩
      have := h e he
      simp only [graph_edges_c1, Bool.or_eq_true, decide_eq_true_eq, not_or] at this
      omega
  by_cases h1 : (g.Ops.getD n default).Kind = 1
  · simp only [h1, beq_self_eq_true, cond_true] at h
    obtain ⟨g1, g2⟩ := key 0 0 h
    exact ⟨fun _ => List.eq_nil_of_length_eq_zero (by omega), fun h8 => by omega, fun hn => absurd h1 hn, g2⟩
  · have e1 : ((g.Ops.getD n default).Kind == 1) = false := by simpa using h1
    simp only [e1, cond_false] at h
    by_cases h8 : (g.Ops.getD n default).Kind = 8
    · simp only [h8, beq_self_eq_true, cond_true] at h
      obtain ⟨g1, g2⟩ := key 2 4 h
      exact ⟨fun hk => absurd hk h1, fun _ => g1, fun _ hn => absurd h8 hn, g2⟩
    · have e8 : ((g.Ops.getD n default).Kind == 8) = false := by simpa using h8
      simp only [e8, cond_false] at h
      obtain ⟨g1, g2⟩ := key 1 1 h
      exact ⟨fun hk => absurd hk h1, fun hk => absurd hk h8, fun _ _ => by omega, g2⟩
structure GOk (g : SGraph) : Prop where
  parts : 1 ≤ g.Parts ∧ g.Parts ≤ 4
  len : g.Ops.length ≤ 24
  kind : ∀ n, n < g.Ops.length → 1 ≤ (g.Ops.getD n default).Kind ∧ (g.Ops.getD n default).Kind ≤ 9
  fields : ∀ n, n < g.Ops.length → graph_fields (g.Ops.getD n default) g.Parts = true
  edges : ∀ n, n < g.Ops.length → EOk g n
  nodup : (upto g g.Ops.length).Nodup
  srcs : ∀ q : Nat, (q : Int) < g.Parts → srcs g.Ops q = 1
  sinks : g.Ops.countP isSink = 1
theorem one_ok (g : SGraph) (n : Nat) (T : List SEdge) (h : (graph_one g (n : Int) T).1 = 0) : (1 ≤ (g.Ops.getD n default).Kind ∧ (g.Ops.getD n default).Kind ≤ 9) ∧ graph_fields (g.Ops.getD n default) g.Parts = true ∧ EOk g n := by
  have hf := graph_one_fields g n T h
  unfold graph_one at h
  simp only [Int.toNat_natCast] at h
  cases h1 : ((decide ((List.getD g.Ops n default).Kind < 1)) || (decide ((List.getD g.Ops n default).Kind > 9))) with
  | true => rw [h1] at h; simp at h
  | false =>
    rw [h1] at h
    simp only [cond_false, hf, Bool.not_true] at h
    cases h2 : graph_edges g (n : Int) with
    | false => rw [h2] at h; simp at h
    | true =>
      simp only [Bool.or_eq_false_iff, decide_eq_false_iff_not] at h1
      exact ⟨by omega, hf, edges_ok g n h2⟩
theorem ones_all (g : SGraph) (i : Nat) (T : List SEdge) (T' : List SEdge) (h : graph_Check_L0 g i T = Sum.inr T') : ∀ j, i ≤ j → j < g.Ops.length →
    (1 ≤ (g.Ops.getD j default).Kind ∧ (g.Ops.getD j default).Kind ≤ 9) ∧ graph_fields (g.Ops.getD j default) g.Parts = true ∧ EOk g j := by
  rw [graph_Check_L0.eq_def] at h
  by_cases hi : i < g.Ops.length
  · rw [dif_pos (by simpa using hi)] at h
    simp only [letIn] at h
    split at h
    · cases h
    · rename_i h1
      have h2 : (graph_one g (i : Int) T).1 = 0 := by simpa using h1
      have ih := ones_all g (i + 1) _ T' h
      intro j hj hjl
      by_cases e : j = i
      · subst e; exact one_ok g j T h2
      · exact ih j (by omega) hjl
  · intro j hj hjl; omega
termination_by g.Ops.length - i
theorem graph_L0_nodup (g : SGraph) (i : Nat) (hi : i ≤ g.Ops.length) (hn : (upto g i).Nodup) (T' : List SEdge) (h : graph_Check_L0 g i (upto g i) = Sum.inr T') : (upto g g.Ops.length).Nodup := by
  rw [graph_Check_L0.eq_def] at h
  by_cases hlt : i < g.Ops.length
  · rw [dif_pos (by simpa using hlt)] at h
    simp only [letIn] at h
    split at h
    · cases h
    · rename_i h1
      have h2 : (graph_one g (i : Int) (upto g i)).1 = 0 := by simpa using h1
      obtain ⟨hk, hf, he⟩ := one_ok g i _ h2
      have h3 : graph_edges g (i : Int) = true := by
        cases h3 : graph_edges g (i : Int) with
        | true => rfl
        | false =>
          unfold graph_one at h2
          simp only [Int.toNat_natCast] at h2
          have c : ((decide ((List.getD g.Ops i default).Kind < 1)) || (decide ((List.getD g.Ops i default).Kind > 9))) = false := by rw [decide_eq_false (by omega), decide_eq_false (by omega)]; rfl
          rw [c] at h2
          simp only [hf, h3, cond_false, Bool.not_true, Bool.not_false, cond_true] at h2
          simp at h2
      have h4 := one_L0_eq g i 0 (upto g i) hn
      rw [List.drop_zero, ← upto_succ g i hlt] at h4
      have h5 : graph_one g (i : Int) (upto g i) = Sum.elim (fun q => q) (fun o5 => (0, o5)) (graph_one_L0 g (i : Int) 0 (upto g i)) := by
        unfold graph_one letIn
        simp only [Int.toNat_natCast]
        have c : ((decide ((List.getD g.Ops i default).Kind < 1)) || (decide ((List.getD g.Ops i default).Kind > 9))) = false := by rw [decide_eq_false (by omega), decide_eq_false (by omega)]; rfl
        rw [c]
        simp only [hf, h3, Bool.not_true, cond_false]
      split at h4
      · rename_i hnd
        rw [h5, h4] at h
        exact graph_L0_nodup g (i + 1) hlt hnd T' h
      · obtain ⟨t, ht⟩ := h4
        rw [h5, ht] at h2
        simp at h2
  · have : i = g.Ops.length := by omega
    rw [← this]; exact hn
termination_by g.Ops.length - i
theorem gok_of (g : SGraph) (h : (graph_Check g).2 = 0) : GOk g := by
  have href := h
  rw [check_eq] at href
  unfold graph_Check at h
  unfold pontoonref05_Check at href
  cases hP : ((decide (g.Parts < 1)) || (decide (g.Parts > 4))) with
  | true => rw [hP] at h; simp at h
  | false =>
    rw [hP] at h href
    cases hL : decide (((g.Ops.length : Nat) : Int) > 24) with
    | true => rw [hL] at h; simp at h
    | false =>
      rw [hL] at h href
      simp only [cond_false, letIn] at h href
      simp only [Bool.or_eq_false_iff, decide_eq_false_iff_not] at hP
      have hlen : g.Ops.length ≤ 24 := by have := of_decide_eq_false hL; omega
      have hu : upto g 0 = [] := by simp [upto]
      have h1 := phase1 g 0 (Nat.zero_le _) (by rw [hu]; exact List.nodup_nil)
      rw [hu] at h1
      rcases h1 with ⟨v, h1, h2, h9⟩ | ⟨h1, h2⟩
      · rw [h1] at h; simp only [Sum.elim_inl] at h; exact absurd h h9
      · have hall := ones_all g 0 _ _ h1
        have hnd := graph_L0_nodup g 0 (Nat.zero_le _) (by rw [hu]; exact List.nodup_nil) _ (by rw [hu]; exact h1)
        have hfields := fun n hn => (hall n (Nat.zero_le _) hn).2.1
        rw [h1] at h
        rw [h2] at href
        simp only [Sum.elim_inr] at h href
        rcases phase2 g 0 0 (List.replicate g.Parts.toNat 0) 0 with ⟨j, h3, h4⟩ | ⟨h3, h4⟩
        · rw [h3] at h; simp at h
        · rw [h3] at h
          rw [h4] at href
          simp only [cond_false, List.drop_zero, Nat.zero_add, Sum.elim_inr] at h href
          obtain ⟨g1, g2⟩ := L4_eq g 0 0
          have hsrc : ∀ q : Nat, (q : Int) < g.Parts → srcs g.Ops q = 1 := by
            intro q hq
            apply Classical.byContradiction
            intro hne
            rw [g2 ⟨q, Nat.zero_le _, hq, hne⟩] at href
            simp at href
          have hd : decide (((0 : Nat) : Int) < g.Parts) = true := by simp; omega
          rw [g1 fun q _ hq => hsrc q hq, hd] at href
          have hsink : g.Ops.countP isSink = 1 := by
            simp only [beq_self_eq_true, Bool.and_self, cond_true, Sum.elim_inr, Nat.zero_add] at href
            apply Classical.byContradiction
            intro hne
            have : (((g.Ops.countP isSink : Nat) : Int) != 1) = true := by rw [bne_iff_ne]; omega
            rw [this] at href
            simp at href
          exact ⟨by omega, hlen, fun n hn => (hall n (Nat.zero_le _) hn).1, hfields, fun n hn => (hall n (Nat.zero_le _) hn).2.2, hnd, hsrc, hsink⟩
end Go.Ab.Try

set_option linter.unusedVariables false
set_option linter.unusedSimpArgs false
namespace Go.Ab.Try
open Go Go.Proofs Go.Ab
theorem tot_set0 : ∀ (l : List (List SRecord)) (i : Nat), tot (l.set i []) + (l.getD i default).length = tot l
  | [], i => by simp [tot, default]
  | a :: l, 0 => by
    have e : (a :: l).getD 0 default = a := rfl
    rw [e, List.set_cons_zero, tot_cons, tot_cons]
    simp only [List.length_nil]
    omega
  | a :: l, i + 1 => by
    have e : (a :: l).getD (i + 1) default = l.getD i default := rfl
    rw [e, List.set_cons_succ, tot_cons, tot_cons, ← tot_set0 l i]
    omega
theorem getD_set_ne {l : List (List SRecord)} {i j : Nat} (h : j ≠ i) : (l.set i []).getD j default = l.getD j default := by
  simp only [List.getD_eq_getElem?_getD, List.getElem?_set]
  rw [if_neg (fun e => h e.symm)]
theorem sum_idx : ∀ (I : List Nat) (l : List (List SRecord)), I.Nodup → (I.map fun i => (l.getD i default).length).sum ≤ tot l
  | [], l, _ => by simp
  | i :: I, l, h => by
    obtain ⟨h1, h2⟩ := List.nodup_cons.1 h
    have ih := sum_idx I (l.set i []) h2
    have e : (I.map fun j => ((l.set i []).getD j default).length) = I.map fun j => (l.getD j default).length := List.map_congr_left fun j hj => by
      rw [getD_set_ne (show j ≠ i from fun e => h1 (by rw [← e]; exact hj))]
    rw [e] at ih
    have := tot_set0 l i
    rw [List.map_cons, List.sum_cons]
    omega
theorem tot_map {α : Type} (l : List α) (f : α → List SRecord) : tot (l.map f) = (l.map fun x => (f x).length).sum := by
  simp only [tot, List.map_map]
  rfl
def outAt (outs : List (List (List SRecord))) (e : SEdge) : List SRecord := List.getD (List.getD outs (Int.toNat e.From) default) (Int.toNat e.Port) default
theorem sum_filter {α : Type} (f : α → Nat) (p : α → Bool) : ∀ (l : List α), (l.map f).sum = ((l.filter p).map f).sum + ((l.filter fun x => !p x).map f).sum
  | [] => rfl
  | x :: l => by
    rw [List.map_cons, List.sum_cons, sum_filter f p l]
    cases h : p x <;> simp [List.filter_cons, h] <;> omega
structure RIn (g : SGraph) (B n : Nat) (outs : List (List (List SRecord))) : Prop where
  len : outs.length = n
  each : ∀ k, k < n → (outs.getD k default).length = Int.toNat (graph_Ports (g.Ops.getD k default))
  flow : ∀ E : List SEdge, E.Nodup → (∀ e ∈ E, 0 ≤ e.From ∧ e.From < (n : Int) ∧ 0 ≤ e.Port ∧ e ∉ upto g n) → (E.map fun e => (outAt outs e).length).sum ≤ n * B
  small : ∀ k, k < n → tot (outs.getD k default) ≤ 24 * B
theorem RIn.start {g : SGraph} {B : Nat} : RIn g B 0 [] := ⟨rfl, fun k hk => absurd hk (Nat.not_lt_zero _), fun E _ h => by
  cases E with
  | nil => simp
  | cons e E => have := h e (List.mem_cons_self ..); omega, fun k hk => absurd hk (Nat.not_lt_zero _)⟩
theorem upto_app (g : SGraph) (n : Nat) : ∃ r, upto g g.Ops.length = upto g n ++ r := by
  refine ⟨(g.Ops.drop n).flatMap (·.In), ?_⟩
  unfold upto
  rw [← List.flatMap_append, List.take_append_drop, List.take_length]
theorem upto_nodup {g : SGraph} (h : GOk g) (n : Nat) : (upto g n).Nodup := by
  obtain ⟨r, hr⟩ := upto_app g n
  have := h.nodup
  rw [hr] at this
  exact (List.nodup_append.1 this).1
theorem in_apart {g : SGraph} (h : GOk g) {n : Nat} (hn : n < g.Ops.length) : (g.Ops.getD n default).In.Nodup ∧ ∀ e ∈ (g.Ops.getD n default).In, e ∉ upto g n := by
  have := upto_nodup h (n + 1)
  rw [upto_succ g n hn] at this
  obtain ⟨h1, h2, h3⟩ := List.nodup_append.1 this
  exact ⟨h2, fun e he hu => h3 e hu e he rfl⟩
theorem RIn.into {g : SGraph} {B n : Nat} {outs : List (List (List SRecord))} (hg : GOk g) (h : RIn g B n outs) (hn : n < g.Ops.length) : tot ((g.Ops.getD n default).In.map (outAt outs)) ≤ n * B := by
  obtain ⟨h1, h2⟩ := in_apart hg hn
  rw [tot_map]
  refine h.flow _ h1 fun e he => ?_
  obtain ⟨g1, g2, g3, _⟩ := (hg.edges n hn).each e he
  exact ⟨g1, g2, g3, h2 e he⟩
theorem outAt_old {outs : List (List (List SRecord))} {ps : List (List SRecord)} {e : SEdge} (h0 : 0 ≤ e.From) (h : e.From < (outs.length : Int)) : outAt (outs ++ [ps]) e = outAt outs e := by
  unfold outAt
  congr 1
  simp only [List.getD_eq_getElem?_getD]
  rw [List.getElem?_append_left (by omega)]
theorem outAt_new {outs : List (List (List SRecord))} {ps : List (List SRecord)} {e : SEdge} (h : e.From = (outs.length : Int)) : outAt (outs ++ [ps]) e = List.getD ps (Int.toNat e.Port) default := by
  unfold outAt
  congr 1
  simp only [List.getD_eq_getElem?_getD, h, Int.toNat_natCast]
  rw [List.getElem?_append_right (Nat.le_refl _), Nat.sub_self]
  rfl
theorem RIn.step {g : SGraph} {B n : Nat} {outs : List (List (List SRecord))} (hg : GOk g) (h : RIn g B n outs) (hn : n < g.Ops.length) {ps : List (List SRecord)} (hl : ps.length = Int.toNat (graph_Ports (g.Ops.getD n default)))
    (ht : tot ps ≤ if (g.Ops.getD n default).Kind = 1 then B else tot ((g.Ops.getD n default).In.map (outAt outs))) : RIn g B (n + 1) (outs ++ [ps]) := by
  obtain ⟨h1, h2⟩ := in_apart hg hn
  refine ⟨by simp [h.len], fun k hk => ?_, fun E hE hm => ?_, fun k hk => ?_⟩
  · by_cases e : k = n
    · subst e
      rw [List.getD_eq_getElem?_getD, List.getElem?_append_right (by rw [h.len]; exact Nat.le_refl _), h.len, Nat.sub_self]
      exact hl
    · have hk' : k < n := by omega
      rw [List.getD_eq_getElem?_getD, List.getElem?_append_left (by rw [h.len]; exact hk'), ← List.getD_eq_getElem?_getD]
      exact h.each k hk'
  · rw [sum_filter _ (fun e => decide (e.From < (n : Int))) E]
    have hold : ∀ e ∈ E.filter (fun e => decide (e.From < (n : Int))), e ∈ E ∧ e.From < (n : Int) := fun e he => by simpa using List.mem_filter.1 he
    have hnew : ∀ e ∈ E.filter (fun e => !decide (e.From < (n : Int))), e ∈ E ∧ e.From = (n : Int) := fun e he => by
      obtain ⟨g1, g2⟩ := List.mem_filter.1 he
      have := hm e g1
      simp at g2
      exact ⟨g1, by omega⟩
    have s1 : ((E.filter (fun e => decide (e.From < (n : Int)))).map fun e => (outAt (outs ++ [ps]) e).length) = (E.filter (fun e => decide (e.From < (n : Int)))).map fun e => (outAt outs e).length := List.map_congr_left fun e he => by
      obtain ⟨g1, g2⟩ := hold e he
      rw [outAt_old (hm e g1).1 (by rw [h.len]; exact g2)]
    have s2 : ((E.filter (fun e => !decide (e.From < (n : Int)))).map fun e => (outAt (outs ++ [ps]) e).length) = ((E.filter (fun e => !decide (e.From < (n : Int)))).map fun e => e.Port.toNat).map fun i => (ps.getD i default).length := by
      rw [List.map_map]
      refine List.map_congr_left fun e he => ?_
      obtain ⟨g1, g2⟩ := hnew e he
      rw [outAt_new (by rw [h.len]; exact g2)]
      rfl
    rw [s1, s2]
    have b2 := sum_idx ((E.filter (fun e => !decide (e.From < (n : Int)))).map fun e => e.Port.toNat) ps (by
      have hf : (E.filter (fun e => !decide (e.From < (n : Int)))).Nodup := hE.filter _
      unfold List.Nodup
      rw [List.pairwise_map]
      refine List.Pairwise.imp_of_mem (fun {a b} ha hb hab hp => hab ?_) hf
      obtain ⟨a1, a2⟩ := hnew a ha
      obtain ⟨b1, b2⟩ := hnew b hb
      have ha3 := hm a a1
      have hb3 := hm b b1
      have e1 : a.From = b.From := by omega
      have e2 : a.Port = b.Port := by omega
      cases a; cases b; simp only at e1 e2; rw [e1, e2])
    have hup : ∀ e, e ∉ upto g (n + 1) → e ∉ upto g n ∧ e ∉ (g.Ops.getD n default).In := fun e he => by
      rw [upto_succ g n hn, List.mem_append, not_or] at he
      exact he
    by_cases hk : (g.Ops.getD n default).Kind = 1
    · rw [if_pos hk] at ht
      have b1 := h.flow (E.filter (fun e => decide (e.From < (n : Int)))) (hE.filter _) (fun e he => by
        obtain ⟨g1, g2⟩ := hold e he
        obtain ⟨q1, q2, q3, q4⟩ := hm e g1
        exact ⟨q1, g2, q3, (hup e q4).1⟩)
      rw [Nat.add_mul, Nat.one_mul]
      omega
    · rw [if_neg hk, tot_map] at ht
      have b1 := h.flow (E.filter (fun e => decide (e.From < (n : Int))) ++ (g.Ops.getD n default).In) (List.nodup_append.2 ⟨hE.filter _, h1, fun a ha b hb e => by
        obtain ⟨g1, g2⟩ := hold a ha
        exact (hup a (hm a g1).2.2.2).2 (e ▸ hb)⟩) (fun e he => by
        rcases List.mem_append.1 he with he | he
        · obtain ⟨g1, g2⟩ := hold e he
          obtain ⟨q1, q2, q3, q4⟩ := hm e g1
          exact ⟨q1, g2, q3, (hup e q4).1⟩
        · obtain ⟨q1, q2, q3, _⟩ := (hg.edges n hn).each e he
          exact ⟨q1, q2, q3, h2 e he⟩)
      rw [List.map_append, List.sum_append] at b1
      rw [Nat.add_mul, Nat.one_mul]
      omega
  · by_cases e : k = n
    · subst e
      rw [List.getD_eq_getElem?_getD, List.getElem?_append_right (by rw [h.len]; exact Nat.le_refl _), h.len, Nat.sub_self]
      show tot ps ≤ 24 * B
      have h3 := h.into hg hn
      have h4 : k * B ≤ 24 * B := Nat.mul_le_mul_right _ (by have := hg.len; omega)
      split at ht <;> omega
    · have hk' : k < n := by omega
      rw [List.getD_eq_getElem?_getD, List.getElem?_append_left (by rw [h.len]; exact hk'), ← List.getD_eq_getElem?_getD]
      exact h.small k hk'
theorem RIn.sizes {g : SGraph} {B n : Nat} {outs : List (List (List SRecord))} (h : RIn g B n outs) (hB : B ≤ 1048576) (k : Nat) : ∀ y ∈ List.getD outs k default, y.length ≤ 4294967296 := fun y hy => by
  by_cases hk : k < n
  · have h1 := h.small k hk
    obtain ⟨i, hi, rfl⟩ := List.mem_iff_getElem.1 hy
    have := tot_getD (List.getD outs k default) i
    rw [List.getD_eq_getElem?_getD (l := List.getD outs k default), List.getElem?_eq_getElem hi, Option.getD_some] at this
    omega
  · rw [List.getD_eq_getElem?_getD, List.getElem?_eq_none (by rw [h.len]; omega)] at hy
    cases hy
theorem RIn.edge {g : SGraph} {B n : Nat} {outs : List (List (List SRecord))} (hg : GOk g) (h : RIn g B n outs) (hn : n < g.Ops.length) {e : SEdge} (he : e ∈ (g.Ops.getD n default).In) :
    0 ≤ e.From ∧ e.From < (n : Int) ∧ 0 ≤ e.Port ∧ e.Port.toNat < (List.getD outs e.From.toNat default).length := by
  obtain ⟨g1, g2, g3, g4⟩ := (hg.edges n hn).each e he
  have := h.each e.From.toNat (by omega)
  refine ⟨g1, g2, g3, ?_⟩
  rw [this]
  omega
end Go.Ab.Try
