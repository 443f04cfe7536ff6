/-
  An operator keeps what it may keep: the plain law.
-/
import Derived.Test.YtipiagjhijnmhaaO0
import Derived.Test.YtipiagjhijnmhaaLA
import Derived.Test.YtipiagjhijnmhaaO5
set_option linter.unusedVariables false
set_option linter.unusedSimpArgs false
namespace Go.Ab.Try
open Go Go.Proofs Go.Ab

def KOk (o : SOp) (k : SKeyState) : Prop := 1 ≤ k.Count ∧ k.Count ≤ 9007199254740992 ∧ (o.Kind = 6 → k.Count < o.Arg)
def KSorted (l : List SKeyState) : Prop := l.Pairwise fun a b => a.Key < b.Key
def most (o : SOp) : Int := bif o.Kind == 8 then (if ((o.In.length : Nat) : Int) - 1 > 0 then ((o.In.length : Nat) : Int) - 1 else 0) else 0
/-- What an operator may keep. -/
structure Keeps (o : SOp) (s : SOpState) : Prop where
  turn : 0 ≤ s.Turn ∧ s.Turn ≤ most o
  none : oper_keeps o = false → s.Keys = []
  sorted : KSorted s.Keys
  each : ∀ k ∈ s.Keys, KOk o k

theorem most_nonneg (o : SOp) : 0 ≤ most o := by
  unfold most
  cases o.Kind == 8 with
  | false => simp
  | true => simp only [cond_true]; split <;> omega

theorem check_L0 (o : SOp) (s : SOpState) (i : Nat) : oper_Check_L0 o s i = Sum.inr () ↔ ∀ j, i ≤ j → j < s.Keys.length →
    ((0 < j → (s.Keys.getD (j - 1) default).Key < (s.Keys.getD j default).Key) ∧ KOk o (s.Keys.getD j default)) := by
  rw [oper_Check_L0.eq_def]
  split
  · rename_i h
    have hlt : i < s.Keys.length := by simpa using h
    have hi : (Int.toNat (((i : Nat) : Int) - 1)) = i - 1 := by omega
    rw [hi]
    split
    · rename_i h2
      constructor
      · intro h; cases h
      · intro h9
        obtain ⟨g1, g2, g3, g4⟩ := h9 i (Nat.le_refl _) hlt
        exfalso
        simp only [Bool.or_eq_true, Bool.and_eq_true, decide_eq_true_eq, beq_iff_eq] at h2
        rcases h2 with ((⟨h2, h3⟩ | h2) | h2) | ⟨h2, h3⟩
        · have := g1 (by omega); omega
        · omega
        · omega
        · have := g4 h2; omega
    · rename_i h2
      have ih := check_L0 o s (i + 1)
      rw [ih]
      simp only [Bool.or_eq_true, Bool.and_eq_true, decide_eq_true_eq, beq_iff_eq, not_or, not_and] at h2
      obtain ⟨⟨⟨h3, h4⟩, h5⟩, h6⟩ := h2
      constructor
      · intro h7 j hj hjl
        by_cases e : j = i
        · subst e
          exact ⟨fun h0 => by have := h3 (by omega); omega, by omega, by omega, fun hk => by have := h6 hk; omega⟩
        · exact h7 j (by omega) hjl
      · intro h7 j hj hjl
        exact h7 j (by omega) hjl
  · rename_i h
    have hlt : ¬ i < s.Keys.length := by simpa using h
    constructor
    · intro _ j hj hjl; omega
    · intro _; rfl
termination_by s.Keys.length - i

theorem sorted_adj {l : List SKeyState} (h : ∀ j, j < l.length → 0 < j → (l.getD (j - 1) default).Key < (l.getD j default).Key) : KSorted l := by
  have key : ∀ d i, i + d + 1 < l.length → (l.getD i default).Key < (l.getD (i + d + 1) default).Key := by
    intro d
    induction d with
    | zero => intro i hi; have := h (i + 1) (by omega) (by omega); simpa using this
    | succ d ih =>
      intro i hi
      have h1 := ih i (by omega)
      have h2 := h (i + (d + 1) + 1) hi (by omega)
      have e : i + (d + 1) + 1 - 1 = i + d + 1 := by omega
      rw [e] at h2
      omega
  unfold KSorted
  rw [List.pairwise_iff_getElem]
  intro i j hi hj hij
  have := key (j - i - 1) i (by omega)
  have e : i + (j - i - 1) + 1 = j := by omega
  rw [e] at this
  simpa [List.getD_eq_getElem?_getD, List.getElem?_eq_getElem hi, List.getElem?_eq_getElem hj] using this

theorem check_iff (o : SOp) (s : SOpState) : oper_Check o s = 0 ↔ Keeps o s := by
  have hgen : ∀ (x : Sum Int Unit), (Sum.elim (fun q => q) (fun _ => (0 : Int)) x = 0 ∧ (∀ v, x = Sum.inl v → v ≠ 0)) ↔ x = Sum.inr () := by
    intro x
    cases x with
    | inl v => simp
    | inr u => simp
  have hinl : ∀ i v, oper_Check_L0 o s i = Sum.inl v → v = 70 := by
    intro i
    induction hn : s.Keys.length - i using Nat.strongRecOn generalizing i with
    | _ n ih =>
      intro v h
      rw [oper_Check_L0.eq_def] at h
      split at h
      · rename_i hlt
        have hlt : i < s.Keys.length := by simpa using hlt
        split at h
        · cases h; rfl
        · exact ih _ (by omega) (i + 1) rfl v h
      · cases h
  have e : oper_Check o s = (bif (((decide (s.Turn < 0)) || (decide (s.Turn > most o))) || ((!(oper_keeps o)) && (decide (((s.Keys.length : Nat) : Int) > 0)))) then 70 else Sum.elim (fun q => q) (fun _ => 0) (oper_Check_L0 o s 0)) := rfl
  rw [e]
  cases hb : (((decide (s.Turn < 0)) || (decide (s.Turn > most o))) || ((!(oper_keeps o)) && (decide (((s.Keys.length : Nat) : Int) > 0)))) with
  | true =>
    simp only [cond_true]
    constructor
    · intro h; cases h
    · intro h
      exfalso
      simp only [Bool.or_eq_true, Bool.and_eq_true, decide_eq_true_eq, Bool.not_eq_true'] at hb
      rcases hb with (hb | hb) | ⟨hb, hb2⟩
      · have := h.turn; omega
      · have := h.turn; omega
      · have := h.none hb
        rw [this] at hb2
        simp at hb2
  | false =>
    simp only [cond_false]
    simp only [Bool.or_eq_false_iff, Bool.and_eq_false_iff, decide_eq_false_iff_not, Bool.not_eq_false'] at hb
    obtain ⟨⟨h1, h2⟩, h3⟩ := hb
    have hz : (Sum.elim (fun q => q) (fun _ => (0 : Int)) (oper_Check_L0 o s 0) = 0) ↔ oper_Check_L0 o s 0 = Sum.inr () := by
      rw [← hgen]
      constructor
      · intro h
        refine ⟨h, fun v hv => ?_⟩
        rw [hinl 0 v hv]
        decide
      · exact fun h => h.1
    rw [hz, check_L0]
    constructor
    · intro h
      refine ⟨by omega, fun hk => ?_, sorted_adj fun j hj h0 => (h j (Nat.zero_le _) hj).1 h0, fun k hk => ?_⟩
      · rcases h3 with h3 | h3
        · rw [h3] at hk; cases hk
        · have : s.Keys.length = 0 := by omega
          exact List.length_eq_zero_iff.1 this
      · obtain ⟨i, hi, rfl⟩ := List.getElem_of_mem hk
        have := (h i (Nat.zero_le _) hi).2
        simpa [List.getD_eq_getElem?_getD, List.getElem?_eq_getElem hi] using this
    · intro h j _ hj
      have hm : s.Keys.getD j default ∈ s.Keys := by
        simp only [List.getD_eq_getElem?_getD, List.getElem?_eq_getElem hj, Option.getD_some]
        exact List.getElem_mem hj
      refine ⟨fun h0 => ?_, h.each _ hm⟩
      have hs := h.sorted
      unfold KSorted at hs
      rw [List.pairwise_iff_getElem] at hs
      have := hs (j - 1) j (by omega) hj (by omega)
      simpa [List.getD_eq_getElem?_getD, List.getElem?_eq_getElem hj, List.getElem?_eq_getElem (show j - 1 < s.Keys.length by omega)] using this

theorem pos_take (q : Int) : ∀ (l : List SKeyState), ∀ x ∈ l.take (pos l q), x.Key ≤ q
  | [], x, h => by simp at h
  | k :: r, x, h => by
    simp only [pos] at h
    cases e : decide (k.Key ≤ q) with
    | false => rw [e] at h; simp at h
    | true =>
      rw [e] at h
      simp only [cond_true, List.take_succ_cons, List.mem_cons] at h
      rcases h with rfl | h
      · exact of_decide_eq_true e
      · exact pos_take q r x h
theorem pos_drop (q : Int) : ∀ (l : List SKeyState), KSorted l → ∀ x ∈ l.drop (pos l q), q < x.Key
  | [], _, x, h => by simp at h
  | k :: r, hs, x, h => by
    unfold KSorted at hs
    rw [List.pairwise_cons] at hs
    simp only [pos] at h
    cases e : decide (k.Key ≤ q) with
    | false =>
      rw [e] at h
      simp only [cond_false, List.drop_zero, List.mem_cons] at h
      have := of_decide_eq_false e
      rcases h with rfl | h
      · omega
      · have := hs.1 x h; omega
    | true =>
      rw [e] at h
      simp only [cond_true, List.drop_succ_cons] at h
      exact pos_drop q r hs.2 x h

theorem foldK_ok (o : SOp) (k : SKeyState) (v : Int) (h : k.Count = 0 ∨ KOk o k) (hf : fullK o (foldK o k v) = false) : KOk o (foldK o k v) := by
  have hc : (foldK o k v).Count = bif decide (k.Count < 9007199254740992) then IntKind.i64.wrap (k.Count + 1) else k.Count := rfl
  have h6 : o.Kind = 6 → (foldK o k v).Count < o.Arg := fun hk => by
    simp only [fullK, hk, beq_self_eq_true, Bool.true_and, decide_eq_false_iff_not] at hf
    omega
  refine ⟨?_, ?_, h6⟩
  · rw [hc]
    cases e : decide (k.Count < 9007199254740992) with
    | true =>
      have := of_decide_eq_true e
      simp only [cond_true]
      rw [IntKind.wrap_i64]
      rcases h with h | ⟨h, _⟩ <;> omega
    | false =>
      have := of_decide_eq_false e
      simp only [cond_false]
      omega
  · rw [hc]
    cases e : decide (k.Count < 9007199254740992) with
    | true =>
      have := of_decide_eq_true e
      simp only [cond_true]
      rw [IntKind.wrap_i64]
      rcases h with h | ⟨h, _⟩ <;> omega
    | false =>
      simp only [cond_false]
      have := of_decide_eq_false e
      rcases h with h | ⟨_, h, _⟩ <;> omega

theorem fold_keeps (o : SOp) (s : SOpState) (r : SRecord) (hk : o.Kind = 5 ∨ o.Kind = 6) (h : Keeps o s) : Keeps o (oper_fold o s r).1 := by
  have hkeeps : oper_keeps o = true := by
    unfold oper_keeps
    rcases hk with hk | hk <;> simp [hk]
  have ht : (oper_fold o s r).1.Turn = s.Turn := rfl
  have hs := h.sorted
  unfold KSorted at hs
  refine ⟨by rw [ht]; exact h.turn, (by rw [hkeeps]; intro h; cases h), ?_, ?_⟩
  · unfold KSorted
    cases hF : (fnd s.Keys r.Key).2 with
    | true =>
      rcases fold_shape o s r with ⟨pre, k, post, h1, h2, _, _, h5⟩ | ⟨_, _, _, _, h3, _⟩
      · rw [h5]
        rw [h1] at hs
        rw [List.pairwise_append, List.pairwise_cons] at hs
        cases fullK o (foldK o k r.Val) with
        | true =>
          simp only [cond_true, List.append_nil]
          rw [List.pairwise_append]
          exact ⟨hs.1, hs.2.1.2, fun a ha b hb => hs.2.2 a ha b (List.mem_cons_of_mem _ hb)⟩
        | false =>
          simp only [cond_false, List.append_assoc, List.singleton_append]
          rw [List.pairwise_append, List.pairwise_cons]
          refine ⟨hs.1, ⟨fun b hb => by rw [foldK_key]; exact hs.2.1.1 b hb, hs.2.1.2⟩, fun a ha b hb => ?_⟩
          cases hb with
          | head => rw [foldK_key]; exact hs.2.2 a ha k List.mem_cons_self
          | tail _ hb => exact hs.2.2 a ha b (List.mem_cons_of_mem _ hb)
      · rw [hF] at h3; cases h3
    | false =>
      have hn := fnd_false r.Key s.Keys hF
      have hkk : keyK s.Keys r.Key = ⟨r.Key, 0, 0⟩ := by simp only [keyK, hF, cond_false]
      simp only [oper_fold, hF, cond_false, hkk]
      cases fullK o (foldK o ⟨r.Key, 0, 0⟩ r.Val) with
      | true => simp only [cond_true]; exact hs
      | false =>
        simp only [cond_false, insK]
        have h1 := pos_take r.Key s.Keys
        have h2 := pos_drop r.Key s.Keys h.sorted
        rw [← List.take_append_drop (pos s.Keys r.Key) s.Keys] at hs
        rw [List.pairwise_append] at hs
        rw [List.pairwise_append, List.pairwise_cons]
        refine ⟨hs.1, ⟨fun b hb => h2 b hb, hs.2.1⟩, fun a ha b hb => ?_⟩
        have hlt : a.Key < r.Key := by
          have := h1 a ha
          have := hn a (List.mem_of_mem_take ha)
          omega
        cases hb with
        | head => exact hlt
        | tail _ hb => exact hs.2.2 a ha b hb
  · rcases fold_shape o s r with ⟨pre, k, post, h1, h2, _, _, h5⟩ | ⟨pre, post, h1, h2, _, _, h5⟩
    · rw [h5]
      have he := h.each
      rw [h1] at he
      intro x hx
      simp only [List.mem_append] at hx
      rcases hx with (hx | hx) | hx
      · exact he x (by simp [hx])
      · cases hf : fullK o (foldK o k r.Val) with
        | true => rw [hf] at hx; simp at hx
        | false =>
          rw [hf] at hx
          simp only [cond_false, List.mem_singleton] at hx
          subst hx
          exact foldK_ok o k r.Val (.inr (he k (by simp))) hf
      · exact he x (by simp [hx])
    · rw [h5]
      have he := h.each
      rw [h1] at he
      intro x hx
      simp only [List.mem_append] at hx
      rcases hx with (hx | hx) | hx
      · exact he x (by simp [hx])
      · cases hf : fullK o (foldK o ⟨r.Key, 0, 0⟩ r.Val) with
        | true => rw [hf] at hx; simp at hx
        | false =>
          rw [hf] at hx
          simp only [cond_false, List.mem_singleton] at hx
          subst hx
          exact foldK_ok o _ r.Val (.inl rfl) hf
      · exact he x (by simp [hx])

theorem rest_range (x by_ : Int) (h : 1 ≤ by_) (h2 : by_ ≤ 4) : 0 ≤ oper_rest x by_ ∧ oper_rest x by_ < by_ := by
  have h0 : decide (by_ < 1) = false := by simp; omega
  have hm := Int.tmod_lt_of_pos x (show 0 < by_ by omega)
  have hm2 : -by_ < Int.tmod x by_ := by
    have := Int.lt_tmod_of_pos x (show 0 < by_ by omega)
    omega
  simp only [oper_rest, h0, cond_false, letIn]
  cases e : decide (Int.tmod x by_ < 0) with
  | true =>
    have := of_decide_eq_true e
    simp only [cond_true]
    rw [IntKind.wrap_i64]
    omega
  | false =>
    have := of_decide_eq_false e
    simp only [cond_false]
    omega

/-- What an operator that may be does with a record: it keeps what it may, and what goes out goes to a port that it has. -/
theorem step_keeps (o : SOp) (parts : Int) (hk1 : 1 ≤ o.Kind) (hk2 : o.Kind ≤ 9) (hf : pontoonref05_fields o parts = true) (s : SOpState) (r : SRecord) (h : Keeps o s) (hl : s.Keys.length ≤ 4294967296) :
    Keeps o (oper_Step o s r).1 ∧ ((o.Kind = 9 → (oper_Step o s r).2 = []) ∧ ∀ p ∈ (oper_Step o s r).2, 0 ≤ p.Port ∧ p.Port < pontoonref05_Ports o) := by
  have hP : o.Kind ≠ 7 → o.Kind ≠ 9 → pontoonref05_Ports o = 1 := fun h7 h9 => by
    simp only [pontoonref05_Ports, beq_eq_false_iff_ne.2 h7, beq_eq_false_iff_ne.2 h9, Bool.false_and, cond_false, Bool.false_or]
    have a1 : decide (o.Kind < 1) = false := by simp; omega
    have a2 : decide (o.Kind > 9) = false := by simp; omega
    rw [a1, a2]
    rfl
  have hone : ∀ (x : SRecord), o.Kind ≠ 7 → o.Kind ≠ 9 → ∀ p ∈ [SPut.mk 0 x], 0 ≤ p.Port ∧ p.Port < pontoonref05_Ports o := fun x h7 h9 p hp => by
    rw [List.mem_singleton.1 hp, hP h7 h9]
    exact ⟨by show (0 : Int) ≤ 0; omega, by show (0 : Int) < 1; omega⟩
  have hcase : o.Kind = 1 ∨ o.Kind = 2 ∨ o.Kind = 3 ∨ o.Kind = 4 ∨ o.Kind = 5 ∨ o.Kind = 6 ∨ o.Kind = 7 ∨ o.Kind = 8 ∨ o.Kind = 9 := by omega
  have hnil : ∀ p ∈ ([] : List SPut), 0 ≤ p.Port ∧ p.Port < pontoonref05_Ports o := fun p hp => by cases hp
  rcases hcase with k | k | k | k | k | k | k | k | k
  · have e : oper_Step o s r = (s, [⟨0, r⟩]) := by simp [oper_Step, k, letIn, clone_id]
    rw [e]
    exact ⟨h, by omega, hone r (by omega) (by omega)⟩
  · have e : oper_Step o s r = (s, [⟨0, oper_Value o r⟩]) := by simp [oper_Step, k, letIn, clone_id]
    rw [e]
    exact ⟨h, by omega, hone _ (by omega) (by omega)⟩
  · have e : oper_Step o s r = (s, bif !(oper_Holds o r) then [] else [⟨0, r⟩]) := by
      simp only [oper_Step, k, letIn, clone_id]
      cases oper_Holds o r <;> rfl
    rw [e]
    refine ⟨h, by omega, ?_⟩
    cases oper_Holds o r
    · exact hnil
    · exact hone r (by omega) (by omega)
  · have e : oper_Step o s r = (s, [⟨0, oper_Value o r⟩]) := by simp [oper_Step, k, letIn, clone_id]
    rw [e]
    exact ⟨h, by omega, hone _ (by omega) (by omega)⟩
  · rw [step_fold o s r (.inl k)]
    refine ⟨fold_keeps o s r (.inl k) h, by omega, ?_⟩
    intro p hp
    simp only [oper_fold] at hp
    cases hb : ((o.Kind == 6) && !fullK o (foldK o (keyK s.Keys r.Key) r.Val)) with
    | true => rw [hb] at hp; cases hp
    | false => rw [hb] at hp; exact hone _ (by omega) (by omega) p hp
  · rw [step_fold o s r (.inr k)]
    refine ⟨fold_keeps o s r (.inr k) h, by omega, ?_⟩
    intro p hp
    simp only [oper_fold] at hp
    cases hb : ((o.Kind == 6) && !fullK o (foldK o (keyK s.Keys r.Key) r.Val)) with
    | true => rw [hb] at hp; cases hp
    | false => rw [hb] at hp; exact hone _ (by omega) (by omega) p hp
  · have e : oper_Step o s r = (s, [⟨oper_rest r.Key o.Arg, r⟩]) := by simp [oper_Step, k, letIn, clone_id]
    rw [e]
    refine ⟨h, by omega, fun p hp => ?_⟩
    have ha : 2 ≤ o.Arg ∧ o.Arg ≤ 4 := by
      simp only [pontoonref05_fields, k] at hf
      simp at hf
      omega
    have hp7 : pontoonref05_Ports o = o.Arg := by
      simp only [pontoonref05_Ports, k]
      have a1 : decide (o.Arg ≥ 2) = true := by simp; omega
      have a2 : decide (o.Arg ≤ 4) = true := by simp; omega
      rw [a1, a2]
      rfl
    rw [List.mem_singleton.1 hp, hp7]
    exact rest_range r.Key o.Arg (by omega) (by omega)
  · have e : oper_Step o s r = (s, [⟨0, r⟩]) := by simp [oper_Step, k, letIn, clone_id]
    rw [e]
    exact ⟨h, by omega, hone r (by omega) (by omega)⟩
  · have e : oper_Step o s r = (s, []) := by simp [oper_Step, k, letIn, clone_id]
    rw [e]
    exact ⟨h, fun _ => rfl, hnil⟩

theorem ref_check_L0 (g : SGraph) (i : Nat) (h : pontoonref05_Check_L0 g i = Sum.inr ()) : ∀ j, i ≤ j → j < g.Ops.length →
    1 ≤ (g.Ops.getD j default).Kind ∧ (g.Ops.getD j default).Kind ≤ 9 ∧ pontoonref05_fields (g.Ops.getD j default) g.Parts = true := by
  rw [pontoonref05_Check_L0.eq_def] at h
  split at h
  · rename_i hlt
    have hlt : i < g.Ops.length := by simpa using hlt
    simp only [letIn] at h
    split at h
    · cases h
    · rename_i h1
      split at h
      · cases h
      · rename_i h2
        split at h
        · cases h
        · have h3 : ∃ u, pontoonref05_Check_L1 g i 0 = Sum.inr u := by
            cases hx : pontoonref05_Check_L1 g i 0 with
            | inl v => rw [hx] at h; cases h
            | inr u => exact ⟨u, rfl⟩
          obtain ⟨u, hu⟩ := h3
          rw [hu] at h
          have ih := ref_check_L0 g (i + 1) h
          intro j hj hjl
          by_cases e : j = i
          · subst e
            simp only [Bool.or_eq_true, decide_eq_true_eq, not_or] at h1
            simp only [Bool.not_eq_true', Bool.not_eq_false] at h2
            exact ⟨by omega, by omega, h2⟩
          · exact ih j (by omega) hjl
  · rename_i hlt
    have hlt : ¬ i < g.Ops.length := by simpa using hlt
    intro j hj hjl
    omega
termination_by g.Ops.length - i

theorem ref_check_ok (g : SGraph) (h : (pontoonref05_Check g).2 = 0) : pontoonref05_Check_L0 g 0 = Sum.inr () := by
  simp only [pontoonref05_Check, letIn] at h
  cases h1 : ((decide (g.Parts < 1)) || (decide (g.Parts > 4))) with
  | true => rw [h1] at h; simp at h
  | false =>
    rw [h1] at h
    simp only [cond_false] at h
    cases h2 : decide (((g.Ops.length : Nat) : Int) > 24) with
    | true => rw [h2] at h; simp at h
    | false =>
      rw [h2] at h
      simp only [cond_false] at h
      have hne : ∀ i v, pontoonref05_Check_L0 g i = Sum.inl v → v.2 ≠ 0 := by
        have hL1 : ∀ i k v, pontoonref05_Check_L1 g i k = Sum.inl v → v.2 = 53 := by
          intro i k
          induction hn : (g.Ops.getD i default).In.length - k using Nat.strongRecOn generalizing k with
          | _ n ih =>
            intro v h
            rw [pontoonref05_Check_L1.eq_def] at h
            split at h
            · rename_i hlt
              have hlt : k < (g.Ops.getD i default).In.length := by simpa using hlt
              split at h
              · cases h; rfl
              · exact ih _ (by omega) (k + 1) rfl v h
            · cases h
        intro i
        induction hn : g.Ops.length - i using Nat.strongRecOn generalizing i with
        | _ n ih =>
          intro v h
          rw [pontoonref05_Check_L0.eq_def] at h
          split at h
          · rename_i hlt
            have hlt : i < g.Ops.length := by simpa using hlt
            simp only [letIn] at h
            split at h
            · cases h; exact (by decide : (50 : Int) ≠ 0)
            · split at h
              · cases h; exact (by decide : (51 : Int) ≠ 0)
              · split at h
                · cases h; exact (by decide : (52 : Int) ≠ 0)
                · cases hx : pontoonref05_Check_L1 g i 0 with
                  | inl w => rw [hx] at h; cases h; rw [hL1 i 0 _ hx]; decide
                  | inr u => rw [hx] at h; exact ih _ (by omega) (i + 1) rfl v h
          · cases h
      cases hx : pontoonref05_Check_L0 g 0 with
      | inl v => rw [hx] at h; exact absurd h (hne 0 v hx)
      | inr u => rfl

theorem stays_L2 (g : SGraph) (i : Nat) (r : SOpState × List SPut) (k : Nat) (h : ∀ p ∈ r.2, 0 ≤ p.Port ∧ p.Port < pontoonref05_Ports (g.Ops.getD i default)) : pontoonlaw07_OperStays_L2 g i r k = Sum.inr () := by
  rw [pontoonlaw07_OperStays_L2.eq_def]
  split
  · rename_i hlt
    have hlt : k < r.2.length := by simpa using hlt
    have hm : r.2.getD k default ∈ r.2 := by
      simp only [List.getD_eq_getElem?_getD, List.getElem?_eq_getElem hlt, Option.getD_some]
      exact List.getElem_mem hlt
    have := h _ hm
    split
    · rename_i h2
      simp only [Bool.or_eq_true, decide_eq_true_eq] at h2
      omega
    · exact stays_L2 g i r (k + 1) h
  · rfl
termination_by r.2.length - k

theorem stays_L1 (g : SGraph) (l : List SRecord) (i : Nat) (hk1 : 1 ≤ (g.Ops.getD i default).Kind) (hk2 : (g.Ops.getD i default).Kind ≤ 9) (hf : pontoonref05_fields (g.Ops.getD i default) g.Parts = true) (k : Nat) (ks : List SKeyState) (t : Int)
    (h : Keeps (g.Ops.getD i default) ⟨ks, t⟩) (hl : ks.length + (l.length - k) ≤ 4294967296) : pontoonlaw07_OperStays_L1 g l i k ks t = Sum.inr () := by
  rw [pontoonlaw07_OperStays_L1.eq_def]
  split
  · rename_i hlt
    have hlt : k < l.length := by simpa using hlt
    obtain ⟨h1, _, h2⟩ := step_keeps _ g.Parts hk1 hk2 hf ⟨ks, t⟩ (l.getD k default) h (by simp only; omega)
    have hsz := (oper_Step_sz (g.Ops.getD i default) ⟨ks, t⟩ (l.getD k default)).1
    have hc := (check_iff _ _).2 h1
    simp only [letIn]
    rw [hc]
    simp only [bne_self_eq_false, Bool.false_eq_true, if_false, dite_false]
    rw [stays_L2 g i _ 0 h2]
    simp only [Sum.elim_inr]
    exact stays_L1 g l i hk1 hk2 hf (k + 1) _ _ h1 (by simp only at hsz; omega)
  · rfl
termination_by l.length - k

theorem keeps_empty (o : SOp) : Keeps o ⟨[], 0⟩ := ⟨⟨Int.le_refl _, most_nonneg o⟩, fun _ => rfl, List.Pairwise.nil, fun k hk => by cases hk⟩

theorem stays_L0 (g : SGraph) (l : List SRecord) (s : SOpState) (h : pontoonref05_Check_L0 g 0 = Sum.inr ()) (hl : s.Keys.length + l.length ≤ 4294967296) (i : Nat) : pontoonlaw07_OperStays_L0 g l s i = Sum.inr () := by
  rw [pontoonlaw07_OperStays_L0.eq_def]
  split
  · rename_i hlt
    have hlt : i < g.Ops.length := by simpa using hlt
    obtain ⟨h1, h2, h3⟩ := ref_check_L0 g 0 h i (Nat.zero_le _) hlt
    have hL : pontoonlaw07_OperStays_L1 g l i 0 (if ((oper_Check (g.Ops.getD i default) s) == 0) = true then (s.Keys, s.Turn) else ([], 0)).1 (if ((oper_Check (g.Ops.getD i default) s) == 0) = true then (s.Keys, s.Turn) else ([], 0)).2 = Sum.inr () := by
      cases hc : (oper_Check (g.Ops.getD i default) s == 0) with
      | true =>
        simp only [if_true]
        exact stays_L1 g l i h1 h2 h3 0 _ _ ((check_iff _ s).1 (eq_of_beq hc)) (by omega)
      | false =>
        simp only [Bool.false_eq_true, if_false]
        exact stays_L1 g l i h1 h2 h3 0 _ _ (keeps_empty _) (by simp only [List.length_nil]; omega)
    have e : (letIn (letIn (if h44 : ((oper_Check (g.Ops.getD i default) s) == 0) = true then (s.Keys, s.Turn) else ([], 0)) fun o43 => pontoonlaw07_OperStays_L1 g l i 0 o43.1 o43.2) fun o42s => Sum.elim (fun q => Sum.inl q) (fun _ => pontoonlaw07_OperStays_L0 g l s (i + 1)) o42s) =
        Sum.elim (fun q => Sum.inl q) (fun _ => pontoonlaw07_OperStays_L0 g l s (i + 1)) (pontoonlaw07_OperStays_L1 g l i 0 (if ((oper_Check (g.Ops.getD i default) s) == 0) = true then (s.Keys, s.Turn) else ([], 0)).1 (if ((oper_Check (g.Ops.getD i default) s) == 0) = true then (s.Keys, s.Turn) else ([], 0)).2) := rfl
    rw [e, hL]
    exact stays_L0 g l s h hl (i + 1)
  · rfl
termination_by g.Ops.length - i

theorem law_OperStays (a0 : SGraph) (a1 : List SRecord) (a2 : SOpState) (hl : a2.Keys.length + a1.length ≤ 4294967296) : pontoonlaw07_OperStays a0 a1 a2 = true := by
  simp only [pontoonlaw07_OperStays, live_true, Bool.not_true, cond_false, letIn]
  cases hc : ((pontoonref05_Check a0).2 != 0) with
  | true => rfl
  | false =>
    have h0 : (pontoonref05_Check a0).2 = 0 := by simpa using hc
    rw [stays_L0 a0 a1 a2 (ref_check_ok a0 h0) hl 0]
    rfl
end Go.Ab.Try
