/-
  The check of a drawn region by bit sets: quick where regions are long.
-/
import Derived.Test.YtipiagjhijnmhaaA10
set_option linter.unusedVariables false
set_option linter.unusedSimpArgs false
namespace Go.Ab
open Go

def maskL (all : Array Oper) : Nat → List Nat
  | 0 => []
  | n + 1 => let l := maskL all n; l ++ [match all[n]? with | some o => (direct o).foldl (fun m d => (m ||| (1 <<< d)) ||| l.getD d 0) 0 | none => 0]
def chkPairM (all : Array Oper) (anc : List Nat) (l : List Rc) (p q : Nat) : Bool :=
  match all[p]?, all[q]?, l[p]?, l[q]? with
  | some op, some oq, some rp, some rq => (!confl all op oq rp rq || (anc.getD q 0).testBit p) && (match op.dst with | some d => oq.dst != some d | none => true)
  | _, _, _, _ => false
def chkM (all : Array Oper) (l : List Rc) : Bool :=
  let anc := maskL all all.size
  (List.range all.size).all fun q => chk1 all l q && (List.range q).all fun p => chkPairM all anc l p q

theorem fold_bit (l : List Nat) (p : Nat) : ∀ (ds : List Nat) (m : Nat), (ds.foldl (fun m d => (m ||| (1 <<< d)) ||| l.getD d 0) m).testBit p = true → m.testBit p = true ∨ ∃ d ∈ ds, p = d ∨ (l.getD d 0).testBit p = true
  | [], m, h => .inl h
  | d :: ds, m, h => by
    rcases fold_bit l p ds _ h with h | ⟨d', h1, h2⟩
    · simp only [Nat.testBit_or, Bool.or_eq_true] at h
      rcases h with (h | h) | h
      · exact .inl h
      · refine .inr ⟨d, List.mem_cons_self, .inl ?_⟩
        rw [Nat.one_shiftLeft, Nat.testBit_two_pow] at h
        exact (of_decide_eq_true h).symm
      · exact .inr ⟨d, List.mem_cons_self, .inr h⟩
    · exact .inr ⟨d', List.mem_cons_of_mem _ h1, h2⟩

theorem maskL_ok (all : Array Oper) : ∀ n, (maskL all n).length = n ∧ (ancL all n).length = n ∧ ∀ q p, ((maskL all n).getD q 0).testBit p = true → p ∈ (ancL all n).getD q []
  | 0 => ⟨rfl, rfl, fun q p h => by simp [maskL] at h⟩
  | n + 1 => by
    obtain ⟨h1, h2, h3⟩ := maskL_ok all n
    refine ⟨by simp [maskL, h1], by simp [ancL, h2], fun q p h => ?_⟩
    simp only [maskL, ancL, List.getD_eq_getElem?_getD] at h ⊢
    by_cases hq : q < n
    · rw [List.getElem?_append_left (by omega)] at h ⊢
      have := h3 q p (by rw [List.getD_eq_getElem?_getD]; exact h)
      rwa [List.getD_eq_getElem?_getD] at this
    · by_cases he : q = n
      · subst he
        rw [List.getElem?_append_right (by omega)] at h ⊢
        rw [h1, Nat.sub_self] at h
        rw [h2, Nat.sub_self]
        cases hall : all[q]? with
        | none => rw [hall] at h; simp at h
        | some o =>
          rw [hall] at h
          simp only [List.getElem?_cons_zero, Option.getD_some] at h ⊢
          rcases fold_bit _ p _ _ (by simpa only [List.getD_eq_getElem?_getD] using h) with h | ⟨d, g1, g2⟩
          · simp at h
          · rcases g2 with rfl | g2
            · exact List.mem_append_left _ g1
            · refine List.mem_append_right _ (List.mem_flatMap.2 ⟨d, g1, ?_⟩)
              have := h3 d p g2
              rwa [List.getD_eq_getElem?_getD] at this
      · rw [List.getElem?_eq_none (by simp [h1]; omega)] at h
        simp at h

/-- THE CHECK, by bit sets. -/
theorem chkD_of {all : Array Oper} {l : List Rc} (h : chkM all l = true) : chkD all l = true := by
  simp only [chkM, chkD, List.all_eq_true, Bool.and_eq_true] at h ⊢
  refine fun q hq => ⟨(h q hq).1, fun p hp => ?_⟩
  have := (h q hq).2 p hp
  unfold chkPairM at this
  unfold chkPair
  split at this
  · rename_i op oq rp rq e1 e2 e3 e4
    simp only [e1, e2, e3, e4, Bool.and_eq_true, Bool.or_eq_true] at this ⊢
    refine ⟨?_, this.2⟩
    rcases this.1 with h | h
    · exact .inl h
    · refine .inr ?_
      have := (maskL_ok all all.size).2.2 q p h
      simpa using this
  · cases this
end Go.Ab
