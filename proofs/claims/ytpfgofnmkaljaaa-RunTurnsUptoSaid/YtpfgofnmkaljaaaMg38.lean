/-
  Taking in turn: what holds at each turn (plain).
-/
import Derived.Test.YtpfgofnmkaljaaaMg36
set_option linter.unusedVariables false
set_option linter.unusedSimpArgs false
namespace Go.Ab.Try
open Go Go.Proofs Go.Ab
def tot (ls : List (List SRecord)) : Nat := (ls.map List.length).sum
structure TIn (ls : List (List SRecord)) (turn : Int) (taken : List Int) (out : List SRecord) : Prop where
  lo : 0 ≤ turn
  hi : turn < ls.length
  len : taken.length = ls.length
  each : ∀ i, i < ls.length → 0 ≤ taken.getD i default ∧ taken.getD i default ≤ ((ls.getD i default).length : Int)
  sum : (out.length : Int) = taken.sum
theorem sum_tot : ∀ (ls : List (List SRecord)) (t : List Int), t.length = ls.length → (∀ i, i < ls.length → 0 ≤ t.getD i default ∧ t.getD i default ≤ ((ls.getD i default).length : Int)) →
    0 ≤ t.sum ∧ t.sum ≤ tot ls ∧ ∀ i, i < ls.length → t.getD i default < ((ls.getD i default).length : Int) → t.sum < tot ls
  | [], [], _, _ => ⟨by decide, by decide, fun i hi => absurd hi (Nat.not_lt_zero _)⟩
  | l :: ls, x :: t, h, ha => by
    obtain ⟨a1, a2, a3⟩ := sum_tot ls t (by simpa using h) (fun i hi => ha (i + 1) (by simpa using hi))
    have h0 := ha 0 (by simp)
    have e1 : (x :: t).getD 0 default = x := rfl
    have e2 : (l :: ls).getD 0 default = l := rfl
    rw [e1, e2] at h0
    have e3 : tot (l :: ls) = l.length + tot ls := by simp only [tot, List.map_cons, List.sum_cons]
    rw [e3, List.sum_cons]
    refine ⟨by omega, by omega, fun i hi hlt => ?_⟩
    cases i with
    | zero => rw [e1, e2] at hlt; omega
    | succ i =>
      have := a3 i (by simpa using hi) hlt
      omega
theorem sum_set : ∀ (t : List Int) (i : Nat) (y : Int), i < t.length → (t.set i y).sum = t.sum - t.getD i default + y
  | x :: t, 0, y, _ => by
    simp only [List.set_cons_zero, List.sum_cons]
    have : (x :: t).getD 0 default = x := rfl
    omega
  | x :: t, i + 1, y, h => by
    have ih := sum_set t i y (by simpa using h)
    have : (x :: t).getD (i + 1) default = t.getD i default := rfl
    simp only [List.set_cons_succ, List.sum_cons, ih, this]
    omega
theorem set_getD (t : List Int) (i k : Nat) (y : Int) (h : i < t.length) : (t.set i y).getD k default = if k = i then y else t.getD k default := by
  simp only [List.getD_eq_getElem?_getD, List.getElem?_set]
  by_cases e : i = k
  · subst e; simp [h]
  · rw [if_neg e, if_neg (fun h => e h.symm)]
namespace TIn
variable {ls : List (List SRecord)} {turn : Int} {taken : List Int} {out : List SRecord}
theorem at' (h : TIn ls turn taken out) : 0 ≤ taken.getD turn.toNat default ∧ taken.getD turn.toNat default ≤ ((ls.getD turn.toNat default).length : Int) := h.each _ (by have := h.lo; have := h.hi; omega)
theorem bound (h : TIn ls turn taken out) : out.length ≤ tot ls := by
  have h1 := (sum_tot ls taken h.len h.each).2.1
  have := h.sum
  omega
theorem lt (h : TIn ls turn taken out) (hlt : taken.getD turn.toNat default < ((ls.getD turn.toNat default).length : Int)) : out.length < tot ls := by
  have h1 := (sum_tot ls taken h.len h.each).2.2 turn.toNat (by have := h.lo; have := h.hi; omega) hlt
  have := h.sum
  omega
theorem start {ls : List (List SRecord)} {turn : Int} (h1 : 0 ≤ turn) (h2 : turn < ls.length) : TIn ls turn (List.replicate ls.length 0) [] := by
  refine ⟨h1, h2, by simp, fun i hi => ?_, ?_⟩
  · rw [List.getD_eq_getElem?_getD, List.getElem?_replicate, if_pos hi]
    exact ⟨Int.le_refl _, by simp only [Option.getD_some]; omega⟩
  · have : ∀ n : Nat, (List.replicate n (0 : Int)).sum = 0 := fun n => by induction n with
      | zero => rfl
      | succ n ih => rw [List.replicate_succ, List.sum_cons, ih]; rfl
    rw [this]; rfl
theorem step {x y t : Int} {r : SRecord} (h : TIn ls turn taken out) (hx : x = taken.getD turn.toNat default) (hlt : x < ((ls.getD turn.toNat default).length : Int)) (hy : y = x + 1) (ht : t = turn + 1 ∧ turn + 1 < ls.length ∨ t = 0) :
    TIn ls t (taken.set turn.toNat y) (out ++ [r]) := by
  have l1 := h.lo
  have l2 := h.hi
  have hl := h.len
  have hi : turn.toNat < taken.length := by omega
  have ha := h.at'
  refine ⟨by omega, by omega, by simpa using h.len, fun i hi' => ?_, ?_⟩
  · rw [set_getD _ _ _ _ hi]
    split
    · rename_i e; subst e; omega
    · exact h.each i hi'
  · rw [sum_set _ _ _ hi, ← h.sum]
    simp only [List.length_append, List.length_cons, List.length_nil]
    omega
theorem next (h : TIn ls turn taken out) (hn : ls.length ≤ 4294967296) : Int.tmod (IntKind.i64.wrap (turn + 1)) ((ls.length : Nat) : Int) = turn + 1 ∧ turn + 1 < ls.length ∨ Int.tmod (IntKind.i64.wrap (turn + 1)) ((ls.length : Nat) : Int) = 0 := by
  have h1 := h.lo
  have h2 := h.hi
  have e : IntKind.i64.wrap (turn + 1) = turn + 1 := by rw [IntKind.wrap_i64]; omega
  rw [e]
  by_cases h3 : turn + 1 < ls.length
  · exact .inl ⟨Int.tmod_eq_of_lt (by omega) h3, h3⟩
  · have : turn + 1 = ls.length := by omega
    rw [this]
    exact .inr Int.tmod_self
end TIn
theorem wrap1 {x : Int} (h1 : 0 ≤ x) (h2 : x < 4611686018427387904) : IntKind.i64.wrap (x + 1) = x + 1 := by rw [IntKind.wrap_i64]; omega
end Go.Ab.Try
