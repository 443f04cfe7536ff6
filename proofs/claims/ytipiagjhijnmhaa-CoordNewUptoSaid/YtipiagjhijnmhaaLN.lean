/-
  A coordinator's vector is not empty.
-/
import Derived.Test.YtipiagjhijnmhaaLX
set_option linter.unusedVariables false
set_option linter.unusedSimpArgs false
namespace Go.Ab.Try
open Go Go.Proofs Go.Ab
theorem new_len (a0 a1 a2 : Int) (a3 : List Int) : (coord_New a0 a1 a2 a3).2 = 0 → 0 < (coord_New a0 a1 a2 a3).1.Vector.length := by
  unfold coord_New
  simp only [letIn, slices_Clone_int64]
  cases h1 : ((coord_Check (SCoord.mk 0 a0 a1 a2 a3 (STxn.mk 0 0 0 [] []) 0 0)) != 0) with
  | true =>
    simp only [cond_true]
    intro h
    rw [h] at h1
    simp at h1
  | false =>
    simp only [cond_false]
    intro _
    have := ((check_iff _).1 (by simpa using h1)).vl
    simp only at this
    omega
end Go.Ab.Try
