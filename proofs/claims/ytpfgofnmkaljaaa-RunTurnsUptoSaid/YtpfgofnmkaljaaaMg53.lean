/-
  Three records are taken in turn, and the fourth is left (plain).
  What is the same is told the same; the law of turns (plain).
-/
import Derived.Test.YtpfgofnmkaljaaaMg52
import Derived.Test.YtpfgofnmkaljaaaMg20
set_option linter.unusedVariables false
set_option linter.unusedSimpArgs false
namespace Go.Ab.Try
open Go Go.Proofs Go.Ab
set_option maxRecDepth 100000 in
theorem begun_true : pontoonlaw08_begun = true := by
  decide +kernel
end Go.Ab.Try

set_option linter.unusedVariables false
set_option linter.unusedSimpArgs false
namespace Go.Ab.Try
open Go Go.Proofs Go.Ab
theorem eqInt_L0 (l : List Int) (i : Nat) : slices_Equal_int_L0 l l i = Sum.inr () := by
  rw [slices_Equal_int_L0.eq_def]
  by_cases h : i < l.length
  · rw [dif_pos (by simpa using h), dif_neg (by simp)]
    exact eqInt_L0 l (i + 1)
  · rw [dif_neg (by simpa using h)]
termination_by l.length - i
theorem eqInt_self (l : List Int) : slices_Equal_int l l = true := by
  unfold slices_Equal_int
  simp [letIn, eqInt_L0]
theorem sameR_L0 (l : List SRecord) (i : Nat) : pontoonref08_SameRecords_L0 l l i = Sum.inr () := by
  rw [pontoonref08_SameRecords_L0.eq_def]
  by_cases h : i < l.length
  · rw [dif_pos (by simpa using h), dif_neg (by simp)]
    exact sameR_L0 l (i + 1)
  · rw [dif_neg (by simpa using h)]
termination_by l.length - i
theorem sameR_self (l : List SRecord) : pontoonref08_SameRecords l l = true := by
  unfold pontoonref08_SameRecords
  simp [letIn, sameR_L0]
theorem law_RunTurns (turn : Int) (ls : List (List SRecord)) (hs : tot ls ≤ 1048576) (hn : ls.length ≤ 4294967296) : pontoonlaw08_RunTurns turn ls = true := by
  unfold pontoonlaw08_RunTurns
  simp only [letIn, begun_true]
  rw [turns_eq turn ls (by omega) hn, sameR_self, eqInt_self]
  simp
theorem runTurns_t (turn : Int) (ls : List (List SRecord)) (hs : tot ls ≤ 1048576) (hn : ls.length ≤ 1048576) (hl : ∀ y ∈ ls, y.length ≤ 1048576) : FnP Try.prog 3 [iV turn, sL cSl_SRecord_cells ls] (bo true) := by
  have h := pontoonlaw08_RunTurns_t turn ls hs ⟨by omega, fun y hy => by have := hl y hy; omega⟩
  rw [law_RunTurns turn ls hs (by omega)] at h
  exact h
theorem tot_w : ∀ (l : List (List SRecord)), tot l ≤ wLL (l.map cSl_SRecord_cells)
  | [] => by simp [tot]
  | a :: l => by
    have ih := tot_w l
    have h : ∀ a : List SRecord, a.length ≤ wLL (a.map SRecord.cells) := fun a => by
      induction a with
      | nil => simp
      | cons x a ih => simp only [List.map_cons, List.length_cons, wLL, SRecord.cells, wL, wCV]; omega
    have h1 := h a
    rw [tot_cons]
    simp only [List.map_cons, wLL, cSl_SRecord_cells, wL, wCV]
    omega
theorem tot_ok {b : List (List SRecord)} {n : Nat} (h : wL [.sl (List.map cSl_SRecord_cells b)] ≤ n) (hn : n ≤ 1048576) : tot b ≤ 1048576 := by
  have := tot_w b
  simp only [wL, wCV] at h
  omega
end Go.Ab.Try
