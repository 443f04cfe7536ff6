/-
  A contract's result closed for good.
-/
import Derived.Test.YtipiagjhijnmhaaN2
set_option linter.unusedVariables false
set_option linter.unusedSimpArgs false
namespace Go.Ab
open Go Go.RowKit

theorem FnO.frz {P : Program} {f : FuncId} {args : List AV} {blks : List Blk} {r r' : AV} {vc : Prop} (h : FnO P f args blks r) (hf : Ab.frz (numb 0 blks) r = some (vc, r')) (hvc : vc) : FnP P f args r' := by
  refine ⟨h.1, fun I w vs hI hl hr => (h.2 I w vs hI hl hr).mono fun e w' he => ?_⟩
  obtain ⟨v, ι', rfl, h1, h2, h3, h4, h5, h6⟩ := he
  refine ⟨v, rfl, frz_ok (A := fun g => I g ∨ w.heap.size ≤ g) (ι := ι') (w := w') (heap := numb 0 blks) (fun g hg => ⟨hg.1.1, hg.1.2⟩) (fun b g c hb => ⟨.inr (h4 b g c hb), h5.lt b g c hb⟩) (fun b blk hb => ?_) hf hvc h1, h6⟩
  exact h2 b blk (by simpa using (look_numb hb).2)
end Go.Ab
