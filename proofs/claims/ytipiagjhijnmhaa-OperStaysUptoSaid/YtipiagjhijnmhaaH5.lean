/-
  OperStays computes true: the walk and the plain law joined.
-/
import Derived.Test.YtipiagjhijnmhaaLS
set_option linter.unusedVariables false
namespace Go.Ab.Try
open Go Go.Proofs Go.Ab
theorem operStays_t (a0 : SGraph) (a1 : List SRecord) (a2 : SOpState) (z0 : SGraph.Sz a0) (z1 : a1.length ≤ 1048576) (z2 : SOpState.Sz a2) (h : a2.Keys.length ≤ 1048576) : FnP Try.prog 9 [.agg (SGraph.avs a0), sL SRecord.cells a1, .agg (SOpState.avs a2)] (bo true) := by
  have := pontoonlaw07_OperStays_t a0 a1 a2 (by omega) (by omega) z0 (by omega) z2
  rw [law_OperStays a0 a1 a2 (by omega)] at this
  exact this
end Go.Ab.Try
