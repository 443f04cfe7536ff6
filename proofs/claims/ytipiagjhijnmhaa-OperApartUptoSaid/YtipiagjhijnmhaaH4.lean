/-
  OperApart, walked: it answers true.
-/
import Derived.Test.YtipiagjhijnmhaaO3
import Derived.Test.YtipiagjhijnmhaaLA
namespace Go.Ab.Try
open Go Go.Proofs Go.Ab
theorem operApart_t (a0 : SOp) (a1 : List SRecord) (a2 : Int) (z0 : SOp.Sz a0) (z1 : a1.length ≤ 10000000) : FnP Try.prog 8 [.agg (SOp.avs a0), sL SRecord.cells a1, iV a2] (bo true) := by
  have h := pontoonlaw07_OperApart_t a0 a1 a2 z0 z1
  rwa [law_OperApart] at h
end Go.Ab.Try
