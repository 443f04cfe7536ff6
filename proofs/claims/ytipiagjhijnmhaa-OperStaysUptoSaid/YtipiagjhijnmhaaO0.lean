/-
  The program's values as they are told: printed by wg.py, a program of this work.
-/
import Derived.Test.YtipiagjhijnmhaaEq
import Derived.Test.YtipiagjhijnmhaaG2
import Derived.Test.YtipiagjhijnmhaaV
set_option linter.unusedVariables false
set_option linter.unusedSimpArgs false
namespace Go.Ab.Try
open Go Go.Proofs Go.Ab

structure SRecord where
  Key : Int
  Val : Int
deriving DecidableEq
instance : Inhabited SRecord := ⟨(SRecord.mk 0 0)⟩
structure SEdge where
  From : Int
  Port : Int
deriving DecidableEq
instance : Inhabited SEdge := ⟨(SEdge.mk 0 0)⟩
structure SOp where
  Kind : Int
  Part : Int
  Fn : Int
  Arg : Int
  In : (List SEdge)
deriving DecidableEq
instance : Inhabited SOp := ⟨(SOp.mk 0 0 0 0 [])⟩
structure SKeyState where
  Key : Int
  Count : Int
  Acc : Int
deriving DecidableEq
instance : Inhabited SKeyState := ⟨(SKeyState.mk 0 0 0)⟩
structure SOpState where
  Keys : (List SKeyState)
  Turn : Int
deriving DecidableEq
instance : Inhabited SOpState := ⟨(SOpState.mk [] 0)⟩
structure SPut where
  Port : Int
  Record : SRecord
deriving DecidableEq
instance : Inhabited SPut := ⟨(SPut.mk 0 (SRecord.mk 0 0))⟩
structure SGraph where
  Parts : Int
  Ops : (List SOp)
deriving DecidableEq
instance : Inhabited SGraph := ⟨(SGraph.mk 0 [])⟩
def SKeyState.cells (x : SKeyState) : List CV := [.val (.int .i64 x.Key), .val (.int .i64 x.Count), .val (.int .i64 x.Acc)]
def SPut.cells (x : SPut) : List CV := [.val (.int .i64 x.Port), .val (.int .i64 x.Record.Key), .val (.int .i64 x.Record.Val)]
def SRecord.cells (x : SRecord) : List CV := [.val (.int .i64 x.Key), .val (.int .i64 x.Val)]
def SEdge.cells (x : SEdge) : List CV := [.val (.int .i64 x.From), .val (.int .i64 x.Port)]
def SOp.cells (x : SOp) : List CV := [.val (.int .i64 x.Kind), .val (.int .i64 x.Part), .val (.int .i64 x.Fn), .val (.int .i64 x.Arg), .sl (List.map SEdge.cells x.In)]
def SOpState.Sz (x : SOpState) : Prop := x.Keys.length ≤ 4294967296
def SOp.Sz (x : SOp) : Prop := x.In.length ≤ 4294967296
def SGraph.Sz (x : SGraph) : Prop := (x.Ops.length ≤ 4294967296 ∧ ∀ y ∈ x.Ops, SOp.Sz y)
def SRecord.avs (x : SRecord) : List AV := [(iV x.Key), (iV x.Val)]
def SEdge.avs (x : SEdge) : List AV := [(iV x.From), (iV x.Port)]
def SOp.avs (x : SOp) : List AV := [(iV x.Kind), (iV x.Part), (iV x.Fn), (iV x.Arg), (sL SEdge.cells x.In)]
def SKeyState.avs (x : SKeyState) : List AV := [(iV x.Key), (iV x.Count), (iV x.Acc)]
def SOpState.avs (x : SOpState) : List AV := [(sL SKeyState.cells x.Keys), (iV x.Turn)]
def SPut.avs (x : SPut) : List AV := [(iV x.Port), (iV x.Record.Key), (iV x.Record.Val)]
def SGraph.avs (x : SGraph) : List AV := [(iV x.Parts), (sL SOp.cells x.Ops)]
/-- Values told short. -/
theorem AVS : type_of% (And.intro @iV.eq_1 (And.intro @bo.eq_1 (And.intro @nS.eq_1 (And.intro @sL.eq_1 (And.intro @SRecord.avs.eq_1 (And.intro @SEdge.avs.eq_1 (And.intro @SOp.avs.eq_1 (And.intro @SKeyState.avs.eq_1 (And.intro @SOpState.avs.eq_1 (And.intro @SPut.avs.eq_1 (@SGraph.avs.eq_1))))))))))) := And.intro @iV.eq_1 (And.intro @bo.eq_1 (And.intro @nS.eq_1 (And.intro @sL.eq_1 (And.intro @SRecord.avs.eq_1 (And.intro @SEdge.avs.eq_1 (And.intro @SOp.avs.eq_1 (And.intro @SKeyState.avs.eq_1 (And.intro @SOpState.avs.eq_1 (And.intro @SPut.avs.eq_1 (@SGraph.avs.eq_1))))))))))
/-- All cells. -/
theorem CELLS : type_of% (And.intro @SKeyState.cells.eq_1 (And.intro @SPut.cells.eq_1 (And.intro @SRecord.cells.eq_1 (And.intro @SEdge.cells.eq_1 (@SOp.cells.eq_1))))) := And.intro @SKeyState.cells.eq_1 (And.intro @SPut.cells.eq_1 (And.intro @SRecord.cells.eq_1 (And.intro @SEdge.cells.eq_1 (@SOp.cells.eq_1))))
theorem SZD : type_of% (And.intro @SOpState.Sz.eq_1 (And.intro @SOp.Sz.eq_1 (@SGraph.Sz.eq_1))) := And.intro @SOpState.Sz.eq_1 (And.intro @SOp.Sz.eq_1 (@SGraph.Sz.eq_1))
end Go.Ab.Try
