/-
  The program's values as they are told: printed by wg.py, a program of this work.
-/
import Derived.Test.YtipiagjhijnmhaaEq
import Derived.Test.YtipiagjhijnmhaaG1
import Derived.Test.YtipiagjhijnmhaaV
set_option linter.unusedVariables false
set_option linter.unusedSimpArgs false
namespace Go.Ab.Try
open Go Go.Proofs Go.Ab

structure STxnKey where
  Epoch : Int
  Id : Int
deriving DecidableEq
instance : Inhabited STxnKey := ⟨(STxnKey.mk 0 0)⟩
structure SRecord where
  Key : Int
  Val : Int
deriving DecidableEq
instance : Inhabited SRecord := ⟨(SRecord.mk 0 0)⟩
structure STxn where
  Epoch : Int
  Id : Int
  Begin : Int
  Records : (List SRecord)
  Vector : (List Int)
deriving DecidableEq
instance : Inhabited STxn := ⟨(STxn.mk 0 0 0 [] [])⟩
structure SCoord where
  Phase : Int
  Epoch : Int
  Id : Int
  Len : Int
  Vector : (List Int)
  Txn : STxn
  Done : Int
  Left : Int
deriving DecidableEq
instance : Inhabited SCoord := ⟨(SCoord.mk 0 0 0 0 [] (STxn.mk 0 0 0 [] []) 0 0)⟩
structure SDo where
  Kind : Int
  Id : Int
  Begin : Int
  Txn : STxn
deriving DecidableEq
instance : Inhabited SDo := ⟨(SDo.mk 0 0 0 (STxn.mk 0 0 0 [] []))⟩
structure SPiece where
  Len : Int
  Sum : Int
deriving DecidableEq
instance : Inhabited SPiece := ⟨(SPiece.mk 0 0)⟩
structure SManifest where
  Epoch : Int
  Id : Int
  Vector : (List Int)
  Out : Int
  Begin : Int
  Records : (List SRecord)
  Pieces : (List SPiece)
  Graph : Int
deriving DecidableEq
instance : Inhabited SManifest := ⟨(SManifest.mk 0 0 [] 0 0 [] [] 0)⟩
structure Spontoonlaw19_Come where
  Do : Int
  Own : Bool
  Id : Int
  Manifest : SManifest
  Kind : Int
  Key : STxnKey
  Err : Int
  Len : Int
  Vector : (List Int)
deriving DecidableEq
instance : Inhabited Spontoonlaw19_Come := ⟨(Spontoonlaw19_Come.mk 0 false 0 (SManifest.mk 0 0 [] 0 0 [] [] 0) 0 (STxnKey.mk 0 0) 0 0 [])⟩
def cI64 (x : Int) : List CV := [.val (.int .i64 x)]
def SRecord.cells (x : SRecord) : List CV := [.val (.int .i64 x.Key), .val (.int .i64 x.Val)]
def SPiece.cells (x : SPiece) : List CV := [.val (.int .i64 x.Len), .val (.int .u32 x.Sum)]
def Spontoonlaw19_Come.cells (x : Spontoonlaw19_Come) : List CV := [.val (.int .i64 x.Do), .val (.bool x.Own), .val (.int .i64 x.Id), .val (.int .i64 x.Manifest.Epoch), .val (.int .i64 x.Manifest.Id), .sl (List.map cI64 x.Manifest.Vector), .val (.int .i64 x.Manifest.Out), .val (.int .i64 x.Manifest.Begin), .sl (List.map SRecord.cells x.Manifest.Records), .sl (List.map SPiece.cells x.Manifest.Pieces), .val (.int .u32 x.Manifest.Graph), .val (.int .i64 x.Kind), .val (.int .i64 x.Key.Epoch), .val (.int .i64 x.Key.Id), .val (.int .i64 x.Err), .val (.int .i64 x.Len), .sl (List.map cI64 x.Vector)]
def STxn.Sz (x : STxn) : Prop := x.Records.length ≤ 4294967296 ∧ x.Vector.length ≤ 4294967296
def SCoord.Sz (x : SCoord) : Prop := x.Vector.length ≤ 4294967296 ∧ STxn.Sz x.Txn
def SDo.Sz (x : SDo) : Prop := STxn.Sz x.Txn
def SManifest.Sz (x : SManifest) : Prop := x.Vector.length ≤ 4294967296 ∧ x.Records.length ≤ 4294967296 ∧ x.Pieces.length ≤ 4294967296
def Spontoonlaw19_Come.Sz (x : Spontoonlaw19_Come) : Prop := SManifest.Sz x.Manifest ∧ x.Vector.length ≤ 4294967296
/-- All cells. -/
theorem CELLS : type_of% (And.intro @cI64.eq_1 (And.intro @SRecord.cells.eq_1 (And.intro @SPiece.cells.eq_1 (@Spontoonlaw19_Come.cells.eq_1)))) := And.intro @cI64.eq_1 (And.intro @SRecord.cells.eq_1 (And.intro @SPiece.cells.eq_1 (@Spontoonlaw19_Come.cells.eq_1)))
theorem SZD : type_of% (And.intro @STxn.Sz.eq_1 (And.intro @SCoord.Sz.eq_1 (And.intro @SDo.Sz.eq_1 (And.intro @SManifest.Sz.eq_1 (@Spontoonlaw19_Come.Sz.eq_1))))) := And.intro @STxn.Sz.eq_1 (And.intro @SCoord.Sz.eq_1 (And.intro @SDo.Sz.eq_1 (And.intro @SManifest.Sz.eq_1 (@Spontoonlaw19_Come.Sz.eq_1))))
end Go.Ab.Try
