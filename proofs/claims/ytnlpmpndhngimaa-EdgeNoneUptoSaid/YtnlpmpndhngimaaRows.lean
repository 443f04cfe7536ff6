/-
  No cell of these rows narrows 'for every input' (looked for: loops, veiled, ifaces, maps, wideKeys, modest, calm, conditions, laid).
  DERIVED. THE GIVEN ROWS OF THIS SEAT. 9 by the template 'for every input the law returns true; each argument reads behind the call as it read before'; 0 by the template 'total and deterministic' (their statements: YtnlpmpndhngimaaTotals.lean).
  GIVEN WITH THE SEED: the statements are not yours to turn. If you find one false, say at which input.
  Laid BY PROGRAM, IN A SANDBOX (cutbox-rows.mjs): the forced cells as the released guide's own fill.sh prints them over the translation 8701d9364f453c8e… (all of the seat's roots in one cut). By AI agents, Wed Nov 11 2026. No macro, syntax, notation, axiom, sorry.
-/
import Derived.Test.YtnlpmpndhngimaaChecked
import GoSem.Claim
import GoSem.ClaimJoined
import GoSem.ClaimMapViews
import Derived.JoinedTies
import Derived.KernelRfl
namespace Go.Proofs.Ytnlpmpndhngimaa
/- THE CELL 'sum', in the pinned program and in every row, IS THE sha256 OF THE DUMP (.gsa) THAT YtnlpmpndhngimaaProg.lean LOADS. Nothing in Lean hashes anything: it is a label: what it is worth is what the hold of that sum in a sandbox is worth. -/
noncomputable def Try.pinned : Pinned := { name := "ytnlpmpndhngimaa", sum := "8701d9364f453c8ea9844c0908b24237bada2e5bc25050b16bf37dd51e7a8526", checked := Try.checked }
namespace Rows
def none {H : Type} : Left H := { results := [], args := [] }

/-- 'pontoonlaw02.FrameMakes': WHATEVER THE INPUT: true; the input reads as it did. -/
def frameMakesSpec : ChangeSpec := { name := "frameMakes", fn := fun _ => fun
  | [d1, d2, d3] => { results := [.lit (.bool true)], args := [d1, d2, d3] }
  | _ => none }
def frameMakesRow : OpenClaim := { program := "ytnlpmpndhngimaa", sum := "8701d9364f453c8ea9844c0908b24237bada2e5bc25050b16bf37dd51e7a8526", func := "pontoon/pontoonlaw02.FrameMakes", spec := "frameMakes", apart := false }
def FrameMakesSaid : Prop := frameMakesRow.holds Try.pinned (OpenSpec.ofChange frameMakesSpec)

/-- ITS FALSE NEIGHBOUR: 'it returns false'. Refute it at one input. -/
def frameMakesWrong : ChangeSpec := { name := "frameMakes", fn := fun _ => fun
  | [d1, d2, d3] => { results := [.lit (.bool false)], args := [d1, d2, d3] }
  | _ => none }
def FrameMakesWrongFalsely : Prop := frameMakesRow.holds Try.pinned (OpenSpec.ofChange frameMakesWrong)

/-- 'pontoonlaw09.EdgeOrder': WHATEVER THE INPUT: true; the input reads as it did. -/
def edgeOrderSpec : ChangeSpec := { name := "edgeOrder", fn := fun _ => fun
  | [d1, d2] => { results := [.lit (.bool true)], args := [d1, d2] }
  | _ => none }
def edgeOrderRow : OpenClaim := { program := "ytnlpmpndhngimaa", sum := "8701d9364f453c8ea9844c0908b24237bada2e5bc25050b16bf37dd51e7a8526", func := "pontoon/pontoonlaw09.EdgeOrder", spec := "edgeOrder", unfollowed := true, recurses := true, apart := false }
def EdgeOrderSaid : Prop := edgeOrderRow.holds Try.pinned (OpenSpec.ofChange edgeOrderSpec)

/-- ITS FALSE NEIGHBOUR: 'it returns false'. Refute it at one input. -/
def edgeOrderWrong : ChangeSpec := { name := "edgeOrder", fn := fun _ => fun
  | [d1, d2] => { results := [.lit (.bool false)], args := [d1, d2] }
  | _ => none }
def EdgeOrderWrongFalsely : Prop := edgeOrderRow.holds Try.pinned (OpenSpec.ofChange edgeOrderWrong)

/-- 'pontoonlaw02.FrameTorn': WHATEVER THE INPUT: true; the input reads as it did. -/
def frameTornSpec : ChangeSpec := { name := "frameTorn", fn := fun _ => fun
  | [d1, d2] => { results := [.lit (.bool true)], args := [d1, d2] }
  | _ => none }
def frameTornRow : OpenClaim := { program := "ytnlpmpndhngimaa", sum := "8701d9364f453c8ea9844c0908b24237bada2e5bc25050b16bf37dd51e7a8526", func := "pontoon/pontoonlaw02.FrameTorn", spec := "frameTorn", unfollowed := true, recurses := true, apart := false }
def FrameTornSaid : Prop := frameTornRow.holds Try.pinned (OpenSpec.ofChange frameTornSpec)

/-- ITS FALSE NEIGHBOUR: 'it returns false'. Refute it at one input. -/
def frameTornWrong : ChangeSpec := { name := "frameTorn", fn := fun _ => fun
  | [d1, d2] => { results := [.lit (.bool false)], args := [d1, d2] }
  | _ => none }
def FrameTornWrongFalsely : Prop := frameTornRow.holds Try.pinned (OpenSpec.ofChange frameTornWrong)

/-- 'pontoonlaw02.FrameDamage': WHATEVER THE INPUT: true; the input reads as it did. -/
def frameDamageSpec : ChangeSpec := { name := "frameDamage", fn := fun _ => fun
  | [d1, d2, d3] => { results := [.lit (.bool true)], args := [d1, d2, d3] }
  | _ => none }
def frameDamageRow : OpenClaim := { program := "ytnlpmpndhngimaa", sum := "8701d9364f453c8ea9844c0908b24237bada2e5bc25050b16bf37dd51e7a8526", func := "pontoon/pontoonlaw02.FrameDamage", spec := "frameDamage", unfollowed := true, recurses := true, apart := false }
def FrameDamageSaid : Prop := frameDamageRow.holds Try.pinned (OpenSpec.ofChange frameDamageSpec)

/-- ITS FALSE NEIGHBOUR: 'it returns false'. Refute it at one input. -/
def frameDamageWrong : ChangeSpec := { name := "frameDamage", fn := fun _ => fun
  | [d1, d2, d3] => { results := [.lit (.bool false)], args := [d1, d2, d3] }
  | _ => none }
def FrameDamageWrongFalsely : Prop := frameDamageRow.holds Try.pinned (OpenSpec.ofChange frameDamageWrong)

/-- 'pontoonlaw02.FrameTakes': WHATEVER THE INPUT: true; the input reads as it did. -/
def frameTakesSpec : ChangeSpec := { name := "frameTakes", fn := fun _ => fun
  | [d] => { results := [.lit (.bool true)], args := [d] }
  | _ => none }
def frameTakesRow : OpenClaim := { program := "ytnlpmpndhngimaa", sum := "8701d9364f453c8ea9844c0908b24237bada2e5bc25050b16bf37dd51e7a8526", func := "pontoon/pontoonlaw02.FrameTakes", spec := "frameTakes", unfollowed := true, recurses := true, apart := false }
def FrameTakesSaid : Prop := frameTakesRow.holds Try.pinned (OpenSpec.ofChange frameTakesSpec)

/-- ITS FALSE NEIGHBOUR: 'it returns false'. Refute it at one input. -/
def frameTakesWrong : ChangeSpec := { name := "frameTakes", fn := fun _ => fun
  | [d] => { results := [.lit (.bool false)], args := [d] }
  | _ => none }
def FrameTakesWrongFalsely : Prop := frameTakesRow.holds Try.pinned (OpenSpec.ofChange frameTakesWrong)

/-- 'pontoonlaw02.FrameBack': WHATEVER THE INPUT: true; the input reads as it did. -/
def frameBackSpec : ChangeSpec := { name := "frameBack", fn := fun _ => fun
  | [d1, d2] => { results := [.lit (.bool true)], args := [d1, d2] }
  | _ => none }
def frameBackRow : OpenClaim := { program := "ytnlpmpndhngimaa", sum := "8701d9364f453c8ea9844c0908b24237bada2e5bc25050b16bf37dd51e7a8526", func := "pontoon/pontoonlaw02.FrameBack", spec := "frameBack", unfollowed := true, recurses := true, apart := false }
def FrameBackSaid : Prop := frameBackRow.holds Try.pinned (OpenSpec.ofChange frameBackSpec)

/-- ITS FALSE NEIGHBOUR: 'it returns false'. Refute it at one input. -/
def frameBackWrong : ChangeSpec := { name := "frameBack", fn := fun _ => fun
  | [d1, d2] => { results := [.lit (.bool false)], args := [d1, d2] }
  | _ => none }
def FrameBackWrongFalsely : Prop := frameBackRow.holds Try.pinned (OpenSpec.ofChange frameBackWrong)

/-- 'pontoonlaw09.EdgeDoes': WHATEVER THE INPUT: true; the input reads as it did. -/
def edgeDoesSpec : ChangeSpec := { name := "edgeDoes", fn := fun _ => fun
  | [d1, d2] => { results := [.lit (.bool true)], args := [d1, d2] }
  | _ => none }
def edgeDoesRow : OpenClaim := { program := "ytnlpmpndhngimaa", sum := "8701d9364f453c8ea9844c0908b24237bada2e5bc25050b16bf37dd51e7a8526", func := "pontoon/pontoonlaw09.EdgeDoes", spec := "edgeDoes", unfollowed := true, recurses := true, apart := false }
def EdgeDoesSaid : Prop := edgeDoesRow.holds Try.pinned (OpenSpec.ofChange edgeDoesSpec)

/-- ITS FALSE NEIGHBOUR: 'it returns false'. Refute it at one input. -/
def edgeDoesWrong : ChangeSpec := { name := "edgeDoes", fn := fun _ => fun
  | [d1, d2] => { results := [.lit (.bool false)], args := [d1, d2] }
  | _ => none }
def EdgeDoesWrongFalsely : Prop := edgeDoesRow.holds Try.pinned (OpenSpec.ofChange edgeDoesWrong)

/-- 'pontoonlaw09.EdgeNone': WHATEVER THE INPUT: true; the input reads as it did. -/
def edgeNoneSpec : ChangeSpec := { name := "edgeNone", fn := fun _ => fun
  | [d] => { results := [.lit (.bool true)], args := [d] }
  | _ => none }
def edgeNoneRow : OpenClaim := { program := "ytnlpmpndhngimaa", sum := "8701d9364f453c8ea9844c0908b24237bada2e5bc25050b16bf37dd51e7a8526", func := "pontoon/pontoonlaw09.EdgeNone", spec := "edgeNone", unfollowed := true, recurses := true, apart := false }
def EdgeNoneSaid : Prop := edgeNoneRow.holds Try.pinned (OpenSpec.ofChange edgeNoneSpec)

/-- ITS FALSE NEIGHBOUR: 'it returns false'. Refute it at one input. -/
def edgeNoneWrong : ChangeSpec := { name := "edgeNone", fn := fun _ => fun
  | [d] => { results := [.lit (.bool false)], args := [d] }
  | _ => none }
def EdgeNoneWrongFalsely : Prop := edgeNoneRow.holds Try.pinned (OpenSpec.ofChange edgeNoneWrong)

/-- 'pontoonlaw09.EdgeFrom': WHATEVER THE INPUT: true; the input reads as it did. -/
def edgeFromSpec : ChangeSpec := { name := "edgeFrom", fn := fun _ => fun
  | [d1, d2, d3] => { results := [.lit (.bool true)], args := [d1, d2, d3] }
  | _ => none }
def edgeFromRow : OpenClaim := { program := "ytnlpmpndhngimaa", sum := "8701d9364f453c8ea9844c0908b24237bada2e5bc25050b16bf37dd51e7a8526", func := "pontoon/pontoonlaw09.EdgeFrom", spec := "edgeFrom", unfollowed := true, recurses := true, apart := false }
def EdgeFromSaid : Prop := edgeFromRow.holds Try.pinned (OpenSpec.ofChange edgeFromSpec)

/-- ITS FALSE NEIGHBOUR: 'it returns false'. Refute it at one input. -/
def edgeFromWrong : ChangeSpec := { name := "edgeFrom", fn := fun _ => fun
  | [d1, d2, d3] => { results := [.lit (.bool false)], args := [d1, d2, d3] }
  | _ => none }
def EdgeFromWrongFalsely : Prop := edgeFromRow.holds Try.pinned (OpenSpec.ofChange edgeFromWrong)

/- THE SECOND FORM. 'bulk': how many values and letters a reading holds, each counted each time it is reached (what is shared counts as often as it is met; a slice's spare places count too). A statement '..UptoSaid' is the law's where the arguments, and the package variables that the reading takes, are together of bulk at most 1048576: NARROWER than '..Said'. Prove '..Said' where nothing that the law and all that it calls make is longer than what came in: it says more and counts as full. Else prove '..UptoSaid'. A law counts once. -/
mutual
def uptoBulk {H : Type} : DataW H → Nat
  | .lit (.string bytes) => bytes.length + 1
  | .lit _ => 1
  | .nil => 1
  | .ptr d => uptoBulk d + 1
  | .slice elems spare => uptoBulkAll elems + uptoBulkAll spare + 1
  | .agg parts => uptoBulkAll parts + 1
  | .iface _ d => uptoBulk d + 1
  | .map entries => uptoBulkEntries entries + 1
  | .held _ => 1
def uptoBulkAll {H : Type} : List (DataW H) → Nat
  | [] => 0
  | d :: r => uptoBulk d + uptoBulkAll r
def uptoBulkEntries {H : Type} : List (Lit × DataW H) → Nat
  | [] => 0
  | x :: r => uptoBulkEntry x + uptoBulkEntries r
def uptoBulkEntry {H : Type} : Lit × DataW H → Nat
  | (.string bytes, d) => bytes.length + uptoBulk d + 1
  | (_, d) => uptoBulk d + 1
 end
def uptoSmall : (H : Type) → List (DataW H) → Bool := fun _ ds => decide (uptoBulkAll ds ≤ 1048576)
def OpenSpec.upto (s : _root_.Go.ChangeSpec) : _root_.Go.OpenSpec := { _root_.Go.OpenSpec.ofChange s with cond := some uptoSmall }

/-- 'pontoonlaw02.FrameMakes', WHERE WHAT IT READS IS OF BULK AT MOST 1048576: true; the input reads as it did. -/
def frameMakesUptoRow : OpenClaim := { program := "ytnlpmpndhngimaa", sum := "8701d9364f453c8ea9844c0908b24237bada2e5bc25050b16bf37dd51e7a8526", func := "pontoon/pontoonlaw02.FrameMakes", spec := "frameMakes", apart := false, narrowed := true }
def FrameMakesUptoSaid : Prop := frameMakesUptoRow.holds Try.pinned (OpenSpec.upto frameMakesSpec)

/-- 'pontoonlaw09.EdgeOrder', WHERE WHAT IT READS IS OF BULK AT MOST 1048576: true; the input reads as it did. -/
def edgeOrderUptoRow : OpenClaim := { program := "ytnlpmpndhngimaa", sum := "8701d9364f453c8ea9844c0908b24237bada2e5bc25050b16bf37dd51e7a8526", func := "pontoon/pontoonlaw09.EdgeOrder", spec := "edgeOrder", unfollowed := true, recurses := true, apart := false, narrowed := true }
def EdgeOrderUptoSaid : Prop := edgeOrderUptoRow.holds Try.pinned (OpenSpec.upto edgeOrderSpec)

/-- 'pontoonlaw02.FrameTorn', WHERE WHAT IT READS IS OF BULK AT MOST 1048576: true; the input reads as it did. -/
def frameTornUptoRow : OpenClaim := { program := "ytnlpmpndhngimaa", sum := "8701d9364f453c8ea9844c0908b24237bada2e5bc25050b16bf37dd51e7a8526", func := "pontoon/pontoonlaw02.FrameTorn", spec := "frameTorn", unfollowed := true, recurses := true, apart := false, narrowed := true }
def FrameTornUptoSaid : Prop := frameTornUptoRow.holds Try.pinned (OpenSpec.upto frameTornSpec)

/-- 'pontoonlaw02.FrameDamage', WHERE WHAT IT READS IS OF BULK AT MOST 1048576: true; the input reads as it did. -/
def frameDamageUptoRow : OpenClaim := { program := "ytnlpmpndhngimaa", sum := "8701d9364f453c8ea9844c0908b24237bada2e5bc25050b16bf37dd51e7a8526", func := "pontoon/pontoonlaw02.FrameDamage", spec := "frameDamage", unfollowed := true, recurses := true, apart := false, narrowed := true }
def FrameDamageUptoSaid : Prop := frameDamageUptoRow.holds Try.pinned (OpenSpec.upto frameDamageSpec)

/-- 'pontoonlaw02.FrameTakes', WHERE WHAT IT READS IS OF BULK AT MOST 1048576: true; the input reads as it did. -/
def frameTakesUptoRow : OpenClaim := { program := "ytnlpmpndhngimaa", sum := "8701d9364f453c8ea9844c0908b24237bada2e5bc25050b16bf37dd51e7a8526", func := "pontoon/pontoonlaw02.FrameTakes", spec := "frameTakes", unfollowed := true, recurses := true, apart := false, narrowed := true }
def FrameTakesUptoSaid : Prop := frameTakesUptoRow.holds Try.pinned (OpenSpec.upto frameTakesSpec)

/-- 'pontoonlaw02.FrameBack', WHERE WHAT IT READS IS OF BULK AT MOST 1048576: true; the input reads as it did. -/
def frameBackUptoRow : OpenClaim := { program := "ytnlpmpndhngimaa", sum := "8701d9364f453c8ea9844c0908b24237bada2e5bc25050b16bf37dd51e7a8526", func := "pontoon/pontoonlaw02.FrameBack", spec := "frameBack", unfollowed := true, recurses := true, apart := false, narrowed := true }
def FrameBackUptoSaid : Prop := frameBackUptoRow.holds Try.pinned (OpenSpec.upto frameBackSpec)

/-- 'pontoonlaw09.EdgeDoes', WHERE WHAT IT READS IS OF BULK AT MOST 1048576: true; the input reads as it did. -/
def edgeDoesUptoRow : OpenClaim := { program := "ytnlpmpndhngimaa", sum := "8701d9364f453c8ea9844c0908b24237bada2e5bc25050b16bf37dd51e7a8526", func := "pontoon/pontoonlaw09.EdgeDoes", spec := "edgeDoes", unfollowed := true, recurses := true, apart := false, narrowed := true }
def EdgeDoesUptoSaid : Prop := edgeDoesUptoRow.holds Try.pinned (OpenSpec.upto edgeDoesSpec)

/-- 'pontoonlaw09.EdgeNone', WHERE WHAT IT READS IS OF BULK AT MOST 1048576: true; the input reads as it did. -/
def edgeNoneUptoRow : OpenClaim := { program := "ytnlpmpndhngimaa", sum := "8701d9364f453c8ea9844c0908b24237bada2e5bc25050b16bf37dd51e7a8526", func := "pontoon/pontoonlaw09.EdgeNone", spec := "edgeNone", unfollowed := true, recurses := true, apart := false, narrowed := true }
def EdgeNoneUptoSaid : Prop := edgeNoneUptoRow.holds Try.pinned (OpenSpec.upto edgeNoneSpec)

/-- 'pontoonlaw09.EdgeFrom', WHERE WHAT IT READS IS OF BULK AT MOST 1048576: true; the input reads as it did. -/
def edgeFromUptoRow : OpenClaim := { program := "ytnlpmpndhngimaa", sum := "8701d9364f453c8ea9844c0908b24237bada2e5bc25050b16bf37dd51e7a8526", func := "pontoon/pontoonlaw09.EdgeFrom", spec := "edgeFrom", unfollowed := true, recurses := true, apart := false, narrowed := true }
def EdgeFromUptoSaid : Prop := edgeFromUptoRow.holds Try.pinned (OpenSpec.upto edgeFromSpec)

end Rows
end Go.Proofs.Ytnlpmpndhngimaa
