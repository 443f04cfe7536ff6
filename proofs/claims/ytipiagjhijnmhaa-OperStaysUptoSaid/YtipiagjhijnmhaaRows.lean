/-
  No cell of these rows narrows 'for every input' (looked for: loops, veiled, ifaces, maps, wideKeys, modest, calm, conditions, laid).
  DERIVED. THE GIVEN ROWS OF THIS SEAT. 7 by the template 'for every input the law returns true; each argument reads behind the call as it read before'; 0 by the template 'total and deterministic' (their statements: YtipiagjhijnmhaaTotals.lean).
  GIVEN WITH THE SEED: the statements are not yours to turn. If you find one false, say at which input.
  Laid BY PROGRAM, IN A SANDBOX (cutbox-rows.mjs): the forced cells as the released guide's own fill.sh prints them over the translation 606ad7dd4bb544b8… (all of the seat's roots in one cut). By AI agents, Wed Nov 11 2026. No macro, syntax, notation, axiom, sorry.
-/
import Derived.Test.YtipiagjhijnmhaaChecked
import GoSem.Claim
import GoSem.ClaimJoined
import GoSem.ClaimMapViews
import Derived.JoinedTies
import Derived.KernelRfl
namespace Go.Proofs.Ytipiagjhijnmhaa
/- THE CELL 'sum', in the pinned program and in every row, IS THE sha256 OF THE DUMP (.gsa) THAT YtipiagjhijnmhaaProg.lean LOADS. Nothing in Lean hashes anything: it is a label: what it is worth is what the hold of that sum in a sandbox is worth. -/
noncomputable def Try.pinned : Pinned := { name := "ytipiagjhijnmhaa", sum := "606ad7dd4bb544b88d5a7199a6659ee6295a4bcd690ebf9037ec91b4eca13e1e", checked := Try.checked }
namespace Rows
def none {H : Type} : Left H := { results := [], args := [] }

/-- 'pontoonlaw19.CoordNew': WHATEVER THE INPUT: true; the input reads as it did. -/
def coordNewSpec : ChangeSpec := { name := "coordNew", fn := fun _ => fun
  | [d] => { results := [.lit (.bool true)], args := [d] }
  | _ => none }
def coordNewRow : OpenClaim := { program := "ytipiagjhijnmhaa", sum := "606ad7dd4bb544b88d5a7199a6659ee6295a4bcd690ebf9037ec91b4eca13e1e", func := "pontoon/pontoonlaw19.CoordNew", spec := "coordNew", unfollowed := true, recurses := true, apart := false }
def CoordNewSaid : Prop := coordNewRow.holds Try.pinned (OpenSpec.ofChange coordNewSpec)

/-- ITS FALSE NEIGHBOUR: 'it returns false'. Refute it at one input. -/
def coordNewWrong : ChangeSpec := { name := "coordNew", fn := fun _ => fun
  | [d] => { results := [.lit (.bool false)], args := [d] }
  | _ => none }
def CoordNewWrongFalsely : Prop := coordNewRow.holds Try.pinned (OpenSpec.ofChange coordNewWrong)

/-- 'pontoonlaw19.CoordOrder': WHATEVER THE INPUT: true; the input reads as it did. -/
def coordOrderSpec : ChangeSpec := { name := "coordOrder", fn := fun _ => fun
  | [d1, d2] => { results := [.lit (.bool true)], args := [d1, d2] }
  | _ => none }
def coordOrderRow : OpenClaim := { program := "ytipiagjhijnmhaa", sum := "606ad7dd4bb544b88d5a7199a6659ee6295a4bcd690ebf9037ec91b4eca13e1e", func := "pontoon/pontoonlaw19.CoordOrder", spec := "coordOrder", unfollowed := true, recurses := true, apart := false }
def CoordOrderSaid : Prop := coordOrderRow.holds Try.pinned (OpenSpec.ofChange coordOrderSpec)

/-- ITS FALSE NEIGHBOUR: 'it returns false'. Refute it at one input. -/
def coordOrderWrong : ChangeSpec := { name := "coordOrder", fn := fun _ => fun
  | [d1, d2] => { results := [.lit (.bool false)], args := [d1, d2] }
  | _ => none }
def CoordOrderWrongFalsely : Prop := coordOrderRow.holds Try.pinned (OpenSpec.ofChange coordOrderWrong)

/-- 'pontoonlaw19.CoordLess': WHATEVER THE INPUT: true; the input reads as it did. -/
def coordLessSpec : ChangeSpec := { name := "coordLess", fn := fun _ => fun
  | [d] => { results := [.lit (.bool true)], args := [d] }
  | _ => none }
def coordLessRow : OpenClaim := { program := "ytipiagjhijnmhaa", sum := "606ad7dd4bb544b88d5a7199a6659ee6295a4bcd690ebf9037ec91b4eca13e1e", func := "pontoon/pontoonlaw19.CoordLess", spec := "coordLess", unfollowed := true, recurses := true, apart := false }
def CoordLessSaid : Prop := coordLessRow.holds Try.pinned (OpenSpec.ofChange coordLessSpec)

/-- ITS FALSE NEIGHBOUR: 'it returns false'. Refute it at one input. -/
def coordLessWrong : ChangeSpec := { name := "coordLess", fn := fun _ => fun
  | [d] => { results := [.lit (.bool false)], args := [d] }
  | _ => none }
def CoordLessWrongFalsely : Prop := coordLessRow.holds Try.pinned (OpenSpec.ofChange coordLessWrong)

/-- 'pontoonlaw19.CoordTwice': WHATEVER THE INPUT: true; the input reads as it did. -/
def coordTwiceSpec : ChangeSpec := { name := "coordTwice", fn := fun _ => fun
  | [d] => { results := [.lit (.bool true)], args := [d] }
  | _ => none }
def coordTwiceRow : OpenClaim := { program := "ytipiagjhijnmhaa", sum := "606ad7dd4bb544b88d5a7199a6659ee6295a4bcd690ebf9037ec91b4eca13e1e", func := "pontoon/pontoonlaw19.CoordTwice", spec := "coordTwice", unfollowed := true, recurses := true, apart := false }
def CoordTwiceSaid : Prop := coordTwiceRow.holds Try.pinned (OpenSpec.ofChange coordTwiceSpec)

/-- ITS FALSE NEIGHBOUR: 'it returns false'. Refute it at one input. -/
def coordTwiceWrong : ChangeSpec := { name := "coordTwice", fn := fun _ => fun
  | [d] => { results := [.lit (.bool false)], args := [d] }
  | _ => none }
def CoordTwiceWrongFalsely : Prop := coordTwiceRow.holds Try.pinned (OpenSpec.ofChange coordTwiceWrong)

/-- 'pontoonlaw07.OperJoins': WHATEVER THE INPUT: true; the input reads as it did. -/
def operJoinsSpec : ChangeSpec := { name := "operJoins", fn := fun _ => fun
  | [d1, d2, d3] => { results := [.lit (.bool true)], args := [d1, d2, d3] }
  | _ => none }
def operJoinsRow : OpenClaim := { program := "ytipiagjhijnmhaa", sum := "606ad7dd4bb544b88d5a7199a6659ee6295a4bcd690ebf9037ec91b4eca13e1e", func := "pontoon/pontoonlaw07.OperJoins", spec := "operJoins", inPlace := ["slices.overlaps[pontoon/api.KeyState]"], apart := false }
def OperJoinsSaid : Prop := operJoinsRow.holds Try.pinned (OpenSpec.ofChange operJoinsSpec)

/-- ITS FALSE NEIGHBOUR: 'it returns false'. Refute it at one input. -/
def operJoinsWrong : ChangeSpec := { name := "operJoins", fn := fun _ => fun
  | [d1, d2, d3] => { results := [.lit (.bool false)], args := [d1, d2, d3] }
  | _ => none }
def OperJoinsWrongFalsely : Prop := operJoinsRow.holds Try.pinned (OpenSpec.ofChange operJoinsWrong)

/-- 'pontoonlaw07.OperApart': WHATEVER THE INPUT: true; the input reads as it did. -/
def operApartSpec : ChangeSpec := { name := "operApart", fn := fun _ => fun
  | [d1, d2, d3] => { results := [.lit (.bool true)], args := [d1, d2, d3] }
  | _ => none }
def operApartRow : OpenClaim := { program := "ytipiagjhijnmhaa", sum := "606ad7dd4bb544b88d5a7199a6659ee6295a4bcd690ebf9037ec91b4eca13e1e", func := "pontoon/pontoonlaw07.OperApart", spec := "operApart", inPlace := ["slices.overlaps[pontoon/api.KeyState]"], apart := false }
def OperApartSaid : Prop := operApartRow.holds Try.pinned (OpenSpec.ofChange operApartSpec)

/-- ITS FALSE NEIGHBOUR: 'it returns false'. Refute it at one input. -/
def operApartWrong : ChangeSpec := { name := "operApart", fn := fun _ => fun
  | [d1, d2, d3] => { results := [.lit (.bool false)], args := [d1, d2, d3] }
  | _ => none }
def OperApartWrongFalsely : Prop := operApartRow.holds Try.pinned (OpenSpec.ofChange operApartWrong)

/-- 'pontoonlaw07.OperStays': WHATEVER THE INPUT: true; the input reads as it did. -/
def operStaysSpec : ChangeSpec := { name := "operStays", fn := fun _ => fun
  | [d1, d2, d3] => { results := [.lit (.bool true)], args := [d1, d2, d3] }
  | _ => none }
def operStaysRow : OpenClaim := { program := "ytipiagjhijnmhaa", sum := "606ad7dd4bb544b88d5a7199a6659ee6295a4bcd690ebf9037ec91b4eca13e1e", func := "pontoon/pontoonlaw07.OperStays", spec := "operStays", inPlace := ["slices.overlaps[pontoon/api.KeyState]"], apart := false }
def OperStaysSaid : Prop := operStaysRow.holds Try.pinned (OpenSpec.ofChange operStaysSpec)

/-- ITS FALSE NEIGHBOUR: 'it returns false'. Refute it at one input. -/
def operStaysWrong : ChangeSpec := { name := "operStays", fn := fun _ => fun
  | [d1, d2, d3] => { results := [.lit (.bool false)], args := [d1, d2, d3] }
  | _ => none }
def OperStaysWrongFalsely : Prop := operStaysRow.holds Try.pinned (OpenSpec.ofChange operStaysWrong)

/- THE SECOND FORM. 'bulk': how many values and letters a reading holds, each counted each time it is reached (what is shared counts as often as it is met; a slice's spare places count too). A statement '..UptoSaid' is the law's where the arguments, and the package variables that the reading takes, are together of bulk at most 1048576: NARROWER than '..Said'. Prove '..Said' where nothing that the law and all that it calls make is longer than what came in: it says more and counts as full. Else prove '..UptoSaid'. A law counts once. -/
mutual
def uptoBulk {H : Type} : DataW H → Nat
  | .lit (.string bytes) => bytes.length + 1
  | .lit _ => 1
  | .nil => 1
  | .ptr d => uptoBulk d + 1
  | .slice elems spare => uptoBulkAll elems + uptoBulkAll spare + 1
  | .agg parts => uptoBulkAll parts + 1
  | .iface _ d => uptoBulk d + 1
  | .map entries => uptoBulkEntries entries + 1
  | .held _ => 1
def uptoBulkAll {H : Type} : List (DataW H) → Nat
  | [] => 0
  | d :: r => uptoBulk d + uptoBulkAll r
def uptoBulkEntries {H : Type} : List (Lit × DataW H) → Nat
  | [] => 0
  | x :: r => uptoBulkEntry x + uptoBulkEntries r
def uptoBulkEntry {H : Type} : Lit × DataW H → Nat
  | (.string bytes, d) => bytes.length + uptoBulk d + 1
  | (_, d) => uptoBulk d + 1
 end
def uptoSmall : (H : Type) → List (DataW H) → Bool := fun _ ds => decide (uptoBulkAll ds ≤ 1048576)
def OpenSpec.upto (s : _root_.Go.ChangeSpec) : _root_.Go.OpenSpec := { _root_.Go.OpenSpec.ofChange s with cond := some uptoSmall }

/-- 'pontoonlaw19.CoordNew', WHERE WHAT IT READS IS OF BULK AT MOST 1048576: true; the input reads as it did. -/
def coordNewUptoRow : OpenClaim := { program := "ytipiagjhijnmhaa", sum := "606ad7dd4bb544b88d5a7199a6659ee6295a4bcd690ebf9037ec91b4eca13e1e", func := "pontoon/pontoonlaw19.CoordNew", spec := "coordNew", unfollowed := true, recurses := true, apart := false, narrowed := true }
def CoordNewUptoSaid : Prop := coordNewUptoRow.holds Try.pinned (OpenSpec.upto coordNewSpec)

/-- 'pontoonlaw19.CoordOrder', WHERE WHAT IT READS IS OF BULK AT MOST 1048576: true; the input reads as it did. -/
def coordOrderUptoRow : OpenClaim := { program := "ytipiagjhijnmhaa", sum := "606ad7dd4bb544b88d5a7199a6659ee6295a4bcd690ebf9037ec91b4eca13e1e", func := "pontoon/pontoonlaw19.CoordOrder", spec := "coordOrder", unfollowed := true, recurses := true, apart := false, narrowed := true }
def CoordOrderUptoSaid : Prop := coordOrderUptoRow.holds Try.pinned (OpenSpec.upto coordOrderSpec)

/-- 'pontoonlaw19.CoordLess', WHERE WHAT IT READS IS OF BULK AT MOST 1048576: true; the input reads as it did. -/
def coordLessUptoRow : OpenClaim := { program := "ytipiagjhijnmhaa", sum := "606ad7dd4bb544b88d5a7199a6659ee6295a4bcd690ebf9037ec91b4eca13e1e", func := "pontoon/pontoonlaw19.CoordLess", spec := "coordLess", unfollowed := true, recurses := true, apart := false, narrowed := true }
def CoordLessUptoSaid : Prop := coordLessUptoRow.holds Try.pinned (OpenSpec.upto coordLessSpec)

/-- 'pontoonlaw19.CoordTwice', WHERE WHAT IT READS IS OF BULK AT MOST 1048576: true; the input reads as it did. -/
def coordTwiceUptoRow : OpenClaim := { program := "ytipiagjhijnmhaa", sum := "606ad7dd4bb544b88d5a7199a6659ee6295a4bcd690ebf9037ec91b4eca13e1e", func := "pontoon/pontoonlaw19.CoordTwice", spec := "coordTwice", unfollowed := true, recurses := true, apart := false, narrowed := true }
def CoordTwiceUptoSaid : Prop := coordTwiceUptoRow.holds Try.pinned (OpenSpec.upto coordTwiceSpec)

/-- 'pontoonlaw07.OperJoins', WHERE WHAT IT READS IS OF BULK AT MOST 1048576: true; the input reads as it did. -/
def operJoinsUptoRow : OpenClaim := { program := "ytipiagjhijnmhaa", sum := "606ad7dd4bb544b88d5a7199a6659ee6295a4bcd690ebf9037ec91b4eca13e1e", func := "pontoon/pontoonlaw07.OperJoins", spec := "operJoins", inPlace := ["slices.overlaps[pontoon/api.KeyState]"], apart := false, narrowed := true }
def OperJoinsUptoSaid : Prop := operJoinsUptoRow.holds Try.pinned (OpenSpec.upto operJoinsSpec)

/-- 'pontoonlaw07.OperApart', WHERE WHAT IT READS IS OF BULK AT MOST 1048576: true; the input reads as it did. -/
def operApartUptoRow : OpenClaim := { program := "ytipiagjhijnmhaa", sum := "606ad7dd4bb544b88d5a7199a6659ee6295a4bcd690ebf9037ec91b4eca13e1e", func := "pontoon/pontoonlaw07.OperApart", spec := "operApart", inPlace := ["slices.overlaps[pontoon/api.KeyState]"], apart := false, narrowed := true }
def OperApartUptoSaid : Prop := operApartUptoRow.holds Try.pinned (OpenSpec.upto operApartSpec)

/-- 'pontoonlaw07.OperStays', WHERE WHAT IT READS IS OF BULK AT MOST 1048576: true; the input reads as it did. -/
def operStaysUptoRow : OpenClaim := { program := "ytipiagjhijnmhaa", sum := "606ad7dd4bb544b88d5a7199a6659ee6295a4bcd690ebf9037ec91b4eca13e1e", func := "pontoon/pontoonlaw07.OperStays", spec := "operStays", inPlace := ["slices.overlaps[pontoon/api.KeyState]"], apart := false, narrowed := true }
def OperStaysUptoSaid : Prop := operStaysUptoRow.holds Try.pinned (OpenSpec.upto operStaysSpec)

end Rows
end Go.Proofs.Ytipiagjhijnmhaa
