/-
  No cell of these rows narrows 'for every input' (looked for: loops, veiled, ifaces, maps, wideKeys, modest, calm, conditions, laid).
  DERIVED. THE GIVEN ROWS OF THIS SEAT. 9 by the template 'for every input the law returns true; each argument reads behind the call as it read before'; 0 by the template 'total and deterministic' (their statements: YtpfgofnmkaljaaaTotals.lean).
  GIVEN WITH THE SEED: the statements are not yours to turn. If you find one false, say at which input.
  Laid BY PROGRAM, IN A SANDBOX (cutbox-rows.mjs): the forced cells as the released guide's own fill.sh prints them over the translation 164a910aa9ad0505… (all of the seat's roots in one cut). By AI agents, Wed Nov 11 2026. No macro, syntax, notation, axiom, sorry.
-/
import Derived.Test.YtpfgofnmkaljaaaChecked
import GoSem.Claim
import GoSem.ClaimJoined
import GoSem.ClaimMapViews
import Derived.JoinedTies
import Derived.KernelRfl
namespace Go.Proofs.Ytpfgofnmkaljaaa
/- THE CELL 'sum', in the pinned program and in every row, IS THE sha256 OF THE DUMP (.gsa) THAT YtpfgofnmkaljaaaProg.lean LOADS. Nothing in Lean hashes anything: it is a label: what it is worth is what the hold of that sum in a sandbox is worth. -/
noncomputable def Try.pinned : Pinned := { name := "ytpfgofnmkaljaaa", sum := "164a910aa9ad0505994d3b9b9b8f1ba2be7c413b463c924a3cf6d189193934ee", checked := Try.checked }
namespace Rows
def none {H : Type} : Left H := { results := [], args := [] }

/-- 'pontoonlaw08.RunTurns': WHATEVER THE INPUT: true; the input reads as it did. -/
def runTurnsSpec : ChangeSpec := { name := "runTurns", fn := fun _ => fun
  | [d1, d2] => { results := [.lit (.bool true)], args := [d1, d2] }
  | _ => none }
def runTurnsRow : OpenClaim := { program := "ytpfgofnmkaljaaa", sum := "164a910aa9ad0505994d3b9b9b8f1ba2be7c413b463c924a3cf6d189193934ee", func := "pontoon/pontoonlaw08.RunTurns", spec := "runTurns", inPlace := ["slices.overlaps[pontoon/api.KeyState]"], unfollowed := true, recurses := true, plainKeys := false, apart := false }
def RunTurnsSaid : Prop := runTurnsRow.holds Try.pinned (OpenSpec.ofChange runTurnsSpec)

/-- ITS FALSE NEIGHBOUR: 'it returns false'. Refute it at one input. -/
def runTurnsWrong : ChangeSpec := { name := "runTurns", fn := fun _ => fun
  | [d1, d2] => { results := [.lit (.bool false)], args := [d1, d2] }
  | _ => none }
def RunTurnsWrongFalsely : Prop := runTurnsRow.holds Try.pinned (OpenSpec.ofChange runTurnsWrong)

/-- 'pontoonlaw08.RunOwn': WHATEVER THE INPUT: true; the input reads as it did. -/
def runOwnSpec : ChangeSpec := { name := "runOwn", fn := fun _ => fun
  | [d] => { results := [.lit (.bool true)], args := [d] }
  | _ => none }
def runOwnRow : OpenClaim := { program := "ytpfgofnmkaljaaa", sum := "164a910aa9ad0505994d3b9b9b8f1ba2be7c413b463c924a3cf6d189193934ee", func := "pontoon/pontoonlaw08.RunOwn", spec := "runOwn", inPlace := ["slices.overlaps[pontoon/api.KeyState]"], unfollowed := true, recurses := true, plainKeys := false, apart := false }
def RunOwnSaid : Prop := runOwnRow.holds Try.pinned (OpenSpec.ofChange runOwnSpec)

/-- ITS FALSE NEIGHBOUR: 'it returns false'. Refute it at one input. -/
def runOwnWrong : ChangeSpec := { name := "runOwn", fn := fun _ => fun
  | [d] => { results := [.lit (.bool false)], args := [d] }
  | _ => none }
def RunOwnWrongFalsely : Prop := runOwnRow.holds Try.pinned (OpenSpec.ofChange runOwnWrong)

/-- 'pontoonlaw10.TaskRoom': WHATEVER THE INPUT: true; the input reads as it did. -/
def taskRoomSpec : ChangeSpec := { name := "taskRoom", fn := fun _ => fun
  | [d1, d2, d3] => { results := [.lit (.bool true)], args := [d1, d2, d3] }
  | _ => none }
def taskRoomRow : OpenClaim := { program := "ytpfgofnmkaljaaa", sum := "164a910aa9ad0505994d3b9b9b8f1ba2be7c413b463c924a3cf6d189193934ee", func := "pontoon/pontoonlaw10.TaskRoom", spec := "taskRoom", inPlace := ["slices.overlaps[pontoon/api.KeyState]"], plainKeys := false, apart := false }
def TaskRoomSaid : Prop := taskRoomRow.holds Try.pinned (OpenSpec.ofChange taskRoomSpec)

/-- ITS FALSE NEIGHBOUR: 'it returns false'. Refute it at one input. -/
def taskRoomWrong : ChangeSpec := { name := "taskRoom", fn := fun _ => fun
  | [d1, d2, d3] => { results := [.lit (.bool false)], args := [d1, d2, d3] }
  | _ => none }
def TaskRoomWrongFalsely : Prop := taskRoomRow.holds Try.pinned (OpenSpec.ofChange taskRoomWrong)

/-- 'pontoonlaw08.RunGrows': WHATEVER THE INPUT: true; the input reads as it did. -/
def runGrowsSpec : ChangeSpec := { name := "runGrows", fn := fun _ => fun
  | [d1, d2, d3] => { results := [.lit (.bool true)], args := [d1, d2, d3] }
  | _ => none }
def runGrowsRow : OpenClaim := { program := "ytpfgofnmkaljaaa", sum := "164a910aa9ad0505994d3b9b9b8f1ba2be7c413b463c924a3cf6d189193934ee", func := "pontoon/pontoonlaw08.RunGrows", spec := "runGrows", inPlace := ["slices.overlaps[pontoon/api.KeyState]"], unfollowed := true, recurses := true, plainKeys := false, apart := false }
def RunGrowsSaid : Prop := runGrowsRow.holds Try.pinned (OpenSpec.ofChange runGrowsSpec)

/-- ITS FALSE NEIGHBOUR: 'it returns false'. Refute it at one input. -/
def runGrowsWrong : ChangeSpec := { name := "runGrows", fn := fun _ => fun
  | [d1, d2, d3] => { results := [.lit (.bool false)], args := [d1, d2, d3] }
  | _ => none }
def RunGrowsWrongFalsely : Prop := runGrowsRow.holds Try.pinned (OpenSpec.ofChange runGrowsWrong)

/-- 'pontoonlaw10.TaskIs': WHATEVER THE INPUT: true; the input reads as it did. -/
def taskIsSpec : ChangeSpec := { name := "taskIs", fn := fun _ => fun
  | [d1, d2] => { results := [.lit (.bool true)], args := [d1, d2] }
  | _ => none }
def taskIsRow : OpenClaim := { program := "ytpfgofnmkaljaaa", sum := "164a910aa9ad0505994d3b9b9b8f1ba2be7c413b463c924a3cf6d189193934ee", func := "pontoon/pontoonlaw10.TaskIs", spec := "taskIs", inPlace := ["slices.overlaps[pontoon/api.KeyState]"], plainKeys := false, apart := false }
def TaskIsSaid : Prop := taskIsRow.holds Try.pinned (OpenSpec.ofChange taskIsSpec)

/-- ITS FALSE NEIGHBOUR: 'it returns false'. Refute it at one input. -/
def taskIsWrong : ChangeSpec := { name := "taskIs", fn := fun _ => fun
  | [d1, d2] => { results := [.lit (.bool false)], args := [d1, d2] }
  | _ => none }
def TaskIsWrongFalsely : Prop := taskIsRow.holds Try.pinned (OpenSpec.ofChange taskIsWrong)

/-- 'pontoonlaw08.RunFair': WHATEVER THE INPUT: true; the input reads as it did. -/
def runFairSpec : ChangeSpec := { name := "runFair", fn := fun _ => fun
  | [d] => { results := [.lit (.bool true)], args := [d] }
  | _ => none }
def runFairRow : OpenClaim := { program := "ytpfgofnmkaljaaa", sum := "164a910aa9ad0505994d3b9b9b8f1ba2be7c413b463c924a3cf6d189193934ee", func := "pontoon/pontoonlaw08.RunFair", spec := "runFair", inPlace := ["slices.overlaps[pontoon/api.KeyState]"], unfollowed := true, recurses := true, plainKeys := false, apart := false }
def RunFairSaid : Prop := runFairRow.holds Try.pinned (OpenSpec.ofChange runFairSpec)

/-- ITS FALSE NEIGHBOUR: 'it returns false'. Refute it at one input. -/
def runFairWrong : ChangeSpec := { name := "runFair", fn := fun _ => fun
  | [d] => { results := [.lit (.bool false)], args := [d] }
  | _ => none }
def RunFairWrongFalsely : Prop := runFairRow.holds Try.pinned (OpenSpec.ofChange runFairWrong)

/-- 'pontoonlaw08.RunComes': WHATEVER THE INPUT: true; the input reads as it did. -/
def runComesSpec : ChangeSpec := { name := "runComes", fn := fun _ => fun
  | [d1, d2, d3] => { results := [.lit (.bool true)], args := [d1, d2, d3] }
  | _ => none }
def runComesRow : OpenClaim := { program := "ytpfgofnmkaljaaa", sum := "164a910aa9ad0505994d3b9b9b8f1ba2be7c413b463c924a3cf6d189193934ee", func := "pontoon/pontoonlaw08.RunComes", spec := "runComes", inPlace := ["slices.overlaps[pontoon/api.KeyState]"], unfollowed := true, recurses := true, plainKeys := false, apart := false }
def RunComesSaid : Prop := runComesRow.holds Try.pinned (OpenSpec.ofChange runComesSpec)

/-- ITS FALSE NEIGHBOUR: 'it returns false'. Refute it at one input. -/
def runComesWrong : ChangeSpec := { name := "runComes", fn := fun _ => fun
  | [d1, d2, d3] => { results := [.lit (.bool false)], args := [d1, d2, d3] }
  | _ => none }
def RunComesWrongFalsely : Prop := runComesRow.holds Try.pinned (OpenSpec.ofChange runComesWrong)

/-- 'pontoonlaw10.TaskWhoever': WHATEVER THE INPUT: true; the input reads as it did. -/
def taskWhoeverSpec : ChangeSpec := { name := "taskWhoever", fn := fun _ => fun
  | [d1, d2, d3, d4] => { results := [.lit (.bool true)], args := [d1, d2, d3, d4] }
  | _ => none }
def taskWhoeverRow : OpenClaim := { program := "ytpfgofnmkaljaaa", sum := "164a910aa9ad0505994d3b9b9b8f1ba2be7c413b463c924a3cf6d189193934ee", func := "pontoon/pontoonlaw10.TaskWhoever", spec := "taskWhoever", inPlace := ["slices.overlaps[pontoon/api.KeyState]"], unfollowed := true, recurses := true, plainKeys := false, apart := false }
def TaskWhoeverSaid : Prop := taskWhoeverRow.holds Try.pinned (OpenSpec.ofChange taskWhoeverSpec)

/-- ITS FALSE NEIGHBOUR: 'it returns false'. Refute it at one input. -/
def taskWhoeverWrong : ChangeSpec := { name := "taskWhoever", fn := fun _ => fun
  | [d1, d2, d3, d4] => { results := [.lit (.bool false)], args := [d1, d2, d3, d4] }
  | _ => none }
def TaskWhoeverWrongFalsely : Prop := taskWhoeverRow.holds Try.pinned (OpenSpec.ofChange taskWhoeverWrong)

/-- 'pontoonlaw10.TaskNone': WHATEVER THE INPUT: true; the input reads as it did. -/
def taskNoneSpec : ChangeSpec := { name := "taskNone", fn := fun _ => fun
  | [d] => { results := [.lit (.bool true)], args := [d] }
  | _ => none }
def taskNoneRow : OpenClaim := { program := "ytpfgofnmkaljaaa", sum := "164a910aa9ad0505994d3b9b9b8f1ba2be7c413b463c924a3cf6d189193934ee", func := "pontoon/pontoonlaw10.TaskNone", spec := "taskNone", inPlace := ["slices.overlaps[pontoon/api.KeyState]"], unfollowed := true, recurses := true, plainKeys := false, apart := false }
def TaskNoneSaid : Prop := taskNoneRow.holds Try.pinned (OpenSpec.ofChange taskNoneSpec)

/-- ITS FALSE NEIGHBOUR: 'it returns false'. Refute it at one input. -/
def taskNoneWrong : ChangeSpec := { name := "taskNone", fn := fun _ => fun
  | [d] => { results := [.lit (.bool false)], args := [d] }
  | _ => none }
def TaskNoneWrongFalsely : Prop := taskNoneRow.holds Try.pinned (OpenSpec.ofChange taskNoneWrong)

/- THE SECOND FORM. 'bulk': how many values and letters a reading holds, each counted each time it is reached (what is shared counts as often as it is met; a slice's spare places count too). A statement '..UptoSaid' is the law's where the arguments, and the package variables that the reading takes, are together of bulk at most 1048576: NARROWER than '..Said'. Prove '..Said' where nothing that the law and all that it calls make is longer than what came in: it says more and counts as full. Else prove '..UptoSaid'. A law counts once. -/
mutual
def uptoBulk {H : Type} : DataW H → Nat
  | .lit (.string bytes) => bytes.length + 1
  | .lit _ => 1
  | .nil => 1
  | .ptr d => uptoBulk d + 1
  | .slice elems spare => uptoBulkAll elems + uptoBulkAll spare + 1
  | .agg parts => uptoBulkAll parts + 1
  | .iface _ d => uptoBulk d + 1
  | .map entries => uptoBulkEntries entries + 1
  | .held _ => 1
def uptoBulkAll {H : Type} : List (DataW H) → Nat
  | [] => 0
  | d :: r => uptoBulk d + uptoBulkAll r
def uptoBulkEntries {H : Type} : List (Lit × DataW H) → Nat
  | [] => 0
  | x :: r => uptoBulkEntry x + uptoBulkEntries r
def uptoBulkEntry {H : Type} : Lit × DataW H → Nat
  | (.string bytes, d) => bytes.length + uptoBulk d + 1
  | (_, d) => uptoBulk d + 1
 end
def uptoSmall : (H : Type) → List (DataW H) → Bool := fun _ ds => decide (uptoBulkAll ds ≤ 1048576)
def OpenSpec.upto (s : _root_.Go.ChangeSpec) : _root_.Go.OpenSpec := { _root_.Go.OpenSpec.ofChange s with cond := some uptoSmall }

/-- 'pontoonlaw08.RunTurns', WHERE WHAT IT READS IS OF BULK AT MOST 1048576: true; the input reads as it did. -/
def runTurnsUptoRow : OpenClaim := { program := "ytpfgofnmkaljaaa", sum := "164a910aa9ad0505994d3b9b9b8f1ba2be7c413b463c924a3cf6d189193934ee", func := "pontoon/pontoonlaw08.RunTurns", spec := "runTurns", inPlace := ["slices.overlaps[pontoon/api.KeyState]"], unfollowed := true, recurses := true, plainKeys := false, apart := false, narrowed := true }
def RunTurnsUptoSaid : Prop := runTurnsUptoRow.holds Try.pinned (OpenSpec.upto runTurnsSpec)

/-- 'pontoonlaw08.RunOwn', WHERE WHAT IT READS IS OF BULK AT MOST 1048576: true; the input reads as it did. -/
def runOwnUptoRow : OpenClaim := { program := "ytpfgofnmkaljaaa", sum := "164a910aa9ad0505994d3b9b9b8f1ba2be7c413b463c924a3cf6d189193934ee", func := "pontoon/pontoonlaw08.RunOwn", spec := "runOwn", inPlace := ["slices.overlaps[pontoon/api.KeyState]"], unfollowed := true, recurses := true, plainKeys := false, apart := false, narrowed := true }
def RunOwnUptoSaid : Prop := runOwnUptoRow.holds Try.pinned (OpenSpec.upto runOwnSpec)

/-- 'pontoonlaw10.TaskRoom', WHERE WHAT IT READS IS OF BULK AT MOST 1048576: true; the input reads as it did. -/
def taskRoomUptoRow : OpenClaim := { program := "ytpfgofnmkaljaaa", sum := "164a910aa9ad0505994d3b9b9b8f1ba2be7c413b463c924a3cf6d189193934ee", func := "pontoon/pontoonlaw10.TaskRoom", spec := "taskRoom", inPlace := ["slices.overlaps[pontoon/api.KeyState]"], plainKeys := false, apart := false, narrowed := true }
def TaskRoomUptoSaid : Prop := taskRoomUptoRow.holds Try.pinned (OpenSpec.upto taskRoomSpec)

/-- 'pontoonlaw08.RunGrows', WHERE WHAT IT READS IS OF BULK AT MOST 1048576: true; the input reads as it did. -/
def runGrowsUptoRow : OpenClaim := { program := "ytpfgofnmkaljaaa", sum := "164a910aa9ad0505994d3b9b9b8f1ba2be7c413b463c924a3cf6d189193934ee", func := "pontoon/pontoonlaw08.RunGrows", spec := "runGrows", inPlace := ["slices.overlaps[pontoon/api.KeyState]"], unfollowed := true, recurses := true, plainKeys := false, apart := false, narrowed := true }
def RunGrowsUptoSaid : Prop := runGrowsUptoRow.holds Try.pinned (OpenSpec.upto runGrowsSpec)

/-- 'pontoonlaw10.TaskIs', WHERE WHAT IT READS IS OF BULK AT MOST 1048576: true; the input reads as it did. -/
def taskIsUptoRow : OpenClaim := { program := "ytpfgofnmkaljaaa", sum := "164a910aa9ad0505994d3b9b9b8f1ba2be7c413b463c924a3cf6d189193934ee", func := "pontoon/pontoonlaw10.TaskIs", spec := "taskIs", inPlace := ["slices.overlaps[pontoon/api.KeyState]"], plainKeys := false, apart := false, narrowed := true }
def TaskIsUptoSaid : Prop := taskIsUptoRow.holds Try.pinned (OpenSpec.upto taskIsSpec)

/-- 'pontoonlaw08.RunFair', WHERE WHAT IT READS IS OF BULK AT MOST 1048576: true; the input reads as it did. -/
def runFairUptoRow : OpenClaim := { program := "ytpfgofnmkaljaaa", sum := "164a910aa9ad0505994d3b9b9b8f1ba2be7c413b463c924a3cf6d189193934ee", func := "pontoon/pontoonlaw08.RunFair", spec := "runFair", inPlace := ["slices.overlaps[pontoon/api.KeyState]"], unfollowed := true, recurses := true, plainKeys := false, apart := false, narrowed := true }
def RunFairUptoSaid : Prop := runFairUptoRow.holds Try.pinned (OpenSpec.upto runFairSpec)

/-- 'pontoonlaw08.RunComes', WHERE WHAT IT READS IS OF BULK AT MOST 1048576: true; the input reads as it did. -/
def runComesUptoRow : OpenClaim := { program := "ytpfgofnmkaljaaa", sum := "164a910aa9ad0505994d3b9b9b8f1ba2be7c413b463c924a3cf6d189193934ee", func := "pontoon/pontoonlaw08.RunComes", spec := "runComes", inPlace := ["slices.overlaps[pontoon/api.KeyState]"], unfollowed := true, recurses := true, plainKeys := false, apart := false, narrowed := true }
def RunComesUptoSaid : Prop := runComesUptoRow.holds Try.pinned (OpenSpec.upto runComesSpec)

/-- 'pontoonlaw10.TaskWhoever', WHERE WHAT IT READS IS OF BULK AT MOST 1048576: true; the input reads as it did. -/
def taskWhoeverUptoRow : OpenClaim := { program := "ytpfgofnmkaljaaa", sum := "164a910aa9ad0505994d3b9b9b8f1ba2be7c413b463c924a3cf6d189193934ee", func := "pontoon/pontoonlaw10.TaskWhoever", spec := "taskWhoever", inPlace := ["slices.overlaps[pontoon/api.KeyState]"], unfollowed := true, recurses := true, plainKeys := false, apart := false, narrowed := true }
def TaskWhoeverUptoSaid : Prop := taskWhoeverUptoRow.holds Try.pinned (OpenSpec.upto taskWhoeverSpec)

/-- 'pontoonlaw10.TaskNone', WHERE WHAT IT READS IS OF BULK AT MOST 1048576: true; the input reads as it did. -/
def taskNoneUptoRow : OpenClaim := { program := "ytpfgofnmkaljaaa", sum := "164a910aa9ad0505994d3b9b9b8f1ba2be7c413b463c924a3cf6d189193934ee", func := "pontoon/pontoonlaw10.TaskNone", spec := "taskNone", inPlace := ["slices.overlaps[pontoon/api.KeyState]"], unfollowed := true, recurses := true, plainKeys := false, apart := false, narrowed := true }
def TaskNoneUptoSaid : Prop := taskNoneUptoRow.holds Try.pinned (OpenSpec.upto taskNoneSpec)

end Rows
end Go.Proofs.Ytpfgofnmkaljaaa
