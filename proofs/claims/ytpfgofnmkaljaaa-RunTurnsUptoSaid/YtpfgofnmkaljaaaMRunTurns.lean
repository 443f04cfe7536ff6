/-
  RunTurns: the statement.
-/
import Derived.Test.YtpfgofnmkaljaaaMg20
import Derived.Test.YtpfgofnmkaljaaaMg36
import Derived.Test.YtpfgofnmkaljaaaMg53
import Derived.Below
import Derived.Carry
set_option linter.unusedVariables false
set_option linter.unusedSimpArgs false
namespace Go.Proofs.Ytpfgofnmkaljaaa.runTurns
open Go Go.ChangeShapes Go.WideShapes Go.ChangeAt Go.RowKit Go.Ab
theorem own : ownKnob Try.prog.godebug = none := by kernel_rfl
theorem laidOut : laidOutB Try.prog = true := by kernel_rfl
set_option maxRecDepth 100000 in
theorem contract (H : Type) (enc : TypeId × Value → H) (W : World) (base : Nat) (args : Array Value) (ds gs : List (DataW H)) (before : List MemPlace)
    (hval : ∀ (j : Nat) t v, Try.f3.params[j]? = some t → args[j]? = some v → Value.okWide Try.prog W .any base t v)
    (hW : DataW.Whole enc Try.prog Try.f3.params.toList Rows.runTurnsSpec.vars false W args.toList ds gs before) (hk : Rows.uptoSmall H (ds ++ gs) = true) :
    Calls Try.prog 3 args W fun e W' => ∃ v, e = .returned v ∧ Rows.runTurnsSpec.post enc Try.prog Try.f3 false true false false W args v W' := by
  have hW' := hW
  obtain ⟨p, q, hA0, hV, rfl, hfz, hnd⟩ := hW
  have hA : DataW.TrodAll enc Try.prog W 0 (fun _ => true) true Try.f3.params.toList args.toList ds p := hA0
  rw [Try.params3] at hA hval
  obtain ⟨v0, v1, d0, d1, p0, p1, rfl, rfl, rfl, h0, h1⟩ := trodAll_two hA
  obtain ⟨rfl, rfl⟩ := trodVars_none hV
  clear hA0
  simp only [List.append_nil] at hW' hk
  have hbulk : Rows.uptoBulkAll [d0, d1] ≤ 1048576 := of_decide_eq_true hk
  simp only [Rows.uptoBulkAll] at hbulk
  have h0k := h0
  obtain ⟨n0, rfl, hn0, hx0⟩ := intWide (Go.Ab.Try.k3.1) (hval 0 3 v0 rfl rfl)
  have hn0 : (-9223372036854775808 : Int) ≤ n0 := by simpa [IntKind.min, IntKind.signed, IntKind.bits] using hn0
  have hx0 : n0 ≤ (9223372036854775807 : Int) := by simpa [IntKind.max, IntKind.signed, IntKind.bits] using hx0
  have h1k := h1
  obtain ⟨a1, m1, c1, rfl⟩ := okWide_slice (Go.Ab.Try.k22.1) (hval 1 22 v1 rfl rfl)
  obtain ⟨f1, t1⟩ := h1
  obtain ⟨u1, ul1, ur1, ut1, uw1⟩ := Go.Ab.read_shW (B := 1048576) (by decide) _ _ Go.Ab.Try.has_L_L_SRecord_22 f1 _ _ t1 (by simp only; omega)
  obtain ⟨b1, rfl, in1⟩ := Go.Ab.Try.in_L_L_SRecord ut1
  have r1 := ur1 0 _ _ rfl (show (Value.cells (.slice a1 m1 c1)).toList[0]? = some _ from rfl)
  have hcall := (Go.Ab.Try.runTurns_t n0 b1 (Go.Ab.Try.tot_ok uw1 (by simp only; omega)) in1.1 (fun y hy => (in1.2 y hy).1)).2 (fun g => g < W.heap.size) W [.int .i64 n0, .slice a1 m1 c1] (fun g hg => hg) rfl (fun i av v ha hv => by
    match i with
    | 0 => simp at ha hv; subst ha hv; exact .c _ _ (.val _ rfl)
    | 1 => simp at ha hv; subst ha hv; exact .c _ _ r1
    | i + 2 => simp at ha)
  refine hcall.mono fun e W' ⟨v, he, hr, hbel⟩ => ?_
  subst he
  have hv : v = .bool true := by
    cases hr with
    | c _ _ hu => cases hu; rfl
  subst hv
  have hlt0 : ∀ y ∈ p0, y.block < W.heap.size := fun y hy => hW'.lt y (by simp [hy])
  have g0 := Below.trod laidOut (by kernel_rfl) (of_decide_eq_true (by kernel_rfl)) h0k hbel hlt0
  have hlt1 : ∀ y ∈ p1, y.block < W.heap.size := fun y hy => hW'.lt y (by simp [hy])
  have g1 := Below.trod laidOut (by kernel_rfl) (of_decide_eq_true (by kernel_rfl)) h1k hbel hlt1
  refine ⟨_, rfl, _, _, _, [], _, [], hW', ?_, trodAll_mk2 g0 g1, rfl, hbel.frame _, fun h => by cases h⟩
  exact trodAll_mk1 (shut_bool Try.underlying4 true)
set_option maxRecDepth 100000 in
theorem lifted (os : Os) (started : os.Started) (H : Type) (enc : TypeId × Value → H) (F : Stop.Interp) :
    ReturnsInHanded {} Try.checked os 3 .any ((Rows.OpenSpec.upto Rows.runTurnsSpec).pre6 enc Try.prog Try.f3 Rows.runTurnsUptoRow.domain false) (((Rows.OpenSpec.upto Rows.runTurnsSpec).at F).post enc Try.prog Try.f3 false true false false) := by
  refine returnsInHanded_of_cond (C := Try.checked) (s := Rows.OpenSpec.upto Rows.runTurnsSpec) (k := Rows.uptoSmall) rfl own started (by kernel_rfl) Try.func3
    (OpenSpec.witness (enc := enc) (C := Try.checked) (s := Rows.OpenSpec.upto Rows.runTurnsSpec) (k := Rows.uptoSmall) rfl false ⟨#[], #[.int .i64 0, .slice none 0 0], []⟩ 8 (by kernel_rfl) (by kernel_rfl) (by kernel_rfl)
      (x := ([.lit (.int .i64 0), .nil], [], [])) (by kernel_rfl) rfl (by kernel_rfl)) ?_
  intro W base args ds gs before hval hW _ hk _
  exact contract H enc W base args ds gs before hval hW hk
theorem proved : Rows.RunTurnsUptoSaid :=
  OpenClaim.holds_of_cond 3 Try.f3 rfl rfl rfl rfl rfl rfl rfl ⟨rfl, rfl, rfl, rfl, rfl⟩ rfl rfl rfl rfl rfl (by kernel_rfl) Try.func3 (by kernel_rfl)
    (of_decide_eq_true (by kernel_rfl)) (by unfold Func.isWrapper; first | (rw [if_pos (by decide +kernel)]; kernel_rfl) | (rw [if_neg (by decide +kernel)]; exact ⟨rfl, rfl⟩))
    (fun os started H enc _ F => lifted os started H enc F)
#print axioms proved
end Go.Proofs.Ytpfgofnmkaljaaa.runTurns
