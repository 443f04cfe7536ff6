/-
  OperStays: the statement.
-/
import Derived.Test.YtipiagjhijnmhaaR0
import Derived.Test.YtipiagjhijnmhaaOR2
import Derived.Test.YtipiagjhijnmhaaH5
import Derived.Below
import Derived.Carry
set_option linter.unusedVariables false
set_option linter.unusedSimpArgs false
namespace Go.Proofs.Ytipiagjhijnmhaa.operStays
open Go Go.ChangeShapes Go.WideShapes Go.ChangeAt Go.RowKit Go.Ab

theorem own : ownKnob Try.prog.godebug = none := by kernel_rfl
theorem laidOut : laidOutB Try.prog = true := by kernel_rfl

set_option maxRecDepth 100000 in
theorem contract (H : Type) (enc : TypeId × Value → H) (W : World) (base : Nat) (args : Array Value) (ds gs : List (DataW H)) (before : List MemPlace)
    (hval : ∀ (j : Nat) t v, Try.f9.params[j]? = some t → args[j]? = some v → Value.okWide Try.prog W .any base t v)
    (hW : DataW.Whole enc Try.prog Try.f9.params.toList Rows.operStaysSpec.vars false W args.toList ds gs before) (hk : Rows.uptoSmall H (ds ++ gs) = true) :
    Calls Try.prog 9 args W fun e W' => ∃ v, e = .returned v ∧ Rows.operStaysSpec.post enc Try.prog Try.f9 false true false false W args v W' := by
  have hW' := hW
  obtain ⟨p, q, hA0, hV, rfl, hfz, hnd⟩ := hW
  have hA : DataW.TrodAll enc Try.prog W 0 (fun _ => true) true Try.f9.params.toList args.toList ds p := hA0
  rw [Try.params9] at hA hval
  obtain ⟨v0, v1, v2, d0, d1, d2, p0, p1, p2, rfl, rfl, rfl, h0, h1, h2⟩ := trodAll_three hA
  obtain ⟨rfl, rfl⟩ := trodVars_none hV
  clear hA0
  simp only [List.append_nil] at hW' hk
  have hbulk : Rows.uptoBulkAll [d0, d1, d2] ≤ 1048576 := of_decide_eq_true hk
  simp only [Rows.uptoBulkAll] at hbulk
  have h0k := h0
  obtain ⟨n0, rfl, hs0⟩ := okWide_struct (Go.Ab.Try.k76.1) (hval 0 76 v0 rfl rfl)
  obtain ⟨f0, t0⟩ := h0
  obtain ⟨u0, ul0, ur0, ut0⟩ := Go.Ab.read_sh (B := 1048576) (by decide) _ _ Go.Ab.Try.has_SGraph_76 f0 _ _ t0 (by simp only; omega)
  obtain ⟨b0, rfl, in0⟩ := Go.Ab.Try.in_SGraph ut0
  have r0 := Go.Ab.rep_struct ul0 ur0
  have h1k := h1
  obtain ⟨a1, m1, c1, rfl⟩ := okWide_slice (Go.Ab.Try.k26.1) (hval 1 26 v1 rfl rfl)
  obtain ⟨f1, t1⟩ := h1
  obtain ⟨u1, ul1, ur1, ut1⟩ := Go.Ab.read_sh (B := 1048576) (by decide) _ _ Go.Ab.Try.has_L_SRecord_26 f1 _ _ t1 (by simp only; omega)
  obtain ⟨b1, rfl, in1⟩ := Go.Ab.Try.in_L_SRecord ut1
  have r1 := ur1 0 _ _ rfl (show (Value.cells (.slice a1 m1 c1)).toList[0]? = some _ from rfl)
  have h2k := h2
  obtain ⟨n2, rfl, hs2⟩ := okWide_struct (Go.Ab.Try.k60.1) (hval 2 60 v2 rfl rfl)
  obtain ⟨f2, t2⟩ := h2
  obtain ⟨u2, ul2, ur2, ut2⟩ := Go.Ab.read_sh (B := 1048576) (by decide) _ _ Go.Ab.Try.has_SOpState_60 f2 _ _ t2 (by simp only; omega)
  obtain ⟨b2, rfl, in2⟩ := Go.Ab.Try.in_SOpState ut2
  have r2 := Go.Ab.rep_struct ul2 ur2
  have hcall := (Go.Ab.Try.operStays_t b0 b1 b2 (Go.Ab.Try.SGraph.in_sz in0) (by omega) (Go.Ab.Try.SOpState.in_sz in2) in2.1.1).2 (fun g => g < W.heap.size) W [.agg n0, .slice a1 m1 c1, .agg n2] (fun g hg => hg) rfl (fun i av v ha hv => by
    match i with
    | 0 => simp at ha hv; subst ha hv; exact r0
    | 1 => simp at ha hv; subst ha hv; exact .c _ _ r1
    | 2 => simp at ha hv; subst ha hv; exact r2
    | i + 3 => simp at ha)
  refine hcall.mono fun e W' ⟨v, he, hr, hbel⟩ => ?_
  subst he
  have hv : v = .bool true := by
    cases hr with
    | c _ _ hu => cases hu; rfl
  subst hv
  have hlt0 : ∀ y ∈ p0, y.block < W.heap.size := fun y hy => hW'.lt y (by simp [hy])
  have g0 := Below.trod laidOut (by kernel_rfl) (of_decide_eq_true (by kernel_rfl)) h0k hbel hlt0
  have hlt1 : ∀ y ∈ p1, y.block < W.heap.size := fun y hy => hW'.lt y (by simp [hy])
  have g1 := Below.trod laidOut (by kernel_rfl) (of_decide_eq_true (by kernel_rfl)) h1k hbel hlt1
  have hlt2 : ∀ y ∈ p2, y.block < W.heap.size := fun y hy => hW'.lt y (by simp [hy])
  have g2 := Below.trod laidOut (by kernel_rfl) (of_decide_eq_true (by kernel_rfl)) h2k hbel hlt2
  refine ⟨_, rfl, _, _, _, [], _, [], hW', ?_, trodAll_mk3 g0 g1 g2, rfl, hbel.frame _, fun h => by cases h⟩
  exact trodAll_mk1 (shut_bool Try.underlying4 true)

set_option maxRecDepth 100000 in
theorem lifted (os : Os) (started : os.Started) (H : Type) (enc : TypeId × Value → H) (F : Stop.Interp) :
    ReturnsInHanded {} Try.checked os 9 .any ((Rows.OpenSpec.upto Rows.operStaysSpec).pre6 enc Try.prog Try.f9 Rows.operStaysUptoRow.domain false) (((Rows.OpenSpec.upto Rows.operStaysSpec).at F).post enc Try.prog Try.f9 false true false false) := by
  refine returnsInHanded_of_cond (C := Try.checked) (s := Rows.OpenSpec.upto Rows.operStaysSpec) (k := Rows.uptoSmall) rfl own started (by kernel_rfl) Try.func9
    (OpenSpec.witness (enc := enc) (C := Try.checked) (s := Rows.OpenSpec.upto Rows.operStaysSpec) (k := Rows.uptoSmall) rfl false ⟨#[], #[.agg #[.int .i64 0, .slice none 0 0], .slice none 0 0, .agg #[.slice none 0 0, .int .i64 0]], []⟩ 8 (by kernel_rfl) (by kernel_rfl) (by kernel_rfl)
      (x := ([.agg [.lit (.int .i64 0), .nil], .nil, .agg [.nil, .lit (.int .i64 0)]], [], [])) (by kernel_rfl) rfl (by kernel_rfl)) ?_
  intro W base args ds gs before hval hW _ hk _
  exact contract H enc W base args ds gs before hval hW hk

theorem proved : Rows.OperStaysUptoSaid :=
  OpenClaim.holds_of_cond 9 Try.f9 rfl rfl rfl rfl rfl rfl rfl ⟨rfl, rfl, rfl, rfl, rfl⟩ rfl rfl rfl rfl rfl (by kernel_rfl) Try.func9 (by kernel_rfl)
    (of_decide_eq_true (by kernel_rfl)) (by unfold Func.isWrapper; first | (rw [if_pos (by decide +kernel)]; kernel_rfl) | (rw [if_neg (by decide +kernel)]; exact ⟨rfl, rfl⟩))
    (fun os started H enc _ F => lifted os started H enc F)
#print axioms proved
end Go.Proofs.Ytipiagjhijnmhaa.operStays
