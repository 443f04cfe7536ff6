/-
  FrameDamage: the statement.
-/
import Derived.Test.YtnlpmpndhngimaaE1b
import Derived.Test.YtnlpmpndhngimaaS10
import Derived.Below
import Derived.Carry
set_option linter.unusedVariables false
set_option linter.unusedSimpArgs false
namespace Go.Proofs.Ytnlpmpndhngimaa.frameDamage
open Go Go.ChangeShapes Go.WideShapes Go.ChangeAt Go.RowKit Go.Ab

theorem own : ownKnob Try.prog.godebug = none := by kernel_rfl
theorem laidOut : laidOutB Try.prog = true := by kernel_rfl

theorem contract (H : Type) (enc : TypeId × Value → H) (W : World) (base : Nat) (args : Array Value) (ds gs : List (DataW H)) (before : List MemPlace)
    (hval : ∀ (j : Nat) t v, Try.f6.params[j]? = some t → args[j]? = some v → Value.okWide Try.prog W .any base t v)
    (hW : DataW.Whole enc Try.prog Try.f6.params.toList Rows.frameDamageSpec.vars false W args.toList ds gs before) (hk : Rows.uptoSmall H (ds ++ gs) = true) :
    Calls Try.prog 6 args W fun e W' => ∃ v, e = .returned v ∧ Rows.frameDamageSpec.post enc Try.prog Try.f6 false true false false W args v W' := by
  have hW' := hW
  obtain ⟨p, q, hA0, hV, rfl, hfz, hnd⟩ := hW
  have hA : DataW.TrodAll enc Try.prog W 0 (fun _ => true) true Try.f6.params.toList args.toList ds p := hA0
  rw [Try.params6] at hA hval
  obtain ⟨v0, v1, v2, d0, d1, d2, p0, p1, p2, rfl, rfl, rfl, h0, h1, h2⟩ := trodAll_three hA
  obtain ⟨rfl, rfl⟩ := trodVars_none hV
  obtain ⟨a0, m0, c0, rfl⟩ := okWide_slice (Go.Ab.Try.k23.1) (hval 0 23 v0 rfl rfl)
  obtain ⟨n1, rfl, hn1, hx1⟩ := int_wide (Go.Ab.Try.k54.1) (hval 1 54 v1 rfl rfl)
  have hn1 : (0 : Int) ≤ n1 := by simpa [IntKind.min, IntKind.signed, IntKind.bits] using hn1
  have hx1 : n1 ≤ (65535 : Int) := by simpa [IntKind.max, IntKind.signed, IntKind.bits] using hx1
  obtain ⟨n1, rfl⟩ : ∃ m : Nat, n1 = m := ⟨n1.toNat, by omega⟩
  obtain ⟨n2, rfl, hn2, hx2⟩ := int_wide (Go.Ab.Try.k31.1) (hval 2 31 v2 rfl rfl)
  have hn2 : (0 : Int) ≤ n2 := by simpa [IntKind.min, IntKind.signed, IntKind.bits] using hn2
  have hx2 : n2 ≤ (4294967295 : Int) := by simpa [IntKind.max, IntKind.signed, IntKind.bits] using hx2
  obtain ⟨n2, rfl⟩ : ∃ m : Nat, n2 = m := ⟨n2.toNat, by omega⟩
  have h0k := h0
  have h1k := h1
  have h2k := h2
  obtain ⟨f0, t0⟩ := h0
  obtain ⟨_, b0, e0, r0, l0⟩ := Go.Ab.Try.lists_in t0
  simp only [Value.cells, List.cons.injEq, and_true] at e0 l0
  subst e0
  clear hA0
  simp only [List.append_nil] at hW' hk
  have hbulk : Rows.uptoBulkAll [d0, d1, d2] ≤ 1048576 := of_decide_eq_true hk
  simp only [Rows.uptoBulkAll] at hbulk
  have hcall := (Go.Ab.Try.damage_t b0 n1 n2 (by omega) (by omega) (by omega) (by omega)).2 (fun g => g < W.heap.size) W [.slice a0 m0 c0, .int .u16 n1, .int .u32 n2] (fun g hg => hg) rfl (fun i av v ha hv => by
    match i with
    | 0 => simp at ha hv; subst ha hv; exact .c _ _ r0
    | 1 => simp at ha hv; subst ha hv; exact .c _ _ (.val _ rfl)
    | 2 => simp at ha hv; subst ha hv; exact .c _ _ (.val _ rfl)
    | i + 3 => simp at ha)
  refine hcall.mono fun e W' ⟨v, he, hr, hbel⟩ => ?_
  subst he
  have hv : v = .bool true := by
    cases hr with
    | c _ _ hu => cases hu; rfl
  subst hv
  have hlt0 : ∀ y ∈ p0, y.block < W.heap.size := fun y hy => hW'.lt y (by simp [hy])
  have g0 := Below.trod laidOut (by kernel_rfl) (of_decide_eq_true (by kernel_rfl)) h0k hbel hlt0
  have hlt1 : ∀ y ∈ p1, y.block < W.heap.size := fun y hy => hW'.lt y (by simp [hy])
  have g1 := Below.trod laidOut (by kernel_rfl) (of_decide_eq_true (by kernel_rfl)) h1k hbel hlt1
  have hlt2 : ∀ y ∈ p2, y.block < W.heap.size := fun y hy => hW'.lt y (by simp [hy])
  have g2 := Below.trod laidOut (by kernel_rfl) (of_decide_eq_true (by kernel_rfl)) h2k hbel hlt2
  refine ⟨_, rfl, _, _, _, [], _, [], hW', ?_, trodAll_mk3 g0 g1 g2, rfl, hbel.frame _, fun h => by cases h⟩
  exact trodAll_mk1 (shut_bool Try.underlying4 true)

set_option maxRecDepth 100000 in
theorem lifted (os : Os) (started : os.Started) (H : Type) (enc : TypeId × Value → H) (F : Stop.Interp) :
    ReturnsInHanded {} Try.checked os 6 .any ((Rows.OpenSpec.upto Rows.frameDamageSpec).pre6 enc Try.prog Try.f6 Rows.frameDamageUptoRow.domain false) (((Rows.OpenSpec.upto Rows.frameDamageSpec).at F).post enc Try.prog Try.f6 false true false false) := by
  refine returnsInHanded_of_cond (C := Try.checked) (s := Rows.OpenSpec.upto Rows.frameDamageSpec) (k := Rows.uptoSmall) rfl own started (by kernel_rfl) Try.func6
    (OpenSpec.witness (enc := enc) (C := Try.checked) (s := Rows.OpenSpec.upto Rows.frameDamageSpec) (k := Rows.uptoSmall) rfl false ⟨#[], #[.slice none 0 0, .int .u16 0, .int .u32 0], []⟩ 8 (by kernel_rfl) (by kernel_rfl) (by kernel_rfl)
      (x := ([.nil, .lit (.int .u16 0), .lit (.int .u32 0)], [], [])) (by kernel_rfl) rfl (by kernel_rfl)) ?_
  intro W base args ds gs before hval hW _ hk _
  exact contract H enc W base args ds gs before hval hW hk

theorem proved : Rows.FrameDamageUptoSaid :=
  OpenClaim.holds_of_cond 6 Try.f6 rfl rfl rfl rfl rfl rfl rfl ⟨rfl, rfl, rfl, rfl, rfl⟩ rfl rfl rfl rfl rfl (by kernel_rfl) Try.func6 (by kernel_rfl)
    (of_decide_eq_true (by kernel_rfl)) (by unfold Func.isWrapper; first | (rw [if_pos (by decide +kernel)]; kernel_rfl) | (rw [if_neg (by decide +kernel)]; exact ⟨rfl, rfl⟩))
    (fun os started H enc _ F => lifted os started H enc F)
#print axioms proved
end Go.Proofs.Ytnlpmpndhngimaa.frameDamage
