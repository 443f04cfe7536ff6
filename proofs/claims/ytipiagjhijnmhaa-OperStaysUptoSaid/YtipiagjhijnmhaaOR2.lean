/-
  How the inputs read: printed by rd.py, a program of this work.
-/
import Derived.Test.YtipiagjhijnmhaaR0
import Derived.Test.YtipiagjhijnmhaaO0
import Derived.Test.YtipiagjhijnmhaaOR
set_option linter.unusedVariables false
set_option linter.unusedSimpArgs false
namespace Go.Ab.Try
open Go Go.Proofs Go.Ab

def SGraph.cells (x : SGraph) : List CV := [.val (.int .i64 x.Parts), .sl (List.map SOp.cells x.Ops)]
def SOpState.cells (x : SOpState) : List CV := [.sl (List.map SKeyState.cells x.Keys), .val (.int .i64 x.Turn)]
def sh_L_SOp : Sh := .sl (sh_SOp)
def sh_SGraph : Sh := .st [sh_I_i64, sh_L_SOp]
def SGraph.InP (x : SGraph) : Prop := (IntKind.i64.min ≤ x.Parts ∧ x.Parts ≤ IntKind.i64.max) ∧ (x.Ops.length ≤ 1048576 ∧ ∀ y ∈ x.Ops, SOp.InP y)
def sh_SKeyState : Sh := .st [sh_I_i64, sh_I_i64, sh_I_i64]
def SKeyState.InP (x : SKeyState) : Prop := (IntKind.i64.min ≤ x.Key ∧ x.Key ≤ IntKind.i64.max) ∧ (IntKind.i64.min ≤ x.Count ∧ x.Count ≤ IntKind.i64.max) ∧ (IntKind.i64.min ≤ x.Acc ∧ x.Acc ≤ IntKind.i64.max)
def sh_L_SKeyState : Sh := .sl (sh_SKeyState)
def sh_SOpState : Sh := .st [sh_L_SKeyState, sh_I_i64]
def SOpState.InP (x : SOpState) : Prop := (x.Keys.length ≤ 1048576 ∧ ∀ y ∈ x.Keys, SKeyState.InP y) ∧ (IntKind.i64.min ≤ x.Turn ∧ x.Turn ≤ IntKind.i64.max)
theorem has_L_SOp_74 : HasSh Try.prog sh_L_SOp 74 := by
  unfold sh_L_SOp
  simp only [HasSh]
  exact ⟨_, k74.1, by kernel_rfl, by decide, has_SOp_57⟩
theorem has_SGraph_76 : HasSh Try.prog sh_SGraph 76 := by
  unfold sh_SGraph
  simp only [HasSh, HasFs]
  exact ⟨_, k76.1, by kernel_rfl, ⟨_, _, rfl, rfl, by kernel_rfl, has_I_i64_3, ⟨_, _, rfl, rfl, by kernel_rfl, has_L_SOp_74, rfl⟩⟩⟩
theorem has_SKeyState_72 : HasSh Try.prog sh_SKeyState 72 := by
  unfold sh_SKeyState
  simp only [HasSh, HasFs]
  exact ⟨_, k72.1, by kernel_rfl, ⟨_, _, rfl, rfl, by kernel_rfl, has_I_i64_2, ⟨_, _, rfl, rfl, by kernel_rfl, has_I_i64_2, ⟨_, _, rfl, rfl, by kernel_rfl, has_I_i64_2, rfl⟩⟩⟩⟩
theorem has_L_SKeyState_58 : HasSh Try.prog sh_L_SKeyState 58 := by
  unfold sh_L_SKeyState
  simp only [HasSh]
  exact ⟨_, k58.1, by kernel_rfl, by decide, has_SKeyState_72⟩
theorem has_SOpState_60 : HasSh Try.prog sh_SOpState 60 := by
  unfold sh_SOpState
  simp only [HasSh, HasFs]
  exact ⟨_, k60.1, by kernel_rfl, ⟨_, _, rfl, rfl, by kernel_rfl, has_L_SKeyState_58, ⟨_, _, rfl, rfl, by kernel_rfl, has_I_i64_3, rfl⟩⟩⟩
theorem in_L_SOp {us : List CV} (h : Typed 1048576 sh_L_SOp us) : ∃ x : (List SOp), us = [.sl (List.map SOp.cells x)] ∧ (x.length ≤ 1048576 ∧ ∀ y ∈ x, SOp.InP y) := by
  unfold sh_L_SOp at h
  simp only [Typed] at h
  obtain ⟨es, rfl, h1, h2⟩ := h
  obtain ⟨l, rfl, h3⟩ := typed_list SOp.cells (fun y => SOp.InP y) (fun r h => in_SOp h) es h2
  rw [List.length_map] at h1
  exact ⟨l, rfl, h1, h3⟩
theorem in_SGraph {us : List CV} (h : Typed 1048576 sh_SGraph us) : ∃ x : SGraph, us = SGraph.cells x ∧ SGraph.InP x := by
  unfold sh_SGraph at h
  simp only [Typed, TypedL] at h
  obtain ⟨u0, v0, rfl, s0, ⟨u1, v1, rfl, s1, rfl⟩⟩ := h
  obtain ⟨x0, rfl, g0⟩ := in_I_i64 s0
  obtain ⟨x1, rfl, g1⟩ := in_L_SOp s1
  exact ⟨SGraph.mk x0 x1, rfl, g0, g1⟩
theorem SGraph.in_sz {x : SGraph} (h : SGraph.InP x) : SGraph.Sz x := by
  obtain ⟨g0, g1⟩ := h
  exact ⟨Nat.le_trans g1.1 (by decide), fun y hy => SOp.in_sz (g1.2 y hy)⟩
theorem in_SKeyState {us : List CV} (h : Typed 1048576 sh_SKeyState us) : ∃ x : SKeyState, us = SKeyState.cells x ∧ SKeyState.InP x := by
  unfold sh_SKeyState at h
  simp only [Typed, TypedL] at h
  obtain ⟨u0, v0, rfl, s0, ⟨u1, v1, rfl, s1, ⟨u2, v2, rfl, s2, rfl⟩⟩⟩ := h
  obtain ⟨x0, rfl, g0⟩ := in_I_i64 s0
  obtain ⟨x1, rfl, g1⟩ := in_I_i64 s1
  obtain ⟨x2, rfl, g2⟩ := in_I_i64 s2
  exact ⟨SKeyState.mk x0 x1 x2, rfl, g0, g1, g2⟩
theorem in_L_SKeyState {us : List CV} (h : Typed 1048576 sh_L_SKeyState us) : ∃ x : (List SKeyState), us = [.sl (List.map SKeyState.cells x)] ∧ (x.length ≤ 1048576 ∧ ∀ y ∈ x, SKeyState.InP y) := by
  unfold sh_L_SKeyState at h
  simp only [Typed] at h
  obtain ⟨es, rfl, h1, h2⟩ := h
  obtain ⟨l, rfl, h3⟩ := typed_list SKeyState.cells (fun y => SKeyState.InP y) (fun r h => in_SKeyState h) es h2
  rw [List.length_map] at h1
  exact ⟨l, rfl, h1, h3⟩
theorem in_SOpState {us : List CV} (h : Typed 1048576 sh_SOpState us) : ∃ x : SOpState, us = SOpState.cells x ∧ SOpState.InP x := by
  unfold sh_SOpState at h
  simp only [Typed, TypedL] at h
  obtain ⟨u0, v0, rfl, s0, ⟨u1, v1, rfl, s1, rfl⟩⟩ := h
  obtain ⟨x0, rfl, g0⟩ := in_L_SKeyState s0
  obtain ⟨x1, rfl, g1⟩ := in_I_i64 s1
  exact ⟨SOpState.mk x0 x1, rfl, g0, g1⟩
theorem SOpState.in_sz {x : SOpState} (h : SOpState.InP x) : SOpState.Sz x := by
  obtain ⟨g0, g1⟩ := h
  exact Nat.le_trans g0.1 (by decide)
end Go.Ab.Try
