/-
  How the inputs read: printed by rd.py, a program of this work.
-/
import Derived.Test.YtipiagjhijnmhaaR0
import Derived.Test.YtipiagjhijnmhaaP0
import Derived.Test.YtipiagjhijnmhaaRI
import Derived.Test.YtipiagjhijnmhaaP7
set_option linter.unusedVariables false
set_option linter.unusedSimpArgs false
namespace Go.Ab.Try
open Go Go.Proofs Go.Ab

def Spontoonlaw19_Begin.cells (x : Spontoonlaw19_Begin) : List CV := [.val (.int .i64 x.Epoch), .val (.int .i64 x.Id), .val (.int .i64 x.Len), .sl (List.map cI64 x.Vector)]
def sh_Spontoonlaw19_Begin : Sh := .st [sh_I_i64, sh_I_i64, sh_I_i64, sh_L_I_i64]
def Spontoonlaw19_Begin.In (x : Spontoonlaw19_Begin) : Prop := (IntKind.i64.min ≤ x.Epoch ∧ x.Epoch ≤ IntKind.i64.max) ∧ (IntKind.i64.min ≤ x.Id ∧ x.Id ≤ IntKind.i64.max) ∧ (IntKind.i64.min ≤ x.Len ∧ x.Len ≤ IntKind.i64.max) ∧ (x.Vector.length ≤ 1048576 ∧ ∀ y ∈ x.Vector, (IntKind.i64.min ≤ y ∧ y ≤ IntKind.i64.max))
theorem has_Spontoonlaw19_Begin_24 : HasSh Try.prog sh_Spontoonlaw19_Begin 24 := by
  unfold sh_Spontoonlaw19_Begin
  simp only [HasSh, HasFs]
  exact ⟨_, k24.1, by kernel_rfl, ⟨_, _, rfl, rfl, by kernel_rfl, has_I_i64_2, ⟨_, _, rfl, rfl, by kernel_rfl, has_I_i64_2, ⟨_, _, rfl, rfl, by kernel_rfl, has_I_i64_2, ⟨_, _, rfl, rfl, by kernel_rfl, has_L_I_i64_22, rfl⟩⟩⟩⟩⟩
theorem in_Spontoonlaw19_Begin {us : List CV} (h : Typed 1048576 sh_Spontoonlaw19_Begin us) : ∃ x : Spontoonlaw19_Begin, us = Spontoonlaw19_Begin.cells x ∧ Spontoonlaw19_Begin.In x := by
  unfold sh_Spontoonlaw19_Begin at h
  simp only [Typed, TypedL] at h
  obtain ⟨u0, v0, rfl, s0, ⟨u1, v1, rfl, s1, ⟨u2, v2, rfl, s2, ⟨u3, v3, rfl, s3, rfl⟩⟩⟩⟩ := h
  obtain ⟨x0, rfl, g0⟩ := in_I_i64 s0
  obtain ⟨x1, rfl, g1⟩ := in_I_i64 s1
  obtain ⟨x2, rfl, g2⟩ := in_I_i64 s2
  obtain ⟨x3, rfl, g3⟩ := in_L_I_i64 s3
  exact ⟨Spontoonlaw19_Begin.mk x0 x1 x2 x3, rfl, g0, g1, g2, g3⟩
theorem Spontoonlaw19_Begin.in_sz {x : Spontoonlaw19_Begin} (h : Spontoonlaw19_Begin.In x) : Spontoonlaw19_Begin.Sz x := by
  obtain ⟨g0, g1, g2, g3⟩ := h
  exact Nat.le_trans g3.1 (by decide)
end Go.Ab.Try
