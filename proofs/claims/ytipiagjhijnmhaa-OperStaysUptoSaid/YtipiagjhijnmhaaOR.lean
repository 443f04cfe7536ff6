/-
  How the inputs read: printed by rd.py, a program of this work.
-/
import Derived.Test.YtipiagjhijnmhaaR0
import Derived.Test.YtipiagjhijnmhaaO0
set_option linter.unusedVariables false
set_option linter.unusedSimpArgs false
namespace Go.Ab.Try
open Go Go.Proofs Go.Ab

def cI64 (x : Int) : List CV := [.val (.int .i64 x)]
def sh_I_i64 : Sh := .int .i64
def sh_SEdge : Sh := .st [sh_I_i64, sh_I_i64]
def SEdge.InP (x : SEdge) : Prop := (IntKind.i64.min ≤ x.From ∧ x.From ≤ IntKind.i64.max) ∧ (IntKind.i64.min ≤ x.Port ∧ x.Port ≤ IntKind.i64.max)
def sh_L_SEdge : Sh := .sl (sh_SEdge)
def sh_SOp : Sh := .st [sh_I_i64, sh_I_i64, sh_I_i64, sh_I_i64, sh_L_SEdge]
def SOp.InP (x : SOp) : Prop := (IntKind.i64.min ≤ x.Kind ∧ x.Kind ≤ IntKind.i64.max) ∧ (IntKind.i64.min ≤ x.Part ∧ x.Part ≤ IntKind.i64.max) ∧ (IntKind.i64.min ≤ x.Fn ∧ x.Fn ≤ IntKind.i64.max) ∧ (IntKind.i64.min ≤ x.Arg ∧ x.Arg ≤ IntKind.i64.max) ∧ (x.In.length ≤ 1048576 ∧ ∀ y ∈ x.In, SEdge.InP y)
def sh_SRecord : Sh := .st [sh_I_i64, sh_I_i64]
def SRecord.InP (x : SRecord) : Prop := (IntKind.i64.min ≤ x.Key ∧ x.Key ≤ IntKind.i64.max) ∧ (IntKind.i64.min ≤ x.Val ∧ x.Val ≤ IntKind.i64.max)
def sh_L_SRecord : Sh := .sl (sh_SRecord)
theorem has_I_i64_3 : HasSh Try.prog sh_I_i64 3 := by
  unfold sh_I_i64
  simp only [HasSh]
  exact k3.1
theorem has_SEdge_96 : HasSh Try.prog sh_SEdge 96 := by
  unfold sh_SEdge
  simp only [HasSh, HasFs]
  exact ⟨_, k96.1, by kernel_rfl, ⟨_, _, rfl, rfl, by kernel_rfl, has_I_i64_3, ⟨_, _, rfl, rfl, by kernel_rfl, has_I_i64_3, rfl⟩⟩⟩
theorem has_L_SEdge_55 : HasSh Try.prog sh_L_SEdge 55 := by
  unfold sh_L_SEdge
  simp only [HasSh]
  exact ⟨_, k55.1, by kernel_rfl, by decide, has_SEdge_96⟩
theorem has_I_i64_2 : HasSh Try.prog sh_I_i64 2 := by
  unfold sh_I_i64
  simp only [HasSh]
  exact k2.1
theorem has_SOp_57 : HasSh Try.prog sh_SOp 57 := by
  unfold sh_SOp
  simp only [HasSh, HasFs]
  exact ⟨_, k57.1, by kernel_rfl, ⟨_, _, rfl, rfl, by kernel_rfl, has_I_i64_3, ⟨_, _, rfl, rfl, by kernel_rfl, has_I_i64_3, ⟨_, _, rfl, rfl, by kernel_rfl, has_I_i64_3, ⟨_, _, rfl, rfl, by kernel_rfl, has_I_i64_2, ⟨_, _, rfl, rfl, by kernel_rfl, has_L_SEdge_55, rfl⟩⟩⟩⟩⟩⟩
theorem has_SRecord_68 : HasSh Try.prog sh_SRecord 68 := by
  unfold sh_SRecord
  simp only [HasSh, HasFs]
  exact ⟨_, k68.1, by kernel_rfl, ⟨_, _, rfl, rfl, by kernel_rfl, has_I_i64_2, ⟨_, _, rfl, rfl, by kernel_rfl, has_I_i64_2, rfl⟩⟩⟩
theorem has_L_SRecord_26 : HasSh Try.prog sh_L_SRecord 26 := by
  unfold sh_L_SRecord
  simp only [HasSh]
  exact ⟨_, k26.1, by kernel_rfl, by decide, has_SRecord_68⟩
theorem in_I_i64 {us : List CV} (h : Typed 1048576 sh_I_i64 us) : ∃ x : Int, us = cI64 x ∧ (IntKind.i64.min ≤ x ∧ x ≤ IntKind.i64.max) := by
  unfold sh_I_i64 at h
  simp only [Typed] at h
  obtain ⟨n, rfl, h1, h2⟩ := h
  exact ⟨n, rfl, h1, h2⟩
theorem in_SEdge {us : List CV} (h : Typed 1048576 sh_SEdge us) : ∃ x : SEdge, us = SEdge.cells x ∧ SEdge.InP x := by
  unfold sh_SEdge at h
  simp only [Typed, TypedL] at h
  obtain ⟨u0, v0, rfl, s0, ⟨u1, v1, rfl, s1, rfl⟩⟩ := h
  obtain ⟨x0, rfl, g0⟩ := in_I_i64 s0
  obtain ⟨x1, rfl, g1⟩ := in_I_i64 s1
  exact ⟨SEdge.mk x0 x1, rfl, g0, g1⟩
theorem in_L_SEdge {us : List CV} (h : Typed 1048576 sh_L_SEdge us) : ∃ x : (List SEdge), us = [.sl (List.map SEdge.cells x)] ∧ (x.length ≤ 1048576 ∧ ∀ y ∈ x, SEdge.InP y) := by
  unfold sh_L_SEdge at h
  simp only [Typed] at h
  obtain ⟨es, rfl, h1, h2⟩ := h
  obtain ⟨l, rfl, h3⟩ := typed_list SEdge.cells (fun y => SEdge.InP y) (fun r h => in_SEdge h) es h2
  rw [List.length_map] at h1
  exact ⟨l, rfl, h1, h3⟩
theorem in_SOp {us : List CV} (h : Typed 1048576 sh_SOp us) : ∃ x : SOp, us = SOp.cells x ∧ SOp.InP x := by
  unfold sh_SOp at h
  simp only [Typed, TypedL] at h
  obtain ⟨u0, v0, rfl, s0, ⟨u1, v1, rfl, s1, ⟨u2, v2, rfl, s2, ⟨u3, v3, rfl, s3, ⟨u4, v4, rfl, s4, rfl⟩⟩⟩⟩⟩ := h
  obtain ⟨x0, rfl, g0⟩ := in_I_i64 s0
  obtain ⟨x1, rfl, g1⟩ := in_I_i64 s1
  obtain ⟨x2, rfl, g2⟩ := in_I_i64 s2
  obtain ⟨x3, rfl, g3⟩ := in_I_i64 s3
  obtain ⟨x4, rfl, g4⟩ := in_L_SEdge s4
  exact ⟨SOp.mk x0 x1 x2 x3 x4, rfl, g0, g1, g2, g3, g4⟩
theorem SOp.in_sz {x : SOp} (h : SOp.InP x) : SOp.Sz x := by
  obtain ⟨g0, g1, g2, g3, g4⟩ := h
  exact Nat.le_trans g4.1 (by decide)
theorem in_SRecord {us : List CV} (h : Typed 1048576 sh_SRecord us) : ∃ x : SRecord, us = SRecord.cells x ∧ SRecord.InP x := by
  unfold sh_SRecord at h
  simp only [Typed, TypedL] at h
  obtain ⟨u0, v0, rfl, s0, ⟨u1, v1, rfl, s1, rfl⟩⟩ := h
  obtain ⟨x0, rfl, g0⟩ := in_I_i64 s0
  obtain ⟨x1, rfl, g1⟩ := in_I_i64 s1
  exact ⟨SRecord.mk x0 x1, rfl, g0, g1⟩
theorem in_L_SRecord {us : List CV} (h : Typed 1048576 sh_L_SRecord us) : ∃ x : (List SRecord), us = [.sl (List.map SRecord.cells x)] ∧ (x.length ≤ 1048576 ∧ ∀ y ∈ x, SRecord.InP y) := by
  unfold sh_L_SRecord at h
  simp only [Typed] at h
  obtain ⟨es, rfl, h1, h2⟩ := h
  obtain ⟨l, rfl, h3⟩ := typed_list SRecord.cells (fun y => SRecord.InP y) (fun r h => in_SRecord h) es h2
  rw [List.length_map] at h1
  exact ⟨l, rfl, h1, h3⟩
end Go.Ab.Try
