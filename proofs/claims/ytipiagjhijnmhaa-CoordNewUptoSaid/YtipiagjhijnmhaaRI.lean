/-
  How the inputs read: printed by rd.py, a program of this work.
-/
import Derived.Test.YtipiagjhijnmhaaR0
import Derived.Test.YtipiagjhijnmhaaP0
set_option linter.unusedVariables false
set_option linter.unusedSimpArgs false
namespace Go.Ab.Try
open Go Go.Proofs Go.Ab

def cBool (x : Bool) : List CV := [.val (.bool x)]
def cU32 (x : Int) : List CV := [.val (.int .u32 x)]
def SManifest.cells (x : SManifest) : List CV := [.val (.int .i64 x.Epoch), .val (.int .i64 x.Id), .sl (List.map cI64 x.Vector), .val (.int .i64 x.Out), .val (.int .i64 x.Begin), .sl (List.map SRecord.cells x.Records), .sl (List.map SPiece.cells x.Pieces), .val (.int .u32 x.Graph)]
def STxnKey.cells (x : STxnKey) : List CV := [.val (.int .i64 x.Epoch), .val (.int .i64 x.Id)]
def sh_I_i64 : Sh := .int .i64
def sh_B : Sh := .bool
def sh_L_I_i64 : Sh := .sl (sh_I_i64)
def sh_SRecord : Sh := .st [sh_I_i64, sh_I_i64]
def SRecord.In (x : SRecord) : Prop := (IntKind.i64.min ≤ x.Key ∧ x.Key ≤ IntKind.i64.max) ∧ (IntKind.i64.min ≤ x.Val ∧ x.Val ≤ IntKind.i64.max)
def sh_L_SRecord : Sh := .sl (sh_SRecord)
def sh_I_u32 : Sh := .int .u32
def sh_SPiece : Sh := .st [sh_I_i64, sh_I_u32]
def SPiece.In (x : SPiece) : Prop := (IntKind.i64.min ≤ x.Len ∧ x.Len ≤ IntKind.i64.max) ∧ (IntKind.u32.min ≤ x.Sum ∧ x.Sum ≤ IntKind.u32.max)
def sh_L_SPiece : Sh := .sl (sh_SPiece)
def sh_SManifest : Sh := .st [sh_I_i64, sh_I_i64, sh_L_I_i64, sh_I_i64, sh_I_i64, sh_L_SRecord, sh_L_SPiece, sh_I_u32]
def SManifest.In (x : SManifest) : Prop := (IntKind.i64.min ≤ x.Epoch ∧ x.Epoch ≤ IntKind.i64.max) ∧ (IntKind.i64.min ≤ x.Id ∧ x.Id ≤ IntKind.i64.max) ∧ (x.Vector.length ≤ 1048576 ∧ ∀ y ∈ x.Vector, (IntKind.i64.min ≤ y ∧ y ≤ IntKind.i64.max)) ∧ (IntKind.i64.min ≤ x.Out ∧ x.Out ≤ IntKind.i64.max) ∧ (IntKind.i64.min ≤ x.Begin ∧ x.Begin ≤ IntKind.i64.max) ∧ (x.Records.length ≤ 1048576 ∧ ∀ y ∈ x.Records, SRecord.In y) ∧ (x.Pieces.length ≤ 1048576 ∧ ∀ y ∈ x.Pieces, SPiece.In y) ∧ (IntKind.u32.min ≤ x.Graph ∧ x.Graph ≤ IntKind.u32.max)
def sh_STxnKey : Sh := .st [sh_I_i64, sh_I_i64]
def STxnKey.In (x : STxnKey) : Prop := (IntKind.i64.min ≤ x.Epoch ∧ x.Epoch ≤ IntKind.i64.max) ∧ (IntKind.i64.min ≤ x.Id ∧ x.Id ≤ IntKind.i64.max)
def sh_Spontoonlaw19_Come : Sh := .st [sh_I_i64, sh_B, sh_I_i64, sh_SManifest, sh_I_i64, sh_STxnKey, sh_I_i64, sh_I_i64, sh_L_I_i64]
def Spontoonlaw19_Come.In (x : Spontoonlaw19_Come) : Prop := (IntKind.i64.min ≤ x.Do ∧ x.Do ≤ IntKind.i64.max) ∧ True ∧ (IntKind.i64.min ≤ x.Id ∧ x.Id ≤ IntKind.i64.max) ∧ SManifest.In x.Manifest ∧ (IntKind.i64.min ≤ x.Kind ∧ x.Kind ≤ IntKind.i64.max) ∧ STxnKey.In x.Key ∧ (IntKind.i64.min ≤ x.Err ∧ x.Err ≤ IntKind.i64.max) ∧ (IntKind.i64.min ≤ x.Len ∧ x.Len ≤ IntKind.i64.max) ∧ (x.Vector.length ≤ 1048576 ∧ ∀ y ∈ x.Vector, (IntKind.i64.min ≤ y ∧ y ≤ IntKind.i64.max))
def sh_L_Spontoonlaw19_Come : Sh := .sl (sh_Spontoonlaw19_Come)
theorem has_I_i64_3 : HasSh Try.prog sh_I_i64 3 := by
  unfold sh_I_i64
  simp only [HasSh]
  exact k3.1
theorem has_B_4 : HasSh Try.prog sh_B 4 := by
  unfold sh_B
  simp only [HasSh]
  exact k4.1
theorem has_I_i64_2 : HasSh Try.prog sh_I_i64 2 := by
  unfold sh_I_i64
  simp only [HasSh]
  exact k2.1
theorem has_L_I_i64_22 : HasSh Try.prog sh_L_I_i64 22 := by
  unfold sh_L_I_i64
  simp only [HasSh]
  exact ⟨_, k22.1, by kernel_rfl, by decide, has_I_i64_2⟩
theorem has_SRecord_68 : HasSh Try.prog sh_SRecord 68 := by
  unfold sh_SRecord
  simp only [HasSh, HasFs]
  exact ⟨_, k68.1, by kernel_rfl, ⟨_, _, rfl, rfl, by kernel_rfl, has_I_i64_2, ⟨_, _, rfl, rfl, by kernel_rfl, has_I_i64_2, rfl⟩⟩⟩
theorem has_L_SRecord_26 : HasSh Try.prog sh_L_SRecord 26 := by
  unfold sh_L_SRecord
  simp only [HasSh]
  exact ⟨_, k26.1, by kernel_rfl, by decide, has_SRecord_68⟩
theorem has_I_u32_39 : HasSh Try.prog sh_I_u32 39 := by
  unfold sh_I_u32
  simp only [HasSh]
  exact k39.1
theorem has_SPiece_111 : HasSh Try.prog sh_SPiece 111 := by
  unfold sh_SPiece
  simp only [HasSh, HasFs]
  exact ⟨_, k111.1, by kernel_rfl, ⟨_, _, rfl, rfl, by kernel_rfl, has_I_i64_3, ⟨_, _, rfl, rfl, by kernel_rfl, has_I_u32_39, rfl⟩⟩⟩
theorem has_L_SPiece_38 : HasSh Try.prog sh_L_SPiece 38 := by
  unfold sh_L_SPiece
  simp only [HasSh]
  exact ⟨_, k38.1, by kernel_rfl, by decide, has_SPiece_111⟩
theorem has_SManifest_41 : HasSh Try.prog sh_SManifest 41 := by
  unfold sh_SManifest
  simp only [HasSh, HasFs]
  exact ⟨_, k41.1, by kernel_rfl, ⟨_, _, rfl, rfl, by kernel_rfl, has_I_i64_2, ⟨_, _, rfl, rfl, by kernel_rfl, has_I_i64_2, ⟨_, _, rfl, rfl, by kernel_rfl, has_L_I_i64_22, ⟨_, _, rfl, rfl, by kernel_rfl, has_I_i64_2, ⟨_, _, rfl, rfl, by kernel_rfl, has_I_i64_2, ⟨_, _, rfl, rfl, by kernel_rfl, has_L_SRecord_26, ⟨_, _, rfl, rfl, by kernel_rfl, has_L_SPiece_38, ⟨_, _, rfl, rfl, by kernel_rfl, has_I_u32_39, rfl⟩⟩⟩⟩⟩⟩⟩⟩⟩
theorem has_STxnKey_43 : HasSh Try.prog sh_STxnKey 43 := by
  unfold sh_STxnKey
  simp only [HasSh, HasFs]
  exact ⟨_, k43.1, by kernel_rfl, ⟨_, _, rfl, rfl, by kernel_rfl, has_I_i64_2, ⟨_, _, rfl, rfl, by kernel_rfl, has_I_i64_2, rfl⟩⟩⟩
theorem has_I_i64_31 : HasSh Try.prog sh_I_i64 31 := by
  unfold sh_I_i64
  simp only [HasSh]
  exact k31.1
theorem has_Spontoonlaw19_Come_45 : HasSh Try.prog sh_Spontoonlaw19_Come 45 := by
  unfold sh_Spontoonlaw19_Come
  simp only [HasSh, HasFs]
  exact ⟨_, k45.1, by kernel_rfl, ⟨_, _, rfl, rfl, by kernel_rfl, has_I_i64_3, ⟨_, _, rfl, rfl, by kernel_rfl, has_B_4, ⟨_, _, rfl, rfl, by kernel_rfl, has_I_i64_2, ⟨_, _, rfl, rfl, by kernel_rfl, has_SManifest_41, ⟨_, _, rfl, rfl, by kernel_rfl, has_I_i64_3, ⟨_, _, rfl, rfl, by kernel_rfl, has_STxnKey_43, ⟨_, _, rfl, rfl, by kernel_rfl, has_I_i64_31, ⟨_, _, rfl, rfl, by kernel_rfl, has_I_i64_2, ⟨_, _, rfl, rfl, by kernel_rfl, has_L_I_i64_22, rfl⟩⟩⟩⟩⟩⟩⟩⟩⟩⟩
theorem has_L_Spontoonlaw19_Come_37 : HasSh Try.prog sh_L_Spontoonlaw19_Come 37 := by
  unfold sh_L_Spontoonlaw19_Come
  simp only [HasSh]
  exact ⟨_, k37.1, by kernel_rfl, by decide, has_Spontoonlaw19_Come_45⟩
theorem in_I_i64 {us : List CV} (h : Typed 1048576 sh_I_i64 us) : ∃ x : Int, us = cI64 x ∧ (IntKind.i64.min ≤ x ∧ x ≤ IntKind.i64.max) := by
  unfold sh_I_i64 at h
  simp only [Typed] at h
  obtain ⟨n, rfl, h1, h2⟩ := h
  exact ⟨n, rfl, h1, h2⟩
theorem in_B {us : List CV} (h : Typed 1048576 sh_B us) : ∃ x : Bool, us = cBool x ∧ True := by
  unfold sh_B at h
  simp only [Typed] at h
  obtain ⟨n, rfl⟩ := h
  exact ⟨n, rfl, trivial⟩
theorem in_L_I_i64 {us : List CV} (h : Typed 1048576 sh_L_I_i64 us) : ∃ x : (List Int), us = [.sl (List.map cI64 x)] ∧ (x.length ≤ 1048576 ∧ ∀ y ∈ x, (IntKind.i64.min ≤ y ∧ y ≤ IntKind.i64.max)) := by
  unfold sh_L_I_i64 at h
  simp only [Typed] at h
  obtain ⟨es, rfl, h1, h2⟩ := h
  obtain ⟨l, rfl, h3⟩ := typed_list cI64 (fun y => (IntKind.i64.min ≤ y ∧ y ≤ IntKind.i64.max)) (fun r h => in_I_i64 h) es h2
  rw [List.length_map] at h1
  exact ⟨l, rfl, h1, h3⟩
theorem in_SRecord {us : List CV} (h : Typed 1048576 sh_SRecord us) : ∃ x : SRecord, us = SRecord.cells x ∧ SRecord.In x := by
  unfold sh_SRecord at h
  simp only [Typed, TypedL] at h
  obtain ⟨u0, v0, rfl, s0, ⟨u1, v1, rfl, s1, rfl⟩⟩ := h
  obtain ⟨x0, rfl, g0⟩ := in_I_i64 s0
  obtain ⟨x1, rfl, g1⟩ := in_I_i64 s1
  exact ⟨SRecord.mk x0 x1, rfl, g0, g1⟩
theorem in_L_SRecord {us : List CV} (h : Typed 1048576 sh_L_SRecord us) : ∃ x : (List SRecord), us = [.sl (List.map SRecord.cells x)] ∧ (x.length ≤ 1048576 ∧ ∀ y ∈ x, SRecord.In y) := by
  unfold sh_L_SRecord at h
  simp only [Typed] at h
  obtain ⟨es, rfl, h1, h2⟩ := h
  obtain ⟨l, rfl, h3⟩ := typed_list SRecord.cells (fun y => SRecord.In y) (fun r h => in_SRecord h) es h2
  rw [List.length_map] at h1
  exact ⟨l, rfl, h1, h3⟩
theorem in_I_u32 {us : List CV} (h : Typed 1048576 sh_I_u32 us) : ∃ x : Int, us = cU32 x ∧ (IntKind.u32.min ≤ x ∧ x ≤ IntKind.u32.max) := by
  unfold sh_I_u32 at h
  simp only [Typed] at h
  obtain ⟨n, rfl, h1, h2⟩ := h
  exact ⟨n, rfl, h1, h2⟩
theorem in_SPiece {us : List CV} (h : Typed 1048576 sh_SPiece us) : ∃ x : SPiece, us = SPiece.cells x ∧ SPiece.In x := by
  unfold sh_SPiece at h
  simp only [Typed, TypedL] at h
  obtain ⟨u0, v0, rfl, s0, ⟨u1, v1, rfl, s1, rfl⟩⟩ := h
  obtain ⟨x0, rfl, g0⟩ := in_I_i64 s0
  obtain ⟨x1, rfl, g1⟩ := in_I_u32 s1
  exact ⟨SPiece.mk x0 x1, rfl, g0, g1⟩
theorem in_L_SPiece {us : List CV} (h : Typed 1048576 sh_L_SPiece us) : ∃ x : (List SPiece), us = [.sl (List.map SPiece.cells x)] ∧ (x.length ≤ 1048576 ∧ ∀ y ∈ x, SPiece.In y) := by
  unfold sh_L_SPiece at h
  simp only [Typed] at h
  obtain ⟨es, rfl, h1, h2⟩ := h
  obtain ⟨l, rfl, h3⟩ := typed_list SPiece.cells (fun y => SPiece.In y) (fun r h => in_SPiece h) es h2
  rw [List.length_map] at h1
  exact ⟨l, rfl, h1, h3⟩
theorem in_SManifest {us : List CV} (h : Typed 1048576 sh_SManifest us) : ∃ x : SManifest, us = SManifest.cells x ∧ SManifest.In x := by
  unfold sh_SManifest at h
  simp only [Typed, TypedL] at h
  obtain ⟨u0, v0, rfl, s0, ⟨u1, v1, rfl, s1, ⟨u2, v2, rfl, s2, ⟨u3, v3, rfl, s3, ⟨u4, v4, rfl, s4, ⟨u5, v5, rfl, s5, ⟨u6, v6, rfl, s6, ⟨u7, v7, rfl, s7, rfl⟩⟩⟩⟩⟩⟩⟩⟩ := h
  obtain ⟨x0, rfl, g0⟩ := in_I_i64 s0
  obtain ⟨x1, rfl, g1⟩ := in_I_i64 s1
  obtain ⟨x2, rfl, g2⟩ := in_L_I_i64 s2
  obtain ⟨x3, rfl, g3⟩ := in_I_i64 s3
  obtain ⟨x4, rfl, g4⟩ := in_I_i64 s4
  obtain ⟨x5, rfl, g5⟩ := in_L_SRecord s5
  obtain ⟨x6, rfl, g6⟩ := in_L_SPiece s6
  obtain ⟨x7, rfl, g7⟩ := in_I_u32 s7
  exact ⟨SManifest.mk x0 x1 x2 x3 x4 x5 x6 x7, rfl, g0, g1, g2, g3, g4, g5, g6, g7⟩
theorem SManifest.in_sz {x : SManifest} (h : SManifest.In x) : SManifest.Sz x := by
  obtain ⟨g0, g1, g2, g3, g4, g5, g6, g7⟩ := h
  exact ⟨Nat.le_trans g2.1 (by decide), Nat.le_trans g5.1 (by decide), Nat.le_trans g6.1 (by decide)⟩
theorem in_STxnKey {us : List CV} (h : Typed 1048576 sh_STxnKey us) : ∃ x : STxnKey, us = STxnKey.cells x ∧ STxnKey.In x := by
  unfold sh_STxnKey at h
  simp only [Typed, TypedL] at h
  obtain ⟨u0, v0, rfl, s0, ⟨u1, v1, rfl, s1, rfl⟩⟩ := h
  obtain ⟨x0, rfl, g0⟩ := in_I_i64 s0
  obtain ⟨x1, rfl, g1⟩ := in_I_i64 s1
  exact ⟨STxnKey.mk x0 x1, rfl, g0, g1⟩
theorem in_Spontoonlaw19_Come {us : List CV} (h : Typed 1048576 sh_Spontoonlaw19_Come us) : ∃ x : Spontoonlaw19_Come, us = Spontoonlaw19_Come.cells x ∧ Spontoonlaw19_Come.In x := by
  unfold sh_Spontoonlaw19_Come at h
  simp only [Typed, TypedL] at h
  obtain ⟨u0, v0, rfl, s0, ⟨u1, v1, rfl, s1, ⟨u2, v2, rfl, s2, ⟨u3, v3, rfl, s3, ⟨u4, v4, rfl, s4, ⟨u5, v5, rfl, s5, ⟨u6, v6, rfl, s6, ⟨u7, v7, rfl, s7, ⟨u8, v8, rfl, s8, rfl⟩⟩⟩⟩⟩⟩⟩⟩⟩ := h
  obtain ⟨x0, rfl, g0⟩ := in_I_i64 s0
  obtain ⟨x1, rfl, g1⟩ := in_B s1
  obtain ⟨x2, rfl, g2⟩ := in_I_i64 s2
  obtain ⟨x3, rfl, g3⟩ := in_SManifest s3
  obtain ⟨x4, rfl, g4⟩ := in_I_i64 s4
  obtain ⟨x5, rfl, g5⟩ := in_STxnKey s5
  obtain ⟨x6, rfl, g6⟩ := in_I_i64 s6
  obtain ⟨x7, rfl, g7⟩ := in_I_i64 s7
  obtain ⟨x8, rfl, g8⟩ := in_L_I_i64 s8
  exact ⟨Spontoonlaw19_Come.mk x0 x1 x2 x3 x4 x5 x6 x7 x8, rfl, g0, g1, g2, g3, g4, g5, g6, g7, g8⟩
theorem Spontoonlaw19_Come.in_sz {x : Spontoonlaw19_Come} (h : Spontoonlaw19_Come.In x) : Spontoonlaw19_Come.Sz x := by
  obtain ⟨g0, g1, g2, g3, g4, g5, g6, g7, g8⟩ := h
  exact ⟨SManifest.in_sz g3, Nat.le_trans g8.1 (by decide)⟩
theorem in_L_Spontoonlaw19_Come {us : List CV} (h : Typed 1048576 sh_L_Spontoonlaw19_Come us) : ∃ x : (List Spontoonlaw19_Come), us = [.sl (List.map Spontoonlaw19_Come.cells x)] ∧ (x.length ≤ 1048576 ∧ ∀ y ∈ x, Spontoonlaw19_Come.In y) := by
  unfold sh_L_Spontoonlaw19_Come at h
  simp only [Typed] at h
  obtain ⟨es, rfl, h1, h2⟩ := h
  obtain ⟨l, rfl, h3⟩ := typed_list Spontoonlaw19_Come.cells (fun y => Spontoonlaw19_Come.In y) (fun r h => in_Spontoonlaw19_Come h) es h2
  rw [List.length_map] at h1
  exact ⟨l, rfl, h1, h3⟩
end Go.Ab.Try
