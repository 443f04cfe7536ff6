/-
  How events and what is done with a queue read.
-/
import Derived.Test.YtnlpmpndhngimaaR0
import Derived.Test.YtnlpmpndhngimaaT0
import Derived.Test.YtnlpmpndhngimaaQ16
import Derived.KernelRfl
set_option linter.unusedVariables false
set_option linter.unusedSimpArgs false
namespace Go.Ab.Try
open Go Go.Proofs Go.Ab

def sh_Rec : Sh := .st [.int .i64, .int .i64]
def sh_Ev : Sh := .st [.int .i64, sh_Rec, .int .i64]
def sh_Do : Sh := .st [.bool, .bool, sh_Ev]
def sh_L_Ev : Sh := .sl sh_Ev
def sh_L_Do : Sh := .sl sh_Do
theorem has_int {t : TypeId} (h : Try.prog.underlying t = some (.int .i64)) : HasSh Try.prog (.int .i64) t := by simp only [HasSh]; exact h
theorem has_bool {t : TypeId} (h : Try.prog.underlying t = some .bool) : HasSh Try.prog .bool t := by simp only [HasSh]; exact h
theorem has_Rec_41 : HasSh Try.prog sh_Rec 41 := by
  unfold sh_Rec
  simp only [HasSh, HasFs]
  exact ⟨_, k41.1, by kernel_rfl, ⟨_, _, rfl, rfl, by kernel_rfl, k2.1, ⟨_, _, rfl, rfl, by kernel_rfl, k2.1, rfl⟩⟩⟩
theorem has_Ev_43 : HasSh Try.prog sh_Ev 43 := by
  unfold sh_Ev
  simp only [HasSh, HasFs]
  exact ⟨_, k43.1, by kernel_rfl, ⟨_, _, rfl, rfl, by kernel_rfl, k3.1, ⟨_, _, rfl, rfl, by kernel_rfl, has_Rec_41, ⟨_, _, rfl, rfl, by kernel_rfl, k2.1, rfl⟩⟩⟩⟩
theorem has_Do_45 : HasSh Try.prog sh_Do 45 := by
  unfold sh_Do
  simp only [HasSh, HasFs]
  exact ⟨_, k45.1, by kernel_rfl, ⟨_, _, rfl, rfl, by kernel_rfl, k4.1, ⟨_, _, rfl, rfl, by kernel_rfl, k4.1, ⟨_, _, rfl, rfl, by kernel_rfl, has_Ev_43, rfl⟩⟩⟩⟩
theorem has_L_Ev_39 : HasSh Try.prog sh_L_Ev 39 := by
  unfold sh_L_Ev
  simp only [HasSh]
  exact ⟨_, k39.1, by kernel_rfl, by decide, has_Ev_43⟩
theorem has_L_Do_35 : HasSh Try.prog sh_L_Do 35 := by
  unfold sh_L_Do
  simp only [HasSh]
  exact ⟨_, k35.1, by kernel_rfl, by decide, has_Do_45⟩
theorem in_Ev {us : List CV} (h : Typed 1048576 sh_Ev us) : ∃ x : Ev, us = encE x ∧ True := by
  unfold sh_Ev sh_Rec at h
  simp only [Typed, TypedL] at h
  obtain ⟨u0, v0, rfl, s0, ⟨u1, v1, rfl, ⟨u2, v2, rfl, s2, ⟨u3, v3, rfl, s3, rfl⟩⟩, ⟨u4, v4, rfl, s4, rfl⟩⟩⟩ := h
  obtain ⟨x0, rfl, _⟩ := s0
  obtain ⟨x2, rfl, _⟩ := s2
  obtain ⟨x3, rfl, _⟩ := s3
  obtain ⟨x4, rfl, _⟩ := s4
  exact ⟨⟨x0, x2, x3, x4⟩, rfl, trivial⟩
theorem in_Do {us : List CV} (h : Typed 1048576 sh_Do us) : ∃ x : Do, us = encD x ∧ True := by
  unfold sh_Do at h
  simp only [Typed, TypedL] at h
  obtain ⟨u0, v0, rfl, ⟨x0, rfl⟩, ⟨u1, v1, rfl, ⟨x1, rfl⟩, ⟨u2, v2, rfl, s2, rfl⟩⟩⟩ := h
  obtain ⟨x2, rfl, _⟩ := in_Ev s2
  exact ⟨⟨x0, x1, x2⟩, rfl, trivial⟩
theorem in_L_Ev {us : List CV} (h : Typed 1048576 sh_L_Ev us) : ∃ x : List Ev, us = [.sl (encEs x)] ∧ x.length ≤ 1048576 := by
  unfold sh_L_Ev at h
  simp only [Typed] at h
  obtain ⟨es, rfl, h1, h2⟩ := h
  obtain ⟨l, rfl, h3⟩ := typed_list encE (fun _ => True) (fun r h => in_Ev h) es h2
  rw [List.length_map] at h1
  exact ⟨l, rfl, h1⟩
theorem in_L_Do {us : List CV} (h : Typed 1048576 sh_L_Do us) : ∃ x : List Do, us = [.sl (encDs x)] ∧ x.length ≤ 1048576 := by
  unfold sh_L_Do at h
  simp only [Typed] at h
  obtain ⟨es, rfl, h1, h2⟩ := h
  obtain ⟨l, rfl, h3⟩ := typed_list encD (fun _ => True) (fun r h => in_Do h) es h2
  rw [List.length_map] at h1
  exact ⟨l, rfl, h1⟩
end Go.Ab.Try
