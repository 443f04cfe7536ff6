/-
  The seat's types: written by a program of this session (gen_types.py); each row is checked by the kernel.
-/
import Derived.Test.YtnlpmpndhngimaaProg
import Derived.Test.YtnlpmpndhngimaaA3
import Derived.KernelRfl
set_option linter.unusedVariables false
set_option linter.unusedSimpArgs false
namespace Go.Ab.Try
open Go Go.Proofs
theorem mk {P : Program} {t : TypeId} {d : TypeDesc} {z : Value} {n b : Nat} {zs : List CV} (h1 : P.underlying t = some d) (h2 : (P.info? t).map (fun i => (i.zero, i.size, i.bytes)) = some (some z, n, b)) (hz : z.cells = (zs.map cvVal).toArray) (hl : zs.length = n) (hs : ∀ u ∈ zs, (∃ x, u = .val x ∧ x.oneCell' = true) ∨ u = .sl []) : TyOk P t ⟨d, n, b, zs⟩ := by
  cases hi : P.info? t with
  | none => simp [hi] at h2
  | some i =>
    simp [hi] at h2
    exact ⟨h1, hs, hl, i, hi, h2.2.1, h2.2.2, z, h2.1, hz⟩
def i1 : TI := ⟨.func #[] #[] false, 1, 8, [.val (.nilFunc)]⟩
theorem k1 : TyOk Try.prog 1 i1 := mk (z := .nilFunc) Try.underlying1 (by kernel_rfl) rfl rfl (by simp [Value.oneCell'])
def i2 : TI := ⟨.int .i64, 1, 8, [.val (.int .i64 0)]⟩
theorem k2 : TyOk Try.prog 2 i2 := mk (z := .int .i64 0) Try.underlying2 (by kernel_rfl) rfl rfl (by simp [Value.oneCell'])
def i3 : TI := ⟨.int .i64, 1, 8, [.val (.int .i64 0)]⟩
theorem k3 : TyOk Try.prog 3 i3 := mk (z := .int .i64 0) Try.underlying3 (by kernel_rfl) rfl rfl (by simp [Value.oneCell'])
def i4 : TI := ⟨.bool, 1, 1, [.val (.bool false)]⟩
theorem k4 : TyOk Try.prog 4 i4 := mk (z := .bool false) Try.underlying4 (by kernel_rfl) rfl rfl (by simp [Value.oneCell'])
def i5 : TI := ⟨.int .u8, 1, 1, [.val (.int .u8 0)]⟩
theorem k5 : TyOk Try.prog 5 i5 := mk (z := .int .u8 0) Try.underlying5 (by kernel_rfl) rfl rfl (by simp [Value.oneCell'])
def i6 : TI := ⟨.int .u8, 1, 1, [.val (.int .u8 0)]⟩
theorem k6 : TyOk Try.prog 6 i6 := mk (z := .int .u8 0) Try.underlying6 (by kernel_rfl) rfl rfl (by simp [Value.oneCell'])
def i7 : TI := ⟨.struct #[{ name := "x", type := 2, offset := 0, embedded := false, tag := "", pkgPath := "runtime", byteOffset := 0 }, { name := "y", type := 3, offset := 1, embedded := false, tag := "", pkgPath := "runtime", byteOffset := 8 }, { name := "signed", type := 4, offset := 2, embedded := false, tag := "", pkgPath := "runtime", byteOffset := 16 }, { name := "code", type := 6, offset := 3, embedded := false, tag := "", pkgPath := "runtime", byteOffset := 17 }], 4, 24, [.val (.int .i64 0), .val (.int .i64 0), .val (.bool false), .val (.int .u8 0)]⟩
theorem k7 : TyOk Try.prog 7 i7 := mk (z := .agg #[.int .i64 0, .int .i64 0, .bool false, .int .u8 0]) Try.underlying7 (by kernel_rfl) rfl rfl (by simp [Value.oneCell'])
def i8 : TI := ⟨.struct #[{ name := "x", type := 2, offset := 0, embedded := false, tag := "", pkgPath := "runtime", byteOffset := 0 }, { name := "y", type := 3, offset := 1, embedded := false, tag := "", pkgPath := "runtime", byteOffset := 8 }, { name := "signed", type := 4, offset := 2, embedded := false, tag := "", pkgPath := "runtime", byteOffset := 16 }, { name := "code", type := 6, offset := 3, embedded := false, tag := "", pkgPath := "runtime", byteOffset := 17 }], 4, 24, [.val (.int .i64 0), .val (.int .i64 0), .val (.bool false), .val (.int .u8 0)]⟩
theorem k8 : TyOk Try.prog 8 i8 := mk (z := .agg #[.int .i64 0, .int .i64 0, .bool false, .int .u8 0]) Try.underlying8 (by kernel_rfl) rfl rfl (by simp [Value.oneCell'])
def i9 : TI := ⟨.string, 1, 16, [.val (.string ByteArray.empty)]⟩
theorem k9 : TyOk Try.prog 9 i9 := mk (z := .string ByteArray.empty) Try.underlying9 (by kernel_rfl) rfl rfl (by simp [Value.oneCell'])
def i10 : TI := ⟨.string, 1, 16, [.val (.string ByteArray.empty)]⟩
theorem k10 : TyOk Try.prog 10 i10 := mk (z := .string ByteArray.empty) Try.underlying10 (by kernel_rfl) rfl rfl (by simp [Value.oneCell'])
def i11 : TI := ⟨.string, 1, 16, [.val (.string ByteArray.empty)]⟩
theorem k11 : TyOk Try.prog 11 i11 := mk (z := .string ByteArray.empty) Try.underlying11 (by kernel_rfl) rfl rfl (by simp [Value.oneCell'])
def i12 : TI := ⟨.int .u64, 1, 8, [.val (.int .u64 0)]⟩
theorem k12 : TyOk Try.prog 12 i12 := mk (z := .int .u64 0) Try.underlying12 (by kernel_rfl) rfl rfl (by simp [Value.oneCell'])
def i13 : TI := ⟨.struct #[{ name := "msg", type := 9, offset := 0, embedded := false, tag := "", pkgPath := "runtime", byteOffset := 0 }, { name := "addr", type := 12, offset := 1, embedded := false, tag := "", pkgPath := "runtime", byteOffset := 16 }], 2, 24, [.val (.string ByteArray.empty), .val (.int .u64 0)]⟩
theorem k13 : TyOk Try.prog 13 i13 := mk (z := .agg #[.string ByteArray.empty, .int .u64 0]) Try.underlying13 (by kernel_rfl) rfl rfl (by simp [Value.oneCell'])
def i14 : TI := ⟨.struct #[{ name := "msg", type := 9, offset := 0, embedded := false, tag := "", pkgPath := "runtime", byteOffset := 0 }, { name := "addr", type := 12, offset := 1, embedded := false, tag := "", pkgPath := "runtime", byteOffset := 16 }], 2, 24, [.val (.string ByteArray.empty), .val (.int .u64 0)]⟩
theorem k14 : TyOk Try.prog 14 i14 := mk (z := .agg #[.string ByteArray.empty, .int .u64 0]) Try.underlying14 (by kernel_rfl) rfl rfl (by simp [Value.oneCell'])
def i15 : TI := ⟨.pointer 100, 1, 8, [.val (.pointer none)]⟩
theorem k15 : TyOk Try.prog 15 i15 := mk (z := .pointer none) Try.underlying15 (by kernel_rfl) rfl rfl (by simp [Value.oneCell'])
def i16 : TI := ⟨.pointer 103, 1, 8, [.val (.pointer none)]⟩
theorem k16 : TyOk Try.prog 16 i16 := mk (z := .pointer none) Try.underlying16 (by kernel_rfl) rfl rfl (by simp [Value.oneCell'])
def i17 : TI := ⟨.pointer 111, 1, 8, [.val (.pointer none)]⟩
theorem k17 : TyOk Try.prog 17 i17 := mk (z := .pointer none) Try.underlying17 (by kernel_rfl) rfl rfl (by simp [Value.oneCell'])
def i18 : TI := ⟨.struct #[{ name := "typ", type := 17, offset := 0, embedded := false, tag := "", pkgPath := "internal/runtime/maps", byteOffset := 0 }], 1, 8, [.val (.pointer none)]⟩
theorem k18 : TyOk Try.prog 18 i18 := mk (z := .agg #[.pointer none]) Try.underlying18 (by kernel_rfl) rfl rfl (by simp [Value.oneCell'])
def i19 : TI := ⟨.struct #[{ name := "typ", type := 17, offset := 0, embedded := false, tag := "", pkgPath := "internal/runtime/maps", byteOffset := 0 }], 1, 8, [.val (.pointer none)]⟩
theorem k19 : TyOk Try.prog 19 i19 := mk (z := .agg #[.pointer none]) Try.underlying19 (by kernel_rfl) rfl rfl (by simp [Value.oneCell'])
def i21 : TI := ⟨.int .i32, 1, 4, [.val (.int .i32 0)]⟩
theorem k21 : TyOk Try.prog 21 i21 := mk (z := .int .i32 0) Try.underlying21 (by kernel_rfl) rfl rfl (by simp [Value.oneCell'])
def i22 : TI := ⟨.slice 5, 1, 24, [.val (.slice none 0 0)]⟩
theorem k22 : TyOk Try.prog 22 i22 := mk (z := .slice none 0 0) Try.underlying22 (by kernel_rfl) rfl rfl (by simp [Value.oneCell'])
def i23 : TI := ⟨.slice 22, 1, 24, [.val (.slice none 0 0)]⟩
theorem k23 : TyOk Try.prog 23 i23 := mk (z := .slice none 0 0) Try.underlying23 (by kernel_rfl) rfl rfl (by simp [Value.oneCell'])
def i24 : TI := ⟨.func #[22] #[22] false, 1, 8, [.val (.nilFunc)]⟩
theorem k24 : TyOk Try.prog 24 i24 := mk (z := .nilFunc) Try.underlying24 (by kernel_rfl) rfl rfl (by simp [Value.oneCell'])
def i25 : TI := ⟨.int .i64, 1, 8, [.val (.int .i64 0)]⟩
theorem k25 : TyOk Try.prog 25 i25 := mk (z := .int .i64 0) Try.underlying25 (by kernel_rfl) rfl rfl (by simp [Value.oneCell'])
def i27 : TI := ⟨.func #[22] #[22, 25] false, 1, 8, [.val (.nilFunc)]⟩
theorem k27 : TyOk Try.prog 27 i27 := mk (z := .nilFunc) Try.underlying27 (by kernel_rfl) rfl rfl (by simp [Value.oneCell'])
def i28 : TI := ⟨.func #[22, 23] #[22, 25] true, 1, 8, [.val (.nilFunc)]⟩
theorem k28 : TyOk Try.prog 28 i28 := mk (z := .nilFunc) Try.underlying28 (by kernel_rfl) rfl rfl (by simp [Value.oneCell'])
def i29 : TI := ⟨.func #[22, 23] #[22, 25] false, 1, 8, [.val (.nilFunc)]⟩
theorem k29 : TyOk Try.prog 29 i29 := mk (z := .nilFunc) Try.underlying29 (by kernel_rfl) rfl rfl (by simp [Value.oneCell'])
def i30 : TI := ⟨.func #[] #[4] false, 1, 8, [.val (.nilFunc)]⟩
theorem k30 : TyOk Try.prog 30 i30 := mk (z := .nilFunc) Try.underlying30 (by kernel_rfl) rfl rfl (by simp [Value.oneCell'])
def i31 : TI := ⟨.int .u32, 1, 4, [.val (.int .u32 0)]⟩
theorem k31 : TyOk Try.prog 31 i31 := mk (z := .int .u32 0) Try.underlying31 (by kernel_rfl) rfl rfl (by simp [Value.oneCell'])
def i32 : TI := ⟨.func #[22] #[31] false, 1, 8, [.val (.nilFunc)]⟩
theorem k32 : TyOk Try.prog 32 i32 := mk (z := .nilFunc) Try.underlying32 (by kernel_rfl) rfl rfl (by simp [Value.oneCell'])
def i33 : TI := ⟨.func #[22, 22] #[4] false, 1, 8, [.val (.nilFunc)]⟩
theorem k33 : TyOk Try.prog 33 i33 := mk (z := .nilFunc) Try.underlying33 (by kernel_rfl) rfl rfl (by simp [Value.oneCell'])
def i34 : TI := ⟨.func #[22, 22, 23] #[4] false, 1, 8, [.val (.nilFunc)]⟩
theorem k34 : TyOk Try.prog 34 i34 := mk (z := .nilFunc) Try.underlying34 (by kernel_rfl) rfl rfl (by simp [Value.oneCell'])
def i35 : TI := ⟨.slice 45, 1, 24, [.val (.slice none 0 0)]⟩
theorem k35 : TyOk Try.prog 35 i35 := mk (z := .slice none 0 0) Try.underlying35 (by kernel_rfl) rfl rfl (by simp [Value.oneCell'])
def i36 : TI := ⟨.pointer 74, 1, 8, [.val (.pointer none)]⟩
theorem k36 : TyOk Try.prog 36 i36 := mk (z := .pointer none) Try.underlying36 (by kernel_rfl) rfl rfl (by simp [Value.oneCell'])
def i38 : TI := ⟨.func #[3] #[36, 25] false, 1, 8, [.val (.nilFunc)]⟩
theorem k38 : TyOk Try.prog 38 i38 := mk (z := .nilFunc) Try.underlying38 (by kernel_rfl) rfl rfl (by simp [Value.oneCell'])
def i39 : TI := ⟨.slice 43, 1, 24, [.val (.slice none 0 0)]⟩
theorem k39 : TyOk Try.prog 39 i39 := mk (z := .slice none 0 0) Try.underlying39 (by kernel_rfl) rfl rfl (by simp [Value.oneCell'])
def i40 : TI := ⟨.struct #[{ name := "Key", type := 2, offset := 0, embedded := false, tag := "", pkgPath := "", byteOffset := 0 }, { name := "Val", type := 2, offset := 1, embedded := false, tag := "", pkgPath := "", byteOffset := 8 }], 2, 16, [.val (.int .i64 0), .val (.int .i64 0)]⟩
theorem k40 : TyOk Try.prog 40 i40 := mk (z := .agg #[.int .i64 0, .int .i64 0]) Try.underlying40 (by kernel_rfl) rfl rfl (by simp [Value.oneCell'])
def i41 : TI := ⟨.struct #[{ name := "Key", type := 2, offset := 0, embedded := false, tag := "", pkgPath := "", byteOffset := 0 }, { name := "Val", type := 2, offset := 1, embedded := false, tag := "", pkgPath := "", byteOffset := 8 }], 2, 16, [.val (.int .i64 0), .val (.int .i64 0)]⟩
theorem k41 : TyOk Try.prog 41 i41 := mk (z := .agg #[.int .i64 0, .int .i64 0]) Try.underlying41 (by kernel_rfl) rfl rfl (by simp [Value.oneCell'])
def i42 : TI := ⟨.struct #[{ name := "Kind", type := 3, offset := 0, embedded := false, tag := "", pkgPath := "", byteOffset := 0 }, { name := "Record", type := 41, offset := 1, embedded := false, tag := "", pkgPath := "", byteOffset := 8 }, { name := "Id", type := 2, offset := 3, embedded := false, tag := "", pkgPath := "", byteOffset := 24 }], 4, 32, [.val (.int .i64 0), .val (.int .i64 0), .val (.int .i64 0), .val (.int .i64 0)]⟩
theorem k42 : TyOk Try.prog 42 i42 := mk (z := .agg #[.int .i64 0, .int .i64 0, .int .i64 0, .int .i64 0]) Try.underlying42 (by kernel_rfl) rfl rfl (by simp [Value.oneCell'])
def i43 : TI := ⟨.struct #[{ name := "Kind", type := 3, offset := 0, embedded := false, tag := "", pkgPath := "", byteOffset := 0 }, { name := "Record", type := 41, offset := 1, embedded := false, tag := "", pkgPath := "", byteOffset := 8 }, { name := "Id", type := 2, offset := 3, embedded := false, tag := "", pkgPath := "", byteOffset := 24 }], 4, 32, [.val (.int .i64 0), .val (.int .i64 0), .val (.int .i64 0), .val (.int .i64 0)]⟩
theorem k43 : TyOk Try.prog 43 i43 := mk (z := .agg #[.int .i64 0, .int .i64 0, .int .i64 0, .int .i64 0]) Try.underlying43 (by kernel_rfl) rfl rfl (by simp [Value.oneCell'])
def i44 : TI := ⟨.struct #[{ name := "Take", type := 4, offset := 0, embedded := false, tag := "", pkgPath := "", byteOffset := 0 }, { name := "Clone", type := 4, offset := 1, embedded := false, tag := "", pkgPath := "", byteOffset := 1 }, { name := "Event", type := 43, offset := 2, embedded := false, tag := "", pkgPath := "", byteOffset := 8 }], 6, 40, [.val (.bool false), .val (.bool false), .val (.int .i64 0), .val (.int .i64 0), .val (.int .i64 0), .val (.int .i64 0)]⟩
theorem k44 : TyOk Try.prog 44 i44 := mk (z := .agg #[.bool false, .bool false, .int .i64 0, .int .i64 0, .int .i64 0, .int .i64 0]) Try.underlying44 (by kernel_rfl) rfl rfl (by simp [Value.oneCell'])
def i45 : TI := ⟨.struct #[{ name := "Take", type := 4, offset := 0, embedded := false, tag := "", pkgPath := "", byteOffset := 0 }, { name := "Clone", type := 4, offset := 1, embedded := false, tag := "", pkgPath := "", byteOffset := 1 }, { name := "Event", type := 43, offset := 2, embedded := false, tag := "", pkgPath := "", byteOffset := 8 }], 6, 40, [.val (.bool false), .val (.bool false), .val (.int .i64 0), .val (.int .i64 0), .val (.int .i64 0), .val (.int .i64 0)]⟩
theorem k45 : TyOk Try.prog 45 i45 := mk (z := .agg #[.bool false, .bool false, .int .i64 0, .int .i64 0, .int .i64 0, .int .i64 0]) Try.underlying45 (by kernel_rfl) rfl rfl (by simp [Value.oneCell'])
def i47 : TI := ⟨.func #[] #[43, 4] false, 1, 8, [.val (.nilFunc)]⟩
theorem k47 : TyOk Try.prog 47 i47 := mk (z := .nilFunc) Try.underlying47 (by kernel_rfl) rfl rfl (by simp [Value.oneCell'])
def i48 : TI := ⟨.func #[43] #[25] false, 1, 8, [.val (.nilFunc)]⟩
theorem k48 : TyOk Try.prog 48 i48 := mk (z := .nilFunc) Try.underlying48 (by kernel_rfl) rfl rfl (by simp [Value.oneCell'])
def i49 : TI := ⟨.func #[] #[3] false, 1, 8, [.val (.nilFunc)]⟩
theorem k49 : TyOk Try.prog 49 i49 := mk (z := .nilFunc) Try.underlying49 (by kernel_rfl) rfl rfl (by simp [Value.oneCell'])
def i51 : TI := ⟨.func #[36] #[39, 4] false, 1, 8, [.val (.nilFunc)]⟩
theorem k51 : TyOk Try.prog 51 i51 := mk (z := .nilFunc) Try.underlying51 (by kernel_rfl) rfl rfl (by simp [Value.oneCell'])
def i52 : TI := ⟨.func #[39, 39] #[4] false, 1, 8, [.val (.nilFunc)]⟩
theorem k52 : TyOk Try.prog 52 i52 := mk (z := .nilFunc) Try.underlying52 (by kernel_rfl) rfl rfl (by simp [Value.oneCell'])
def i53 : TI := ⟨.func #[5, 35] #[4] false, 1, 8, [.val (.nilFunc)]⟩
theorem k53 : TyOk Try.prog 53 i53 := mk (z := .nilFunc) Try.underlying53 (by kernel_rfl) rfl rfl (by simp [Value.oneCell'])
def i54 : TI := ⟨.int .u16, 1, 2, [.val (.int .u16 0)]⟩
theorem k54 : TyOk Try.prog 54 i54 := mk (z := .int .u16 0) Try.underlying54 (by kernel_rfl) rfl rfl (by simp [Value.oneCell'])
def i56 : TI := ⟨.func #[22] #[23, 3, 25] false, 1, 8, [.val (.nilFunc)]⟩
theorem k56 : TyOk Try.prog 56 i56 := mk (z := .nilFunc) Try.underlying56 (by kernel_rfl) rfl rfl (by simp [Value.oneCell'])
def i57 : TI := ⟨.func #[23, 23] #[4] false, 1, 8, [.val (.nilFunc)]⟩
theorem k57 : TyOk Try.prog 57 i57 := mk (z := .nilFunc) Try.underlying57 (by kernel_rfl) rfl rfl (by simp [Value.oneCell'])
def i58 : TI := ⟨.func #[23, 54] #[4] false, 1, 8, [.val (.nilFunc)]⟩
theorem k58 : TyOk Try.prog 58 i58 := mk (z := .nilFunc) Try.underlying58 (by kernel_rfl) rfl rfl (by simp [Value.oneCell'])
def i59 : TI := ⟨.func #[23, 54, 31] #[4] false, 1, 8, [.val (.nilFunc)]⟩
theorem k59 : TyOk Try.prog 59 i59 := mk (z := .nilFunc) Try.underlying59 (by kernel_rfl) rfl rfl (by simp [Value.oneCell'])
def i61 : TI := ⟨.func #[22] #[22, 3, 25] false, 1, 8, [.val (.nilFunc)]⟩
theorem k61 : TyOk Try.prog 61 i61 := mk (z := .nilFunc) Try.underlying61 (by kernel_rfl) rfl rfl (by simp [Value.oneCell'])
def i63 : TI := ⟨.func #[22] #[23, 4] false, 1, 8, [.val (.nilFunc)]⟩
theorem k63 : TyOk Try.prog 63 i63 := mk (z := .nilFunc) Try.underlying63 (by kernel_rfl) rfl rfl (by simp [Value.oneCell'])
def i64 : TI := ⟨.func #[22] #[4] false, 1, 8, [.val (.nilFunc)]⟩
theorem k64 : TyOk Try.prog 64 i64 := mk (z := .nilFunc) Try.underlying64 (by kernel_rfl) rfl rfl (by simp [Value.oneCell'])
def i65 : TI := ⟨.func #[23, 22] #[4] false, 1, 8, [.val (.nilFunc)]⟩
theorem k65 : TyOk Try.prog 65 i65 := mk (z := .nilFunc) Try.underlying65 (by kernel_rfl) rfl rfl (by simp [Value.oneCell'])
def i66 : TI := ⟨.pointer 94, 1, 8, [.val (.pointer none)]⟩
theorem k66 : TyOk Try.prog 66 i66 := mk (z := .pointer none) Try.underlying66 (by kernel_rfl) rfl rfl (by simp [Value.oneCell'])
def i68 : TI := ⟨.func #[3] #[66, 25] false, 1, 8, [.val (.nilFunc)]⟩
theorem k68 : TyOk Try.prog 68 i68 := mk (z := .nilFunc) Try.underlying68 (by kernel_rfl) rfl rfl (by simp [Value.oneCell'])
def i69 : TI := ⟨.func #[36, 66] #[4] false, 1, 8, [.val (.nilFunc)]⟩
theorem k69 : TyOk Try.prog 69 i69 := mk (z := .nilFunc) Try.underlying69 (by kernel_rfl) rfl rfl (by simp [Value.oneCell'])
def i70 : TI := ⟨.func #[] #[36] false, 1, 8, [.val (.nilFunc)]⟩
theorem k70 : TyOk Try.prog 70 i70 := mk (z := .nilFunc) Try.underlying70 (by kernel_rfl) rfl rfl (by simp [Value.oneCell'])
def i71 : TI := ⟨.func #[2] #[43] false, 1, 8, [.val (.nilFunc)]⟩
theorem k71 : TyOk Try.prog 71 i71 := mk (z := .nilFunc) Try.underlying71 (by kernel_rfl) rfl rfl (by simp [Value.oneCell'])
def i72 : TI := ⟨.func #[3, 35] #[4] false, 1, 8, [.val (.nilFunc)]⟩
theorem k72 : TyOk Try.prog 72 i72 := mk (z := .nilFunc) Try.underlying72 (by kernel_rfl) rfl rfl (by simp [Value.oneCell'])
def i73 : TI := ⟨.struct #[{ name := "room", type := 3, offset := 0, embedded := false, tag := "", pkgPath := "pontoon/edge", byteOffset := 0 }, { name := "l", type := 39, offset := 1, embedded := false, tag := "", pkgPath := "pontoon/edge", byteOffset := 8 }, { name := "last", type := 2, offset := 2, embedded := false, tag := "", pkgPath := "pontoon/edge", byteOffset := 32 }], 3, 40, [.val (.int .i64 0), .val (.slice none 0 0), .val (.int .i64 0)]⟩
theorem k73 : TyOk Try.prog 73 i73 := mk (z := .agg #[.int .i64 0, .slice none 0 0, .int .i64 0]) Try.underlying73 (by kernel_rfl) rfl rfl (by simp [Value.oneCell'])
def i74 : TI := ⟨.struct #[{ name := "room", type := 3, offset := 0, embedded := false, tag := "", pkgPath := "pontoon/edge", byteOffset := 0 }, { name := "l", type := 39, offset := 1, embedded := false, tag := "", pkgPath := "pontoon/edge", byteOffset := 8 }, { name := "last", type := 2, offset := 2, embedded := false, tag := "", pkgPath := "pontoon/edge", byteOffset := 32 }], 3, 40, [.val (.int .i64 0), .val (.slice none 0 0), .val (.int .i64 0)]⟩
theorem k74 : TyOk Try.prog 74 i74 := mk (z := .agg #[.int .i64 0, .slice none 0 0, .int .i64 0]) Try.underlying74 (by kernel_rfl) rfl rfl (by simp [Value.oneCell'])
def i75 : TI := ⟨.slice 36, 1, 24, [.val (.slice none 0 0)]⟩
theorem k75 : TyOk Try.prog 75 i75 := mk (z := .slice none 0 0) Try.underlying75 (by kernel_rfl) rfl rfl (by simp [Value.oneCell'])
def i76 : TI := ⟨.func #[43] #[4] false, 1, 8, [.val (.nilFunc)]⟩
theorem k76 : TyOk Try.prog 76 i76 := mk (z := .nilFunc) Try.underlying76 (by kernel_rfl) rfl rfl (by simp [Value.oneCell'])
def i77 : TI := ⟨.func #[3, 39] #[36, 25] true, 1, 8, [.val (.nilFunc)]⟩
theorem k77 : TyOk Try.prog 77 i77 := mk (z := .nilFunc) Try.underlying77 (by kernel_rfl) rfl rfl (by simp [Value.oneCell'])
def i78 : TI := ⟨.func #[3, 39] #[66, 25] false, 1, 8, [.val (.nilFunc)]⟩
theorem k78 : TyOk Try.prog 78 i78 := mk (z := .nilFunc) Try.underlying78 (by kernel_rfl) rfl rfl (by simp [Value.oneCell'])
def i79 : TI := ⟨.func #[3, 39, 43] #[4] false, 1, 8, [.val (.nilFunc)]⟩
theorem k79 : TyOk Try.prog 79 i79 := mk (z := .nilFunc) Try.underlying79 (by kernel_rfl) rfl rfl (by simp [Value.oneCell'])
def i80 : TI := ⟨.func #[31] #[22] false, 1, 8, [.val (.nilFunc)]⟩
theorem k80 : TyOk Try.prog 80 i80 := mk (z := .nilFunc) Try.underlying80 (by kernel_rfl) rfl rfl (by simp [Value.oneCell'])
def i81 : TI := ⟨.array 4 5, 4, 4, [.val (.int .u8 0), .val (.int .u8 0), .val (.int .u8 0), .val (.int .u8 0)]⟩
theorem k81 : TyOk Try.prog 81 i81 := mk (z := .agg #[.int .u8 0, .int .u8 0, .int .u8 0, .int .u8 0]) Try.underlying81 (by kernel_rfl) rfl rfl (by simp [Value.oneCell'])
def i82 : TI := ⟨.array 4 5, 4, 4, [.val (.int .u8 0), .val (.int .u8 0), .val (.int .u8 0), .val (.int .u8 0)]⟩
theorem k82 : TyOk Try.prog 82 i82 := mk (z := .agg #[.int .u8 0, .int .u8 0, .int .u8 0, .int .u8 0]) Try.underlying82 (by kernel_rfl) rfl rfl (by simp [Value.oneCell'])
def i83 : TI := ⟨.func #[31] #[82] false, 1, 8, [.val (.nilFunc)]⟩
theorem k83 : TyOk Try.prog 83 i83 := mk (z := .nilFunc) Try.underlying83 (by kernel_rfl) rfl rfl (by simp [Value.oneCell'])
def i84 : TI := ⟨.int .u64, 1, 8, [.val (.int .u64 0)]⟩
theorem k84 : TyOk Try.prog 84 i84 := mk (z := .int .u64 0) Try.underlying84 (by kernel_rfl) rfl rfl (by simp [Value.oneCell'])
def i85 : TI := ⟨.func #[39] #[39] false, 1, 8, [.val (.nilFunc)]⟩
theorem k85 : TyOk Try.prog 85 i85 := mk (z := .nilFunc) Try.underlying85 (by kernel_rfl) rfl rfl (by simp [Value.oneCell'])
def i86 : TI := ⟨.func #[95] #[] false, 1, 8, [.val (.nilFunc)]⟩
theorem k86 : TyOk Try.prog 86 i86 := mk (z := .nilFunc) Try.underlying86 (by kernel_rfl) rfl rfl (by simp [Value.oneCell'])
def i87 : TI := ⟨.func #[95] #[] false, 1, 8, [.val (.nilFunc)]⟩
theorem k87 : TyOk Try.prog 87 i87 := mk (z := .nilFunc) Try.underlying87 (by kernel_rfl) rfl rfl (by simp [Value.oneCell'])
def i88 : TI := ⟨.func #[] #[87] false, 1, 8, [.val (.nilFunc)]⟩
theorem k88 : TyOk Try.prog 88 i88 := mk (z := .nilFunc) Try.underlying88 (by kernel_rfl) rfl rfl (by simp [Value.oneCell'])
def i89 : TI := ⟨.func #[97] #[] false, 1, 8, [.val (.nilFunc)]⟩
theorem k89 : TyOk Try.prog 89 i89 := mk (z := .nilFunc) Try.underlying89 (by kernel_rfl) rfl rfl (by simp [Value.oneCell'])
def i90 : TI := ⟨.func #[97] #[] false, 1, 8, [.val (.nilFunc)]⟩
theorem k90 : TyOk Try.prog 90 i90 := mk (z := .nilFunc) Try.underlying90 (by kernel_rfl) rfl rfl (by simp [Value.oneCell'])
def i91 : TI := ⟨.func #[22] #[90] false, 1, 8, [.val (.nilFunc)]⟩
theorem k91 : TyOk Try.prog 91 i91 := mk (z := .nilFunc) Try.underlying91 (by kernel_rfl) rfl rfl (by simp [Value.oneCell'])
def i92 : TI := ⟨.func #[] #[31] false, 1, 8, [.val (.nilFunc)]⟩
theorem k92 : TyOk Try.prog 92 i92 := mk (z := .nilFunc) Try.underlying92 (by kernel_rfl) rfl rfl (by simp [Value.oneCell'])
def i93 : TI := ⟨.struct #[{ name := "L", type := 39, offset := 0, embedded := false, tag := "", pkgPath := "", byteOffset := 0 }, { name := "Room", type := 3, offset := 1, embedded := false, tag := "", pkgPath := "", byteOffset := 24 }, { name := "Last", type := 2, offset := 2, embedded := false, tag := "", pkgPath := "", byteOffset := 32 }], 3, 40, [.val (.slice none 0 0), .val (.int .i64 0), .val (.int .i64 0)]⟩
theorem k93 : TyOk Try.prog 93 i93 := mk (z := .agg #[.slice none 0 0, .int .i64 0, .int .i64 0]) Try.underlying93 (by kernel_rfl) rfl rfl (by simp [Value.oneCell'])
def i94 : TI := ⟨.struct #[{ name := "L", type := 39, offset := 0, embedded := false, tag := "", pkgPath := "", byteOffset := 0 }, { name := "Room", type := 3, offset := 1, embedded := false, tag := "", pkgPath := "", byteOffset := 24 }, { name := "Last", type := 2, offset := 2, embedded := false, tag := "", pkgPath := "", byteOffset := 32 }], 3, 40, [.val (.slice none 0 0), .val (.int .i64 0), .val (.int .i64 0)]⟩
theorem k94 : TyOk Try.prog 94 i94 := mk (z := .agg #[.slice none 0 0, .int .i64 0, .int .i64 0]) Try.underlying94 (by kernel_rfl) rfl rfl (by simp [Value.oneCell'])
def i95 : TI := ⟨.func #[3, 43] #[4] false, 1, 8, [.val (.nilFunc)]⟩
theorem k95 : TyOk Try.prog 95 i95 := mk (z := .nilFunc) Try.underlying95 (by kernel_rfl) rfl rfl (by simp [Value.oneCell'])
def i96 : TI := ⟨.func #[39] #[87] false, 1, 8, [.val (.nilFunc)]⟩
theorem k96 : TyOk Try.prog 96 i96 := mk (z := .nilFunc) Try.underlying96 (by kernel_rfl) rfl rfl (by simp [Value.oneCell'])
def i97 : TI := ⟨.func #[3, 22] #[4] false, 1, 8, [.val (.nilFunc)]⟩
theorem k97 : TyOk Try.prog 97 i97 := mk (z := .nilFunc) Try.underlying97 (by kernel_rfl) rfl rfl (by simp [Value.oneCell'])
def i98 : TI := ⟨.func #[] #[9] false, 1, 8, [.val (.nilFunc)]⟩
theorem k98 : TyOk Try.prog 98 i98 := mk (z := .nilFunc) Try.underlying98 (by kernel_rfl) rfl rfl (by simp [Value.oneCell'])
def i99 : TI := ⟨.struct #[{ name := "_interface", type := 17, offset := 0, embedded := false, tag := "", pkgPath := "runtime", byteOffset := 0 }, { name := "concrete", type := 17, offset := 1, embedded := false, tag := "", pkgPath := "runtime", byteOffset := 8 }, { name := "asserted", type := 17, offset := 2, embedded := false, tag := "", pkgPath := "runtime", byteOffset := 16 }, { name := "missingMethod", type := 9, offset := 3, embedded := false, tag := "", pkgPath := "runtime", byteOffset := 24 }], 4, 40, [.val (.pointer none), .val (.pointer none), .val (.pointer none), .val (.string ByteArray.empty)]⟩
theorem k99 : TyOk Try.prog 99 i99 := mk (z := .agg #[.pointer none, .pointer none, .pointer none, .string ByteArray.empty]) Try.underlying99 (by kernel_rfl) rfl rfl (by simp [Value.oneCell'])
def i100 : TI := ⟨.struct #[{ name := "_interface", type := 17, offset := 0, embedded := false, tag := "", pkgPath := "runtime", byteOffset := 0 }, { name := "concrete", type := 17, offset := 1, embedded := false, tag := "", pkgPath := "runtime", byteOffset := 8 }, { name := "asserted", type := 17, offset := 2, embedded := false, tag := "", pkgPath := "runtime", byteOffset := 16 }, { name := "missingMethod", type := 9, offset := 3, embedded := false, tag := "", pkgPath := "runtime", byteOffset := 24 }], 4, 40, [.val (.pointer none), .val (.pointer none), .val (.pointer none), .val (.string ByteArray.empty)]⟩
theorem k100 : TyOk Try.prog 100 i100 := mk (z := .agg #[.pointer none, .pointer none, .pointer none, .string ByteArray.empty]) Try.underlying100 (by kernel_rfl) rfl rfl (by simp [Value.oneCell'])
def i101 : TI := ⟨.array 0 16, 0, 0, []⟩
theorem k101 : TyOk Try.prog 101 i101 := mk (z := .agg #[]) Try.underlying101 (by kernel_rfl) rfl rfl (by simp [Value.oneCell'])
def i102 : TI := ⟨.struct #[{ name := "_", type := 101, offset := 0, embedded := false, tag := "", pkgPath := "runtime", byteOffset := 0 }], 0, 0, []⟩
theorem k102 : TyOk Try.prog 102 i102 := mk (z := .agg #[]) Try.underlying102 (by kernel_rfl) rfl rfl (by simp [Value.oneCell'])
def i103 : TI := ⟨.struct #[{ name := "_", type := 101, offset := 0, embedded := false, tag := "", pkgPath := "runtime", byteOffset := 0 }], 0, 0, []⟩
theorem k103 : TyOk Try.prog 103 i103 := mk (z := .agg #[]) Try.underlying103 (by kernel_rfl) rfl rfl (by simp [Value.oneCell'])
def i104 : TI := ⟨.int .u8, 1, 1, [.val (.int .u8 0)]⟩
theorem k104 : TyOk Try.prog 104 i104 := mk (z := .int .u8 0) Try.underlying104 (by kernel_rfl) rfl rfl (by simp [Value.oneCell'])
def i105 : TI := ⟨.int .u8, 1, 1, [.val (.int .u8 0)]⟩
theorem k105 : TyOk Try.prog 105 i105 := mk (z := .int .u8 0) Try.underlying105 (by kernel_rfl) rfl rfl (by simp [Value.oneCell'])
def i106 : TI := ⟨.func #[112, 112] #[4] false, 1, 8, [.val (.nilFunc)]⟩
theorem k106 : TyOk Try.prog 106 i106 := mk (z := .nilFunc) Try.underlying106 (by kernel_rfl) rfl rfl (by simp [Value.oneCell'])
def i107 : TI := ⟨.pointer 5, 1, 8, [.val (.pointer none)]⟩
theorem k107 : TyOk Try.prog 107 i107 := mk (z := .pointer none) Try.underlying107 (by kernel_rfl) rfl rfl (by simp [Value.oneCell'])
def i108 : TI := ⟨.int .i32, 1, 4, [.val (.int .i32 0)]⟩
theorem k108 : TyOk Try.prog 108 i108 := mk (z := .int .i32 0) Try.underlying108 (by kernel_rfl) rfl rfl (by simp [Value.oneCell'])
def i109 : TI := ⟨.int .i32, 1, 4, [.val (.int .i32 0)]⟩
theorem k109 : TyOk Try.prog 109 i109 := mk (z := .int .i32 0) Try.underlying109 (by kernel_rfl) rfl rfl (by simp [Value.oneCell'])
def i110 : TI := ⟨.struct #[{ name := "Size_", type := 12, offset := 0, embedded := false, tag := "", pkgPath := "", byteOffset := 0 }, { name := "PtrBytes", type := 12, offset := 1, embedded := false, tag := "", pkgPath := "", byteOffset := 8 }, { name := "Hash", type := 31, offset := 2, embedded := false, tag := "", pkgPath := "", byteOffset := 16 }, { name := "TFlag", type := 104, offset := 3, embedded := false, tag := "", pkgPath := "", byteOffset := 20 }, { name := "Align_", type := 5, offset := 4, embedded := false, tag := "", pkgPath := "", byteOffset := 21 }, { name := "FieldAlign_", type := 5, offset := 5, embedded := false, tag := "", pkgPath := "", byteOffset := 22 }, { name := "Kind_", type := 105, offset := 6, embedded := false, tag := "", pkgPath := "", byteOffset := 23 }, { name := "Equal", type := 106, offset := 7, embedded := false, tag := "", pkgPath := "", byteOffset := 24 }, { name := "GCData", type := 107, offset := 8, embedded := false, tag := "", pkgPath := "", byteOffset := 32 }, { name := "Str", type := 108, offset := 9, embedded := false, tag := "", pkgPath := "", byteOffset := 40 }, { name := "PtrToThis", type := 109, offset := 10, embedded := false, tag := "", pkgPath := "", byteOffset := 44 }], 11, 48, [.val (.int .u64 0), .val (.int .u64 0), .val (.int .u32 0), .val (.int .u8 0), .val (.int .u8 0), .val (.int .u8 0), .val (.int .u8 0), .val (.nilFunc), .val (.pointer none), .val (.int .i32 0), .val (.int .i32 0)]⟩
theorem k110 : TyOk Try.prog 110 i110 := mk (z := .agg #[.int .u64 0, .int .u64 0, .int .u32 0, .int .u8 0, .int .u8 0, .int .u8 0, .int .u8 0, .nilFunc, .pointer none, .int .i32 0, .int .i32 0]) Try.underlying110 (by kernel_rfl) rfl rfl (by simp [Value.oneCell'])
def i111 : TI := ⟨.struct #[{ name := "Size_", type := 12, offset := 0, embedded := false, tag := "", pkgPath := "", byteOffset := 0 }, { name := "PtrBytes", type := 12, offset := 1, embedded := false, tag := "", pkgPath := "", byteOffset := 8 }, { name := "Hash", type := 31, offset := 2, embedded := false, tag := "", pkgPath := "", byteOffset := 16 }, { name := "TFlag", type := 104, offset := 3, embedded := false, tag := "", pkgPath := "", byteOffset := 20 }, { name := "Align_", type := 5, offset := 4, embedded := false, tag := "", pkgPath := "", byteOffset := 21 }, { name := "FieldAlign_", type := 5, offset := 5, embedded := false, tag := "", pkgPath := "", byteOffset := 22 }, { name := "Kind_", type := 105, offset := 6, embedded := false, tag := "", pkgPath := "", byteOffset := 23 }, { name := "Equal", type := 106, offset := 7, embedded := false, tag := "", pkgPath := "", byteOffset := 24 }, { name := "GCData", type := 107, offset := 8, embedded := false, tag := "", pkgPath := "", byteOffset := 32 }, { name := "Str", type := 108, offset := 9, embedded := false, tag := "", pkgPath := "", byteOffset := 40 }, { name := "PtrToThis", type := 109, offset := 10, embedded := false, tag := "", pkgPath := "", byteOffset := 44 }], 11, 48, [.val (.int .u64 0), .val (.int .u64 0), .val (.int .u32 0), .val (.int .u8 0), .val (.int .u8 0), .val (.int .u8 0), .val (.int .u8 0), .val (.nilFunc), .val (.pointer none), .val (.int .i32 0), .val (.int .i32 0)]⟩
theorem k111 : TyOk Try.prog 111 i111 := mk (z := .agg #[.int .u64 0, .int .u64 0, .int .u32 0, .int .u8 0, .int .u8 0, .int .u8 0, .int .u8 0, .nilFunc, .pointer none, .int .i32 0, .int .i32 0]) Try.underlying111 (by kernel_rfl) rfl rfl (by simp [Value.oneCell'])
def descF : Nat → Option TypeDesc
  | 1 => some (.func #[] #[] false)
  | 2 => some (.int .i64)
  | 3 => some (.int .i64)
  | 4 => some (.bool)
  | 5 => some (.int .u8)
  | 6 => some (.int .u8)
  | 7 => some (.struct #[{ name := "x", type := 2, offset := 0, embedded := false, tag := "", pkgPath := "runtime", byteOffset := 0 }, { name := "y", type := 3, offset := 1, embedded := false, tag := "", pkgPath := "runtime", byteOffset := 8 }, { name := "signed", type := 4, offset := 2, embedded := false, tag := "", pkgPath := "runtime", byteOffset := 16 }, { name := "code", type := 6, offset := 3, embedded := false, tag := "", pkgPath := "runtime", byteOffset := 17 }])
  | 8 => some (.struct #[{ name := "x", type := 2, offset := 0, embedded := false, tag := "", pkgPath := "runtime", byteOffset := 0 }, { name := "y", type := 3, offset := 1, embedded := false, tag := "", pkgPath := "runtime", byteOffset := 8 }, { name := "signed", type := 4, offset := 2, embedded := false, tag := "", pkgPath := "runtime", byteOffset := 16 }, { name := "code", type := 6, offset := 3, embedded := false, tag := "", pkgPath := "runtime", byteOffset := 17 }])
  | 9 => some (.string)
  | 10 => some (.string)
  | 11 => some (.string)
  | 12 => some (.int .u64)
  | 13 => some (.struct #[{ name := "msg", type := 9, offset := 0, embedded := false, tag := "", pkgPath := "runtime", byteOffset := 0 }, { name := "addr", type := 12, offset := 1, embedded := false, tag := "", pkgPath := "runtime", byteOffset := 16 }])
  | 14 => some (.struct #[{ name := "msg", type := 9, offset := 0, embedded := false, tag := "", pkgPath := "runtime", byteOffset := 0 }, { name := "addr", type := 12, offset := 1, embedded := false, tag := "", pkgPath := "runtime", byteOffset := 16 }])
  | 15 => some (.pointer 100)
  | 16 => some (.pointer 103)
  | 17 => some (.pointer 111)
  | 18 => some (.struct #[{ name := "typ", type := 17, offset := 0, embedded := false, tag := "", pkgPath := "internal/runtime/maps", byteOffset := 0 }])
  | 19 => some (.struct #[{ name := "typ", type := 17, offset := 0, embedded := false, tag := "", pkgPath := "internal/runtime/maps", byteOffset := 0 }])
  | 21 => some (.int .i32)
  | 22 => some (.slice 5)
  | 23 => some (.slice 22)
  | 24 => some (.func #[22] #[22] false)
  | 25 => some (.int .i64)
  | 27 => some (.func #[22] #[22, 25] false)
  | 28 => some (.func #[22, 23] #[22, 25] true)
  | 29 => some (.func #[22, 23] #[22, 25] false)
  | 30 => some (.func #[] #[4] false)
  | 31 => some (.int .u32)
  | 32 => some (.func #[22] #[31] false)
  | 33 => some (.func #[22, 22] #[4] false)
  | 34 => some (.func #[22, 22, 23] #[4] false)
  | 35 => some (.slice 45)
  | 36 => some (.pointer 74)
  | 38 => some (.func #[3] #[36, 25] false)
  | 39 => some (.slice 43)
  | 40 => some (.struct #[{ name := "Key", type := 2, offset := 0, embedded := false, tag := "", pkgPath := "", byteOffset := 0 }, { name := "Val", type := 2, offset := 1, embedded := false, tag := "", pkgPath := "", byteOffset := 8 }])
  | 41 => some (.struct #[{ name := "Key", type := 2, offset := 0, embedded := false, tag := "", pkgPath := "", byteOffset := 0 }, { name := "Val", type := 2, offset := 1, embedded := false, tag := "", pkgPath := "", byteOffset := 8 }])
  | 42 => some (.struct #[{ name := "Kind", type := 3, offset := 0, embedded := false, tag := "", pkgPath := "", byteOffset := 0 }, { name := "Record", type := 41, offset := 1, embedded := false, tag := "", pkgPath := "", byteOffset := 8 }, { name := "Id", type := 2, offset := 3, embedded := false, tag := "", pkgPath := "", byteOffset := 24 }])
  | 43 => some (.struct #[{ name := "Kind", type := 3, offset := 0, embedded := false, tag := "", pkgPath := "", byteOffset := 0 }, { name := "Record", type := 41, offset := 1, embedded := false, tag := "", pkgPath := "", byteOffset := 8 }, { name := "Id", type := 2, offset := 3, embedded := false, tag := "", pkgPath := "", byteOffset := 24 }])
  | 44 => some (.struct #[{ name := "Take", type := 4, offset := 0, embedded := false, tag := "", pkgPath := "", byteOffset := 0 }, { name := "Clone", type := 4, offset := 1, embedded := false, tag := "", pkgPath := "", byteOffset := 1 }, { name := "Event", type := 43, offset := 2, embedded := false, tag := "", pkgPath := "", byteOffset := 8 }])
  | 45 => some (.struct #[{ name := "Take", type := 4, offset := 0, embedded := false, tag := "", pkgPath := "", byteOffset := 0 }, { name := "Clone", type := 4, offset := 1, embedded := false, tag := "", pkgPath := "", byteOffset := 1 }, { name := "Event", type := 43, offset := 2, embedded := false, tag := "", pkgPath := "", byteOffset := 8 }])
  | 47 => some (.func #[] #[43, 4] false)
  | 48 => some (.func #[43] #[25] false)
  | 49 => some (.func #[] #[3] false)
  | 51 => some (.func #[36] #[39, 4] false)
  | 52 => some (.func #[39, 39] #[4] false)
  | 53 => some (.func #[5, 35] #[4] false)
  | 54 => some (.int .u16)
  | 56 => some (.func #[22] #[23, 3, 25] false)
  | 57 => some (.func #[23, 23] #[4] false)
  | 58 => some (.func #[23, 54] #[4] false)
  | 59 => some (.func #[23, 54, 31] #[4] false)
  | 61 => some (.func #[22] #[22, 3, 25] false)
  | 63 => some (.func #[22] #[23, 4] false)
  | 64 => some (.func #[22] #[4] false)
  | 65 => some (.func #[23, 22] #[4] false)
  | 66 => some (.pointer 94)
  | 68 => some (.func #[3] #[66, 25] false)
  | 69 => some (.func #[36, 66] #[4] false)
  | 70 => some (.func #[] #[36] false)
  | 71 => some (.func #[2] #[43] false)
  | 72 => some (.func #[3, 35] #[4] false)
  | 73 => some (.struct #[{ name := "room", type := 3, offset := 0, embedded := false, tag := "", pkgPath := "pontoon/edge", byteOffset := 0 }, { name := "l", type := 39, offset := 1, embedded := false, tag := "", pkgPath := "pontoon/edge", byteOffset := 8 }, { name := "last", type := 2, offset := 2, embedded := false, tag := "", pkgPath := "pontoon/edge", byteOffset := 32 }])
  | 74 => some (.struct #[{ name := "room", type := 3, offset := 0, embedded := false, tag := "", pkgPath := "pontoon/edge", byteOffset := 0 }, { name := "l", type := 39, offset := 1, embedded := false, tag := "", pkgPath := "pontoon/edge", byteOffset := 8 }, { name := "last", type := 2, offset := 2, embedded := false, tag := "", pkgPath := "pontoon/edge", byteOffset := 32 }])
  | 75 => some (.slice 36)
  | 76 => some (.func #[43] #[4] false)
  | 77 => some (.func #[3, 39] #[36, 25] true)
  | 78 => some (.func #[3, 39] #[66, 25] false)
  | 79 => some (.func #[3, 39, 43] #[4] false)
  | 80 => some (.func #[31] #[22] false)
  | 81 => some (.array 4 5)
  | 82 => some (.array 4 5)
  | 83 => some (.func #[31] #[82] false)
  | 84 => some (.int .u64)
  | 85 => some (.func #[39] #[39] false)
  | 86 => some (.func #[95] #[] false)
  | 87 => some (.func #[95] #[] false)
  | 88 => some (.func #[] #[87] false)
  | 89 => some (.func #[97] #[] false)
  | 90 => some (.func #[97] #[] false)
  | 91 => some (.func #[22] #[90] false)
  | 92 => some (.func #[] #[31] false)
  | 93 => some (.struct #[{ name := "L", type := 39, offset := 0, embedded := false, tag := "", pkgPath := "", byteOffset := 0 }, { name := "Room", type := 3, offset := 1, embedded := false, tag := "", pkgPath := "", byteOffset := 24 }, { name := "Last", type := 2, offset := 2, embedded := false, tag := "", pkgPath := "", byteOffset := 32 }])
  | 94 => some (.struct #[{ name := "L", type := 39, offset := 0, embedded := false, tag := "", pkgPath := "", byteOffset := 0 }, { name := "Room", type := 3, offset := 1, embedded := false, tag := "", pkgPath := "", byteOffset := 24 }, { name := "Last", type := 2, offset := 2, embedded := false, tag := "", pkgPath := "", byteOffset := 32 }])
  | 95 => some (.func #[3, 43] #[4] false)
  | 96 => some (.func #[39] #[87] false)
  | 97 => some (.func #[3, 22] #[4] false)
  | 98 => some (.func #[] #[9] false)
  | 99 => some (.struct #[{ name := "_interface", type := 17, offset := 0, embedded := false, tag := "", pkgPath := "runtime", byteOffset := 0 }, { name := "concrete", type := 17, offset := 1, embedded := false, tag := "", pkgPath := "runtime", byteOffset := 8 }, { name := "asserted", type := 17, offset := 2, embedded := false, tag := "", pkgPath := "runtime", byteOffset := 16 }, { name := "missingMethod", type := 9, offset := 3, embedded := false, tag := "", pkgPath := "runtime", byteOffset := 24 }])
  | 100 => some (.struct #[{ name := "_interface", type := 17, offset := 0, embedded := false, tag := "", pkgPath := "runtime", byteOffset := 0 }, { name := "concrete", type := 17, offset := 1, embedded := false, tag := "", pkgPath := "runtime", byteOffset := 8 }, { name := "asserted", type := 17, offset := 2, embedded := false, tag := "", pkgPath := "runtime", byteOffset := 16 }, { name := "missingMethod", type := 9, offset := 3, embedded := false, tag := "", pkgPath := "runtime", byteOffset := 24 }])
  | 101 => some (.array 0 16)
  | 102 => some (.struct #[{ name := "_", type := 101, offset := 0, embedded := false, tag := "", pkgPath := "runtime", byteOffset := 0 }])
  | 103 => some (.struct #[{ name := "_", type := 101, offset := 0, embedded := false, tag := "", pkgPath := "runtime", byteOffset := 0 }])
  | 104 => some (.int .u8)
  | 105 => some (.int .u8)
  | 106 => some (.func #[112, 112] #[4] false)
  | 107 => some (.pointer 5)
  | 108 => some (.int .i32)
  | 109 => some (.int .i32)
  | 110 => some (.struct #[{ name := "Size_", type := 12, offset := 0, embedded := false, tag := "", pkgPath := "", byteOffset := 0 }, { name := "PtrBytes", type := 12, offset := 1, embedded := false, tag := "", pkgPath := "", byteOffset := 8 }, { name := "Hash", type := 31, offset := 2, embedded := false, tag := "", pkgPath := "", byteOffset := 16 }, { name := "TFlag", type := 104, offset := 3, embedded := false, tag := "", pkgPath := "", byteOffset := 20 }, { name := "Align_", type := 5, offset := 4, embedded := false, tag := "", pkgPath := "", byteOffset := 21 }, { name := "FieldAlign_", type := 5, offset := 5, embedded := false, tag := "", pkgPath := "", byteOffset := 22 }, { name := "Kind_", type := 105, offset := 6, embedded := false, tag := "", pkgPath := "", byteOffset := 23 }, { name := "Equal", type := 106, offset := 7, embedded := false, tag := "", pkgPath := "", byteOffset := 24 }, { name := "GCData", type := 107, offset := 8, embedded := false, tag := "", pkgPath := "", byteOffset := 32 }, { name := "Str", type := 108, offset := 9, embedded := false, tag := "", pkgPath := "", byteOffset := 40 }, { name := "PtrToThis", type := 109, offset := 10, embedded := false, tag := "", pkgPath := "", byteOffset := 44 }])
  | 111 => some (.struct #[{ name := "Size_", type := 12, offset := 0, embedded := false, tag := "", pkgPath := "", byteOffset := 0 }, { name := "PtrBytes", type := 12, offset := 1, embedded := false, tag := "", pkgPath := "", byteOffset := 8 }, { name := "Hash", type := 31, offset := 2, embedded := false, tag := "", pkgPath := "", byteOffset := 16 }, { name := "TFlag", type := 104, offset := 3, embedded := false, tag := "", pkgPath := "", byteOffset := 20 }, { name := "Align_", type := 5, offset := 4, embedded := false, tag := "", pkgPath := "", byteOffset := 21 }, { name := "FieldAlign_", type := 5, offset := 5, embedded := false, tag := "", pkgPath := "", byteOffset := 22 }, { name := "Kind_", type := 105, offset := 6, embedded := false, tag := "", pkgPath := "", byteOffset := 23 }, { name := "Equal", type := 106, offset := 7, embedded := false, tag := "", pkgPath := "", byteOffset := 24 }, { name := "GCData", type := 107, offset := 8, embedded := false, tag := "", pkgPath := "", byteOffset := 32 }, { name := "Str", type := 108, offset := 9, embedded := false, tag := "", pkgPath := "", byteOffset := 40 }, { name := "PtrToThis", type := 109, offset := 10, embedded := false, tag := "", pkgPath := "", byteOffset := 44 }])
  | _ => none
def sizeF : Nat → Nat
  | 1 => 1
  | 2 => 1
  | 3 => 1
  | 4 => 1
  | 5 => 1
  | 6 => 1
  | 7 => 4
  | 8 => 4
  | 9 => 1
  | 10 => 1
  | 11 => 1
  | 12 => 1
  | 13 => 2
  | 14 => 2
  | 15 => 1
  | 16 => 1
  | 17 => 1
  | 18 => 1
  | 19 => 1
  | 21 => 1
  | 22 => 1
  | 23 => 1
  | 24 => 1
  | 25 => 1
  | 27 => 1
  | 28 => 1
  | 29 => 1
  | 30 => 1
  | 31 => 1
  | 32 => 1
  | 33 => 1
  | 34 => 1
  | 35 => 1
  | 36 => 1
  | 38 => 1
  | 39 => 1
  | 40 => 2
  | 41 => 2
  | 42 => 4
  | 43 => 4
  | 44 => 6
  | 45 => 6
  | 47 => 1
  | 48 => 1
  | 49 => 1
  | 51 => 1
  | 52 => 1
  | 53 => 1
  | 54 => 1
  | 56 => 1
  | 57 => 1
  | 58 => 1
  | 59 => 1
  | 61 => 1
  | 63 => 1
  | 64 => 1
  | 65 => 1
  | 66 => 1
  | 68 => 1
  | 69 => 1
  | 70 => 1
  | 71 => 1
  | 72 => 1
  | 73 => 3
  | 74 => 3
  | 75 => 1
  | 76 => 1
  | 77 => 1
  | 78 => 1
  | 79 => 1
  | 80 => 1
  | 81 => 4
  | 82 => 4
  | 83 => 1
  | 84 => 1
  | 85 => 1
  | 86 => 1
  | 87 => 1
  | 88 => 1
  | 89 => 1
  | 90 => 1
  | 91 => 1
  | 92 => 1
  | 93 => 3
  | 94 => 3
  | 95 => 1
  | 96 => 1
  | 97 => 1
  | 98 => 1
  | 99 => 4
  | 100 => 4
  | 101 => 0
  | 102 => 0
  | 103 => 0
  | 104 => 1
  | 105 => 1
  | 106 => 1
  | 107 => 1
  | 108 => 1
  | 109 => 1
  | 110 => 11
  | 111 => 11
  | _ => 0
def bytesF : Nat → Nat
  | 1 => 8
  | 2 => 8
  | 3 => 8
  | 4 => 1
  | 5 => 1
  | 6 => 1
  | 7 => 24
  | 8 => 24
  | 9 => 16
  | 10 => 16
  | 11 => 16
  | 12 => 8
  | 13 => 24
  | 14 => 24
  | 15 => 8
  | 16 => 8
  | 17 => 8
  | 18 => 8
  | 19 => 8
  | 21 => 4
  | 22 => 24
  | 23 => 24
  | 24 => 8
  | 25 => 8
  | 27 => 8
  | 28 => 8
  | 29 => 8
  | 30 => 8
  | 31 => 4
  | 32 => 8
  | 33 => 8
  | 34 => 8
  | 35 => 24
  | 36 => 8
  | 38 => 8
  | 39 => 24
  | 40 => 16
  | 41 => 16
  | 42 => 32
  | 43 => 32
  | 44 => 40
  | 45 => 40
  | 47 => 8
  | 48 => 8
  | 49 => 8
  | 51 => 8
  | 52 => 8
  | 53 => 8
  | 54 => 2
  | 56 => 8
  | 57 => 8
  | 58 => 8
  | 59 => 8
  | 61 => 8
  | 63 => 8
  | 64 => 8
  | 65 => 8
  | 66 => 8
  | 68 => 8
  | 69 => 8
  | 70 => 8
  | 71 => 8
  | 72 => 8
  | 73 => 40
  | 74 => 40
  | 75 => 24
  | 76 => 8
  | 77 => 8
  | 78 => 8
  | 79 => 8
  | 80 => 8
  | 81 => 4
  | 82 => 4
  | 83 => 8
  | 84 => 8
  | 85 => 8
  | 86 => 8
  | 87 => 8
  | 88 => 8
  | 89 => 8
  | 90 => 8
  | 91 => 8
  | 92 => 8
  | 93 => 40
  | 94 => 40
  | 95 => 8
  | 96 => 8
  | 97 => 8
  | 98 => 8
  | 99 => 40
  | 100 => 40
  | 101 => 0
  | 102 => 0
  | 103 => 0
  | 104 => 1
  | 105 => 1
  | 106 => 8
  | 107 => 8
  | 108 => 4
  | 109 => 4
  | 110 => 48
  | 111 => 48
  | _ => 0
def zeroF : Nat → List CV
  | 1 => [.val (.nilFunc)]
  | 2 => [.val (.int .i64 0)]
  | 3 => [.val (.int .i64 0)]
  | 4 => [.val (.bool false)]
  | 5 => [.val (.int .u8 0)]
  | 6 => [.val (.int .u8 0)]
  | 7 => [.val (.int .i64 0), .val (.int .i64 0), .val (.bool false), .val (.int .u8 0)]
  | 8 => [.val (.int .i64 0), .val (.int .i64 0), .val (.bool false), .val (.int .u8 0)]
  | 9 => [.val (.string ByteArray.empty)]
  | 10 => [.val (.string ByteArray.empty)]
  | 11 => [.val (.string ByteArray.empty)]
  | 12 => [.val (.int .u64 0)]
  | 13 => [.val (.string ByteArray.empty), .val (.int .u64 0)]
  | 14 => [.val (.string ByteArray.empty), .val (.int .u64 0)]
  | 15 => [.val (.pointer none)]
  | 16 => [.val (.pointer none)]
  | 17 => [.val (.pointer none)]
  | 18 => [.val (.pointer none)]
  | 19 => [.val (.pointer none)]
  | 21 => [.val (.int .i32 0)]
  | 22 => [.val (.slice none 0 0)]
  | 23 => [.val (.slice none 0 0)]
  | 24 => [.val (.nilFunc)]
  | 25 => [.val (.int .i64 0)]
  | 27 => [.val (.nilFunc)]
  | 28 => [.val (.nilFunc)]
  | 29 => [.val (.nilFunc)]
  | 30 => [.val (.nilFunc)]
  | 31 => [.val (.int .u32 0)]
  | 32 => [.val (.nilFunc)]
  | 33 => [.val (.nilFunc)]
  | 34 => [.val (.nilFunc)]
  | 35 => [.val (.slice none 0 0)]
  | 36 => [.val (.pointer none)]
  | 38 => [.val (.nilFunc)]
  | 39 => [.val (.slice none 0 0)]
  | 40 => [.val (.int .i64 0), .val (.int .i64 0)]
  | 41 => [.val (.int .i64 0), .val (.int .i64 0)]
  | 42 => [.val (.int .i64 0), .val (.int .i64 0), .val (.int .i64 0), .val (.int .i64 0)]
  | 43 => [.val (.int .i64 0), .val (.int .i64 0), .val (.int .i64 0), .val (.int .i64 0)]
  | 44 => [.val (.bool false), .val (.bool false), .val (.int .i64 0), .val (.int .i64 0), .val (.int .i64 0), .val (.int .i64 0)]
  | 45 => [.val (.bool false), .val (.bool false), .val (.int .i64 0), .val (.int .i64 0), .val (.int .i64 0), .val (.int .i64 0)]
  | 47 => [.val (.nilFunc)]
  | 48 => [.val (.nilFunc)]
  | 49 => [.val (.nilFunc)]
  | 51 => [.val (.nilFunc)]
  | 52 => [.val (.nilFunc)]
  | 53 => [.val (.nilFunc)]
  | 54 => [.val (.int .u16 0)]
  | 56 => [.val (.nilFunc)]
  | 57 => [.val (.nilFunc)]
  | 58 => [.val (.nilFunc)]
  | 59 => [.val (.nilFunc)]
  | 61 => [.val (.nilFunc)]
  | 63 => [.val (.nilFunc)]
  | 64 => [.val (.nilFunc)]
  | 65 => [.val (.nilFunc)]
  | 66 => [.val (.pointer none)]
  | 68 => [.val (.nilFunc)]
  | 69 => [.val (.nilFunc)]
  | 70 => [.val (.nilFunc)]
  | 71 => [.val (.nilFunc)]
  | 72 => [.val (.nilFunc)]
  | 73 => [.val (.int .i64 0), .val (.slice none 0 0), .val (.int .i64 0)]
  | 74 => [.val (.int .i64 0), .val (.slice none 0 0), .val (.int .i64 0)]
  | 75 => [.val (.slice none 0 0)]
  | 76 => [.val (.nilFunc)]
  | 77 => [.val (.nilFunc)]
  | 78 => [.val (.nilFunc)]
  | 79 => [.val (.nilFunc)]
  | 80 => [.val (.nilFunc)]
  | 81 => [.val (.int .u8 0), .val (.int .u8 0), .val (.int .u8 0), .val (.int .u8 0)]
  | 82 => [.val (.int .u8 0), .val (.int .u8 0), .val (.int .u8 0), .val (.int .u8 0)]
  | 83 => [.val (.nilFunc)]
  | 84 => [.val (.int .u64 0)]
  | 85 => [.val (.nilFunc)]
  | 86 => [.val (.nilFunc)]
  | 87 => [.val (.nilFunc)]
  | 88 => [.val (.nilFunc)]
  | 89 => [.val (.nilFunc)]
  | 90 => [.val (.nilFunc)]
  | 91 => [.val (.nilFunc)]
  | 92 => [.val (.nilFunc)]
  | 93 => [.val (.slice none 0 0), .val (.int .i64 0), .val (.int .i64 0)]
  | 94 => [.val (.slice none 0 0), .val (.int .i64 0), .val (.int .i64 0)]
  | 95 => [.val (.nilFunc)]
  | 96 => [.val (.nilFunc)]
  | 97 => [.val (.nilFunc)]
  | 98 => [.val (.nilFunc)]
  | 99 => [.val (.pointer none), .val (.pointer none), .val (.pointer none), .val (.string ByteArray.empty)]
  | 100 => [.val (.pointer none), .val (.pointer none), .val (.pointer none), .val (.string ByteArray.empty)]
  | 101 => []
  | 102 => []
  | 103 => []
  | 104 => [.val (.int .u8 0)]
  | 105 => [.val (.int .u8 0)]
  | 106 => [.val (.nilFunc)]
  | 107 => [.val (.pointer none)]
  | 108 => [.val (.int .i32 0)]
  | 109 => [.val (.int .i32 0)]
  | 110 => [.val (.int .u64 0), .val (.int .u64 0), .val (.int .u32 0), .val (.int .u8 0), .val (.int .u8 0), .val (.int .u8 0), .val (.int .u8 0), .val (.nilFunc), .val (.pointer none), .val (.int .i32 0), .val (.int .i32 0)]
  | 111 => [.val (.int .u64 0), .val (.int .u64 0), .val (.int .u32 0), .val (.int .u8 0), .val (.int .u8 0), .val (.int .u8 0), .val (.int .u8 0), .val (.nilFunc), .val (.pointer none), .val (.int .i32 0), .val (.int .i32 0)]
  | _ => []
def tt : TT := fun t => (descF t).map fun d => ⟨d, sizeF t, bytesF t, zeroF t⟩
theorem ttOk : TtOk Try.prog tt := by
  intro t i h
  unfold tt descF at h
  split at h <;> first | (cases h; done) | (simp only [Option.map_some, Option.some.injEq] at h; subst h)
  · exact k1
  · exact k2
  · exact k3
  · exact k4
  · exact k5
  · exact k6
  · exact k7
  · exact k8
  · exact k9
  · exact k10
  · exact k11
  · exact k12
  · exact k13
  · exact k14
  · exact k15
  · exact k16
  · exact k17
  · exact k18
  · exact k19
  · exact k21
  · exact k22
  · exact k23
  · exact k24
  · exact k25
  · exact k27
  · exact k28
  · exact k29
  · exact k30
  · exact k31
  · exact k32
  · exact k33
  · exact k34
  · exact k35
  · exact k36
  · exact k38
  · exact k39
  · exact k40
  · exact k41
  · exact k42
  · exact k43
  · exact k44
  · exact k45
  · exact k47
  · exact k48
  · exact k49
  · exact k51
  · exact k52
  · exact k53
  · exact k54
  · exact k56
  · exact k57
  · exact k58
  · exact k59
  · exact k61
  · exact k63
  · exact k64
  · exact k65
  · exact k66
  · exact k68
  · exact k69
  · exact k70
  · exact k71
  · exact k72
  · exact k73
  · exact k74
  · exact k75
  · exact k76
  · exact k77
  · exact k78
  · exact k79
  · exact k80
  · exact k81
  · exact k82
  · exact k83
  · exact k84
  · exact k85
  · exact k86
  · exact k87
  · exact k88
  · exact k89
  · exact k90
  · exact k91
  · exact k92
  · exact k93
  · exact k94
  · exact k95
  · exact k96
  · exact k97
  · exact k98
  · exact k99
  · exact k100
  · exact k101
  · exact k102
  · exact k103
  · exact k104
  · exact k105
  · exact k106
  · exact k107
  · exact k108
  · exact k109
  · exact k110
  · exact k111
theorem tdesc_tt (t : Nat) : tdesc tt t = descF t := by unfold tdesc tt; cases descF t <;> rfl
theorem tsize_tt (t : Nat) : tsize tt t = (descF t).map fun _ => sizeF t := by unfold tsize tt; cases descF t <;> rfl
theorem tbytes_tt (t : Nat) : tbytes tt t = (descF t).map fun _ => bytesF t := by unfold tbytes tt; cases descF t <;> rfl
theorem tzero_tt (t : Nat) : tzero tt t = (descF t).map fun _ => zeroF t := by unfold tzero tt; cases descF t <;> rfl
theorem tagg_tt (t : Nat) : tagg tt t = (descF t).map fun d => (descAgg d, sizeF t) := by unfold tagg tt; cases descF t <;> rfl
end Go.Ab.Try
