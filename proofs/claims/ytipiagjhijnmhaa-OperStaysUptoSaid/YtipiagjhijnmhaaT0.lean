/-
  The seat's types: written by a program of this session (gen_types.py); each row is checked by the kernel.
-/
import Derived.Test.YtipiagjhijnmhaaProg
import Derived.Test.YtipiagjhijnmhaaA3
import Derived.KernelRfl
set_option linter.unusedVariables false
set_option linter.unusedSimpArgs false
namespace Go.Ab.Try
open Go Go.Proofs
theorem mk {P : Program} {t : TypeId} {d : TypeDesc} {z : Value} {n b : Nat} {zs : List CV} (h1 : P.underlying t = some d) (h2 : (P.info? t).map (fun i => (i.zero, i.size, i.bytes)) = some (some z, n, b)) (hz : z.cells = (zs.map cvVal).toArray) (hl : zs.length = n) (hs : ∀ u ∈ zs, (∃ x, u = .val x ∧ x.oneCell' = true) ∨ u = .sl []) : TyOk P t ⟨d, n, b, zs⟩ := by
  cases hi : P.info? t with
  | none => simp [hi] at h2
  | some i =>
    simp [hi] at h2
    exact ⟨h1, hs, hl, i, hi, h2.2.1, h2.2.2, z, h2.1, hz⟩
def i1 : TI := ⟨.func #[] #[] false, 1, 8, [.val (.nilFunc)]⟩
theorem k1 : TyOk Try.prog 1 i1 := mk (z := .nilFunc) Try.underlying1 (by kernel_rfl) rfl rfl (by simp [Value.oneCell'])
def i2 : TI := ⟨.int .i64, 1, 8, [.val (.int .i64 0)]⟩
theorem k2 : TyOk Try.prog 2 i2 := mk (z := .int .i64 0) Try.underlying2 (by kernel_rfl) rfl rfl (by simp [Value.oneCell'])
def i3 : TI := ⟨.int .i64, 1, 8, [.val (.int .i64 0)]⟩
theorem k3 : TyOk Try.prog 3 i3 := mk (z := .int .i64 0) Try.underlying3 (by kernel_rfl) rfl rfl (by simp [Value.oneCell'])
def i4 : TI := ⟨.bool, 1, 1, [.val (.bool false)]⟩
theorem k4 : TyOk Try.prog 4 i4 := mk (z := .bool false) Try.underlying4 (by kernel_rfl) rfl rfl (by simp [Value.oneCell'])
def i5 : TI := ⟨.int .u8, 1, 1, [.val (.int .u8 0)]⟩
theorem k5 : TyOk Try.prog 5 i5 := mk (z := .int .u8 0) Try.underlying5 (by kernel_rfl) rfl rfl (by simp [Value.oneCell'])
def i6 : TI := ⟨.int .u8, 1, 1, [.val (.int .u8 0)]⟩
theorem k6 : TyOk Try.prog 6 i6 := mk (z := .int .u8 0) Try.underlying6 (by kernel_rfl) rfl rfl (by simp [Value.oneCell'])
def i7 : TI := ⟨.struct #[{ name := "x", type := 2, offset := 0, embedded := false, tag := "", pkgPath := "runtime", byteOffset := 0 }, { name := "y", type := 3, offset := 1, embedded := false, tag := "", pkgPath := "runtime", byteOffset := 8 }, { name := "signed", type := 4, offset := 2, embedded := false, tag := "", pkgPath := "runtime", byteOffset := 16 }, { name := "code", type := 6, offset := 3, embedded := false, tag := "", pkgPath := "runtime", byteOffset := 17 }], 4, 24, [.val (.int .i64 0), .val (.int .i64 0), .val (.bool false), .val (.int .u8 0)]⟩
theorem k7 : TyOk Try.prog 7 i7 := mk (z := .agg #[.int .i64 0, .int .i64 0, .bool false, .int .u8 0]) Try.underlying7 (by kernel_rfl) rfl rfl (by simp [Value.oneCell'])
def i8 : TI := ⟨.struct #[{ name := "x", type := 2, offset := 0, embedded := false, tag := "", pkgPath := "runtime", byteOffset := 0 }, { name := "y", type := 3, offset := 1, embedded := false, tag := "", pkgPath := "runtime", byteOffset := 8 }, { name := "signed", type := 4, offset := 2, embedded := false, tag := "", pkgPath := "runtime", byteOffset := 16 }, { name := "code", type := 6, offset := 3, embedded := false, tag := "", pkgPath := "runtime", byteOffset := 17 }], 4, 24, [.val (.int .i64 0), .val (.int .i64 0), .val (.bool false), .val (.int .u8 0)]⟩
theorem k8 : TyOk Try.prog 8 i8 := mk (z := .agg #[.int .i64 0, .int .i64 0, .bool false, .int .u8 0]) Try.underlying8 (by kernel_rfl) rfl rfl (by simp [Value.oneCell'])
def i9 : TI := ⟨.string, 1, 16, [.val (.string ByteArray.empty)]⟩
theorem k9 : TyOk Try.prog 9 i9 := mk (z := .string ByteArray.empty) Try.underlying9 (by kernel_rfl) rfl rfl (by simp [Value.oneCell'])
def i10 : TI := ⟨.string, 1, 16, [.val (.string ByteArray.empty)]⟩
theorem k10 : TyOk Try.prog 10 i10 := mk (z := .string ByteArray.empty) Try.underlying10 (by kernel_rfl) rfl rfl (by simp [Value.oneCell'])
def i11 : TI := ⟨.string, 1, 16, [.val (.string ByteArray.empty)]⟩
theorem k11 : TyOk Try.prog 11 i11 := mk (z := .string ByteArray.empty) Try.underlying11 (by kernel_rfl) rfl rfl (by simp [Value.oneCell'])
def i12 : TI := ⟨.int .u64, 1, 8, [.val (.int .u64 0)]⟩
theorem k12 : TyOk Try.prog 12 i12 := mk (z := .int .u64 0) Try.underlying12 (by kernel_rfl) rfl rfl (by simp [Value.oneCell'])
def i13 : TI := ⟨.struct #[{ name := "msg", type := 9, offset := 0, embedded := false, tag := "", pkgPath := "runtime", byteOffset := 0 }, { name := "addr", type := 12, offset := 1, embedded := false, tag := "", pkgPath := "runtime", byteOffset := 16 }], 2, 24, [.val (.string ByteArray.empty), .val (.int .u64 0)]⟩
theorem k13 : TyOk Try.prog 13 i13 := mk (z := .agg #[.string ByteArray.empty, .int .u64 0]) Try.underlying13 (by kernel_rfl) rfl rfl (by simp [Value.oneCell'])
def i14 : TI := ⟨.struct #[{ name := "msg", type := 9, offset := 0, embedded := false, tag := "", pkgPath := "runtime", byteOffset := 0 }, { name := "addr", type := 12, offset := 1, embedded := false, tag := "", pkgPath := "runtime", byteOffset := 16 }], 2, 24, [.val (.string ByteArray.empty), .val (.int .u64 0)]⟩
theorem k14 : TyOk Try.prog 14 i14 := mk (z := .agg #[.string ByteArray.empty, .int .u64 0]) Try.underlying14 (by kernel_rfl) rfl rfl (by simp [Value.oneCell'])
def i15 : TI := ⟨.pointer 127, 1, 8, [.val (.pointer none)]⟩
theorem k15 : TyOk Try.prog 15 i15 := mk (z := .pointer none) Try.underlying15 (by kernel_rfl) rfl rfl (by simp [Value.oneCell'])
def i16 : TI := ⟨.pointer 130, 1, 8, [.val (.pointer none)]⟩
theorem k16 : TyOk Try.prog 16 i16 := mk (z := .pointer none) Try.underlying16 (by kernel_rfl) rfl rfl (by simp [Value.oneCell'])
def i17 : TI := ⟨.pointer 139, 1, 8, [.val (.pointer none)]⟩
theorem k17 : TyOk Try.prog 17 i17 := mk (z := .pointer none) Try.underlying17 (by kernel_rfl) rfl rfl (by simp [Value.oneCell'])
def i18 : TI := ⟨.struct #[{ name := "typ", type := 17, offset := 0, embedded := false, tag := "", pkgPath := "internal/runtime/maps", byteOffset := 0 }], 1, 8, [.val (.pointer none)]⟩
theorem k18 : TyOk Try.prog 18 i18 := mk (z := .agg #[.pointer none]) Try.underlying18 (by kernel_rfl) rfl rfl (by simp [Value.oneCell'])
def i19 : TI := ⟨.struct #[{ name := "typ", type := 17, offset := 0, embedded := false, tag := "", pkgPath := "internal/runtime/maps", byteOffset := 0 }], 1, 8, [.val (.pointer none)]⟩
theorem k19 : TyOk Try.prog 19 i19 := mk (z := .agg #[.pointer none]) Try.underlying19 (by kernel_rfl) rfl rfl (by simp [Value.oneCell'])
def i21 : TI := ⟨.int .i32, 1, 4, [.val (.int .i32 0)]⟩
theorem k21 : TyOk Try.prog 21 i21 := mk (z := .int .i32 0) Try.underlying21 (by kernel_rfl) rfl rfl (by simp [Value.oneCell'])
def i22 : TI := ⟨.slice 2, 1, 24, [.val (.slice none 0 0)]⟩
theorem k22 : TyOk Try.prog 22 i22 := mk (z := .slice none 0 0) Try.underlying22 (by kernel_rfl) rfl rfl (by simp [Value.oneCell'])
def i23 : TI := ⟨.struct #[{ name := "Epoch", type := 2, offset := 0, embedded := false, tag := "", pkgPath := "", byteOffset := 0 }, { name := "Id", type := 2, offset := 1, embedded := false, tag := "", pkgPath := "", byteOffset := 8 }, { name := "Len", type := 2, offset := 2, embedded := false, tag := "", pkgPath := "", byteOffset := 16 }, { name := "Vector", type := 22, offset := 3, embedded := false, tag := "", pkgPath := "", byteOffset := 24 }], 4, 48, [.val (.int .i64 0), .val (.int .i64 0), .val (.int .i64 0), .val (.slice none 0 0)]⟩
theorem k23 : TyOk Try.prog 23 i23 := mk (z := .agg #[.int .i64 0, .int .i64 0, .int .i64 0, .slice none 0 0]) Try.underlying23 (by kernel_rfl) rfl rfl (by simp [Value.oneCell'])
def i24 : TI := ⟨.struct #[{ name := "Epoch", type := 2, offset := 0, embedded := false, tag := "", pkgPath := "", byteOffset := 0 }, { name := "Id", type := 2, offset := 1, embedded := false, tag := "", pkgPath := "", byteOffset := 8 }, { name := "Len", type := 2, offset := 2, embedded := false, tag := "", pkgPath := "", byteOffset := 16 }, { name := "Vector", type := 22, offset := 3, embedded := false, tag := "", pkgPath := "", byteOffset := 24 }], 4, 48, [.val (.int .i64 0), .val (.int .i64 0), .val (.int .i64 0), .val (.slice none 0 0)]⟩
theorem k24 : TyOk Try.prog 24 i24 := mk (z := .agg #[.int .i64 0, .int .i64 0, .int .i64 0, .slice none 0 0]) Try.underlying24 (by kernel_rfl) rfl rfl (by simp [Value.oneCell'])
def i25 : TI := ⟨.func #[] #[4] false, 1, 8, [.val (.nilFunc)]⟩
theorem k25 : TyOk Try.prog 25 i25 := mk (z := .nilFunc) Try.underlying25 (by kernel_rfl) rfl rfl (by simp [Value.oneCell'])
def i26 : TI := ⟨.slice 68, 1, 24, [.val (.slice none 0 0)]⟩
theorem k26 : TyOk Try.prog 26 i26 := mk (z := .slice none 0 0) Try.underlying26 (by kernel_rfl) rfl rfl (by simp [Value.oneCell'])
def i27 : TI := ⟨.struct #[{ name := "Epoch", type := 2, offset := 0, embedded := false, tag := "", pkgPath := "", byteOffset := 0 }, { name := "Id", type := 2, offset := 1, embedded := false, tag := "", pkgPath := "", byteOffset := 8 }, { name := "Begin", type := 2, offset := 2, embedded := false, tag := "", pkgPath := "", byteOffset := 16 }, { name := "Records", type := 26, offset := 3, embedded := false, tag := "", pkgPath := "", byteOffset := 24 }, { name := "Vector", type := 22, offset := 4, embedded := false, tag := "", pkgPath := "", byteOffset := 48 }], 5, 72, [.val (.int .i64 0), .val (.int .i64 0), .val (.int .i64 0), .val (.slice none 0 0), .val (.slice none 0 0)]⟩
theorem k27 : TyOk Try.prog 27 i27 := mk (z := .agg #[.int .i64 0, .int .i64 0, .int .i64 0, .slice none 0 0, .slice none 0 0]) Try.underlying27 (by kernel_rfl) rfl rfl (by simp [Value.oneCell'])
def i28 : TI := ⟨.struct #[{ name := "Epoch", type := 2, offset := 0, embedded := false, tag := "", pkgPath := "", byteOffset := 0 }, { name := "Id", type := 2, offset := 1, embedded := false, tag := "", pkgPath := "", byteOffset := 8 }, { name := "Begin", type := 2, offset := 2, embedded := false, tag := "", pkgPath := "", byteOffset := 16 }, { name := "Records", type := 26, offset := 3, embedded := false, tag := "", pkgPath := "", byteOffset := 24 }, { name := "Vector", type := 22, offset := 4, embedded := false, tag := "", pkgPath := "", byteOffset := 48 }], 5, 72, [.val (.int .i64 0), .val (.int .i64 0), .val (.int .i64 0), .val (.slice none 0 0), .val (.slice none 0 0)]⟩
theorem k28 : TyOk Try.prog 28 i28 := mk (z := .agg #[.int .i64 0, .int .i64 0, .int .i64 0, .slice none 0 0, .slice none 0 0]) Try.underlying28 (by kernel_rfl) rfl rfl (by simp [Value.oneCell'])
def i29 : TI := ⟨.struct #[{ name := "Phase", type := 3, offset := 0, embedded := false, tag := "", pkgPath := "", byteOffset := 0 }, { name := "Epoch", type := 2, offset := 1, embedded := false, tag := "", pkgPath := "", byteOffset := 8 }, { name := "Id", type := 2, offset := 2, embedded := false, tag := "", pkgPath := "", byteOffset := 16 }, { name := "Len", type := 2, offset := 3, embedded := false, tag := "", pkgPath := "", byteOffset := 24 }, { name := "Vector", type := 22, offset := 4, embedded := false, tag := "", pkgPath := "", byteOffset := 32 }, { name := "Txn", type := 28, offset := 5, embedded := false, tag := "", pkgPath := "", byteOffset := 56 }, { name := "Done", type := 2, offset := 10, embedded := false, tag := "", pkgPath := "", byteOffset := 128 }, { name := "Left", type := 2, offset := 11, embedded := false, tag := "", pkgPath := "", byteOffset := 136 }], 12, 144, [.val (.int .i64 0), .val (.int .i64 0), .val (.int .i64 0), .val (.int .i64 0), .val (.slice none 0 0), .val (.int .i64 0), .val (.int .i64 0), .val (.int .i64 0), .val (.slice none 0 0), .val (.slice none 0 0), .val (.int .i64 0), .val (.int .i64 0)]⟩
theorem k29 : TyOk Try.prog 29 i29 := mk (z := .agg #[.int .i64 0, .int .i64 0, .int .i64 0, .int .i64 0, .slice none 0 0, .int .i64 0, .int .i64 0, .int .i64 0, .slice none 0 0, .slice none 0 0, .int .i64 0, .int .i64 0]) Try.underlying29 (by kernel_rfl) rfl rfl (by simp [Value.oneCell'])
def i30 : TI := ⟨.struct #[{ name := "Phase", type := 3, offset := 0, embedded := false, tag := "", pkgPath := "", byteOffset := 0 }, { name := "Epoch", type := 2, offset := 1, embedded := false, tag := "", pkgPath := "", byteOffset := 8 }, { name := "Id", type := 2, offset := 2, embedded := false, tag := "", pkgPath := "", byteOffset := 16 }, { name := "Len", type := 2, offset := 3, embedded := false, tag := "", pkgPath := "", byteOffset := 24 }, { name := "Vector", type := 22, offset := 4, embedded := false, tag := "", pkgPath := "", byteOffset := 32 }, { name := "Txn", type := 28, offset := 5, embedded := false, tag := "", pkgPath := "", byteOffset := 56 }, { name := "Done", type := 2, offset := 10, embedded := false, tag := "", pkgPath := "", byteOffset := 128 }, { name := "Left", type := 2, offset := 11, embedded := false, tag := "", pkgPath := "", byteOffset := 136 }], 12, 144, [.val (.int .i64 0), .val (.int .i64 0), .val (.int .i64 0), .val (.int .i64 0), .val (.slice none 0 0), .val (.int .i64 0), .val (.int .i64 0), .val (.int .i64 0), .val (.slice none 0 0), .val (.slice none 0 0), .val (.int .i64 0), .val (.int .i64 0)]⟩
theorem k30 : TyOk Try.prog 30 i30 := mk (z := .agg #[.int .i64 0, .int .i64 0, .int .i64 0, .int .i64 0, .slice none 0 0, .int .i64 0, .int .i64 0, .int .i64 0, .slice none 0 0, .slice none 0 0, .int .i64 0, .int .i64 0]) Try.underlying30 (by kernel_rfl) rfl rfl (by simp [Value.oneCell'])
def i31 : TI := ⟨.int .i64, 1, 8, [.val (.int .i64 0)]⟩
theorem k31 : TyOk Try.prog 31 i31 := mk (z := .int .i64 0) Try.underlying31 (by kernel_rfl) rfl rfl (by simp [Value.oneCell'])
def i33 : TI := ⟨.func #[2, 2, 2, 22] #[30, 31] false, 1, 8, [.val (.nilFunc)]⟩
theorem k33 : TyOk Try.prog 33 i33 := mk (z := .nilFunc) Try.underlying33 (by kernel_rfl) rfl rfl (by simp [Value.oneCell'])
def i34 : TI := ⟨.func #[30, 30] #[4] false, 1, 8, [.val (.nilFunc)]⟩
theorem k34 : TyOk Try.prog 34 i34 := mk (z := .nilFunc) Try.underlying34 (by kernel_rfl) rfl rfl (by simp [Value.oneCell'])
def i35 : TI := ⟨.func #[22, 22] #[4] false, 1, 8, [.val (.nilFunc)]⟩
theorem k35 : TyOk Try.prog 35 i35 := mk (z := .nilFunc) Try.underlying35 (by kernel_rfl) rfl rfl (by simp [Value.oneCell'])
def i36 : TI := ⟨.func #[24] #[4] false, 1, 8, [.val (.nilFunc)]⟩
theorem k36 : TyOk Try.prog 36 i36 := mk (z := .nilFunc) Try.underlying36 (by kernel_rfl) rfl rfl (by simp [Value.oneCell'])
def i37 : TI := ⟨.slice 45, 1, 24, [.val (.slice none 0 0)]⟩
theorem k37 : TyOk Try.prog 37 i37 := mk (z := .slice none 0 0) Try.underlying37 (by kernel_rfl) rfl rfl (by simp [Value.oneCell'])
def i38 : TI := ⟨.slice 111, 1, 24, [.val (.slice none 0 0)]⟩
theorem k38 : TyOk Try.prog 38 i38 := mk (z := .slice none 0 0) Try.underlying38 (by kernel_rfl) rfl rfl (by simp [Value.oneCell'])
def i39 : TI := ⟨.int .u32, 1, 4, [.val (.int .u32 0)]⟩
theorem k39 : TyOk Try.prog 39 i39 := mk (z := .int .u32 0) Try.underlying39 (by kernel_rfl) rfl rfl (by simp [Value.oneCell'])
def i40 : TI := ⟨.struct #[{ name := "Epoch", type := 2, offset := 0, embedded := false, tag := "", pkgPath := "", byteOffset := 0 }, { name := "Id", type := 2, offset := 1, embedded := false, tag := "", pkgPath := "", byteOffset := 8 }, { name := "Vector", type := 22, offset := 2, embedded := false, tag := "", pkgPath := "", byteOffset := 16 }, { name := "Out", type := 2, offset := 3, embedded := false, tag := "", pkgPath := "", byteOffset := 40 }, { name := "Begin", type := 2, offset := 4, embedded := false, tag := "", pkgPath := "", byteOffset := 48 }, { name := "Records", type := 26, offset := 5, embedded := false, tag := "", pkgPath := "", byteOffset := 56 }, { name := "Pieces", type := 38, offset := 6, embedded := false, tag := "", pkgPath := "", byteOffset := 80 }, { name := "Graph", type := 39, offset := 7, embedded := false, tag := "", pkgPath := "", byteOffset := 104 }], 8, 112, [.val (.int .i64 0), .val (.int .i64 0), .val (.slice none 0 0), .val (.int .i64 0), .val (.int .i64 0), .val (.slice none 0 0), .val (.slice none 0 0), .val (.int .u32 0)]⟩
theorem k40 : TyOk Try.prog 40 i40 := mk (z := .agg #[.int .i64 0, .int .i64 0, .slice none 0 0, .int .i64 0, .int .i64 0, .slice none 0 0, .slice none 0 0, .int .u32 0]) Try.underlying40 (by kernel_rfl) rfl rfl (by simp [Value.oneCell'])
def i41 : TI := ⟨.struct #[{ name := "Epoch", type := 2, offset := 0, embedded := false, tag := "", pkgPath := "", byteOffset := 0 }, { name := "Id", type := 2, offset := 1, embedded := false, tag := "", pkgPath := "", byteOffset := 8 }, { name := "Vector", type := 22, offset := 2, embedded := false, tag := "", pkgPath := "", byteOffset := 16 }, { name := "Out", type := 2, offset := 3, embedded := false, tag := "", pkgPath := "", byteOffset := 40 }, { name := "Begin", type := 2, offset := 4, embedded := false, tag := "", pkgPath := "", byteOffset := 48 }, { name := "Records", type := 26, offset := 5, embedded := false, tag := "", pkgPath := "", byteOffset := 56 }, { name := "Pieces", type := 38, offset := 6, embedded := false, tag := "", pkgPath := "", byteOffset := 80 }, { name := "Graph", type := 39, offset := 7, embedded := false, tag := "", pkgPath := "", byteOffset := 104 }], 8, 112, [.val (.int .i64 0), .val (.int .i64 0), .val (.slice none 0 0), .val (.int .i64 0), .val (.int .i64 0), .val (.slice none 0 0), .val (.slice none 0 0), .val (.int .u32 0)]⟩
theorem k41 : TyOk Try.prog 41 i41 := mk (z := .agg #[.int .i64 0, .int .i64 0, .slice none 0 0, .int .i64 0, .int .i64 0, .slice none 0 0, .slice none 0 0, .int .u32 0]) Try.underlying41 (by kernel_rfl) rfl rfl (by simp [Value.oneCell'])
def i42 : TI := ⟨.struct #[{ name := "Epoch", type := 2, offset := 0, embedded := false, tag := "", pkgPath := "", byteOffset := 0 }, { name := "Id", type := 2, offset := 1, embedded := false, tag := "", pkgPath := "", byteOffset := 8 }], 2, 16, [.val (.int .i64 0), .val (.int .i64 0)]⟩
theorem k42 : TyOk Try.prog 42 i42 := mk (z := .agg #[.int .i64 0, .int .i64 0]) Try.underlying42 (by kernel_rfl) rfl rfl (by simp [Value.oneCell'])
def i43 : TI := ⟨.struct #[{ name := "Epoch", type := 2, offset := 0, embedded := false, tag := "", pkgPath := "", byteOffset := 0 }, { name := "Id", type := 2, offset := 1, embedded := false, tag := "", pkgPath := "", byteOffset := 8 }], 2, 16, [.val (.int .i64 0), .val (.int .i64 0)]⟩
theorem k43 : TyOk Try.prog 43 i43 := mk (z := .agg #[.int .i64 0, .int .i64 0]) Try.underlying43 (by kernel_rfl) rfl rfl (by simp [Value.oneCell'])
def i44 : TI := ⟨.struct #[{ name := "Do", type := 3, offset := 0, embedded := false, tag := "", pkgPath := "", byteOffset := 0 }, { name := "Own", type := 4, offset := 1, embedded := false, tag := "", pkgPath := "", byteOffset := 8 }, { name := "Id", type := 2, offset := 2, embedded := false, tag := "", pkgPath := "", byteOffset := 16 }, { name := "Manifest", type := 41, offset := 3, embedded := false, tag := "", pkgPath := "", byteOffset := 24 }, { name := "Kind", type := 3, offset := 11, embedded := false, tag := "", pkgPath := "", byteOffset := 136 }, { name := "Key", type := 43, offset := 12, embedded := false, tag := "", pkgPath := "", byteOffset := 144 }, { name := "Err", type := 31, offset := 14, embedded := false, tag := "", pkgPath := "", byteOffset := 160 }, { name := "Len", type := 2, offset := 15, embedded := false, tag := "", pkgPath := "", byteOffset := 168 }, { name := "Vector", type := 22, offset := 16, embedded := false, tag := "", pkgPath := "", byteOffset := 176 }], 17, 200, [.val (.int .i64 0), .val (.bool false), .val (.int .i64 0), .val (.int .i64 0), .val (.int .i64 0), .val (.slice none 0 0), .val (.int .i64 0), .val (.int .i64 0), .val (.slice none 0 0), .val (.slice none 0 0), .val (.int .u32 0), .val (.int .i64 0), .val (.int .i64 0), .val (.int .i64 0), .val (.int .i64 0), .val (.int .i64 0), .val (.slice none 0 0)]⟩
theorem k44 : TyOk Try.prog 44 i44 := mk (z := .agg #[.int .i64 0, .bool false, .int .i64 0, .int .i64 0, .int .i64 0, .slice none 0 0, .int .i64 0, .int .i64 0, .slice none 0 0, .slice none 0 0, .int .u32 0, .int .i64 0, .int .i64 0, .int .i64 0, .int .i64 0, .int .i64 0, .slice none 0 0]) Try.underlying44 (by kernel_rfl) rfl rfl (by simp [Value.oneCell'])
def i45 : TI := ⟨.struct #[{ name := "Do", type := 3, offset := 0, embedded := false, tag := "", pkgPath := "", byteOffset := 0 }, { name := "Own", type := 4, offset := 1, embedded := false, tag := "", pkgPath := "", byteOffset := 8 }, { name := "Id", type := 2, offset := 2, embedded := false, tag := "", pkgPath := "", byteOffset := 16 }, { name := "Manifest", type := 41, offset := 3, embedded := false, tag := "", pkgPath := "", byteOffset := 24 }, { name := "Kind", type := 3, offset := 11, embedded := false, tag := "", pkgPath := "", byteOffset := 136 }, { name := "Key", type := 43, offset := 12, embedded := false, tag := "", pkgPath := "", byteOffset := 144 }, { name := "Err", type := 31, offset := 14, embedded := false, tag := "", pkgPath := "", byteOffset := 160 }, { name := "Len", type := 2, offset := 15, embedded := false, tag := "", pkgPath := "", byteOffset := 168 }, { name := "Vector", type := 22, offset := 16, embedded := false, tag := "", pkgPath := "", byteOffset := 176 }], 17, 200, [.val (.int .i64 0), .val (.bool false), .val (.int .i64 0), .val (.int .i64 0), .val (.int .i64 0), .val (.slice none 0 0), .val (.int .i64 0), .val (.int .i64 0), .val (.slice none 0 0), .val (.slice none 0 0), .val (.int .u32 0), .val (.int .i64 0), .val (.int .i64 0), .val (.int .i64 0), .val (.int .i64 0), .val (.int .i64 0), .val (.slice none 0 0)]⟩
theorem k45 : TyOk Try.prog 45 i45 := mk (z := .agg #[.int .i64 0, .bool false, .int .i64 0, .int .i64 0, .int .i64 0, .slice none 0 0, .int .i64 0, .int .i64 0, .slice none 0 0, .slice none 0 0, .int .u32 0, .int .i64 0, .int .i64 0, .int .i64 0, .int .i64 0, .int .i64 0, .slice none 0 0]) Try.underlying45 (by kernel_rfl) rfl rfl (by simp [Value.oneCell'])
def i46 : TI := ⟨.func #[30, 45] #[45] false, 1, 8, [.val (.nilFunc)]⟩
theorem k46 : TyOk Try.prog 46 i46 := mk (z := .nilFunc) Try.underlying46 (by kernel_rfl) rfl rfl (by simp [Value.oneCell'])
def i47 : TI := ⟨.struct #[{ name := "Kind", type := 3, offset := 0, embedded := false, tag := "", pkgPath := "", byteOffset := 0 }, { name := "Id", type := 2, offset := 1, embedded := false, tag := "", pkgPath := "", byteOffset := 8 }, { name := "Begin", type := 2, offset := 2, embedded := false, tag := "", pkgPath := "", byteOffset := 16 }, { name := "Txn", type := 28, offset := 3, embedded := false, tag := "", pkgPath := "", byteOffset := 24 }], 8, 96, [.val (.int .i64 0), .val (.int .i64 0), .val (.int .i64 0), .val (.int .i64 0), .val (.int .i64 0), .val (.int .i64 0), .val (.slice none 0 0), .val (.slice none 0 0)]⟩
theorem k47 : TyOk Try.prog 47 i47 := mk (z := .agg #[.int .i64 0, .int .i64 0, .int .i64 0, .int .i64 0, .int .i64 0, .int .i64 0, .slice none 0 0, .slice none 0 0]) Try.underlying47 (by kernel_rfl) rfl rfl (by simp [Value.oneCell'])
def i48 : TI := ⟨.struct #[{ name := "Kind", type := 3, offset := 0, embedded := false, tag := "", pkgPath := "", byteOffset := 0 }, { name := "Id", type := 2, offset := 1, embedded := false, tag := "", pkgPath := "", byteOffset := 8 }, { name := "Begin", type := 2, offset := 2, embedded := false, tag := "", pkgPath := "", byteOffset := 16 }, { name := "Txn", type := 28, offset := 3, embedded := false, tag := "", pkgPath := "", byteOffset := 24 }], 8, 96, [.val (.int .i64 0), .val (.int .i64 0), .val (.int .i64 0), .val (.int .i64 0), .val (.int .i64 0), .val (.int .i64 0), .val (.slice none 0 0), .val (.slice none 0 0)]⟩
theorem k48 : TyOk Try.prog 48 i48 := mk (z := .agg #[.int .i64 0, .int .i64 0, .int .i64 0, .int .i64 0, .int .i64 0, .int .i64 0, .slice none 0 0, .slice none 0 0]) Try.underlying48 (by kernel_rfl) rfl rfl (by simp [Value.oneCell'])
def i50 : TI := ⟨.func #[30, 45] #[30, 48] false, 1, 8, [.val (.nilFunc)]⟩
theorem k50 : TyOk Try.prog 50 i50 := mk (z := .nilFunc) Try.underlying50 (by kernel_rfl) rfl rfl (by simp [Value.oneCell'])
def i51 : TI := ⟨.func #[30] #[31] false, 1, 8, [.val (.nilFunc)]⟩
theorem k51 : TyOk Try.prog 51 i51 := mk (z := .nilFunc) Try.underlying51 (by kernel_rfl) rfl rfl (by simp [Value.oneCell'])
def i52 : TI := ⟨.func #[28, 28] #[4] false, 1, 8, [.val (.nilFunc)]⟩
theorem k52 : TyOk Try.prog 52 i52 := mk (z := .nilFunc) Try.underlying52 (by kernel_rfl) rfl rfl (by simp [Value.oneCell'])
def i53 : TI := ⟨.func #[5, 37] #[4] false, 1, 8, [.val (.nilFunc)]⟩
theorem k53 : TyOk Try.prog 53 i53 := mk (z := .nilFunc) Try.underlying53 (by kernel_rfl) rfl rfl (by simp [Value.oneCell'])
def i54 : TI := ⟨.func #[37] #[4] false, 1, 8, [.val (.nilFunc)]⟩
theorem k54 : TyOk Try.prog 54 i54 := mk (z := .nilFunc) Try.underlying54 (by kernel_rfl) rfl rfl (by simp [Value.oneCell'])
def i55 : TI := ⟨.slice 96, 1, 24, [.val (.slice none 0 0)]⟩
theorem k55 : TyOk Try.prog 55 i55 := mk (z := .slice none 0 0) Try.underlying55 (by kernel_rfl) rfl rfl (by simp [Value.oneCell'])
def i56 : TI := ⟨.struct #[{ name := "Kind", type := 3, offset := 0, embedded := false, tag := "", pkgPath := "", byteOffset := 0 }, { name := "Part", type := 3, offset := 1, embedded := false, tag := "", pkgPath := "", byteOffset := 8 }, { name := "Fn", type := 3, offset := 2, embedded := false, tag := "", pkgPath := "", byteOffset := 16 }, { name := "Arg", type := 2, offset := 3, embedded := false, tag := "", pkgPath := "", byteOffset := 24 }, { name := "In", type := 55, offset := 4, embedded := false, tag := "", pkgPath := "", byteOffset := 32 }], 5, 56, [.val (.int .i64 0), .val (.int .i64 0), .val (.int .i64 0), .val (.int .i64 0), .val (.slice none 0 0)]⟩
theorem k56 : TyOk Try.prog 56 i56 := mk (z := .agg #[.int .i64 0, .int .i64 0, .int .i64 0, .int .i64 0, .slice none 0 0]) Try.underlying56 (by kernel_rfl) rfl rfl (by simp [Value.oneCell'])
def i57 : TI := ⟨.struct #[{ name := "Kind", type := 3, offset := 0, embedded := false, tag := "", pkgPath := "", byteOffset := 0 }, { name := "Part", type := 3, offset := 1, embedded := false, tag := "", pkgPath := "", byteOffset := 8 }, { name := "Fn", type := 3, offset := 2, embedded := false, tag := "", pkgPath := "", byteOffset := 16 }, { name := "Arg", type := 2, offset := 3, embedded := false, tag := "", pkgPath := "", byteOffset := 24 }, { name := "In", type := 55, offset := 4, embedded := false, tag := "", pkgPath := "", byteOffset := 32 }], 5, 56, [.val (.int .i64 0), .val (.int .i64 0), .val (.int .i64 0), .val (.int .i64 0), .val (.slice none 0 0)]⟩
theorem k57 : TyOk Try.prog 57 i57 := mk (z := .agg #[.int .i64 0, .int .i64 0, .int .i64 0, .int .i64 0, .slice none 0 0]) Try.underlying57 (by kernel_rfl) rfl rfl (by simp [Value.oneCell'])
def i58 : TI := ⟨.slice 72, 1, 24, [.val (.slice none 0 0)]⟩
theorem k58 : TyOk Try.prog 58 i58 := mk (z := .slice none 0 0) Try.underlying58 (by kernel_rfl) rfl rfl (by simp [Value.oneCell'])
def i59 : TI := ⟨.struct #[{ name := "Keys", type := 58, offset := 0, embedded := false, tag := "", pkgPath := "", byteOffset := 0 }, { name := "Turn", type := 3, offset := 1, embedded := false, tag := "", pkgPath := "", byteOffset := 24 }], 2, 32, [.val (.slice none 0 0), .val (.int .i64 0)]⟩
theorem k59 : TyOk Try.prog 59 i59 := mk (z := .agg #[.slice none 0 0, .int .i64 0]) Try.underlying59 (by kernel_rfl) rfl rfl (by simp [Value.oneCell'])
def i60 : TI := ⟨.struct #[{ name := "Keys", type := 58, offset := 0, embedded := false, tag := "", pkgPath := "", byteOffset := 0 }, { name := "Turn", type := 3, offset := 1, embedded := false, tag := "", pkgPath := "", byteOffset := 24 }], 2, 32, [.val (.slice none 0 0), .val (.int .i64 0)]⟩
theorem k60 : TyOk Try.prog 60 i60 := mk (z := .agg #[.slice none 0 0, .int .i64 0]) Try.underlying60 (by kernel_rfl) rfl rfl (by simp [Value.oneCell'])
def i61 : TI := ⟨.slice 70, 1, 24, [.val (.slice none 0 0)]⟩
theorem k61 : TyOk Try.prog 61 i61 := mk (z := .slice none 0 0) Try.underlying61 (by kernel_rfl) rfl rfl (by simp [Value.oneCell'])
def i63 : TI := ⟨.func #[57, 60, 26] #[60, 61] true, 1, 8, [.val (.nilFunc)]⟩
theorem k63 : TyOk Try.prog 63 i63 := mk (z := .nilFunc) Try.underlying63 (by kernel_rfl) rfl rfl (by simp [Value.oneCell'])
def i64 : TI := ⟨.func #[60, 60] #[4] false, 1, 8, [.val (.nilFunc)]⟩
theorem k64 : TyOk Try.prog 64 i64 := mk (z := .nilFunc) Try.underlying64 (by kernel_rfl) rfl rfl (by simp [Value.oneCell'])
def i65 : TI := ⟨.func #[61, 61] #[4] false, 1, 8, [.val (.nilFunc)]⟩
theorem k65 : TyOk Try.prog 65 i65 := mk (z := .nilFunc) Try.underlying65 (by kernel_rfl) rfl rfl (by simp [Value.oneCell'])
def i66 : TI := ⟨.func #[57, 26, 26] #[4] false, 1, 8, [.val (.nilFunc)]⟩
theorem k66 : TyOk Try.prog 66 i66 := mk (z := .nilFunc) Try.underlying66 (by kernel_rfl) rfl rfl (by simp [Value.oneCell'])
def i67 : TI := ⟨.struct #[{ name := "Key", type := 2, offset := 0, embedded := false, tag := "", pkgPath := "", byteOffset := 0 }, { name := "Val", type := 2, offset := 1, embedded := false, tag := "", pkgPath := "", byteOffset := 8 }], 2, 16, [.val (.int .i64 0), .val (.int .i64 0)]⟩
theorem k67 : TyOk Try.prog 67 i67 := mk (z := .agg #[.int .i64 0, .int .i64 0]) Try.underlying67 (by kernel_rfl) rfl rfl (by simp [Value.oneCell'])
def i68 : TI := ⟨.struct #[{ name := "Key", type := 2, offset := 0, embedded := false, tag := "", pkgPath := "", byteOffset := 0 }, { name := "Val", type := 2, offset := 1, embedded := false, tag := "", pkgPath := "", byteOffset := 8 }], 2, 16, [.val (.int .i64 0), .val (.int .i64 0)]⟩
theorem k68 : TyOk Try.prog 68 i68 := mk (z := .agg #[.int .i64 0, .int .i64 0]) Try.underlying68 (by kernel_rfl) rfl rfl (by simp [Value.oneCell'])
def i69 : TI := ⟨.struct #[{ name := "Port", type := 3, offset := 0, embedded := false, tag := "", pkgPath := "", byteOffset := 0 }, { name := "Record", type := 68, offset := 1, embedded := false, tag := "", pkgPath := "", byteOffset := 8 }], 3, 24, [.val (.int .i64 0), .val (.int .i64 0), .val (.int .i64 0)]⟩
theorem k69 : TyOk Try.prog 69 i69 := mk (z := .agg #[.int .i64 0, .int .i64 0, .int .i64 0]) Try.underlying69 (by kernel_rfl) rfl rfl (by simp [Value.oneCell'])
def i70 : TI := ⟨.struct #[{ name := "Port", type := 3, offset := 0, embedded := false, tag := "", pkgPath := "", byteOffset := 0 }, { name := "Record", type := 68, offset := 1, embedded := false, tag := "", pkgPath := "", byteOffset := 8 }], 3, 24, [.val (.int .i64 0), .val (.int .i64 0), .val (.int .i64 0)]⟩
theorem k70 : TyOk Try.prog 70 i70 := mk (z := .agg #[.int .i64 0, .int .i64 0, .int .i64 0]) Try.underlying70 (by kernel_rfl) rfl rfl (by simp [Value.oneCell'])
def i71 : TI := ⟨.struct #[{ name := "Key", type := 2, offset := 0, embedded := false, tag := "", pkgPath := "", byteOffset := 0 }, { name := "Count", type := 2, offset := 1, embedded := false, tag := "", pkgPath := "", byteOffset := 8 }, { name := "Acc", type := 2, offset := 2, embedded := false, tag := "", pkgPath := "", byteOffset := 16 }], 3, 24, [.val (.int .i64 0), .val (.int .i64 0), .val (.int .i64 0)]⟩
theorem k71 : TyOk Try.prog 71 i71 := mk (z := .agg #[.int .i64 0, .int .i64 0, .int .i64 0]) Try.underlying71 (by kernel_rfl) rfl rfl (by simp [Value.oneCell'])
def i72 : TI := ⟨.struct #[{ name := "Key", type := 2, offset := 0, embedded := false, tag := "", pkgPath := "", byteOffset := 0 }, { name := "Count", type := 2, offset := 1, embedded := false, tag := "", pkgPath := "", byteOffset := 8 }, { name := "Acc", type := 2, offset := 2, embedded := false, tag := "", pkgPath := "", byteOffset := 16 }], 3, 24, [.val (.int .i64 0), .val (.int .i64 0), .val (.int .i64 0)]⟩
theorem k72 : TyOk Try.prog 72 i72 := mk (z := .agg #[.int .i64 0, .int .i64 0, .int .i64 0]) Try.underlying72 (by kernel_rfl) rfl rfl (by simp [Value.oneCell'])
def i73 : TI := ⟨.func #[57, 26, 2] #[4] false, 1, 8, [.val (.nilFunc)]⟩
theorem k73 : TyOk Try.prog 73 i73 := mk (z := .nilFunc) Try.underlying73 (by kernel_rfl) rfl rfl (by simp [Value.oneCell'])
def i74 : TI := ⟨.slice 57, 1, 24, [.val (.slice none 0 0)]⟩
theorem k74 : TyOk Try.prog 74 i74 := mk (z := .slice none 0 0) Try.underlying74 (by kernel_rfl) rfl rfl (by simp [Value.oneCell'])
def i75 : TI := ⟨.struct #[{ name := "Parts", type := 3, offset := 0, embedded := false, tag := "", pkgPath := "", byteOffset := 0 }, { name := "Ops", type := 74, offset := 1, embedded := false, tag := "", pkgPath := "", byteOffset := 8 }], 2, 32, [.val (.int .i64 0), .val (.slice none 0 0)]⟩
theorem k75 : TyOk Try.prog 75 i75 := mk (z := .agg #[.int .i64 0, .slice none 0 0]) Try.underlying75 (by kernel_rfl) rfl rfl (by simp [Value.oneCell'])
def i76 : TI := ⟨.struct #[{ name := "Parts", type := 3, offset := 0, embedded := false, tag := "", pkgPath := "", byteOffset := 0 }, { name := "Ops", type := 74, offset := 1, embedded := false, tag := "", pkgPath := "", byteOffset := 8 }], 2, 32, [.val (.int .i64 0), .val (.slice none 0 0)]⟩
theorem k76 : TyOk Try.prog 76 i76 := mk (z := .agg #[.int .i64 0, .slice none 0 0]) Try.underlying76 (by kernel_rfl) rfl rfl (by simp [Value.oneCell'])
def i78 : TI := ⟨.func #[76] #[3, 31] false, 1, 8, [.val (.nilFunc)]⟩
theorem k78 : TyOk Try.prog 78 i78 := mk (z := .nilFunc) Try.underlying78 (by kernel_rfl) rfl rfl (by simp [Value.oneCell'])
def i79 : TI := ⟨.func #[57, 60] #[31] false, 1, 8, [.val (.nilFunc)]⟩
theorem k79 : TyOk Try.prog 79 i79 := mk (z := .nilFunc) Try.underlying79 (by kernel_rfl) rfl rfl (by simp [Value.oneCell'])
def i80 : TI := ⟨.func #[57, 60, 68] #[60, 61] false, 1, 8, [.val (.nilFunc)]⟩
theorem k80 : TyOk Try.prog 80 i80 := mk (z := .nilFunc) Try.underlying80 (by kernel_rfl) rfl rfl (by simp [Value.oneCell'])
def i81 : TI := ⟨.func #[57] #[3] false, 1, 8, [.val (.nilFunc)]⟩
theorem k81 : TyOk Try.prog 81 i81 := mk (z := .nilFunc) Try.underlying81 (by kernel_rfl) rfl rfl (by simp [Value.oneCell'])
def i82 : TI := ⟨.func #[76, 26, 60] #[4] false, 1, 8, [.val (.nilFunc)]⟩
theorem k82 : TyOk Try.prog 82 i82 := mk (z := .nilFunc) Try.underlying82 (by kernel_rfl) rfl rfl (by simp [Value.oneCell'])
def i83 : TI := ⟨.func #[30] #[30, 48] false, 1, 8, [.val (.nilFunc)]⟩
theorem k83 : TyOk Try.prog 83 i83 := mk (z := .nilFunc) Try.underlying83 (by kernel_rfl) rfl rfl (by simp [Value.oneCell'])
def i84 : TI := ⟨.func #[30, 2] #[30, 48] false, 1, 8, [.val (.nilFunc)]⟩
theorem k84 : TyOk Try.prog 84 i84 := mk (z := .nilFunc) Try.underlying84 (by kernel_rfl) rfl rfl (by simp [Value.oneCell'])
def i85 : TI := ⟨.func #[30, 41] #[30, 48] false, 1, 8, [.val (.nilFunc)]⟩
theorem k85 : TyOk Try.prog 85 i85 := mk (z := .nilFunc) Try.underlying85 (by kernel_rfl) rfl rfl (by simp [Value.oneCell'])
def i86 : TI := ⟨.func #[2, 2, 2] #[41] false, 1, 8, [.val (.nilFunc)]⟩
theorem k86 : TyOk Try.prog 86 i86 := mk (z := .nilFunc) Try.underlying86 (by kernel_rfl) rfl rfl (by simp [Value.oneCell'])
def i87 : TI := ⟨.func #[30, 3, 43, 31, 2, 22] #[30, 48] false, 1, 8, [.val (.nilFunc)]⟩
theorem k87 : TyOk Try.prog 87 i87 := mk (z := .nilFunc) Try.underlying87 (by kernel_rfl) rfl rfl (by simp [Value.oneCell'])
def i88 : TI := ⟨.func #[22] #[22] false, 1, 8, [.val (.nilFunc)]⟩
theorem k88 : TyOk Try.prog 88 i88 := mk (z := .nilFunc) Try.underlying88 (by kernel_rfl) rfl rfl (by simp [Value.oneCell'])
def i89 : TI := ⟨.func #[30] #[30] false, 1, 8, [.val (.nilFunc)]⟩
theorem k89 : TyOk Try.prog 89 i89 := mk (z := .nilFunc) Try.underlying89 (by kernel_rfl) rfl rfl (by simp [Value.oneCell'])
def i90 : TI := ⟨.func #[2] #[4] false, 1, 8, [.val (.nilFunc)]⟩
theorem k90 : TyOk Try.prog 90 i90 := mk (z := .nilFunc) Try.underlying90 (by kernel_rfl) rfl rfl (by simp [Value.oneCell'])
def i91 : TI := ⟨.func #[22, 90] #[4] false, 1, 8, [.val (.nilFunc)]⟩
theorem k91 : TyOk Try.prog 91 i91 := mk (z := .nilFunc) Try.underlying91 (by kernel_rfl) rfl rfl (by simp [Value.oneCell'])
def i92 : TI := ⟨.func #[30] #[4] false, 1, 8, [.val (.nilFunc)]⟩
theorem k92 : TyOk Try.prog 92 i92 := mk (z := .nilFunc) Try.underlying92 (by kernel_rfl) rfl rfl (by simp [Value.oneCell'])
def i93 : TI := ⟨.func #[30] #[43] false, 1, 8, [.val (.nilFunc)]⟩
theorem k93 : TyOk Try.prog 93 i93 := mk (z := .nilFunc) Try.underlying93 (by kernel_rfl) rfl rfl (by simp [Value.oneCell'])
def i94 : TI := ⟨.func #[26, 26] #[4] false, 1, 8, [.val (.nilFunc)]⟩
theorem k94 : TyOk Try.prog 94 i94 := mk (z := .nilFunc) Try.underlying94 (by kernel_rfl) rfl rfl (by simp [Value.oneCell'])
def i95 : TI := ⟨.struct #[{ name := "From", type := 3, offset := 0, embedded := false, tag := "", pkgPath := "", byteOffset := 0 }, { name := "Port", type := 3, offset := 1, embedded := false, tag := "", pkgPath := "", byteOffset := 8 }], 2, 16, [.val (.int .i64 0), .val (.int .i64 0)]⟩
theorem k95 : TyOk Try.prog 95 i95 := mk (z := .agg #[.int .i64 0, .int .i64 0]) Try.underlying95 (by kernel_rfl) rfl rfl (by simp [Value.oneCell'])
def i96 : TI := ⟨.struct #[{ name := "From", type := 3, offset := 0, embedded := false, tag := "", pkgPath := "", byteOffset := 0 }, { name := "Port", type := 3, offset := 1, embedded := false, tag := "", pkgPath := "", byteOffset := 8 }], 2, 16, [.val (.int .i64 0), .val (.int .i64 0)]⟩
theorem k96 : TyOk Try.prog 96 i96 := mk (z := .agg #[.int .i64 0, .int .i64 0]) Try.underlying96 (by kernel_rfl) rfl rfl (by simp [Value.oneCell'])
def i97 : TI := ⟨.func #[60] #[60] false, 1, 8, [.val (.nilFunc)]⟩
theorem k97 : TyOk Try.prog 97 i97 := mk (z := .nilFunc) Try.underlying97 (by kernel_rfl) rfl rfl (by simp [Value.oneCell'])
def i98 : TI := ⟨.func #[57, 3] #[4] false, 1, 8, [.val (.nilFunc)]⟩
theorem k98 : TyOk Try.prog 98 i98 := mk (z := .nilFunc) Try.underlying98 (by kernel_rfl) rfl rfl (by simp [Value.oneCell'])
def i99 : TI := ⟨.func #[76, 3] #[4] false, 1, 8, [.val (.nilFunc)]⟩
theorem k99 : TyOk Try.prog 99 i99 := mk (z := .nilFunc) Try.underlying99 (by kernel_rfl) rfl rfl (by simp [Value.oneCell'])
def i100 : TI := ⟨.func #[76, 3, 96] #[3] false, 1, 8, [.val (.nilFunc)]⟩
theorem k100 : TyOk Try.prog 100 i100 := mk (z := .nilFunc) Try.underlying100 (by kernel_rfl) rfl rfl (by simp [Value.oneCell'])
def i101 : TI := ⟨.func #[57] #[4] false, 1, 8, [.val (.nilFunc)]⟩
theorem k101 : TyOk Try.prog 101 i101 := mk (z := .nilFunc) Try.underlying101 (by kernel_rfl) rfl rfl (by simp [Value.oneCell'])
def i102 : TI := ⟨.func #[57, 68] #[68] false, 1, 8, [.val (.nilFunc)]⟩
theorem k102 : TyOk Try.prog 102 i102 := mk (z := .nilFunc) Try.underlying102 (by kernel_rfl) rfl rfl (by simp [Value.oneCell'])
def i103 : TI := ⟨.func #[57, 68] #[4] false, 1, 8, [.val (.nilFunc)]⟩
theorem k103 : TyOk Try.prog 103 i103 := mk (z := .nilFunc) Try.underlying103 (by kernel_rfl) rfl rfl (by simp [Value.oneCell'])
def i104 : TI := ⟨.func #[2, 2] #[2] false, 1, 8, [.val (.nilFunc)]⟩
theorem k104 : TyOk Try.prog 104 i104 := mk (z := .nilFunc) Try.underlying104 (by kernel_rfl) rfl rfl (by simp [Value.oneCell'])
def i105 : TI := ⟨.func #[30, 3] #[4] false, 1, 8, [.val (.nilFunc)]⟩
theorem k105 : TyOk Try.prog 105 i105 := mk (z := .nilFunc) Try.underlying105 (by kernel_rfl) rfl rfl (by simp [Value.oneCell'])
def i106 : TI := ⟨.func #[41] #[31] false, 1, 8, [.val (.nilFunc)]⟩
theorem k106 : TyOk Try.prog 106 i106 := mk (z := .nilFunc) Try.underlying106 (by kernel_rfl) rfl rfl (by simp [Value.oneCell'])
def i107 : TI := ⟨.func #[41] #[43] false, 1, 8, [.val (.nilFunc)]⟩
theorem k107 : TyOk Try.prog 107 i107 := mk (z := .nilFunc) Try.underlying107 (by kernel_rfl) rfl rfl (by simp [Value.oneCell'])
def i108 : TI := ⟨.func #[30, 28] #[30, 48] false, 1, 8, [.val (.nilFunc)]⟩
theorem k108 : TyOk Try.prog 108 i108 := mk (z := .nilFunc) Try.underlying108 (by kernel_rfl) rfl rfl (by simp [Value.oneCell'])
def i109 : TI := ⟨.func #[41, 2] #[28] false, 1, 8, [.val (.nilFunc)]⟩
theorem k109 : TyOk Try.prog 109 i109 := mk (z := .nilFunc) Try.underlying109 (by kernel_rfl) rfl rfl (by simp [Value.oneCell'])
def i110 : TI := ⟨.struct #[{ name := "Len", type := 3, offset := 0, embedded := false, tag := "", pkgPath := "", byteOffset := 0 }, { name := "Sum", type := 39, offset := 1, embedded := false, tag := "", pkgPath := "", byteOffset := 8 }], 2, 16, [.val (.int .i64 0), .val (.int .u32 0)]⟩
theorem k110 : TyOk Try.prog 110 i110 := mk (z := .agg #[.int .i64 0, .int .u32 0]) Try.underlying110 (by kernel_rfl) rfl rfl (by simp [Value.oneCell'])
def i111 : TI := ⟨.struct #[{ name := "Len", type := 3, offset := 0, embedded := false, tag := "", pkgPath := "", byteOffset := 0 }, { name := "Sum", type := 39, offset := 1, embedded := false, tag := "", pkgPath := "", byteOffset := 8 }], 2, 16, [.val (.int .i64 0), .val (.int .u32 0)]⟩
theorem k111 : TyOk Try.prog 111 i111 := mk (z := .agg #[.int .i64 0, .int .u32 0]) Try.underlying111 (by kernel_rfl) rfl rfl (by simp [Value.oneCell'])
def i112 : TI := ⟨.func #[30, 2, 22] #[30] false, 1, 8, [.val (.nilFunc)]⟩
theorem k112 : TyOk Try.prog 112 i112 := mk (z := .nilFunc) Try.underlying112 (by kernel_rfl) rfl rfl (by simp [Value.oneCell'])
def i113 : TI := ⟨.func #[28] #[28] false, 1, 8, [.val (.nilFunc)]⟩
theorem k113 : TyOk Try.prog 113 i113 := mk (z := .nilFunc) Try.underlying113 (by kernel_rfl) rfl rfl (by simp [Value.oneCell'])
def i114 : TI := ⟨.func #[22] #[4] false, 1, 8, [.val (.nilFunc)]⟩
theorem k114 : TyOk Try.prog 114 i114 := mk (z := .nilFunc) Try.underlying114 (by kernel_rfl) rfl rfl (by simp [Value.oneCell'])
def i115 : TI := ⟨.func #[43, 43] #[4] false, 1, 8, [.val (.nilFunc)]⟩
theorem k115 : TyOk Try.prog 115 i115 := mk (z := .nilFunc) Try.underlying115 (by kernel_rfl) rfl rfl (by simp [Value.oneCell'])
def i116 : TI := ⟨.func #[22, 90] #[3] false, 1, 8, [.val (.nilFunc)]⟩
theorem k116 : TyOk Try.prog 116 i116 := mk (z := .nilFunc) Try.underlying116 (by kernel_rfl) rfl rfl (by simp [Value.oneCell'])
def i117 : TI := ⟨.func #[58] #[58] false, 1, 8, [.val (.nilFunc)]⟩
theorem k117 : TyOk Try.prog 117 i117 := mk (z := .nilFunc) Try.underlying117 (by kernel_rfl) rfl rfl (by simp [Value.oneCell'])
def i118 : TI := ⟨.func #[3, 72, 2] #[2] false, 1, 8, [.val (.nilFunc)]⟩
theorem k118 : TyOk Try.prog 118 i118 := mk (z := .nilFunc) Try.underlying118 (by kernel_rfl) rfl rfl (by simp [Value.oneCell'])
def i119 : TI := ⟨.func #[58, 3, 3] #[58] false, 1, 8, [.val (.nilFunc)]⟩
theorem k119 : TyOk Try.prog 119 i119 := mk (z := .nilFunc) Try.underlying119 (by kernel_rfl) rfl rfl (by simp [Value.oneCell'])
def i120 : TI := ⟨.func #[58, 3, 58] #[58] true, 1, 8, [.val (.nilFunc)]⟩
theorem k120 : TyOk Try.prog 120 i120 := mk (z := .nilFunc) Try.underlying120 (by kernel_rfl) rfl rfl (by simp [Value.oneCell'])
def i121 : TI := ⟨.func #[26] #[26] false, 1, 8, [.val (.nilFunc)]⟩
theorem k121 : TyOk Try.prog 121 i121 := mk (z := .nilFunc) Try.underlying121 (by kernel_rfl) rfl rfl (by simp [Value.oneCell'])
def i122 : TI := ⟨.func #[58, 58] #[4] false, 1, 8, [.val (.nilFunc)]⟩
theorem k122 : TyOk Try.prog 122 i122 := mk (z := .nilFunc) Try.underlying122 (by kernel_rfl) rfl rfl (by simp [Value.oneCell'])
def i123 : TI := ⟨.func #[58, 3] #[] false, 1, 8, [.val (.nilFunc)]⟩
theorem k123 : TyOk Try.prog 123 i123 := mk (z := .nilFunc) Try.underlying123 (by kernel_rfl) rfl rfl (by simp [Value.oneCell'])
def i124 : TI := ⟨.func #[58] #[] false, 1, 8, [.val (.nilFunc)]⟩
theorem k124 : TyOk Try.prog 124 i124 := mk (z := .nilFunc) Try.underlying124 (by kernel_rfl) rfl rfl (by simp [Value.oneCell'])
def i125 : TI := ⟨.func #[] #[9] false, 1, 8, [.val (.nilFunc)]⟩
theorem k125 : TyOk Try.prog 125 i125 := mk (z := .nilFunc) Try.underlying125 (by kernel_rfl) rfl rfl (by simp [Value.oneCell'])
def i126 : TI := ⟨.struct #[{ name := "_interface", type := 17, offset := 0, embedded := false, tag := "", pkgPath := "runtime", byteOffset := 0 }, { name := "concrete", type := 17, offset := 1, embedded := false, tag := "", pkgPath := "runtime", byteOffset := 8 }, { name := "asserted", type := 17, offset := 2, embedded := false, tag := "", pkgPath := "runtime", byteOffset := 16 }, { name := "missingMethod", type := 9, offset := 3, embedded := false, tag := "", pkgPath := "runtime", byteOffset := 24 }], 4, 40, [.val (.pointer none), .val (.pointer none), .val (.pointer none), .val (.string ByteArray.empty)]⟩
theorem k126 : TyOk Try.prog 126 i126 := mk (z := .agg #[.pointer none, .pointer none, .pointer none, .string ByteArray.empty]) Try.underlying126 (by kernel_rfl) rfl rfl (by simp [Value.oneCell'])
def i127 : TI := ⟨.struct #[{ name := "_interface", type := 17, offset := 0, embedded := false, tag := "", pkgPath := "runtime", byteOffset := 0 }, { name := "concrete", type := 17, offset := 1, embedded := false, tag := "", pkgPath := "runtime", byteOffset := 8 }, { name := "asserted", type := 17, offset := 2, embedded := false, tag := "", pkgPath := "runtime", byteOffset := 16 }, { name := "missingMethod", type := 9, offset := 3, embedded := false, tag := "", pkgPath := "runtime", byteOffset := 24 }], 4, 40, [.val (.pointer none), .val (.pointer none), .val (.pointer none), .val (.string ByteArray.empty)]⟩
theorem k127 : TyOk Try.prog 127 i127 := mk (z := .agg #[.pointer none, .pointer none, .pointer none, .string ByteArray.empty]) Try.underlying127 (by kernel_rfl) rfl rfl (by simp [Value.oneCell'])
def i128 : TI := ⟨.array 0 16, 0, 0, []⟩
theorem k128 : TyOk Try.prog 128 i128 := mk (z := .agg #[]) Try.underlying128 (by kernel_rfl) rfl rfl (by simp [Value.oneCell'])
def i129 : TI := ⟨.struct #[{ name := "_", type := 128, offset := 0, embedded := false, tag := "", pkgPath := "runtime", byteOffset := 0 }], 0, 0, []⟩
theorem k129 : TyOk Try.prog 129 i129 := mk (z := .agg #[]) Try.underlying129 (by kernel_rfl) rfl rfl (by simp [Value.oneCell'])
def i130 : TI := ⟨.struct #[{ name := "_", type := 128, offset := 0, embedded := false, tag := "", pkgPath := "runtime", byteOffset := 0 }], 0, 0, []⟩
theorem k130 : TyOk Try.prog 130 i130 := mk (z := .agg #[]) Try.underlying130 (by kernel_rfl) rfl rfl (by simp [Value.oneCell'])
def i131 : TI := ⟨.func #[] #[3] false, 1, 8, [.val (.nilFunc)]⟩
theorem k131 : TyOk Try.prog 131 i131 := mk (z := .nilFunc) Try.underlying131 (by kernel_rfl) rfl rfl (by simp [Value.oneCell'])
def i132 : TI := ⟨.int .u8, 1, 1, [.val (.int .u8 0)]⟩
theorem k132 : TyOk Try.prog 132 i132 := mk (z := .int .u8 0) Try.underlying132 (by kernel_rfl) rfl rfl (by simp [Value.oneCell'])
def i133 : TI := ⟨.int .u8, 1, 1, [.val (.int .u8 0)]⟩
theorem k133 : TyOk Try.prog 133 i133 := mk (z := .int .u8 0) Try.underlying133 (by kernel_rfl) rfl rfl (by simp [Value.oneCell'])
def i134 : TI := ⟨.func #[140, 140] #[4] false, 1, 8, [.val (.nilFunc)]⟩
theorem k134 : TyOk Try.prog 134 i134 := mk (z := .nilFunc) Try.underlying134 (by kernel_rfl) rfl rfl (by simp [Value.oneCell'])
def i135 : TI := ⟨.pointer 5, 1, 8, [.val (.pointer none)]⟩
theorem k135 : TyOk Try.prog 135 i135 := mk (z := .pointer none) Try.underlying135 (by kernel_rfl) rfl rfl (by simp [Value.oneCell'])
def i136 : TI := ⟨.int .i32, 1, 4, [.val (.int .i32 0)]⟩
theorem k136 : TyOk Try.prog 136 i136 := mk (z := .int .i32 0) Try.underlying136 (by kernel_rfl) rfl rfl (by simp [Value.oneCell'])
def i137 : TI := ⟨.int .i32, 1, 4, [.val (.int .i32 0)]⟩
theorem k137 : TyOk Try.prog 137 i137 := mk (z := .int .i32 0) Try.underlying137 (by kernel_rfl) rfl rfl (by simp [Value.oneCell'])
def i138 : TI := ⟨.struct #[{ name := "Size_", type := 12, offset := 0, embedded := false, tag := "", pkgPath := "", byteOffset := 0 }, { name := "PtrBytes", type := 12, offset := 1, embedded := false, tag := "", pkgPath := "", byteOffset := 8 }, { name := "Hash", type := 39, offset := 2, embedded := false, tag := "", pkgPath := "", byteOffset := 16 }, { name := "TFlag", type := 132, offset := 3, embedded := false, tag := "", pkgPath := "", byteOffset := 20 }, { name := "Align_", type := 5, offset := 4, embedded := false, tag := "", pkgPath := "", byteOffset := 21 }, { name := "FieldAlign_", type := 5, offset := 5, embedded := false, tag := "", pkgPath := "", byteOffset := 22 }, { name := "Kind_", type := 133, offset := 6, embedded := false, tag := "", pkgPath := "", byteOffset := 23 }, { name := "Equal", type := 134, offset := 7, embedded := false, tag := "", pkgPath := "", byteOffset := 24 }, { name := "GCData", type := 135, offset := 8, embedded := false, tag := "", pkgPath := "", byteOffset := 32 }, { name := "Str", type := 136, offset := 9, embedded := false, tag := "", pkgPath := "", byteOffset := 40 }, { name := "PtrToThis", type := 137, offset := 10, embedded := false, tag := "", pkgPath := "", byteOffset := 44 }], 11, 48, [.val (.int .u64 0), .val (.int .u64 0), .val (.int .u32 0), .val (.int .u8 0), .val (.int .u8 0), .val (.int .u8 0), .val (.int .u8 0), .val (.nilFunc), .val (.pointer none), .val (.int .i32 0), .val (.int .i32 0)]⟩
theorem k138 : TyOk Try.prog 138 i138 := mk (z := .agg #[.int .u64 0, .int .u64 0, .int .u32 0, .int .u8 0, .int .u8 0, .int .u8 0, .int .u8 0, .nilFunc, .pointer none, .int .i32 0, .int .i32 0]) Try.underlying138 (by kernel_rfl) rfl rfl (by simp [Value.oneCell'])
def i139 : TI := ⟨.struct #[{ name := "Size_", type := 12, offset := 0, embedded := false, tag := "", pkgPath := "", byteOffset := 0 }, { name := "PtrBytes", type := 12, offset := 1, embedded := false, tag := "", pkgPath := "", byteOffset := 8 }, { name := "Hash", type := 39, offset := 2, embedded := false, tag := "", pkgPath := "", byteOffset := 16 }, { name := "TFlag", type := 132, offset := 3, embedded := false, tag := "", pkgPath := "", byteOffset := 20 }, { name := "Align_", type := 5, offset := 4, embedded := false, tag := "", pkgPath := "", byteOffset := 21 }, { name := "FieldAlign_", type := 5, offset := 5, embedded := false, tag := "", pkgPath := "", byteOffset := 22 }, { name := "Kind_", type := 133, offset := 6, embedded := false, tag := "", pkgPath := "", byteOffset := 23 }, { name := "Equal", type := 134, offset := 7, embedded := false, tag := "", pkgPath := "", byteOffset := 24 }, { name := "GCData", type := 135, offset := 8, embedded := false, tag := "", pkgPath := "", byteOffset := 32 }, { name := "Str", type := 136, offset := 9, embedded := false, tag := "", pkgPath := "", byteOffset := 40 }, { name := "PtrToThis", type := 137, offset := 10, embedded := false, tag := "", pkgPath := "", byteOffset := 44 }], 11, 48, [.val (.int .u64 0), .val (.int .u64 0), .val (.int .u32 0), .val (.int .u8 0), .val (.int .u8 0), .val (.int .u8 0), .val (.int .u8 0), .val (.nilFunc), .val (.pointer none), .val (.int .i32 0), .val (.int .i32 0)]⟩
theorem k139 : TyOk Try.prog 139 i139 := mk (z := .agg #[.int .u64 0, .int .u64 0, .int .u32 0, .int .u8 0, .int .u8 0, .int .u8 0, .int .u8 0, .nilFunc, .pointer none, .int .i32 0, .int .i32 0]) Try.underlying139 (by kernel_rfl) rfl rfl (by simp [Value.oneCell'])
def descF : Nat → Option TypeDesc
  | 1 => some (.func #[] #[] false)
  | 2 => some (.int .i64)
  | 3 => some (.int .i64)
  | 4 => some (.bool)
  | 5 => some (.int .u8)
  | 6 => some (.int .u8)
  | 7 => some (.struct #[{ name := "x", type := 2, offset := 0, embedded := false, tag := "", pkgPath := "runtime", byteOffset := 0 }, { name := "y", type := 3, offset := 1, embedded := false, tag := "", pkgPath := "runtime", byteOffset := 8 }, { name := "signed", type := 4, offset := 2, embedded := false, tag := "", pkgPath := "runtime", byteOffset := 16 }, { name := "code", type := 6, offset := 3, embedded := false, tag := "", pkgPath := "runtime", byteOffset := 17 }])
  | 8 => some (.struct #[{ name := "x", type := 2, offset := 0, embedded := false, tag := "", pkgPath := "runtime", byteOffset := 0 }, { name := "y", type := 3, offset := 1, embedded := false, tag := "", pkgPath := "runtime", byteOffset := 8 }, { name := "signed", type := 4, offset := 2, embedded := false, tag := "", pkgPath := "runtime", byteOffset := 16 }, { name := "code", type := 6, offset := 3, embedded := false, tag := "", pkgPath := "runtime", byteOffset := 17 }])
  | 9 => some (.string)
  | 10 => some (.string)
  | 11 => some (.string)
  | 12 => some (.int .u64)
  | 13 => some (.struct #[{ name := "msg", type := 9, offset := 0, embedded := false, tag := "", pkgPath := "runtime", byteOffset := 0 }, { name := "addr", type := 12, offset := 1, embedded := false, tag := "", pkgPath := "runtime", byteOffset := 16 }])
  | 14 => some (.struct #[{ name := "msg", type := 9, offset := 0, embedded := false, tag := "", pkgPath := "runtime", byteOffset := 0 }, { name := "addr", type := 12, offset := 1, embedded := false, tag := "", pkgPath := "runtime", byteOffset := 16 }])
  | 15 => some (.pointer 127)
  | 16 => some (.pointer 130)
  | 17 => some (.pointer 139)
  | 18 => some (.struct #[{ name := "typ", type := 17, offset := 0, embedded := false, tag := "", pkgPath := "internal/runtime/maps", byteOffset := 0 }])
  | 19 => some (.struct #[{ name := "typ", type := 17, offset := 0, embedded := false, tag := "", pkgPath := "internal/runtime/maps", byteOffset := 0 }])
  | 21 => some (.int .i32)
  | 22 => some (.slice 2)
  | 23 => some (.struct #[{ name := "Epoch", type := 2, offset := 0, embedded := false, tag := "", pkgPath := "", byteOffset := 0 }, { name := "Id", type := 2, offset := 1, embedded := false, tag := "", pkgPath := "", byteOffset := 8 }, { name := "Len", type := 2, offset := 2, embedded := false, tag := "", pkgPath := "", byteOffset := 16 }, { name := "Vector", type := 22, offset := 3, embedded := false, tag := "", pkgPath := "", byteOffset := 24 }])
  | 24 => some (.struct #[{ name := "Epoch", type := 2, offset := 0, embedded := false, tag := "", pkgPath := "", byteOffset := 0 }, { name := "Id", type := 2, offset := 1, embedded := false, tag := "", pkgPath := "", byteOffset := 8 }, { name := "Len", type := 2, offset := 2, embedded := false, tag := "", pkgPath := "", byteOffset := 16 }, { name := "Vector", type := 22, offset := 3, embedded := false, tag := "", pkgPath := "", byteOffset := 24 }])
  | 25 => some (.func #[] #[4] false)
  | 26 => some (.slice 68)
  | 27 => some (.struct #[{ name := "Epoch", type := 2, offset := 0, embedded := false, tag := "", pkgPath := "", byteOffset := 0 }, { name := "Id", type := 2, offset := 1, embedded := false, tag := "", pkgPath := "", byteOffset := 8 }, { name := "Begin", type := 2, offset := 2, embedded := false, tag := "", pkgPath := "", byteOffset := 16 }, { name := "Records", type := 26, offset := 3, embedded := false, tag := "", pkgPath := "", byteOffset := 24 }, { name := "Vector", type := 22, offset := 4, embedded := false, tag := "", pkgPath := "", byteOffset := 48 }])
  | 28 => some (.struct #[{ name := "Epoch", type := 2, offset := 0, embedded := false, tag := "", pkgPath := "", byteOffset := 0 }, { name := "Id", type := 2, offset := 1, embedded := false, tag := "", pkgPath := "", byteOffset := 8 }, { name := "Begin", type := 2, offset := 2, embedded := false, tag := "", pkgPath := "", byteOffset := 16 }, { name := "Records", type := 26, offset := 3, embedded := false, tag := "", pkgPath := "", byteOffset := 24 }, { name := "Vector", type := 22, offset := 4, embedded := false, tag := "", pkgPath := "", byteOffset := 48 }])
  | 29 => some (.struct #[{ name := "Phase", type := 3, offset := 0, embedded := false, tag := "", pkgPath := "", byteOffset := 0 }, { name := "Epoch", type := 2, offset := 1, embedded := false, tag := "", pkgPath := "", byteOffset := 8 }, { name := "Id", type := 2, offset := 2, embedded := false, tag := "", pkgPath := "", byteOffset := 16 }, { name := "Len", type := 2, offset := 3, embedded := false, tag := "", pkgPath := "", byteOffset := 24 }, { name := "Vector", type := 22, offset := 4, embedded := false, tag := "", pkgPath := "", byteOffset := 32 }, { name := "Txn", type := 28, offset := 5, embedded := false, tag := "", pkgPath := "", byteOffset := 56 }, { name := "Done", type := 2, offset := 10, embedded := false, tag := "", pkgPath := "", byteOffset := 128 }, { name := "Left", type := 2, offset := 11, embedded := false, tag := "", pkgPath := "", byteOffset := 136 }])
  | 30 => some (.struct #[{ name := "Phase", type := 3, offset := 0, embedded := false, tag := "", pkgPath := "", byteOffset := 0 }, { name := "Epoch", type := 2, offset := 1, embedded := false, tag := "", pkgPath := "", byteOffset := 8 }, { name := "Id", type := 2, offset := 2, embedded := false, tag := "", pkgPath := "", byteOffset := 16 }, { name := "Len", type := 2, offset := 3, embedded := false, tag := "", pkgPath := "", byteOffset := 24 }, { name := "Vector", type := 22, offset := 4, embedded := false, tag := "", pkgPath := "", byteOffset := 32 }, { name := "Txn", type := 28, offset := 5, embedded := false, tag := "", pkgPath := "", byteOffset := 56 }, { name := "Done", type := 2, offset := 10, embedded := false, tag := "", pkgPath := "", byteOffset := 128 }, { name := "Left", type := 2, offset := 11, embedded := false, tag := "", pkgPath := "", byteOffset := 136 }])
  | 31 => some (.int .i64)
  | 33 => some (.func #[2, 2, 2, 22] #[30, 31] false)
  | 34 => some (.func #[30, 30] #[4] false)
  | 35 => some (.func #[22, 22] #[4] false)
  | 36 => some (.func #[24] #[4] false)
  | 37 => some (.slice 45)
  | 38 => some (.slice 111)
  | 39 => some (.int .u32)
  | 40 => some (.struct #[{ name := "Epoch", type := 2, offset := 0, embedded := false, tag := "", pkgPath := "", byteOffset := 0 }, { name := "Id", type := 2, offset := 1, embedded := false, tag := "", pkgPath := "", byteOffset := 8 }, { name := "Vector", type := 22, offset := 2, embedded := false, tag := "", pkgPath := "", byteOffset := 16 }, { name := "Out", type := 2, offset := 3, embedded := false, tag := "", pkgPath := "", byteOffset := 40 }, { name := "Begin", type := 2, offset := 4, embedded := false, tag := "", pkgPath := "", byteOffset := 48 }, { name := "Records", type := 26, offset := 5, embedded := false, tag := "", pkgPath := "", byteOffset := 56 }, { name := "Pieces", type := 38, offset := 6, embedded := false, tag := "", pkgPath := "", byteOffset := 80 }, { name := "Graph", type := 39, offset := 7, embedded := false, tag := "", pkgPath := "", byteOffset := 104 }])
  | 41 => some (.struct #[{ name := "Epoch", type := 2, offset := 0, embedded := false, tag := "", pkgPath := "", byteOffset := 0 }, { name := "Id", type := 2, offset := 1, embedded := false, tag := "", pkgPath := "", byteOffset := 8 }, { name := "Vector", type := 22, offset := 2, embedded := false, tag := "", pkgPath := "", byteOffset := 16 }, { name := "Out", type := 2, offset := 3, embedded := false, tag := "", pkgPath := "", byteOffset := 40 }, { name := "Begin", type := 2, offset := 4, embedded := false, tag := "", pkgPath := "", byteOffset := 48 }, { name := "Records", type := 26, offset := 5, embedded := false, tag := "", pkgPath := "", byteOffset := 56 }, { name := "Pieces", type := 38, offset := 6, embedded := false, tag := "", pkgPath := "", byteOffset := 80 }, { name := "Graph", type := 39, offset := 7, embedded := false, tag := "", pkgPath := "", byteOffset := 104 }])
  | 42 => some (.struct #[{ name := "Epoch", type := 2, offset := 0, embedded := false, tag := "", pkgPath := "", byteOffset := 0 }, { name := "Id", type := 2, offset := 1, embedded := false, tag := "", pkgPath := "", byteOffset := 8 }])
  | 43 => some (.struct #[{ name := "Epoch", type := 2, offset := 0, embedded := false, tag := "", pkgPath := "", byteOffset := 0 }, { name := "Id", type := 2, offset := 1, embedded := false, tag := "", pkgPath := "", byteOffset := 8 }])
  | 44 => some (.struct #[{ name := "Do", type := 3, offset := 0, embedded := false, tag := "", pkgPath := "", byteOffset := 0 }, { name := "Own", type := 4, offset := 1, embedded := false, tag := "", pkgPath := "", byteOffset := 8 }, { name := "Id", type := 2, offset := 2, embedded := false, tag := "", pkgPath := "", byteOffset := 16 }, { name := "Manifest", type := 41, offset := 3, embedded := false, tag := "", pkgPath := "", byteOffset := 24 }, { name := "Kind", type := 3, offset := 11, embedded := false, tag := "", pkgPath := "", byteOffset := 136 }, { name := "Key", type := 43, offset := 12, embedded := false, tag := "", pkgPath := "", byteOffset := 144 }, { name := "Err", type := 31, offset := 14, embedded := false, tag := "", pkgPath := "", byteOffset := 160 }, { name := "Len", type := 2, offset := 15, embedded := false, tag := "", pkgPath := "", byteOffset := 168 }, { name := "Vector", type := 22, offset := 16, embedded := false, tag := "", pkgPath := "", byteOffset := 176 }])
  | 45 => some (.struct #[{ name := "Do", type := 3, offset := 0, embedded := false, tag := "", pkgPath := "", byteOffset := 0 }, { name := "Own", type := 4, offset := 1, embedded := false, tag := "", pkgPath := "", byteOffset := 8 }, { name := "Id", type := 2, offset := 2, embedded := false, tag := "", pkgPath := "", byteOffset := 16 }, { name := "Manifest", type := 41, offset := 3, embedded := false, tag := "", pkgPath := "", byteOffset := 24 }, { name := "Kind", type := 3, offset := 11, embedded := false, tag := "", pkgPath := "", byteOffset := 136 }, { name := "Key", type := 43, offset := 12, embedded := false, tag := "", pkgPath := "", byteOffset := 144 }, { name := "Err", type := 31, offset := 14, embedded := false, tag := "", pkgPath := "", byteOffset := 160 }, { name := "Len", type := 2, offset := 15, embedded := false, tag := "", pkgPath := "", byteOffset := 168 }, { name := "Vector", type := 22, offset := 16, embedded := false, tag := "", pkgPath := "", byteOffset := 176 }])
  | 46 => some (.func #[30, 45] #[45] false)
  | 47 => some (.struct #[{ name := "Kind", type := 3, offset := 0, embedded := false, tag := "", pkgPath := "", byteOffset := 0 }, { name := "Id", type := 2, offset := 1, embedded := false, tag := "", pkgPath := "", byteOffset := 8 }, { name := "Begin", type := 2, offset := 2, embedded := false, tag := "", pkgPath := "", byteOffset := 16 }, { name := "Txn", type := 28, offset := 3, embedded := false, tag := "", pkgPath := "", byteOffset := 24 }])
  | 48 => some (.struct #[{ name := "Kind", type := 3, offset := 0, embedded := false, tag := "", pkgPath := "", byteOffset := 0 }, { name := "Id", type := 2, offset := 1, embedded := false, tag := "", pkgPath := "", byteOffset := 8 }, { name := "Begin", type := 2, offset := 2, embedded := false, tag := "", pkgPath := "", byteOffset := 16 }, { name := "Txn", type := 28, offset := 3, embedded := false, tag := "", pkgPath := "", byteOffset := 24 }])
  | 50 => some (.func #[30, 45] #[30, 48] false)
  | 51 => some (.func #[30] #[31] false)
  | 52 => some (.func #[28, 28] #[4] false)
  | 53 => some (.func #[5, 37] #[4] false)
  | 54 => some (.func #[37] #[4] false)
  | 55 => some (.slice 96)
  | 56 => some (.struct #[{ name := "Kind", type := 3, offset := 0, embedded := false, tag := "", pkgPath := "", byteOffset := 0 }, { name := "Part", type := 3, offset := 1, embedded := false, tag := "", pkgPath := "", byteOffset := 8 }, { name := "Fn", type := 3, offset := 2, embedded := false, tag := "", pkgPath := "", byteOffset := 16 }, { name := "Arg", type := 2, offset := 3, embedded := false, tag := "", pkgPath := "", byteOffset := 24 }, { name := "In", type := 55, offset := 4, embedded := false, tag := "", pkgPath := "", byteOffset := 32 }])
  | 57 => some (.struct #[{ name := "Kind", type := 3, offset := 0, embedded := false, tag := "", pkgPath := "", byteOffset := 0 }, { name := "Part", type := 3, offset := 1, embedded := false, tag := "", pkgPath := "", byteOffset := 8 }, { name := "Fn", type := 3, offset := 2, embedded := false, tag := "", pkgPath := "", byteOffset := 16 }, { name := "Arg", type := 2, offset := 3, embedded := false, tag := "", pkgPath := "", byteOffset := 24 }, { name := "In", type := 55, offset := 4, embedded := false, tag := "", pkgPath := "", byteOffset := 32 }])
  | 58 => some (.slice 72)
  | 59 => some (.struct #[{ name := "Keys", type := 58, offset := 0, embedded := false, tag := "", pkgPath := "", byteOffset := 0 }, { name := "Turn", type := 3, offset := 1, embedded := false, tag := "", pkgPath := "", byteOffset := 24 }])
  | 60 => some (.struct #[{ name := "Keys", type := 58, offset := 0, embedded := false, tag := "", pkgPath := "", byteOffset := 0 }, { name := "Turn", type := 3, offset := 1, embedded := false, tag := "", pkgPath := "", byteOffset := 24 }])
  | 61 => some (.slice 70)
  | 63 => some (.func #[57, 60, 26] #[60, 61] true)
  | 64 => some (.func #[60, 60] #[4] false)
  | 65 => some (.func #[61, 61] #[4] false)
  | 66 => some (.func #[57, 26, 26] #[4] false)
  | 67 => some (.struct #[{ name := "Key", type := 2, offset := 0, embedded := false, tag := "", pkgPath := "", byteOffset := 0 }, { name := "Val", type := 2, offset := 1, embedded := false, tag := "", pkgPath := "", byteOffset := 8 }])
  | 68 => some (.struct #[{ name := "Key", type := 2, offset := 0, embedded := false, tag := "", pkgPath := "", byteOffset := 0 }, { name := "Val", type := 2, offset := 1, embedded := false, tag := "", pkgPath := "", byteOffset := 8 }])
  | 69 => some (.struct #[{ name := "Port", type := 3, offset := 0, embedded := false, tag := "", pkgPath := "", byteOffset := 0 }, { name := "Record", type := 68, offset := 1, embedded := false, tag := "", pkgPath := "", byteOffset := 8 }])
  | 70 => some (.struct #[{ name := "Port", type := 3, offset := 0, embedded := false, tag := "", pkgPath := "", byteOffset := 0 }, { name := "Record", type := 68, offset := 1, embedded := false, tag := "", pkgPath := "", byteOffset := 8 }])
  | 71 => some (.struct #[{ name := "Key", type := 2, offset := 0, embedded := false, tag := "", pkgPath := "", byteOffset := 0 }, { name := "Count", type := 2, offset := 1, embedded := false, tag := "", pkgPath := "", byteOffset := 8 }, { name := "Acc", type := 2, offset := 2, embedded := false, tag := "", pkgPath := "", byteOffset := 16 }])
  | 72 => some (.struct #[{ name := "Key", type := 2, offset := 0, embedded := false, tag := "", pkgPath := "", byteOffset := 0 }, { name := "Count", type := 2, offset := 1, embedded := false, tag := "", pkgPath := "", byteOffset := 8 }, { name := "Acc", type := 2, offset := 2, embedded := false, tag := "", pkgPath := "", byteOffset := 16 }])
  | 73 => some (.func #[57, 26, 2] #[4] false)
  | 74 => some (.slice 57)
  | 75 => some (.struct #[{ name := "Parts", type := 3, offset := 0, embedded := false, tag := "", pkgPath := "", byteOffset := 0 }, { name := "Ops", type := 74, offset := 1, embedded := false, tag := "", pkgPath := "", byteOffset := 8 }])
  | 76 => some (.struct #[{ name := "Parts", type := 3, offset := 0, embedded := false, tag := "", pkgPath := "", byteOffset := 0 }, { name := "Ops", type := 74, offset := 1, embedded := false, tag := "", pkgPath := "", byteOffset := 8 }])
  | 78 => some (.func #[76] #[3, 31] false)
  | 79 => some (.func #[57, 60] #[31] false)
  | 80 => some (.func #[57, 60, 68] #[60, 61] false)
  | 81 => some (.func #[57] #[3] false)
  | 82 => some (.func #[76, 26, 60] #[4] false)
  | 83 => some (.func #[30] #[30, 48] false)
  | 84 => some (.func #[30, 2] #[30, 48] false)
  | 85 => some (.func #[30, 41] #[30, 48] false)
  | 86 => some (.func #[2, 2, 2] #[41] false)
  | 87 => some (.func #[30, 3, 43, 31, 2, 22] #[30, 48] false)
  | 88 => some (.func #[22] #[22] false)
  | 89 => some (.func #[30] #[30] false)
  | 90 => some (.func #[2] #[4] false)
  | 91 => some (.func #[22, 90] #[4] false)
  | 92 => some (.func #[30] #[4] false)
  | 93 => some (.func #[30] #[43] false)
  | 94 => some (.func #[26, 26] #[4] false)
  | 95 => some (.struct #[{ name := "From", type := 3, offset := 0, embedded := false, tag := "", pkgPath := "", byteOffset := 0 }, { name := "Port", type := 3, offset := 1, embedded := false, tag := "", pkgPath := "", byteOffset := 8 }])
  | 96 => some (.struct #[{ name := "From", type := 3, offset := 0, embedded := false, tag := "", pkgPath := "", byteOffset := 0 }, { name := "Port", type := 3, offset := 1, embedded := false, tag := "", pkgPath := "", byteOffset := 8 }])
  | 97 => some (.func #[60] #[60] false)
  | 98 => some (.func #[57, 3] #[4] false)
  | 99 => some (.func #[76, 3] #[4] false)
  | 100 => some (.func #[76, 3, 96] #[3] false)
  | 101 => some (.func #[57] #[4] false)
  | 102 => some (.func #[57, 68] #[68] false)
  | 103 => some (.func #[57, 68] #[4] false)
  | 104 => some (.func #[2, 2] #[2] false)
  | 105 => some (.func #[30, 3] #[4] false)
  | 106 => some (.func #[41] #[31] false)
  | 107 => some (.func #[41] #[43] false)
  | 108 => some (.func #[30, 28] #[30, 48] false)
  | 109 => some (.func #[41, 2] #[28] false)
  | 110 => some (.struct #[{ name := "Len", type := 3, offset := 0, embedded := false, tag := "", pkgPath := "", byteOffset := 0 }, { name := "Sum", type := 39, offset := 1, embedded := false, tag := "", pkgPath := "", byteOffset := 8 }])
  | 111 => some (.struct #[{ name := "Len", type := 3, offset := 0, embedded := false, tag := "", pkgPath := "", byteOffset := 0 }, { name := "Sum", type := 39, offset := 1, embedded := false, tag := "", pkgPath := "", byteOffset := 8 }])
  | 112 => some (.func #[30, 2, 22] #[30] false)
  | 113 => some (.func #[28] #[28] false)
  | 114 => some (.func #[22] #[4] false)
  | 115 => some (.func #[43, 43] #[4] false)
  | 116 => some (.func #[22, 90] #[3] false)
  | 117 => some (.func #[58] #[58] false)
  | 118 => some (.func #[3, 72, 2] #[2] false)
  | 119 => some (.func #[58, 3, 3] #[58] false)
  | 120 => some (.func #[58, 3, 58] #[58] true)
  | 121 => some (.func #[26] #[26] false)
  | 122 => some (.func #[58, 58] #[4] false)
  | 123 => some (.func #[58, 3] #[] false)
  | 124 => some (.func #[58] #[] false)
  | 125 => some (.func #[] #[9] false)
  | 126 => some (.struct #[{ name := "_interface", type := 17, offset := 0, embedded := false, tag := "", pkgPath := "runtime", byteOffset := 0 }, { name := "concrete", type := 17, offset := 1, embedded := false, tag := "", pkgPath := "runtime", byteOffset := 8 }, { name := "asserted", type := 17, offset := 2, embedded := false, tag := "", pkgPath := "runtime", byteOffset := 16 }, { name := "missingMethod", type := 9, offset := 3, embedded := false, tag := "", pkgPath := "runtime", byteOffset := 24 }])
  | 127 => some (.struct #[{ name := "_interface", type := 17, offset := 0, embedded := false, tag := "", pkgPath := "runtime", byteOffset := 0 }, { name := "concrete", type := 17, offset := 1, embedded := false, tag := "", pkgPath := "runtime", byteOffset := 8 }, { name := "asserted", type := 17, offset := 2, embedded := false, tag := "", pkgPath := "runtime", byteOffset := 16 }, { name := "missingMethod", type := 9, offset := 3, embedded := false, tag := "", pkgPath := "runtime", byteOffset := 24 }])
  | 128 => some (.array 0 16)
  | 129 => some (.struct #[{ name := "_", type := 128, offset := 0, embedded := false, tag := "", pkgPath := "runtime", byteOffset := 0 }])
  | 130 => some (.struct #[{ name := "_", type := 128, offset := 0, embedded := false, tag := "", pkgPath := "runtime", byteOffset := 0 }])
  | 131 => some (.func #[] #[3] false)
  | 132 => some (.int .u8)
  | 133 => some (.int .u8)
  | 134 => some (.func #[140, 140] #[4] false)
  | 135 => some (.pointer 5)
  | 136 => some (.int .i32)
  | 137 => some (.int .i32)
  | 138 => some (.struct #[{ name := "Size_", type := 12, offset := 0, embedded := false, tag := "", pkgPath := "", byteOffset := 0 }, { name := "PtrBytes", type := 12, offset := 1, embedded := false, tag := "", pkgPath := "", byteOffset := 8 }, { name := "Hash", type := 39, offset := 2, embedded := false, tag := "", pkgPath := "", byteOffset := 16 }, { name := "TFlag", type := 132, offset := 3, embedded := false, tag := "", pkgPath := "", byteOffset := 20 }, { name := "Align_", type := 5, offset := 4, embedded := false, tag := "", pkgPath := "", byteOffset := 21 }, { name := "FieldAlign_", type := 5, offset := 5, embedded := false, tag := "", pkgPath := "", byteOffset := 22 }, { name := "Kind_", type := 133, offset := 6, embedded := false, tag := "", pkgPath := "", byteOffset := 23 }, { name := "Equal", type := 134, offset := 7, embedded := false, tag := "", pkgPath := "", byteOffset := 24 }, { name := "GCData", type := 135, offset := 8, embedded := false, tag := "", pkgPath := "", byteOffset := 32 }, { name := "Str", type := 136, offset := 9, embedded := false, tag := "", pkgPath := "", byteOffset := 40 }, { name := "PtrToThis", type := 137, offset := 10, embedded := false, tag := "", pkgPath := "", byteOffset := 44 }])
  | 139 => some (.struct #[{ name := "Size_", type := 12, offset := 0, embedded := false, tag := "", pkgPath := "", byteOffset := 0 }, { name := "PtrBytes", type := 12, offset := 1, embedded := false, tag := "", pkgPath := "", byteOffset := 8 }, { name := "Hash", type := 39, offset := 2, embedded := false, tag := "", pkgPath := "", byteOffset := 16 }, { name := "TFlag", type := 132, offset := 3, embedded := false, tag := "", pkgPath := "", byteOffset := 20 }, { name := "Align_", type := 5, offset := 4, embedded := false, tag := "", pkgPath := "", byteOffset := 21 }, { name := "FieldAlign_", type := 5, offset := 5, embedded := false, tag := "", pkgPath := "", byteOffset := 22 }, { name := "Kind_", type := 133, offset := 6, embedded := false, tag := "", pkgPath := "", byteOffset := 23 }, { name := "Equal", type := 134, offset := 7, embedded := false, tag := "", pkgPath := "", byteOffset := 24 }, { name := "GCData", type := 135, offset := 8, embedded := false, tag := "", pkgPath := "", byteOffset := 32 }, { name := "Str", type := 136, offset := 9, embedded := false, tag := "", pkgPath := "", byteOffset := 40 }, { name := "PtrToThis", type := 137, offset := 10, embedded := false, tag := "", pkgPath := "", byteOffset := 44 }])
  | _ => none
def sizeF : Nat → Nat
  | 1 => 1
  | 2 => 1
  | 3 => 1
  | 4 => 1
  | 5 => 1
  | 6 => 1
  | 7 => 4
  | 8 => 4
  | 9 => 1
  | 10 => 1
  | 11 => 1
  | 12 => 1
  | 13 => 2
  | 14 => 2
  | 15 => 1
  | 16 => 1
  | 17 => 1
  | 18 => 1
  | 19 => 1
  | 21 => 1
  | 22 => 1
  | 23 => 4
  | 24 => 4
  | 25 => 1
  | 26 => 1
  | 27 => 5
  | 28 => 5
  | 29 => 12
  | 30 => 12
  | 31 => 1
  | 33 => 1
  | 34 => 1
  | 35 => 1
  | 36 => 1
  | 37 => 1
  | 38 => 1
  | 39 => 1
  | 40 => 8
  | 41 => 8
  | 42 => 2
  | 43 => 2
  | 44 => 17
  | 45 => 17
  | 46 => 1
  | 47 => 8
  | 48 => 8
  | 50 => 1
  | 51 => 1
  | 52 => 1
  | 53 => 1
  | 54 => 1
  | 55 => 1
  | 56 => 5
  | 57 => 5
  | 58 => 1
  | 59 => 2
  | 60 => 2
  | 61 => 1
  | 63 => 1
  | 64 => 1
  | 65 => 1
  | 66 => 1
  | 67 => 2
  | 68 => 2
  | 69 => 3
  | 70 => 3
  | 71 => 3
  | 72 => 3
  | 73 => 1
  | 74 => 1
  | 75 => 2
  | 76 => 2
  | 78 => 1
  | 79 => 1
  | 80 => 1
  | 81 => 1
  | 82 => 1
  | 83 => 1
  | 84 => 1
  | 85 => 1
  | 86 => 1
  | 87 => 1
  | 88 => 1
  | 89 => 1
  | 90 => 1
  | 91 => 1
  | 92 => 1
  | 93 => 1
  | 94 => 1
  | 95 => 2
  | 96 => 2
  | 97 => 1
  | 98 => 1
  | 99 => 1
  | 100 => 1
  | 101 => 1
  | 102 => 1
  | 103 => 1
  | 104 => 1
  | 105 => 1
  | 106 => 1
  | 107 => 1
  | 108 => 1
  | 109 => 1
  | 110 => 2
  | 111 => 2
  | 112 => 1
  | 113 => 1
  | 114 => 1
  | 115 => 1
  | 116 => 1
  | 117 => 1
  | 118 => 1
  | 119 => 1
  | 120 => 1
  | 121 => 1
  | 122 => 1
  | 123 => 1
  | 124 => 1
  | 125 => 1
  | 126 => 4
  | 127 => 4
  | 128 => 0
  | 129 => 0
  | 130 => 0
  | 131 => 1
  | 132 => 1
  | 133 => 1
  | 134 => 1
  | 135 => 1
  | 136 => 1
  | 137 => 1
  | 138 => 11
  | 139 => 11
  | _ => 0
def bytesF : Nat → Nat
  | 1 => 8
  | 2 => 8
  | 3 => 8
  | 4 => 1
  | 5 => 1
  | 6 => 1
  | 7 => 24
  | 8 => 24
  | 9 => 16
  | 10 => 16
  | 11 => 16
  | 12 => 8
  | 13 => 24
  | 14 => 24
  | 15 => 8
  | 16 => 8
  | 17 => 8
  | 18 => 8
  | 19 => 8
  | 21 => 4
  | 22 => 24
  | 23 => 48
  | 24 => 48
  | 25 => 8
  | 26 => 24
  | 27 => 72
  | 28 => 72
  | 29 => 144
  | 30 => 144
  | 31 => 8
  | 33 => 8
  | 34 => 8
  | 35 => 8
  | 36 => 8
  | 37 => 24
  | 38 => 24
  | 39 => 4
  | 40 => 112
  | 41 => 112
  | 42 => 16
  | 43 => 16
  | 44 => 200
  | 45 => 200
  | 46 => 8
  | 47 => 96
  | 48 => 96
  | 50 => 8
  | 51 => 8
  | 52 => 8
  | 53 => 8
  | 54 => 8
  | 55 => 24
  | 56 => 56
  | 57 => 56
  | 58 => 24
  | 59 => 32
  | 60 => 32
  | 61 => 24
  | 63 => 8
  | 64 => 8
  | 65 => 8
  | 66 => 8
  | 67 => 16
  | 68 => 16
  | 69 => 24
  | 70 => 24
  | 71 => 24
  | 72 => 24
  | 73 => 8
  | 74 => 24
  | 75 => 32
  | 76 => 32
  | 78 => 8
  | 79 => 8
  | 80 => 8
  | 81 => 8
  | 82 => 8
  | 83 => 8
  | 84 => 8
  | 85 => 8
  | 86 => 8
  | 87 => 8
  | 88 => 8
  | 89 => 8
  | 90 => 8
  | 91 => 8
  | 92 => 8
  | 93 => 8
  | 94 => 8
  | 95 => 16
  | 96 => 16
  | 97 => 8
  | 98 => 8
  | 99 => 8
  | 100 => 8
  | 101 => 8
  | 102 => 8
  | 103 => 8
  | 104 => 8
  | 105 => 8
  | 106 => 8
  | 107 => 8
  | 108 => 8
  | 109 => 8
  | 110 => 16
  | 111 => 16
  | 112 => 8
  | 113 => 8
  | 114 => 8
  | 115 => 8
  | 116 => 8
  | 117 => 8
  | 118 => 8
  | 119 => 8
  | 120 => 8
  | 121 => 8
  | 122 => 8
  | 123 => 8
  | 124 => 8
  | 125 => 8
  | 126 => 40
  | 127 => 40
  | 128 => 0
  | 129 => 0
  | 130 => 0
  | 131 => 8
  | 132 => 1
  | 133 => 1
  | 134 => 8
  | 135 => 8
  | 136 => 4
  | 137 => 4
  | 138 => 48
  | 139 => 48
  | _ => 0
def zeroF : Nat → List CV
  | 1 => [.val (.nilFunc)]
  | 2 => [.val (.int .i64 0)]
  | 3 => [.val (.int .i64 0)]
  | 4 => [.val (.bool false)]
  | 5 => [.val (.int .u8 0)]
  | 6 => [.val (.int .u8 0)]
  | 7 => [.val (.int .i64 0), .val (.int .i64 0), .val (.bool false), .val (.int .u8 0)]
  | 8 => [.val (.int .i64 0), .val (.int .i64 0), .val (.bool false), .val (.int .u8 0)]
  | 9 => [.val (.string ByteArray.empty)]
  | 10 => [.val (.string ByteArray.empty)]
  | 11 => [.val (.string ByteArray.empty)]
  | 12 => [.val (.int .u64 0)]
  | 13 => [.val (.string ByteArray.empty), .val (.int .u64 0)]
  | 14 => [.val (.string ByteArray.empty), .val (.int .u64 0)]
  | 15 => [.val (.pointer none)]
  | 16 => [.val (.pointer none)]
  | 17 => [.val (.pointer none)]
  | 18 => [.val (.pointer none)]
  | 19 => [.val (.pointer none)]
  | 21 => [.val (.int .i32 0)]
  | 22 => [.val (.slice none 0 0)]
  | 23 => [.val (.int .i64 0), .val (.int .i64 0), .val (.int .i64 0), .val (.slice none 0 0)]
  | 24 => [.val (.int .i64 0), .val (.int .i64 0), .val (.int .i64 0), .val (.slice none 0 0)]
  | 25 => [.val (.nilFunc)]
  | 26 => [.val (.slice none 0 0)]
  | 27 => [.val (.int .i64 0), .val (.int .i64 0), .val (.int .i64 0), .val (.slice none 0 0), .val (.slice none 0 0)]
  | 28 => [.val (.int .i64 0), .val (.int .i64 0), .val (.int .i64 0), .val (.slice none 0 0), .val (.slice none 0 0)]
  | 29 => [.val (.int .i64 0), .val (.int .i64 0), .val (.int .i64 0), .val (.int .i64 0), .val (.slice none 0 0), .val (.int .i64 0), .val (.int .i64 0), .val (.int .i64 0), .val (.slice none 0 0), .val (.slice none 0 0), .val (.int .i64 0), .val (.int .i64 0)]
  | 30 => [.val (.int .i64 0), .val (.int .i64 0), .val (.int .i64 0), .val (.int .i64 0), .val (.slice none 0 0), .val (.int .i64 0), .val (.int .i64 0), .val (.int .i64 0), .val (.slice none 0 0), .val (.slice none 0 0), .val (.int .i64 0), .val (.int .i64 0)]
  | 31 => [.val (.int .i64 0)]
  | 33 => [.val (.nilFunc)]
  | 34 => [.val (.nilFunc)]
  | 35 => [.val (.nilFunc)]
  | 36 => [.val (.nilFunc)]
  | 37 => [.val (.slice none 0 0)]
  | 38 => [.val (.slice none 0 0)]
  | 39 => [.val (.int .u32 0)]
  | 40 => [.val (.int .i64 0), .val (.int .i64 0), .val (.slice none 0 0), .val (.int .i64 0), .val (.int .i64 0), .val (.slice none 0 0), .val (.slice none 0 0), .val (.int .u32 0)]
  | 41 => [.val (.int .i64 0), .val (.int .i64 0), .val (.slice none 0 0), .val (.int .i64 0), .val (.int .i64 0), .val (.slice none 0 0), .val (.slice none 0 0), .val (.int .u32 0)]
  | 42 => [.val (.int .i64 0), .val (.int .i64 0)]
  | 43 => [.val (.int .i64 0), .val (.int .i64 0)]
  | 44 => [.val (.int .i64 0), .val (.bool false), .val (.int .i64 0), .val (.int .i64 0), .val (.int .i64 0), .val (.slice none 0 0), .val (.int .i64 0), .val (.int .i64 0), .val (.slice none 0 0), .val (.slice none 0 0), .val (.int .u32 0), .val (.int .i64 0), .val (.int .i64 0), .val (.int .i64 0), .val (.int .i64 0), .val (.int .i64 0), .val (.slice none 0 0)]
  | 45 => [.val (.int .i64 0), .val (.bool false), .val (.int .i64 0), .val (.int .i64 0), .val (.int .i64 0), .val (.slice none 0 0), .val (.int .i64 0), .val (.int .i64 0), .val (.slice none 0 0), .val (.slice none 0 0), .val (.int .u32 0), .val (.int .i64 0), .val (.int .i64 0), .val (.int .i64 0), .val (.int .i64 0), .val (.int .i64 0), .val (.slice none 0 0)]
  | 46 => [.val (.nilFunc)]
  | 47 => [.val (.int .i64 0), .val (.int .i64 0), .val (.int .i64 0), .val (.int .i64 0), .val (.int .i64 0), .val (.int .i64 0), .val (.slice none 0 0), .val (.slice none 0 0)]
  | 48 => [.val (.int .i64 0), .val (.int .i64 0), .val (.int .i64 0), .val (.int .i64 0), .val (.int .i64 0), .val (.int .i64 0), .val (.slice none 0 0), .val (.slice none 0 0)]
  | 50 => [.val (.nilFunc)]
  | 51 => [.val (.nilFunc)]
  | 52 => [.val (.nilFunc)]
  | 53 => [.val (.nilFunc)]
  | 54 => [.val (.nilFunc)]
  | 55 => [.val (.slice none 0 0)]
  | 56 => [.val (.int .i64 0), .val (.int .i64 0), .val (.int .i64 0), .val (.int .i64 0), .val (.slice none 0 0)]
  | 57 => [.val (.int .i64 0), .val (.int .i64 0), .val (.int .i64 0), .val (.int .i64 0), .val (.slice none 0 0)]
  | 58 => [.val (.slice none 0 0)]
  | 59 => [.val (.slice none 0 0), .val (.int .i64 0)]
  | 60 => [.val (.slice none 0 0), .val (.int .i64 0)]
  | 61 => [.val (.slice none 0 0)]
  | 63 => [.val (.nilFunc)]
  | 64 => [.val (.nilFunc)]
  | 65 => [.val (.nilFunc)]
  | 66 => [.val (.nilFunc)]
  | 67 => [.val (.int .i64 0), .val (.int .i64 0)]
  | 68 => [.val (.int .i64 0), .val (.int .i64 0)]
  | 69 => [.val (.int .i64 0), .val (.int .i64 0), .val (.int .i64 0)]
  | 70 => [.val (.int .i64 0), .val (.int .i64 0), .val (.int .i64 0)]
  | 71 => [.val (.int .i64 0), .val (.int .i64 0), .val (.int .i64 0)]
  | 72 => [.val (.int .i64 0), .val (.int .i64 0), .val (.int .i64 0)]
  | 73 => [.val (.nilFunc)]
  | 74 => [.val (.slice none 0 0)]
  | 75 => [.val (.int .i64 0), .val (.slice none 0 0)]
  | 76 => [.val (.int .i64 0), .val (.slice none 0 0)]
  | 78 => [.val (.nilFunc)]
  | 79 => [.val (.nilFunc)]
  | 80 => [.val (.nilFunc)]
  | 81 => [.val (.nilFunc)]
  | 82 => [.val (.nilFunc)]
  | 83 => [.val (.nilFunc)]
  | 84 => [.val (.nilFunc)]
  | 85 => [.val (.nilFunc)]
  | 86 => [.val (.nilFunc)]
  | 87 => [.val (.nilFunc)]
  | 88 => [.val (.nilFunc)]
  | 89 => [.val (.nilFunc)]
  | 90 => [.val (.nilFunc)]
  | 91 => [.val (.nilFunc)]
  | 92 => [.val (.nilFunc)]
  | 93 => [.val (.nilFunc)]
  | 94 => [.val (.nilFunc)]
  | 95 => [.val (.int .i64 0), .val (.int .i64 0)]
  | 96 => [.val (.int .i64 0), .val (.int .i64 0)]
  | 97 => [.val (.nilFunc)]
  | 98 => [.val (.nilFunc)]
  | 99 => [.val (.nilFunc)]
  | 100 => [.val (.nilFunc)]
  | 101 => [.val (.nilFunc)]
  | 102 => [.val (.nilFunc)]
  | 103 => [.val (.nilFunc)]
  | 104 => [.val (.nilFunc)]
  | 105 => [.val (.nilFunc)]
  | 106 => [.val (.nilFunc)]
  | 107 => [.val (.nilFunc)]
  | 108 => [.val (.nilFunc)]
  | 109 => [.val (.nilFunc)]
  | 110 => [.val (.int .i64 0), .val (.int .u32 0)]
  | 111 => [.val (.int .i64 0), .val (.int .u32 0)]
  | 112 => [.val (.nilFunc)]
  | 113 => [.val (.nilFunc)]
  | 114 => [.val (.nilFunc)]
  | 115 => [.val (.nilFunc)]
  | 116 => [.val (.nilFunc)]
  | 117 => [.val (.nilFunc)]
  | 118 => [.val (.nilFunc)]
  | 119 => [.val (.nilFunc)]
  | 120 => [.val (.nilFunc)]
  | 121 => [.val (.nilFunc)]
  | 122 => [.val (.nilFunc)]
  | 123 => [.val (.nilFunc)]
  | 124 => [.val (.nilFunc)]
  | 125 => [.val (.nilFunc)]
  | 126 => [.val (.pointer none), .val (.pointer none), .val (.pointer none), .val (.string ByteArray.empty)]
  | 127 => [.val (.pointer none), .val (.pointer none), .val (.pointer none), .val (.string ByteArray.empty)]
  | 128 => []
  | 129 => []
  | 130 => []
  | 131 => [.val (.nilFunc)]
  | 132 => [.val (.int .u8 0)]
  | 133 => [.val (.int .u8 0)]
  | 134 => [.val (.nilFunc)]
  | 135 => [.val (.pointer none)]
  | 136 => [.val (.int .i32 0)]
  | 137 => [.val (.int .i32 0)]
  | 138 => [.val (.int .u64 0), .val (.int .u64 0), .val (.int .u32 0), .val (.int .u8 0), .val (.int .u8 0), .val (.int .u8 0), .val (.int .u8 0), .val (.nilFunc), .val (.pointer none), .val (.int .i32 0), .val (.int .i32 0)]
  | 139 => [.val (.int .u64 0), .val (.int .u64 0), .val (.int .u32 0), .val (.int .u8 0), .val (.int .u8 0), .val (.int .u8 0), .val (.int .u8 0), .val (.nilFunc), .val (.pointer none), .val (.int .i32 0), .val (.int .i32 0)]
  | _ => []
def tt : TT := fun t => (descF t).map fun d => ⟨d, sizeF t, bytesF t, zeroF t⟩
theorem ttOk : TtOk Try.prog tt := by
  intro t i h
  unfold tt descF at h
  split at h <;> first | (cases h; done) | (simp only [Option.map_some, Option.some.injEq] at h; subst h)
  · exact k1
  · exact k2
  · exact k3
  · exact k4
  · exact k5
  · exact k6
  · exact k7
  · exact k8
  · exact k9
  · exact k10
  · exact k11
  · exact k12
  · exact k13
  · exact k14
  · exact k15
  · exact k16
  · exact k17
  · exact k18
  · exact k19
  · exact k21
  · exact k22
  · exact k23
  · exact k24
  · exact k25
  · exact k26
  · exact k27
  · exact k28
  · exact k29
  · exact k30
  · exact k31
  · exact k33
  · exact k34
  · exact k35
  · exact k36
  · exact k37
  · exact k38
  · exact k39
  · exact k40
  · exact k41
  · exact k42
  · exact k43
  · exact k44
  · exact k45
  · exact k46
  · exact k47
  · exact k48
  · exact k50
  · exact k51
  · exact k52
  · exact k53
  · exact k54
  · exact k55
  · exact k56
  · exact k57
  · exact k58
  · exact k59
  · exact k60
  · exact k61
  · exact k63
  · exact k64
  · exact k65
  · exact k66
  · exact k67
  · exact k68
  · exact k69
  · exact k70
  · exact k71
  · exact k72
  · exact k73
  · exact k74
  · exact k75
  · exact k76
  · exact k78
  · exact k79
  · exact k80
  · exact k81
  · exact k82
  · exact k83
  · exact k84
  · exact k85
  · exact k86
  · exact k87
  · exact k88
  · exact k89
  · exact k90
  · exact k91
  · exact k92
  · exact k93
  · exact k94
  · exact k95
  · exact k96
  · exact k97
  · exact k98
  · exact k99
  · exact k100
  · exact k101
  · exact k102
  · exact k103
  · exact k104
  · exact k105
  · exact k106
  · exact k107
  · exact k108
  · exact k109
  · exact k110
  · exact k111
  · exact k112
  · exact k113
  · exact k114
  · exact k115
  · exact k116
  · exact k117
  · exact k118
  · exact k119
  · exact k120
  · exact k121
  · exact k122
  · exact k123
  · exact k124
  · exact k125
  · exact k126
  · exact k127
  · exact k128
  · exact k129
  · exact k130
  · exact k131
  · exact k132
  · exact k133
  · exact k134
  · exact k135
  · exact k136
  · exact k137
  · exact k138
  · exact k139
theorem tdesc_tt (t : Nat) : tdesc tt t = descF t := by unfold tdesc tt; cases descF t <;> rfl
theorem tsize_tt (t : Nat) : tsize tt t = (descF t).map fun _ => sizeF t := by unfold tsize tt; cases descF t <;> rfl
theorem tbytes_tt (t : Nat) : tbytes tt t = (descF t).map fun _ => bytesF t := by unfold tbytes tt; cases descF t <;> rfl
theorem tzero_tt (t : Nat) : tzero tt t = (descF t).map fun _ => zeroF t := by unfold tzero tt; cases descF t <;> rfl
theorem tagg_tt (t : Nat) : tagg tt t = (descF t).map fun d => (descAgg d, sizeF t) := by unfold tagg tt; cases descF t <;> rfl
end Go.Ab.Try
