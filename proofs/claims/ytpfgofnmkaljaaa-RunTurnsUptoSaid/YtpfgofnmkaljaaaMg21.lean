/-
  The seat's types: written by a program of this session (gen_types.py); each row is checked by the kernel.
-/
import Derived.Test.YtpfgofnmkaljaaaProg
import Derived.Test.YtpfgofnmkaljaaaMg03
import Derived.KernelRfl
set_option linter.unusedVariables false
set_option linter.unusedSimpArgs false
namespace Go.Ab.Try
open Go Go.Proofs
theorem mk {P : Program} {t : TypeId} {d : TypeDesc} {z : Value} {n b : Nat} {zs : List CV} (h1 : P.underlying t = some d) (h2 : (P.info? t).map (fun i => (i.zero, i.size, i.bytes)) = some (some z, n, b)) (hz : z.cells = (zs.map cvVal).toArray) (hl : zs.length = n) (hs : ∀ u ∈ zs, (∃ x, u = .val x ∧ x.oneCell' = true) ∨ u = .sl []) : TyOk P t ⟨d, n, b, zs⟩ := by
  cases hi : P.info? t with
  | none => simp [hi] at h2
  | some i =>
    simp [hi] at h2
    exact ⟨h1, hs, hl, i, hi, h2.2.1, h2.2.2, z, h2.1, hz⟩
def i2 : TI := ⟨.int .i64, 1, 8, [.val (.int .i64 0)]⟩
theorem k2 : TyOk Try.prog 2 i2 := mk (z := .int .i64 0) Try.underlying2 (by kernel_rfl) rfl rfl (by simp [Value.oneCell'])
def i3 : TI := ⟨.int .i64, 1, 8, [.val (.int .i64 0)]⟩
theorem k3 : TyOk Try.prog 3 i3 := mk (z := .int .i64 0) Try.underlying3 (by kernel_rfl) rfl rfl (by simp [Value.oneCell'])
def i4 : TI := ⟨.bool, 1, 1, [.val (.bool false)]⟩
theorem k4 : TyOk Try.prog 4 i4 := mk (z := .bool false) Try.underlying4 (by kernel_rfl) rfl rfl (by simp [Value.oneCell'])
def i5 : TI := ⟨.int .u8, 1, 1, [.val (.int .u8 0)]⟩
theorem k5 : TyOk Try.prog 5 i5 := mk (z := .int .u8 0) Try.underlying5 (by kernel_rfl) rfl rfl (by simp [Value.oneCell'])
def i9 : TI := ⟨.string, 1, 16, [.val (.string ByteArray.empty)]⟩
theorem k9 : TyOk Try.prog 9 i9 := mk (z := .string ByteArray.empty) Try.underlying9 (by kernel_rfl) rfl rfl (by simp [Value.oneCell'])
def i22 : TI := ⟨.slice 23, 1, 24, [.val (.slice none 0 0)]⟩
theorem k22 : TyOk Try.prog 22 i22 := mk (z := .slice none 0 0) Try.underlying22 (by kernel_rfl) rfl rfl (by simp [Value.oneCell'])
def i23 : TI := ⟨.slice 34, 1, 24, [.val (.slice none 0 0)]⟩
theorem k23 : TyOk Try.prog 23 i23 := mk (z := .slice none 0 0) Try.underlying23 (by kernel_rfl) rfl rfl (by simp [Value.oneCell'])
def i24 : TI := ⟨.slice 3, 1, 24, [.val (.slice none 0 0)]⟩
theorem k24 : TyOk Try.prog 24 i24 := mk (z := .slice none 0 0) Try.underlying24 (by kernel_rfl) rfl rfl (by simp [Value.oneCell'])
def i33 : TI := ⟨.struct #[{ name := "Key", type := 2, offset := 0, embedded := false, tag := "", pkgPath := "", byteOffset := 0 }, { name := "Val", type := 2, offset := 1, embedded := false, tag := "", pkgPath := "", byteOffset := 8 }], 2, 16, [.val (.int .i64 0), .val (.int .i64 0)]⟩
theorem k33 : TyOk Try.prog 33 i33 := mk (z := .agg #[.int .i64 0, .int .i64 0]) Try.underlying33 (by kernel_rfl) rfl rfl (by simp [Value.oneCell'])
def i34 : TI := ⟨.struct #[{ name := "Key", type := 2, offset := 0, embedded := false, tag := "", pkgPath := "", byteOffset := 0 }, { name := "Val", type := 2, offset := 1, embedded := false, tag := "", pkgPath := "", byteOffset := 8 }], 2, 16, [.val (.int .i64 0), .val (.int .i64 0)]⟩
theorem k34 : TyOk Try.prog 34 i34 := mk (z := .agg #[.int .i64 0, .int .i64 0]) Try.underlying34 (by kernel_rfl) rfl rfl (by simp [Value.oneCell'])
def i36 : TI := ⟨.int .i64, 1, 8, [.val (.int .i64 0)]⟩
theorem k36 : TyOk Try.prog 36 i36 := mk (z := .int .i64 0) Try.underlying36 (by kernel_rfl) rfl rfl (by simp [Value.oneCell'])
def i39 : TI := ⟨.slice 55, 1, 24, [.val (.slice none 0 0)]⟩
theorem k39 : TyOk Try.prog 39 i39 := mk (z := .slice none 0 0) Try.underlying39 (by kernel_rfl) rfl rfl (by simp [Value.oneCell'])
def i40 : TI := ⟨.struct #[{ name := "Parts", type := 3, offset := 0, embedded := false, tag := "", pkgPath := "", byteOffset := 0 }, { name := "Ops", type := 39, offset := 1, embedded := false, tag := "", pkgPath := "", byteOffset := 8 }], 2, 32, [.val (.int .i64 0), .val (.slice none 0 0)]⟩
theorem k40 : TyOk Try.prog 40 i40 := mk (z := .agg #[.int .i64 0, .slice none 0 0]) Try.underlying40 (by kernel_rfl) rfl rfl (by simp [Value.oneCell'])
def i41 : TI := ⟨.struct #[{ name := "Parts", type := 3, offset := 0, embedded := false, tag := "", pkgPath := "", byteOffset := 0 }, { name := "Ops", type := 39, offset := 1, embedded := false, tag := "", pkgPath := "", byteOffset := 8 }], 2, 32, [.val (.int .i64 0), .val (.slice none 0 0)]⟩
theorem k41 : TyOk Try.prog 41 i41 := mk (z := .agg #[.int .i64 0, .slice none 0 0]) Try.underlying41 (by kernel_rfl) rfl rfl (by simp [Value.oneCell'])
def i43 : TI := ⟨.slice 50, 1, 24, [.val (.slice none 0 0)]⟩
theorem k43 : TyOk Try.prog 43 i43 := mk (z := .slice none 0 0) Try.underlying43 (by kernel_rfl) rfl rfl (by simp [Value.oneCell'])
def i46 : TI := ⟨.slice 171, 1, 24, [.val (.slice none 0 0)]⟩
theorem k46 : TyOk Try.prog 46 i46 := mk (z := .slice none 0 0) Try.underlying46 (by kernel_rfl) rfl rfl (by simp [Value.oneCell'])
def i47 : TI := ⟨.struct #[{ name := "Keys", type := 46, offset := 0, embedded := false, tag := "", pkgPath := "", byteOffset := 0 }, { name := "Turn", type := 3, offset := 1, embedded := false, tag := "", pkgPath := "", byteOffset := 24 }], 2, 32, [.val (.slice none 0 0), .val (.int .i64 0)]⟩
theorem k47 : TyOk Try.prog 47 i47 := mk (z := .agg #[.slice none 0 0, .int .i64 0]) Try.underlying47 (by kernel_rfl) rfl rfl (by simp [Value.oneCell'])
def i48 : TI := ⟨.struct #[{ name := "Keys", type := 46, offset := 0, embedded := false, tag := "", pkgPath := "", byteOffset := 0 }, { name := "Turn", type := 3, offset := 1, embedded := false, tag := "", pkgPath := "", byteOffset := 24 }], 2, 32, [.val (.slice none 0 0), .val (.int .i64 0)]⟩
theorem k48 : TyOk Try.prog 48 i48 := mk (z := .agg #[.slice none 0 0, .int .i64 0]) Try.underlying48 (by kernel_rfl) rfl rfl (by simp [Value.oneCell'])
def i49 : TI := ⟨.struct #[{ name := "State", type := 48, offset := 0, embedded := false, tag := "", pkgPath := "", byteOffset := 0 }, { name := "Buffers", type := 22, offset := 2, embedded := false, tag := "", pkgPath := "", byteOffset := 32 }], 3, 56, [.val (.slice none 0 0), .val (.int .i64 0), .val (.slice none 0 0)]⟩
theorem k49 : TyOk Try.prog 49 i49 := mk (z := .agg #[.slice none 0 0, .int .i64 0, .slice none 0 0]) Try.underlying49 (by kernel_rfl) rfl rfl (by simp [Value.oneCell'])
def i50 : TI := ⟨.struct #[{ name := "State", type := 48, offset := 0, embedded := false, tag := "", pkgPath := "", byteOffset := 0 }, { name := "Buffers", type := 22, offset := 2, embedded := false, tag := "", pkgPath := "", byteOffset := 32 }], 3, 56, [.val (.slice none 0 0), .val (.int .i64 0), .val (.slice none 0 0)]⟩
theorem k50 : TyOk Try.prog 50 i50 := mk (z := .agg #[.slice none 0 0, .int .i64 0, .slice none 0 0]) Try.underlying50 (by kernel_rfl) rfl rfl (by simp [Value.oneCell'])
def i53 : TI := ⟨.slice 78, 1, 24, [.val (.slice none 0 0)]⟩
theorem k53 : TyOk Try.prog 53 i53 := mk (z := .slice none 0 0) Try.underlying53 (by kernel_rfl) rfl rfl (by simp [Value.oneCell'])
def i54 : TI := ⟨.struct #[{ name := "Kind", type := 3, offset := 0, embedded := false, tag := "", pkgPath := "", byteOffset := 0 }, { name := "Part", type := 3, offset := 1, embedded := false, tag := "", pkgPath := "", byteOffset := 8 }, { name := "Fn", type := 3, offset := 2, embedded := false, tag := "", pkgPath := "", byteOffset := 16 }, { name := "Arg", type := 2, offset := 3, embedded := false, tag := "", pkgPath := "", byteOffset := 24 }, { name := "In", type := 53, offset := 4, embedded := false, tag := "", pkgPath := "", byteOffset := 32 }], 5, 56, [.val (.int .i64 0), .val (.int .i64 0), .val (.int .i64 0), .val (.int .i64 0), .val (.slice none 0 0)]⟩
theorem k54 : TyOk Try.prog 54 i54 := mk (z := .agg #[.int .i64 0, .int .i64 0, .int .i64 0, .int .i64 0, .slice none 0 0]) Try.underlying54 (by kernel_rfl) rfl rfl (by simp [Value.oneCell'])
def i55 : TI := ⟨.struct #[{ name := "Kind", type := 3, offset := 0, embedded := false, tag := "", pkgPath := "", byteOffset := 0 }, { name := "Part", type := 3, offset := 1, embedded := false, tag := "", pkgPath := "", byteOffset := 8 }, { name := "Fn", type := 3, offset := 2, embedded := false, tag := "", pkgPath := "", byteOffset := 16 }, { name := "Arg", type := 2, offset := 3, embedded := false, tag := "", pkgPath := "", byteOffset := 24 }, { name := "In", type := 53, offset := 4, embedded := false, tag := "", pkgPath := "", byteOffset := 32 }], 5, 56, [.val (.int .i64 0), .val (.int .i64 0), .val (.int .i64 0), .val (.int .i64 0), .val (.slice none 0 0)]⟩
theorem k55 : TyOk Try.prog 55 i55 := mk (z := .agg #[.int .i64 0, .int .i64 0, .int .i64 0, .int .i64 0, .slice none 0 0]) Try.underlying55 (by kernel_rfl) rfl rfl (by simp [Value.oneCell'])
def i56 : TI := ⟨.slice 63, 1, 24, [.val (.slice none 0 0)]⟩
theorem k56 : TyOk Try.prog 56 i56 := mk (z := .slice none 0 0) Try.underlying56 (by kernel_rfl) rfl rfl (by simp [Value.oneCell'])
def i57 : TI := ⟨.pointer 108, 1, 8, [.val (.pointer none)]⟩
theorem k57 : TyOk Try.prog 57 i57 := mk (z := .pointer none) Try.underlying57 (by kernel_rfl) rfl rfl (by simp [Value.oneCell'])
def i60 : TI := ⟨.struct #[{ name := "Kind", type := 3, offset := 0, embedded := false, tag := "", pkgPath := "", byteOffset := 0 }, { name := "Record", type := 34, offset := 1, embedded := false, tag := "", pkgPath := "", byteOffset := 8 }, { name := "Id", type := 2, offset := 3, embedded := false, tag := "", pkgPath := "", byteOffset := 24 }], 4, 32, [.val (.int .i64 0), .val (.int .i64 0), .val (.int .i64 0), .val (.int .i64 0)]⟩
theorem k60 : TyOk Try.prog 60 i60 := mk (z := .agg #[.int .i64 0, .int .i64 0, .int .i64 0, .int .i64 0]) Try.underlying60 (by kernel_rfl) rfl rfl (by simp [Value.oneCell'])
def i61 : TI := ⟨.struct #[{ name := "Kind", type := 3, offset := 0, embedded := false, tag := "", pkgPath := "", byteOffset := 0 }, { name := "Record", type := 34, offset := 1, embedded := false, tag := "", pkgPath := "", byteOffset := 8 }, { name := "Id", type := 2, offset := 3, embedded := false, tag := "", pkgPath := "", byteOffset := 24 }], 4, 32, [.val (.int .i64 0), .val (.int .i64 0), .val (.int .i64 0), .val (.int .i64 0)]⟩
theorem k61 : TyOk Try.prog 61 i61 := mk (z := .agg #[.int .i64 0, .int .i64 0, .int .i64 0, .int .i64 0]) Try.underlying61 (by kernel_rfl) rfl rfl (by simp [Value.oneCell'])
def i62 : TI := ⟨.struct #[{ name := "Do", type := 3, offset := 0, embedded := false, tag := "", pkgPath := "", byteOffset := 0 }, { name := "Input", type := 3, offset := 1, embedded := false, tag := "", pkgPath := "", byteOffset := 8 }, { name := "E", type := 61, offset := 2, embedded := false, tag := "", pkgPath := "", byteOffset := 16 }, { name := "Left", type := 24, offset := 6, embedded := false, tag := "", pkgPath := "", byteOffset := 48 }], 7, 72, [.val (.int .i64 0), .val (.int .i64 0), .val (.int .i64 0), .val (.int .i64 0), .val (.int .i64 0), .val (.int .i64 0), .val (.slice none 0 0)]⟩
theorem k62 : TyOk Try.prog 62 i62 := mk (z := .agg #[.int .i64 0, .int .i64 0, .int .i64 0, .int .i64 0, .int .i64 0, .int .i64 0, .slice none 0 0]) Try.underlying62 (by kernel_rfl) rfl rfl (by simp [Value.oneCell'])
def i63 : TI := ⟨.struct #[{ name := "Do", type := 3, offset := 0, embedded := false, tag := "", pkgPath := "", byteOffset := 0 }, { name := "Input", type := 3, offset := 1, embedded := false, tag := "", pkgPath := "", byteOffset := 8 }, { name := "E", type := 61, offset := 2, embedded := false, tag := "", pkgPath := "", byteOffset := 16 }, { name := "Left", type := 24, offset := 6, embedded := false, tag := "", pkgPath := "", byteOffset := 48 }], 7, 72, [.val (.int .i64 0), .val (.int .i64 0), .val (.int .i64 0), .val (.int .i64 0), .val (.int .i64 0), .val (.int .i64 0), .val (.slice none 0 0)]⟩
theorem k63 : TyOk Try.prog 63 i63 := mk (z := .agg #[.int .i64 0, .int .i64 0, .int .i64 0, .int .i64 0, .int .i64 0, .int .i64 0, .slice none 0 0]) Try.underlying63 (by kernel_rfl) rfl rfl (by simp [Value.oneCell'])
def i65 : TI := ⟨.slice 70, 1, 24, [.val (.slice none 0 0)]⟩
theorem k65 : TyOk Try.prog 65 i65 := mk (z := .slice none 0 0) Try.underlying65 (by kernel_rfl) rfl rfl (by simp [Value.oneCell'])
def i68 : TI := ⟨.array 4 3, 4, 32, [.val (.int .i64 0), .val (.int .i64 0), .val (.int .i64 0), .val (.int .i64 0)]⟩
theorem k68 : TyOk Try.prog 68 i68 := mk (z := .agg #[.int .i64 0, .int .i64 0, .int .i64 0, .int .i64 0]) Try.underlying68 (by kernel_rfl) rfl rfl (by simp [Value.oneCell'])
def i69 : TI := ⟨.struct #[{ name := "Port", type := 3, offset := 0, embedded := false, tag := "", pkgPath := "", byteOffset := 0 }, { name := "Event", type := 61, offset := 1, embedded := false, tag := "", pkgPath := "", byteOffset := 8 }], 5, 40, [.val (.int .i64 0), .val (.int .i64 0), .val (.int .i64 0), .val (.int .i64 0), .val (.int .i64 0)]⟩
theorem k69 : TyOk Try.prog 69 i69 := mk (z := .agg #[.int .i64 0, .int .i64 0, .int .i64 0, .int .i64 0, .int .i64 0]) Try.underlying69 (by kernel_rfl) rfl rfl (by simp [Value.oneCell'])
def i70 : TI := ⟨.struct #[{ name := "Port", type := 3, offset := 0, embedded := false, tag := "", pkgPath := "", byteOffset := 0 }, { name := "Event", type := 61, offset := 1, embedded := false, tag := "", pkgPath := "", byteOffset := 8 }], 5, 40, [.val (.int .i64 0), .val (.int .i64 0), .val (.int .i64 0), .val (.int .i64 0), .val (.int .i64 0)]⟩
theorem k70 : TyOk Try.prog 70 i70 := mk (z := .agg #[.int .i64 0, .int .i64 0, .int .i64 0, .int .i64 0, .int .i64 0]) Try.underlying70 (by kernel_rfl) rfl rfl (by simp [Value.oneCell'])
def i77 : TI := ⟨.struct #[{ name := "From", type := 3, offset := 0, embedded := false, tag := "", pkgPath := "", byteOffset := 0 }, { name := "Port", type := 3, offset := 1, embedded := false, tag := "", pkgPath := "", byteOffset := 8 }], 2, 16, [.val (.int .i64 0), .val (.int .i64 0)]⟩
theorem k77 : TyOk Try.prog 77 i77 := mk (z := .agg #[.int .i64 0, .int .i64 0]) Try.underlying77 (by kernel_rfl) rfl rfl (by simp [Value.oneCell'])
def i78 : TI := ⟨.struct #[{ name := "From", type := 3, offset := 0, embedded := false, tag := "", pkgPath := "", byteOffset := 0 }, { name := "Port", type := 3, offset := 1, embedded := false, tag := "", pkgPath := "", byteOffset := 8 }], 2, 16, [.val (.int .i64 0), .val (.int .i64 0)]⟩
theorem k78 : TyOk Try.prog 78 i78 := mk (z := .agg #[.int .i64 0, .int .i64 0]) Try.underlying78 (by kernel_rfl) rfl rfl (by simp [Value.oneCell'])
def i79 : TI := ⟨.slice 22, 1, 24, [.val (.slice none 0 0)]⟩
theorem k79 : TyOk Try.prog 79 i79 := mk (z := .slice none 0 0) Try.underlying79 (by kernel_rfl) rfl rfl (by simp [Value.oneCell'])
def i82 : TI := ⟨.slice 87, 1, 24, [.val (.slice none 0 0)]⟩
theorem k82 : TyOk Try.prog 82 i82 := mk (z := .slice none 0 0) Try.underlying82 (by kernel_rfl) rfl rfl (by simp [Value.oneCell'])
def i87 : TI := ⟨.slice 61, 1, 24, [.val (.slice none 0 0)]⟩
theorem k87 : TyOk Try.prog 87 i87 := mk (z := .slice none 0 0) Try.underlying87 (by kernel_rfl) rfl rfl (by simp [Value.oneCell'])
def i95 : TI := ⟨.func #[140] #[] false, 1, 8, [.val (.nilFunc)]⟩
theorem k95 : TyOk Try.prog 95 i95 := mk (z := .nilFunc) Try.underlying95 (by kernel_rfl) rfl rfl (by simp [Value.oneCell'])
def i96 : TI := ⟨.func #[140] #[] false, 1, 8, [.val (.nilFunc)]⟩
theorem k96 : TyOk Try.prog 96 i96 := mk (z := .nilFunc) Try.underlying96 (by kernel_rfl) rfl rfl (by simp [Value.oneCell'])
def i100 : TI := ⟨.slice 5, 1, 24, [.val (.slice none 0 0)]⟩
theorem k100 : TyOk Try.prog 100 i100 := mk (z := .slice none 0 0) Try.underlying100 (by kernel_rfl) rfl rfl (by simp [Value.oneCell'])
def i104 : TI := ⟨.func #[87, 87] #[4] false, 1, 8, [.val (.nilFunc)]⟩
theorem k104 : TyOk Try.prog 104 i104 := mk (z := .nilFunc) Try.underlying104 (by kernel_rfl) rfl rfl (by simp [Value.oneCell'])
def i106 : TI := ⟨.slice 132, 1, 24, [.val (.slice none 0 0)]⟩
theorem k106 : TyOk Try.prog 106 i106 := mk (z := .slice none 0 0) Try.underlying106 (by kernel_rfl) rfl rfl (by simp [Value.oneCell'])
def i107 : TI := ⟨.struct #[{ name := "o", type := 55, offset := 0, embedded := false, tag := "", pkgPath := "pontoon/task", byteOffset := 0 }, { name := "now", type := 50, offset := 5, embedded := false, tag := "", pkgPath := "pontoon/task", byteOffset := 56 }, { name := "inputs", type := 106, offset := 8, embedded := false, tag := "", pkgPath := "pontoon/task", byteOffset := 112 }, { name := "aside", type := 50, offset := 9, embedded := false, tag := "", pkgPath := "pontoon/task", byteOffset := 136 }, { name := "passed", type := 2, offset := 12, embedded := false, tag := "", pkgPath := "pontoon/task", byteOffset := 192 }], 13, 200, [.val (.int .i64 0), .val (.int .i64 0), .val (.int .i64 0), .val (.int .i64 0), .val (.slice none 0 0), .val (.slice none 0 0), .val (.int .i64 0), .val (.slice none 0 0), .val (.slice none 0 0), .val (.slice none 0 0), .val (.int .i64 0), .val (.slice none 0 0), .val (.int .i64 0)]⟩
theorem k107 : TyOk Try.prog 107 i107 := mk (z := .agg #[.int .i64 0, .int .i64 0, .int .i64 0, .int .i64 0, .slice none 0 0, .slice none 0 0, .int .i64 0, .slice none 0 0, .slice none 0 0, .slice none 0 0, .int .i64 0, .slice none 0 0, .int .i64 0]) Try.underlying107 (by kernel_rfl) rfl rfl (by simp [Value.oneCell'])
def i108 : TI := ⟨.struct #[{ name := "o", type := 55, offset := 0, embedded := false, tag := "", pkgPath := "pontoon/task", byteOffset := 0 }, { name := "now", type := 50, offset := 5, embedded := false, tag := "", pkgPath := "pontoon/task", byteOffset := 56 }, { name := "inputs", type := 106, offset := 8, embedded := false, tag := "", pkgPath := "pontoon/task", byteOffset := 112 }, { name := "aside", type := 50, offset := 9, embedded := false, tag := "", pkgPath := "pontoon/task", byteOffset := 136 }, { name := "passed", type := 2, offset := 12, embedded := false, tag := "", pkgPath := "pontoon/task", byteOffset := 192 }], 13, 200, [.val (.int .i64 0), .val (.int .i64 0), .val (.int .i64 0), .val (.int .i64 0), .val (.slice none 0 0), .val (.slice none 0 0), .val (.int .i64 0), .val (.slice none 0 0), .val (.slice none 0 0), .val (.slice none 0 0), .val (.int .i64 0), .val (.slice none 0 0), .val (.int .i64 0)]⟩
theorem k108 : TyOk Try.prog 108 i108 := mk (z := .agg #[.int .i64 0, .int .i64 0, .int .i64 0, .int .i64 0, .slice none 0 0, .slice none 0 0, .int .i64 0, .slice none 0 0, .slice none 0 0, .slice none 0 0, .int .i64 0, .slice none 0 0, .int .i64 0]) Try.underlying108 (by kernel_rfl) rfl rfl (by simp [Value.oneCell'])
def i109 : TI := ⟨.slice 57, 1, 24, [.val (.slice none 0 0)]⟩
theorem k109 : TyOk Try.prog 109 i109 := mk (z := .slice none 0 0) Try.underlying109 (by kernel_rfl) rfl rfl (by simp [Value.oneCell'])
def i113 : TI := ⟨.struct #[{ name := "Now", type := 50, offset := 0, embedded := false, tag := "", pkgPath := "", byteOffset := 0 }, { name := "Queues", type := 82, offset := 3, embedded := false, tag := "", pkgPath := "", byteOffset := 56 }], 4, 80, [.val (.slice none 0 0), .val (.int .i64 0), .val (.slice none 0 0), .val (.slice none 0 0)]⟩
theorem k113 : TyOk Try.prog 113 i113 := mk (z := .agg #[.slice none 0 0, .int .i64 0, .slice none 0 0, .slice none 0 0]) Try.underlying113 (by kernel_rfl) rfl rfl (by simp [Value.oneCell'])
def i114 : TI := ⟨.struct #[{ name := "Now", type := 50, offset := 0, embedded := false, tag := "", pkgPath := "", byteOffset := 0 }, { name := "Queues", type := 82, offset := 3, embedded := false, tag := "", pkgPath := "", byteOffset := 56 }], 4, 80, [.val (.slice none 0 0), .val (.int .i64 0), .val (.slice none 0 0), .val (.slice none 0 0)]⟩
theorem k114 : TyOk Try.prog 114 i114 := mk (z := .agg #[.slice none 0 0, .int .i64 0, .slice none 0 0, .slice none 0 0]) Try.underlying114 (by kernel_rfl) rfl rfl (by simp [Value.oneCell'])
def i120 : TI := ⟨.slice 2, 1, 24, [.val (.slice none 0 0)]⟩
theorem k120 : TyOk Try.prog 120 i120 := mk (z := .slice none 0 0) Try.underlying120 (by kernel_rfl) rfl rfl (by simp [Value.oneCell'])
def i121 : TI := ⟨.slice 130, 1, 24, [.val (.slice none 0 0)]⟩
theorem k121 : TyOk Try.prog 121 i121 := mk (z := .slice none 0 0) Try.underlying121 (by kernel_rfl) rfl rfl (by simp [Value.oneCell'])
def i126 : TI := ⟨.func #[152] #[] false, 1, 8, [.val (.nilFunc)]⟩
theorem k126 : TyOk Try.prog 126 i126 := mk (z := .nilFunc) Try.underlying126 (by kernel_rfl) rfl rfl (by simp [Value.oneCell'])
def i127 : TI := ⟨.func #[152] #[] false, 1, 8, [.val (.nilFunc)]⟩
theorem k127 : TyOk Try.prog 127 i127 := mk (z := .nilFunc) Try.underlying127 (by kernel_rfl) rfl rfl (by simp [Value.oneCell'])
def i129 : TI := ⟨.struct #[{ name := "ports", type := 22, offset := 0, embedded := false, tag := "", pkgPath := "pontoon/run", byteOffset := 0 }, { name := "state", type := 50, offset := 1, embedded := false, tag := "", pkgPath := "pontoon/run", byteOffset := 24 }], 4, 80, [.val (.slice none 0 0), .val (.slice none 0 0), .val (.int .i64 0), .val (.slice none 0 0)]⟩
theorem k129 : TyOk Try.prog 129 i129 := mk (z := .agg #[.slice none 0 0, .slice none 0 0, .int .i64 0, .slice none 0 0]) Try.underlying129 (by kernel_rfl) rfl rfl (by simp [Value.oneCell'])
def i130 : TI := ⟨.struct #[{ name := "ports", type := 22, offset := 0, embedded := false, tag := "", pkgPath := "pontoon/run", byteOffset := 0 }, { name := "state", type := 50, offset := 1, embedded := false, tag := "", pkgPath := "pontoon/run", byteOffset := 24 }], 4, 80, [.val (.slice none 0 0), .val (.slice none 0 0), .val (.int .i64 0), .val (.slice none 0 0)]⟩
theorem k130 : TyOk Try.prog 130 i130 := mk (z := .agg #[.slice none 0 0, .slice none 0 0, .int .i64 0, .slice none 0 0]) Try.underlying130 (by kernel_rfl) rfl rfl (by simp [Value.oneCell'])
def i132 : TI := ⟨.pointer 158, 1, 8, [.val (.pointer none)]⟩
theorem k132 : TyOk Try.prog 132 i132 := mk (z := .pointer none) Try.underlying132 (by kernel_rfl) rfl rfl (by simp [Value.oneCell'])
def i140 : TI := ⟨.func #[3, 34] #[4] false, 1, 8, [.val (.nilFunc)]⟩
theorem k140 : TyOk Try.prog 140 i140 := mk (z := .nilFunc) Try.underlying140 (by kernel_rfl) rfl rfl (by simp [Value.oneCell'])
def i141 : TI := ⟨.func #[65] #[] false, 1, 8, [.val (.nilFunc)]⟩
theorem k141 : TyOk Try.prog 141 i141 := mk (z := .nilFunc) Try.underlying141 (by kernel_rfl) rfl rfl (by simp [Value.oneCell'])
def i143 : TI := ⟨.func #[172] #[] false, 1, 8, [.val (.nilFunc)]⟩
theorem k143 : TyOk Try.prog 143 i143 := mk (z := .nilFunc) Try.underlying143 (by kernel_rfl) rfl rfl (by simp [Value.oneCell'])
def i144 : TI := ⟨.func #[172] #[] false, 1, 8, [.val (.nilFunc)]⟩
theorem k144 : TyOk Try.prog 144 i144 := mk (z := .nilFunc) Try.underlying144 (by kernel_rfl) rfl rfl (by simp [Value.oneCell'])
def i151 : TI := ⟨.func #[55] #[4] false, 1, 8, [.val (.nilFunc)]⟩
theorem k151 : TyOk Try.prog 151 i151 := mk (z := .nilFunc) Try.underlying151 (by kernel_rfl) rfl rfl (by simp [Value.oneCell'])
def i152 : TI := ⟨.func #[34] #[4] false, 1, 8, [.val (.nilFunc)]⟩
theorem k152 : TyOk Try.prog 152 i152 := mk (z := .nilFunc) Try.underlying152 (by kernel_rfl) rfl rfl (by simp [Value.oneCell'])
def i157 : TI := ⟨.struct #[{ name := "room", type := 3, offset := 0, embedded := false, tag := "", pkgPath := "pontoon/edge", byteOffset := 0 }, { name := "l", type := 87, offset := 1, embedded := false, tag := "", pkgPath := "pontoon/edge", byteOffset := 8 }, { name := "last", type := 2, offset := 2, embedded := false, tag := "", pkgPath := "pontoon/edge", byteOffset := 32 }], 3, 40, [.val (.int .i64 0), .val (.slice none 0 0), .val (.int .i64 0)]⟩
theorem k157 : TyOk Try.prog 157 i157 := mk (z := .agg #[.int .i64 0, .slice none 0 0, .int .i64 0]) Try.underlying157 (by kernel_rfl) rfl rfl (by simp [Value.oneCell'])
def i158 : TI := ⟨.struct #[{ name := "room", type := 3, offset := 0, embedded := false, tag := "", pkgPath := "pontoon/edge", byteOffset := 0 }, { name := "l", type := 87, offset := 1, embedded := false, tag := "", pkgPath := "pontoon/edge", byteOffset := 8 }, { name := "last", type := 2, offset := 2, embedded := false, tag := "", pkgPath := "pontoon/edge", byteOffset := 32 }], 3, 40, [.val (.int .i64 0), .val (.slice none 0 0), .val (.int .i64 0)]⟩
theorem k158 : TyOk Try.prog 158 i158 := mk (z := .agg #[.int .i64 0, .slice none 0 0, .int .i64 0]) Try.underlying158 (by kernel_rfl) rfl rfl (by simp [Value.oneCell'])
def i159 : TI := ⟨.slice 3, 1, 24, [.val (.slice none 0 0)]⟩
theorem k159 : TyOk Try.prog 159 i159 := mk (z := .slice none 0 0) Try.underlying159 (by kernel_rfl) rfl rfl (by simp [Value.oneCell'])
def i163 : TI := ⟨.slice 167, 1, 24, [.val (.slice none 0 0)]⟩
theorem k163 : TyOk Try.prog 163 i163 := mk (z := .slice none 0 0) Try.underlying163 (by kernel_rfl) rfl rfl (by simp [Value.oneCell'])
def i166 : TI := ⟨.struct #[{ name := "Port", type := 3, offset := 0, embedded := false, tag := "", pkgPath := "", byteOffset := 0 }, { name := "Record", type := 34, offset := 1, embedded := false, tag := "", pkgPath := "", byteOffset := 8 }], 3, 24, [.val (.int .i64 0), .val (.int .i64 0), .val (.int .i64 0)]⟩
theorem k166 : TyOk Try.prog 166 i166 := mk (z := .agg #[.int .i64 0, .int .i64 0, .int .i64 0]) Try.underlying166 (by kernel_rfl) rfl rfl (by simp [Value.oneCell'])
def i167 : TI := ⟨.struct #[{ name := "Port", type := 3, offset := 0, embedded := false, tag := "", pkgPath := "", byteOffset := 0 }, { name := "Record", type := 34, offset := 1, embedded := false, tag := "", pkgPath := "", byteOffset := 8 }], 3, 24, [.val (.int .i64 0), .val (.int .i64 0), .val (.int .i64 0)]⟩
theorem k167 : TyOk Try.prog 167 i167 := mk (z := .agg #[.int .i64 0, .int .i64 0, .int .i64 0]) Try.underlying167 (by kernel_rfl) rfl rfl (by simp [Value.oneCell'])
def i170 : TI := ⟨.struct #[{ name := "Key", type := 2, offset := 0, embedded := false, tag := "", pkgPath := "", byteOffset := 0 }, { name := "Count", type := 2, offset := 1, embedded := false, tag := "", pkgPath := "", byteOffset := 8 }, { name := "Acc", type := 2, offset := 2, embedded := false, tag := "", pkgPath := "", byteOffset := 16 }], 3, 24, [.val (.int .i64 0), .val (.int .i64 0), .val (.int .i64 0)]⟩
theorem k170 : TyOk Try.prog 170 i170 := mk (z := .agg #[.int .i64 0, .int .i64 0, .int .i64 0]) Try.underlying170 (by kernel_rfl) rfl rfl (by simp [Value.oneCell'])
def i171 : TI := ⟨.struct #[{ name := "Key", type := 2, offset := 0, embedded := false, tag := "", pkgPath := "", byteOffset := 0 }, { name := "Count", type := 2, offset := 1, embedded := false, tag := "", pkgPath := "", byteOffset := 8 }, { name := "Acc", type := 2, offset := 2, embedded := false, tag := "", pkgPath := "", byteOffset := 16 }], 3, 24, [.val (.int .i64 0), .val (.int .i64 0), .val (.int .i64 0)]⟩
theorem k171 : TyOk Try.prog 171 i171 := mk (z := .agg #[.int .i64 0, .int .i64 0, .int .i64 0]) Try.underlying171 (by kernel_rfl) rfl rfl (by simp [Value.oneCell'])
def i172 : TI := ⟨.func #[3, 61] #[4] false, 1, 8, [.val (.nilFunc)]⟩
theorem k172 : TyOk Try.prog 172 i172 := mk (z := .nilFunc) Try.underlying172 (by kernel_rfl) rfl rfl (by simp [Value.oneCell'])
def i175 : TI := ⟨.map 78 4, 1, 8, [.val (.map none)]⟩
theorem k175 : TyOk Try.prog 175 i175 := mk (z := .map none) Try.underlying175 (by kernel_rfl) rfl rfl (by simp [Value.oneCell'])
def i178 : TI := ⟨.func #[3] #[4] false, 1, 8, [.val (.nilFunc)]⟩
theorem k178 : TyOk Try.prog 178 i178 := mk (z := .nilFunc) Try.underlying178 (by kernel_rfl) rfl rfl (by simp [Value.oneCell'])
def i192 : TI := ⟨.func #[78] #[4] false, 1, 8, [.val (.nilFunc)]⟩
theorem k192 : TyOk Try.prog 192 i192 := mk (z := .nilFunc) Try.underlying192 (by kernel_rfl) rfl rfl (by simp [Value.oneCell'])
def descF : Nat → Option TypeDesc
  | 2 => some (.int .i64)
  | 3 => some (.int .i64)
  | 4 => some (.bool)
  | 5 => some (.int .u8)
  | 9 => some (.string)
  | 22 => some (.slice 23)
  | 23 => some (.slice 34)
  | 24 => some (.slice 3)
  | 33 => some (.struct #[{ name := "Key", type := 2, offset := 0, embedded := false, tag := "", pkgPath := "", byteOffset := 0 }, { name := "Val", type := 2, offset := 1, embedded := false, tag := "", pkgPath := "", byteOffset := 8 }])
  | 34 => some (.struct #[{ name := "Key", type := 2, offset := 0, embedded := false, tag := "", pkgPath := "", byteOffset := 0 }, { name := "Val", type := 2, offset := 1, embedded := false, tag := "", pkgPath := "", byteOffset := 8 }])
  | 36 => some (.int .i64)
  | 39 => some (.slice 55)
  | 40 => some (.struct #[{ name := "Parts", type := 3, offset := 0, embedded := false, tag := "", pkgPath := "", byteOffset := 0 }, { name := "Ops", type := 39, offset := 1, embedded := false, tag := "", pkgPath := "", byteOffset := 8 }])
  | 41 => some (.struct #[{ name := "Parts", type := 3, offset := 0, embedded := false, tag := "", pkgPath := "", byteOffset := 0 }, { name := "Ops", type := 39, offset := 1, embedded := false, tag := "", pkgPath := "", byteOffset := 8 }])
  | 43 => some (.slice 50)
  | 46 => some (.slice 171)
  | 47 => some (.struct #[{ name := "Keys", type := 46, offset := 0, embedded := false, tag := "", pkgPath := "", byteOffset := 0 }, { name := "Turn", type := 3, offset := 1, embedded := false, tag := "", pkgPath := "", byteOffset := 24 }])
  | 48 => some (.struct #[{ name := "Keys", type := 46, offset := 0, embedded := false, tag := "", pkgPath := "", byteOffset := 0 }, { name := "Turn", type := 3, offset := 1, embedded := false, tag := "", pkgPath := "", byteOffset := 24 }])
  | 49 => some (.struct #[{ name := "State", type := 48, offset := 0, embedded := false, tag := "", pkgPath := "", byteOffset := 0 }, { name := "Buffers", type := 22, offset := 2, embedded := false, tag := "", pkgPath := "", byteOffset := 32 }])
  | 50 => some (.struct #[{ name := "State", type := 48, offset := 0, embedded := false, tag := "", pkgPath := "", byteOffset := 0 }, { name := "Buffers", type := 22, offset := 2, embedded := false, tag := "", pkgPath := "", byteOffset := 32 }])
  | 53 => some (.slice 78)
  | 54 => some (.struct #[{ name := "Kind", type := 3, offset := 0, embedded := false, tag := "", pkgPath := "", byteOffset := 0 }, { name := "Part", type := 3, offset := 1, embedded := false, tag := "", pkgPath := "", byteOffset := 8 }, { name := "Fn", type := 3, offset := 2, embedded := false, tag := "", pkgPath := "", byteOffset := 16 }, { name := "Arg", type := 2, offset := 3, embedded := false, tag := "", pkgPath := "", byteOffset := 24 }, { name := "In", type := 53, offset := 4, embedded := false, tag := "", pkgPath := "", byteOffset := 32 }])
  | 55 => some (.struct #[{ name := "Kind", type := 3, offset := 0, embedded := false, tag := "", pkgPath := "", byteOffset := 0 }, { name := "Part", type := 3, offset := 1, embedded := false, tag := "", pkgPath := "", byteOffset := 8 }, { name := "Fn", type := 3, offset := 2, embedded := false, tag := "", pkgPath := "", byteOffset := 16 }, { name := "Arg", type := 2, offset := 3, embedded := false, tag := "", pkgPath := "", byteOffset := 24 }, { name := "In", type := 53, offset := 4, embedded := false, tag := "", pkgPath := "", byteOffset := 32 }])
  | 56 => some (.slice 63)
  | 57 => some (.pointer 108)
  | 60 => some (.struct #[{ name := "Kind", type := 3, offset := 0, embedded := false, tag := "", pkgPath := "", byteOffset := 0 }, { name := "Record", type := 34, offset := 1, embedded := false, tag := "", pkgPath := "", byteOffset := 8 }, { name := "Id", type := 2, offset := 3, embedded := false, tag := "", pkgPath := "", byteOffset := 24 }])
  | 61 => some (.struct #[{ name := "Kind", type := 3, offset := 0, embedded := false, tag := "", pkgPath := "", byteOffset := 0 }, { name := "Record", type := 34, offset := 1, embedded := false, tag := "", pkgPath := "", byteOffset := 8 }, { name := "Id", type := 2, offset := 3, embedded := false, tag := "", pkgPath := "", byteOffset := 24 }])
  | 62 => some (.struct #[{ name := "Do", type := 3, offset := 0, embedded := false, tag := "", pkgPath := "", byteOffset := 0 }, { name := "Input", type := 3, offset := 1, embedded := false, tag := "", pkgPath := "", byteOffset := 8 }, { name := "E", type := 61, offset := 2, embedded := false, tag := "", pkgPath := "", byteOffset := 16 }, { name := "Left", type := 24, offset := 6, embedded := false, tag := "", pkgPath := "", byteOffset := 48 }])
  | 63 => some (.struct #[{ name := "Do", type := 3, offset := 0, embedded := false, tag := "", pkgPath := "", byteOffset := 0 }, { name := "Input", type := 3, offset := 1, embedded := false, tag := "", pkgPath := "", byteOffset := 8 }, { name := "E", type := 61, offset := 2, embedded := false, tag := "", pkgPath := "", byteOffset := 16 }, { name := "Left", type := 24, offset := 6, embedded := false, tag := "", pkgPath := "", byteOffset := 48 }])
  | 65 => some (.slice 70)
  | 68 => some (.array 4 3)
  | 69 => some (.struct #[{ name := "Port", type := 3, offset := 0, embedded := false, tag := "", pkgPath := "", byteOffset := 0 }, { name := "Event", type := 61, offset := 1, embedded := false, tag := "", pkgPath := "", byteOffset := 8 }])
  | 70 => some (.struct #[{ name := "Port", type := 3, offset := 0, embedded := false, tag := "", pkgPath := "", byteOffset := 0 }, { name := "Event", type := 61, offset := 1, embedded := false, tag := "", pkgPath := "", byteOffset := 8 }])
  | 77 => some (.struct #[{ name := "From", type := 3, offset := 0, embedded := false, tag := "", pkgPath := "", byteOffset := 0 }, { name := "Port", type := 3, offset := 1, embedded := false, tag := "", pkgPath := "", byteOffset := 8 }])
  | 78 => some (.struct #[{ name := "From", type := 3, offset := 0, embedded := false, tag := "", pkgPath := "", byteOffset := 0 }, { name := "Port", type := 3, offset := 1, embedded := false, tag := "", pkgPath := "", byteOffset := 8 }])
  | 79 => some (.slice 22)
  | 82 => some (.slice 87)
  | 87 => some (.slice 61)
  | 95 => some (.func #[140] #[] false)
  | 96 => some (.func #[140] #[] false)
  | 100 => some (.slice 5)
  | 104 => some (.func #[87, 87] #[4] false)
  | 106 => some (.slice 132)
  | 107 => some (.struct #[{ name := "o", type := 55, offset := 0, embedded := false, tag := "", pkgPath := "pontoon/task", byteOffset := 0 }, { name := "now", type := 50, offset := 5, embedded := false, tag := "", pkgPath := "pontoon/task", byteOffset := 56 }, { name := "inputs", type := 106, offset := 8, embedded := false, tag := "", pkgPath := "pontoon/task", byteOffset := 112 }, { name := "aside", type := 50, offset := 9, embedded := false, tag := "", pkgPath := "pontoon/task", byteOffset := 136 }, { name := "passed", type := 2, offset := 12, embedded := false, tag := "", pkgPath := "pontoon/task", byteOffset := 192 }])
  | 108 => some (.struct #[{ name := "o", type := 55, offset := 0, embedded := false, tag := "", pkgPath := "pontoon/task", byteOffset := 0 }, { name := "now", type := 50, offset := 5, embedded := false, tag := "", pkgPath := "pontoon/task", byteOffset := 56 }, { name := "inputs", type := 106, offset := 8, embedded := false, tag := "", pkgPath := "pontoon/task", byteOffset := 112 }, { name := "aside", type := 50, offset := 9, embedded := false, tag := "", pkgPath := "pontoon/task", byteOffset := 136 }, { name := "passed", type := 2, offset := 12, embedded := false, tag := "", pkgPath := "pontoon/task", byteOffset := 192 }])
  | 109 => some (.slice 57)
  | 113 => some (.struct #[{ name := "Now", type := 50, offset := 0, embedded := false, tag := "", pkgPath := "", byteOffset := 0 }, { name := "Queues", type := 82, offset := 3, embedded := false, tag := "", pkgPath := "", byteOffset := 56 }])
  | 114 => some (.struct #[{ name := "Now", type := 50, offset := 0, embedded := false, tag := "", pkgPath := "", byteOffset := 0 }, { name := "Queues", type := 82, offset := 3, embedded := false, tag := "", pkgPath := "", byteOffset := 56 }])
  | 120 => some (.slice 2)
  | 121 => some (.slice 130)
  | 126 => some (.func #[152] #[] false)
  | 127 => some (.func #[152] #[] false)
  | 129 => some (.struct #[{ name := "ports", type := 22, offset := 0, embedded := false, tag := "", pkgPath := "pontoon/run", byteOffset := 0 }, { name := "state", type := 50, offset := 1, embedded := false, tag := "", pkgPath := "pontoon/run", byteOffset := 24 }])
  | 130 => some (.struct #[{ name := "ports", type := 22, offset := 0, embedded := false, tag := "", pkgPath := "pontoon/run", byteOffset := 0 }, { name := "state", type := 50, offset := 1, embedded := false, tag := "", pkgPath := "pontoon/run", byteOffset := 24 }])
  | 132 => some (.pointer 158)
  | 140 => some (.func #[3, 34] #[4] false)
  | 141 => some (.func #[65] #[] false)
  | 143 => some (.func #[172] #[] false)
  | 144 => some (.func #[172] #[] false)
  | 151 => some (.func #[55] #[4] false)
  | 152 => some (.func #[34] #[4] false)
  | 157 => some (.struct #[{ name := "room", type := 3, offset := 0, embedded := false, tag := "", pkgPath := "pontoon/edge", byteOffset := 0 }, { name := "l", type := 87, offset := 1, embedded := false, tag := "", pkgPath := "pontoon/edge", byteOffset := 8 }, { name := "last", type := 2, offset := 2, embedded := false, tag := "", pkgPath := "pontoon/edge", byteOffset := 32 }])
  | 158 => some (.struct #[{ name := "room", type := 3, offset := 0, embedded := false, tag := "", pkgPath := "pontoon/edge", byteOffset := 0 }, { name := "l", type := 87, offset := 1, embedded := false, tag := "", pkgPath := "pontoon/edge", byteOffset := 8 }, { name := "last", type := 2, offset := 2, embedded := false, tag := "", pkgPath := "pontoon/edge", byteOffset := 32 }])
  | 159 => some (.slice 3)
  | 163 => some (.slice 167)
  | 166 => some (.struct #[{ name := "Port", type := 3, offset := 0, embedded := false, tag := "", pkgPath := "", byteOffset := 0 }, { name := "Record", type := 34, offset := 1, embedded := false, tag := "", pkgPath := "", byteOffset := 8 }])
  | 167 => some (.struct #[{ name := "Port", type := 3, offset := 0, embedded := false, tag := "", pkgPath := "", byteOffset := 0 }, { name := "Record", type := 34, offset := 1, embedded := false, tag := "", pkgPath := "", byteOffset := 8 }])
  | 170 => some (.struct #[{ name := "Key", type := 2, offset := 0, embedded := false, tag := "", pkgPath := "", byteOffset := 0 }, { name := "Count", type := 2, offset := 1, embedded := false, tag := "", pkgPath := "", byteOffset := 8 }, { name := "Acc", type := 2, offset := 2, embedded := false, tag := "", pkgPath := "", byteOffset := 16 }])
  | 171 => some (.struct #[{ name := "Key", type := 2, offset := 0, embedded := false, tag := "", pkgPath := "", byteOffset := 0 }, { name := "Count", type := 2, offset := 1, embedded := false, tag := "", pkgPath := "", byteOffset := 8 }, { name := "Acc", type := 2, offset := 2, embedded := false, tag := "", pkgPath := "", byteOffset := 16 }])
  | 172 => some (.func #[3, 61] #[4] false)
  | 175 => some (.map 78 4)
  | 178 => some (.func #[3] #[4] false)
  | 192 => some (.func #[78] #[4] false)
  | _ => none
def sizeF : Nat → Nat
  | 2 => 1
  | 3 => 1
  | 4 => 1
  | 5 => 1
  | 9 => 1
  | 22 => 1
  | 23 => 1
  | 24 => 1
  | 33 => 2
  | 34 => 2
  | 36 => 1
  | 39 => 1
  | 40 => 2
  | 41 => 2
  | 43 => 1
  | 46 => 1
  | 47 => 2
  | 48 => 2
  | 49 => 3
  | 50 => 3
  | 53 => 1
  | 54 => 5
  | 55 => 5
  | 56 => 1
  | 57 => 1
  | 60 => 4
  | 61 => 4
  | 62 => 7
  | 63 => 7
  | 65 => 1
  | 68 => 4
  | 69 => 5
  | 70 => 5
  | 77 => 2
  | 78 => 2
  | 79 => 1
  | 82 => 1
  | 87 => 1
  | 95 => 1
  | 96 => 1
  | 100 => 1
  | 104 => 1
  | 106 => 1
  | 107 => 13
  | 108 => 13
  | 109 => 1
  | 113 => 4
  | 114 => 4
  | 120 => 1
  | 121 => 1
  | 126 => 1
  | 127 => 1
  | 129 => 4
  | 130 => 4
  | 132 => 1
  | 140 => 1
  | 141 => 1
  | 143 => 1
  | 144 => 1
  | 151 => 1
  | 152 => 1
  | 157 => 3
  | 158 => 3
  | 159 => 1
  | 163 => 1
  | 166 => 3
  | 167 => 3
  | 170 => 3
  | 171 => 3
  | 172 => 1
  | 175 => 1
  | 178 => 1
  | 192 => 1
  | _ => 0
def bytesF : Nat → Nat
  | 2 => 8
  | 3 => 8
  | 4 => 1
  | 5 => 1
  | 9 => 16
  | 22 => 24
  | 23 => 24
  | 24 => 24
  | 33 => 16
  | 34 => 16
  | 36 => 8
  | 39 => 24
  | 40 => 32
  | 41 => 32
  | 43 => 24
  | 46 => 24
  | 47 => 32
  | 48 => 32
  | 49 => 56
  | 50 => 56
  | 53 => 24
  | 54 => 56
  | 55 => 56
  | 56 => 24
  | 57 => 8
  | 60 => 32
  | 61 => 32
  | 62 => 72
  | 63 => 72
  | 65 => 24
  | 68 => 32
  | 69 => 40
  | 70 => 40
  | 77 => 16
  | 78 => 16
  | 79 => 24
  | 82 => 24
  | 87 => 24
  | 95 => 8
  | 96 => 8
  | 100 => 24
  | 104 => 8
  | 106 => 24
  | 107 => 200
  | 108 => 200
  | 109 => 24
  | 113 => 80
  | 114 => 80
  | 120 => 24
  | 121 => 24
  | 126 => 8
  | 127 => 8
  | 129 => 80
  | 130 => 80
  | 132 => 8
  | 140 => 8
  | 141 => 8
  | 143 => 8
  | 144 => 8
  | 151 => 8
  | 152 => 8
  | 157 => 40
  | 158 => 40
  | 159 => 24
  | 163 => 24
  | 166 => 24
  | 167 => 24
  | 170 => 24
  | 171 => 24
  | 172 => 8
  | 175 => 8
  | 178 => 8
  | 192 => 8
  | _ => 0
def zeroF : Nat → List CV
  | 2 => [.val (.int .i64 0)]
  | 3 => [.val (.int .i64 0)]
  | 4 => [.val (.bool false)]
  | 5 => [.val (.int .u8 0)]
  | 9 => [.val (.string ByteArray.empty)]
  | 22 => [.val (.slice none 0 0)]
  | 23 => [.val (.slice none 0 0)]
  | 24 => [.val (.slice none 0 0)]
  | 33 => [.val (.int .i64 0), .val (.int .i64 0)]
  | 34 => [.val (.int .i64 0), .val (.int .i64 0)]
  | 36 => [.val (.int .i64 0)]
  | 39 => [.val (.slice none 0 0)]
  | 40 => [.val (.int .i64 0), .val (.slice none 0 0)]
  | 41 => [.val (.int .i64 0), .val (.slice none 0 0)]
  | 43 => [.val (.slice none 0 0)]
  | 46 => [.val (.slice none 0 0)]
  | 47 => [.val (.slice none 0 0), .val (.int .i64 0)]
  | 48 => [.val (.slice none 0 0), .val (.int .i64 0)]
  | 49 => [.val (.slice none 0 0), .val (.int .i64 0), .val (.slice none 0 0)]
  | 50 => [.val (.slice none 0 0), .val (.int .i64 0), .val (.slice none 0 0)]
  | 53 => [.val (.slice none 0 0)]
  | 54 => [.val (.int .i64 0), .val (.int .i64 0), .val (.int .i64 0), .val (.int .i64 0), .val (.slice none 0 0)]
  | 55 => [.val (.int .i64 0), .val (.int .i64 0), .val (.int .i64 0), .val (.int .i64 0), .val (.slice none 0 0)]
  | 56 => [.val (.slice none 0 0)]
  | 57 => [.val (.pointer none)]
  | 60 => [.val (.int .i64 0), .val (.int .i64 0), .val (.int .i64 0), .val (.int .i64 0)]
  | 61 => [.val (.int .i64 0), .val (.int .i64 0), .val (.int .i64 0), .val (.int .i64 0)]
  | 62 => [.val (.int .i64 0), .val (.int .i64 0), .val (.int .i64 0), .val (.int .i64 0), .val (.int .i64 0), .val (.int .i64 0), .val (.slice none 0 0)]
  | 63 => [.val (.int .i64 0), .val (.int .i64 0), .val (.int .i64 0), .val (.int .i64 0), .val (.int .i64 0), .val (.int .i64 0), .val (.slice none 0 0)]
  | 65 => [.val (.slice none 0 0)]
  | 68 => [.val (.int .i64 0), .val (.int .i64 0), .val (.int .i64 0), .val (.int .i64 0)]
  | 69 => [.val (.int .i64 0), .val (.int .i64 0), .val (.int .i64 0), .val (.int .i64 0), .val (.int .i64 0)]
  | 70 => [.val (.int .i64 0), .val (.int .i64 0), .val (.int .i64 0), .val (.int .i64 0), .val (.int .i64 0)]
  | 77 => [.val (.int .i64 0), .val (.int .i64 0)]
  | 78 => [.val (.int .i64 0), .val (.int .i64 0)]
  | 79 => [.val (.slice none 0 0)]
  | 82 => [.val (.slice none 0 0)]
  | 87 => [.val (.slice none 0 0)]
  | 95 => [.val (.nilFunc)]
  | 96 => [.val (.nilFunc)]
  | 100 => [.val (.slice none 0 0)]
  | 104 => [.val (.nilFunc)]
  | 106 => [.val (.slice none 0 0)]
  | 107 => [.val (.int .i64 0), .val (.int .i64 0), .val (.int .i64 0), .val (.int .i64 0), .val (.slice none 0 0), .val (.slice none 0 0), .val (.int .i64 0), .val (.slice none 0 0), .val (.slice none 0 0), .val (.slice none 0 0), .val (.int .i64 0), .val (.slice none 0 0), .val (.int .i64 0)]
  | 108 => [.val (.int .i64 0), .val (.int .i64 0), .val (.int .i64 0), .val (.int .i64 0), .val (.slice none 0 0), .val (.slice none 0 0), .val (.int .i64 0), .val (.slice none 0 0), .val (.slice none 0 0), .val (.slice none 0 0), .val (.int .i64 0), .val (.slice none 0 0), .val (.int .i64 0)]
  | 109 => [.val (.slice none 0 0)]
  | 113 => [.val (.slice none 0 0), .val (.int .i64 0), .val (.slice none 0 0), .val (.slice none 0 0)]
  | 114 => [.val (.slice none 0 0), .val (.int .i64 0), .val (.slice none 0 0), .val (.slice none 0 0)]
  | 120 => [.val (.slice none 0 0)]
  | 121 => [.val (.slice none 0 0)]
  | 126 => [.val (.nilFunc)]
  | 127 => [.val (.nilFunc)]
  | 129 => [.val (.slice none 0 0), .val (.slice none 0 0), .val (.int .i64 0), .val (.slice none 0 0)]
  | 130 => [.val (.slice none 0 0), .val (.slice none 0 0), .val (.int .i64 0), .val (.slice none 0 0)]
  | 132 => [.val (.pointer none)]
  | 140 => [.val (.nilFunc)]
  | 141 => [.val (.nilFunc)]
  | 143 => [.val (.nilFunc)]
  | 144 => [.val (.nilFunc)]
  | 151 => [.val (.nilFunc)]
  | 152 => [.val (.nilFunc)]
  | 157 => [.val (.int .i64 0), .val (.slice none 0 0), .val (.int .i64 0)]
  | 158 => [.val (.int .i64 0), .val (.slice none 0 0), .val (.int .i64 0)]
  | 159 => [.val (.slice none 0 0)]
  | 163 => [.val (.slice none 0 0)]
  | 166 => [.val (.int .i64 0), .val (.int .i64 0), .val (.int .i64 0)]
  | 167 => [.val (.int .i64 0), .val (.int .i64 0), .val (.int .i64 0)]
  | 170 => [.val (.int .i64 0), .val (.int .i64 0), .val (.int .i64 0)]
  | 171 => [.val (.int .i64 0), .val (.int .i64 0), .val (.int .i64 0)]
  | 172 => [.val (.nilFunc)]
  | 175 => [.val (.map none)]
  | 178 => [.val (.nilFunc)]
  | 192 => [.val (.nilFunc)]
  | _ => []
def tt : TT := fun t => (descF t).map fun d => ⟨d, sizeF t, bytesF t, zeroF t⟩
set_option maxHeartbeats 4000000 in
theorem ttOk : TtOk Try.prog tt := by
  intro t i h
  unfold tt descF at h
  split at h <;> first | (cases h; done) | (simp only [Option.map_some, Option.some.injEq] at h; subst h)
  · exact k2
  · exact k3
  · exact k4
  · exact k5
  · exact k9
  · exact k22
  · exact k23
  · exact k24
  · exact k33
  · exact k34
  · exact k36
  · exact k39
  · exact k40
  · exact k41
  · exact k43
  · exact k46
  · exact k47
  · exact k48
  · exact k49
  · exact k50
  · exact k53
  · exact k54
  · exact k55
  · exact k56
  · exact k57
  · exact k60
  · exact k61
  · exact k62
  · exact k63
  · exact k65
  · exact k68
  · exact k69
  · exact k70
  · exact k77
  · exact k78
  · exact k79
  · exact k82
  · exact k87
  · exact k95
  · exact k96
  · exact k100
  · exact k104
  · exact k106
  · exact k107
  · exact k108
  · exact k109
  · exact k113
  · exact k114
  · exact k120
  · exact k121
  · exact k126
  · exact k127
  · exact k129
  · exact k130
  · exact k132
  · exact k140
  · exact k141
  · exact k143
  · exact k144
  · exact k151
  · exact k152
  · exact k157
  · exact k158
  · exact k159
  · exact k163
  · exact k166
  · exact k167
  · exact k170
  · exact k171
  · exact k172
  · exact k175
  · exact k178
  · exact k192
theorem tdesc_tt (t : Nat) : tdesc tt t = descF t := by unfold tdesc tt; cases descF t <;> rfl
theorem tsize_tt (t : Nat) : tsize tt t = (descF t).map fun _ => sizeF t := by unfold tsize tt; cases descF t <;> rfl
theorem tbytes_tt (t : Nat) : tbytes tt t = (descF t).map fun _ => bytesF t := by unfold tbytes tt; cases descF t <;> rfl
theorem tzero_tt (t : Nat) : tzero tt t = (descF t).map fun _ => zeroF t := by unfold tzero tt; cases descF t <;> rfl
theorem tagg_tt (t : Nat) : tagg tt t = (descF t).map fun d => (descAgg d, sizeF t) := by unfold tagg tt; cases descF t <;> rfl
end Go.Ab.Try
