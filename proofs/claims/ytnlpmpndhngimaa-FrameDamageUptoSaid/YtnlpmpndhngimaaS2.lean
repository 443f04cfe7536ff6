/-
  The reference's frames: numbers, one frame taken.
-/
import Derived.Test.YtnlpmpndhngimaaS1
set_option linter.unusedVariables false
set_option linter.unusedSimpArgs false
namespace Go.Ab.Try
open Go Go.Proofs Go.Ab

theorem refnumber_t (a b c d : UInt8) (r : List UInt8) : FnP Try.prog 55 [.c (.sl (encB (a :: b :: c :: d :: r)))] (.c (.val (.int .u32 (num4 a b c d)))) := by
  refine FnP.intro (tt := tt) Try.func55 rfl (by kernel_rfl) (by simp [Try.ntmps55]) fun w0 A hA => ?_
  have hR := reckB_ok eqOk ttOk
  simp only [argT, Try.ntmps55, encB_cons']
  (repeat (first | refine go_seq ?_ | refine go_skip ?_ | refine go_blk ?_ | refine go_block ?_ | refine go_scope (fun _ _ _ h => h) ?_ | refine go_label ?_ | (refine go_region hR ?_; simp only [EV1, EV2, EV3, EV4, EV5, EV6, EV7, EV8, EV9, EV10, eqF, Op.operands, IntKind.bits, descF, sizeF, bytesF, zeroF, Nat.reduceLT, Nat.reduceLeDiff, Nat.reduceAdd, Nat.reduceSub, Nat.reduceMul, Nat.reduceBEq, Nat.reduceEqDiff, reduceCtorEq, reduceIte, Int.reduceToNat, Nat.reducePow, Int.reducePow, Int.reduceLE, Int.reduceLT, Int.reduceAdd, Int.reduceSub, Int.reduceMul, Int.reduceNeg, Int.reduceBEq, Int.reduceBNe, Int.reduceEq]) | (refine go_draw hR rfl ?_; simp only [EV1, EV2, EV3, EV4, EV5, EV6, EV7, EV8, EV9, EV10, eqF, Op.operands, IntKind.bits, descF, sizeF, bytesF, zeroF, Nat.reduceLT, Nat.reduceLeDiff, Nat.reduceAdd, Nat.reduceSub, Nat.reduceMul, Nat.reduceBEq, Nat.reduceEqDiff, reduceCtorEq, reduceIte, Int.reduceToNat, Nat.reducePow, Int.reducePow, Int.reduceLE, Int.reduceLT, Int.reduceAdd, Int.reduceSub, Int.reduceMul, Int.reduceNeg, Int.reduceBEq, Int.reduceBNe, Int.reduceEq]) | refine ⟨by kernel_rfl, ?_⟩))
  refine ⟨by omega, by omega, by omega, by omega, by kernel_rfl, ?_⟩
  (refine go_return ttOk (fun _ h => h) rfl ?_ ?_)
  · trivial
  · simp only [wrap_byte]
    exact congrArg (fun n : Nat => AV.c (.val (.int .u32 n))) (num4_or a b c d)

theorem encB4 (a b c d : UInt8) (r : List UInt8) : [CV.val (.int .u8 a.toNat)] :: [CV.val (.int .u8 b.toNat)] :: [CV.val (.int .u8 c.toNat)] :: [CV.val (.int .u8 d.toNat)] :: encB r = encB (a :: b :: c :: d :: r) := rfl
theorem num4_four (n : Nat) (a b c d : UInt8) (h : n < 4294967296) : four n = [a, b, c, d] ↔ n = num4 a b c d := by
  unfold four num4
  simp only [List.cons.injEq, and_true]
  constructor
  · rintro ⟨rfl, rfl, rfl, rfl⟩
    simp only [low8, UInt8.toNat_ofNat']
    omega
  · rintro rfl
    have := a.toNat_lt; have := b.toNat_lt; have := c.toNat_lt; have := d.toNat_lt
    simp only [low8, ← UInt8.toNat_inj, UInt8.toNat_ofNat']
    omega

theorem reftake_t (b : List UInt8) (hl : b.length ≤ 70368744177664) : FnO Try.prog 34 [.c (.sl (encB b))] [.acc 1 (encB (takeOf b).1) 5] (.tup [.own 0 1 0 (takeOf b).1.length, .c (.val (.int .i64 (takeOf b).2.1)), .c (.val (.int .i64 (takeOf b).2.2))]) := by
  refine FnO.intro (tt := tt) Try.func34 rfl (by kernel_rfl) (by simp [Try.ntmps34]) fun w0 A hA => ?_
  have hR := reckB_ok eqOk ttOk
  simp only [argT, Try.ntmps34]
  (repeat (first | refine go_seq ?_ | refine go_skip ?_ | refine go_blk ?_ | refine go_block ?_ | refine go_scope (fun _ _ _ h => h) ?_ | refine go_label ?_ | (refine go_region hR ?_; simp only [EV1, EV2, EV3, EV4, EV5, EV6, EV7, EV8, EV9, EV10, eqF, Op.operands, IntKind.bits, descF, sizeF, bytesF, zeroF, Nat.reduceLT, Nat.reduceLeDiff, Nat.reduceAdd, Nat.reduceSub, Nat.reduceMul, Nat.reduceBEq, Nat.reduceEqDiff, reduceCtorEq, reduceIte, Int.reduceToNat, Nat.reducePow, Int.reducePow, Int.reduceLE, Int.reduceLT, Int.reduceAdd, Int.reduceSub, Int.reduceMul, Int.reduceNeg, Int.reduceBEq, Int.reduceBNe, Int.reduceEq]) | (refine go_draw hR rfl ?_; simp only [EV1, EV2, EV3, EV4, EV5, EV6, EV7, EV8, EV9, EV10, eqF, Op.operands, IntKind.bits, descF, sizeF, bytesF, zeroF, Nat.reduceLT, Nat.reduceLeDiff, Nat.reduceAdd, Nat.reduceSub, Nat.reduceMul, Nat.reduceBEq, Nat.reduceEqDiff, reduceCtorEq, reduceIte, Int.reduceToNat, Nat.reducePow, Int.reducePow, Int.reduceLE, Int.reduceLT, Int.reduceAdd, Int.reduceSub, Int.reduceMul, Int.reduceNeg, Int.reduceBEq, Int.reduceBNe, Int.reduceEq]) | refine ⟨by kernel_rfl, ?_⟩))
  simp only [encB_len]
  refine go_cond (by rfl) (fun hc => ?_) (fun hc => ?_)
  · have h8 : b.length < 8 := by simp at hc; omega
    (repeat (first | refine go_seq ?_ | refine go_skip ?_ | refine go_blk ?_ | refine go_block ?_ | refine go_scope (fun _ _ _ h => h) ?_ | refine go_label ?_ | (refine go_region hR ?_; simp only [EV1, EV2, EV3, EV4, EV5, EV6, EV7, EV8, EV9, EV10, eqF, Op.operands, IntKind.bits, descF, sizeF, bytesF, zeroF, Nat.reduceLT, Nat.reduceLeDiff, Nat.reduceAdd, Nat.reduceSub, Nat.reduceMul, Nat.reduceBEq, Nat.reduceEqDiff, reduceCtorEq, reduceIte, Int.reduceToNat, Nat.reducePow, Int.reducePow, Int.reduceLE, Int.reduceLT, Int.reduceAdd, Int.reduceSub, Int.reduceMul, Int.reduceNeg, Int.reduceBEq, Int.reduceBNe, Int.reduceEq]) | (refine go_draw hR rfl ?_; simp only [EV1, EV2, EV3, EV4, EV5, EV6, EV7, EV8, EV9, EV10, eqF, Op.operands, IntKind.bits, descF, sizeF, bytesF, zeroF, Nat.reduceLT, Nat.reduceLeDiff, Nat.reduceAdd, Nat.reduceSub, Nat.reduceMul, Nat.reduceBEq, Nat.reduceEqDiff, reduceCtorEq, reduceIte, Int.reduceToNat, Nat.reducePow, Int.reducePow, Int.reduceLE, Int.reduceLT, Int.reduceAdd, Int.reduceSub, Int.reduceMul, Int.reduceNeg, Int.reduceBEq, Int.reduceBNe, Int.reduceEq]) | refine ⟨by kernel_rfl, ?_⟩))
    refine go_nilOwn 2 1 5 rfl ?_
    refine go_returnO [0] (by simp) ttOk rfl ?_ ?_ ?_
    · trivial
    · simp only [takeOf, if_pos h8]; rfl
    · simp only [takeOf, if_pos h8]; rfl
  · have h8 : ¬ b.length < 8 := by simp at hc; omega
    obtain ⟨x0, x1, x2, x3, x4, x5, x6, x7, r, rfl⟩ := eight b h8
    have hcr : takeOf (x0 :: x1 :: x2 :: x3 :: x4 :: x5 :: x6 :: x7 :: r) = if [x4, x5, x6, x7] ≠ four (crc [x0, x1, x2, x3]).toNat ∨ 262144 < num4 x0 x1 x2 x3 then ([], 0, 21)
        else if r.length + 8 < num4 x0 x1 x2 x3 + 12 then ([], 0, 20)
        else if (r.drop (num4 x0 x1 x2 x3)).take 4 ≠ four (crc (r.take (num4 x0 x1 x2 x3))).toNat then ([], 0, 21)
        else (r.take (num4 x0 x1 x2 x3), num4 x0 x1 x2 x3 + 12, 0) := by
      rw [takeOf, if_neg h8]
      rfl
    rw [hcr]
    (repeat (first | refine go_seq ?_ | refine go_skip ?_ | refine go_blk ?_ | refine go_block ?_ | refine go_scope (fun _ _ _ h => h) ?_ | refine go_label ?_ | (refine go_region hR ?_; simp only [EV1, EV2, EV3, EV4, EV5, EV6, EV7, EV8, EV9, EV10, eqF, Op.operands, IntKind.bits, descF, sizeF, bytesF, zeroF, Nat.reduceLT, Nat.reduceLeDiff, Nat.reduceAdd, Nat.reduceSub, Nat.reduceMul, Nat.reduceBEq, Nat.reduceEqDiff, reduceCtorEq, reduceIte, Int.reduceToNat, Nat.reducePow, Int.reducePow, Int.reduceLE, Int.reduceLT, Int.reduceAdd, Int.reduceSub, Int.reduceMul, Int.reduceNeg, Int.reduceBEq, Int.reduceBNe, Int.reduceEq]) | (refine go_draw hR rfl ?_; simp only [EV1, EV2, EV3, EV4, EV5, EV6, EV7, EV8, EV9, EV10, eqF, Op.operands, IntKind.bits, descF, sizeF, bytesF, zeroF, Nat.reduceLT, Nat.reduceLeDiff, Nat.reduceAdd, Nat.reduceSub, Nat.reduceMul, Nat.reduceBEq, Nat.reduceEqDiff, reduceCtorEq, reduceIte, Int.reduceToNat, Nat.reducePow, Int.reducePow, Int.reduceLE, Int.reduceLT, Int.reduceAdd, Int.reduceSub, Int.reduceMul, Int.reduceNeg, Int.reduceBEq, Int.reduceBNe, Int.reduceEq]) | refine ⟨by kernel_rfl, ?_⟩))
    refine CallK.fresh (refnumber_t x0 x1 x2 x3 (x4 :: x5 :: x6 :: x7 :: r)).toO rfl (by (repeat' apply And.intro) <;> first | trivial | rfl) (.inl rfl) (by exact Nat.le_of_ble_eq_true rfl) ?_
    simp only [EV1, EV2, EV3, EV4, EV5, EV6, EV7, EV8, EV9, EV10, eqF, Op.operands, IntKind.bits, descF, sizeF, bytesF, zeroF, Nat.reduceLT, Nat.reduceLeDiff, Nat.reduceAdd, Nat.reduceSub, Nat.reduceMul, Nat.reduceBEq, Nat.reduceEqDiff, reduceCtorEq, reduceIte, Int.reduceToNat, Nat.reducePow, Int.reducePow, Int.reduceLE, Int.reduceLT, Int.reduceAdd, Int.reduceSub, Int.reduceMul, Int.reduceNeg, Int.reduceBEq, Int.reduceBNe, Int.reduceEq]
    (repeat (first | refine go_seq ?_ | refine go_skip ?_ | refine go_blk ?_ | refine go_block ?_ | refine go_scope (fun _ _ _ h => h) ?_ | refine go_label ?_ | (refine go_region hR ?_; simp only [EV1, EV2, EV3, EV4, EV5, EV6, EV7, EV8, EV9, EV10, eqF, Op.operands, IntKind.bits, descF, sizeF, bytesF, zeroF, Nat.reduceLT, Nat.reduceLeDiff, Nat.reduceAdd, Nat.reduceSub, Nat.reduceMul, Nat.reduceBEq, Nat.reduceEqDiff, reduceCtorEq, reduceIte, Int.reduceToNat, Nat.reducePow, Int.reducePow, Int.reduceLE, Int.reduceLT, Int.reduceAdd, Int.reduceSub, Int.reduceMul, Int.reduceNeg, Int.reduceBEq, Int.reduceBNe, Int.reduceEq]) | (refine go_draw hR rfl ?_; simp only [EV1, EV2, EV3, EV4, EV5, EV6, EV7, EV8, EV9, EV10, eqF, Op.operands, IntKind.bits, descF, sizeF, bytesF, zeroF, Nat.reduceLT, Nat.reduceLeDiff, Nat.reduceAdd, Nat.reduceSub, Nat.reduceMul, Nat.reduceBEq, Nat.reduceEqDiff, reduceCtorEq, reduceIte, Int.reduceToNat, Nat.reducePow, Int.reducePow, Int.reduceLE, Int.reduceLT, Int.reduceAdd, Int.reduceSub, Int.reduceMul, Int.reduceNeg, Int.reduceBEq, Int.reduceBNe, Int.reduceEq]) | refine ⟨by kernel_rfl, ?_⟩))
    have e1 : List.take 4 (encB (x0 :: x1 :: x2 :: x3 :: x4 :: x5 :: x6 :: x7 :: r)) = encB [x0, x1, x2, x3] := rfl
    have e2 : List.take ((encB (x0 :: x1 :: x2 :: x3 :: x4 :: x5 :: x6 :: x7 :: r)).length - 4) (List.drop 4 (encB (x0 :: x1 :: x2 :: x3 :: x4 :: x5 :: x6 :: x7 :: r))) = encB (x4 :: x5 :: x6 :: x7 :: r) := by
      rw [drop_encB, List.take_of_length_le (by simp [encB_len])]; rfl
    simp only [e1, e2]
    refine ⟨⟨by simp [encB_len], (by repeat (first | exact fun u hu => encB_mem hu | exact ones_nil | apply ones_cons))⟩, ?_⟩
    refine ⟨_, _, _, _, rfl, (by (repeat' apply And.intro) <;> first | trivial | rfl), (refsum_t [x0, x1, x2, x3] (by simp)).toO, ?_⟩
    simp only [EV1, EV2, EV3, EV4, EV5, EV6, EV7, EV8, EV9, EV10, eqF, Op.operands, IntKind.bits, descF, sizeF, bytesF, zeroF, Nat.reduceLT, Nat.reduceLeDiff, Nat.reduceAdd, Nat.reduceSub, Nat.reduceMul, Nat.reduceBEq, Nat.reduceEqDiff, reduceCtorEq, reduceIte, Int.reduceToNat, Nat.reducePow, Int.reducePow, Int.reduceLE, Int.reduceLT, Int.reduceAdd, Int.reduceSub, Int.reduceMul, Int.reduceNeg, Int.reduceBEq, Int.reduceBNe, Int.reduceEq]
    refine ⟨⟨by simp [encB_len], Nat.le_refl _, (by repeat (first | exact fun u hu => encB_mem hu | exact ones_nil | apply ones_cons))⟩, ?_⟩
    refine ⟨_, _, _, _, rfl, (by (repeat' apply And.intro) <;> first | trivial | rfl), (refnumber_t x4 x5 x6 x7 r).toO, ?_⟩
    simp only [EV1, EV2, EV3, EV4, EV5, EV6, EV7, EV8, EV9, EV10, eqF, Op.operands, IntKind.bits, descF, sizeF, bytesF, zeroF, Nat.reduceLT, Nat.reduceLeDiff, Nat.reduceAdd, Nat.reduceSub, Nat.reduceMul, Nat.reduceBEq, Nat.reduceEqDiff, reduceCtorEq, reduceIte, Int.reduceToNat, Nat.reducePow, Int.reducePow, Int.reduceLE, Int.reduceLT, Int.reduceAdd, Int.reduceSub, Int.reduceMul, Int.reduceNeg, Int.reduceBEq, Int.reduceBNe, Int.reduceEq]
    have hcl : (crc [x0, x1, x2, x3]).toNat < 4294967296 := (crc [x0, x1, x2, x3]).isLt
    have hiff := num4_four _ x4 x5 x6 x7 hcl
    by_cases hq : four (crc [x0, x1, x2, x3]).toNat = [x4, x5, x6, x7]
    · have hq' : (((crc [x0, x1, x2, x3]).toNat : Int) != (num4 x4 x5 x6 x7 : Int)) = false := by rw [hiff.1 hq]; simp
      simp only [hq', EV1, EV2, EV3, EV4, EV5, EV6, EV7, EV8, EV9, EV10, eqF, Op.operands, IntKind.bits, descF, sizeF, bytesF, zeroF, Nat.reduceLT, Nat.reduceLeDiff, Nat.reduceAdd, Nat.reduceSub, Nat.reduceMul, Nat.reduceBEq, Nat.reduceEqDiff, reduceCtorEq, reduceIte, Int.reduceToNat, Nat.reducePow, Int.reducePow, Int.reduceLE, Int.reduceLT, Int.reduceAdd, Int.reduceSub, Int.reduceMul, Int.reduceNeg, Int.reduceBEq, Int.reduceBNe, Int.reduceEq]
      refine ⟨by kernel_rfl, ?_⟩
      generalize num4 x0 x1 x2 x3 = n at *
      refine go_cond (by rfl) (fun hc => ?_) (fun hc => ?_)
      · have hbig : 262144 < n := by simp at hc; omega
        rw [if_pos (.inr hbig)]
        (repeat (first | refine go_seq ?_ | refine go_skip ?_ | refine go_blk ?_ | refine go_block ?_ | refine go_scope (fun _ _ _ h => h) ?_ | refine go_label ?_ | (refine go_region hR ?_; simp only [EV1, EV2, EV3, EV4, EV5, EV6, EV7, EV8, EV9, EV10, eqF, Op.operands, IntKind.bits, descF, sizeF, bytesF, zeroF, Nat.reduceLT, Nat.reduceLeDiff, Nat.reduceAdd, Nat.reduceSub, Nat.reduceMul, Nat.reduceBEq, Nat.reduceEqDiff, reduceCtorEq, reduceIte, Int.reduceToNat, Nat.reducePow, Int.reducePow, Int.reduceLE, Int.reduceLT, Int.reduceAdd, Int.reduceSub, Int.reduceMul, Int.reduceNeg, Int.reduceBEq, Int.reduceBNe, Int.reduceEq]) | (refine go_draw hR rfl ?_; simp only [EV1, EV2, EV3, EV4, EV5, EV6, EV7, EV8, EV9, EV10, eqF, Op.operands, IntKind.bits, descF, sizeF, bytesF, zeroF, Nat.reduceLT, Nat.reduceLeDiff, Nat.reduceAdd, Nat.reduceSub, Nat.reduceMul, Nat.reduceBEq, Nat.reduceEqDiff, reduceCtorEq, reduceIte, Int.reduceToNat, Nat.reducePow, Int.reducePow, Int.reduceLE, Int.reduceLT, Int.reduceAdd, Int.reduceSub, Int.reduceMul, Int.reduceNeg, Int.reduceBEq, Int.reduceBNe, Int.reduceEq]) | refine ⟨by kernel_rfl, ?_⟩))
        refine go_nilOwn 2 1 5 rfl ?_
        refine go_returnO [0] (by simp) ttOk rfl ?_ rfl rfl
        trivial
      · have hsmall : ¬ 262144 < n := by simp at hc; omega
        rw [if_neg (by rintro (h | h); exact h hq.symm; exact hsmall h)]
        have w1 : IntKind.i64.wrap (n : Int) = (n : Int) := wrap_i64 n (by omega)
        have w2 : IntKind.i64.wrap (8 + (n : Int)) = ((n + 8 : Nat) : Int) := by rw [IntKind.wrap_i64]; omega
        have w3 : IntKind.i64.wrap (12 + (n : Int)) = ((n + 12 : Nat) : Int) := by rw [IntKind.wrap_i64]; omega
        (repeat (first | refine go_seq ?_ | refine go_skip ?_ | refine go_blk ?_ | refine go_block ?_ | refine go_scope (fun _ _ _ h => h) ?_ | refine go_label ?_ | (refine go_region hR ?_; simp only [EV1, EV2, EV3, EV4, EV5, EV6, EV7, EV8, EV9, EV10, eqF, Op.operands, IntKind.bits, descF, sizeF, bytesF, zeroF, Nat.reduceLT, Nat.reduceLeDiff, Nat.reduceAdd, Nat.reduceSub, Nat.reduceMul, Nat.reduceBEq, Nat.reduceEqDiff, reduceCtorEq, reduceIte, Int.reduceToNat, Nat.reducePow, Int.reducePow, Int.reduceLE, Int.reduceLT, Int.reduceAdd, Int.reduceSub, Int.reduceMul, Int.reduceNeg, Int.reduceBEq, Int.reduceBNe, Int.reduceEq]) | (refine go_draw hR rfl ?_; simp only [EV1, EV2, EV3, EV4, EV5, EV6, EV7, EV8, EV9, EV10, eqF, Op.operands, IntKind.bits, descF, sizeF, bytesF, zeroF, Nat.reduceLT, Nat.reduceLeDiff, Nat.reduceAdd, Nat.reduceSub, Nat.reduceMul, Nat.reduceBEq, Nat.reduceEqDiff, reduceCtorEq, reduceIte, Int.reduceToNat, Nat.reducePow, Int.reducePow, Int.reduceLE, Int.reduceLT, Int.reduceAdd, Int.reduceSub, Int.reduceMul, Int.reduceNeg, Int.reduceBEq, Int.reduceBNe, Int.reduceEq]) | refine ⟨by kernel_rfl, ?_⟩))
        have hlen : (encB (x0 :: x1 :: x2 :: x3 :: x4 :: x5 :: x6 :: x7 :: r)).length = r.length + 8 := by simp [encB_len]
        simp only [hlen, w1]
        have hl' : r.length + 8 ≤ 70368744177664 := by simpa using hl
        have hw : IntKind.i64.wrap (((r.length + 8 : Nat) : Int) - 12) = (r.length : Int) - 4 := by rw [IntKind.wrap_i64]; omega
        simp only [hw]
        refine go_cond (by rfl) (fun hc => ?_) (fun hc => ?_)
        · have hcut : r.length + 8 < n + 12 := by simp at hc; omega
          rw [if_pos hcut]
          (repeat (first | refine go_seq ?_ | refine go_skip ?_ | refine go_blk ?_ | refine go_block ?_ | refine go_scope (fun _ _ _ h => h) ?_ | refine go_label ?_ | (refine go_region hR ?_; simp only [EV1, EV2, EV3, EV4, EV5, EV6, EV7, EV8, EV9, EV10, eqF, Op.operands, IntKind.bits, descF, sizeF, bytesF, zeroF, Nat.reduceLT, Nat.reduceLeDiff, Nat.reduceAdd, Nat.reduceSub, Nat.reduceMul, Nat.reduceBEq, Nat.reduceEqDiff, reduceCtorEq, reduceIte, Int.reduceToNat, Nat.reducePow, Int.reducePow, Int.reduceLE, Int.reduceLT, Int.reduceAdd, Int.reduceSub, Int.reduceMul, Int.reduceNeg, Int.reduceBEq, Int.reduceBNe, Int.reduceEq]) | (refine go_draw hR rfl ?_; simp only [EV1, EV2, EV3, EV4, EV5, EV6, EV7, EV8, EV9, EV10, eqF, Op.operands, IntKind.bits, descF, sizeF, bytesF, zeroF, Nat.reduceLT, Nat.reduceLeDiff, Nat.reduceAdd, Nat.reduceSub, Nat.reduceMul, Nat.reduceBEq, Nat.reduceEqDiff, reduceCtorEq, reduceIte, Int.reduceToNat, Nat.reducePow, Int.reducePow, Int.reduceLE, Int.reduceLT, Int.reduceAdd, Int.reduceSub, Int.reduceMul, Int.reduceNeg, Int.reduceBEq, Int.reduceBNe, Int.reduceEq]) | refine ⟨by kernel_rfl, ?_⟩))
          refine go_nilOwn 2 1 5 rfl ?_
          refine go_returnO [0] (by simp) ttOk rfl ?_ rfl rfl
          trivial
        · have hcut : ¬ r.length + 8 < n + 12 := by simp at hc; omega
          rw [if_neg hcut]
          have e3 : List.take (n + 8 - 8) (List.drop 8 (encB (x0 :: x1 :: x2 :: x3 :: x4 :: x5 :: x6 :: x7 :: r))) = encB (r.take n) := by
            rw [Nat.add_sub_cancel, drop_encB, take_encB]; rfl
          obtain ⟨y0, y1, y2, y3, r', hy⟩ : ∃ y0 y1 y2 y3 r', r.drop n = y0 :: y1 :: y2 :: y3 :: r' := by
            match hd : r.drop n with
            | y0 :: y1 :: y2 :: y3 :: r' => exact ⟨y0, y1, y2, y3, r', rfl⟩
            | [] => have := congrArg List.length hd; simp at this; omega
            | [_] => have := congrArg List.length hd; simp at this; omega
            | [_, _] => have := congrArg List.length hd; simp at this; omega
            | [_, _, _] => have := congrArg List.length hd; simp at this; omega
          have e4 : List.take (r.length + 8 - (n + 8)) (List.drop (n + 8) (encB (x0 :: x1 :: x2 :: x3 :: x4 :: x5 :: x6 :: x7 :: r))) = encB (y0 :: y1 :: y2 :: y3 :: r') := by
            rw [drop_encB, take_encB, ← hy]
            show encB (List.take _ (List.drop n r)) = _
            rw [List.take_of_length_le (by rw [List.length_drop]; omega)]
          (repeat (first | refine go_seq ?_ | refine go_skip ?_ | refine go_blk ?_ | refine go_block ?_ | refine go_scope (fun _ _ _ h => h) ?_ | refine go_label ?_ | (refine go_region hR ?_; simp only [EV1, EV2, EV3, EV4, EV5, EV6, EV7, EV8, EV9, EV10, eqF, Op.operands, IntKind.bits, descF, sizeF, bytesF, zeroF, Nat.reduceLT, Nat.reduceLeDiff, Nat.reduceAdd, Nat.reduceSub, Nat.reduceMul, Nat.reduceBEq, Nat.reduceEqDiff, reduceCtorEq, reduceIte, Int.reduceToNat, Nat.reducePow, Int.reducePow, Int.reduceLE, Int.reduceLT, Int.reduceAdd, Int.reduceSub, Int.reduceMul, Int.reduceNeg, Int.reduceBEq, Int.reduceBNe, Int.reduceEq]) | (refine go_draw hR rfl ?_; simp only [EV1, EV2, EV3, EV4, EV5, EV6, EV7, EV8, EV9, EV10, eqF, Op.operands, IntKind.bits, descF, sizeF, bytesF, zeroF, Nat.reduceLT, Nat.reduceLeDiff, Nat.reduceAdd, Nat.reduceSub, Nat.reduceMul, Nat.reduceBEq, Nat.reduceEqDiff, reduceCtorEq, reduceIte, Int.reduceToNat, Nat.reducePow, Int.reducePow, Int.reduceLE, Int.reduceLT, Int.reduceAdd, Int.reduceSub, Int.reduceMul, Int.reduceNeg, Int.reduceBEq, Int.reduceBNe, Int.reduceEq]) | refine ⟨by kernel_rfl, ?_⟩))
          simp only [w1, w2, EV1, EV2, EV3, EV4, EV5, EV6, EV7, EV8, EV9, EV10, eqF, Op.operands, IntKind.bits, descF, sizeF, bytesF, zeroF, Nat.reduceLT, Nat.reduceLeDiff, Nat.reduceAdd, Nat.reduceSub, Nat.reduceMul, Nat.reduceBEq, Nat.reduceEqDiff, reduceCtorEq, reduceIte, Int.reduceToNat, Nat.reducePow, Int.reducePow, Int.reduceLE, Int.reduceLT, Int.reduceAdd, Int.reduceSub, Int.reduceMul, Int.reduceNeg, Int.reduceBEq, Int.reduceBNe, Int.reduceEq, e3, hlen]
          have htk : (r.take n).length = n := by rw [List.length_take]; omega
          have hen : (encB (r.take n)).length = n := by rw [encB_len, htk]
          simp only [hen]
          (repeat (refine And.intro ?_ ?_; focus ((repeat' apply And.intro) <;> (first | exact trivial | rfl | omega | exact fun u hu => encB_mem hu | exact ones_nil | exact ones_cons ones_nil | assumption | (simp only [encB_len, encBB_len, List.length_cons, List.length_nil, List.length_append, List.length_take, List.length_drop] <;> omega) | exact encB_byteful _ | (simp; done)))))
          (repeat (first | refine go_seq ?_ | refine go_skip ?_ | refine go_blk ?_ | refine go_block ?_ | refine go_scope (fun _ _ _ h => h) ?_ | refine go_label ?_ | (refine go_region hR ?_; simp only [EV1, EV2, EV3, EV4, EV5, EV6, EV7, EV8, EV9, EV10, eqF, Op.operands, IntKind.bits, descF, sizeF, bytesF, zeroF, Nat.reduceLT, Nat.reduceLeDiff, Nat.reduceAdd, Nat.reduceSub, Nat.reduceMul, Nat.reduceBEq, Nat.reduceEqDiff, reduceCtorEq, reduceIte, Int.reduceToNat, Nat.reducePow, Int.reducePow, Int.reduceLE, Int.reduceLT, Int.reduceAdd, Int.reduceSub, Int.reduceMul, Int.reduceNeg, Int.reduceBEq, Int.reduceBNe, Int.reduceEq]) | (refine go_draw hR rfl ?_; simp only [EV1, EV2, EV3, EV4, EV5, EV6, EV7, EV8, EV9, EV10, eqF, Op.operands, IntKind.bits, descF, sizeF, bytesF, zeroF, Nat.reduceLT, Nat.reduceLeDiff, Nat.reduceAdd, Nat.reduceSub, Nat.reduceMul, Nat.reduceBEq, Nat.reduceEqDiff, reduceCtorEq, reduceIte, Int.reduceToNat, Nat.reducePow, Int.reducePow, Int.reduceLE, Int.reduceLT, Int.reduceAdd, Int.reduceSub, Int.reduceMul, Int.reduceNeg, Int.reduceBEq, Int.reduceBNe, Int.reduceEq]) | refine ⟨by kernel_rfl, ?_⟩))
          simp only [w1, w2, EV1, EV2, EV3, EV4, EV5, EV6, EV7, EV8, EV9, EV10, eqF, Op.operands, IntKind.bits, descF, sizeF, bytesF, zeroF, Nat.reduceLT, Nat.reduceLeDiff, Nat.reduceAdd, Nat.reduceSub, Nat.reduceMul, Nat.reduceBEq, Nat.reduceEqDiff, reduceCtorEq, reduceIte, Int.reduceToNat, Nat.reducePow, Int.reducePow, Int.reduceLE, Int.reduceLT, Int.reduceAdd, Int.reduceSub, Int.reduceMul, Int.reduceNeg, Int.reduceBEq, Int.reduceBNe, Int.reduceEq, e4, hlen]
          rw [show List.take n (encB (List.take n r)) = encB (r.take n) by rw [take_encB, List.take_take, Nat.min_self]]
          refine ⟨_, _, _, _, rfl, by rw [hen]; exact Nat.le_refl _, (refsum_t (r.take n) (by omega)).toO, ⟨trivial, trivial⟩, ?_⟩
          simp only [EV1, EV2, EV3, EV4, EV5, EV6, EV7, EV8, EV9, EV10, eqF, Op.operands, IntKind.bits, descF, sizeF, bytesF, zeroF, Nat.reduceLT, Nat.reduceLeDiff, Nat.reduceAdd, Nat.reduceSub, Nat.reduceMul, Nat.reduceBEq, Nat.reduceEqDiff, reduceCtorEq, reduceIte, Int.reduceToNat, Nat.reducePow, Int.reducePow, Int.reduceLE, Int.reduceLT, Int.reduceAdd, Int.reduceSub, Int.reduceMul, Int.reduceNeg, Int.reduceBEq, Int.reduceBNe, Int.reduceEq]
          (repeat (refine And.intro ?_ ?_; focus ((repeat' apply And.intro) <;> (first | exact trivial | rfl | omega | exact fun u hu => encB_mem hu | exact ones_nil | exact ones_cons ones_nil | assumption | (simp only [encB_len, encBB_len, List.length_cons, List.length_nil, List.length_append, List.length_take, List.length_drop] <;> omega) | exact encB_byteful _ | (simp; done)))))
          refine ⟨_, _, _, _, rfl, (by (repeat' apply And.intro) <;> first | trivial | rfl), (refnumber_t y0 y1 y2 y3 r').toO, ?_⟩
          simp only [EV1, EV2, EV3, EV4, EV5, EV6, EV7, EV8, EV9, EV10, eqF, Op.operands, IntKind.bits, descF, sizeF, bytesF, zeroF, Nat.reduceLT, Nat.reduceLeDiff, Nat.reduceAdd, Nat.reduceSub, Nat.reduceMul, Nat.reduceBEq, Nat.reduceEqDiff, reduceCtorEq, reduceIte, Int.reduceToNat, Nat.reducePow, Int.reducePow, Int.reduceLE, Int.reduceLT, Int.reduceAdd, Int.reduceSub, Int.reduceMul, Int.reduceNeg, Int.reduceBEq, Int.reduceBNe, Int.reduceEq]
          (repeat (refine And.intro ?_ ?_; focus ((repeat' apply And.intro) <;> (first | exact trivial | rfl | omega | exact fun u hu => encB_mem hu | exact ones_nil | exact ones_cons ones_nil | assumption | (simp only [encB_len, encBB_len, List.length_cons, List.length_nil, List.length_append, List.length_take, List.length_drop] <;> omega) | exact encB_byteful _ | (simp; done)))))
          have hcl2 : (crc (r.take n)).toNat < 4294967296 := (crc (r.take n)).isLt
          have hiff := num4_four _ y0 y1 y2 y3 hcl2
          have hy4 : List.take 4 (List.drop n r) = [y0, y1, y2, y3] := by rw [hy]; rfl
          rw [hy4]
          by_cases hz : four (crc (r.take n)).toNat = [y0, y1, y2, y3]
          · have hz' : (((crc (r.take n)).toNat : Int) != (num4 y0 y1 y2 y3 : Int)) = false := by rw [hiff.1 hz]; simp
            rw [if_neg (by simpa using hz.symm)]
            simp only [hz', EV1, EV2, EV3, EV4, EV5, EV6, EV7, EV8, EV9, EV10, eqF, Op.operands, IntKind.bits, descF, sizeF, bytesF, zeroF, Nat.reduceLT, Nat.reduceLeDiff, Nat.reduceAdd, Nat.reduceSub, Nat.reduceMul, Nat.reduceBEq, Nat.reduceEqDiff, reduceCtorEq, reduceIte, Int.reduceToNat, Nat.reducePow, Int.reducePow, Int.reduceLE, Int.reduceLT, Int.reduceAdd, Int.reduceSub, Int.reduceMul, Int.reduceNeg, Int.reduceBEq, Int.reduceBNe, Int.reduceEq]
            refine ⟨by kernel_rfl, ?_⟩
            refine go_cond (by rfl) (fun hc => absurd hc (by simp)) (fun hc => ?_)
            (repeat (first | refine go_seq ?_ | refine go_skip ?_ | refine go_blk ?_ | refine go_block ?_ | refine go_scope (fun _ _ _ h => h) ?_ | refine go_label ?_ | (refine go_region hR ?_; simp only [EV1, EV2, EV3, EV4, EV5, EV6, EV7, EV8, EV9, EV10, eqF, Op.operands, IntKind.bits, descF, sizeF, bytesF, zeroF, Nat.reduceLT, Nat.reduceLeDiff, Nat.reduceAdd, Nat.reduceSub, Nat.reduceMul, Nat.reduceBEq, Nat.reduceEqDiff, reduceCtorEq, reduceIte, Int.reduceToNat, Nat.reducePow, Int.reducePow, Int.reduceLE, Int.reduceLT, Int.reduceAdd, Int.reduceSub, Int.reduceMul, Int.reduceNeg, Int.reduceBEq, Int.reduceBNe, Int.reduceEq]) | (refine go_draw hR rfl ?_; simp only [EV1, EV2, EV3, EV4, EV5, EV6, EV7, EV8, EV9, EV10, eqF, Op.operands, IntKind.bits, descF, sizeF, bytesF, zeroF, Nat.reduceLT, Nat.reduceLeDiff, Nat.reduceAdd, Nat.reduceSub, Nat.reduceMul, Nat.reduceBEq, Nat.reduceEqDiff, reduceCtorEq, reduceIte, Int.reduceToNat, Nat.reducePow, Int.reducePow, Int.reduceLE, Int.reduceLT, Int.reduceAdd, Int.reduceSub, Int.reduceMul, Int.reduceNeg, Int.reduceBEq, Int.reduceBNe, Int.reduceEq]) | refine ⟨by kernel_rfl, ?_⟩))
            simp only [w1, w3]
            refine go_returnO [0] (by simp) ttOk rfl ?_ ?_ rfl
            · trivial
            · rw [htk]; rfl
          · have hz' : (((crc (r.take n)).toNat : Int) != (num4 y0 y1 y2 y3 : Int)) = true := by
              simp only [bne_iff_ne, ne_eq, Int.natCast_inj]
              exact fun h => hz (hiff.2 h)
            rw [if_pos fun h => hz h.symm]
            simp only [hz', EV1, EV2, EV3, EV4, EV5, EV6, EV7, EV8, EV9, EV10, eqF, Op.operands, IntKind.bits, descF, sizeF, bytesF, zeroF, Nat.reduceLT, Nat.reduceLeDiff, Nat.reduceAdd, Nat.reduceSub, Nat.reduceMul, Nat.reduceBEq, Nat.reduceEqDiff, reduceCtorEq, reduceIte, Int.reduceToNat, Nat.reducePow, Int.reducePow, Int.reduceLE, Int.reduceLT, Int.reduceAdd, Int.reduceSub, Int.reduceMul, Int.reduceNeg, Int.reduceBEq, Int.reduceBNe, Int.reduceEq]
            refine ⟨by kernel_rfl, ?_⟩
            refine go_cond (by rfl) (fun hc => ?_) (fun hc => absurd hc (by simp))
            (repeat (first | refine go_seq ?_ | refine go_skip ?_ | refine go_blk ?_ | refine go_block ?_ | refine go_scope (fun _ _ _ h => h) ?_ | refine go_label ?_ | (refine go_region hR ?_; simp only [EV1, EV2, EV3, EV4, EV5, EV6, EV7, EV8, EV9, EV10, eqF, Op.operands, IntKind.bits, descF, sizeF, bytesF, zeroF, Nat.reduceLT, Nat.reduceLeDiff, Nat.reduceAdd, Nat.reduceSub, Nat.reduceMul, Nat.reduceBEq, Nat.reduceEqDiff, reduceCtorEq, reduceIte, Int.reduceToNat, Nat.reducePow, Int.reducePow, Int.reduceLE, Int.reduceLT, Int.reduceAdd, Int.reduceSub, Int.reduceMul, Int.reduceNeg, Int.reduceBEq, Int.reduceBNe, Int.reduceEq]) | (refine go_draw hR rfl ?_; simp only [EV1, EV2, EV3, EV4, EV5, EV6, EV7, EV8, EV9, EV10, eqF, Op.operands, IntKind.bits, descF, sizeF, bytesF, zeroF, Nat.reduceLT, Nat.reduceLeDiff, Nat.reduceAdd, Nat.reduceSub, Nat.reduceMul, Nat.reduceBEq, Nat.reduceEqDiff, reduceCtorEq, reduceIte, Int.reduceToNat, Nat.reducePow, Int.reducePow, Int.reduceLE, Int.reduceLT, Int.reduceAdd, Int.reduceSub, Int.reduceMul, Int.reduceNeg, Int.reduceBEq, Int.reduceBNe, Int.reduceEq]) | refine ⟨by kernel_rfl, ?_⟩))
            refine go_nilOwn 2 1 5 rfl ?_
            refine go_returnO [1] (by simp) ttOk rfl ?_ rfl rfl
            trivial
    · have hq' : (((crc [x0, x1, x2, x3]).toNat : Int) != (num4 x4 x5 x6 x7 : Int)) = true := by
        simp only [bne_iff_ne, ne_eq, Int.natCast_inj]
        exact fun h => hq (hiff.2 h)
      rw [if_pos (.inl fun h => hq h.symm)]
      simp only [hq', EV1, EV2, EV3, EV4, EV5, EV6, EV7, EV8, EV9, EV10, eqF, Op.operands, IntKind.bits, descF, sizeF, bytesF, zeroF, Nat.reduceLT, Nat.reduceLeDiff, Nat.reduceAdd, Nat.reduceSub, Nat.reduceMul, Nat.reduceBEq, Nat.reduceEqDiff, reduceCtorEq, reduceIte, Int.reduceToNat, Nat.reducePow, Int.reducePow, Int.reduceLE, Int.reduceLT, Int.reduceAdd, Int.reduceSub, Int.reduceMul, Int.reduceNeg, Int.reduceBEq, Int.reduceBNe, Int.reduceEq]
      refine ⟨by kernel_rfl, ?_⟩
      refine go_cond (by rfl) (fun hc => ?_) (fun hc => absurd hc (by simp))
      (repeat (first | refine go_seq ?_ | refine go_skip ?_ | refine go_blk ?_ | refine go_block ?_ | refine go_scope (fun _ _ _ h => h) ?_ | refine go_label ?_ | (refine go_region hR ?_; simp only [EV1, EV2, EV3, EV4, EV5, EV6, EV7, EV8, EV9, EV10, eqF, Op.operands, IntKind.bits, descF, sizeF, bytesF, zeroF, Nat.reduceLT, Nat.reduceLeDiff, Nat.reduceAdd, Nat.reduceSub, Nat.reduceMul, Nat.reduceBEq, Nat.reduceEqDiff, reduceCtorEq, reduceIte, Int.reduceToNat, Nat.reducePow, Int.reducePow, Int.reduceLE, Int.reduceLT, Int.reduceAdd, Int.reduceSub, Int.reduceMul, Int.reduceNeg, Int.reduceBEq, Int.reduceBNe, Int.reduceEq]) | (refine go_draw hR rfl ?_; simp only [EV1, EV2, EV3, EV4, EV5, EV6, EV7, EV8, EV9, EV10, eqF, Op.operands, IntKind.bits, descF, sizeF, bytesF, zeroF, Nat.reduceLT, Nat.reduceLeDiff, Nat.reduceAdd, Nat.reduceSub, Nat.reduceMul, Nat.reduceBEq, Nat.reduceEqDiff, reduceCtorEq, reduceIte, Int.reduceToNat, Nat.reducePow, Int.reducePow, Int.reduceLE, Int.reduceLT, Int.reduceAdd, Int.reduceSub, Int.reduceMul, Int.reduceNeg, Int.reduceBEq, Int.reduceBNe, Int.reduceEq]) | refine ⟨by kernel_rfl, ?_⟩))
      refine go_nilOwn 2 1 5 rfl ?_
      refine go_returnO [0] (by simp) ttOk rfl ?_ rfl rfl
      trivial
end Go.Ab.Try
