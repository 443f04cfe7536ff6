/-
  FrameTakes, FrameBack: what they answer.
-/
import Derived.Test.YtnlpmpndhngimaaS4
import Derived.Test.YtnlpmpndhngimaaC8
set_option linter.unusedVariables false
set_option linter.unusedSimpArgs false
namespace Go.Ab.Try
open Go Go.Proofs Go.Ab

theorem take_allB (l : List (List UInt8)) : List.take l.length (encBB l) = encBB l := List.take_of_length_le (by rw [encBB_len]; exact Nat.le_refl _)
theorem reftake_c (b : List UInt8) (hl : b.length ≤ 70368744177664) : FnP Try.prog 34 [.c (.sl (encB b))] (.tup [.c (.sl (encB (takeOf b).1)), .c (.val (.int .i64 (takeOf b).2.1)), .c (.val (.int .i64 (takeOf b).2.2))]) := by
  have := (reftake_t b hl).frz rfl ⟨⟨rfl, by rw [encB_len]; omega⟩, trivial, trivial, trivial⟩
  rwa [List.drop_zero, take_all] at this
theorem scan_c (b : List UInt8) (hl : b.length ≤ 70368744177664) : FnP Try.prog 31 [.c (.sl (encB b))]
    (.tup [.c (.sl (encBB (scanOf b).1)), .c (.val (.int .i64 (scanOf b).2)), .c (.val (.int .i64 (if (scanOf b).2 = b.length then 0 else (takeOf (b.drop (scanOf b).2)).2.2 : Nat)))]) := by
  have := (scan_t b hl).frz rfl ⟨⟨rfl, by rw [encBB_len]; omega⟩, trivial, trivial, trivial⟩
  rwa [List.drop_zero, take_allB] at this
theorem refscan_c (b : List UInt8) (hl : b.length ≤ 70368744177664) : FnP Try.prog 35 [.c (.sl (encB b))]
    (.tup [.c (.sl (encBB (scanOf b).1)), .c (.val (.int .i64 (scanOf b).2)), .c (.val (.int .i64 (if (scanOf b).2 = b.length then 0 else (takeOf (b.drop (scanOf b).2)).2.2 : Nat)))]) := by
  have := (refscan_t b hl).frz rfl ⟨⟨rfl, by rw [encBB_len]; omega⟩, trivial, trivial, trivial⟩
  rwa [List.drop_zero, take_allB] at this
theorem told_c (b : List UInt8) (hl : b.length ≤ 70368744177664) : FnP Try.prog 36 [.c (.sl (encB b))] (.tup [.c (.sl (encBB (scanOf b).1)), .c (.val (.bool true))]) := by
  have := (told_t b hl).frz rfl ⟨⟨rfl, by rw [encBB_len]; omega⟩, trivial, trivial⟩
  rwa [List.drop_zero, take_allB] at this
theorem refsame_self (x : List (List UInt8)) (hx : x.length ≤ 70368744177664) : FnP Try.prog 32 [.c (.sl (encBB x)), .c (.sl (encBB x))] (.c (.val (.bool true))) := by
  have := refsame_t x x hx
  rwa [decide_eq_true rfl] at this
theorem scanF_len (b : List UInt8) : ∀ (f e : Nat) (ls : List (List UInt8)), e ≤ b.length → ls.length ≤ e → (scanF b f e ls).1.length ≤ b.length
  | 0, e, ls, h, h' => by simp only [scanF]; omega
  | f + 1, e, ls, h, h' => by
    simp only [scanF]
    split
    · rename_i hc
      have := takeOf_ok (l := b.drop e) (load := (takeOf (b.drop e)).1) (n := (takeOf (b.drop e)).2.1) (by rw [← hc.2])
      rw [List.length_drop] at this
      exact scanF_len b f _ _ (by omega) (by rw [List.length_append, List.length_singleton]; omega)
    · simp only; omega
theorem scanOf_len (b : List UInt8) : (scanOf b).1.length ≤ b.length := scanF_len b _ 0 [] (Nat.zero_le _) (Nat.zero_le _)

set_option maxRecDepth 10000 in
set_option maxHeartbeats 4000000 in
theorem takes_t (b : List UInt8) (hl : b.length ≤ 70368744177664) : FnP Try.prog 7 [.c (.sl (encB b))] (.c (.val (.bool true))) := by
  refine FnP.intro (tt := tt) Try.func7 rfl (by kernel_rfl) (by simp [Try.ntmps7]) fun w0 A hA => ?_
  have hR := reckB_ok eqOk ttOk
  have hsl := scanOf_len b
  simp only [argT, Try.ntmps7]
  (repeat (first | refine go_seq ?_ | refine go_skip ?_ | refine go_blk ?_ | refine go_block ?_ | refine go_scope (fun _ _ _ h => h) ?_ | refine go_label ?_ | (refine go_region hR ?_; simp only [EV1, EV2, EV3, EV4, EV5, EV6, EV7, EV8, EV9, EV10, eqF, Op.operands, IntKind.bits, descF, sizeF, bytesF, zeroF, Nat.reduceLT, Nat.reduceLeDiff, Nat.reduceAdd, Nat.reduceSub, Nat.reduceMul, Nat.reduceBEq, Nat.reduceEqDiff, reduceCtorEq, reduceIte, Int.reduceToNat, Nat.reducePow, Int.reducePow, Int.reduceLE, Int.reduceLT, Int.reduceAdd, Int.reduceSub, Int.reduceMul, Int.reduceNeg, Int.reduceBEq, Int.reduceBNe, Int.reduceEq]) | (refine go_draw hR rfl ?_; simp only [EV1, EV2, EV3, EV4, EV5, EV6, EV7, EV8, EV9, EV10, eqF, Op.operands, IntKind.bits, descF, sizeF, bytesF, zeroF, Nat.reduceLT, Nat.reduceLeDiff, Nat.reduceAdd, Nat.reduceSub, Nat.reduceMul, Nat.reduceBEq, Nat.reduceEqDiff, reduceCtorEq, reduceIte, Int.reduceToNat, Nat.reducePow, Int.reducePow, Int.reduceLE, Int.reduceLT, Int.reduceAdd, Int.reduceSub, Int.reduceMul, Int.reduceNeg, Int.reduceBEq, Int.reduceBNe, Int.reduceEq]) | refine ⟨by kernel_rfl, ?_⟩))
  refine CallK.fresh begun_t.toO rfl (by (repeat' apply And.intro) <;> first | trivial | rfl) (.inl rfl) (by exact Nat.le_of_ble_eq_true rfl) ?_
  simp only [EV1, EV2, EV3, EV4, EV5, EV6, EV7, EV8, EV9, EV10, eqF, Op.operands, IntKind.bits, descF, sizeF, bytesF, zeroF, Nat.reduceLT, Nat.reduceLeDiff, Nat.reduceAdd, Nat.reduceSub, Nat.reduceMul, Nat.reduceBEq, Nat.reduceEqDiff, reduceCtorEq, reduceIte, Int.reduceToNat, Nat.reducePow, Int.reducePow, Int.reduceLE, Int.reduceLT, Int.reduceAdd, Int.reduceSub, Int.reduceMul, Int.reduceNeg, Int.reduceBEq, Int.reduceBNe, Int.reduceEq]
  refine go_cond (by rfl) (fun hc => absurd hc (by simp)) (fun hc => ?_)
  (repeat (first | refine go_seq ?_ | refine go_skip ?_ | refine go_blk ?_ | refine go_block ?_ | refine go_scope (fun _ _ _ h => h) ?_ | refine go_label ?_ | (refine go_region hR ?_; simp only [EV1, EV2, EV3, EV4, EV5, EV6, EV7, EV8, EV9, EV10, eqF, Op.operands, IntKind.bits, descF, sizeF, bytesF, zeroF, Nat.reduceLT, Nat.reduceLeDiff, Nat.reduceAdd, Nat.reduceSub, Nat.reduceMul, Nat.reduceBEq, Nat.reduceEqDiff, reduceCtorEq, reduceIte, Int.reduceToNat, Nat.reducePow, Int.reducePow, Int.reduceLE, Int.reduceLT, Int.reduceAdd, Int.reduceSub, Int.reduceMul, Int.reduceNeg, Int.reduceBEq, Int.reduceBNe, Int.reduceEq]) | (refine go_draw hR rfl ?_; simp only [EV1, EV2, EV3, EV4, EV5, EV6, EV7, EV8, EV9, EV10, eqF, Op.operands, IntKind.bits, descF, sizeF, bytesF, zeroF, Nat.reduceLT, Nat.reduceLeDiff, Nat.reduceAdd, Nat.reduceSub, Nat.reduceMul, Nat.reduceBEq, Nat.reduceEqDiff, reduceCtorEq, reduceIte, Int.reduceToNat, Nat.reducePow, Int.reducePow, Int.reduceLE, Int.reduceLT, Int.reduceAdd, Int.reduceSub, Int.reduceMul, Int.reduceNeg, Int.reduceBEq, Int.reduceBNe, Int.reduceEq]) | refine ⟨by kernel_rfl, ?_⟩))
  refine CallK.fresh (take_c b hl).toO rfl (by (repeat' apply And.intro) <;> first | trivial | rfl) (.inl rfl) (by exact Nat.le_of_ble_eq_true rfl) ?_
  simp only [EV1, EV2, EV3, EV4, EV5, EV6, EV7, EV8, EV9, EV10, eqF, Op.operands, IntKind.bits, descF, sizeF, bytesF, zeroF, Nat.reduceLT, Nat.reduceLeDiff, Nat.reduceAdd, Nat.reduceSub, Nat.reduceMul, Nat.reduceBEq, Nat.reduceEqDiff, reduceCtorEq, reduceIte, Int.reduceToNat, Nat.reducePow, Int.reducePow, Int.reduceLE, Int.reduceLT, Int.reduceAdd, Int.reduceSub, Int.reduceMul, Int.reduceNeg, Int.reduceBEq, Int.reduceBNe, Int.reduceEq]
  (repeat (first | refine go_seq ?_ | refine go_skip ?_ | refine go_blk ?_ | refine go_block ?_ | refine go_scope (fun _ _ _ h => h) ?_ | refine go_label ?_ | (refine go_region hR ?_; simp only [EV1, EV2, EV3, EV4, EV5, EV6, EV7, EV8, EV9, EV10, eqF, Op.operands, IntKind.bits, descF, sizeF, bytesF, zeroF, Nat.reduceLT, Nat.reduceLeDiff, Nat.reduceAdd, Nat.reduceSub, Nat.reduceMul, Nat.reduceBEq, Nat.reduceEqDiff, reduceCtorEq, reduceIte, Int.reduceToNat, Nat.reducePow, Int.reducePow, Int.reduceLE, Int.reduceLT, Int.reduceAdd, Int.reduceSub, Int.reduceMul, Int.reduceNeg, Int.reduceBEq, Int.reduceBNe, Int.reduceEq]) | (refine go_draw hR rfl ?_; simp only [EV1, EV2, EV3, EV4, EV5, EV6, EV7, EV8, EV9, EV10, eqF, Op.operands, IntKind.bits, descF, sizeF, bytesF, zeroF, Nat.reduceLT, Nat.reduceLeDiff, Nat.reduceAdd, Nat.reduceSub, Nat.reduceMul, Nat.reduceBEq, Nat.reduceEqDiff, reduceCtorEq, reduceIte, Int.reduceToNat, Nat.reducePow, Int.reducePow, Int.reduceLE, Int.reduceLT, Int.reduceAdd, Int.reduceSub, Int.reduceMul, Int.reduceNeg, Int.reduceBEq, Int.reduceBNe, Int.reduceEq]) | refine ⟨by kernel_rfl, ?_⟩))
  refine CallK.fresh (reftake_c b hl).toO rfl (by (repeat' apply And.intro) <;> first | trivial | rfl) (.inl rfl) (by exact Nat.le_of_ble_eq_true rfl) ?_
  simp only [EV1, EV2, EV3, EV4, EV5, EV6, EV7, EV8, EV9, EV10, eqF, Op.operands, IntKind.bits, descF, sizeF, bytesF, zeroF, Nat.reduceLT, Nat.reduceLeDiff, Nat.reduceAdd, Nat.reduceSub, Nat.reduceMul, Nat.reduceBEq, Nat.reduceEqDiff, reduceCtorEq, reduceIte, Int.reduceToNat, Nat.reducePow, Int.reducePow, Int.reduceLE, Int.reduceLT, Int.reduceAdd, Int.reduceSub, Int.reduceMul, Int.reduceNeg, Int.reduceBEq, Int.reduceBNe, Int.reduceEq]
  (repeat (first | refine go_seq ?_ | refine go_skip ?_ | refine go_blk ?_ | refine go_block ?_ | refine go_scope (fun _ _ _ h => h) ?_ | refine go_label ?_ | (refine go_region hR ?_; simp only [EV1, EV2, EV3, EV4, EV5, EV6, EV7, EV8, EV9, EV10, eqF, Op.operands, IntKind.bits, descF, sizeF, bytesF, zeroF, Nat.reduceLT, Nat.reduceLeDiff, Nat.reduceAdd, Nat.reduceSub, Nat.reduceMul, Nat.reduceBEq, Nat.reduceEqDiff, reduceCtorEq, reduceIte, Int.reduceToNat, Nat.reducePow, Int.reducePow, Int.reduceLE, Int.reduceLT, Int.reduceAdd, Int.reduceSub, Int.reduceMul, Int.reduceNeg, Int.reduceBEq, Int.reduceBNe, Int.reduceEq]) | (refine go_draw hR rfl ?_; simp only [EV1, EV2, EV3, EV4, EV5, EV6, EV7, EV8, EV9, EV10, eqF, Op.operands, IntKind.bits, descF, sizeF, bytesF, zeroF, Nat.reduceLT, Nat.reduceLeDiff, Nat.reduceAdd, Nat.reduceSub, Nat.reduceMul, Nat.reduceBEq, Nat.reduceEqDiff, reduceCtorEq, reduceIte, Int.reduceToNat, Nat.reducePow, Int.reducePow, Int.reduceLE, Int.reduceLT, Int.reduceAdd, Int.reduceSub, Int.reduceMul, Int.reduceNeg, Int.reduceBEq, Int.reduceBNe, Int.reduceEq]) | refine ⟨by kernel_rfl, ?_⟩))
  refine CallK.fresh (scan_c b hl).toO rfl (by (repeat' apply And.intro) <;> first | trivial | rfl) (.inl rfl) (by exact Nat.le_of_ble_eq_true rfl) ?_
  simp only [EV1, EV2, EV3, EV4, EV5, EV6, EV7, EV8, EV9, EV10, eqF, Op.operands, IntKind.bits, descF, sizeF, bytesF, zeroF, Nat.reduceLT, Nat.reduceLeDiff, Nat.reduceAdd, Nat.reduceSub, Nat.reduceMul, Nat.reduceBEq, Nat.reduceEqDiff, reduceCtorEq, reduceIte, Int.reduceToNat, Nat.reducePow, Int.reducePow, Int.reduceLE, Int.reduceLT, Int.reduceAdd, Int.reduceSub, Int.reduceMul, Int.reduceNeg, Int.reduceBEq, Int.reduceBNe, Int.reduceEq]
  (repeat (first | refine go_seq ?_ | refine go_skip ?_ | refine go_blk ?_ | refine go_block ?_ | refine go_scope (fun _ _ _ h => h) ?_ | refine go_label ?_ | (refine go_region hR ?_; simp only [EV1, EV2, EV3, EV4, EV5, EV6, EV7, EV8, EV9, EV10, eqF, Op.operands, IntKind.bits, descF, sizeF, bytesF, zeroF, Nat.reduceLT, Nat.reduceLeDiff, Nat.reduceAdd, Nat.reduceSub, Nat.reduceMul, Nat.reduceBEq, Nat.reduceEqDiff, reduceCtorEq, reduceIte, Int.reduceToNat, Nat.reducePow, Int.reducePow, Int.reduceLE, Int.reduceLT, Int.reduceAdd, Int.reduceSub, Int.reduceMul, Int.reduceNeg, Int.reduceBEq, Int.reduceBNe, Int.reduceEq]) | (refine go_draw hR rfl ?_; simp only [EV1, EV2, EV3, EV4, EV5, EV6, EV7, EV8, EV9, EV10, eqF, Op.operands, IntKind.bits, descF, sizeF, bytesF, zeroF, Nat.reduceLT, Nat.reduceLeDiff, Nat.reduceAdd, Nat.reduceSub, Nat.reduceMul, Nat.reduceBEq, Nat.reduceEqDiff, reduceCtorEq, reduceIte, Int.reduceToNat, Nat.reducePow, Int.reducePow, Int.reduceLE, Int.reduceLT, Int.reduceAdd, Int.reduceSub, Int.reduceMul, Int.reduceNeg, Int.reduceBEq, Int.reduceBNe, Int.reduceEq]) | refine ⟨by kernel_rfl, ?_⟩))
  refine CallK.fresh (refscan_c b hl).toO rfl (by (repeat' apply And.intro) <;> first | trivial | rfl) (.inl rfl) (by exact Nat.le_of_ble_eq_true rfl) ?_
  simp only [EV1, EV2, EV3, EV4, EV5, EV6, EV7, EV8, EV9, EV10, eqF, Op.operands, IntKind.bits, descF, sizeF, bytesF, zeroF, Nat.reduceLT, Nat.reduceLeDiff, Nat.reduceAdd, Nat.reduceSub, Nat.reduceMul, Nat.reduceBEq, Nat.reduceEqDiff, reduceCtorEq, reduceIte, Int.reduceToNat, Nat.reducePow, Int.reducePow, Int.reduceLE, Int.reduceLT, Int.reduceAdd, Int.reduceSub, Int.reduceMul, Int.reduceNeg, Int.reduceBEq, Int.reduceBNe, Int.reduceEq]
  (repeat (first | refine go_seq ?_ | refine go_skip ?_ | refine go_blk ?_ | refine go_block ?_ | refine go_scope (fun _ _ _ h => h) ?_ | refine go_label ?_ | (refine go_region hR ?_; simp only [EV1, EV2, EV3, EV4, EV5, EV6, EV7, EV8, EV9, EV10, eqF, Op.operands, IntKind.bits, descF, sizeF, bytesF, zeroF, Nat.reduceLT, Nat.reduceLeDiff, Nat.reduceAdd, Nat.reduceSub, Nat.reduceMul, Nat.reduceBEq, Nat.reduceEqDiff, reduceCtorEq, reduceIte, Int.reduceToNat, Nat.reducePow, Int.reducePow, Int.reduceLE, Int.reduceLT, Int.reduceAdd, Int.reduceSub, Int.reduceMul, Int.reduceNeg, Int.reduceBEq, Int.reduceBNe, Int.reduceEq]) | (refine go_draw hR rfl ?_; simp only [EV1, EV2, EV3, EV4, EV5, EV6, EV7, EV8, EV9, EV10, eqF, Op.operands, IntKind.bits, descF, sizeF, bytesF, zeroF, Nat.reduceLT, Nat.reduceLeDiff, Nat.reduceAdd, Nat.reduceSub, Nat.reduceMul, Nat.reduceBEq, Nat.reduceEqDiff, reduceCtorEq, reduceIte, Int.reduceToNat, Nat.reducePow, Int.reducePow, Int.reduceLE, Int.reduceLT, Int.reduceAdd, Int.reduceSub, Int.reduceMul, Int.reduceNeg, Int.reduceBEq, Int.reduceBNe, Int.reduceEq]) | refine ⟨by kernel_rfl, ?_⟩))
  refine CallK.fresh (told_c b hl).toO rfl (by (repeat' apply And.intro) <;> first | trivial | rfl) (.inl rfl) (by exact Nat.le_of_ble_eq_true rfl) ?_
  simp only [EV1, EV2, EV3, EV4, EV5, EV6, EV7, EV8, EV9, EV10, eqF, Op.operands, IntKind.bits, descF, sizeF, bytesF, zeroF, Nat.reduceLT, Nat.reduceLeDiff, Nat.reduceAdd, Nat.reduceSub, Nat.reduceMul, Nat.reduceBEq, Nat.reduceEqDiff, reduceCtorEq, reduceIte, Int.reduceToNat, Nat.reducePow, Int.reducePow, Int.reduceLE, Int.reduceLT, Int.reduceAdd, Int.reduceSub, Int.reduceMul, Int.reduceNeg, Int.reduceBEq, Int.reduceBNe, Int.reduceEq]
  (repeat (first | refine go_seq ?_ | refine go_skip ?_ | refine go_blk ?_ | refine go_block ?_ | refine go_scope (fun _ _ _ h => h) ?_ | refine go_label ?_ | (refine go_region hR ?_; simp only [EV1, EV2, EV3, EV4, EV5, EV6, EV7, EV8, EV9, EV10, eqF, Op.operands, IntKind.bits, descF, sizeF, bytesF, zeroF, Nat.reduceLT, Nat.reduceLeDiff, Nat.reduceAdd, Nat.reduceSub, Nat.reduceMul, Nat.reduceBEq, Nat.reduceEqDiff, reduceCtorEq, reduceIte, Int.reduceToNat, Nat.reducePow, Int.reducePow, Int.reduceLE, Int.reduceLT, Int.reduceAdd, Int.reduceSub, Int.reduceMul, Int.reduceNeg, Int.reduceBEq, Int.reduceBNe, Int.reduceEq]) | (refine go_draw hR rfl ?_; simp only [EV1, EV2, EV3, EV4, EV5, EV6, EV7, EV8, EV9, EV10, eqF, Op.operands, IntKind.bits, descF, sizeF, bytesF, zeroF, Nat.reduceLT, Nat.reduceLeDiff, Nat.reduceAdd, Nat.reduceSub, Nat.reduceMul, Nat.reduceBEq, Nat.reduceEqDiff, reduceCtorEq, reduceIte, Int.reduceToNat, Nat.reducePow, Int.reducePow, Int.reduceLE, Int.reduceLT, Int.reduceAdd, Int.reduceSub, Int.reduceMul, Int.reduceNeg, Int.reduceBEq, Int.reduceBNe, Int.reduceEq]) | refine ⟨by kernel_rfl, ?_⟩))
  refine CallK.fresh (eqSame _).toO rfl (by (repeat' apply And.intro) <;> first | trivial | rfl) (.inl rfl) (by exact Nat.le_of_ble_eq_true rfl) ?_
  simp only [EV1, EV2, EV3, EV4, EV5, EV6, EV7, EV8, EV9, EV10, eqF, Op.operands, IntKind.bits, descF, sizeF, bytesF, zeroF, Nat.reduceLT, Nat.reduceLeDiff, Nat.reduceAdd, Nat.reduceSub, Nat.reduceMul, Nat.reduceBEq, Nat.reduceEqDiff, reduceCtorEq, reduceIte, Int.reduceToNat, Nat.reducePow, Int.reducePow, Int.reduceLE, Int.reduceLT, Int.reduceAdd, Int.reduceSub, Int.reduceMul, Int.reduceNeg, Int.reduceBEq, Int.reduceBNe, Int.reduceEq]
  refine CallK.fresh (refsame_self _ (by omega)).toO rfl (by (repeat' apply And.intro) <;> first | trivial | rfl) (.inl rfl) (by exact Nat.le_of_ble_eq_true rfl) ?_
  simp only [EV1, EV2, EV3, EV4, EV5, EV6, EV7, EV8, EV9, EV10, eqF, Op.operands, IntKind.bits, descF, sizeF, bytesF, zeroF, Nat.reduceLT, Nat.reduceLeDiff, Nat.reduceAdd, Nat.reduceSub, Nat.reduceMul, Nat.reduceBEq, Nat.reduceEqDiff, reduceCtorEq, reduceIte, Int.reduceToNat, Nat.reducePow, Int.reducePow, Int.reduceLE, Int.reduceLT, Int.reduceAdd, Int.reduceSub, Int.reduceMul, Int.reduceNeg, Int.reduceBEq, Int.reduceBNe, Int.reduceEq]
  refine CallK.fresh (refsame_self _ (by omega)).toO rfl (by (repeat' apply And.intro) <;> first | trivial | rfl) (.inl rfl) (by exact Nat.le_of_ble_eq_true rfl) ?_
  simp only [EV1, EV2, EV3, EV4, EV5, EV6, EV7, EV8, EV9, EV10, eqF, Op.operands, IntKind.bits, descF, sizeF, bytesF, zeroF, Nat.reduceLT, Nat.reduceLeDiff, Nat.reduceAdd, Nat.reduceSub, Nat.reduceMul, Nat.reduceBEq, Nat.reduceEqDiff, reduceCtorEq, reduceIte, Int.reduceToNat, Nat.reducePow, Int.reducePow, Int.reduceLE, Int.reduceLT, Int.reduceAdd, Int.reduceSub, Int.reduceMul, Int.reduceNeg, Int.reduceBEq, Int.reduceBNe, Int.reduceEq]
  (refine go_return ttOk (fun _ h => h) rfl ?_ ?_)
  · trivial
  · rfl

/-! ### What was put is taken -/
theorem takeOf_frame (l r : List UInt8) (hl : l.length ≤ 262144) : takeOf (frameOf l ++ r) = (l, l.length + 12, 0) := by
  have hlen : (frameOf l ++ r).length = l.length + 12 + r.length := by rw [List.length_append, frameOf_len]
  have e0 : (frameOf l ++ r).take 4 = four l.length := by
    simp only [frameOf, List.append_assoc]
    exact List.take_left' (four_len _)
  have e1 : numOf4 (frameOf l ++ r) = l.length := by
    have : ∃ t, frameOf l ++ r = four l.length ++ t := ⟨_, by simp only [frameOf, List.append_assoc]; rfl⟩
    obtain ⟨t, ht⟩ := this
    rw [ht]
    show num4 _ _ _ _ = _
    exact ((num4_four l.length _ _ _ _ (by omega)).1 rfl).symm
  have e2 : ((frameOf l ++ r).drop 4).take 4 = four (crc (four l.length)).toNat := by
    simp only [frameOf, List.append_assoc]
    rw [List.drop_left' (four_len _), List.take_left' (four_len _)]
  have e3 : ((frameOf l ++ r).drop 8).take l.length = l := by
    have : (frameOf l ++ r).drop 8 = l ++ (four (crc l).toNat ++ r) := by
      have : frameOf l ++ r = (four l.length ++ four (crc (four l.length)).toNat) ++ (l ++ (four (crc l).toNat ++ r)) := by simp only [frameOf, List.append_assoc]
      rw [this, List.drop_left' (by simp [four_len])]
    rw [this, List.take_left' rfl]
  have e4 : ((frameOf l ++ r).drop (l.length + 8)).take 4 = four (crc l).toNat := by
    have : frameOf l ++ r = (four l.length ++ four (crc (four l.length)).toNat ++ l) ++ (four (crc l).toNat ++ r) := by simp only [frameOf, List.append_assoc]
    rw [this, List.drop_left' (by simp [four_len]; omega), List.take_left' (four_len _)]
  unfold takeOf
  rw [e0, e1, e2, e3, e4, hlen, if_neg (by omega), if_neg (by simp; omega), if_neg (by omega), if_neg (by simp)]

theorem scanF_frames (b : List UInt8) : ∀ (rest : List (List UInt8)) (f e : Nat) (ls : List (List UInt8)), b.drop e = framesOf rest → e ≤ b.length → rest.length < f → (∀ l ∈ rest, l.length ≤ 262144) → scanF b f e ls = (ls ++ rest, b.length)
  | [], 0, e, ls, _, _, h, _ => absurd h (by simp)
  | [], f + 1, e, ls, hd, he, _, _ => by
    have : e = b.length := by have := congrArg List.length hd; simp [framesOf] at this; omega
    simp only [scanF]
    rw [if_neg (by omega), this, List.append_nil]
  | l :: rest, 0, e, ls, _, _, h, _ => absurd h (by simp)
  | l :: rest, f + 1, e, ls, hd, he, h, hall => by
    have hfr : framesOf (l :: rest) = frameOf l ++ framesOf rest := by simp [framesOf]
    rw [hfr] at hd
    have hl := hall l List.mem_cons_self
    have hlen := congrArg List.length hd
    rw [List.length_drop, List.length_append, frameOf_len] at hlen
    simp only [scanF]
    rw [hd, takeOf_frame l _ hl, if_pos ⟨by omega, rfl⟩]
    have := scanF_frames b rest f (e + (l.length + 12)) (ls ++ [l]) (by rw [← List.drop_drop, hd, ← frameOf_len, List.drop_left' rfl]) (by omega) (by simpa using h) fun x hx => hall x (List.mem_cons_of_mem _ hx)
    rw [this, List.append_assoc]
    rfl
theorem framesOf_len (ls : List (List UInt8)) : 12 * ls.length ≤ (framesOf ls).length := by
  induction ls with
  | nil => simp
  | cons l r ih => simp only [framesOf, List.flatMap_cons, List.length_append, frameOf_len, List.length_cons] at ih ⊢; omega
theorem scanOf_frames (ls : List (List UInt8)) (h : ∀ l ∈ ls, l.length ≤ 262144) : scanOf (framesOf ls) = (ls, (framesOf ls).length) := by
  unfold scanOf
  rw [scanF_frames (framesOf ls) ls _ 0 [] rfl (Nat.zero_le _) (by have := framesOf_len ls; omega) h]
  rfl
end Go.Ab.Try
