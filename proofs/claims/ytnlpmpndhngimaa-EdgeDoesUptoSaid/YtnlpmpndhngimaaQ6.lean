/-
  The reference's queue: made, taken, looked at.
-/
import Derived.Test.YtnlpmpndhngimaaQ3
set_option linter.unusedVariables false
set_option linter.unusedSimpArgs false
namespace Go.Ab.Try
open Go Go.Proofs Go.Ab

/-- The reference's queue in memory. -/
def rB (room : Int) (l : List Ev) (last : Int) : List Blk := [.box [.c (.sl (encEs l)), .c (.val (.int .i64 room)), .c (.val (.int .i64 last))] 94]

theorem rnew_bad (room : Int) (h : ¬ (1 ≤ room ∧ room ≤ 64)) : FnP Try.prog 37 [.c (.val (.int .i64 room))] (.tup [.c (.val (.pointer none)), .c (.val (.int .i64 1))]) := by
  refine FnP.intro (tt := tt) Try.func37 rfl (by kernel_rfl) (by simp [Try.ntmps37]) fun w0 A hA => ?_
  have hR := reckB_ok eqOk ttOk
  simp only [argT, Try.ntmps37]
  (repeat (first | refine go_seq ?_ | refine go_skip ?_ | refine go_blk ?_ | refine go_block ?_ | refine go_scope (fun _ _ _ h => h) ?_ | refine go_label ?_))
  refine go_region hR ?_
  simp only [EV1, EV2, EV3, EV4, EV5, EV6, EV7, EV8, EV9, EV10, EV11, eqF, Op.operands, IntKind.bits, descF, sizeF, bytesF, zeroF, Nat.reduceLT, Nat.reduceLeDiff, Nat.reduceAdd, Nat.reduceSub, Nat.reduceMul, Nat.reduceBEq, Nat.reduceEqDiff, reduceCtorEq, ↓reduceIte, Int.reduceToNat, Nat.reducePow, Int.reducePow, Int.reduceLE, Int.reduceLT, Int.reduceAdd, Int.reduceSub, Int.reduceMul, Int.reduceNeg, Int.reduceBEq, Int.reduceBNe, Int.reduceEq]
  (repeat (first | refine go_seq ?_ | refine go_skip ?_ | refine go_blk ?_ | refine go_block ?_ | refine go_scope (fun _ _ _ h => h) ?_ | refine go_label ?_))
  refine go_region hR ?_
  by_cases h1 : room < 1
  · have f1 : decide (room < 1) = true := decide_eq_true h1
    simp only [EV1, EV2, EV3, EV4, EV5, EV6, EV7, EV8, EV9, EV10, EV11, eqF, Op.operands, IntKind.bits, descF, sizeF, bytesF, zeroF, Nat.reduceLT, Nat.reduceLeDiff, Nat.reduceAdd, Nat.reduceSub, Nat.reduceMul, Nat.reduceBEq, Nat.reduceEqDiff, reduceCtorEq, ↓reduceIte, Int.reduceToNat, Nat.reducePow, Int.reducePow, Int.reduceLE, Int.reduceLT, Int.reduceAdd, Int.reduceSub, Int.reduceMul, Int.reduceNeg, Int.reduceBEq, Int.reduceBNe, Int.reduceEq, f1]
    refine go_cond (by rfl) (fun hc => ?_) (fun hc => absurd hc (by simp))
    (repeat (first | refine go_seq ?_ | refine go_skip ?_ | refine go_blk ?_ | refine go_block ?_ | refine go_scope (fun _ _ _ h => h) ?_ | refine go_label ?_ | (refine go_region hR ?_; simp only [EV1, EV2, EV3, EV4, EV5, EV6, EV7, EV8, EV9, EV10, EV11, eqF, Op.operands, IntKind.bits, descF, sizeF, bytesF, zeroF, Nat.reduceLT, Nat.reduceLeDiff, Nat.reduceAdd, Nat.reduceSub, Nat.reduceMul, Nat.reduceBEq, Nat.reduceEqDiff, reduceCtorEq, ↓reduceIte, Int.reduceToNat, Nat.reducePow, Int.reducePow, Int.reduceLE, Int.reduceLT, Int.reduceAdd, Int.reduceSub, Int.reduceMul, Int.reduceNeg, Int.reduceBEq, Int.reduceBNe, Int.reduceEq]) | (refine go_draw hR rfl ?_; simp only [EV1, EV2, EV3, EV4, EV5, EV6, EV7, EV8, EV9, EV10, EV11, eqF, Op.operands, IntKind.bits, descF, sizeF, bytesF, zeroF, Nat.reduceLT, Nat.reduceLeDiff, Nat.reduceAdd, Nat.reduceSub, Nat.reduceMul, Nat.reduceBEq, Nat.reduceEqDiff, reduceCtorEq, ↓reduceIte, Int.reduceToNat, Nat.reducePow, Int.reducePow, Int.reduceLE, Int.reduceLT, Int.reduceAdd, Int.reduceSub, Int.reduceMul, Int.reduceNeg, Int.reduceBEq, Int.reduceBNe, Int.reduceEq]) | refine ⟨by kernel_rfl, ?_⟩ | refine ⟨by decide, ?_⟩))
    (refine go_return ttOk (fun _ h => h) rfl ?_ ?_)
    · trivial
    · rfl
  · have f1 : decide (room < 1) = false := decide_eq_false h1
    have f2 : decide (room > 64) = true := decide_eq_true (by omega)
    simp only [EV1, EV2, EV3, EV4, EV5, EV6, EV7, EV8, EV9, EV10, EV11, eqF, Op.operands, IntKind.bits, descF, sizeF, bytesF, zeroF, Nat.reduceLT, Nat.reduceLeDiff, Nat.reduceAdd, Nat.reduceSub, Nat.reduceMul, Nat.reduceBEq, Nat.reduceEqDiff, reduceCtorEq, ↓reduceIte, Int.reduceToNat, Nat.reducePow, Int.reducePow, Int.reduceLE, Int.reduceLT, Int.reduceAdd, Int.reduceSub, Int.reduceMul, Int.reduceNeg, Int.reduceBEq, Int.reduceBNe, Int.reduceEq, f1, f2]
    refine go_cond (by rfl) (fun hc => ?_) (fun hc => absurd hc (by simp))
    (repeat (first | refine go_seq ?_ | refine go_skip ?_ | refine go_blk ?_ | refine go_block ?_ | refine go_scope (fun _ _ _ h => h) ?_ | refine go_label ?_ | (refine go_region hR ?_; simp only [EV1, EV2, EV3, EV4, EV5, EV6, EV7, EV8, EV9, EV10, EV11, eqF, Op.operands, IntKind.bits, descF, sizeF, bytesF, zeroF, Nat.reduceLT, Nat.reduceLeDiff, Nat.reduceAdd, Nat.reduceSub, Nat.reduceMul, Nat.reduceBEq, Nat.reduceEqDiff, reduceCtorEq, ↓reduceIte, Int.reduceToNat, Nat.reducePow, Int.reducePow, Int.reduceLE, Int.reduceLT, Int.reduceAdd, Int.reduceSub, Int.reduceMul, Int.reduceNeg, Int.reduceBEq, Int.reduceBNe, Int.reduceEq]) | (refine go_draw hR rfl ?_; simp only [EV1, EV2, EV3, EV4, EV5, EV6, EV7, EV8, EV9, EV10, EV11, eqF, Op.operands, IntKind.bits, descF, sizeF, bytesF, zeroF, Nat.reduceLT, Nat.reduceLeDiff, Nat.reduceAdd, Nat.reduceSub, Nat.reduceMul, Nat.reduceBEq, Nat.reduceEqDiff, reduceCtorEq, ↓reduceIte, Int.reduceToNat, Nat.reducePow, Int.reducePow, Int.reduceLE, Int.reduceLT, Int.reduceAdd, Int.reduceSub, Int.reduceMul, Int.reduceNeg, Int.reduceBEq, Int.reduceBNe, Int.reduceEq]) | refine ⟨by kernel_rfl, ?_⟩ | refine ⟨by decide, ?_⟩))
    (refine go_return ttOk (fun _ h => h) rfl ?_ ?_)
    · trivial
    · rfl
theorem rnew_t (room : Int) (h : 1 ≤ room ∧ room ≤ 64) : FnO Try.prog 37 [.c (.val (.int .i64 room))] (rB room [] 0) (.tup [.ptr 0 0, .c (.val (.int .i64 0))]) := by
  refine FnO.intro (tt := tt) Try.func37 rfl (by kernel_rfl) (by simp [Try.ntmps37]) fun w0 A hA => ?_
  have hR := reckB_ok eqOk ttOk
  simp only [argT, Try.ntmps37]
  (repeat (first | refine go_seq ?_ | refine go_skip ?_ | refine go_blk ?_ | refine go_block ?_ | refine go_scope (fun _ _ _ h => h) ?_ | refine go_label ?_))
  refine go_region hR ?_
  simp only [EV1, EV2, EV3, EV4, EV5, EV6, EV7, EV8, EV9, EV10, EV11, eqF, Op.operands, IntKind.bits, descF, sizeF, bytesF, zeroF, Nat.reduceLT, Nat.reduceLeDiff, Nat.reduceAdd, Nat.reduceSub, Nat.reduceMul, Nat.reduceBEq, Nat.reduceEqDiff, reduceCtorEq, ↓reduceIte, Int.reduceToNat, Nat.reducePow, Int.reducePow, Int.reduceLE, Int.reduceLT, Int.reduceAdd, Int.reduceSub, Int.reduceMul, Int.reduceNeg, Int.reduceBEq, Int.reduceBNe, Int.reduceEq]
  (repeat (first | refine go_seq ?_ | refine go_skip ?_ | refine go_blk ?_ | refine go_block ?_ | refine go_scope (fun _ _ _ h => h) ?_ | refine go_label ?_))
  refine go_region hR ?_
  have f1 : decide (room < 1) = false := decide_eq_false (by omega)
  have f2 : decide (room > 64) = false := decide_eq_false (by omega)
  simp only [EV1, EV2, EV3, EV4, EV5, EV6, EV7, EV8, EV9, EV10, EV11, eqF, Op.operands, IntKind.bits, descF, sizeF, bytesF, zeroF, Nat.reduceLT, Nat.reduceLeDiff, Nat.reduceAdd, Nat.reduceSub, Nat.reduceMul, Nat.reduceBEq, Nat.reduceEqDiff, reduceCtorEq, ↓reduceIte, Int.reduceToNat, Nat.reducePow, Int.reducePow, Int.reduceLE, Int.reduceLT, Int.reduceAdd, Int.reduceSub, Int.reduceMul, Int.reduceNeg, Int.reduceBEq, Int.reduceBNe, Int.reduceEq, f1, f2]
  refine go_cond (by rfl) (fun hc => absurd hc (by simp)) (fun hc => ?_)
  (repeat (first | refine go_seq ?_ | refine go_skip ?_ | refine go_blk ?_ | refine go_block ?_ | refine go_scope (fun _ _ _ h => h) ?_ | refine go_label ?_ | (refine go_region hR ?_; simp only [EV1, EV2, EV3, EV4, EV5, EV6, EV7, EV8, EV9, EV10, EV11, eqF, Op.operands, IntKind.bits, descF, sizeF, bytesF, zeroF, Nat.reduceLT, Nat.reduceLeDiff, Nat.reduceAdd, Nat.reduceSub, Nat.reduceMul, Nat.reduceBEq, Nat.reduceEqDiff, reduceCtorEq, ↓reduceIte, Int.reduceToNat, Nat.reducePow, Int.reducePow, Int.reduceLE, Int.reduceLT, Int.reduceAdd, Int.reduceSub, Int.reduceMul, Int.reduceNeg, Int.reduceBEq, Int.reduceBNe, Int.reduceEq]) | (refine go_draw hR rfl ?_; simp only [EV1, EV2, EV3, EV4, EV5, EV6, EV7, EV8, EV9, EV10, EV11, eqF, Op.operands, IntKind.bits, descF, sizeF, bytesF, zeroF, Nat.reduceLT, Nat.reduceLeDiff, Nat.reduceAdd, Nat.reduceSub, Nat.reduceMul, Nat.reduceBEq, Nat.reduceEqDiff, reduceCtorEq, ↓reduceIte, Int.reduceToNat, Nat.reducePow, Int.reducePow, Int.reduceLE, Int.reduceLT, Int.reduceAdd, Int.reduceSub, Int.reduceMul, Int.reduceNeg, Int.reduceBEq, Int.reduceBNe, Int.reduceEq]) | refine ⟨by kernel_rfl, ?_⟩ | refine ⟨by decide, ?_⟩))
  refine go_returnO [0] (by decide) ttOk rfl ?_ rfl rfl
  exact (by (repeat' apply And.intro) <;> first | trivial | rfl | exact Nat.le_of_ble_eq_true rfl)

/-- What is told of the first event. -/
abbrev peekR' (l : List Ev) : AV := .tup [agE (peekE l), .c (.val (.bool (!l.isEmpty)))]
theorem rpeek_t (room : Int) (l : List Ev) (last : Int) (hl : l.length ≤ 1000000) : FnM Try.prog 56 [.ptr 0 0] (rB room l last) [0] (rB room l last) (peekR' l) := by
  refine FnM.intro (tt := tt) Try.func56 rfl (by kernel_rfl) (by show 1 ≤ Try.f56.ntmps; rw [Try.ntmps56]; decide) (Nat.le_refl _) (by intro b hb; simp [rB] at hb ⊢; omega) fun w0 M0 A hA hM p => ?_
  have hR := reckB_ok eqOk ttOk
  simp only [argT, Try.ntmps56, rB, EV1, EV2, EV3, EV4, EV5, EV6, EV7, EV8, EV9, EV10, EV11, eqF, Op.operands, IntKind.bits, descF, sizeF, bytesF, zeroF, Nat.reduceLT, Nat.reduceLeDiff, Nat.reduceAdd, Nat.reduceSub, Nat.reduceMul, Nat.reduceBEq, Nat.reduceEqDiff, reduceCtorEq, ↓reduceIte, Int.reduceToNat, Nat.reducePow, Int.reducePow, Int.reduceLE, Int.reduceLT, Int.reduceAdd, Int.reduceSub, Int.reduceMul, Int.reduceNeg, Int.reduceBEq, Int.reduceBNe, Int.reduceEq]
  (repeat (first | refine go_seq ?_ | refine go_skip ?_ | refine go_blk ?_ | refine go_block ?_ | refine go_scope (fun _ _ _ h => h) ?_ | refine go_label ?_ | (refine go_region hR ?_; simp only [EV1, EV2, EV3, EV4, EV5, EV6, EV7, EV8, EV9, EV10, EV11, eqF, Op.operands, IntKind.bits, descF, sizeF, bytesF, zeroF, Nat.reduceLT, Nat.reduceLeDiff, Nat.reduceAdd, Nat.reduceSub, Nat.reduceMul, Nat.reduceBEq, Nat.reduceEqDiff, reduceCtorEq, ↓reduceIte, Int.reduceToNat, Nat.reducePow, Int.reducePow, Int.reduceLE, Int.reduceLT, Int.reduceAdd, Int.reduceSub, Int.reduceMul, Int.reduceNeg, Int.reduceBEq, Int.reduceBNe, Int.reduceEq]) | (refine go_draw hR rfl ?_; simp only [EV1, EV2, EV3, EV4, EV5, EV6, EV7, EV8, EV9, EV10, EV11, eqF, Op.operands, IntKind.bits, descF, sizeF, bytesF, zeroF, Nat.reduceLT, Nat.reduceLeDiff, Nat.reduceAdd, Nat.reduceSub, Nat.reduceMul, Nat.reduceBEq, Nat.reduceEqDiff, reduceCtorEq, ↓reduceIte, Int.reduceToNat, Nat.reducePow, Int.reducePow, Int.reduceLE, Int.reduceLT, Int.reduceAdd, Int.reduceSub, Int.reduceMul, Int.reduceNeg, Int.reduceBEq, Int.reduceBNe, Int.reduceEq]) | refine ⟨by kernel_rfl, ?_⟩ | refine ⟨by decide, ?_⟩))
  cases l with
  | nil =>
    have h2 : ((((encEs ([] : List Ev)).length : Nat) : Int) == 0) = true := rfl
    simp only [h2]
    refine go_cond (by rfl) (fun hc => ?_) (fun hc => absurd hc (by simp))
    (repeat (first | refine go_seq ?_ | refine go_skip ?_ | refine go_blk ?_ | refine go_block ?_ | refine go_scope (fun _ _ _ h => h) ?_ | refine go_label ?_ | (refine go_region hR ?_; simp only [EV1, EV2, EV3, EV4, EV5, EV6, EV7, EV8, EV9, EV10, EV11, eqF, Op.operands, IntKind.bits, descF, sizeF, bytesF, zeroF, Nat.reduceLT, Nat.reduceLeDiff, Nat.reduceAdd, Nat.reduceSub, Nat.reduceMul, Nat.reduceBEq, Nat.reduceEqDiff, reduceCtorEq, ↓reduceIte, Int.reduceToNat, Nat.reducePow, Int.reducePow, Int.reduceLE, Int.reduceLT, Int.reduceAdd, Int.reduceSub, Int.reduceMul, Int.reduceNeg, Int.reduceBEq, Int.reduceBNe, Int.reduceEq]) | (refine go_draw hR rfl ?_; simp only [EV1, EV2, EV3, EV4, EV5, EV6, EV7, EV8, EV9, EV10, EV11, eqF, Op.operands, IntKind.bits, descF, sizeF, bytesF, zeroF, Nat.reduceLT, Nat.reduceLeDiff, Nat.reduceAdd, Nat.reduceSub, Nat.reduceMul, Nat.reduceBEq, Nat.reduceEqDiff, reduceCtorEq, ↓reduceIte, Int.reduceToNat, Nat.reducePow, Int.reducePow, Int.reduceLE, Int.reduceLT, Int.reduceAdd, Int.reduceSub, Int.reduceMul, Int.reduceNeg, Int.reduceBEq, Int.reduceBNe, Int.reduceEq]) | refine ⟨by kernel_rfl, ?_⟩ | refine ⟨by decide, ?_⟩))
    refine go_returnM [0] (by decide) ttOk rfl ?_ rfl rfl ?_
    · exact (by (repeat' apply And.intro) <;> first | trivial | rfl | exact Nat.le_of_ble_eq_true rfl)
    · exact (by intro q hq; repeat (first | (cases hq; done) | (rcases List.mem_cons.1 hq with rfl | hq; exact ⟨rfl, 1, _, _, rfl, by repeat (first | exact List.mem_cons_self | apply List.mem_cons_of_mem)⟩)))
  | cons e r =>
    have h2 : ((((encEs (e :: r)).length : Nat) : Int) == 0) = false := beq_eq_false_iff_ne.2 (by rw [encEs_len, List.length_cons]; omega)
    simp only [h2]
    refine go_cond (by rfl) (fun hc => absurd hc (by simp)) (fun hc => ?_)
    (repeat (first | refine go_seq ?_ | refine go_skip ?_ | refine go_blk ?_ | refine go_block ?_ | refine go_scope (fun _ _ _ h => h) ?_ | refine go_label ?_))
    refine go_region hR ?_
    have hg : (encEs (e :: r)).getD 0 [] = encE e := rfl
    have hlen : (encEs (e :: r)).length = r.length + 1 := encEs_len _
    simp only [EV1, EV2, EV3, EV4, EV5, EV6, EV7, EV8, EV9, EV10, EV11, eqF, Op.operands, IntKind.bits, descF, sizeF, bytesF, zeroF, Nat.reduceLT, Nat.reduceLeDiff, Nat.reduceAdd, Nat.reduceSub, Nat.reduceMul, Nat.reduceBEq, Nat.reduceEqDiff, reduceCtorEq, ↓reduceIte, Int.reduceToNat, Nat.reducePow, Int.reducePow, Int.reduceLE, Int.reduceLT, Int.reduceAdd, Int.reduceSub, Int.reduceMul, Int.reduceNeg, Int.reduceBEq, Int.reduceBNe, Int.reduceEq, hg, hlen, encE]
    refine ⟨by omega, by omega, ?_⟩
    (repeat (first | refine go_seq ?_ | refine go_skip ?_ | refine go_blk ?_ | refine go_block ?_ | refine go_scope (fun _ _ _ h => h) ?_ | refine go_label ?_ | (refine go_region hR ?_; simp only [EV1, EV2, EV3, EV4, EV5, EV6, EV7, EV8, EV9, EV10, EV11, eqF, Op.operands, IntKind.bits, descF, sizeF, bytesF, zeroF, Nat.reduceLT, Nat.reduceLeDiff, Nat.reduceAdd, Nat.reduceSub, Nat.reduceMul, Nat.reduceBEq, Nat.reduceEqDiff, reduceCtorEq, ↓reduceIte, Int.reduceToNat, Nat.reducePow, Int.reducePow, Int.reduceLE, Int.reduceLT, Int.reduceAdd, Int.reduceSub, Int.reduceMul, Int.reduceNeg, Int.reduceBEq, Int.reduceBNe, Int.reduceEq]) | (refine go_draw hR rfl ?_; simp only [EV1, EV2, EV3, EV4, EV5, EV6, EV7, EV8, EV9, EV10, EV11, eqF, Op.operands, IntKind.bits, descF, sizeF, bytesF, zeroF, Nat.reduceLT, Nat.reduceLeDiff, Nat.reduceAdd, Nat.reduceSub, Nat.reduceMul, Nat.reduceBEq, Nat.reduceEqDiff, reduceCtorEq, ↓reduceIte, Int.reduceToNat, Nat.reducePow, Int.reducePow, Int.reduceLE, Int.reduceLT, Int.reduceAdd, Int.reduceSub, Int.reduceMul, Int.reduceNeg, Int.reduceBEq, Int.reduceBNe, Int.reduceEq]) | refine ⟨by kernel_rfl, ?_⟩ | refine ⟨by decide, ?_⟩))
    refine go_returnM [0] (by decide) ttOk rfl ?_ rfl rfl ?_
    · exact (by (repeat' apply And.intro) <;> first | trivial | rfl | exact Nat.le_of_ble_eq_true rfl)
    · exact (by intro q hq; repeat (first | (cases hq; done) | (rcases List.mem_cons.1 hq with rfl | hq; exact ⟨rfl, 1, _, _, rfl, by repeat (first | exact List.mem_cons_self | apply List.mem_cons_of_mem)⟩)))

theorem rtake_t (room : Int) (l : List Ev) (last : Int) (hl : l.length ≤ 1000000) : FnM Try.prog 38 [.ptr 0 0] (rB room l last) [0] (rB room l.tail last) (peekR' l) := by
  refine FnM.intro (tt := tt) Try.func38 rfl (by kernel_rfl) (by show 1 ≤ Try.f38.ntmps; rw [Try.ntmps38]; decide) (Nat.le_refl _) (by intro b hb; simp [rB] at hb ⊢; omega) fun w0 M0 A hA hM p => ?_
  have hR := reckB_ok eqOk ttOk
  simp only [argT, Try.ntmps38, rB, EV1, EV2, EV3, EV4, EV5, EV6, EV7, EV8, EV9, EV10, EV11, eqF, Op.operands, IntKind.bits, descF, sizeF, bytesF, zeroF, Nat.reduceLT, Nat.reduceLeDiff, Nat.reduceAdd, Nat.reduceSub, Nat.reduceMul, Nat.reduceBEq, Nat.reduceEqDiff, reduceCtorEq, ↓reduceIte, Int.reduceToNat, Nat.reducePow, Int.reducePow, Int.reduceLE, Int.reduceLT, Int.reduceAdd, Int.reduceSub, Int.reduceMul, Int.reduceNeg, Int.reduceBEq, Int.reduceBNe, Int.reduceEq]
  (repeat (first | refine go_seq ?_ | refine go_skip ?_ | refine go_blk ?_ | refine go_block ?_ | refine go_scope (fun _ _ _ h => h) ?_ | refine go_label ?_ | (refine go_region hR ?_; simp only [EV1, EV2, EV3, EV4, EV5, EV6, EV7, EV8, EV9, EV10, EV11, eqF, Op.operands, IntKind.bits, descF, sizeF, bytesF, zeroF, Nat.reduceLT, Nat.reduceLeDiff, Nat.reduceAdd, Nat.reduceSub, Nat.reduceMul, Nat.reduceBEq, Nat.reduceEqDiff, reduceCtorEq, ↓reduceIte, Int.reduceToNat, Nat.reducePow, Int.reducePow, Int.reduceLE, Int.reduceLT, Int.reduceAdd, Int.reduceSub, Int.reduceMul, Int.reduceNeg, Int.reduceBEq, Int.reduceBNe, Int.reduceEq]) | (refine go_draw hR rfl ?_; simp only [EV1, EV2, EV3, EV4, EV5, EV6, EV7, EV8, EV9, EV10, EV11, eqF, Op.operands, IntKind.bits, descF, sizeF, bytesF, zeroF, Nat.reduceLT, Nat.reduceLeDiff, Nat.reduceAdd, Nat.reduceSub, Nat.reduceMul, Nat.reduceBEq, Nat.reduceEqDiff, reduceCtorEq, ↓reduceIte, Int.reduceToNat, Nat.reducePow, Int.reducePow, Int.reduceLE, Int.reduceLT, Int.reduceAdd, Int.reduceSub, Int.reduceMul, Int.reduceNeg, Int.reduceBEq, Int.reduceBNe, Int.reduceEq]) | refine ⟨by kernel_rfl, ?_⟩ | refine ⟨by decide, ?_⟩))
  cases l with
  | nil =>
    have h2 : ((((encEs ([] : List Ev)).length : Nat) : Int) == 0) = true := rfl
    simp only [h2]
    refine go_cond (by rfl) (fun hc => ?_) (fun hc => absurd hc (by simp))
    (repeat (first | refine go_seq ?_ | refine go_skip ?_ | refine go_blk ?_ | refine go_block ?_ | refine go_scope (fun _ _ _ h => h) ?_ | refine go_label ?_ | (refine go_region hR ?_; simp only [EV1, EV2, EV3, EV4, EV5, EV6, EV7, EV8, EV9, EV10, EV11, eqF, Op.operands, IntKind.bits, descF, sizeF, bytesF, zeroF, Nat.reduceLT, Nat.reduceLeDiff, Nat.reduceAdd, Nat.reduceSub, Nat.reduceMul, Nat.reduceBEq, Nat.reduceEqDiff, reduceCtorEq, ↓reduceIte, Int.reduceToNat, Nat.reducePow, Int.reducePow, Int.reduceLE, Int.reduceLT, Int.reduceAdd, Int.reduceSub, Int.reduceMul, Int.reduceNeg, Int.reduceBEq, Int.reduceBNe, Int.reduceEq]) | (refine go_draw hR rfl ?_; simp only [EV1, EV2, EV3, EV4, EV5, EV6, EV7, EV8, EV9, EV10, EV11, eqF, Op.operands, IntKind.bits, descF, sizeF, bytesF, zeroF, Nat.reduceLT, Nat.reduceLeDiff, Nat.reduceAdd, Nat.reduceSub, Nat.reduceMul, Nat.reduceBEq, Nat.reduceEqDiff, reduceCtorEq, ↓reduceIte, Int.reduceToNat, Nat.reducePow, Int.reducePow, Int.reduceLE, Int.reduceLT, Int.reduceAdd, Int.reduceSub, Int.reduceMul, Int.reduceNeg, Int.reduceBEq, Int.reduceBNe, Int.reduceEq]) | refine ⟨by kernel_rfl, ?_⟩ | refine ⟨by decide, ?_⟩))
    refine go_returnM [0] (by decide) ttOk rfl ?_ rfl rfl ?_
    · exact (by (repeat' apply And.intro) <;> first | trivial | rfl | exact Nat.le_of_ble_eq_true rfl)
    · exact (by intro q hq; repeat (first | (cases hq; done) | (rcases List.mem_cons.1 hq with rfl | hq; exact ⟨rfl, 1, _, _, rfl, by repeat (first | exact List.mem_cons_self | apply List.mem_cons_of_mem)⟩)))
  | cons e r =>
    have h2 : ((((encEs (e :: r)).length : Nat) : Int) == 0) = false := beq_eq_false_iff_ne.2 (by rw [encEs_len, List.length_cons]; omega)
    simp only [h2]
    refine go_cond (by rfl) (fun hc => absurd hc (by simp)) (fun hc => ?_)
    (repeat (first | refine go_seq ?_ | refine go_skip ?_ | refine go_blk ?_ | refine go_block ?_ | refine go_scope (fun _ _ _ h => h) ?_ | refine go_label ?_))
    refine go_region hR ?_
    have hg : (encEs (e :: r)).getD 0 [] = encE e := rfl
    have hlen : (encEs (e :: r)).length = r.length + 1 := encEs_len _
    simp only [EV1, EV2, EV3, EV4, EV5, EV6, EV7, EV8, EV9, EV10, EV11, eqF, Op.operands, IntKind.bits, descF, sizeF, bytesF, zeroF, Nat.reduceLT, Nat.reduceLeDiff, Nat.reduceAdd, Nat.reduceSub, Nat.reduceMul, Nat.reduceBEq, Nat.reduceEqDiff, reduceCtorEq, ↓reduceIte, Int.reduceToNat, Nat.reducePow, Int.reducePow, Int.reduceLE, Int.reduceLT, Int.reduceAdd, Int.reduceSub, Int.reduceMul, Int.reduceNeg, Int.reduceBEq, Int.reduceBNe, Int.reduceEq, hg, hlen, encE]
    refine ⟨by omega, by omega, ?_⟩
    (repeat (first | refine go_seq ?_ | refine go_skip ?_ | refine go_blk ?_ | refine go_block ?_ | refine go_scope (fun _ _ _ h => h) ?_ | refine go_label ?_))
    refine go_region hR ?_
    simp only [EV1, EV2, EV3, EV4, EV5, EV6, EV7, EV8, EV9, EV10, EV11, eqF, Op.operands, IntKind.bits, descF, sizeF, bytesF, zeroF, Nat.reduceLT, Nat.reduceLeDiff, Nat.reduceAdd, Nat.reduceSub, Nat.reduceMul, Nat.reduceBEq, Nat.reduceEqDiff, reduceCtorEq, ↓reduceIte, Int.reduceToNat, Nat.reducePow, Int.reducePow, Int.reduceLE, Int.reduceLT, Int.reduceAdd, Int.reduceSub, Int.reduceMul, Int.reduceNeg, Int.reduceBEq, Int.reduceBNe, Int.reduceEq, hlen]
    refine ⟨by decide, ⟨Nat.le_refl _, fun u hu => encEs_mem hu⟩, by decide, ?_⟩
    (repeat (first | refine go_seq ?_ | refine go_skip ?_ | refine go_blk ?_ | refine go_block ?_ | refine go_scope (fun _ _ _ h => h) ?_ | refine go_label ?_ | (refine go_region hR ?_; simp only [EV1, EV2, EV3, EV4, EV5, EV6, EV7, EV8, EV9, EV10, EV11, eqF, Op.operands, IntKind.bits, descF, sizeF, bytesF, zeroF, Nat.reduceLT, Nat.reduceLeDiff, Nat.reduceAdd, Nat.reduceSub, Nat.reduceMul, Nat.reduceBEq, Nat.reduceEqDiff, reduceCtorEq, ↓reduceIte, Int.reduceToNat, Nat.reducePow, Int.reducePow, Int.reduceLE, Int.reduceLT, Int.reduceAdd, Int.reduceSub, Int.reduceMul, Int.reduceNeg, Int.reduceBEq, Int.reduceBNe, Int.reduceEq]) | (refine go_draw hR rfl ?_; simp only [EV1, EV2, EV3, EV4, EV5, EV6, EV7, EV8, EV9, EV10, EV11, eqF, Op.operands, IntKind.bits, descF, sizeF, bytesF, zeroF, Nat.reduceLT, Nat.reduceLeDiff, Nat.reduceAdd, Nat.reduceSub, Nat.reduceMul, Nat.reduceBEq, Nat.reduceEqDiff, reduceCtorEq, ↓reduceIte, Int.reduceToNat, Nat.reducePow, Int.reducePow, Int.reduceLE, Int.reduceLT, Int.reduceAdd, Int.reduceSub, Int.reduceMul, Int.reduceNeg, Int.reduceBEq, Int.reduceBNe, Int.reduceEq]) | refine ⟨by kernel_rfl, ?_⟩ | refine ⟨by decide, ?_⟩))
    have hd : List.take (r.length + 1 - 1) (List.drop 1 (encEs (e :: r))) = encEs r := by rw [show List.drop 1 (encEs (e :: r)) = encEs r from rfl, Nat.add_sub_cancel, ← encEs_len r, List.take_length]
    simp only [hd]
    refine go_returnM [0] (by decide) ttOk rfl ?_ rfl rfl ?_
    · exact (by (repeat' apply And.intro) <;> first | trivial | rfl | exact Nat.le_of_ble_eq_true rfl)
    · exact (by intro q hq; repeat (first | (cases hq; done) | (rcases List.mem_cons.1 hq with rfl | hq; exact ⟨rfl, 1, _, _, rfl, by repeat (first | exact List.mem_cons_self | apply List.mem_cons_of_mem)⟩)))
end Go.Ab.Try
