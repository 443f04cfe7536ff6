/-
  The reference's queue made of events.
-/
import Derived.Test.YtnlpmpndhngimaaQ13
set_option linter.unusedVariables false
set_option linter.unusedSimpArgs false
namespace Go.Ab.Try
open Go Go.Proofs Go.Ab

def rfromF (room : Int) : List Ev → List Ev → Int → Option (List Ev × Int) × Int
  | [], acc, last => (some (acc, last), 0)
  | e :: r, acc, last => if rputE room acc last e = 0 then rfromF room r (rputL room acc last e) (rputLast room acc last e) else (none, rputE room acc last e)
def rfromOf (room : Int) (l : List Ev) : Option (List Ev × Int) × Int :=
  if ¬ (1 ≤ room ∧ room ≤ 64) then (none, 1) else if room < l.length then (none, 3) else if l.all (fun e => checkE e == 0) then rfromF room l [] 0 else (none, 1)
def rfB (room : Int) : Option (List Ev × Int) × Int → List Blk
  | (none, _) => []
  | (some (acc, last), _) => rB room acc last
theorem rputL_len (room : Int) (l : List Ev) (last : Int) (e : Ev) : (rputL room l last e).length ≤ l.length + 1 := by unfold rputL; split <;> simp

set_option maxRecDepth 10000 in
set_option maxHeartbeats 8000000 in
theorem rfrom_t (room : Int) (l : List Ev) (hl : l.length ≤ 1048576) : FnO Try.prog 46 [.c (.val (.int .i64 room)), .c (.sl (encEs l))] (rfB room (rfromOf room l)) (fR (rfromOf room l)) := by
  refine FnO.intro (tt := tt) Try.func46 rfl (by kernel_rfl) (by simp [Try.ntmps46]) fun w0 A hA => ?_
  have hR := reckB_ok eqOk ttOk
  simp only [argT, Try.ntmps46]
  (repeat (first | refine go_seq ?_ | refine go_skip ?_ | refine go_blk ?_ | refine go_block ?_ | refine go_scope (fun _ _ _ h => h) ?_ | refine go_label ?_ | (refine go_region hR ?_; simp only [EV1, EV2, EV3, EV4, EV5, EV6, EV7, EV8, EV9, EV10, EV11, eqF, Op.operands, IntKind.bits, descF, sizeF, bytesF, zeroF, Nat.reduceLT, Nat.reduceLeDiff, Nat.reduceAdd, Nat.reduceSub, Nat.reduceMul, Nat.reduceBEq, Nat.reduceEqDiff, reduceCtorEq, ↓reduceIte, Int.reduceToNat, Nat.reducePow, Int.reducePow, Int.reduceLE, Int.reduceLT, Int.reduceAdd, Int.reduceSub, Int.reduceMul, Int.reduceNeg, Int.reduceBEq, Int.reduceBNe, Int.reduceEq]) | (refine go_draw hR rfl ?_; simp only [EV1, EV2, EV3, EV4, EV5, EV6, EV7, EV8, EV9, EV10, EV11, eqF, Op.operands, IntKind.bits, descF, sizeF, bytesF, zeroF, Nat.reduceLT, Nat.reduceLeDiff, Nat.reduceAdd, Nat.reduceSub, Nat.reduceMul, Nat.reduceBEq, Nat.reduceEqDiff, reduceCtorEq, ↓reduceIte, Int.reduceToNat, Nat.reducePow, Int.reducePow, Int.reduceLE, Int.reduceLT, Int.reduceAdd, Int.reduceSub, Int.reduceMul, Int.reduceNeg, Int.reduceBEq, Int.reduceBNe, Int.reduceEq]) | refine ⟨by kernel_rfl, ?_⟩ | refine ⟨by decide, ?_⟩))
  by_cases h : 1 ≤ room ∧ room ≤ 64
  case neg =>
    have hf : rfromOf room l = (none, 1) := if_pos h
    rw [hf]
    refine CallK.fresh (rnew_bad room h).toO rfl (by (repeat' apply And.intro) <;> first | trivial | rfl) (.inl rfl) (by exact Nat.le_of_ble_eq_true rfl) ?_
    simp only [EV1, EV2, EV3, EV4, EV5, EV6, EV7, EV8, EV9, EV10, EV11, eqF, Op.operands, IntKind.bits, descF, sizeF, bytesF, zeroF, Nat.reduceLT, Nat.reduceLeDiff, Nat.reduceAdd, Nat.reduceSub, Nat.reduceMul, Nat.reduceBEq, Nat.reduceEqDiff, reduceCtorEq, ↓reduceIte, Int.reduceToNat, Nat.reducePow, Int.reducePow, Int.reduceLE, Int.reduceLT, Int.reduceAdd, Int.reduceSub, Int.reduceMul, Int.reduceNeg, Int.reduceBEq, Int.reduceBNe, Int.reduceEq]
    (repeat (first | refine go_seq ?_ | refine go_skip ?_ | refine go_blk ?_ | refine go_block ?_ | refine go_scope (fun _ _ _ h => h) ?_ | refine go_label ?_ | (refine go_region hR ?_; simp only [EV1, EV2, EV3, EV4, EV5, EV6, EV7, EV8, EV9, EV10, EV11, eqF, Op.operands, IntKind.bits, descF, sizeF, bytesF, zeroF, Nat.reduceLT, Nat.reduceLeDiff, Nat.reduceAdd, Nat.reduceSub, Nat.reduceMul, Nat.reduceBEq, Nat.reduceEqDiff, reduceCtorEq, ↓reduceIte, Int.reduceToNat, Nat.reducePow, Int.reducePow, Int.reduceLE, Int.reduceLT, Int.reduceAdd, Int.reduceSub, Int.reduceMul, Int.reduceNeg, Int.reduceBEq, Int.reduceBNe, Int.reduceEq]) | (refine go_draw hR rfl ?_; simp only [EV1, EV2, EV3, EV4, EV5, EV6, EV7, EV8, EV9, EV10, EV11, eqF, Op.operands, IntKind.bits, descF, sizeF, bytesF, zeroF, Nat.reduceLT, Nat.reduceLeDiff, Nat.reduceAdd, Nat.reduceSub, Nat.reduceMul, Nat.reduceBEq, Nat.reduceEqDiff, reduceCtorEq, ↓reduceIte, Int.reduceToNat, Nat.reducePow, Int.reducePow, Int.reduceLE, Int.reduceLT, Int.reduceAdd, Int.reduceSub, Int.reduceMul, Int.reduceNeg, Int.reduceBEq, Int.reduceBNe, Int.reduceEq]) | refine ⟨by kernel_rfl, ?_⟩ | refine ⟨by decide, ?_⟩))
    refine go_cond (by rfl) (fun hc => ?_) (fun hc => absurd hc (by simp))
    (repeat (first | refine go_seq ?_ | refine go_skip ?_ | refine go_blk ?_ | refine go_block ?_ | refine go_scope (fun _ _ _ h => h) ?_ | refine go_label ?_ | (refine go_region hR ?_; simp only [EV1, EV2, EV3, EV4, EV5, EV6, EV7, EV8, EV9, EV10, EV11, eqF, Op.operands, IntKind.bits, descF, sizeF, bytesF, zeroF, Nat.reduceLT, Nat.reduceLeDiff, Nat.reduceAdd, Nat.reduceSub, Nat.reduceMul, Nat.reduceBEq, Nat.reduceEqDiff, reduceCtorEq, ↓reduceIte, Int.reduceToNat, Nat.reducePow, Int.reducePow, Int.reduceLE, Int.reduceLT, Int.reduceAdd, Int.reduceSub, Int.reduceMul, Int.reduceNeg, Int.reduceBEq, Int.reduceBNe, Int.reduceEq]) | (refine go_draw hR rfl ?_; simp only [EV1, EV2, EV3, EV4, EV5, EV6, EV7, EV8, EV9, EV10, EV11, eqF, Op.operands, IntKind.bits, descF, sizeF, bytesF, zeroF, Nat.reduceLT, Nat.reduceLeDiff, Nat.reduceAdd, Nat.reduceSub, Nat.reduceMul, Nat.reduceBEq, Nat.reduceEqDiff, reduceCtorEq, ↓reduceIte, Int.reduceToNat, Nat.reducePow, Int.reducePow, Int.reduceLE, Int.reduceLT, Int.reduceAdd, Int.reduceSub, Int.reduceMul, Int.reduceNeg, Int.reduceBEq, Int.reduceBNe, Int.reduceEq]) | refine ⟨by kernel_rfl, ?_⟩ | refine ⟨by decide, ?_⟩))
    refine go_returnO [] (by decide) ttOk rfl ?_ rfl rfl
    exact (by (repeat' apply And.intro) <;> first | trivial | rfl | exact Nat.le_of_ble_eq_true rfl)
  refine CallK.fresh (rnew_t room h) rfl (by (repeat' apply And.intro) <;> first | trivial | rfl) (.inl rfl) (by exact Nat.le_of_ble_eq_true rfl) ?_
  simp only [rB, EV1, EV2, EV3, EV4, EV5, EV6, EV7, EV8, EV9, EV10, EV11, eqF, Op.operands, IntKind.bits, descF, sizeF, bytesF, zeroF, Nat.reduceLT, Nat.reduceLeDiff, Nat.reduceAdd, Nat.reduceSub, Nat.reduceMul, Nat.reduceBEq, Nat.reduceEqDiff, reduceCtorEq, ↓reduceIte, Int.reduceToNat, Nat.reducePow, Int.reducePow, Int.reduceLE, Int.reduceLT, Int.reduceAdd, Int.reduceSub, Int.reduceMul, Int.reduceNeg, Int.reduceBEq, Int.reduceBNe, Int.reduceEq]
  (repeat (first | refine go_seq ?_ | refine go_skip ?_ | refine go_blk ?_ | refine go_block ?_ | refine go_scope (fun _ _ _ h => h) ?_ | refine go_label ?_ | (refine go_region hR ?_; simp only [EV1, EV2, EV3, EV4, EV5, EV6, EV7, EV8, EV9, EV10, EV11, eqF, Op.operands, IntKind.bits, descF, sizeF, bytesF, zeroF, Nat.reduceLT, Nat.reduceLeDiff, Nat.reduceAdd, Nat.reduceSub, Nat.reduceMul, Nat.reduceBEq, Nat.reduceEqDiff, reduceCtorEq, ↓reduceIte, Int.reduceToNat, Nat.reducePow, Int.reducePow, Int.reduceLE, Int.reduceLT, Int.reduceAdd, Int.reduceSub, Int.reduceMul, Int.reduceNeg, Int.reduceBEq, Int.reduceBNe, Int.reduceEq]) | (refine go_draw hR rfl ?_; simp only [EV1, EV2, EV3, EV4, EV5, EV6, EV7, EV8, EV9, EV10, EV11, eqF, Op.operands, IntKind.bits, descF, sizeF, bytesF, zeroF, Nat.reduceLT, Nat.reduceLeDiff, Nat.reduceAdd, Nat.reduceSub, Nat.reduceMul, Nat.reduceBEq, Nat.reduceEqDiff, reduceCtorEq, ↓reduceIte, Int.reduceToNat, Nat.reducePow, Int.reducePow, Int.reduceLE, Int.reduceLT, Int.reduceAdd, Int.reduceSub, Int.reduceMul, Int.reduceNeg, Int.reduceBEq, Int.reduceBNe, Int.reduceEq]) | refine ⟨by kernel_rfl, ?_⟩ | refine ⟨by decide, ?_⟩))
  refine go_cond (by rfl) (fun hc => absurd hc (by simp)) (fun hc => ?_)
  (repeat (first | refine go_seq ?_ | refine go_skip ?_ | refine go_blk ?_ | refine go_block ?_ | refine go_scope (fun _ _ _ h => h) ?_ | refine go_label ?_ | (refine go_region hR ?_; simp only [EV1, EV2, EV3, EV4, EV5, EV6, EV7, EV8, EV9, EV10, EV11, eqF, Op.operands, IntKind.bits, descF, sizeF, bytesF, zeroF, Nat.reduceLT, Nat.reduceLeDiff, Nat.reduceAdd, Nat.reduceSub, Nat.reduceMul, Nat.reduceBEq, Nat.reduceEqDiff, reduceCtorEq, ↓reduceIte, Int.reduceToNat, Nat.reducePow, Int.reducePow, Int.reduceLE, Int.reduceLT, Int.reduceAdd, Int.reduceSub, Int.reduceMul, Int.reduceNeg, Int.reduceBEq, Int.reduceBNe, Int.reduceEq]) | (refine go_draw hR rfl ?_; simp only [EV1, EV2, EV3, EV4, EV5, EV6, EV7, EV8, EV9, EV10, EV11, eqF, Op.operands, IntKind.bits, descF, sizeF, bytesF, zeroF, Nat.reduceLT, Nat.reduceLeDiff, Nat.reduceAdd, Nat.reduceSub, Nat.reduceMul, Nat.reduceBEq, Nat.reduceEqDiff, reduceCtorEq, ↓reduceIte, Int.reduceToNat, Nat.reducePow, Int.reducePow, Int.reduceLE, Int.reduceLT, Int.reduceAdd, Int.reduceSub, Int.reduceMul, Int.reduceNeg, Int.reduceBEq, Int.reduceBNe, Int.reduceEq]) | refine ⟨by kernel_rfl, ?_⟩ | refine ⟨by decide, ?_⟩))
  by_cases hlen : room < l.length
  case pos =>
    have f1 : decide ((((encEs l).length : Nat) : Int) > room) = true := decide_eq_true (by rw [encEs_len]; exact hlen)
    have hf : rfromOf room l = (none, 3) := by unfold rfromOf; rw [if_neg (not_not_intro h), if_pos hlen]
    rw [hf]
    simp only [f1]
    refine go_cond (by rfl) (fun hc => ?_) (fun hc => absurd hc (by simp))
    (repeat (first | refine go_seq ?_ | refine go_skip ?_ | refine go_blk ?_ | refine go_block ?_ | refine go_scope (fun _ _ _ h => h) ?_ | refine go_label ?_ | (refine go_region hR ?_; simp only [EV1, EV2, EV3, EV4, EV5, EV6, EV7, EV8, EV9, EV10, EV11, eqF, Op.operands, IntKind.bits, descF, sizeF, bytesF, zeroF, Nat.reduceLT, Nat.reduceLeDiff, Nat.reduceAdd, Nat.reduceSub, Nat.reduceMul, Nat.reduceBEq, Nat.reduceEqDiff, reduceCtorEq, ↓reduceIte, Int.reduceToNat, Nat.reducePow, Int.reducePow, Int.reduceLE, Int.reduceLT, Int.reduceAdd, Int.reduceSub, Int.reduceMul, Int.reduceNeg, Int.reduceBEq, Int.reduceBNe, Int.reduceEq]) | (refine go_draw hR rfl ?_; simp only [EV1, EV2, EV3, EV4, EV5, EV6, EV7, EV8, EV9, EV10, EV11, eqF, Op.operands, IntKind.bits, descF, sizeF, bytesF, zeroF, Nat.reduceLT, Nat.reduceLeDiff, Nat.reduceAdd, Nat.reduceSub, Nat.reduceMul, Nat.reduceBEq, Nat.reduceEqDiff, reduceCtorEq, ↓reduceIte, Int.reduceToNat, Nat.reducePow, Int.reducePow, Int.reduceLE, Int.reduceLT, Int.reduceAdd, Int.reduceSub, Int.reduceMul, Int.reduceNeg, Int.reduceBEq, Int.reduceBNe, Int.reduceEq]) | refine ⟨by kernel_rfl, ?_⟩ | refine ⟨by decide, ?_⟩))
    refine go_returnO [] (by decide) ttOk rfl ?_ rfl rfl
    exact (by (repeat' apply And.intro) <;> first | trivial | rfl | exact Nat.le_of_ble_eq_true rfl)
  have f1 : decide ((((encEs l).length : Nat) : Int) > room) = false := decide_eq_false (by rw [encEs_len]; exact hlen)
  simp only [f1]
  refine go_cond (by rfl) (fun hc => absurd hc (by simp)) (fun hc => ?_)
  (repeat (first | refine go_seq ?_ | refine go_skip ?_ | refine go_blk ?_ | refine go_block ?_ | refine go_scope (fun _ _ _ h => h) ?_ | refine go_label ?_ | (refine go_region hR ?_; simp only [EV1, EV2, EV3, EV4, EV5, EV6, EV7, EV8, EV9, EV10, EV11, eqF, Op.operands, IntKind.bits, descF, sizeF, bytesF, zeroF, Nat.reduceLT, Nat.reduceLeDiff, Nat.reduceAdd, Nat.reduceSub, Nat.reduceMul, Nat.reduceBEq, Nat.reduceEqDiff, reduceCtorEq, ↓reduceIte, Int.reduceToNat, Nat.reducePow, Int.reducePow, Int.reduceLE, Int.reduceLT, Int.reduceAdd, Int.reduceSub, Int.reduceMul, Int.reduceNeg, Int.reduceBEq, Int.reduceBNe, Int.reduceEq]) | (refine go_draw hR rfl ?_; simp only [EV1, EV2, EV3, EV4, EV5, EV6, EV7, EV8, EV9, EV10, EV11, eqF, Op.operands, IntKind.bits, descF, sizeF, bytesF, zeroF, Nat.reduceLT, Nat.reduceLeDiff, Nat.reduceAdd, Nat.reduceSub, Nat.reduceMul, Nat.reduceBEq, Nat.reduceEqDiff, reduceCtorEq, ↓reduceIte, Int.reduceToNat, Nat.reducePow, Int.reducePow, Int.reduceLE, Int.reduceLT, Int.reduceAdd, Int.reduceSub, Int.reduceMul, Int.reduceNeg, Int.reduceBEq, Int.reduceBNe, Int.reduceEq]) | refine ⟨by kernel_rfl, ?_⟩ | refine ⟨by decide, ?_⟩))
  refine go_loop (fun p : Nat => ⟨[(1, .c (.sl (encEs l))), (6, .ptr 0 0), (8, .c (.val (.int .i64 p)))], [(0, .box [.c (.sl (encEs [])), .c (.val (.int .i64 room)), .c (.val (.int .i64 0))] 94)], 1⟩)
    (fun p => p ≤ l.length ∧ ∀ e ∈ l.take p, checkE e = 0) (fun p => l.length - p) 0 ⟨Nat.zero_le _, by simp⟩ (Weak.forget' (by repeat (first | exact trivial | refine ⟨rfl, ?_⟩)) (by repeat (first | exact trivial | refine ⟨rfl, ?_⟩)) rfl) ?_
  rintro p ⟨hp, hpre⟩
  (repeat (first | refine go_seq ?_ | refine go_skip ?_ | refine go_blk ?_ | refine go_block ?_ | refine go_scope (fun _ _ _ h => h) ?_ | refine go_label ?_ | (refine go_region hR ?_; simp only [EV1, EV2, EV3, EV4, EV5, EV6, EV7, EV8, EV9, EV10, EV11, eqF, Op.operands, IntKind.bits, descF, sizeF, bytesF, zeroF, Nat.reduceLT, Nat.reduceLeDiff, Nat.reduceAdd, Nat.reduceSub, Nat.reduceMul, Nat.reduceBEq, Nat.reduceEqDiff, reduceCtorEq, ↓reduceIte, Int.reduceToNat, Nat.reducePow, Int.reducePow, Int.reduceLE, Int.reduceLT, Int.reduceAdd, Int.reduceSub, Int.reduceMul, Int.reduceNeg, Int.reduceBEq, Int.reduceBNe, Int.reduceEq]) | (refine go_draw hR rfl ?_; simp only [EV1, EV2, EV3, EV4, EV5, EV6, EV7, EV8, EV9, EV10, EV11, eqF, Op.operands, IntKind.bits, descF, sizeF, bytesF, zeroF, Nat.reduceLT, Nat.reduceLeDiff, Nat.reduceAdd, Nat.reduceSub, Nat.reduceMul, Nat.reduceBEq, Nat.reduceEqDiff, reduceCtorEq, ↓reduceIte, Int.reduceToNat, Nat.reducePow, Int.reducePow, Int.reduceLE, Int.reduceLT, Int.reduceAdd, Int.reduceSub, Int.reduceMul, Int.reduceNeg, Int.reduceBEq, Int.reduceBNe, Int.reduceEq]) | refine ⟨by kernel_rfl, ?_⟩ | refine ⟨by decide, ?_⟩))
  by_cases hlt : p < l.length
  · have f2 : decide (((p : Nat) : Int) < (((encEs l).length : Nat) : Int)) = true := decide_eq_true (by rw [encEs_len]; omega)
    refine go_cond (by rfl) (fun hc => ?_) (fun hc => absurd (hc.symm.trans f2) (by simp))
    (repeat (first | refine go_seq ?_ | refine go_skip ?_ | refine go_blk ?_ | refine go_block ?_ | refine go_scope (fun _ _ _ h => h) ?_ | refine go_label ?_))
    refine go_region hR ?_
    simp only [EV1, EV2, EV3, EV4, EV5, EV6, EV7, EV8, EV9, EV10, EV11, eqF, Op.operands, IntKind.bits, descF, sizeF, bytesF, zeroF, Nat.reduceLT, Nat.reduceLeDiff, Nat.reduceAdd, Nat.reduceSub, Nat.reduceMul, Nat.reduceBEq, Nat.reduceEqDiff, reduceCtorEq, ↓reduceIte, Int.reduceToNat, Nat.reducePow, Int.reducePow, Int.reduceLE, Int.reduceLT, Int.reduceAdd, Int.reduceSub, Int.reduceMul, Int.reduceNeg, Int.reduceBEq, Int.reduceBNe, Int.reduceEq, encEs_getD l p hlt, encE]
    (repeat (refine And.intro ?_ ?_; focus ((repeat' apply And.intro) <;> (first | exact trivial | decide | (intro u hu; exact encEs_mem hu) | (intro u hu; rw [List.mem_singleton.1 hu]; rfl) | omega | (simp only [encEs_len, List.length_append, List.length_cons, List.length_nil, List.length_map, List.length_take, List.length_drop] <;> omega) | exact chkD_of (by kernel_rfl) | kernel_rfl | assumption))))
    refine CallK.fresh (refcheck_t l[p]).toO rfl (by (repeat' apply And.intro) <;> first | trivial | rfl) (.inl rfl) (by exact Nat.le_of_ble_eq_true rfl) ?_
    simp only [EV1, EV2, EV3, EV4, EV5, EV6, EV7, EV8, EV9, EV10, EV11, eqF, Op.operands, IntKind.bits, descF, sizeF, bytesF, zeroF, Nat.reduceLT, Nat.reduceLeDiff, Nat.reduceAdd, Nat.reduceSub, Nat.reduceMul, Nat.reduceBEq, Nat.reduceEqDiff, reduceCtorEq, ↓reduceIte, Int.reduceToNat, Nat.reducePow, Int.reducePow, Int.reduceLE, Int.reduceLT, Int.reduceAdd, Int.reduceSub, Int.reduceMul, Int.reduceNeg, Int.reduceBEq, Int.reduceBNe, Int.reduceEq]
    (repeat (first | refine go_seq ?_ | refine go_skip ?_ | refine go_blk ?_ | refine go_block ?_ | refine go_scope (fun _ _ _ h => h) ?_ | refine go_label ?_ | (refine go_region hR ?_; simp only [EV1, EV2, EV3, EV4, EV5, EV6, EV7, EV8, EV9, EV10, EV11, eqF, Op.operands, IntKind.bits, descF, sizeF, bytesF, zeroF, Nat.reduceLT, Nat.reduceLeDiff, Nat.reduceAdd, Nat.reduceSub, Nat.reduceMul, Nat.reduceBEq, Nat.reduceEqDiff, reduceCtorEq, ↓reduceIte, Int.reduceToNat, Nat.reducePow, Int.reducePow, Int.reduceLE, Int.reduceLT, Int.reduceAdd, Int.reduceSub, Int.reduceMul, Int.reduceNeg, Int.reduceBEq, Int.reduceBNe, Int.reduceEq]) | (refine go_draw hR rfl ?_; simp only [EV1, EV2, EV3, EV4, EV5, EV6, EV7, EV8, EV9, EV10, EV11, eqF, Op.operands, IntKind.bits, descF, sizeF, bytesF, zeroF, Nat.reduceLT, Nat.reduceLeDiff, Nat.reduceAdd, Nat.reduceSub, Nat.reduceMul, Nat.reduceBEq, Nat.reduceEqDiff, reduceCtorEq, ↓reduceIte, Int.reduceToNat, Nat.reducePow, Int.reducePow, Int.reduceLE, Int.reduceLT, Int.reduceAdd, Int.reduceSub, Int.reduceMul, Int.reduceNeg, Int.reduceBEq, Int.reduceBNe, Int.reduceEq]) | refine ⟨by kernel_rfl, ?_⟩ | refine ⟨by decide, ?_⟩))
    rcases checkE_or l[p] with hk | hk
    · simp only [hk]
      refine go_cond (by rfl) (fun hc => absurd hc (by simp)) (fun hc => ?_)
      (repeat (first | refine go_seq ?_ | refine go_skip ?_ | refine go_blk ?_ | refine go_block ?_ | refine go_scope (fun _ _ _ h => h) ?_ | refine go_label ?_ | (refine go_region hR ?_; simp only [EV1, EV2, EV3, EV4, EV5, EV6, EV7, EV8, EV9, EV10, EV11, eqF, Op.operands, IntKind.bits, descF, sizeF, bytesF, zeroF, Nat.reduceLT, Nat.reduceLeDiff, Nat.reduceAdd, Nat.reduceSub, Nat.reduceMul, Nat.reduceBEq, Nat.reduceEqDiff, reduceCtorEq, ↓reduceIte, Int.reduceToNat, Nat.reducePow, Int.reducePow, Int.reduceLE, Int.reduceLT, Int.reduceAdd, Int.reduceSub, Int.reduceMul, Int.reduceNeg, Int.reduceBEq, Int.reduceBNe, Int.reduceEq]) | (refine go_draw hR rfl ?_; simp only [EV1, EV2, EV3, EV4, EV5, EV6, EV7, EV8, EV9, EV10, EV11, eqF, Op.operands, IntKind.bits, descF, sizeF, bytesF, zeroF, Nat.reduceLT, Nat.reduceLeDiff, Nat.reduceAdd, Nat.reduceSub, Nat.reduceMul, Nat.reduceBEq, Nat.reduceEqDiff, reduceCtorEq, ↓reduceIte, Int.reduceToNat, Nat.reducePow, Int.reducePow, Int.reduceLE, Int.reduceLT, Int.reduceAdd, Int.reduceSub, Int.reduceMul, Int.reduceNeg, Int.reduceBEq, Int.reduceBNe, Int.reduceEq]) | refine ⟨by kernel_rfl, ?_⟩ | refine ⟨by decide, ?_⟩))
      simp only [wrap_i64_succ p (by omega)]
      refine go_fin ⟨p + 1, ⟨by omega, ?_⟩, by omega, (Weak.forget' (by repeat (first | exact trivial | refine ⟨rfl, ?_⟩)) (by repeat (first | exact trivial | refine ⟨rfl, ?_⟩)) rfl)⟩
      rw [List.take_succ_eq_append_getElem hlt]
      intro e he
      rcases List.mem_append.1 he with he | he
      · exact hpre e he
      · rw [List.mem_singleton.1 he]; exact hk
    · simp only [hk]
      refine go_cond (by rfl) (fun hc => ?_) (fun hc => absurd hc (by simp))
      (repeat (first | refine go_seq ?_ | refine go_skip ?_ | refine go_blk ?_ | refine go_block ?_ | refine go_scope (fun _ _ _ h => h) ?_ | refine go_label ?_ | (refine go_region hR ?_; simp only [EV1, EV2, EV3, EV4, EV5, EV6, EV7, EV8, EV9, EV10, EV11, eqF, Op.operands, IntKind.bits, descF, sizeF, bytesF, zeroF, Nat.reduceLT, Nat.reduceLeDiff, Nat.reduceAdd, Nat.reduceSub, Nat.reduceMul, Nat.reduceBEq, Nat.reduceEqDiff, reduceCtorEq, ↓reduceIte, Int.reduceToNat, Nat.reducePow, Int.reducePow, Int.reduceLE, Int.reduceLT, Int.reduceAdd, Int.reduceSub, Int.reduceMul, Int.reduceNeg, Int.reduceBEq, Int.reduceBNe, Int.reduceEq]) | (refine go_draw hR rfl ?_; simp only [EV1, EV2, EV3, EV4, EV5, EV6, EV7, EV8, EV9, EV10, EV11, eqF, Op.operands, IntKind.bits, descF, sizeF, bytesF, zeroF, Nat.reduceLT, Nat.reduceLeDiff, Nat.reduceAdd, Nat.reduceSub, Nat.reduceMul, Nat.reduceBEq, Nat.reduceEqDiff, reduceCtorEq, ↓reduceIte, Int.reduceToNat, Nat.reducePow, Int.reducePow, Int.reduceLE, Int.reduceLT, Int.reduceAdd, Int.reduceSub, Int.reduceMul, Int.reduceNeg, Int.reduceBEq, Int.reduceBNe, Int.reduceEq]) | refine ⟨by kernel_rfl, ?_⟩ | refine ⟨by decide, ?_⟩))
      have hf : rfromOf room l = (none, 1) := by
        unfold rfromOf
        rw [if_neg (not_not_intro h), if_neg hlen, if_neg]
        simp only [List.all_eq_true, beq_iff_eq]
        intro hh
        have := hh l[p] (List.getElem_mem hlt)
        omega
      rw [hf]
      refine go_returnO [] (by decide) ttOk rfl ?_ rfl rfl
      exact (by (repeat' apply And.intro) <;> first | trivial | rfl | exact Nat.le_of_ble_eq_true rfl)
  · have f2 : decide (((p : Nat) : Int) < (((encEs l).length : Nat) : Int)) = false := decide_eq_false (by rw [encEs_len]; omega)
    refine go_cond (by rfl) (fun hc => absurd (hc.symm.trans f2) (by simp)) (fun hc => ?_)
    refine go_exit rfl ?_
    have hall : ∀ e ∈ l, checkE e = 0 := by rw [List.take_of_length_le (by omega)] at hpre; exact hpre
    have hf : rfromOf room l = rfromF room l [] 0 := by
      unfold rfromOf
      rw [if_neg (not_not_intro h), if_neg hlen, if_pos]
      simp only [List.all_eq_true, beq_iff_eq]
      exact hall
    rw [hf]
    (repeat (first | refine go_seq ?_ | refine go_skip ?_ | refine go_blk ?_ | refine go_block ?_ | refine go_scope (fun _ _ _ h => h) ?_ | refine go_label ?_ | (refine go_region hR ?_; simp only [EV1, EV2, EV3, EV4, EV5, EV6, EV7, EV8, EV9, EV10, EV11, eqF, Op.operands, IntKind.bits, descF, sizeF, bytesF, zeroF, Nat.reduceLT, Nat.reduceLeDiff, Nat.reduceAdd, Nat.reduceSub, Nat.reduceMul, Nat.reduceBEq, Nat.reduceEqDiff, reduceCtorEq, ↓reduceIte, Int.reduceToNat, Nat.reducePow, Int.reducePow, Int.reduceLE, Int.reduceLT, Int.reduceAdd, Int.reduceSub, Int.reduceMul, Int.reduceNeg, Int.reduceBEq, Int.reduceBNe, Int.reduceEq]) | (refine go_draw hR rfl ?_; simp only [EV1, EV2, EV3, EV4, EV5, EV6, EV7, EV8, EV9, EV10, EV11, eqF, Op.operands, IntKind.bits, descF, sizeF, bytesF, zeroF, Nat.reduceLT, Nat.reduceLeDiff, Nat.reduceAdd, Nat.reduceSub, Nat.reduceMul, Nat.reduceBEq, Nat.reduceEqDiff, reduceCtorEq, ↓reduceIte, Int.reduceToNat, Nat.reducePow, Int.reducePow, Int.reduceLE, Int.reduceLT, Int.reduceAdd, Int.reduceSub, Int.reduceMul, Int.reduceNeg, Int.reduceBEq, Int.reduceBNe, Int.reduceEq]) | refine ⟨by kernel_rfl, ?_⟩ | refine ⟨by decide, ?_⟩))
    refine go_loop (fun p : Nat × List Ev × Int => ⟨[(1, .c (.sl (encEs l))), (6, .ptr 0 0), (10, .c (.val (.int .i64 p.1)))], [(0, .box [.c (.sl (encEs p.2.1)), .c (.val (.int .i64 room)), .c (.val (.int .i64 p.2.2))] 94)], 1⟩)
      (fun p => p.1 ≤ l.length ∧ p.2.1.length ≤ p.1 ∧ rfromF room (l.drop p.1) p.2.1 p.2.2 = rfromF room l [] 0) (fun p => l.length - p.1) (0, [], 0) ⟨Nat.zero_le _, Nat.zero_le _, rfl⟩ (Weak.forget' (by repeat (first | exact trivial | refine ⟨rfl, ?_⟩)) (by repeat (first | exact trivial | refine ⟨rfl, ?_⟩)) rfl) ?_
    rintro ⟨p, acc, last⟩ ⟨hp, ha, hfr⟩
    simp only at hp ha hfr
    (repeat (first | refine go_seq ?_ | refine go_skip ?_ | refine go_blk ?_ | refine go_block ?_ | refine go_scope (fun _ _ _ h => h) ?_ | refine go_label ?_ | (refine go_region hR ?_; simp only [EV1, EV2, EV3, EV4, EV5, EV6, EV7, EV8, EV9, EV10, EV11, eqF, Op.operands, IntKind.bits, descF, sizeF, bytesF, zeroF, Nat.reduceLT, Nat.reduceLeDiff, Nat.reduceAdd, Nat.reduceSub, Nat.reduceMul, Nat.reduceBEq, Nat.reduceEqDiff, reduceCtorEq, ↓reduceIte, Int.reduceToNat, Nat.reducePow, Int.reducePow, Int.reduceLE, Int.reduceLT, Int.reduceAdd, Int.reduceSub, Int.reduceMul, Int.reduceNeg, Int.reduceBEq, Int.reduceBNe, Int.reduceEq]) | (refine go_draw hR rfl ?_; simp only [EV1, EV2, EV3, EV4, EV5, EV6, EV7, EV8, EV9, EV10, EV11, eqF, Op.operands, IntKind.bits, descF, sizeF, bytesF, zeroF, Nat.reduceLT, Nat.reduceLeDiff, Nat.reduceAdd, Nat.reduceSub, Nat.reduceMul, Nat.reduceBEq, Nat.reduceEqDiff, reduceCtorEq, ↓reduceIte, Int.reduceToNat, Nat.reducePow, Int.reducePow, Int.reduceLE, Int.reduceLT, Int.reduceAdd, Int.reduceSub, Int.reduceMul, Int.reduceNeg, Int.reduceBEq, Int.reduceBNe, Int.reduceEq]) | refine ⟨by kernel_rfl, ?_⟩ | refine ⟨by decide, ?_⟩))
    by_cases hlt : p < l.length
    · have f2 : decide (((p : Nat) : Int) < (((encEs l).length : Nat) : Int)) = true := decide_eq_true (by rw [encEs_len]; omega)
      have hd : l.drop p = l[p] :: l.drop (p+1) := List.drop_eq_getElem_cons hlt
      refine go_cond (by rfl) (fun hc => ?_) (fun hc => absurd (hc.symm.trans f2) (by simp))
      (repeat (first | refine go_seq ?_ | refine go_skip ?_ | refine go_blk ?_ | refine go_block ?_ | refine go_scope (fun _ _ _ h => h) ?_ | refine go_label ?_))
      refine go_region hR ?_
      simp only [EV1, EV2, EV3, EV4, EV5, EV6, EV7, EV8, EV9, EV10, EV11, eqF, Op.operands, IntKind.bits, descF, sizeF, bytesF, zeroF, Nat.reduceLT, Nat.reduceLeDiff, Nat.reduceAdd, Nat.reduceSub, Nat.reduceMul, Nat.reduceBEq, Nat.reduceEqDiff, reduceCtorEq, ↓reduceIte, Int.reduceToNat, Nat.reducePow, Int.reducePow, Int.reduceLE, Int.reduceLT, Int.reduceAdd, Int.reduceSub, Int.reduceMul, Int.reduceNeg, Int.reduceBEq, Int.reduceBNe, Int.reduceEq, encEs_getD l p hlt, encE]
      (repeat (refine And.intro ?_ ?_; focus ((repeat' apply And.intro) <;> (first | exact trivial | decide | (intro u hu; exact encEs_mem hu) | (intro u hu; rw [List.mem_singleton.1 hu]; rfl) | omega | (simp only [encEs_len, List.length_append, List.length_cons, List.length_nil, List.length_map, List.length_take, List.length_drop] <;> omega) | exact chkD_of (by kernel_rfl) | kernel_rfl | assumption))))
      refine CallK.mut [0] (rput_q room acc last l[p] (by omega)) (by decide) (by intro b hb; simp at hb ⊢; omega) rfl (by (repeat' apply And.intro) <;> first | trivial | rfl) rfl (by (repeat' apply And.intro) <;> first | trivial | rfl) (by exact Nat.le_of_ble_eq_true rfl) ?_
      simp only [rB, EV1, EV2, EV3, EV4, EV5, EV6, EV7, EV8, EV9, EV10, EV11, eqF, Op.operands, IntKind.bits, descF, sizeF, bytesF, zeroF, Nat.reduceLT, Nat.reduceLeDiff, Nat.reduceAdd, Nat.reduceSub, Nat.reduceMul, Nat.reduceBEq, Nat.reduceEqDiff, reduceCtorEq, ↓reduceIte, Int.reduceToNat, Nat.reducePow, Int.reducePow, Int.reduceLE, Int.reduceLT, Int.reduceAdd, Int.reduceSub, Int.reduceMul, Int.reduceNeg, Int.reduceBEq, Int.reduceBNe, Int.reduceEq]
      (repeat (first | refine go_seq ?_ | refine go_skip ?_ | refine go_blk ?_ | refine go_block ?_ | refine go_scope (fun _ _ _ h => h) ?_ | refine go_label ?_ | (refine go_region hR ?_; simp only [EV1, EV2, EV3, EV4, EV5, EV6, EV7, EV8, EV9, EV10, EV11, eqF, Op.operands, IntKind.bits, descF, sizeF, bytesF, zeroF, Nat.reduceLT, Nat.reduceLeDiff, Nat.reduceAdd, Nat.reduceSub, Nat.reduceMul, Nat.reduceBEq, Nat.reduceEqDiff, reduceCtorEq, ↓reduceIte, Int.reduceToNat, Nat.reducePow, Int.reducePow, Int.reduceLE, Int.reduceLT, Int.reduceAdd, Int.reduceSub, Int.reduceMul, Int.reduceNeg, Int.reduceBEq, Int.reduceBNe, Int.reduceEq]) | (refine go_draw hR rfl ?_; simp only [EV1, EV2, EV3, EV4, EV5, EV6, EV7, EV8, EV9, EV10, EV11, eqF, Op.operands, IntKind.bits, descF, sizeF, bytesF, zeroF, Nat.reduceLT, Nat.reduceLeDiff, Nat.reduceAdd, Nat.reduceSub, Nat.reduceMul, Nat.reduceBEq, Nat.reduceEqDiff, reduceCtorEq, ↓reduceIte, Int.reduceToNat, Nat.reducePow, Int.reducePow, Int.reduceLE, Int.reduceLT, Int.reduceAdd, Int.reduceSub, Int.reduceMul, Int.reduceNeg, Int.reduceBEq, Int.reduceBNe, Int.reduceEq]) | refine ⟨by kernel_rfl, ?_⟩ | refine ⟨by decide, ?_⟩))
      rw [hd, rfromF] at hfr
      by_cases hk : rputE room acc last l[p] = 0
      · rw [if_pos hk] at hfr
        have f3 : (rputE room acc last l[p] != 0) = false := by simpa using hk
        simp only [f3]
        refine go_cond (by rfl) (fun hc => absurd hc (by simp)) (fun hc => ?_)
        (repeat (first | refine go_seq ?_ | refine go_skip ?_ | refine go_blk ?_ | refine go_block ?_ | refine go_scope (fun _ _ _ h => h) ?_ | refine go_label ?_ | (refine go_region hR ?_; simp only [EV1, EV2, EV3, EV4, EV5, EV6, EV7, EV8, EV9, EV10, EV11, eqF, Op.operands, IntKind.bits, descF, sizeF, bytesF, zeroF, Nat.reduceLT, Nat.reduceLeDiff, Nat.reduceAdd, Nat.reduceSub, Nat.reduceMul, Nat.reduceBEq, Nat.reduceEqDiff, reduceCtorEq, ↓reduceIte, Int.reduceToNat, Nat.reducePow, Int.reducePow, Int.reduceLE, Int.reduceLT, Int.reduceAdd, Int.reduceSub, Int.reduceMul, Int.reduceNeg, Int.reduceBEq, Int.reduceBNe, Int.reduceEq]) | (refine go_draw hR rfl ?_; simp only [EV1, EV2, EV3, EV4, EV5, EV6, EV7, EV8, EV9, EV10, EV11, eqF, Op.operands, IntKind.bits, descF, sizeF, bytesF, zeroF, Nat.reduceLT, Nat.reduceLeDiff, Nat.reduceAdd, Nat.reduceSub, Nat.reduceMul, Nat.reduceBEq, Nat.reduceEqDiff, reduceCtorEq, ↓reduceIte, Int.reduceToNat, Nat.reducePow, Int.reducePow, Int.reduceLE, Int.reduceLT, Int.reduceAdd, Int.reduceSub, Int.reduceMul, Int.reduceNeg, Int.reduceBEq, Int.reduceBNe, Int.reduceEq]) | refine ⟨by kernel_rfl, ?_⟩ | refine ⟨by decide, ?_⟩))
        simp only [wrap_i64_succ p (by omega)]
        have hpl := rputL_len room acc last l[p]
        refine go_fin ⟨(p + 1, rputL room acc last l[p], rputLast room acc last l[p]), ⟨by simp only; omega, by simp only; omega, hfr⟩, by simp only; omega, (Weak.forget' (by repeat (first | exact trivial | refine ⟨rfl, ?_⟩)) (by repeat (first | exact trivial | refine ⟨rfl, ?_⟩)) rfl)⟩
      · rw [if_neg hk] at hfr
        have f3 : (rputE room acc last l[p] != 0) = true := by simpa using hk
        simp only [f3]
        refine go_cond (by rfl) (fun hc => ?_) (fun hc => absurd hc (by simp))
        (repeat (first | refine go_seq ?_ | refine go_skip ?_ | refine go_blk ?_ | refine go_block ?_ | refine go_scope (fun _ _ _ h => h) ?_ | refine go_label ?_ | (refine go_region hR ?_; simp only [EV1, EV2, EV3, EV4, EV5, EV6, EV7, EV8, EV9, EV10, EV11, eqF, Op.operands, IntKind.bits, descF, sizeF, bytesF, zeroF, Nat.reduceLT, Nat.reduceLeDiff, Nat.reduceAdd, Nat.reduceSub, Nat.reduceMul, Nat.reduceBEq, Nat.reduceEqDiff, reduceCtorEq, ↓reduceIte, Int.reduceToNat, Nat.reducePow, Int.reducePow, Int.reduceLE, Int.reduceLT, Int.reduceAdd, Int.reduceSub, Int.reduceMul, Int.reduceNeg, Int.reduceBEq, Int.reduceBNe, Int.reduceEq]) | (refine go_draw hR rfl ?_; simp only [EV1, EV2, EV3, EV4, EV5, EV6, EV7, EV8, EV9, EV10, EV11, eqF, Op.operands, IntKind.bits, descF, sizeF, bytesF, zeroF, Nat.reduceLT, Nat.reduceLeDiff, Nat.reduceAdd, Nat.reduceSub, Nat.reduceMul, Nat.reduceBEq, Nat.reduceEqDiff, reduceCtorEq, ↓reduceIte, Int.reduceToNat, Nat.reducePow, Int.reducePow, Int.reduceLE, Int.reduceLT, Int.reduceAdd, Int.reduceSub, Int.reduceMul, Int.reduceNeg, Int.reduceBEq, Int.reduceBNe, Int.reduceEq]) | refine ⟨by kernel_rfl, ?_⟩ | refine ⟨by decide, ?_⟩))
        rw [← hfr]
        refine go_returnO [] (by decide) ttOk rfl ?_ rfl rfl
        exact (by (repeat' apply And.intro) <;> first | trivial | rfl | exact Nat.le_of_ble_eq_true rfl)
    · have f2 : decide (((p : Nat) : Int) < (((encEs l).length : Nat) : Int)) = false := decide_eq_false (by rw [encEs_len]; omega)
      refine go_cond (by rfl) (fun hc => absurd (hc.symm.trans f2) (by simp)) (fun hc => ?_)
      refine go_exit rfl ?_
      (repeat (first | refine go_seq ?_ | refine go_skip ?_ | refine go_blk ?_ | refine go_block ?_ | refine go_scope (fun _ _ _ h => h) ?_ | refine go_label ?_ | (refine go_region hR ?_; simp only [EV1, EV2, EV3, EV4, EV5, EV6, EV7, EV8, EV9, EV10, EV11, eqF, Op.operands, IntKind.bits, descF, sizeF, bytesF, zeroF, Nat.reduceLT, Nat.reduceLeDiff, Nat.reduceAdd, Nat.reduceSub, Nat.reduceMul, Nat.reduceBEq, Nat.reduceEqDiff, reduceCtorEq, ↓reduceIte, Int.reduceToNat, Nat.reducePow, Int.reducePow, Int.reduceLE, Int.reduceLT, Int.reduceAdd, Int.reduceSub, Int.reduceMul, Int.reduceNeg, Int.reduceBEq, Int.reduceBNe, Int.reduceEq]) | (refine go_draw hR rfl ?_; simp only [EV1, EV2, EV3, EV4, EV5, EV6, EV7, EV8, EV9, EV10, EV11, eqF, Op.operands, IntKind.bits, descF, sizeF, bytesF, zeroF, Nat.reduceLT, Nat.reduceLeDiff, Nat.reduceAdd, Nat.reduceSub, Nat.reduceMul, Nat.reduceBEq, Nat.reduceEqDiff, reduceCtorEq, ↓reduceIte, Int.reduceToNat, Nat.reducePow, Int.reducePow, Int.reduceLE, Int.reduceLT, Int.reduceAdd, Int.reduceSub, Int.reduceMul, Int.reduceNeg, Int.reduceBEq, Int.reduceBNe, Int.reduceEq]) | refine ⟨by kernel_rfl, ?_⟩ | refine ⟨by decide, ?_⟩))
      rw [List.drop_of_length_le (by omega), rfromF] at hfr
      rw [← hfr]
      refine go_returnO [0] (by decide) ttOk rfl ?_ rfl rfl
      exact (by (repeat' apply And.intro) <;> first | trivial | rfl | exact Nat.le_of_ble_eq_true rfl)

/-! ### The two put alike, where the last barrier is none below zero -/
theorem put_eq {room : Int} {l : List Ev} {last : Int} (e : Ev) (hr : 1 ≤ room) (hl : 0 ≤ last) : rputE room l last e = putE room l last e ∧ rputL room l last e = putL room l last e ∧ (rputLast room l last e = putLast room l last e) ∧ 0 ≤ putLast room l last e := by
  have h1 : rputE room l last e = putE room l last e := by unfold rputE putE; rw [if_neg (show ¬ room = 0 by omega)]
  refine ⟨h1, by unfold rputL putL; rw [h1], ?_⟩
  unfold rputLast putLast
  rw [h1]
  by_cases h0 : putE room l last e = 0
  · rw [if_pos h0, if_pos h0]
    unfold putE at h0
    rw [if_neg (show ¬ room = 0 by omega)] at h0
    by_cases hk : checkE e = 0
    · rw [if_neg (by simpa using hk)] at h0
      split at h0
      · omega
      split at h0
      · omega
      · rename_i h2 h3
        unfold checkE at hk
        split at hk
        · rename_i hc
          rcases hc with hc | hc
          · rw [if_neg (by omega)]
            split <;> constructor <;> omega
          · rw [if_pos hc.1]
            have : ¬ e.id ≤ last := fun h => h3 ⟨hc.1, h⟩
            rw [if_pos (by omega)]
            exact ⟨rfl, by omega⟩
        · omega
    · rw [if_pos hk] at h0; exact absurd h0 hk
  · rw [if_neg h0, if_neg h0]; exact ⟨rfl, hl⟩
theorem fromF_eq {room : Int} (hr : 1 ≤ room) : ∀ (l acc : List Ev) (last : Int), 0 ≤ last → rfromF room l acc last = fromF room l acc last
  | [], acc, last, _ => rfl
  | e :: r, acc, last, h => by
    obtain ⟨h1, h2, h3, h4⟩ := put_eq (l := acc) e hr h
    simp only [rfromF, fromF, h1, h2, h3]
    rw [fromF_eq hr r _ _ h4]
theorem fromOf_eq (room : Int) (l : List Ev) : rfromOf room l = fromOf room l := by
  unfold rfromOf fromOf
  by_cases h : 1 ≤ room ∧ room ≤ 64
  · rw [if_neg (not_not_intro h), if_neg (not_not_intro h), fromF_eq h.1 _ _ _ (Int.le_refl _)]
  · rw [if_pos h, if_pos h]
end Go.Ab.Try
