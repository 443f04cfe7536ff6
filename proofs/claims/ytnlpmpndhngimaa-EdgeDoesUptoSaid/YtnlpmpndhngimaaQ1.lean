/-
  Events; what may go along an edge.
-/
import Derived.Test.YtnlpmpndhngimaaE0
import Derived.Test.YtnlpmpndhngimaaN3
import Derived.Test.YtnlpmpndhngimaaA11
set_option linter.unusedVariables false
set_option linter.unusedSimpArgs false
namespace Go.Ab.Try
open Go Go.Proofs Go.Ab

structure Ev where
  kind : Int
  key : Int
  val : Int
  id : Int
deriving DecidableEq
/-- An event's cells. -/
def encE (e : Ev) : List CV := [.val (.int .i64 e.kind), .val (.int .i64 e.key), .val (.int .i64 e.val), .val (.int .i64 e.id)]
/-- An event as a value. -/
abbrev agE (e : Ev) : AV := .agg [.c (.val (.int .i64 e.kind)), .c (.val (.int .i64 e.key)), .c (.val (.int .i64 e.val)), .c (.val (.int .i64 e.id))]
def encEs (l : List Ev) : List (List CV) := l.map encE
theorem encEs_len (l : List Ev) : (encEs l).length = l.length := by simp [encEs]
theorem encEs_mem {l : List Ev} {u : List CV} (h : u ∈ encEs l) : u.length = 4 := by
  obtain ⟨e, _, rfl⟩ := List.mem_map.1 h
  rfl
def recE (n : Int) : Ev := ⟨1, 0, n, 0⟩

theorem rec_t (n : Int) : FnP Try.prog 42 [.c (.val (.int .i64 n))] (agE (recE n)) := by
  refine FnP.intro (tt := tt) Try.func42 rfl (by kernel_rfl) (by simp [Try.ntmps42]) fun w0 A hA => ?_
  have hR := reckB_ok eqOk ttOk
  simp only [argT, Try.ntmps42]
  (repeat (first | refine go_seq ?_ | refine go_skip ?_ | refine go_blk ?_ | refine go_block ?_ | refine go_scope (fun _ _ _ h => h) ?_ | refine go_label ?_ | (refine go_region hR ?_; simp only [EV1, EV2, EV3, EV4, EV5, EV6, EV7, EV8, EV9, EV10, EV11, eqF, Op.operands, IntKind.bits, descF, sizeF, bytesF, zeroF, Nat.reduceLT, Nat.reduceLeDiff, Nat.reduceAdd, Nat.reduceSub, Nat.reduceMul, Nat.reduceBEq, Nat.reduceEqDiff, reduceCtorEq, ↓reduceIte, Int.reduceToNat, Nat.reducePow, Int.reducePow, Int.reduceLE, Int.reduceLT, Int.reduceAdd, Int.reduceSub, Int.reduceMul, Int.reduceNeg, Int.reduceBEq, Int.reduceBNe, Int.reduceEq]) | (refine go_draw hR rfl ?_; simp only [EV1, EV2, EV3, EV4, EV5, EV6, EV7, EV8, EV9, EV10, EV11, eqF, Op.operands, IntKind.bits, descF, sizeF, bytesF, zeroF, Nat.reduceLT, Nat.reduceLeDiff, Nat.reduceAdd, Nat.reduceSub, Nat.reduceMul, Nat.reduceBEq, Nat.reduceEqDiff, reduceCtorEq, ↓reduceIte, Int.reduceToNat, Nat.reducePow, Int.reducePow, Int.reduceLE, Int.reduceLT, Int.reduceAdd, Int.reduceSub, Int.reduceMul, Int.reduceNeg, Int.reduceBEq, Int.reduceBNe, Int.reduceEq]) | refine ⟨by kernel_rfl, ?_⟩))
  (refine go_return ttOk (fun _ h => h) rfl ?_ ?_)
  · exact ⟨⟨Nat.le_refl 4, trivial⟩, ⟨trivial, trivial, trivial, trivial, trivial⟩⟩
  · rfl

/-- What is wrong with an event. -/
def checkE (e : Ev) : Int := if (e.kind = 1 ∧ e.id = 0) ∨ (e.kind = 2 ∧ e.key = 0 ∧ e.val = 0 ∧ 1 ≤ e.id ∧ e.id ≤ 9007199254740992) then 0 else 1

set_option maxRecDepth 10000 in
set_option maxHeartbeats 4000000 in
theorem check_t (e : Ev) : FnP Try.prog 27 [agE e] (.c (.val (.int .i64 (checkE e)))) := by
  refine FnP.intro (tt := tt) Try.func27 rfl (by kernel_rfl) (by simp [Try.ntmps27]) fun w0 A hA => ?_
  have hR := reckB_ok eqOk ttOk
  simp only [argT, Try.ntmps27]
  (repeat (first | refine go_seq ?_ | refine go_skip ?_ | refine go_blk ?_ | refine go_block ?_ | refine go_scope (fun _ _ _ h => h) ?_ | refine go_label ?_))
  refine go_region hR ?_
  simp only [EV1, EV2, EV3, EV4, EV5, EV6, EV7, EV8, EV9, EV10, EV11, eqF, Op.operands, IntKind.bits, descF, sizeF, bytesF, zeroF, Nat.reduceLT, Nat.reduceLeDiff, Nat.reduceAdd, Nat.reduceSub, Nat.reduceMul, Nat.reduceBEq, Nat.reduceEqDiff, reduceCtorEq, ↓reduceIte, Int.reduceToNat, Nat.reducePow, Int.reducePow, Int.reduceLE, Int.reduceLT, Int.reduceAdd, Int.reduceSub, Int.reduceMul, Int.reduceNeg, Int.reduceBEq, Int.reduceBNe, Int.reduceEq]
  (repeat (first | refine go_seq ?_ | refine go_skip ?_ | refine go_blk ?_ | refine go_block ?_ | refine go_scope (fun _ _ _ h => h) ?_ | refine go_label ?_))
  refine go_draw hR rfl ?_
  simp only [EV1, EV2, EV3, EV4, EV5, EV6, EV7, EV8, EV9, EV10, EV11, eqF, Op.operands, IntKind.bits, descF, sizeF, bytesF, zeroF, Nat.reduceLT, Nat.reduceLeDiff, Nat.reduceAdd, Nat.reduceSub, Nat.reduceMul, Nat.reduceBEq, Nat.reduceEqDiff, reduceCtorEq, ↓reduceIte, Int.reduceToNat, Nat.reducePow, Int.reducePow, Int.reduceLE, Int.reduceLT, Int.reduceAdd, Int.reduceSub, Int.reduceMul, Int.reduceNeg, Int.reduceBEq, Int.reduceBNe, Int.reduceEq]
  refine ⟨by decide, by decide, by kernel_rfl, ?_⟩
  (repeat (first | refine go_seq ?_ | refine go_skip ?_ | refine go_blk ?_ | refine go_block ?_ | refine go_scope (fun _ _ _ h => h) ?_ | refine go_label ?_))
  refine go_region hR ?_
  by_cases hA : e.kind = 1 ∧ e.id = 0
  · have hr : checkE e = 0 := if_pos (.inl hA)
    have f0 : decide ([e.kind, e.key, e.val, e.id] = [1, e.key, e.val, 0]) = true := by simp [hA.1, hA.2]
    simp (maxSteps := 2000000) only [EV1, EV2, EV3, EV4, EV5, EV6, EV7, EV8, EV9, EV10, EV11, eqF, Op.operands, IntKind.bits, descF, sizeF, bytesF, zeroF, Nat.reduceLT, Nat.reduceLeDiff, Nat.reduceAdd, Nat.reduceSub, Nat.reduceMul, Nat.reduceBEq, Nat.reduceEqDiff, reduceCtorEq, ↓reduceIte, Int.reduceToNat, Nat.reducePow, Int.reducePow, Int.reduceLE, Int.reduceLT, Int.reduceAdd, Int.reduceSub, Int.reduceMul, Int.reduceNeg, Int.reduceBEq, Int.reduceBNe, Int.reduceEq, f0]
    (repeat (refine ⟨by decide, ?_⟩))
    refine go_cond (by rfl) (fun hc => ?_) (fun hc => absurd hc (by simp))
    (repeat (first | refine go_seq ?_ | refine go_skip ?_ | refine go_blk ?_ | refine go_block ?_ | refine go_scope (fun _ _ _ h => h) ?_ | refine go_label ?_ | (refine go_region hR ?_; simp only [EV1, EV2, EV3, EV4, EV5, EV6, EV7, EV8, EV9, EV10, EV11, eqF, Op.operands, IntKind.bits, descF, sizeF, bytesF, zeroF, Nat.reduceLT, Nat.reduceLeDiff, Nat.reduceAdd, Nat.reduceSub, Nat.reduceMul, Nat.reduceBEq, Nat.reduceEqDiff, reduceCtorEq, ↓reduceIte, Int.reduceToNat, Nat.reducePow, Int.reducePow, Int.reduceLE, Int.reduceLT, Int.reduceAdd, Int.reduceSub, Int.reduceMul, Int.reduceNeg, Int.reduceBEq, Int.reduceBNe, Int.reduceEq]) | (refine go_draw hR rfl ?_; simp only [EV1, EV2, EV3, EV4, EV5, EV6, EV7, EV8, EV9, EV10, EV11, eqF, Op.operands, IntKind.bits, descF, sizeF, bytesF, zeroF, Nat.reduceLT, Nat.reduceLeDiff, Nat.reduceAdd, Nat.reduceSub, Nat.reduceMul, Nat.reduceBEq, Nat.reduceEqDiff, reduceCtorEq, ↓reduceIte, Int.reduceToNat, Nat.reducePow, Int.reducePow, Int.reduceLE, Int.reduceLT, Int.reduceAdd, Int.reduceSub, Int.reduceMul, Int.reduceNeg, Int.reduceBEq, Int.reduceBNe, Int.reduceEq]) | refine ⟨by kernel_rfl, ?_⟩))
    rw [hr]
    (refine go_return ttOk (fun _ h => h) rfl ?_ ?_)
    · trivial
    · rfl
  · have fA : decide ([e.kind, e.key, e.val, e.id] = [1, e.key, e.val, 0]) = false := by simpa using fun h => (fun h2 => hA ⟨h, h2⟩)
    by_cases hB : e.kind = 2 ∧ e.key = 0 ∧ e.val = 0
    · have fB : decide ([e.kind, e.key, e.val, e.id] = [2, 0, 0, e.id]) = true := by simp [hB]
      by_cases hC : 1 ≤ e.id
      · by_cases hD : e.id ≤ 9007199254740992
        · have hr : checkE e = 0 := if_pos (.inr ⟨hB.1, hB.2.1, hB.2.2, hC, hD⟩)
          have f0 : decide ([e.kind, e.key, e.val, e.id] = [1, e.key, e.val, 0]) = false := fA
          have f1 : decide ([e.kind, e.key, e.val, e.id] = [2, 0, 0, e.id]) = true := fB
          have f2 : decide (e.id ≥ 1) = true := decide_eq_true hC
          have f3 : decide (e.id ≤ 9007199254740992) = true := decide_eq_true hD
          simp (maxSteps := 2000000) only [EV1, EV2, EV3, EV4, EV5, EV6, EV7, EV8, EV9, EV10, EV11, eqF, Op.operands, IntKind.bits, descF, sizeF, bytesF, zeroF, Nat.reduceLT, Nat.reduceLeDiff, Nat.reduceAdd, Nat.reduceSub, Nat.reduceMul, Nat.reduceBEq, Nat.reduceEqDiff, reduceCtorEq, ↓reduceIte, Int.reduceToNat, Nat.reducePow, Int.reducePow, Int.reduceLE, Int.reduceLT, Int.reduceAdd, Int.reduceSub, Int.reduceMul, Int.reduceNeg, Int.reduceBEq, Int.reduceBNe, Int.reduceEq, f0, f1, f2, f3]
          (repeat (refine ⟨by decide, ?_⟩))
          refine go_cond (by rfl) (fun hc => ?_) (fun hc => absurd hc (by simp))
          (repeat (first | refine go_seq ?_ | refine go_skip ?_ | refine go_blk ?_ | refine go_block ?_ | refine go_scope (fun _ _ _ h => h) ?_ | refine go_label ?_ | (refine go_region hR ?_; simp only [EV1, EV2, EV3, EV4, EV5, EV6, EV7, EV8, EV9, EV10, EV11, eqF, Op.operands, IntKind.bits, descF, sizeF, bytesF, zeroF, Nat.reduceLT, Nat.reduceLeDiff, Nat.reduceAdd, Nat.reduceSub, Nat.reduceMul, Nat.reduceBEq, Nat.reduceEqDiff, reduceCtorEq, ↓reduceIte, Int.reduceToNat, Nat.reducePow, Int.reducePow, Int.reduceLE, Int.reduceLT, Int.reduceAdd, Int.reduceSub, Int.reduceMul, Int.reduceNeg, Int.reduceBEq, Int.reduceBNe, Int.reduceEq]) | (refine go_draw hR rfl ?_; simp only [EV1, EV2, EV3, EV4, EV5, EV6, EV7, EV8, EV9, EV10, EV11, eqF, Op.operands, IntKind.bits, descF, sizeF, bytesF, zeroF, Nat.reduceLT, Nat.reduceLeDiff, Nat.reduceAdd, Nat.reduceSub, Nat.reduceMul, Nat.reduceBEq, Nat.reduceEqDiff, reduceCtorEq, ↓reduceIte, Int.reduceToNat, Nat.reducePow, Int.reducePow, Int.reduceLE, Int.reduceLT, Int.reduceAdd, Int.reduceSub, Int.reduceMul, Int.reduceNeg, Int.reduceBEq, Int.reduceBNe, Int.reduceEq]) | refine ⟨by kernel_rfl, ?_⟩))
          rw [hr]
          (refine go_return ttOk (fun _ h => h) rfl ?_ ?_)
          · trivial
          · rfl
        · have hr : checkE e = 1 := if_neg (by rintro (h | h); exact hA h; exact hD h.2.2.2.2)
          have f0 : decide ([e.kind, e.key, e.val, e.id] = [1, e.key, e.val, 0]) = false := fA
          have f1 : decide ([e.kind, e.key, e.val, e.id] = [2, 0, 0, e.id]) = true := fB
          have f2 : decide (e.id ≥ 1) = true := decide_eq_true hC
          have f3 : decide (e.id ≤ 9007199254740992) = false := decide_eq_false hD
          simp (maxSteps := 2000000) only [EV1, EV2, EV3, EV4, EV5, EV6, EV7, EV8, EV9, EV10, EV11, eqF, Op.operands, IntKind.bits, descF, sizeF, bytesF, zeroF, Nat.reduceLT, Nat.reduceLeDiff, Nat.reduceAdd, Nat.reduceSub, Nat.reduceMul, Nat.reduceBEq, Nat.reduceEqDiff, reduceCtorEq, ↓reduceIte, Int.reduceToNat, Nat.reducePow, Int.reducePow, Int.reduceLE, Int.reduceLT, Int.reduceAdd, Int.reduceSub, Int.reduceMul, Int.reduceNeg, Int.reduceBEq, Int.reduceBNe, Int.reduceEq, f0, f1, f2, f3]
          (repeat (refine ⟨by decide, ?_⟩))
          refine go_cond (by rfl) (fun hc => absurd hc (by simp)) (fun hc => ?_)
          (repeat (first | refine go_seq ?_ | refine go_skip ?_ | refine go_blk ?_ | refine go_block ?_ | refine go_scope (fun _ _ _ h => h) ?_ | refine go_label ?_ | (refine go_region hR ?_; simp only [EV1, EV2, EV3, EV4, EV5, EV6, EV7, EV8, EV9, EV10, EV11, eqF, Op.operands, IntKind.bits, descF, sizeF, bytesF, zeroF, Nat.reduceLT, Nat.reduceLeDiff, Nat.reduceAdd, Nat.reduceSub, Nat.reduceMul, Nat.reduceBEq, Nat.reduceEqDiff, reduceCtorEq, ↓reduceIte, Int.reduceToNat, Nat.reducePow, Int.reducePow, Int.reduceLE, Int.reduceLT, Int.reduceAdd, Int.reduceSub, Int.reduceMul, Int.reduceNeg, Int.reduceBEq, Int.reduceBNe, Int.reduceEq]) | (refine go_draw hR rfl ?_; simp only [EV1, EV2, EV3, EV4, EV5, EV6, EV7, EV8, EV9, EV10, EV11, eqF, Op.operands, IntKind.bits, descF, sizeF, bytesF, zeroF, Nat.reduceLT, Nat.reduceLeDiff, Nat.reduceAdd, Nat.reduceSub, Nat.reduceMul, Nat.reduceBEq, Nat.reduceEqDiff, reduceCtorEq, ↓reduceIte, Int.reduceToNat, Nat.reducePow, Int.reducePow, Int.reduceLE, Int.reduceLT, Int.reduceAdd, Int.reduceSub, Int.reduceMul, Int.reduceNeg, Int.reduceBEq, Int.reduceBNe, Int.reduceEq]) | refine ⟨by kernel_rfl, ?_⟩))
          rw [hr]
          (refine go_return ttOk (fun _ h => h) rfl ?_ ?_)
          · trivial
          · rfl
      · have hr : checkE e = 1 := if_neg (by rintro (h | h); exact hA h; exact hC h.2.2.2.1)
        have f0 : decide ([e.kind, e.key, e.val, e.id] = [1, e.key, e.val, 0]) = false := fA
        have f1 : decide ([e.kind, e.key, e.val, e.id] = [2, 0, 0, e.id]) = true := fB
        have f2 : decide (e.id ≥ 1) = false := decide_eq_false hC
        simp (maxSteps := 2000000) only [EV1, EV2, EV3, EV4, EV5, EV6, EV7, EV8, EV9, EV10, EV11, eqF, Op.operands, IntKind.bits, descF, sizeF, bytesF, zeroF, Nat.reduceLT, Nat.reduceLeDiff, Nat.reduceAdd, Nat.reduceSub, Nat.reduceMul, Nat.reduceBEq, Nat.reduceEqDiff, reduceCtorEq, ↓reduceIte, Int.reduceToNat, Nat.reducePow, Int.reducePow, Int.reduceLE, Int.reduceLT, Int.reduceAdd, Int.reduceSub, Int.reduceMul, Int.reduceNeg, Int.reduceBEq, Int.reduceBNe, Int.reduceEq, f0, f1, f2]
        (repeat (refine ⟨by decide, ?_⟩))
        refine go_cond (by rfl) (fun hc => absurd hc (by simp)) (fun hc => ?_)
        (repeat (first | refine go_seq ?_ | refine go_skip ?_ | refine go_blk ?_ | refine go_block ?_ | refine go_scope (fun _ _ _ h => h) ?_ | refine go_label ?_ | (refine go_region hR ?_; simp only [EV1, EV2, EV3, EV4, EV5, EV6, EV7, EV8, EV9, EV10, EV11, eqF, Op.operands, IntKind.bits, descF, sizeF, bytesF, zeroF, Nat.reduceLT, Nat.reduceLeDiff, Nat.reduceAdd, Nat.reduceSub, Nat.reduceMul, Nat.reduceBEq, Nat.reduceEqDiff, reduceCtorEq, ↓reduceIte, Int.reduceToNat, Nat.reducePow, Int.reducePow, Int.reduceLE, Int.reduceLT, Int.reduceAdd, Int.reduceSub, Int.reduceMul, Int.reduceNeg, Int.reduceBEq, Int.reduceBNe, Int.reduceEq]) | (refine go_draw hR rfl ?_; simp only [EV1, EV2, EV3, EV4, EV5, EV6, EV7, EV8, EV9, EV10, EV11, eqF, Op.operands, IntKind.bits, descF, sizeF, bytesF, zeroF, Nat.reduceLT, Nat.reduceLeDiff, Nat.reduceAdd, Nat.reduceSub, Nat.reduceMul, Nat.reduceBEq, Nat.reduceEqDiff, reduceCtorEq, ↓reduceIte, Int.reduceToNat, Nat.reducePow, Int.reducePow, Int.reduceLE, Int.reduceLT, Int.reduceAdd, Int.reduceSub, Int.reduceMul, Int.reduceNeg, Int.reduceBEq, Int.reduceBNe, Int.reduceEq]) | refine ⟨by kernel_rfl, ?_⟩))
        rw [hr]
        (refine go_return ttOk (fun _ h => h) rfl ?_ ?_)
        · trivial
        · rfl
    · have hr : checkE e = 1 := if_neg (by rintro (h | h); exact hA h; exact hB ⟨h.1, h.2.1, h.2.2.1⟩)
      have fB : decide ([e.kind, e.key, e.val, e.id] = [2, 0, 0, e.id]) = false := by simpa using fun h h2 h3 => hB ⟨h, h2, h3⟩
      have f0 : decide ([e.kind, e.key, e.val, e.id] = [1, e.key, e.val, 0]) = false := fA
      have f1 : decide ([e.kind, e.key, e.val, e.id] = [2, 0, 0, e.id]) = false := fB
      simp (maxSteps := 2000000) only [EV1, EV2, EV3, EV4, EV5, EV6, EV7, EV8, EV9, EV10, EV11, eqF, Op.operands, IntKind.bits, descF, sizeF, bytesF, zeroF, Nat.reduceLT, Nat.reduceLeDiff, Nat.reduceAdd, Nat.reduceSub, Nat.reduceMul, Nat.reduceBEq, Nat.reduceEqDiff, reduceCtorEq, ↓reduceIte, Int.reduceToNat, Nat.reducePow, Int.reducePow, Int.reduceLE, Int.reduceLT, Int.reduceAdd, Int.reduceSub, Int.reduceMul, Int.reduceNeg, Int.reduceBEq, Int.reduceBNe, Int.reduceEq, f0, f1]
      (repeat (refine ⟨by decide, ?_⟩))
      refine go_cond (by rfl) (fun hc => absurd hc (by simp)) (fun hc => ?_)
      (repeat (first | refine go_seq ?_ | refine go_skip ?_ | refine go_blk ?_ | refine go_block ?_ | refine go_scope (fun _ _ _ h => h) ?_ | refine go_label ?_ | (refine go_region hR ?_; simp only [EV1, EV2, EV3, EV4, EV5, EV6, EV7, EV8, EV9, EV10, EV11, eqF, Op.operands, IntKind.bits, descF, sizeF, bytesF, zeroF, Nat.reduceLT, Nat.reduceLeDiff, Nat.reduceAdd, Nat.reduceSub, Nat.reduceMul, Nat.reduceBEq, Nat.reduceEqDiff, reduceCtorEq, ↓reduceIte, Int.reduceToNat, Nat.reducePow, Int.reducePow, Int.reduceLE, Int.reduceLT, Int.reduceAdd, Int.reduceSub, Int.reduceMul, Int.reduceNeg, Int.reduceBEq, Int.reduceBNe, Int.reduceEq]) | (refine go_draw hR rfl ?_; simp only [EV1, EV2, EV3, EV4, EV5, EV6, EV7, EV8, EV9, EV10, EV11, eqF, Op.operands, IntKind.bits, descF, sizeF, bytesF, zeroF, Nat.reduceLT, Nat.reduceLeDiff, Nat.reduceAdd, Nat.reduceSub, Nat.reduceMul, Nat.reduceBEq, Nat.reduceEqDiff, reduceCtorEq, ↓reduceIte, Int.reduceToNat, Nat.reducePow, Int.reducePow, Int.reduceLE, Int.reduceLT, Int.reduceAdd, Int.reduceSub, Int.reduceMul, Int.reduceNeg, Int.reduceBEq, Int.reduceBNe, Int.reduceEq]) | refine ⟨by kernel_rfl, ?_⟩))
      rw [hr]
      (refine go_return ttOk (fun _ h => h) rfl ?_ ?_)
      · trivial
      · rfl

end Go.Ab.Try
