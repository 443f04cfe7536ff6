/-
  Functions, and what they compute: printed by wg.py, a program of this work.
-/
import Derived.Test.YtipiagjhijnmhaaP0
set_option linter.unusedVariables false
set_option linter.unusedSimpArgs false
namespace Go.Ab.Try
open Go Go.Proofs Go.Ab

def pontoonref19_num (a0 : Int) : Bool :=
  ((decide (a0 ≥ 0)) && (decide (a0 ≤ 9007199254740992)))
set_option maxRecDepth 10000 in
set_option maxHeartbeats 8000000 in
theorem pontoonref19_num_t (a0 : Int) : FnP Try.prog 64 [.c (.val (.int .i64 a0))] (.c (.val (.bool (pontoonref19_num a0)))) := by
 refine FnP.intro (tt := tt) Try.func64 rfl (by kernel_rfl) (by simp [Try.ntmps64]) fun w0 A hA => ?_
 have hR := reckB_ok eqOk ttOk
 obtain ⟨res, hx0⟩ : ∃ r, pontoonref19_num a0 = r := ⟨_, rfl⟩
 simp only [hx0]
 unfold pontoonref19_num at hx0
 simp only [argT, Try.ntmps64]
 refine go_seq ?_
 refine go_regionJ hR ⟨[(0, .c (.val (.int .i64 a0)))], [], 0⟩ ?_ ?_
 ·skip
  simp only [EVB, eqF, Op.operands, IntKind.bits, descF, sizeF, bytesF, zeroF, seval, reduceCtorEq, ↓reduceIte]
  exact Weak.sub' ⟨rfl, trivial⟩ trivial (Nat.le_of_ble_eq_true rfl)
 ·skip
  refine go_seq ?_
  refine go_regionJ hR ⟨[(2, .c (.val (.bool ((decide (a0 ≥ 0)) && (decide (a0 ≤ 9007199254740992))))))], [], 0⟩ ?_ ?_
  ·skip
   rcases Bool.eq_false_or_eq_true (decide (a0 ≥ 0)) with h1 | h1
   ·simp only [h1, EVB, eqF, Op.operands, IntKind.bits, descF, sizeF, bytesF, zeroF, seval, reduceCtorEq, ↓reduceIte]
    try simp only [h1, BM]
    exact Weak.sub' ⟨rfl, trivial⟩ trivial (Nat.le_of_ble_eq_true rfl)
   ·simp only [h1, EVB, eqF, Op.operands, IntKind.bits, descF, sizeF, bytesF, zeroF, seval, reduceCtorEq, ↓reduceIte]
    try simp only [h1, BM]
    exact Weak.sub' ⟨rfl, trivial⟩ trivial (Nat.le_of_ble_eq_true rfl)
  ·skip
   subst hx0
   refine go_return ttOk (fun _ h => h) rfl ?_ ?_
   ·exact (by (repeat' apply And.intro) <;> first | trivial | exact Nat.le_of_ble_eq_true rfl | omega | (simp only [NM]; omega))
   ·first | rfl | (simp only [NM, CELLS] <;> rfl)

def pontoonref19_vector_L0 (a0 : (List Int)) (x7 : Nat) : Sum Bool Unit :=
  (if h8 : (decide (((x7 : Nat) : Int) < ((a0.length : Nat) : Int))) = true then (if h9 : (!(pontoonref19_num (List.getD a0 x7 default))) = true then (Sum.inl false) else (pontoonref19_vector_L0 a0 (x7 + 1))) else (Sum.inr ()))
termination_by a0.length - x7
decreasing_by all_goals (try simp only [GN, beq_iff_eq, beq_eq_false_iff_ne, bne_iff_ne, bne_eq_false_iff_eq] at *) <;> omega
def pontoonref19_vector (a0 : (List Int)) : Bool :=
  (bif ((decide (((a0.length : Nat) : Int) < 1)) || (decide (((a0.length : Nat) : Int) > 4))) then false else letIn (pontoonref19_vector_L0 a0 0) fun o3s => Sum.elim (fun q => q) (fun o3 => true) o3s)
set_option maxRecDepth 10000 in
set_option maxHeartbeats 8000000 in
theorem pontoonref19_vector_t (a0 : (List Int)) : FnP Try.prog 65 [.c (.sl (List.map cI64 a0))] (.c (.val (.bool (pontoonref19_vector a0)))) := by
 refine FnP.intro (tt := tt) Try.func65 rfl (by kernel_rfl) (by simp [Try.ntmps65]) fun w0 A hA => ?_
 have hR := reckB_ok eqOk ttOk
 obtain ⟨res, hx0⟩ : ∃ r, pontoonref19_vector a0 = r := ⟨_, rfl⟩
 simp only [hx0]
 unfold pontoonref19_vector at hx0
 simp only [argT, Try.ntmps65]
 refine go_seq ?_
 refine go_regionJ hR ⟨[(0, .c (.sl (List.map cI64 a0)))], [], 0⟩ ?_ ?_
 ·skip
  simp only [EVB, eqF, Op.operands, IntKind.bits, descF, sizeF, bytesF, zeroF, seval, reduceCtorEq, ↓reduceIte]
  exact Weak.sub' ⟨rfl, trivial⟩ trivial (Nat.le_of_ble_eq_true rfl)
 ·skip
  refine go_seq ?_
  refine go_seq ?_
  refine go_regionJ hR ⟨[(0, .c (.sl (List.map cI64 a0))), (11, .c (.val (.bool ((decide (((a0.length : Nat) : Int) < 1)) || (decide (((a0.length : Nat) : Int) > 4))))))], [], 0⟩ ?_ ?_
  ·skip
   rcases Bool.eq_false_or_eq_true (decide (((a0.length : Nat) : Int) < 1)) with h1 | h1
   ·simp only [h1, EVB, eqF, Op.operands, IntKind.bits, descF, sizeF, bytesF, zeroF, seval, reduceCtorEq, ↓reduceIte]
    try simp only [h1, BM]
    exact Weak.sub' ⟨rfl, rfl, trivial⟩ trivial (Nat.le_of_ble_eq_true rfl)
   ·simp only [h1, EVB, eqF, Op.operands, IntKind.bits, descF, sizeF, bytesF, zeroF, seval, reduceCtorEq, ↓reduceIte]
    try simp only [h1, BM]
    exact Weak.sub' ⟨rfl, rfl, trivial⟩ trivial (Nat.le_of_ble_eq_true rfl)
  ·skip
   refine go_cond (by rfl) (fun h2 => ?_) (fun h2 => ?_)
   ·have gh2 := h2
    try simp only [GN, beq_iff_eq, beq_eq_false_iff_ne, bne_iff_ne, bne_eq_false_iff_eq] at gh2
    simp only [h2, cond_true, cond_false] at hx0
    refine go_seq ?_
    refine go_regionJ hR ⟨[(2, .c (.val (.bool false)))], [], 0⟩ ?_ ?_
    ·skip
     simp only [EVB, eqF, Op.operands, IntKind.bits, descF, sizeF, bytesF, zeroF, seval, reduceCtorEq, ↓reduceIte]
     exact Weak.sub' ⟨rfl, trivial⟩ trivial (Nat.le_of_ble_eq_true rfl)
    ·skip
     subst hx0
     refine go_return ttOk (fun _ h => h) rfl ?_ ?_
     ·exact (by (repeat' apply And.intro) <;> first | trivial | exact Nat.le_of_ble_eq_true rfl | omega | (simp only [NM]; omega))
     ·first | rfl | (simp only [NM, CELLS] <;> rfl)
   ·have gh2 := h2
    try simp only [GN, beq_iff_eq, beq_eq_false_iff_ne, bne_iff_ne, bne_eq_false_iff_eq] at gh2
    simp only [h2, cond_true, cond_false] at hx0
    refine go_skip ?_
    refine go_seq ?_
    refine go_seq ?_
    refine go_regionJ hR ⟨[(0, .c (.sl (List.map cI64 a0))), (3, .c (.val (.int .i64 0)))], [], 0⟩ ?_ ?_
    ·skip
     simp only [EVB, eqF, Op.operands, IntKind.bits, descF, sizeF, bytesF, zeroF, seval, reduceCtorEq, ↓reduceIte]
     exact Weak.sub' ⟨rfl, rfl, trivial⟩ trivial (Nat.le_of_ble_eq_true rfl)
    ·skip
     obtain ⟨o3s, hx1, hx0⟩ := letIn_ex hx0
     refine go_joinE (fun p : Unit => ⟨[], [], 0⟩) (fun p : Unit => o3s = Sum.inr p) ?_ ?_
     ·refine go_block ?_
      refine go_len (t := 0) rfl (fun hl10 => ?_)
      simp only [List.length_map, maxLen_eq] at hl10
      refine go_loop (fun p : Nat => ⟨[(0, .c (.sl (List.map cI64 a0))), (3, .c (.val (.int .i64 ((p : Nat) : Int))))], [], 0⟩) (fun p : Nat => (p ≤ a0.length) ∧ pontoonref19_vector_L0 a0 p = o3s) (fun p : Nat => a0.length - p) 0 ⟨(by (try dsimp only); (repeat' apply And.intro) <;> first | trivial | omega | assumption | (simp; done)), hx1⟩ (Weak.canon [] [0, 3] (by decide) rfl trivial rfl (by simp) (by first | rfl | (simp only [NM, CELLS] <;> rfl) | simp [NM, CELLS]) rfl rfl) ?_
      rintro x7 ⟨hi11, hx1⟩
      try dsimp only at hi11 hx1 ⊢
      rw [pontoonref19_vector_L0.eq_def] at hx1
      refine go_seq ?_
      refine go_seq ?_
      refine go_regionJ hR ⟨[(0, .c (.sl (List.map cI64 a0))), (3, .c (.val (.int .i64 ((x7 : Nat) : Int)))), (15, .c (.val (.bool (decide (((x7 : Nat) : Int) < ((a0.length : Nat) : Int))))))], [], 0⟩ ?_ ?_
      ·skip
       simp only [EVB, eqF, Op.operands, IntKind.bits, descF, sizeF, bytesF, zeroF, seval, reduceCtorEq, ↓reduceIte]
       exact Weak.sub' ⟨rfl, rfl, rfl, trivial⟩ trivial (Nat.le_of_ble_eq_true rfl)
      ·skip
       refine go_cond (by rfl) (fun h8 => ?_) (fun h8 => ?_)
       ·have gh8 := h8
        try simp only [GN, beq_iff_eq, beq_eq_false_iff_ne, bne_iff_ne, bne_eq_false_iff_eq] at gh8
        simp only [h8, dite_true, dite_false, reduceDIte, Bool.false_eq_true] at hx1
        refine go_skip ?_
        refine go_seq ?_
        refine go_block ?_
        refine go_seq ?_
        refine go_regionJ hR ⟨[(0, .c (.sl (List.map cI64 a0))), (3, .c (.val (.int .i64 ((x7 : Nat) : Int)))), (23, .c (.val (.bool (!(pontoonref19_num (List.getD a0 x7 default))))))], [], 0⟩ ?_ ?_
        ·skip
         have bq12 : x7 < a0.length := by omega
         have q12 := map_getD cI64 a0 x7 default bq12
         simp only [q12, EVB, eqF, Op.operands, IntKind.bits, descF, sizeF, bytesF, zeroF, seval, reduceCtorEq, ↓reduceIte, CELLS]
         refine ⟨(by (repeat' apply And.intro) <;> first | trivial | rfl | exact Nat.le_of_ble_eq_true rfl | omega | (intro u hu; obtain ⟨x, _, rfl⟩ := List.mem_map.1 hu; rfl) | (intro u hu; simp only [List.mem_cons, List.not_mem_nil, or_false] at hu; subst hu; rfl) | (simp only [NM]; omega) | (simp; done)), ?_⟩
         refine CallK.freshE (pontoonref19_num_t (List.getD a0 x7 default)).toO rfl (by first | rfl | (simp only [NM]; done)) (by (repeat' apply And.intro) <;> first | trivial | rfl | omega | (simp only [NM]; omega)) (.inl rfl) (by exact Nat.le_of_ble_eq_true rfl) ?_
         try simp only [q12, EVB, eqF, Op.operands, IntKind.bits, descF, sizeF, bytesF, zeroF, seval, reduceCtorEq, ↓reduceIte, CELLS]
         exact Weak.sub' ⟨rfl, rfl, rfl, trivial⟩ trivial (Nat.le_of_ble_eq_true rfl)
        ·skip
         refine go_cond (by rfl) (fun h9 => ?_) (fun h9 => ?_)
         ·have gh9 := h9
          try simp only [GN, beq_iff_eq, beq_eq_false_iff_ne, bne_iff_ne, bne_eq_false_iff_eq] at gh9
          simp only [h9, dite_true, dite_false, reduceDIte, Bool.false_eq_true] at hx1
          refine go_seq ?_
          refine go_regionJ hR ⟨[(2, .c (.val (.bool false)))], [], 0⟩ ?_ ?_
          ·skip
           simp only [EVB, eqF, Op.operands, IntKind.bits, descF, sizeF, bytesF, zeroF, seval, reduceCtorEq, ↓reduceIte]
           exact Weak.sub' ⟨rfl, trivial⟩ trivial (Nat.le_of_ble_eq_true rfl)
          ·skip
           subst hx1
           simp only [Sum.elim_inl] at hx0
           subst hx0
           refine go_return ttOk (fun _ h => h) rfl ?_ ?_
           ·exact (by (repeat' apply And.intro) <;> first | trivial | exact Nat.le_of_ble_eq_true rfl | omega | (simp only [NM]; omega))
           ·first | rfl | (simp only [NM, CELLS] <;> rfl)
         ·have gh9 := h9
          try simp only [GN, beq_iff_eq, beq_eq_false_iff_ne, bne_iff_ne, bne_eq_false_iff_eq] at gh9
          simp only [h9, dite_true, dite_false, reduceDIte, Bool.false_eq_true] at hx1
          refine go_skip ?_
          refine go_blk ?_
          refine go_regionJ hR ⟨[(0, .c (.sl (List.map cI64 a0))), (3, .c (.val (.int .i64 ((x7 + 1 : Nat) : Int))))], [], 0⟩ ?_ ?_
          ·skip
           have w13 : IntKind.i64.wrap (((x7 : Nat) : Int) + 1) = ((x7 + 1 : Nat) : Int) := by rw [IntKind.wrap_i64]; omega
           simp only [w13, EVB, eqF, Op.operands, IntKind.bits, descF, sizeF, bytesF, zeroF, seval, reduceCtorEq, ↓reduceIte, CELLS]
           exact Weak.sub' ⟨rfl, rfl, trivial⟩ trivial (Nat.le_of_ble_eq_true rfl)
          ·skip
           exact go_fin ⟨x7 + 1, ⟨(by (try dsimp only); (repeat' apply And.intro) <;> first | trivial | omega | assumption | (simp; done)), hx1⟩, by (try dsimp only); omega, (Weak.canon [] [0, 3] (by decide) rfl trivial rfl (by simp) (by first | rfl | (simp only [NM, CELLS] <;> rfl) | simp [NM, CELLS]) rfl rfl)⟩
       ·have gh8 := h8
        try simp only [GN, beq_iff_eq, beq_eq_false_iff_ne, bne_iff_ne, bne_eq_false_iff_eq] at gh8
        simp only [h8, dite_true, dite_false, reduceDIte, Bool.false_eq_true] at hx1
        refine go_exit rfl ?_
        exact go_fin ⟨(), hx1.symm, (Weak.canon [] [] (by decide) rfl trivial rfl (by simp) (by first | rfl | (simp only [NM, CELLS] <;> rfl) | simp [NM, CELLS]) rfl rfl)⟩
     ·rintro o3 hp
      try dsimp only at hp
      subst hp
      simp only [Sum.elim_inr] at hx0
      refine go_seq ?_
      refine go_regionJ hR ⟨[(2, .c (.val (.bool true)))], [], 0⟩ ?_ ?_
      ·skip
       simp only [EVB, eqF, Op.operands, IntKind.bits, descF, sizeF, bytesF, zeroF, seval, reduceCtorEq, ↓reduceIte]
       exact Weak.sub' ⟨rfl, trivial⟩ trivial (Nat.le_of_ble_eq_true rfl)
      ·skip
       subst hx0
       refine go_return ttOk (fun _ h => h) rfl ?_ ?_
       ·exact (by (repeat' apply And.intro) <;> first | trivial | exact Nat.le_of_ble_eq_true rfl | omega | (simp only [NM]; omega))
       ·first | rfl | (simp only [NM, CELLS] <;> rfl)

def pontoonref15_SameInts_L0 (a0 : (List Int)) (a1 : (List Int)) (x6 : Nat) : Sum Bool Unit :=
  (if h7 : (decide (((x6 : Nat) : Int) < ((a0.length : Nat) : Int))) = true then (if h8 : ((List.getD a0 x6 default) != (List.getD a1 x6 default)) = true then (Sum.inl false) else (pontoonref15_SameInts_L0 a0 a1 (x6 + 1))) else (Sum.inr ()))
termination_by a0.length - x6
decreasing_by all_goals (try simp only [GN, beq_iff_eq, beq_eq_false_iff_ne, bne_iff_ne, bne_eq_false_iff_eq] at *) <;> omega
def pontoonref15_SameInts (a0 : (List Int)) (a1 : (List Int)) : Bool :=
  (bif (((a0.length : Nat) : Int) != ((a1.length : Nat) : Int)) then false else letIn (pontoonref15_SameInts_L0 a0 a1 0) fun o2s => Sum.elim (fun q => q) (fun o2 => true) o2s)
set_option maxRecDepth 10000 in
set_option maxHeartbeats 8000000 in
theorem pontoonref15_SameInts_t (a0 : (List Int)) (a1 : (List Int)) : FnP Try.prog 14 [.c (.sl (List.map cI64 a0)), .c (.sl (List.map cI64 a1))] (.c (.val (.bool (pontoonref15_SameInts a0 a1)))) := by
 refine FnP.intro (tt := tt) Try.func14 rfl (by kernel_rfl) (by simp [Try.ntmps14]) fun w0 A hA => ?_
 have hR := reckB_ok eqOk ttOk
 obtain ⟨res, hx0⟩ : ∃ r, pontoonref15_SameInts a0 a1 = r := ⟨_, rfl⟩
 simp only [hx0]
 unfold pontoonref15_SameInts at hx0
 simp only [argT, Try.ntmps14]
 refine go_seq ?_
 refine go_regionJ hR ⟨[(0, .c (.sl (List.map cI64 a0))), (1, .c (.sl (List.map cI64 a1)))], [], 0⟩ ?_ ?_
 ·skip
  simp only [EVB, eqF, Op.operands, IntKind.bits, descF, sizeF, bytesF, zeroF, seval, reduceCtorEq, ↓reduceIte]
  exact Weak.sub' ⟨rfl, rfl, trivial⟩ trivial (Nat.le_of_ble_eq_true rfl)
 ·skip
  refine go_seq ?_
  refine go_seq ?_
  refine go_regionJ hR ⟨[(0, .c (.sl (List.map cI64 a0))), (1, .c (.sl (List.map cI64 a1))), (10, .c (.val (.bool (((a0.length : Nat) : Int) != ((a1.length : Nat) : Int)))))], [], 0⟩ ?_ ?_
  ·skip
   simp only [EVB, eqF, Op.operands, IntKind.bits, descF, sizeF, bytesF, zeroF, seval, reduceCtorEq, ↓reduceIte]
   exact Weak.sub' ⟨rfl, rfl, rfl, trivial⟩ trivial (Nat.le_of_ble_eq_true rfl)
  ·skip
   refine go_cond (by rfl) (fun h1 => ?_) (fun h1 => ?_)
   ·have gh1 := h1
    try simp only [GN, beq_iff_eq, beq_eq_false_iff_ne, bne_iff_ne, bne_eq_false_iff_eq] at gh1
    simp only [h1, cond_true, cond_false] at hx0
    refine go_seq ?_
    refine go_regionJ hR ⟨[(4, .c (.val (.bool false)))], [], 0⟩ ?_ ?_
    ·skip
     simp only [EVB, eqF, Op.operands, IntKind.bits, descF, sizeF, bytesF, zeroF, seval, reduceCtorEq, ↓reduceIte]
     exact Weak.sub' ⟨rfl, trivial⟩ trivial (Nat.le_of_ble_eq_true rfl)
    ·skip
     subst hx0
     refine go_return ttOk (fun _ h => h) rfl ?_ ?_
     ·exact (by (repeat' apply And.intro) <;> first | trivial | exact Nat.le_of_ble_eq_true rfl | omega | (simp only [NM]; omega))
     ·first | rfl | (simp only [NM, CELLS] <;> rfl)
   ·have gh1 := h1
    try simp only [GN, beq_iff_eq, beq_eq_false_iff_ne, bne_iff_ne, bne_eq_false_iff_eq] at gh1
    simp only [h1, cond_true, cond_false] at hx0
    refine go_skip ?_
    refine go_seq ?_
    refine go_seq ?_
    refine go_regionJ hR ⟨[(0, .c (.sl (List.map cI64 a0))), (1, .c (.sl (List.map cI64 a1))), (5, .c (.val (.int .i64 0)))], [], 0⟩ ?_ ?_
    ·skip
     simp only [EVB, eqF, Op.operands, IntKind.bits, descF, sizeF, bytesF, zeroF, seval, reduceCtorEq, ↓reduceIte]
     exact Weak.sub' ⟨rfl, rfl, rfl, trivial⟩ trivial (Nat.le_of_ble_eq_true rfl)
    ·skip
     obtain ⟨o2s, hx1, hx0⟩ := letIn_ex hx0
     refine go_joinE (fun p : Unit => ⟨[], [], 0⟩) (fun p : Unit => o2s = Sum.inr p) ?_ ?_
     ·refine go_block ?_
      refine go_len (t := 0) rfl (fun hl9 => ?_)
      simp only [List.length_map, maxLen_eq] at hl9
      refine go_len (t := 1) rfl (fun hl10 => ?_)
      simp only [List.length_map, maxLen_eq] at hl10
      refine go_loop (fun p : Nat => ⟨[(0, .c (.sl (List.map cI64 a0))), (1, .c (.sl (List.map cI64 a1))), (5, .c (.val (.int .i64 ((p : Nat) : Int))))], [], 0⟩) (fun p : Nat => (p ≤ a0.length) ∧ pontoonref15_SameInts_L0 a0 a1 p = o2s) (fun p : Nat => a0.length - p) 0 ⟨(by (try dsimp only); (repeat' apply And.intro) <;> first | trivial | omega | assumption | (simp; done)), hx1⟩ (Weak.canon [] [0, 1, 5] (by decide) rfl trivial rfl (by simp) (by first | rfl | (simp only [NM, CELLS] <;> rfl) | simp [NM, CELLS]) rfl rfl) ?_
      rintro x6 ⟨hi11, hx1⟩
      try dsimp only at hi11 hx1 ⊢
      rw [pontoonref15_SameInts_L0.eq_def] at hx1
      refine go_seq ?_
      refine go_seq ?_
      refine go_regionJ hR ⟨[(0, .c (.sl (List.map cI64 a0))), (1, .c (.sl (List.map cI64 a1))), (5, .c (.val (.int .i64 ((x6 : Nat) : Int)))), (14, .c (.val (.bool (decide (((x6 : Nat) : Int) < ((a0.length : Nat) : Int))))))], [], 0⟩ ?_ ?_
      ·skip
       simp only [EVB, eqF, Op.operands, IntKind.bits, descF, sizeF, bytesF, zeroF, seval, reduceCtorEq, ↓reduceIte]
       exact Weak.sub' ⟨rfl, rfl, rfl, rfl, trivial⟩ trivial (Nat.le_of_ble_eq_true rfl)
      ·skip
       refine go_cond (by rfl) (fun h7 => ?_) (fun h7 => ?_)
       ·have gh7 := h7
        try simp only [GN, beq_iff_eq, beq_eq_false_iff_ne, bne_iff_ne, bne_eq_false_iff_eq] at gh7
        simp only [h7, dite_true, dite_false, reduceDIte, Bool.false_eq_true] at hx1
        refine go_skip ?_
        refine go_seq ?_
        refine go_block ?_
        refine go_seq ?_
        refine go_drawJ hR rfl ⟨[(0, .c (.sl (List.map cI64 a0))), (1, .c (.sl (List.map cI64 a1))), (5, .c (.val (.int .i64 ((x6 : Nat) : Int)))), (25, .c (.val (.bool ((List.getD a0 x6 default) != (List.getD a1 x6 default)))))], [], 0⟩ ?_ ?_
        ·skip
         have bq12 : x6 < a0.length := by omega
         have q12 := map_getD cI64 a0 x6 default bq12
         have bq13 : x6 < a1.length := by omega
         have q13 := map_getD cI64 a1 x6 default bq13
         simp only [q12, q13, EVB, eqF, Op.operands, IntKind.bits, descF, sizeF, bytesF, zeroF, seval, reduceCtorEq, ↓reduceIte, CELLS]
         refine ⟨(by (repeat' apply And.intro) <;> first | trivial | rfl | exact Nat.le_of_ble_eq_true rfl | omega | (intro u hu; obtain ⟨x, _, rfl⟩ := List.mem_map.1 hu; rfl) | (intro u hu; simp only [List.mem_cons, List.not_mem_nil, or_false] at hu; subst hu; rfl) | (simp only [NM]; omega) | (simp; done)), ?_⟩
         refine ⟨(by (repeat' apply And.intro) <;> first | trivial | rfl | exact Nat.le_of_ble_eq_true rfl | omega | (intro u hu; obtain ⟨x, _, rfl⟩ := List.mem_map.1 hu; rfl) | (intro u hu; simp only [List.mem_cons, List.not_mem_nil, or_false] at hu; subst hu; rfl) | (simp only [NM]; omega) | (simp; done)), ?_⟩
         refine ⟨by kernel_rfl, ?_⟩
         exact Weak.sub' ⟨rfl, rfl, rfl, rfl, trivial⟩ trivial (Nat.le_of_ble_eq_true rfl)
        ·skip
         refine go_cond (by rfl) (fun h8 => ?_) (fun h8 => ?_)
         ·have gh8 := h8
          try simp only [GN, beq_iff_eq, beq_eq_false_iff_ne, bne_iff_ne, bne_eq_false_iff_eq] at gh8
          simp only [h8, dite_true, dite_false, reduceDIte, Bool.false_eq_true] at hx1
          refine go_seq ?_
          refine go_regionJ hR ⟨[(4, .c (.val (.bool false)))], [], 0⟩ ?_ ?_
          ·skip
           simp only [EVB, eqF, Op.operands, IntKind.bits, descF, sizeF, bytesF, zeroF, seval, reduceCtorEq, ↓reduceIte]
           exact Weak.sub' ⟨rfl, trivial⟩ trivial (Nat.le_of_ble_eq_true rfl)
          ·skip
           subst hx1
           simp only [Sum.elim_inl] at hx0
           subst hx0
           refine go_return ttOk (fun _ h => h) rfl ?_ ?_
           ·exact (by (repeat' apply And.intro) <;> first | trivial | exact Nat.le_of_ble_eq_true rfl | omega | (simp only [NM]; omega))
           ·first | rfl | (simp only [NM, CELLS] <;> rfl)
         ·have gh8 := h8
          try simp only [GN, beq_iff_eq, beq_eq_false_iff_ne, bne_iff_ne, bne_eq_false_iff_eq] at gh8
          simp only [h8, dite_true, dite_false, reduceDIte, Bool.false_eq_true] at hx1
          refine go_skip ?_
          refine go_blk ?_
          refine go_regionJ hR ⟨[(0, .c (.sl (List.map cI64 a0))), (1, .c (.sl (List.map cI64 a1))), (5, .c (.val (.int .i64 ((x6 + 1 : Nat) : Int))))], [], 0⟩ ?_ ?_
          ·skip
           have w14 : IntKind.i64.wrap (((x6 : Nat) : Int) + 1) = ((x6 + 1 : Nat) : Int) := by rw [IntKind.wrap_i64]; omega
           simp only [w14, EVB, eqF, Op.operands, IntKind.bits, descF, sizeF, bytesF, zeroF, seval, reduceCtorEq, ↓reduceIte, CELLS]
           exact Weak.sub' ⟨rfl, rfl, rfl, trivial⟩ trivial (Nat.le_of_ble_eq_true rfl)
          ·skip
           exact go_fin ⟨x6 + 1, ⟨(by (try dsimp only); (repeat' apply And.intro) <;> first | trivial | omega | assumption | (simp; done)), hx1⟩, by (try dsimp only); omega, (Weak.canon [] [0, 1, 5] (by decide) rfl trivial rfl (by simp) (by first | rfl | (simp only [NM, CELLS] <;> rfl) | simp [NM, CELLS]) rfl rfl)⟩
       ·have gh7 := h7
        try simp only [GN, beq_iff_eq, beq_eq_false_iff_ne, bne_iff_ne, bne_eq_false_iff_eq] at gh7
        simp only [h7, dite_true, dite_false, reduceDIte, Bool.false_eq_true] at hx1
        refine go_exit rfl ?_
        exact go_fin ⟨(), hx1.symm, (Weak.canon [] [] (by decide) rfl trivial rfl (by simp) (by first | rfl | (simp only [NM, CELLS] <;> rfl) | simp [NM, CELLS]) rfl rfl)⟩
     ·rintro o2 hp
      try dsimp only at hp
      subst hp
      simp only [Sum.elim_inr] at hx0
      refine go_seq ?_
      refine go_regionJ hR ⟨[(4, .c (.val (.bool true)))], [], 0⟩ ?_ ?_
      ·skip
       simp only [EVB, eqF, Op.operands, IntKind.bits, descF, sizeF, bytesF, zeroF, seval, reduceCtorEq, ↓reduceIte]
       exact Weak.sub' ⟨rfl, trivial⟩ trivial (Nat.le_of_ble_eq_true rfl)
      ·skip
       subst hx0
       refine go_return ttOk (fun _ h => h) rfl ?_ ?_
       ·exact (by (repeat' apply And.intro) <;> first | trivial | exact Nat.le_of_ble_eq_true rfl | omega | (simp only [NM]; omega))
       ·first | rfl | (simp only [NM, CELLS] <;> rfl)

def pontoonref15_SameRecords_L0 (a0 : (List SRecord)) (a1 : (List SRecord)) (x6 : Nat) : Sum Bool Unit :=
  (if h7 : (decide (((x6 : Nat) : Int) < ((a0.length : Nat) : Int))) = true then (if h8 : (!(decide ([(List.getD a0 x6 default).Key, (List.getD a0 x6 default).Val] = [(List.getD a1 x6 default).Key, (List.getD a1 x6 default).Val]))) = true then (Sum.inl false) else (pontoonref15_SameRecords_L0 a0 a1 (x6 + 1))) else (Sum.inr ()))
termination_by a0.length - x6
decreasing_by all_goals (try simp only [GN, beq_iff_eq, beq_eq_false_iff_ne, bne_iff_ne, bne_eq_false_iff_eq] at *) <;> omega
def pontoonref15_SameRecords (a0 : (List SRecord)) (a1 : (List SRecord)) : Bool :=
  (bif (((a0.length : Nat) : Int) != ((a1.length : Nat) : Int)) then false else letIn (pontoonref15_SameRecords_L0 a0 a1 0) fun o2s => Sum.elim (fun q => q) (fun o2 => true) o2s)
set_option maxRecDepth 10000 in
set_option maxHeartbeats 8000000 in
theorem pontoonref15_SameRecords_t (a0 : (List SRecord)) (a1 : (List SRecord)) : FnP Try.prog 44 [.c (.sl (List.map SRecord.cells a0)), .c (.sl (List.map SRecord.cells a1))] (.c (.val (.bool (pontoonref15_SameRecords a0 a1)))) := by
 refine FnP.intro (tt := tt) Try.func44 rfl (by kernel_rfl) (by simp [Try.ntmps44]) fun w0 A hA => ?_
 have hR := reckB_ok eqOk ttOk
 obtain ⟨res, hx0⟩ : ∃ r, pontoonref15_SameRecords a0 a1 = r := ⟨_, rfl⟩
 simp only [hx0]
 unfold pontoonref15_SameRecords at hx0
 simp only [argT, Try.ntmps44]
 refine go_seq ?_
 refine go_regionJ hR ⟨[(0, .c (.sl (List.map SRecord.cells a0))), (1, .c (.sl (List.map SRecord.cells a1)))], [], 0⟩ ?_ ?_
 ·skip
  simp only [EVB, eqF, Op.operands, IntKind.bits, descF, sizeF, bytesF, zeroF, seval, reduceCtorEq, ↓reduceIte]
  exact Weak.sub' ⟨rfl, rfl, trivial⟩ trivial (Nat.le_of_ble_eq_true rfl)
 ·skip
  refine go_seq ?_
  refine go_seq ?_
  refine go_regionJ hR ⟨[(0, .c (.sl (List.map SRecord.cells a0))), (1, .c (.sl (List.map SRecord.cells a1))), (10, .c (.val (.bool (((a0.length : Nat) : Int) != ((a1.length : Nat) : Int)))))], [], 0⟩ ?_ ?_
  ·skip
   simp only [EVB, eqF, Op.operands, IntKind.bits, descF, sizeF, bytesF, zeroF, seval, reduceCtorEq, ↓reduceIte]
   exact Weak.sub' ⟨rfl, rfl, rfl, trivial⟩ trivial (Nat.le_of_ble_eq_true rfl)
  ·skip
   refine go_cond (by rfl) (fun h1 => ?_) (fun h1 => ?_)
   ·have gh1 := h1
    try simp only [GN, beq_iff_eq, beq_eq_false_iff_ne, bne_iff_ne, bne_eq_false_iff_eq] at gh1
    simp only [h1, cond_true, cond_false] at hx0
    refine go_seq ?_
    refine go_regionJ hR ⟨[(4, .c (.val (.bool false)))], [], 0⟩ ?_ ?_
    ·skip
     simp only [EVB, eqF, Op.operands, IntKind.bits, descF, sizeF, bytesF, zeroF, seval, reduceCtorEq, ↓reduceIte]
     exact Weak.sub' ⟨rfl, trivial⟩ trivial (Nat.le_of_ble_eq_true rfl)
    ·skip
     subst hx0
     refine go_return ttOk (fun _ h => h) rfl ?_ ?_
     ·exact (by (repeat' apply And.intro) <;> first | trivial | exact Nat.le_of_ble_eq_true rfl | omega | (simp only [NM]; omega))
     ·first | rfl | (simp only [NM, CELLS] <;> rfl)
   ·have gh1 := h1
    try simp only [GN, beq_iff_eq, beq_eq_false_iff_ne, bne_iff_ne, bne_eq_false_iff_eq] at gh1
    simp only [h1, cond_true, cond_false] at hx0
    refine go_skip ?_
    refine go_seq ?_
    refine go_seq ?_
    refine go_regionJ hR ⟨[(0, .c (.sl (List.map SRecord.cells a0))), (1, .c (.sl (List.map SRecord.cells a1))), (5, .c (.val (.int .i64 0)))], [], 0⟩ ?_ ?_
    ·skip
     simp only [EVB, eqF, Op.operands, IntKind.bits, descF, sizeF, bytesF, zeroF, seval, reduceCtorEq, ↓reduceIte]
     exact Weak.sub' ⟨rfl, rfl, rfl, trivial⟩ trivial (Nat.le_of_ble_eq_true rfl)
    ·skip
     obtain ⟨o2s, hx1, hx0⟩ := letIn_ex hx0
     refine go_joinE (fun p : Unit => ⟨[], [], 0⟩) (fun p : Unit => o2s = Sum.inr p) ?_ ?_
     ·refine go_block ?_
      refine go_len (t := 0) rfl (fun hl9 => ?_)
      simp only [List.length_map, maxLen_eq] at hl9
      refine go_len (t := 1) rfl (fun hl10 => ?_)
      simp only [List.length_map, maxLen_eq] at hl10
      refine go_loop (fun p : Nat => ⟨[(0, .c (.sl (List.map SRecord.cells a0))), (1, .c (.sl (List.map SRecord.cells a1))), (5, .c (.val (.int .i64 ((p : Nat) : Int))))], [], 0⟩) (fun p : Nat => (p ≤ a0.length) ∧ pontoonref15_SameRecords_L0 a0 a1 p = o2s) (fun p : Nat => a0.length - p) 0 ⟨(by (try dsimp only); (repeat' apply And.intro) <;> first | trivial | omega | assumption | (simp; done)), hx1⟩ (Weak.canon [] [0, 1, 5] (by decide) rfl trivial rfl (by simp) (by first | rfl | (simp only [NM, CELLS] <;> rfl) | simp [NM, CELLS]) rfl rfl) ?_
      rintro x6 ⟨hi11, hx1⟩
      try dsimp only at hi11 hx1 ⊢
      rw [pontoonref15_SameRecords_L0.eq_def] at hx1
      refine go_seq ?_
      refine go_seq ?_
      refine go_regionJ hR ⟨[(0, .c (.sl (List.map SRecord.cells a0))), (1, .c (.sl (List.map SRecord.cells a1))), (5, .c (.val (.int .i64 ((x6 : Nat) : Int)))), (14, .c (.val (.bool (decide (((x6 : Nat) : Int) < ((a0.length : Nat) : Int))))))], [], 0⟩ ?_ ?_
      ·skip
       simp only [EVB, eqF, Op.operands, IntKind.bits, descF, sizeF, bytesF, zeroF, seval, reduceCtorEq, ↓reduceIte]
       exact Weak.sub' ⟨rfl, rfl, rfl, rfl, trivial⟩ trivial (Nat.le_of_ble_eq_true rfl)
      ·skip
       refine go_cond (by rfl) (fun h7 => ?_) (fun h7 => ?_)
       ·have gh7 := h7
        try simp only [GN, beq_iff_eq, beq_eq_false_iff_ne, bne_iff_ne, bne_eq_false_iff_eq] at gh7
        simp only [h7, dite_true, dite_false, reduceDIte, Bool.false_eq_true] at hx1
        refine go_skip ?_
        refine go_seq ?_
        refine go_block ?_
        refine go_seq ?_
        refine go_drawJ hR rfl ⟨[(0, .c (.sl (List.map SRecord.cells a0))), (1, .c (.sl (List.map SRecord.cells a1))), (5, .c (.val (.int .i64 ((x6 : Nat) : Int)))), (25, .c (.val (.bool (!(decide ([(List.getD a0 x6 default).Key, (List.getD a0 x6 default).Val] = [(List.getD a1 x6 default).Key, (List.getD a1 x6 default).Val]))))))], [], 0⟩ ?_ ?_
        ·skip
         have bq12 : x6 < a0.length := by omega
         have q12 := map_getD SRecord.cells a0 x6 default bq12
         have bq13 : x6 < a1.length := by omega
         have q13 := map_getD SRecord.cells a1 x6 default bq13
         simp only [q12, q13, EVB, eqF, Op.operands, IntKind.bits, descF, sizeF, bytesF, zeroF, seval, reduceCtorEq, ↓reduceIte, CELLS]
         refine ⟨(by (repeat' apply And.intro) <;> first | trivial | rfl | exact Nat.le_of_ble_eq_true rfl | omega | (intro u hu; obtain ⟨x, _, rfl⟩ := List.mem_map.1 hu; rfl) | (intro u hu; simp only [List.mem_cons, List.not_mem_nil, or_false] at hu; subst hu; rfl) | (simp only [NM]; omega) | (simp; done)), ?_⟩
         refine ⟨(by (repeat' apply And.intro) <;> first | trivial | rfl | exact Nat.le_of_ble_eq_true rfl | omega | (intro u hu; obtain ⟨x, _, rfl⟩ := List.mem_map.1 hu; rfl) | (intro u hu; simp only [List.mem_cons, List.not_mem_nil, or_false] at hu; subst hu; rfl) | (simp only [NM]; omega) | (simp; done)), ?_⟩
         refine ⟨by kernel_rfl, ?_⟩
         exact Weak.sub' ⟨rfl, rfl, rfl, rfl, trivial⟩ trivial (Nat.le_of_ble_eq_true rfl)
        ·skip
         refine go_cond (by rfl) (fun h8 => ?_) (fun h8 => ?_)
         ·have gh8 := h8
          try simp only [GN, beq_iff_eq, beq_eq_false_iff_ne, bne_iff_ne, bne_eq_false_iff_eq] at gh8
          simp only [h8, dite_true, dite_false, reduceDIte, Bool.false_eq_true] at hx1
          refine go_seq ?_
          refine go_regionJ hR ⟨[(4, .c (.val (.bool false)))], [], 0⟩ ?_ ?_
          ·skip
           simp only [EVB, eqF, Op.operands, IntKind.bits, descF, sizeF, bytesF, zeroF, seval, reduceCtorEq, ↓reduceIte]
           exact Weak.sub' ⟨rfl, trivial⟩ trivial (Nat.le_of_ble_eq_true rfl)
          ·skip
           subst hx1
           simp only [Sum.elim_inl] at hx0
           subst hx0
           refine go_return ttOk (fun _ h => h) rfl ?_ ?_
           ·exact (by (repeat' apply And.intro) <;> first | trivial | exact Nat.le_of_ble_eq_true rfl | omega | (simp only [NM]; omega))
           ·first | rfl | (simp only [NM, CELLS] <;> rfl)
         ·have gh8 := h8
          try simp only [GN, beq_iff_eq, beq_eq_false_iff_ne, bne_iff_ne, bne_eq_false_iff_eq] at gh8
          simp only [h8, dite_true, dite_false, reduceDIte, Bool.false_eq_true] at hx1
          refine go_skip ?_
          refine go_blk ?_
          refine go_regionJ hR ⟨[(0, .c (.sl (List.map SRecord.cells a0))), (1, .c (.sl (List.map SRecord.cells a1))), (5, .c (.val (.int .i64 ((x6 + 1 : Nat) : Int))))], [], 0⟩ ?_ ?_
          ·skip
           have w14 : IntKind.i64.wrap (((x6 : Nat) : Int) + 1) = ((x6 + 1 : Nat) : Int) := by rw [IntKind.wrap_i64]; omega
           simp only [w14, EVB, eqF, Op.operands, IntKind.bits, descF, sizeF, bytesF, zeroF, seval, reduceCtorEq, ↓reduceIte, CELLS]
           exact Weak.sub' ⟨rfl, rfl, rfl, trivial⟩ trivial (Nat.le_of_ble_eq_true rfl)
          ·skip
           exact go_fin ⟨x6 + 1, ⟨(by (try dsimp only); (repeat' apply And.intro) <;> first | trivial | omega | assumption | (simp; done)), hx1⟩, by (try dsimp only); omega, (Weak.canon [] [0, 1, 5] (by decide) rfl trivial rfl (by simp) (by first | rfl | (simp only [NM, CELLS] <;> rfl) | simp [NM, CELLS]) rfl rfl)⟩
       ·have gh7 := h7
        try simp only [GN, beq_iff_eq, beq_eq_false_iff_ne, bne_iff_ne, bne_eq_false_iff_eq] at gh7
        simp only [h7, dite_true, dite_false, reduceDIte, Bool.false_eq_true] at hx1
        refine go_exit rfl ?_
        exact go_fin ⟨(), hx1.symm, (Weak.canon [] [] (by decide) rfl trivial rfl (by simp) (by first | rfl | (simp only [NM, CELLS] <;> rfl) | simp [NM, CELLS]) rfl rfl)⟩
     ·rintro o2 hp
      try dsimp only at hp
      subst hp
      simp only [Sum.elim_inr] at hx0
      refine go_seq ?_
      refine go_regionJ hR ⟨[(4, .c (.val (.bool true)))], [], 0⟩ ?_ ?_
      ·skip
       simp only [EVB, eqF, Op.operands, IntKind.bits, descF, sizeF, bytesF, zeroF, seval, reduceCtorEq, ↓reduceIte]
       exact Weak.sub' ⟨rfl, trivial⟩ trivial (Nat.le_of_ble_eq_true rfl)
      ·skip
       subst hx0
       refine go_return ttOk (fun _ h => h) rfl ?_ ?_
       ·exact (by (repeat' apply And.intro) <;> first | trivial | exact Nat.le_of_ble_eq_true rfl | omega | (simp only [NM]; omega))
       ·first | rfl | (simp only [NM, CELLS] <;> rfl)

def pontoonref15_SameTxn (a0 : STxn) (a1 : STxn) : Bool :=
  (((((a0.Epoch == a1.Epoch) && (a0.Id == a1.Id)) && (a0.Begin == a1.Begin)) && (pontoonref15_SameRecords a0.Records a1.Records)) && (pontoonref15_SameInts a0.Vector a1.Vector))
set_option maxRecDepth 10000 in
set_option maxHeartbeats 8000000 in
theorem pontoonref15_SameTxn_t (a0 : STxn) (a1 : STxn) : FnP Try.prog 18 [.agg [.c (.val (.int .i64 a0.Epoch)), .c (.val (.int .i64 a0.Id)), .c (.val (.int .i64 a0.Begin)), .c (.sl (List.map SRecord.cells a0.Records)), .c (.sl (List.map cI64 a0.Vector))], .agg [.c (.val (.int .i64 a1.Epoch)), .c (.val (.int .i64 a1.Id)), .c (.val (.int .i64 a1.Begin)), .c (.sl (List.map SRecord.cells a1.Records)), .c (.sl (List.map cI64 a1.Vector))]] (.c (.val (.bool (pontoonref15_SameTxn a0 a1)))) := by
 refine FnP.intro (tt := tt) Try.func18 rfl (by kernel_rfl) (by simp [Try.ntmps18]) fun w0 A hA => ?_
 have hR := reckB_ok eqOk ttOk
 obtain ⟨res, hx0⟩ : ∃ r, pontoonref15_SameTxn a0 a1 = r := ⟨_, rfl⟩
 simp only [hx0]
 unfold pontoonref15_SameTxn at hx0
 simp only [argT, Try.ntmps18]
 refine go_seq ?_
 refine go_regionJ hR ⟨[(2, .ptr 0 0), (3, .ptr 1 0)], [(0, .box [.c (.val (.int .i64 a0.Epoch)), .c (.val (.int .i64 a0.Id)), .c (.val (.int .i64 a0.Begin)), .c (.sl (List.map SRecord.cells a0.Records)), .c (.sl (List.map cI64 a0.Vector))] 28), (1, .box [.c (.val (.int .i64 a1.Epoch)), .c (.val (.int .i64 a1.Id)), .c (.val (.int .i64 a1.Begin)), .c (.sl (List.map SRecord.cells a1.Records)), .c (.sl (List.map cI64 a1.Vector))] 28)], 2⟩ ?_ ?_
 ·skip
  simp only [EVB, eqF, Op.operands, IntKind.bits, descF, sizeF, bytesF, zeroF, seval, reduceCtorEq, ↓reduceIte]
  exact Weak.sub' ⟨rfl, rfl, trivial⟩ ⟨rfl, rfl, trivial⟩ (Nat.le_of_ble_eq_true rfl)
 ·skip
  refine go_seq ?_
  refine go_regionJ hR ⟨[(4, .c (.val (.bool (((((a0.Epoch == a1.Epoch) && (a0.Id == a1.Id)) && (a0.Begin == a1.Begin)) && (pontoonref15_SameRecords a0.Records a1.Records)) && (pontoonref15_SameInts a0.Vector a1.Vector)))))], [], 2⟩ ?_ ?_
  ·skip
   rcases Bool.eq_false_or_eq_true (a0.Epoch == a1.Epoch) with h1 | h1
   ·rcases Bool.eq_false_or_eq_true (a0.Id == a1.Id) with h2 | h2
    ·rcases Bool.eq_false_or_eq_true (a0.Begin == a1.Begin) with h3 | h3
     ·rcases Bool.eq_false_or_eq_true (pontoonref15_SameRecords a0.Records a1.Records) with h4 | h4
      ·simp (maxSteps := 4000000) only [h1, h2, h3, h4, EVB, eqF, Op.operands, IntKind.bits, descF, sizeF, bytesF, zeroF, seval, reduceCtorEq, ↓reduceIte]
       refine CallK.freshE (pontoonref15_SameRecords_t a0.Records a1.Records).toO rfl (by first | rfl | (simp only [NM]; done)) (by (repeat' apply And.intro) <;> first | trivial | rfl | omega | (simp only [NM]; omega)) (.inl rfl) (by exact Nat.le_of_ble_eq_true rfl) ?_
       try simp (maxSteps := 4000000) only [h1, h2, h3, h4, EVB, eqF, Op.operands, IntKind.bits, descF, sizeF, bytesF, zeroF, seval, reduceCtorEq, ↓reduceIte]
       refine CallK.freshE (pontoonref15_SameInts_t a0.Vector a1.Vector).toO rfl (by first | rfl | (simp only [NM]; done)) (by (repeat' apply And.intro) <;> first | trivial | rfl | omega | (simp only [NM]; omega)) (.inl rfl) (by exact Nat.le_of_ble_eq_true rfl) ?_
       try simp (maxSteps := 4000000) only [h1, h2, h3, h4, EVB, eqF, Op.operands, IntKind.bits, descF, sizeF, bytesF, zeroF, seval, reduceCtorEq, ↓reduceIte]
       try simp only [h1, h2, h3, h4, BM]
       exact Weak.sub' ⟨rfl, trivial⟩ trivial (Nat.le_of_ble_eq_true rfl)
      ·simp (maxSteps := 4000000) only [h1, h2, h3, h4, EVB, eqF, Op.operands, IntKind.bits, descF, sizeF, bytesF, zeroF, seval, reduceCtorEq, ↓reduceIte]
       refine CallK.freshE (pontoonref15_SameRecords_t a0.Records a1.Records).toO rfl (by first | rfl | (simp only [NM]; done)) (by (repeat' apply And.intro) <;> first | trivial | rfl | omega | (simp only [NM]; omega)) (.inl rfl) (by exact Nat.le_of_ble_eq_true rfl) ?_
       try simp (maxSteps := 4000000) only [h1, h2, h3, h4, EVB, eqF, Op.operands, IntKind.bits, descF, sizeF, bytesF, zeroF, seval, reduceCtorEq, ↓reduceIte]
       try simp only [h1, h2, h3, h4, BM]
       exact Weak.sub' ⟨rfl, trivial⟩ trivial (Nat.le_of_ble_eq_true rfl)
     ·simp (maxSteps := 4000000) only [h1, h2, h3, EVB, eqF, Op.operands, IntKind.bits, descF, sizeF, bytesF, zeroF, seval, reduceCtorEq, ↓reduceIte]
      try simp only [h1, h2, h3, BM]
      exact Weak.sub' ⟨rfl, trivial⟩ trivial (Nat.le_of_ble_eq_true rfl)
    ·simp (maxSteps := 4000000) only [h1, h2, EVB, eqF, Op.operands, IntKind.bits, descF, sizeF, bytesF, zeroF, seval, reduceCtorEq, ↓reduceIte]
     try simp only [h1, h2, BM]
     exact Weak.sub' ⟨rfl, trivial⟩ trivial (Nat.le_of_ble_eq_true rfl)
   ·simp (maxSteps := 4000000) only [h1, EVB, eqF, Op.operands, IntKind.bits, descF, sizeF, bytesF, zeroF, seval, reduceCtorEq, ↓reduceIte]
    try simp only [h1, BM]
    exact Weak.sub' ⟨rfl, trivial⟩ trivial (Nat.le_of_ble_eq_true rfl)
  ·skip
   subst hx0
   refine go_return ttOk (fun _ h => h) rfl ?_ ?_
   ·exact (by (repeat' apply And.intro) <;> first | trivial | exact Nat.le_of_ble_eq_true rfl | omega | (simp only [NM]; omega))
   ·first | rfl | (simp only [NM, CELLS] <;> rfl)

def pontoonref15_Above_L0 (a0 : (List Int)) (a1 : (List Int)) (x6 : Nat) : Sum Bool Unit :=
  (if h7 : (decide (((x6 : Nat) : Int) < ((a0.length : Nat) : Int))) = true then (if h8 : (decide ((List.getD a0 x6 default) < (List.getD a1 x6 default))) = true then (Sum.inl false) else (pontoonref15_Above_L0 a0 a1 (x6 + 1))) else (Sum.inr ()))
termination_by a0.length - x6
decreasing_by all_goals (try simp only [GN, beq_iff_eq, beq_eq_false_iff_ne, bne_iff_ne, bne_eq_false_iff_eq] at *) <;> omega
def pontoonref15_Above (a0 : (List Int)) (a1 : (List Int)) : Bool :=
  (bif (((a0.length : Nat) : Int) != ((a1.length : Nat) : Int)) then false else letIn (pontoonref15_Above_L0 a0 a1 0) fun o2s => Sum.elim (fun q => q) (fun o2 => true) o2s)
set_option maxRecDepth 10000 in
set_option maxHeartbeats 8000000 in
theorem pontoonref15_Above_t (a0 : (List Int)) (a1 : (List Int)) : FnP Try.prog 19 [.c (.sl (List.map cI64 a0)), .c (.sl (List.map cI64 a1))] (.c (.val (.bool (pontoonref15_Above a0 a1)))) := by
 refine FnP.intro (tt := tt) Try.func19 rfl (by kernel_rfl) (by simp [Try.ntmps19]) fun w0 A hA => ?_
 have hR := reckB_ok eqOk ttOk
 obtain ⟨res, hx0⟩ : ∃ r, pontoonref15_Above a0 a1 = r := ⟨_, rfl⟩
 simp only [hx0]
 unfold pontoonref15_Above at hx0
 simp only [argT, Try.ntmps19]
 refine go_seq ?_
 refine go_regionJ hR ⟨[(0, .c (.sl (List.map cI64 a0))), (1, .c (.sl (List.map cI64 a1)))], [], 0⟩ ?_ ?_
 ·skip
  simp only [EVB, eqF, Op.operands, IntKind.bits, descF, sizeF, bytesF, zeroF, seval, reduceCtorEq, ↓reduceIte]
  exact Weak.sub' ⟨rfl, rfl, trivial⟩ trivial (Nat.le_of_ble_eq_true rfl)
 ·skip
  refine go_seq ?_
  refine go_seq ?_
  refine go_regionJ hR ⟨[(0, .c (.sl (List.map cI64 a0))), (1, .c (.sl (List.map cI64 a1))), (10, .c (.val (.bool (((a0.length : Nat) : Int) != ((a1.length : Nat) : Int)))))], [], 0⟩ ?_ ?_
  ·skip
   simp only [EVB, eqF, Op.operands, IntKind.bits, descF, sizeF, bytesF, zeroF, seval, reduceCtorEq, ↓reduceIte]
   exact Weak.sub' ⟨rfl, rfl, rfl, trivial⟩ trivial (Nat.le_of_ble_eq_true rfl)
  ·skip
   refine go_cond (by rfl) (fun h1 => ?_) (fun h1 => ?_)
   ·have gh1 := h1
    try simp only [GN, beq_iff_eq, beq_eq_false_iff_ne, bne_iff_ne, bne_eq_false_iff_eq] at gh1
    simp only [h1, cond_true, cond_false] at hx0
    refine go_seq ?_
    refine go_regionJ hR ⟨[(4, .c (.val (.bool false)))], [], 0⟩ ?_ ?_
    ·skip
     simp only [EVB, eqF, Op.operands, IntKind.bits, descF, sizeF, bytesF, zeroF, seval, reduceCtorEq, ↓reduceIte]
     exact Weak.sub' ⟨rfl, trivial⟩ trivial (Nat.le_of_ble_eq_true rfl)
    ·skip
     subst hx0
     refine go_return ttOk (fun _ h => h) rfl ?_ ?_
     ·exact (by (repeat' apply And.intro) <;> first | trivial | exact Nat.le_of_ble_eq_true rfl | omega | (simp only [NM]; omega))
     ·first | rfl | (simp only [NM, CELLS] <;> rfl)
   ·have gh1 := h1
    try simp only [GN, beq_iff_eq, beq_eq_false_iff_ne, bne_iff_ne, bne_eq_false_iff_eq] at gh1
    simp only [h1, cond_true, cond_false] at hx0
    refine go_skip ?_
    refine go_seq ?_
    refine go_seq ?_
    refine go_regionJ hR ⟨[(0, .c (.sl (List.map cI64 a0))), (1, .c (.sl (List.map cI64 a1))), (5, .c (.val (.int .i64 0)))], [], 0⟩ ?_ ?_
    ·skip
     simp only [EVB, eqF, Op.operands, IntKind.bits, descF, sizeF, bytesF, zeroF, seval, reduceCtorEq, ↓reduceIte]
     exact Weak.sub' ⟨rfl, rfl, rfl, trivial⟩ trivial (Nat.le_of_ble_eq_true rfl)
    ·skip
     obtain ⟨o2s, hx1, hx0⟩ := letIn_ex hx0
     refine go_joinE (fun p : Unit => ⟨[], [], 0⟩) (fun p : Unit => o2s = Sum.inr p) ?_ ?_
     ·refine go_block ?_
      refine go_len (t := 0) rfl (fun hl9 => ?_)
      simp only [List.length_map, maxLen_eq] at hl9
      refine go_len (t := 1) rfl (fun hl10 => ?_)
      simp only [List.length_map, maxLen_eq] at hl10
      refine go_loop (fun p : Nat => ⟨[(0, .c (.sl (List.map cI64 a0))), (1, .c (.sl (List.map cI64 a1))), (5, .c (.val (.int .i64 ((p : Nat) : Int))))], [], 0⟩) (fun p : Nat => (p ≤ a0.length) ∧ pontoonref15_Above_L0 a0 a1 p = o2s) (fun p : Nat => a0.length - p) 0 ⟨(by (try dsimp only); (repeat' apply And.intro) <;> first | trivial | omega | assumption | (simp; done)), hx1⟩ (Weak.canon [] [0, 1, 5] (by decide) rfl trivial rfl (by simp) (by first | rfl | (simp only [NM, CELLS] <;> rfl) | simp [NM, CELLS]) rfl rfl) ?_
      rintro x6 ⟨hi11, hx1⟩
      try dsimp only at hi11 hx1 ⊢
      rw [pontoonref15_Above_L0.eq_def] at hx1
      refine go_seq ?_
      refine go_seq ?_
      refine go_regionJ hR ⟨[(0, .c (.sl (List.map cI64 a0))), (1, .c (.sl (List.map cI64 a1))), (5, .c (.val (.int .i64 ((x6 : Nat) : Int)))), (14, .c (.val (.bool (decide (((x6 : Nat) : Int) < ((a0.length : Nat) : Int))))))], [], 0⟩ ?_ ?_
      ·skip
       simp only [EVB, eqF, Op.operands, IntKind.bits, descF, sizeF, bytesF, zeroF, seval, reduceCtorEq, ↓reduceIte]
       exact Weak.sub' ⟨rfl, rfl, rfl, rfl, trivial⟩ trivial (Nat.le_of_ble_eq_true rfl)
      ·skip
       refine go_cond (by rfl) (fun h7 => ?_) (fun h7 => ?_)
       ·have gh7 := h7
        try simp only [GN, beq_iff_eq, beq_eq_false_iff_ne, bne_iff_ne, bne_eq_false_iff_eq] at gh7
        simp only [h7, dite_true, dite_false, reduceDIte, Bool.false_eq_true] at hx1
        refine go_skip ?_
        refine go_seq ?_
        refine go_block ?_
        refine go_seq ?_
        refine go_drawJ hR rfl ⟨[(0, .c (.sl (List.map cI64 a0))), (1, .c (.sl (List.map cI64 a1))), (5, .c (.val (.int .i64 ((x6 : Nat) : Int)))), (25, .c (.val (.bool (decide ((List.getD a0 x6 default) < (List.getD a1 x6 default))))))], [], 0⟩ ?_ ?_
        ·skip
         have bq12 : x6 < a0.length := by omega
         have q12 := map_getD cI64 a0 x6 default bq12
         have bq13 : x6 < a1.length := by omega
         have q13 := map_getD cI64 a1 x6 default bq13
         simp only [q12, q13, EVB, eqF, Op.operands, IntKind.bits, descF, sizeF, bytesF, zeroF, seval, reduceCtorEq, ↓reduceIte, CELLS]
         refine ⟨(by (repeat' apply And.intro) <;> first | trivial | rfl | exact Nat.le_of_ble_eq_true rfl | omega | (intro u hu; obtain ⟨x, _, rfl⟩ := List.mem_map.1 hu; rfl) | (intro u hu; simp only [List.mem_cons, List.not_mem_nil, or_false] at hu; subst hu; rfl) | (simp only [NM]; omega) | (simp; done)), ?_⟩
         refine ⟨(by (repeat' apply And.intro) <;> first | trivial | rfl | exact Nat.le_of_ble_eq_true rfl | omega | (intro u hu; obtain ⟨x, _, rfl⟩ := List.mem_map.1 hu; rfl) | (intro u hu; simp only [List.mem_cons, List.not_mem_nil, or_false] at hu; subst hu; rfl) | (simp only [NM]; omega) | (simp; done)), ?_⟩
         refine ⟨by kernel_rfl, ?_⟩
         exact Weak.sub' ⟨rfl, rfl, rfl, rfl, trivial⟩ trivial (Nat.le_of_ble_eq_true rfl)
        ·skip
         refine go_cond (by rfl) (fun h8 => ?_) (fun h8 => ?_)
         ·have gh8 := h8
          try simp only [GN, beq_iff_eq, beq_eq_false_iff_ne, bne_iff_ne, bne_eq_false_iff_eq] at gh8
          simp only [h8, dite_true, dite_false, reduceDIte, Bool.false_eq_true] at hx1
          refine go_seq ?_
          refine go_regionJ hR ⟨[(4, .c (.val (.bool false)))], [], 0⟩ ?_ ?_
          ·skip
           simp only [EVB, eqF, Op.operands, IntKind.bits, descF, sizeF, bytesF, zeroF, seval, reduceCtorEq, ↓reduceIte]
           exact Weak.sub' ⟨rfl, trivial⟩ trivial (Nat.le_of_ble_eq_true rfl)
          ·skip
           subst hx1
           simp only [Sum.elim_inl] at hx0
           subst hx0
           refine go_return ttOk (fun _ h => h) rfl ?_ ?_
           ·exact (by (repeat' apply And.intro) <;> first | trivial | exact Nat.le_of_ble_eq_true rfl | omega | (simp only [NM]; omega))
           ·first | rfl | (simp only [NM, CELLS] <;> rfl)
         ·have gh8 := h8
          try simp only [GN, beq_iff_eq, beq_eq_false_iff_ne, bne_iff_ne, bne_eq_false_iff_eq] at gh8
          simp only [h8, dite_true, dite_false, reduceDIte, Bool.false_eq_true] at hx1
          refine go_skip ?_
          refine go_blk ?_
          refine go_regionJ hR ⟨[(0, .c (.sl (List.map cI64 a0))), (1, .c (.sl (List.map cI64 a1))), (5, .c (.val (.int .i64 ((x6 + 1 : Nat) : Int))))], [], 0⟩ ?_ ?_
          ·skip
           have w14 : IntKind.i64.wrap (((x6 : Nat) : Int) + 1) = ((x6 + 1 : Nat) : Int) := by rw [IntKind.wrap_i64]; omega
           simp only [w14, EVB, eqF, Op.operands, IntKind.bits, descF, sizeF, bytesF, zeroF, seval, reduceCtorEq, ↓reduceIte, CELLS]
           exact Weak.sub' ⟨rfl, rfl, rfl, trivial⟩ trivial (Nat.le_of_ble_eq_true rfl)
          ·skip
           exact go_fin ⟨x6 + 1, ⟨(by (try dsimp only); (repeat' apply And.intro) <;> first | trivial | omega | assumption | (simp; done)), hx1⟩, by (try dsimp only); omega, (Weak.canon [] [0, 1, 5] (by decide) rfl trivial rfl (by simp) (by first | rfl | (simp only [NM, CELLS] <;> rfl) | simp [NM, CELLS]) rfl rfl)⟩
       ·have gh7 := h7
        try simp only [GN, beq_iff_eq, beq_eq_false_iff_ne, bne_iff_ne, bne_eq_false_iff_eq] at gh7
        simp only [h7, dite_true, dite_false, reduceDIte, Bool.false_eq_true] at hx1
        refine go_exit rfl ?_
        exact go_fin ⟨(), hx1.symm, (Weak.canon [] [] (by decide) rfl trivial rfl (by simp) (by first | rfl | (simp only [NM, CELLS] <;> rfl) | simp [NM, CELLS]) rfl rfl)⟩
     ·rintro o2 hp
      try dsimp only at hp
      subst hp
      simp only [Sum.elim_inr] at hx0
      refine go_seq ?_
      refine go_regionJ hR ⟨[(4, .c (.val (.bool true)))], [], 0⟩ ?_ ?_
      ·skip
       simp only [EVB, eqF, Op.operands, IntKind.bits, descF, sizeF, bytesF, zeroF, seval, reduceCtorEq, ↓reduceIte]
       exact Weak.sub' ⟨rfl, trivial⟩ trivial (Nat.le_of_ble_eq_true rfl)
      ·skip
       subst hx0
       refine go_return ttOk (fun _ h => h) rfl ?_ ?_
       ·exact (by (repeat' apply And.intro) <;> first | trivial | exact Nat.le_of_ble_eq_true rfl | omega | (simp only [NM]; omega))
       ·first | rfl | (simp only [NM, CELLS] <;> rfl)

def pontoonref19_Check (a0 : SCoord) : Int :=
  (bif (((((((((decide (a0.Phase < 0)) || (decide (a0.Phase > 4))) || (decide (a0.Epoch < 1))) || (!(pontoonref19_num a0.Epoch))) || (!(pontoonref19_num a0.Id))) || (!(pontoonref19_num a0.Len))) || (!(pontoonref19_num a0.Done))) || (!(pontoonref19_num a0.Left))) || (!(pontoonref19_vector a0.Vector))) then 1 else (bif ((a0.Phase == 2) || (a0.Phase == 3)) then (bif ((a0.Txn.Epoch != a0.Epoch) || (a0.Txn.Id != a0.Id)) then 1 else 0) else (bif (!(pontoonref15_SameTxn a0.Txn (STxn.mk 0 0 0 [] []))) then 1 else 0)))
set_option maxRecDepth 10000 in
set_option maxHeartbeats 8000000 in
theorem pontoonref19_Check_t (a0 : SCoord) : FnP Try.prog 34 [.agg [.c (.val (.int .i64 a0.Phase)), .c (.val (.int .i64 a0.Epoch)), .c (.val (.int .i64 a0.Id)), .c (.val (.int .i64 a0.Len)), .c (.sl (List.map cI64 a0.Vector)), .c (.val (.int .i64 a0.Txn.Epoch)), .c (.val (.int .i64 a0.Txn.Id)), .c (.val (.int .i64 a0.Txn.Begin)), .c (.sl (List.map SRecord.cells a0.Txn.Records)), .c (.sl (List.map cI64 a0.Txn.Vector)), .c (.val (.int .i64 a0.Done)), .c (.val (.int .i64 a0.Left))]] (.c (.val (.int .i64 (pontoonref19_Check a0)))) := by
 refine FnP.intro (tt := tt) Try.func34 rfl (by kernel_rfl) (by simp [Try.ntmps34]) fun w0 A hA => ?_
 have hR := reckB_ok eqOk ttOk
 obtain ⟨res, hx0⟩ : ∃ r, pontoonref19_Check a0 = r := ⟨_, rfl⟩
 simp only [hx0]
 unfold pontoonref19_Check at hx0
 simp only [argT, Try.ntmps34]
 refine go_seq ?_
 refine go_regionJ hR ⟨[(1, .ptr 0 0)], [(0, .box [.c (.val (.int .i64 a0.Phase)), .c (.val (.int .i64 a0.Epoch)), .c (.val (.int .i64 a0.Id)), .c (.val (.int .i64 a0.Len)), .c (.sl (List.map cI64 a0.Vector)), .c (.val (.int .i64 a0.Txn.Epoch)), .c (.val (.int .i64 a0.Txn.Id)), .c (.val (.int .i64 a0.Txn.Begin)), .c (.sl (List.map SRecord.cells a0.Txn.Records)), .c (.sl (List.map cI64 a0.Txn.Vector)), .c (.val (.int .i64 a0.Done)), .c (.val (.int .i64 a0.Left))] 30)], 1⟩ ?_ ?_
 ·skip
  simp only [EVB, eqF, Op.operands, IntKind.bits, descF, sizeF, bytesF, zeroF, seval, reduceCtorEq, ↓reduceIte]
  exact Weak.sub' ⟨rfl, trivial⟩ ⟨rfl, trivial⟩ (Nat.le_of_ble_eq_true rfl)
 ·skip
  refine go_seq ?_
  refine go_seq ?_
  refine go_regionJ hR ⟨[(1, .ptr 0 0), (51, .c (.val (.bool (((((((((decide (a0.Phase < 0)) || (decide (a0.Phase > 4))) || (decide (a0.Epoch < 1))) || (!(pontoonref19_num a0.Epoch))) || (!(pontoonref19_num a0.Id))) || (!(pontoonref19_num a0.Len))) || (!(pontoonref19_num a0.Done))) || (!(pontoonref19_num a0.Left))) || (!(pontoonref19_vector a0.Vector))))))], [(0, .box [.c (.val (.int .i64 a0.Phase)), .c (.val (.int .i64 a0.Epoch)), .c (.val (.int .i64 a0.Id)), .c (.val (.int .i64 a0.Len)), .c (.sl (List.map cI64 a0.Vector)), .c (.val (.int .i64 a0.Txn.Epoch)), .c (.val (.int .i64 a0.Txn.Id)), .c (.val (.int .i64 a0.Txn.Begin)), .c (.sl (List.map SRecord.cells a0.Txn.Records)), .c (.sl (List.map cI64 a0.Txn.Vector)), .c (.val (.int .i64 a0.Done)), .c (.val (.int .i64 a0.Left))] 30)], 1⟩ ?_ ?_
  ·skip
   rcases Bool.eq_false_or_eq_true (decide (a0.Phase < 0)) with h1 | h1
   ·simp (maxSteps := 4000000) only [h1, EVB, eqF, Op.operands, IntKind.bits, descF, sizeF, bytesF, zeroF, seval, reduceCtorEq, ↓reduceIte]
    try simp only [h1, BM]
    exact Weak.sub' ⟨rfl, rfl, trivial⟩ ⟨rfl, trivial⟩ (Nat.le_of_ble_eq_true rfl)
   ·rcases Bool.eq_false_or_eq_true (decide (a0.Phase > 4)) with h2 | h2
    ·simp (maxSteps := 4000000) only [h1, h2, EVB, eqF, Op.operands, IntKind.bits, descF, sizeF, bytesF, zeroF, seval, reduceCtorEq, ↓reduceIte]
     try simp only [h1, h2, BM]
     exact Weak.sub' ⟨rfl, rfl, trivial⟩ ⟨rfl, trivial⟩ (Nat.le_of_ble_eq_true rfl)
    ·rcases Bool.eq_false_or_eq_true (decide (a0.Epoch < 1)) with h3 | h3
     ·simp (maxSteps := 4000000) only [h1, h2, h3, EVB, eqF, Op.operands, IntKind.bits, descF, sizeF, bytesF, zeroF, seval, reduceCtorEq, ↓reduceIte]
      try simp only [h1, h2, h3, BM]
      exact Weak.sub' ⟨rfl, rfl, trivial⟩ ⟨rfl, trivial⟩ (Nat.le_of_ble_eq_true rfl)
     ·rcases Bool.eq_false_or_eq_true (!(pontoonref19_num a0.Epoch)) with h4 | h4
      ·simp (maxSteps := 4000000) only [h1, h2, h3, h4, EVB, eqF, Op.operands, IntKind.bits, descF, sizeF, bytesF, zeroF, seval, reduceCtorEq, ↓reduceIte]
       refine CallK.freshE (pontoonref19_num_t a0.Epoch).toO rfl (by first | rfl | (simp only [NM]; done)) (by (repeat' apply And.intro) <;> first | trivial | rfl | omega | (simp only [NM]; omega)) (.inl rfl) (by exact Nat.le_of_ble_eq_true rfl) ?_
       try simp (maxSteps := 4000000) only [h1, h2, h3, h4, EVB, eqF, Op.operands, IntKind.bits, descF, sizeF, bytesF, zeroF, seval, reduceCtorEq, ↓reduceIte]
       try simp only [h1, h2, h3, h4, BM]
       exact Weak.sub' ⟨rfl, rfl, trivial⟩ ⟨rfl, trivial⟩ (Nat.le_of_ble_eq_true rfl)
      ·rcases Bool.eq_false_or_eq_true (!(pontoonref19_num a0.Id)) with h5 | h5
       ·simp (maxSteps := 4000000) only [h1, h2, h3, h4, h5, EVB, eqF, Op.operands, IntKind.bits, descF, sizeF, bytesF, zeroF, seval, reduceCtorEq, ↓reduceIte]
        refine CallK.freshE (pontoonref19_num_t a0.Epoch).toO rfl (by first | rfl | (simp only [NM]; done)) (by (repeat' apply And.intro) <;> first | trivial | rfl | omega | (simp only [NM]; omega)) (.inl rfl) (by exact Nat.le_of_ble_eq_true rfl) ?_
        try simp (maxSteps := 4000000) only [h1, h2, h3, h4, h5, EVB, eqF, Op.operands, IntKind.bits, descF, sizeF, bytesF, zeroF, seval, reduceCtorEq, ↓reduceIte]
        refine CallK.freshE (pontoonref19_num_t a0.Id).toO rfl (by first | rfl | (simp only [NM]; done)) (by (repeat' apply And.intro) <;> first | trivial | rfl | omega | (simp only [NM]; omega)) (.inl rfl) (by exact Nat.le_of_ble_eq_true rfl) ?_
        try simp (maxSteps := 4000000) only [h1, h2, h3, h4, h5, EVB, eqF, Op.operands, IntKind.bits, descF, sizeF, bytesF, zeroF, seval, reduceCtorEq, ↓reduceIte]
        try simp only [h1, h2, h3, h4, h5, BM]
        exact Weak.sub' ⟨rfl, rfl, trivial⟩ ⟨rfl, trivial⟩ (Nat.le_of_ble_eq_true rfl)
       ·rcases Bool.eq_false_or_eq_true (!(pontoonref19_num a0.Len)) with h6 | h6
        ·simp (maxSteps := 4000000) only [h1, h2, h3, h4, h5, h6, EVB, eqF, Op.operands, IntKind.bits, descF, sizeF, bytesF, zeroF, seval, reduceCtorEq, ↓reduceIte]
         refine CallK.freshE (pontoonref19_num_t a0.Epoch).toO rfl (by first | rfl | (simp only [NM]; done)) (by (repeat' apply And.intro) <;> first | trivial | rfl | omega | (simp only [NM]; omega)) (.inl rfl) (by exact Nat.le_of_ble_eq_true rfl) ?_
         try simp (maxSteps := 4000000) only [h1, h2, h3, h4, h5, h6, EVB, eqF, Op.operands, IntKind.bits, descF, sizeF, bytesF, zeroF, seval, reduceCtorEq, ↓reduceIte]
         refine CallK.freshE (pontoonref19_num_t a0.Id).toO rfl (by first | rfl | (simp only [NM]; done)) (by (repeat' apply And.intro) <;> first | trivial | rfl | omega | (simp only [NM]; omega)) (.inl rfl) (by exact Nat.le_of_ble_eq_true rfl) ?_
         try simp (maxSteps := 4000000) only [h1, h2, h3, h4, h5, h6, EVB, eqF, Op.operands, IntKind.bits, descF, sizeF, bytesF, zeroF, seval, reduceCtorEq, ↓reduceIte]
         refine CallK.freshE (pontoonref19_num_t a0.Len).toO rfl (by first | rfl | (simp only [NM]; done)) (by (repeat' apply And.intro) <;> first | trivial | rfl | omega | (simp only [NM]; omega)) (.inl rfl) (by exact Nat.le_of_ble_eq_true rfl) ?_
         try simp (maxSteps := 4000000) only [h1, h2, h3, h4, h5, h6, EVB, eqF, Op.operands, IntKind.bits, descF, sizeF, bytesF, zeroF, seval, reduceCtorEq, ↓reduceIte]
         try simp only [h1, h2, h3, h4, h5, h6, BM]
         exact Weak.sub' ⟨rfl, rfl, trivial⟩ ⟨rfl, trivial⟩ (Nat.le_of_ble_eq_true rfl)
        ·rcases Bool.eq_false_or_eq_true (!(pontoonref19_num a0.Done)) with h7 | h7
         ·simp (maxSteps := 4000000) only [h1, h2, h3, h4, h5, h6, h7, EVB, eqF, Op.operands, IntKind.bits, descF, sizeF, bytesF, zeroF, seval, reduceCtorEq, ↓reduceIte]
          refine CallK.freshE (pontoonref19_num_t a0.Epoch).toO rfl (by first | rfl | (simp only [NM]; done)) (by (repeat' apply And.intro) <;> first | trivial | rfl | omega | (simp only [NM]; omega)) (.inl rfl) (by exact Nat.le_of_ble_eq_true rfl) ?_
          try simp (maxSteps := 4000000) only [h1, h2, h3, h4, h5, h6, h7, EVB, eqF, Op.operands, IntKind.bits, descF, sizeF, bytesF, zeroF, seval, reduceCtorEq, ↓reduceIte]
          refine CallK.freshE (pontoonref19_num_t a0.Id).toO rfl (by first | rfl | (simp only [NM]; done)) (by (repeat' apply And.intro) <;> first | trivial | rfl | omega | (simp only [NM]; omega)) (.inl rfl) (by exact Nat.le_of_ble_eq_true rfl) ?_
          try simp (maxSteps := 4000000) only [h1, h2, h3, h4, h5, h6, h7, EVB, eqF, Op.operands, IntKind.bits, descF, sizeF, bytesF, zeroF, seval, reduceCtorEq, ↓reduceIte]
          refine CallK.freshE (pontoonref19_num_t a0.Len).toO rfl (by first | rfl | (simp only [NM]; done)) (by (repeat' apply And.intro) <;> first | trivial | rfl | omega | (simp only [NM]; omega)) (.inl rfl) (by exact Nat.le_of_ble_eq_true rfl) ?_
          try simp (maxSteps := 4000000) only [h1, h2, h3, h4, h5, h6, h7, EVB, eqF, Op.operands, IntKind.bits, descF, sizeF, bytesF, zeroF, seval, reduceCtorEq, ↓reduceIte]
          refine CallK.freshE (pontoonref19_num_t a0.Done).toO rfl (by first | rfl | (simp only [NM]; done)) (by (repeat' apply And.intro) <;> first | trivial | rfl | omega | (simp only [NM]; omega)) (.inl rfl) (by exact Nat.le_of_ble_eq_true rfl) ?_
          try simp (maxSteps := 4000000) only [h1, h2, h3, h4, h5, h6, h7, EVB, eqF, Op.operands, IntKind.bits, descF, sizeF, bytesF, zeroF, seval, reduceCtorEq, ↓reduceIte]
          try simp only [h1, h2, h3, h4, h5, h6, h7, BM]
          exact Weak.sub' ⟨rfl, rfl, trivial⟩ ⟨rfl, trivial⟩ (Nat.le_of_ble_eq_true rfl)
         ·rcases Bool.eq_false_or_eq_true (!(pontoonref19_num a0.Left)) with h8 | h8
          ·simp (maxSteps := 4000000) only [h1, h2, h3, h4, h5, h6, h7, h8, EVB, eqF, Op.operands, IntKind.bits, descF, sizeF, bytesF, zeroF, seval, reduceCtorEq, ↓reduceIte]
           refine CallK.freshE (pontoonref19_num_t a0.Epoch).toO rfl (by first | rfl | (simp only [NM]; done)) (by (repeat' apply And.intro) <;> first | trivial | rfl | omega | (simp only [NM]; omega)) (.inl rfl) (by exact Nat.le_of_ble_eq_true rfl) ?_
           try simp (maxSteps := 4000000) only [h1, h2, h3, h4, h5, h6, h7, h8, EVB, eqF, Op.operands, IntKind.bits, descF, sizeF, bytesF, zeroF, seval, reduceCtorEq, ↓reduceIte]
           refine CallK.freshE (pontoonref19_num_t a0.Id).toO rfl (by first | rfl | (simp only [NM]; done)) (by (repeat' apply And.intro) <;> first | trivial | rfl | omega | (simp only [NM]; omega)) (.inl rfl) (by exact Nat.le_of_ble_eq_true rfl) ?_
           try simp (maxSteps := 4000000) only [h1, h2, h3, h4, h5, h6, h7, h8, EVB, eqF, Op.operands, IntKind.bits, descF, sizeF, bytesF, zeroF, seval, reduceCtorEq, ↓reduceIte]
           refine CallK.freshE (pontoonref19_num_t a0.Len).toO rfl (by first | rfl | (simp only [NM]; done)) (by (repeat' apply And.intro) <;> first | trivial | rfl | omega | (simp only [NM]; omega)) (.inl rfl) (by exact Nat.le_of_ble_eq_true rfl) ?_
           try simp (maxSteps := 4000000) only [h1, h2, h3, h4, h5, h6, h7, h8, EVB, eqF, Op.operands, IntKind.bits, descF, sizeF, bytesF, zeroF, seval, reduceCtorEq, ↓reduceIte]
           refine CallK.freshE (pontoonref19_num_t a0.Done).toO rfl (by first | rfl | (simp only [NM]; done)) (by (repeat' apply And.intro) <;> first | trivial | rfl | omega | (simp only [NM]; omega)) (.inl rfl) (by exact Nat.le_of_ble_eq_true rfl) ?_
           try simp (maxSteps := 4000000) only [h1, h2, h3, h4, h5, h6, h7, h8, EVB, eqF, Op.operands, IntKind.bits, descF, sizeF, bytesF, zeroF, seval, reduceCtorEq, ↓reduceIte]
           refine CallK.freshE (pontoonref19_num_t a0.Left).toO rfl (by first | rfl | (simp only [NM]; done)) (by (repeat' apply And.intro) <;> first | trivial | rfl | omega | (simp only [NM]; omega)) (.inl rfl) (by exact Nat.le_of_ble_eq_true rfl) ?_
           try simp (maxSteps := 4000000) only [h1, h2, h3, h4, h5, h6, h7, h8, EVB, eqF, Op.operands, IntKind.bits, descF, sizeF, bytesF, zeroF, seval, reduceCtorEq, ↓reduceIte]
           try simp only [h1, h2, h3, h4, h5, h6, h7, h8, BM]
           exact Weak.sub' ⟨rfl, rfl, trivial⟩ ⟨rfl, trivial⟩ (Nat.le_of_ble_eq_true rfl)
          ·simp (maxSteps := 4000000) only [h1, h2, h3, h4, h5, h6, h7, h8, EVB, eqF, Op.operands, IntKind.bits, descF, sizeF, bytesF, zeroF, seval, reduceCtorEq, ↓reduceIte]
           refine CallK.freshE (pontoonref19_num_t a0.Epoch).toO rfl (by first | rfl | (simp only [NM]; done)) (by (repeat' apply And.intro) <;> first | trivial | rfl | omega | (simp only [NM]; omega)) (.inl rfl) (by exact Nat.le_of_ble_eq_true rfl) ?_
           try simp (maxSteps := 4000000) only [h1, h2, h3, h4, h5, h6, h7, h8, EVB, eqF, Op.operands, IntKind.bits, descF, sizeF, bytesF, zeroF, seval, reduceCtorEq, ↓reduceIte]
           refine CallK.freshE (pontoonref19_num_t a0.Id).toO rfl (by first | rfl | (simp only [NM]; done)) (by (repeat' apply And.intro) <;> first | trivial | rfl | omega | (simp only [NM]; omega)) (.inl rfl) (by exact Nat.le_of_ble_eq_true rfl) ?_
           try simp (maxSteps := 4000000) only [h1, h2, h3, h4, h5, h6, h7, h8, EVB, eqF, Op.operands, IntKind.bits, descF, sizeF, bytesF, zeroF, seval, reduceCtorEq, ↓reduceIte]
           refine CallK.freshE (pontoonref19_num_t a0.Len).toO rfl (by first | rfl | (simp only [NM]; done)) (by (repeat' apply And.intro) <;> first | trivial | rfl | omega | (simp only [NM]; omega)) (.inl rfl) (by exact Nat.le_of_ble_eq_true rfl) ?_
           try simp (maxSteps := 4000000) only [h1, h2, h3, h4, h5, h6, h7, h8, EVB, eqF, Op.operands, IntKind.bits, descF, sizeF, bytesF, zeroF, seval, reduceCtorEq, ↓reduceIte]
           refine CallK.freshE (pontoonref19_num_t a0.Done).toO rfl (by first | rfl | (simp only [NM]; done)) (by (repeat' apply And.intro) <;> first | trivial | rfl | omega | (simp only [NM]; omega)) (.inl rfl) (by exact Nat.le_of_ble_eq_true rfl) ?_
           try simp (maxSteps := 4000000) only [h1, h2, h3, h4, h5, h6, h7, h8, EVB, eqF, Op.operands, IntKind.bits, descF, sizeF, bytesF, zeroF, seval, reduceCtorEq, ↓reduceIte]
           refine CallK.freshE (pontoonref19_num_t a0.Left).toO rfl (by first | rfl | (simp only [NM]; done)) (by (repeat' apply And.intro) <;> first | trivial | rfl | omega | (simp only [NM]; omega)) (.inl rfl) (by exact Nat.le_of_ble_eq_true rfl) ?_
           try simp (maxSteps := 4000000) only [h1, h2, h3, h4, h5, h6, h7, h8, EVB, eqF, Op.operands, IntKind.bits, descF, sizeF, bytesF, zeroF, seval, reduceCtorEq, ↓reduceIte]
           refine CallK.freshE (pontoonref19_vector_t a0.Vector).toO rfl (by first | rfl | (simp only [NM]; done)) (by (repeat' apply And.intro) <;> first | trivial | rfl | omega | (simp only [NM]; omega)) (.inl rfl) (by exact Nat.le_of_ble_eq_true rfl) ?_
           try simp (maxSteps := 4000000) only [h1, h2, h3, h4, h5, h6, h7, h8, EVB, eqF, Op.operands, IntKind.bits, descF, sizeF, bytesF, zeroF, seval, reduceCtorEq, ↓reduceIte]
           try simp only [h1, h2, h3, h4, h5, h6, h7, h8, BM]
           exact Weak.sub' ⟨rfl, rfl, trivial⟩ ⟨rfl, trivial⟩ (Nat.le_of_ble_eq_true rfl)
  ·skip
   refine go_cond (by rfl) (fun h9 => ?_) (fun h9 => ?_)
   ·have gh9 := h9
    try simp only [GN, beq_iff_eq, beq_eq_false_iff_ne, bne_iff_ne, bne_eq_false_iff_eq] at gh9
    simp only [h9, cond_true, cond_false] at hx0
    refine go_seq ?_
    refine go_regionJ hR ⟨[(2, .c (.val (.int .i64 1)))], [], 1⟩ ?_ ?_
    ·skip
     simp only [EVB, eqF, Op.operands, IntKind.bits, descF, sizeF, bytesF, zeroF, seval, reduceCtorEq, ↓reduceIte]
     exact Weak.sub' ⟨rfl, trivial⟩ trivial (Nat.le_of_ble_eq_true rfl)
    ·skip
     subst hx0
     refine go_return ttOk (fun _ h => h) rfl ?_ ?_
     ·exact (by (repeat' apply And.intro) <;> first | trivial | exact Nat.le_of_ble_eq_true rfl | omega | (simp only [NM]; omega))
     ·first | rfl | (simp only [NM, CELLS] <;> rfl)
   ·have gh9 := h9
    try simp only [GN, beq_iff_eq, beq_eq_false_iff_ne, bne_iff_ne, bne_eq_false_iff_eq] at gh9
    simp only [h9, cond_true, cond_false] at hx0
    refine go_skip ?_
    refine go_seq ?_
    refine go_seq ?_
    refine go_regionJ hR ⟨[(1, .ptr 0 0), (59, .c (.val (.bool ((a0.Phase == 2) || (a0.Phase == 3)))))], [(0, .box [.c (.val (.int .i64 a0.Phase)), .c (.val (.int .i64 a0.Epoch)), .c (.val (.int .i64 a0.Id)), .c (.val (.int .i64 a0.Len)), .c (.sl (List.map cI64 a0.Vector)), .c (.val (.int .i64 a0.Txn.Epoch)), .c (.val (.int .i64 a0.Txn.Id)), .c (.val (.int .i64 a0.Txn.Begin)), .c (.sl (List.map SRecord.cells a0.Txn.Records)), .c (.sl (List.map cI64 a0.Txn.Vector)), .c (.val (.int .i64 a0.Done)), .c (.val (.int .i64 a0.Left))] 30)], 1⟩ ?_ ?_
    ·skip
     rcases Bool.eq_false_or_eq_true (a0.Phase == 2) with h10 | h10
     ·simp only [h10, EVB, eqF, Op.operands, IntKind.bits, descF, sizeF, bytesF, zeroF, seval, reduceCtorEq, ↓reduceIte]
      try simp only [h10, BM]
      exact Weak.sub' ⟨rfl, rfl, trivial⟩ ⟨rfl, trivial⟩ (Nat.le_of_ble_eq_true rfl)
     ·simp only [h10, EVB, eqF, Op.operands, IntKind.bits, descF, sizeF, bytesF, zeroF, seval, reduceCtorEq, ↓reduceIte]
      try simp only [h10, BM]
      exact Weak.sub' ⟨rfl, rfl, trivial⟩ ⟨rfl, trivial⟩ (Nat.le_of_ble_eq_true rfl)
    ·skip
     refine go_cond (by rfl) (fun h11 => ?_) (fun h11 => ?_)
     ·have gh11 := h11
      try simp only [GN, beq_iff_eq, beq_eq_false_iff_ne, bne_iff_ne, bne_eq_false_iff_eq] at gh11
      simp only [h11, cond_true, cond_false] at hx0
      refine go_seq ?_
      refine go_seq ?_
      refine go_regionJ hR ⟨[(73, .c (.val (.bool ((a0.Txn.Epoch != a0.Epoch) || (a0.Txn.Id != a0.Id)))))], [], 1⟩ ?_ ?_
      ·skip
       rcases Bool.eq_false_or_eq_true (a0.Txn.Epoch != a0.Epoch) with h12 | h12
       ·simp only [h12, EVB, eqF, Op.operands, IntKind.bits, descF, sizeF, bytesF, zeroF, seval, reduceCtorEq, ↓reduceIte]
        try simp only [h12, BM]
        exact Weak.sub' ⟨rfl, trivial⟩ trivial (Nat.le_of_ble_eq_true rfl)
       ·simp only [h12, EVB, eqF, Op.operands, IntKind.bits, descF, sizeF, bytesF, zeroF, seval, reduceCtorEq, ↓reduceIte]
        try simp only [h12, BM]
        exact Weak.sub' ⟨rfl, trivial⟩ trivial (Nat.le_of_ble_eq_true rfl)
      ·skip
       refine go_cond (by rfl) (fun h13 => ?_) (fun h13 => ?_)
       ·have gh13 := h13
        try simp only [GN, beq_iff_eq, beq_eq_false_iff_ne, bne_iff_ne, bne_eq_false_iff_eq] at gh13
        simp only [h13, cond_true, cond_false] at hx0
        refine go_seq ?_
        refine go_regionJ hR ⟨[(2, .c (.val (.int .i64 1)))], [], 1⟩ ?_ ?_
        ·skip
         simp only [EVB, eqF, Op.operands, IntKind.bits, descF, sizeF, bytesF, zeroF, seval, reduceCtorEq, ↓reduceIte]
         exact Weak.sub' ⟨rfl, trivial⟩ trivial (Nat.le_of_ble_eq_true rfl)
        ·skip
         subst hx0
         refine go_return ttOk (fun _ h => h) rfl ?_ ?_
         ·exact (by (repeat' apply And.intro) <;> first | trivial | exact Nat.le_of_ble_eq_true rfl | omega | (simp only [NM]; omega))
         ·first | rfl | (simp only [NM, CELLS] <;> rfl)
       ·have gh13 := h13
        try simp only [GN, beq_iff_eq, beq_eq_false_iff_ne, bne_iff_ne, bne_eq_false_iff_eq] at gh13
        simp only [h13, cond_true, cond_false] at hx0
        refine go_skip ?_
        refine go_seq ?_
        refine go_regionJ hR ⟨[(2, .c (.val (.int .i64 0)))], [], 1⟩ ?_ ?_
        ·skip
         simp only [EVB, eqF, Op.operands, IntKind.bits, descF, sizeF, bytesF, zeroF, seval, reduceCtorEq, ↓reduceIte]
         exact Weak.sub' ⟨rfl, trivial⟩ trivial (Nat.le_of_ble_eq_true rfl)
        ·skip
         subst hx0
         refine go_return ttOk (fun _ h => h) rfl ?_ ?_
         ·exact (by (repeat' apply And.intro) <;> first | trivial | exact Nat.le_of_ble_eq_true rfl | omega | (simp only [NM]; omega))
         ·first | rfl | (simp only [NM, CELLS] <;> rfl)
     ·have gh11 := h11
      try simp only [GN, beq_iff_eq, beq_eq_false_iff_ne, bne_iff_ne, bne_eq_false_iff_eq] at gh11
      simp only [h11, cond_true, cond_false] at hx0
      refine go_skip ?_
      refine go_seq ?_
      refine go_seq ?_
      refine go_regionJ hR ⟨[(78, .c (.val (.bool (!(pontoonref15_SameTxn a0.Txn (STxn.mk 0 0 0 [] []))))))], [], 1⟩ ?_ ?_
      ·skip
       simp only [EVB, eqF, Op.operands, IntKind.bits, descF, sizeF, bytesF, zeroF, seval, reduceCtorEq, ↓reduceIte]
       refine CallK.freshE (pontoonref15_SameTxn_t a0.Txn (STxn.mk 0 0 0 [] [])).toO rfl (by first | rfl | (simp only [NM]; done)) (by (repeat' apply And.intro) <;> first | trivial | rfl | omega | (simp only [NM]; omega)) (.inl rfl) (by exact Nat.le_of_ble_eq_true rfl) ?_
       try simp only [EVB, eqF, Op.operands, IntKind.bits, descF, sizeF, bytesF, zeroF, seval, reduceCtorEq, ↓reduceIte]
       exact Weak.sub' ⟨rfl, trivial⟩ trivial (Nat.le_of_ble_eq_true rfl)
      ·skip
       refine go_cond (by rfl) (fun h14 => ?_) (fun h14 => ?_)
       ·have gh14 := h14
        try simp only [GN, beq_iff_eq, beq_eq_false_iff_ne, bne_iff_ne, bne_eq_false_iff_eq] at gh14
        simp only [h14, cond_true, cond_false] at hx0
        refine go_seq ?_
        refine go_regionJ hR ⟨[(2, .c (.val (.int .i64 1)))], [], 1⟩ ?_ ?_
        ·skip
         simp only [EVB, eqF, Op.operands, IntKind.bits, descF, sizeF, bytesF, zeroF, seval, reduceCtorEq, ↓reduceIte]
         exact Weak.sub' ⟨rfl, trivial⟩ trivial (Nat.le_of_ble_eq_true rfl)
        ·skip
         subst hx0
         refine go_return ttOk (fun _ h => h) rfl ?_ ?_
         ·exact (by (repeat' apply And.intro) <;> first | trivial | exact Nat.le_of_ble_eq_true rfl | omega | (simp only [NM]; omega))
         ·first | rfl | (simp only [NM, CELLS] <;> rfl)
       ·have gh14 := h14
        try simp only [GN, beq_iff_eq, beq_eq_false_iff_ne, bne_iff_ne, bne_eq_false_iff_eq] at gh14
        simp only [h14, cond_true, cond_false] at hx0
        refine go_skip ?_
        refine go_seq ?_
        refine go_regionJ hR ⟨[(2, .c (.val (.int .i64 0)))], [], 1⟩ ?_ ?_
        ·skip
         simp only [EVB, eqF, Op.operands, IntKind.bits, descF, sizeF, bytesF, zeroF, seval, reduceCtorEq, ↓reduceIte]
         exact Weak.sub' ⟨rfl, trivial⟩ trivial (Nat.le_of_ble_eq_true rfl)
        ·skip
         subst hx0
         refine go_return ttOk (fun _ h => h) rfl ?_ ?_
         ·exact (by (repeat' apply And.intro) <;> first | trivial | exact Nat.le_of_ble_eq_true rfl | omega | (simp only [NM]; omega))
         ·first | rfl | (simp only [NM, CELLS] <;> rfl)

def pontoonref19_New (a0 : Int) (a1 : Int) (a2 : Int) (a3 : (List Int)) : SCoord × Int :=
  (bif ((pontoonref19_Check (SCoord.mk 0 a0 a1 a2 a3 (STxn.mk 0 0 0 [] []) 0 0)) != 0) then ((SCoord.mk 0 0 0 0 [] (STxn.mk 0 0 0 [] []) 0 0), (pontoonref19_Check (SCoord.mk 0 a0 a1 a2 a3 (STxn.mk 0 0 0 [] []) 0 0))) else ((SCoord.mk 0 a0 a1 a2 a3 (STxn.mk 0 0 0 [] []) 0 0), 0))
set_option maxRecDepth 10000 in
set_option maxHeartbeats 8000000 in
theorem pontoonref19_New_t (a0 : Int) (a1 : Int) (a2 : Int) (a3 : (List Int)) (z3 : a3.length ≤ 4294967296) : FnP Try.prog 12 [.c (.val (.int .i64 a0)), .c (.val (.int .i64 a1)), .c (.val (.int .i64 a2)), .c (.sl (List.map cI64 a3))] (.tup [.agg [.c (.val (.int .i64 (((pontoonref19_New a0 a1 a2 a3).1).Phase))), .c (.val (.int .i64 (((pontoonref19_New a0 a1 a2 a3).1).Epoch))), .c (.val (.int .i64 (((pontoonref19_New a0 a1 a2 a3).1).Id))), .c (.val (.int .i64 (((pontoonref19_New a0 a1 a2 a3).1).Len))), .c (.sl (List.map cI64 (((pontoonref19_New a0 a1 a2 a3).1).Vector))), .c (.val (.int .i64 ((((pontoonref19_New a0 a1 a2 a3).1).Txn).Epoch))), .c (.val (.int .i64 ((((pontoonref19_New a0 a1 a2 a3).1).Txn).Id))), .c (.val (.int .i64 ((((pontoonref19_New a0 a1 a2 a3).1).Txn).Begin))), .c (.sl (List.map SRecord.cells ((((pontoonref19_New a0 a1 a2 a3).1).Txn).Records))), .c (.sl (List.map cI64 ((((pontoonref19_New a0 a1 a2 a3).1).Txn).Vector))), .c (.val (.int .i64 (((pontoonref19_New a0 a1 a2 a3).1).Done))), .c (.val (.int .i64 (((pontoonref19_New a0 a1 a2 a3).1).Left)))], .c (.val (.int .i64 ((pontoonref19_New a0 a1 a2 a3).2)))]) := by
 refine FnP.intro (tt := tt) Try.func12 rfl (by kernel_rfl) (by simp [Try.ntmps12]) fun w0 A hA => ?_
 have hR := reckB_ok eqOk ttOk
 obtain ⟨res, hx0⟩ : ∃ r, pontoonref19_New a0 a1 a2 a3 = r := ⟨_, rfl⟩
 simp only [hx0]
 unfold pontoonref19_New at hx0
 simp only [argT, Try.ntmps12]
 try simp only [SZD] at z3
 refine go_seq ?_
 refine go_regionJ hR ⟨[(0, .c (.val (.int .i64 a0))), (1, .c (.val (.int .i64 a1))), (2, .c (.val (.int .i64 a2))), (3, .c (.sl (List.map cI64 a3))), (8, .ptr 0 0)], [(0, .box [.c (.val (.int .i64 0)), .c (.val (.int .i64 0)), .c (.val (.int .i64 0)), .c (.val (.int .i64 0)), .c (.val (.slice none 0 0)), .c (.val (.int .i64 0)), .c (.val (.int .i64 0)), .c (.val (.int .i64 0)), .c (.val (.slice none 0 0)), .c (.val (.slice none 0 0)), .c (.val (.int .i64 0)), .c (.val (.int .i64 0))] 30)], 1⟩ ?_ ?_
 ·skip
  simp only [EVB, eqF, Op.operands, IntKind.bits, descF, sizeF, bytesF, zeroF, seval, reduceCtorEq, ↓reduceIte]
  exact Weak.sub' ⟨rfl, rfl, rfl, rfl, rfl, trivial⟩ ⟨rfl, trivial⟩ (Nat.le_of_ble_eq_true rfl)
 ·skip
  refine go_seq ?_
  refine go_regionJ hR ⟨[(0, .c (.val (.int .i64 a0))), (1, .c (.val (.int .i64 a1))), (2, .c (.val (.int .i64 a2))), (3, .c (.sl (List.map cI64 a3))), (8, .ptr 0 0), (10, .c (.val (.slice none 0 0)))], [(0, .box [.c (.val (.int .i64 0)), .c (.val (.int .i64 0)), .c (.val (.int .i64 0)), .c (.val (.int .i64 0)), .c (.val (.slice none 0 0)), .c (.val (.int .i64 0)), .c (.val (.int .i64 0)), .c (.val (.int .i64 0)), .c (.val (.slice none 0 0)), .c (.val (.slice none 0 0)), .c (.val (.int .i64 0)), .c (.val (.int .i64 0))] 30)], 1⟩ ?_ ?_
  ·skip
   simp only [EVB, eqF, Op.operands, IntKind.bits, descF, sizeF, bytesF, zeroF, seval, reduceCtorEq, ↓reduceIte]
   exact Weak.sub' ⟨rfl, rfl, rfl, rfl, rfl, rfl, trivial⟩ ⟨rfl, trivial⟩ (Nat.le_of_ble_eq_true rfl)
  ·skip
   refine go_nilOwn 10 1 2 rfl ?_
   refine go_weak (s' := ⟨[(0, .c (.val (.int .i64 a0))), (1, .c (.val (.int .i64 a1))), (2, .c (.val (.int .i64 a2))), (3, .c (.sl (List.map cI64 a3))), (8, .ptr 0 0), (10, .own 1 1 0 0)], [(0, .box [.c (.val (.int .i64 0)), .c (.val (.int .i64 0)), .c (.val (.int .i64 0)), .c (.val (.int .i64 0)), .c (.val (.slice none 0 0)), .c (.val (.int .i64 0)), .c (.val (.int .i64 0)), .c (.val (.int .i64 0)), .c (.val (.slice none 0 0)), .c (.val (.slice none 0 0)), .c (.val (.int .i64 0)), .c (.val (.int .i64 0))] 30), (1, .acc 1 (List.map cI64 []) 2)], 2⟩) (Weak.sub' (by repeat (first | exact trivial | refine ⟨rfl, ?_⟩)) (by repeat (first | exact trivial | refine ⟨rfl, ?_⟩)) (by exact Nat.le_of_ble_eq_true rfl)) ?_
   refine go_seq ?_
   refine go_regionJ hR ⟨[(8, .ptr 0 0), (11, .ptr 2 0)], [(0, .box [.c (.val (.int .i64 0)), .c (.val (.int .i64 0)), .c (.val (.int .i64 0)), .c (.val (.int .i64 0)), .c (.val (.slice none 0 0)), .c (.val (.int .i64 0)), .c (.val (.int .i64 0)), .c (.val (.int .i64 0)), .c (.val (.slice none 0 0)), .c (.val (.slice none 0 0)), .c (.val (.int .i64 0)), .c (.val (.int .i64 0))] 30), (1, .acc 1 (List.map cI64 a3) 2), (2, .box [.c (.val (.int .i64 0)), .c (.val (.int .i64 a0)), .c (.val (.int .i64 a1)), .c (.val (.int .i64 a2)), .own 1 1 0 a3.length, .c (.val (.int .i64 0)), .c (.val (.int .i64 0)), .c (.val (.int .i64 0)), .c (.val (.slice none 0 0)), .c (.val (.slice none 0 0)), .c (.val (.int .i64 0)), .c (.val (.int .i64 0))] 30)], 3⟩ ?_ ?_
   ·skip
    simp only [EVB, eqF, Op.operands, IntKind.bits, descF, sizeF, bytesF, zeroF, seval, reduceCtorEq, ↓reduceIte]
    refine ⟨(by (repeat' apply And.intro) <;> first | trivial | rfl | exact Nat.le_of_ble_eq_true rfl | omega | (intro u hu; obtain ⟨x, _, rfl⟩ := List.mem_map.1 hu; rfl) | (intro u hu; simp only [List.mem_cons, List.not_mem_nil, or_false] at hu; subst hu; rfl) | (simp only [NM]; omega) | (simp; done)), ?_⟩
    try simp only [BM, NM, CELLS]
    exact Weak.sub' ⟨rfl, rfl, trivial⟩ ⟨rfl, rfl, rfl, trivial⟩ (Nat.le_of_ble_eq_true rfl)
   ·skip
    refine go_seq ?_
    refine go_seq ?_
    refine go_regionJ hR ⟨[(8, .ptr 0 0), (11, .ptr 2 0), (12, .c (.val (.int .i64 (pontoonref19_Check (SCoord.mk 0 a0 a1 a2 a3 (STxn.mk 0 0 0 [] []) 0 0)))))], [(0, .box [.c (.val (.int .i64 0)), .c (.val (.int .i64 0)), .c (.val (.int .i64 0)), .c (.val (.int .i64 0)), .c (.val (.slice none 0 0)), .c (.val (.int .i64 0)), .c (.val (.int .i64 0)), .c (.val (.int .i64 0)), .c (.val (.slice none 0 0)), .c (.val (.slice none 0 0)), .c (.val (.int .i64 0)), .c (.val (.int .i64 0))] 30), (1, .acc 1 (List.map cI64 a3) 2), (2, .box [.c (.val (.int .i64 0)), .c (.val (.int .i64 a0)), .c (.val (.int .i64 a1)), .c (.val (.int .i64 a2)), .own 1 1 0 a3.length, .c (.val (.int .i64 0)), .c (.val (.int .i64 0)), .c (.val (.int .i64 0)), .c (.val (.slice none 0 0)), .c (.val (.slice none 0 0)), .c (.val (.int .i64 0)), .c (.val (.int .i64 0))] 30)], 3⟩ ?_ ?_
    ·skip
     simp only [EVB, eqF, Op.operands, IntKind.bits, descF, sizeF, bytesF, zeroF, seval, reduceCtorEq, ↓reduceIte]
     refine CallK.freshE (pontoonref19_Check_t (SCoord.mk 0 a0 a1 a2 a3 (STxn.mk 0 0 0 [] []) 0 0)).toO rfl (by first | rfl | (simp only [NM]; done)) (by (repeat' apply And.intro) <;> first | trivial | rfl | omega | (simp only [NM]; omega)) (.inr ⟨by simp [flatAV, flatLs], trivial⟩) (by exact Nat.le_of_ble_eq_true rfl) ?_
     try simp only [EVB, eqF, Op.operands, IntKind.bits, descF, sizeF, bytesF, zeroF, seval, reduceCtorEq, ↓reduceIte]
     exact Weak.sub' ⟨rfl, rfl, rfl, trivial⟩ ⟨rfl, rfl, rfl, trivial⟩ (Nat.le_of_ble_eq_true rfl)
    ·skip
     refine go_seq ?_
     refine go_regionJ hR ⟨[(8, .ptr 0 0), (11, .ptr 2 0), (12, .c (.val (.int .i64 (pontoonref19_Check (SCoord.mk 0 a0 a1 a2 a3 (STxn.mk 0 0 0 [] []) 0 0))))), (23, .c (.val (.bool ((pontoonref19_Check (SCoord.mk 0 a0 a1 a2 a3 (STxn.mk 0 0 0 [] []) 0 0)) != 0))))], [(0, .box [.c (.val (.int .i64 0)), .c (.val (.int .i64 0)), .c (.val (.int .i64 0)), .c (.val (.int .i64 0)), .c (.val (.slice none 0 0)), .c (.val (.int .i64 0)), .c (.val (.int .i64 0)), .c (.val (.int .i64 0)), .c (.val (.slice none 0 0)), .c (.val (.slice none 0 0)), .c (.val (.int .i64 0)), .c (.val (.int .i64 0))] 30), (1, .acc 1 (List.map cI64 a3) 2), (2, .box [.c (.val (.int .i64 0)), .c (.val (.int .i64 a0)), .c (.val (.int .i64 a1)), .c (.val (.int .i64 a2)), .own 1 1 0 a3.length, .c (.val (.int .i64 0)), .c (.val (.int .i64 0)), .c (.val (.int .i64 0)), .c (.val (.slice none 0 0)), .c (.val (.slice none 0 0)), .c (.val (.int .i64 0)), .c (.val (.int .i64 0))] 30)], 3⟩ ?_ ?_
     ·skip
      simp only [EVB, eqF, Op.operands, IntKind.bits, descF, sizeF, bytesF, zeroF, seval, reduceCtorEq, ↓reduceIte]
      exact Weak.sub' ⟨rfl, rfl, rfl, rfl, trivial⟩ ⟨rfl, rfl, rfl, trivial⟩ (Nat.le_of_ble_eq_true rfl)
     ·skip
      refine go_cond (by rfl) (fun h1 => ?_) (fun h1 => ?_)
      ·have gh1 := h1
       try simp only [GN, beq_iff_eq, beq_eq_false_iff_ne, bne_iff_ne, bne_eq_false_iff_eq] at gh1
       simp only [h1, cond_true, cond_false] at hx0
       refine go_seq ?_
       refine go_regionJ hR ⟨[(8, .ptr 0 0), (9, .c (.val (.int .i64 (pontoonref19_Check (SCoord.mk 0 a0 a1 a2 a3 (STxn.mk 0 0 0 [] []) 0 0)))))], [(0, .box [.c (.val (.int .i64 0)), .c (.val (.int .i64 0)), .c (.val (.int .i64 0)), .c (.val (.int .i64 0)), .c (.val (.slice none 0 0)), .c (.val (.int .i64 0)), .c (.val (.int .i64 0)), .c (.val (.int .i64 0)), .c (.val (.slice none 0 0)), .c (.val (.slice none 0 0)), .c (.val (.int .i64 0)), .c (.val (.int .i64 0))] 30)], 3⟩ ?_ ?_
       ·skip
        simp only [EVB, eqF, Op.operands, IntKind.bits, descF, sizeF, bytesF, zeroF, seval, reduceCtorEq, ↓reduceIte]
        exact Weak.sub' ⟨rfl, rfl, trivial⟩ ⟨rfl, trivial⟩ (Nat.le_of_ble_eq_true rfl)
       ·skip
        subst hx0
        refine go_return ttOk (fun _ h => h) rfl ?_ ?_
        ·exact (by (repeat' apply And.intro) <;> first | trivial | exact Nat.le_of_ble_eq_true rfl | omega | (simp only [NM]; omega))
        ·first | rfl | (simp only [NM, CELLS] <;> rfl)
      ·have gh1 := h1
       try simp only [GN, beq_iff_eq, beq_eq_false_iff_ne, bne_iff_ne, bne_eq_false_iff_eq] at gh1
       simp only [h1, cond_true, cond_false] at hx0
       refine go_skip ?_
       refine go_seq ?_
       refine go_regionJ hR ⟨[(8, .ptr 0 0), (9, .c (.val (.int .i64 0)))], [(0, .box [.c (.val (.int .i64 0)), .c (.val (.int .i64 a0)), .c (.val (.int .i64 a1)), .c (.val (.int .i64 a2)), .own 1 1 0 a3.length, .c (.val (.int .i64 0)), .c (.val (.int .i64 0)), .c (.val (.int .i64 0)), .c (.val (.slice none 0 0)), .c (.val (.slice none 0 0)), .c (.val (.int .i64 0)), .c (.val (.int .i64 0))] 30), (1, .acc 1 (List.map cI64 a3) 2)], 3⟩ ?_ ?_
       ·skip
        simp only [EVB, eqF, Op.operands, IntKind.bits, descF, sizeF, bytesF, zeroF, seval, reduceCtorEq, ↓reduceIte]
        exact Weak.sub' ⟨rfl, rfl, trivial⟩ ⟨rfl, rfl, trivial⟩ (Nat.le_of_ble_eq_true rfl)
       ·skip
        subst hx0
        refine go_return ttOk (fun _ h => h) rfl ?_ ?_
        ·exact (by (repeat' apply And.intro) <;> first | trivial | exact Nat.le_of_ble_eq_true rfl | omega | (simp only [NM]; omega))
        ·first | rfl | (simp only [NM, CELLS] <;> rfl)
theorem pontoonref19_New_sz (a0 : Int) (a1 : Int) (a2 : Int) (a3 : (List Int)) (z3 : a3.length ≤ 4294967296) : SCoord.Sz ((pontoonref19_New a0 a1 a2 a3).1) := by
 obtain ⟨res, hx0⟩ : ∃ r, pontoonref19_New a0 a1 a2 a3 = r := ⟨_, rfl⟩
 simp only [hx0]
 unfold pontoonref19_New at hx0
 try simp only [SZD] at z3
 rcases Bool.eq_false_or_eq_true ((pontoonref19_Check (SCoord.mk 0 a0 a1 a2 a3 (STxn.mk 0 0 0 [] []) 0 0)) != 0) with h1 | h1
 ·simp only [h1, cond_true, cond_false] at hx0
  subst hx0
  exact (by (try simp only [SZD]); (repeat' apply And.intro) <;> first | assumption | omega | simp_all)
 ·simp only [h1, cond_true, cond_false] at hx0
  subst hx0
  exact (by (try simp only [SZD]); (repeat' apply And.intro) <;> first | assumption | omega | simp_all)

def pontoonref19_Same (a0 : SCoord) (a1 : SCoord) : Bool :=
  ((((((((a0.Phase == a1.Phase) && (a0.Epoch == a1.Epoch)) && (a0.Id == a1.Id)) && (a0.Len == a1.Len)) && (pontoonref15_SameInts a0.Vector a1.Vector)) && (pontoonref15_SameTxn a0.Txn a1.Txn)) && (a0.Done == a1.Done)) && (a0.Left == a1.Left))
set_option maxRecDepth 10000 in
set_option maxHeartbeats 8000000 in
theorem pontoonref19_Same_t (a0 : SCoord) (a1 : SCoord) : FnP Try.prog 13 [.agg [.c (.val (.int .i64 a0.Phase)), .c (.val (.int .i64 a0.Epoch)), .c (.val (.int .i64 a0.Id)), .c (.val (.int .i64 a0.Len)), .c (.sl (List.map cI64 a0.Vector)), .c (.val (.int .i64 a0.Txn.Epoch)), .c (.val (.int .i64 a0.Txn.Id)), .c (.val (.int .i64 a0.Txn.Begin)), .c (.sl (List.map SRecord.cells a0.Txn.Records)), .c (.sl (List.map cI64 a0.Txn.Vector)), .c (.val (.int .i64 a0.Done)), .c (.val (.int .i64 a0.Left))], .agg [.c (.val (.int .i64 a1.Phase)), .c (.val (.int .i64 a1.Epoch)), .c (.val (.int .i64 a1.Id)), .c (.val (.int .i64 a1.Len)), .c (.sl (List.map cI64 a1.Vector)), .c (.val (.int .i64 a1.Txn.Epoch)), .c (.val (.int .i64 a1.Txn.Id)), .c (.val (.int .i64 a1.Txn.Begin)), .c (.sl (List.map SRecord.cells a1.Txn.Records)), .c (.sl (List.map cI64 a1.Txn.Vector)), .c (.val (.int .i64 a1.Done)), .c (.val (.int .i64 a1.Left))]] (.c (.val (.bool (pontoonref19_Same a0 a1)))) := by
 refine FnP.intro (tt := tt) Try.func13 rfl (by kernel_rfl) (by simp [Try.ntmps13]) fun w0 A hA => ?_
 have hR := reckB_ok eqOk ttOk
 obtain ⟨res, hx0⟩ : ∃ r, pontoonref19_Same a0 a1 = r := ⟨_, rfl⟩
 simp only [hx0]
 unfold pontoonref19_Same at hx0
 simp only [argT, Try.ntmps13]
 refine go_seq ?_
 refine go_regionJ hR ⟨[(2, .ptr 0 0), (3, .ptr 1 0)], [(0, .box [.c (.val (.int .i64 a0.Phase)), .c (.val (.int .i64 a0.Epoch)), .c (.val (.int .i64 a0.Id)), .c (.val (.int .i64 a0.Len)), .c (.sl (List.map cI64 a0.Vector)), .c (.val (.int .i64 a0.Txn.Epoch)), .c (.val (.int .i64 a0.Txn.Id)), .c (.val (.int .i64 a0.Txn.Begin)), .c (.sl (List.map SRecord.cells a0.Txn.Records)), .c (.sl (List.map cI64 a0.Txn.Vector)), .c (.val (.int .i64 a0.Done)), .c (.val (.int .i64 a0.Left))] 30), (1, .box [.c (.val (.int .i64 a1.Phase)), .c (.val (.int .i64 a1.Epoch)), .c (.val (.int .i64 a1.Id)), .c (.val (.int .i64 a1.Len)), .c (.sl (List.map cI64 a1.Vector)), .c (.val (.int .i64 a1.Txn.Epoch)), .c (.val (.int .i64 a1.Txn.Id)), .c (.val (.int .i64 a1.Txn.Begin)), .c (.sl (List.map SRecord.cells a1.Txn.Records)), .c (.sl (List.map cI64 a1.Txn.Vector)), .c (.val (.int .i64 a1.Done)), .c (.val (.int .i64 a1.Left))] 30)], 2⟩ ?_ ?_
 ·skip
  simp only [EVB, eqF, Op.operands, IntKind.bits, descF, sizeF, bytesF, zeroF, seval, reduceCtorEq, ↓reduceIte]
  exact Weak.sub' ⟨rfl, rfl, trivial⟩ ⟨rfl, rfl, trivial⟩ (Nat.le_of_ble_eq_true rfl)
 ·skip
  refine go_seq ?_
  refine go_regionJ hR ⟨[(4, .c (.val (.bool ((((((((a0.Phase == a1.Phase) && (a0.Epoch == a1.Epoch)) && (a0.Id == a1.Id)) && (a0.Len == a1.Len)) && (pontoonref15_SameInts a0.Vector a1.Vector)) && (pontoonref15_SameTxn a0.Txn a1.Txn)) && (a0.Done == a1.Done)) && (a0.Left == a1.Left)))))], [], 2⟩ ?_ ?_
  ·skip
   rcases Bool.eq_false_or_eq_true (a0.Phase == a1.Phase) with h1 | h1
   ·rcases Bool.eq_false_or_eq_true (a0.Epoch == a1.Epoch) with h2 | h2
    ·rcases Bool.eq_false_or_eq_true (a0.Id == a1.Id) with h3 | h3
     ·rcases Bool.eq_false_or_eq_true (a0.Len == a1.Len) with h4 | h4
      ·rcases Bool.eq_false_or_eq_true (pontoonref15_SameInts a0.Vector a1.Vector) with h5 | h5
       ·rcases Bool.eq_false_or_eq_true (pontoonref15_SameTxn a0.Txn a1.Txn) with h6 | h6
        ·rcases Bool.eq_false_or_eq_true (a0.Done == a1.Done) with h7 | h7
         ·simp (maxSteps := 4000000) only [h1, h2, h3, h4, h5, h6, h7, EVB, eqF, Op.operands, IntKind.bits, descF, sizeF, bytesF, zeroF, seval, reduceCtorEq, ↓reduceIte]
          refine CallK.freshE (pontoonref15_SameInts_t a0.Vector a1.Vector).toO rfl (by first | rfl | (simp only [NM]; done)) (by (repeat' apply And.intro) <;> first | trivial | rfl | omega | (simp only [NM]; omega)) (.inl rfl) (by exact Nat.le_of_ble_eq_true rfl) ?_
          try simp (maxSteps := 4000000) only [h1, h2, h3, h4, h5, h6, h7, EVB, eqF, Op.operands, IntKind.bits, descF, sizeF, bytesF, zeroF, seval, reduceCtorEq, ↓reduceIte]
          refine CallK.freshE (pontoonref15_SameTxn_t a0.Txn a1.Txn).toO rfl (by first | rfl | (simp only [NM]; done)) (by (repeat' apply And.intro) <;> first | trivial | rfl | omega | (simp only [NM]; omega)) (.inl rfl) (by exact Nat.le_of_ble_eq_true rfl) ?_
          try simp (maxSteps := 4000000) only [h1, h2, h3, h4, h5, h6, h7, EVB, eqF, Op.operands, IntKind.bits, descF, sizeF, bytesF, zeroF, seval, reduceCtorEq, ↓reduceIte]
          try simp only [h1, h2, h3, h4, h5, h6, h7, BM]
          exact Weak.sub' ⟨rfl, trivial⟩ trivial (Nat.le_of_ble_eq_true rfl)
         ·simp (maxSteps := 4000000) only [h1, h2, h3, h4, h5, h6, h7, EVB, eqF, Op.operands, IntKind.bits, descF, sizeF, bytesF, zeroF, seval, reduceCtorEq, ↓reduceIte]
          refine CallK.freshE (pontoonref15_SameInts_t a0.Vector a1.Vector).toO rfl (by first | rfl | (simp only [NM]; done)) (by (repeat' apply And.intro) <;> first | trivial | rfl | omega | (simp only [NM]; omega)) (.inl rfl) (by exact Nat.le_of_ble_eq_true rfl) ?_
          try simp (maxSteps := 4000000) only [h1, h2, h3, h4, h5, h6, h7, EVB, eqF, Op.operands, IntKind.bits, descF, sizeF, bytesF, zeroF, seval, reduceCtorEq, ↓reduceIte]
          refine CallK.freshE (pontoonref15_SameTxn_t a0.Txn a1.Txn).toO rfl (by first | rfl | (simp only [NM]; done)) (by (repeat' apply And.intro) <;> first | trivial | rfl | omega | (simp only [NM]; omega)) (.inl rfl) (by exact Nat.le_of_ble_eq_true rfl) ?_
          try simp (maxSteps := 4000000) only [h1, h2, h3, h4, h5, h6, h7, EVB, eqF, Op.operands, IntKind.bits, descF, sizeF, bytesF, zeroF, seval, reduceCtorEq, ↓reduceIte]
          try simp only [h1, h2, h3, h4, h5, h6, h7, BM]
          exact Weak.sub' ⟨rfl, trivial⟩ trivial (Nat.le_of_ble_eq_true rfl)
        ·simp (maxSteps := 4000000) only [h1, h2, h3, h4, h5, h6, EVB, eqF, Op.operands, IntKind.bits, descF, sizeF, bytesF, zeroF, seval, reduceCtorEq, ↓reduceIte]
         refine CallK.freshE (pontoonref15_SameInts_t a0.Vector a1.Vector).toO rfl (by first | rfl | (simp only [NM]; done)) (by (repeat' apply And.intro) <;> first | trivial | rfl | omega | (simp only [NM]; omega)) (.inl rfl) (by exact Nat.le_of_ble_eq_true rfl) ?_
         try simp (maxSteps := 4000000) only [h1, h2, h3, h4, h5, h6, EVB, eqF, Op.operands, IntKind.bits, descF, sizeF, bytesF, zeroF, seval, reduceCtorEq, ↓reduceIte]
         refine CallK.freshE (pontoonref15_SameTxn_t a0.Txn a1.Txn).toO rfl (by first | rfl | (simp only [NM]; done)) (by (repeat' apply And.intro) <;> first | trivial | rfl | omega | (simp only [NM]; omega)) (.inl rfl) (by exact Nat.le_of_ble_eq_true rfl) ?_
         try simp (maxSteps := 4000000) only [h1, h2, h3, h4, h5, h6, EVB, eqF, Op.operands, IntKind.bits, descF, sizeF, bytesF, zeroF, seval, reduceCtorEq, ↓reduceIte]
         try simp only [h1, h2, h3, h4, h5, h6, BM]
         exact Weak.sub' ⟨rfl, trivial⟩ trivial (Nat.le_of_ble_eq_true rfl)
       ·simp (maxSteps := 4000000) only [h1, h2, h3, h4, h5, EVB, eqF, Op.operands, IntKind.bits, descF, sizeF, bytesF, zeroF, seval, reduceCtorEq, ↓reduceIte]
        refine CallK.freshE (pontoonref15_SameInts_t a0.Vector a1.Vector).toO rfl (by first | rfl | (simp only [NM]; done)) (by (repeat' apply And.intro) <;> first | trivial | rfl | omega | (simp only [NM]; omega)) (.inl rfl) (by exact Nat.le_of_ble_eq_true rfl) ?_
        try simp (maxSteps := 4000000) only [h1, h2, h3, h4, h5, EVB, eqF, Op.operands, IntKind.bits, descF, sizeF, bytesF, zeroF, seval, reduceCtorEq, ↓reduceIte]
        try simp only [h1, h2, h3, h4, h5, BM]
        exact Weak.sub' ⟨rfl, trivial⟩ trivial (Nat.le_of_ble_eq_true rfl)
      ·simp (maxSteps := 4000000) only [h1, h2, h3, h4, EVB, eqF, Op.operands, IntKind.bits, descF, sizeF, bytesF, zeroF, seval, reduceCtorEq, ↓reduceIte]
       try simp only [h1, h2, h3, h4, BM]
       exact Weak.sub' ⟨rfl, trivial⟩ trivial (Nat.le_of_ble_eq_true rfl)
     ·simp (maxSteps := 4000000) only [h1, h2, h3, EVB, eqF, Op.operands, IntKind.bits, descF, sizeF, bytesF, zeroF, seval, reduceCtorEq, ↓reduceIte]
      try simp only [h1, h2, h3, BM]
      exact Weak.sub' ⟨rfl, trivial⟩ trivial (Nat.le_of_ble_eq_true rfl)
    ·simp (maxSteps := 4000000) only [h1, h2, EVB, eqF, Op.operands, IntKind.bits, descF, sizeF, bytesF, zeroF, seval, reduceCtorEq, ↓reduceIte]
     try simp only [h1, h2, BM]
     exact Weak.sub' ⟨rfl, trivial⟩ trivial (Nat.le_of_ble_eq_true rfl)
   ·simp (maxSteps := 4000000) only [h1, EVB, eqF, Op.operands, IntKind.bits, descF, sizeF, bytesF, zeroF, seval, reduceCtorEq, ↓reduceIte]
    try simp only [h1, BM]
    exact Weak.sub' ⟨rfl, trivial⟩ trivial (Nat.le_of_ble_eq_true rfl)
  ·skip
   subst hx0
   refine go_return ttOk (fun _ h => h) rfl ?_ ?_
   ·exact (by (repeat' apply And.intro) <;> first | trivial | exact Nat.le_of_ble_eq_true rfl | omega | (simp only [NM]; omega))
   ·first | rfl | (simp only [NM, CELLS] <;> rfl)
end Go.Ab.Try
