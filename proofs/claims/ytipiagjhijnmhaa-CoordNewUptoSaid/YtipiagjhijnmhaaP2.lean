/-
  Functions, and what they compute: printed by wg.py, a program of this work.
-/
import Derived.Test.YtipiagjhijnmhaaP0
import Derived.Test.YtipiagjhijnmhaaP1
set_option linter.unusedVariables false
set_option linter.unusedSimpArgs false
namespace Go.Ab.Try
open Go Go.Proofs Go.Ab

def coord_Check (a0 : SCoord) : Int :=
  (bif ((((((((((decide (a0.Phase < 0)) || (decide (a0.Phase > 4))) || (!(coord_pos a0.Epoch))) || (!(coord_num a0.Id))) || (!(coord_num a0.Len))) || (!(coord_num a0.Done))) || (!(coord_num a0.Left))) || (decide (((a0.Vector.length : Nat) : Int) < 1))) || (decide (((a0.Vector.length : Nat) : Int) > 4))) || (slices_ContainsFunc_int64 a0.Vector coord_Check_c1)) then 1 else (bif (((coord_asks a0) && (!(decide ([a0.Txn.Epoch, a0.Txn.Id] = [(coord_key a0).Epoch, (coord_key a0).Id])))) || ((!(coord_asks a0)) && (!(coord_sameTxn a0.Txn (STxn.mk 0 0 0 [] []))))) then 1 else 0))
set_option maxRecDepth 10000 in
set_option maxHeartbeats 8000000 in
theorem coord_Check_t (a0 : SCoord) : FnP Try.prog 17 [.agg [.c (.val (.int .i64 a0.Phase)), .c (.val (.int .i64 a0.Epoch)), .c (.val (.int .i64 a0.Id)), .c (.val (.int .i64 a0.Len)), .c (.sl (List.map cI64 a0.Vector)), .c (.val (.int .i64 a0.Txn.Epoch)), .c (.val (.int .i64 a0.Txn.Id)), .c (.val (.int .i64 a0.Txn.Begin)), .c (.sl (List.map SRecord.cells a0.Txn.Records)), .c (.sl (List.map cI64 a0.Txn.Vector)), .c (.val (.int .i64 a0.Done)), .c (.val (.int .i64 a0.Left))]] (.c (.val (.int .i64 (coord_Check a0)))) := by
 refine FnP.intro (tt := tt) Try.func17 rfl (by kernel_rfl) (by simp [Try.ntmps17]) fun w0 A hA => ?_
 have hR := reckB_ok eqOk ttOk
 obtain ⟨res, hx0⟩ : ∃ r, coord_Check a0 = r := ⟨_, rfl⟩
 simp only [hx0]
 unfold coord_Check at hx0
 simp only [argT, Try.ntmps17]
 refine go_seq ?_
 refine go_regionJ hR ⟨[(1, .ptr 0 0)], [(0, .box [.c (.val (.int .i64 a0.Phase)), .c (.val (.int .i64 a0.Epoch)), .c (.val (.int .i64 a0.Id)), .c (.val (.int .i64 a0.Len)), .c (.sl (List.map cI64 a0.Vector)), .c (.val (.int .i64 a0.Txn.Epoch)), .c (.val (.int .i64 a0.Txn.Id)), .c (.val (.int .i64 a0.Txn.Begin)), .c (.sl (List.map SRecord.cells a0.Txn.Records)), .c (.sl (List.map cI64 a0.Txn.Vector)), .c (.val (.int .i64 a0.Done)), .c (.val (.int .i64 a0.Left))] 30)], 1⟩ ?_ ?_
 ·skip
  simp only [EVB, eqF, Op.operands, IntKind.bits, descF, sizeF, bytesF, zeroF, seval, reduceCtorEq, ↓reduceIte]
  exact Weak.sub' ⟨rfl, trivial⟩ ⟨rfl, trivial⟩ (Nat.le_of_ble_eq_true rfl)
 ·skip
  refine go_seq ?_
  refine go_regionJ hR ⟨[(1, .ptr 0 0), (3, .c (.val (.bool (((((((decide (a0.Phase < 0)) || (decide (a0.Phase > 4))) || (!(coord_pos a0.Epoch))) || (!(coord_num a0.Id))) || (!(coord_num a0.Len))) || (!(coord_num a0.Done))) || (!(coord_num a0.Left))))))], [(0, .box [.c (.val (.int .i64 a0.Phase)), .c (.val (.int .i64 a0.Epoch)), .c (.val (.int .i64 a0.Id)), .c (.val (.int .i64 a0.Len)), .c (.sl (List.map cI64 a0.Vector)), .c (.val (.int .i64 a0.Txn.Epoch)), .c (.val (.int .i64 a0.Txn.Id)), .c (.val (.int .i64 a0.Txn.Begin)), .c (.sl (List.map SRecord.cells a0.Txn.Records)), .c (.sl (List.map cI64 a0.Txn.Vector)), .c (.val (.int .i64 a0.Done)), .c (.val (.int .i64 a0.Left))] 30)], 1⟩ ?_ ?_
  ·skip
   rcases Bool.eq_false_or_eq_true (decide (a0.Phase < 0)) with h1 | h1
   ·simp (maxSteps := 4000000) only [h1, EVB, eqF, Op.operands, IntKind.bits, descF, sizeF, bytesF, zeroF, seval, reduceCtorEq, ↓reduceIte]
    try simp only [h1, BM]
    exact Weak.sub' ⟨rfl, rfl, trivial⟩ ⟨rfl, trivial⟩ (Nat.le_of_ble_eq_true rfl)
   ·rcases Bool.eq_false_or_eq_true (decide (a0.Phase > 4)) with h2 | h2
    ·simp (maxSteps := 4000000) only [h1, h2, EVB, eqF, Op.operands, IntKind.bits, descF, sizeF, bytesF, zeroF, seval, reduceCtorEq, ↓reduceIte]
     try simp only [h1, h2, BM]
     exact Weak.sub' ⟨rfl, rfl, trivial⟩ ⟨rfl, trivial⟩ (Nat.le_of_ble_eq_true rfl)
    ·rcases Bool.eq_false_or_eq_true (!(coord_pos a0.Epoch)) with h3 | h3
     ·simp (maxSteps := 4000000) only [h1, h2, h3, EVB, eqF, Op.operands, IntKind.bits, descF, sizeF, bytesF, zeroF, seval, reduceCtorEq, ↓reduceIte]
      refine CallK.freshE (coord_pos_t a0.Epoch).toO rfl (by first | rfl | (simp only [NM]; done)) (by (repeat' apply And.intro) <;> first | trivial | rfl | omega | (simp only [NM]; omega)) (.inl rfl) (by exact Nat.le_of_ble_eq_true rfl) ?_
      try simp (maxSteps := 4000000) only [h1, h2, h3, EVB, eqF, Op.operands, IntKind.bits, descF, sizeF, bytesF, zeroF, seval, reduceCtorEq, ↓reduceIte]
      try simp only [h1, h2, h3, BM]
      exact Weak.sub' ⟨rfl, rfl, trivial⟩ ⟨rfl, trivial⟩ (Nat.le_of_ble_eq_true rfl)
     ·rcases Bool.eq_false_or_eq_true (!(coord_num a0.Id)) with h4 | h4
      ·simp (maxSteps := 4000000) only [h1, h2, h3, h4, EVB, eqF, Op.operands, IntKind.bits, descF, sizeF, bytesF, zeroF, seval, reduceCtorEq, ↓reduceIte]
       refine CallK.freshE (coord_pos_t a0.Epoch).toO rfl (by first | rfl | (simp only [NM]; done)) (by (repeat' apply And.intro) <;> first | trivial | rfl | omega | (simp only [NM]; omega)) (.inl rfl) (by exact Nat.le_of_ble_eq_true rfl) ?_
       try simp (maxSteps := 4000000) only [h1, h2, h3, h4, EVB, eqF, Op.operands, IntKind.bits, descF, sizeF, bytesF, zeroF, seval, reduceCtorEq, ↓reduceIte]
       refine CallK.freshE (coord_num_t a0.Id).toO rfl (by first | rfl | (simp only [NM]; done)) (by (repeat' apply And.intro) <;> first | trivial | rfl | omega | (simp only [NM]; omega)) (.inl rfl) (by exact Nat.le_of_ble_eq_true rfl) ?_
       try simp (maxSteps := 4000000) only [h1, h2, h3, h4, EVB, eqF, Op.operands, IntKind.bits, descF, sizeF, bytesF, zeroF, seval, reduceCtorEq, ↓reduceIte]
       try simp only [h1, h2, h3, h4, BM]
       exact Weak.sub' ⟨rfl, rfl, trivial⟩ ⟨rfl, trivial⟩ (Nat.le_of_ble_eq_true rfl)
      ·rcases Bool.eq_false_or_eq_true (!(coord_num a0.Len)) with h5 | h5
       ·simp (maxSteps := 4000000) only [h1, h2, h3, h4, h5, EVB, eqF, Op.operands, IntKind.bits, descF, sizeF, bytesF, zeroF, seval, reduceCtorEq, ↓reduceIte]
        refine CallK.freshE (coord_pos_t a0.Epoch).toO rfl (by first | rfl | (simp only [NM]; done)) (by (repeat' apply And.intro) <;> first | trivial | rfl | omega | (simp only [NM]; omega)) (.inl rfl) (by exact Nat.le_of_ble_eq_true rfl) ?_
        try simp (maxSteps := 4000000) only [h1, h2, h3, h4, h5, EVB, eqF, Op.operands, IntKind.bits, descF, sizeF, bytesF, zeroF, seval, reduceCtorEq, ↓reduceIte]
        refine CallK.freshE (coord_num_t a0.Id).toO rfl (by first | rfl | (simp only [NM]; done)) (by (repeat' apply And.intro) <;> first | trivial | rfl | omega | (simp only [NM]; omega)) (.inl rfl) (by exact Nat.le_of_ble_eq_true rfl) ?_
        try simp (maxSteps := 4000000) only [h1, h2, h3, h4, h5, EVB, eqF, Op.operands, IntKind.bits, descF, sizeF, bytesF, zeroF, seval, reduceCtorEq, ↓reduceIte]
        refine CallK.freshE (coord_num_t a0.Len).toO rfl (by first | rfl | (simp only [NM]; done)) (by (repeat' apply And.intro) <;> first | trivial | rfl | omega | (simp only [NM]; omega)) (.inl rfl) (by exact Nat.le_of_ble_eq_true rfl) ?_
        try simp (maxSteps := 4000000) only [h1, h2, h3, h4, h5, EVB, eqF, Op.operands, IntKind.bits, descF, sizeF, bytesF, zeroF, seval, reduceCtorEq, ↓reduceIte]
        try simp only [h1, h2, h3, h4, h5, BM]
        exact Weak.sub' ⟨rfl, rfl, trivial⟩ ⟨rfl, trivial⟩ (Nat.le_of_ble_eq_true rfl)
       ·rcases Bool.eq_false_or_eq_true (!(coord_num a0.Done)) with h6 | h6
        ·simp (maxSteps := 4000000) only [h1, h2, h3, h4, h5, h6, EVB, eqF, Op.operands, IntKind.bits, descF, sizeF, bytesF, zeroF, seval, reduceCtorEq, ↓reduceIte]
         refine CallK.freshE (coord_pos_t a0.Epoch).toO rfl (by first | rfl | (simp only [NM]; done)) (by (repeat' apply And.intro) <;> first | trivial | rfl | omega | (simp only [NM]; omega)) (.inl rfl) (by exact Nat.le_of_ble_eq_true rfl) ?_
         try simp (maxSteps := 4000000) only [h1, h2, h3, h4, h5, h6, EVB, eqF, Op.operands, IntKind.bits, descF, sizeF, bytesF, zeroF, seval, reduceCtorEq, ↓reduceIte]
         refine CallK.freshE (coord_num_t a0.Id).toO rfl (by first | rfl | (simp only [NM]; done)) (by (repeat' apply And.intro) <;> first | trivial | rfl | omega | (simp only [NM]; omega)) (.inl rfl) (by exact Nat.le_of_ble_eq_true rfl) ?_
         try simp (maxSteps := 4000000) only [h1, h2, h3, h4, h5, h6, EVB, eqF, Op.operands, IntKind.bits, descF, sizeF, bytesF, zeroF, seval, reduceCtorEq, ↓reduceIte]
         refine CallK.freshE (coord_num_t a0.Len).toO rfl (by first | rfl | (simp only [NM]; done)) (by (repeat' apply And.intro) <;> first | trivial | rfl | omega | (simp only [NM]; omega)) (.inl rfl) (by exact Nat.le_of_ble_eq_true rfl) ?_
         try simp (maxSteps := 4000000) only [h1, h2, h3, h4, h5, h6, EVB, eqF, Op.operands, IntKind.bits, descF, sizeF, bytesF, zeroF, seval, reduceCtorEq, ↓reduceIte]
         refine CallK.freshE (coord_num_t a0.Done).toO rfl (by first | rfl | (simp only [NM]; done)) (by (repeat' apply And.intro) <;> first | trivial | rfl | omega | (simp only [NM]; omega)) (.inl rfl) (by exact Nat.le_of_ble_eq_true rfl) ?_
         try simp (maxSteps := 4000000) only [h1, h2, h3, h4, h5, h6, EVB, eqF, Op.operands, IntKind.bits, descF, sizeF, bytesF, zeroF, seval, reduceCtorEq, ↓reduceIte]
         try simp only [h1, h2, h3, h4, h5, h6, BM]
         exact Weak.sub' ⟨rfl, rfl, trivial⟩ ⟨rfl, trivial⟩ (Nat.le_of_ble_eq_true rfl)
        ·simp (maxSteps := 4000000) only [h1, h2, h3, h4, h5, h6, EVB, eqF, Op.operands, IntKind.bits, descF, sizeF, bytesF, zeroF, seval, reduceCtorEq, ↓reduceIte]
         refine CallK.freshE (coord_pos_t a0.Epoch).toO rfl (by first | rfl | (simp only [NM]; done)) (by (repeat' apply And.intro) <;> first | trivial | rfl | omega | (simp only [NM]; omega)) (.inl rfl) (by exact Nat.le_of_ble_eq_true rfl) ?_
         try simp (maxSteps := 4000000) only [h1, h2, h3, h4, h5, h6, EVB, eqF, Op.operands, IntKind.bits, descF, sizeF, bytesF, zeroF, seval, reduceCtorEq, ↓reduceIte]
         refine CallK.freshE (coord_num_t a0.Id).toO rfl (by first | rfl | (simp only [NM]; done)) (by (repeat' apply And.intro) <;> first | trivial | rfl | omega | (simp only [NM]; omega)) (.inl rfl) (by exact Nat.le_of_ble_eq_true rfl) ?_
         try simp (maxSteps := 4000000) only [h1, h2, h3, h4, h5, h6, EVB, eqF, Op.operands, IntKind.bits, descF, sizeF, bytesF, zeroF, seval, reduceCtorEq, ↓reduceIte]
         refine CallK.freshE (coord_num_t a0.Len).toO rfl (by first | rfl | (simp only [NM]; done)) (by (repeat' apply And.intro) <;> first | trivial | rfl | omega | (simp only [NM]; omega)) (.inl rfl) (by exact Nat.le_of_ble_eq_true rfl) ?_
         try simp (maxSteps := 4000000) only [h1, h2, h3, h4, h5, h6, EVB, eqF, Op.operands, IntKind.bits, descF, sizeF, bytesF, zeroF, seval, reduceCtorEq, ↓reduceIte]
         refine CallK.freshE (coord_num_t a0.Done).toO rfl (by first | rfl | (simp only [NM]; done)) (by (repeat' apply And.intro) <;> first | trivial | rfl | omega | (simp only [NM]; omega)) (.inl rfl) (by exact Nat.le_of_ble_eq_true rfl) ?_
         try simp (maxSteps := 4000000) only [h1, h2, h3, h4, h5, h6, EVB, eqF, Op.operands, IntKind.bits, descF, sizeF, bytesF, zeroF, seval, reduceCtorEq, ↓reduceIte]
         refine CallK.freshE (coord_num_t a0.Left).toO rfl (by first | rfl | (simp only [NM]; done)) (by (repeat' apply And.intro) <;> first | trivial | rfl | omega | (simp only [NM]; omega)) (.inl rfl) (by exact Nat.le_of_ble_eq_true rfl) ?_
         try simp (maxSteps := 4000000) only [h1, h2, h3, h4, h5, h6, EVB, eqF, Op.operands, IntKind.bits, descF, sizeF, bytesF, zeroF, seval, reduceCtorEq, ↓reduceIte]
         try simp only [h1, h2, h3, h4, h5, h6, BM]
         exact Weak.sub' ⟨rfl, rfl, trivial⟩ ⟨rfl, trivial⟩ (Nat.le_of_ble_eq_true rfl)
  ·skip
   refine go_seq ?_
   refine go_seq ?_
   refine go_regionJ hR ⟨[(1, .ptr 0 0), (59, .c (.val (.bool ((((((((((decide (a0.Phase < 0)) || (decide (a0.Phase > 4))) || (!(coord_pos a0.Epoch))) || (!(coord_num a0.Id))) || (!(coord_num a0.Len))) || (!(coord_num a0.Done))) || (!(coord_num a0.Left))) || (decide (((a0.Vector.length : Nat) : Int) < 1))) || (decide (((a0.Vector.length : Nat) : Int) > 4))) || (slices_ContainsFunc_int64 a0.Vector coord_Check_c1)))))], [(0, .box [.c (.val (.int .i64 a0.Phase)), .c (.val (.int .i64 a0.Epoch)), .c (.val (.int .i64 a0.Id)), .c (.val (.int .i64 a0.Len)), .c (.sl (List.map cI64 a0.Vector)), .c (.val (.int .i64 a0.Txn.Epoch)), .c (.val (.int .i64 a0.Txn.Id)), .c (.val (.int .i64 a0.Txn.Begin)), .c (.sl (List.map SRecord.cells a0.Txn.Records)), .c (.sl (List.map cI64 a0.Txn.Vector)), .c (.val (.int .i64 a0.Done)), .c (.val (.int .i64 a0.Left))] 30)], 1⟩ ?_ ?_
   ·skip
    rcases Bool.eq_false_or_eq_true (((((((decide (a0.Phase < 0)) || (decide (a0.Phase > 4))) || (!(coord_pos a0.Epoch))) || (!(coord_num a0.Id))) || (!(coord_num a0.Len))) || (!(coord_num a0.Done))) || (!(coord_num a0.Left))) with h7 | h7
    ·simp (maxSteps := 4000000) only [h7, EVB, eqF, Op.operands, IntKind.bits, descF, sizeF, bytesF, zeroF, seval, reduceCtorEq, ↓reduceIte]
     try simp only [h7, BM]
     exact Weak.sub' ⟨rfl, rfl, trivial⟩ ⟨rfl, trivial⟩ (Nat.le_of_ble_eq_true rfl)
    ·rcases Bool.eq_false_or_eq_true (decide (((a0.Vector.length : Nat) : Int) < 1)) with h8 | h8
     ·simp (maxSteps := 4000000) only [h7, h8, EVB, eqF, Op.operands, IntKind.bits, descF, sizeF, bytesF, zeroF, seval, reduceCtorEq, ↓reduceIte]
      try simp only [h7, h8, BM]
      exact Weak.sub' ⟨rfl, rfl, trivial⟩ ⟨rfl, trivial⟩ (Nat.le_of_ble_eq_true rfl)
     ·rcases Bool.eq_false_or_eq_true (decide (((a0.Vector.length : Nat) : Int) > 4)) with h9 | h9
      ·simp (maxSteps := 4000000) only [h7, h8, h9, EVB, eqF, Op.operands, IntKind.bits, descF, sizeF, bytesF, zeroF, seval, reduceCtorEq, ↓reduceIte]
       try simp only [h7, h8, h9, BM]
       exact Weak.sub' ⟨rfl, rfl, trivial⟩ ⟨rfl, trivial⟩ (Nat.le_of_ble_eq_true rfl)
      ·simp (maxSteps := 4000000) only [h7, h8, h9, EVB, eqF, Op.operands, IntKind.bits, descF, sizeF, bytesF, zeroF, seval, reduceCtorEq, ↓reduceIte]
       refine CallK.freshE (slices_ContainsFunc_int64_t a0.Vector 40 coord_Check_c1 coord_Check_c1_t).toO rfl (by first | rfl | (simp only [NM]; done)) (by (repeat' apply And.intro) <;> first | trivial | rfl | omega | (simp only [NM]; omega)) (.inl rfl) (by exact Nat.le_of_ble_eq_true rfl) ?_
       try simp (maxSteps := 4000000) only [h7, h8, h9, EVB, eqF, Op.operands, IntKind.bits, descF, sizeF, bytesF, zeroF, seval, reduceCtorEq, ↓reduceIte]
       try simp only [h7, h8, h9, BM]
       exact Weak.sub' ⟨rfl, rfl, trivial⟩ ⟨rfl, trivial⟩ (Nat.le_of_ble_eq_true rfl)
   ·skip
    refine go_cond (by rfl) (fun h10 => ?_) (fun h10 => ?_)
    ·have gh10 := h10
     try simp only [GN, beq_iff_eq, beq_eq_false_iff_ne, bne_iff_ne, bne_eq_false_iff_eq] at gh10
     simp only [h10, cond_true, cond_false] at hx0
     refine go_seq ?_
     refine go_regionJ hR ⟨[(2, .c (.val (.int .i64 1)))], [], 1⟩ ?_ ?_
     ·skip
      simp only [EVB, eqF, Op.operands, IntKind.bits, descF, sizeF, bytesF, zeroF, seval, reduceCtorEq, ↓reduceIte]
      exact Weak.sub' ⟨rfl, trivial⟩ trivial (Nat.le_of_ble_eq_true rfl)
     ·skip
      subst hx0
      refine go_return ttOk (fun _ h => h) rfl ?_ ?_
      ·exact (by (repeat' apply And.intro) <;> first | trivial | exact Nat.le_of_ble_eq_true rfl | omega | (simp only [NM]; omega))
      ·first | rfl | (simp only [NM, CELLS] <;> rfl)
    ·have gh10 := h10
     try simp only [GN, beq_iff_eq, beq_eq_false_iff_ne, bne_iff_ne, bne_eq_false_iff_eq] at gh10
     simp only [h10, cond_true, cond_false] at hx0
     refine go_skip ?_
     refine go_seq ?_
     refine go_seq ?_
     refine go_drawJ hR rfl ⟨[(85, .c (.val (.bool (((coord_asks a0) && (!(decide ([a0.Txn.Epoch, a0.Txn.Id] = [(coord_key a0).Epoch, (coord_key a0).Id])))) || ((!(coord_asks a0)) && (!(coord_sameTxn a0.Txn (STxn.mk 0 0 0 [] []))))))))], [], 1⟩ ?_ ?_
     ·skip
      rcases Bool.eq_false_or_eq_true (coord_asks a0) with h11 | h11
      ·rcases Bool.eq_false_or_eq_true (!(decide ([a0.Txn.Epoch, a0.Txn.Id] = [(coord_key a0).Epoch, (coord_key a0).Id]))) with h12 | h12
       ·simp (maxSteps := 4000000) only [h11, h12, EVB, eqF, Op.operands, IntKind.bits, descF, sizeF, bytesF, zeroF, seval, reduceCtorEq, ↓reduceIte]
        refine CallD.fresh (coord_asks_t a0).toO rfl (by first | rfl | (simp only [NM]; done)) (by (repeat' apply And.intro) <;> first | trivial | rfl | omega | (simp only [NM]; omega)) (.inl rfl) ?_
        try simp (maxSteps := 4000000) only [h11, h12, EVB, eqF, Op.operands, IntKind.bits, descF, sizeF, bytesF, zeroF, seval, reduceCtorEq, ↓reduceIte]
        refine CallD.fresh (coord_key_t a0).toO rfl (by first | rfl | (simp only [NM]; done)) (by (repeat' apply And.intro) <;> first | trivial | rfl | omega | (simp only [NM]; omega)) (.inl rfl) ?_
        try simp (maxSteps := 4000000) only [h11, h12, EVB, eqF, Op.operands, IntKind.bits, descF, sizeF, bytesF, zeroF, seval, reduceCtorEq, ↓reduceIte]
        refine ⟨by kernel_rfl, ?_⟩
        try simp only [h11, h12, BM]
        exact Weak.sub' ⟨rfl, trivial⟩ trivial (Nat.le_of_ble_eq_true rfl)
       ·simp (maxSteps := 4000000) only [h11, h12, EVB, eqF, Op.operands, IntKind.bits, descF, sizeF, bytesF, zeroF, seval, reduceCtorEq, ↓reduceIte]
        refine CallD.fresh (coord_asks_t a0).toO rfl (by first | rfl | (simp only [NM]; done)) (by (repeat' apply And.intro) <;> first | trivial | rfl | omega | (simp only [NM]; omega)) (.inl rfl) ?_
        try simp (maxSteps := 4000000) only [h11, h12, EVB, eqF, Op.operands, IntKind.bits, descF, sizeF, bytesF, zeroF, seval, reduceCtorEq, ↓reduceIte]
        refine CallD.fresh (coord_key_t a0).toO rfl (by first | rfl | (simp only [NM]; done)) (by (repeat' apply And.intro) <;> first | trivial | rfl | omega | (simp only [NM]; omega)) (.inl rfl) ?_
        try simp (maxSteps := 4000000) only [h11, h12, EVB, eqF, Op.operands, IntKind.bits, descF, sizeF, bytesF, zeroF, seval, reduceCtorEq, ↓reduceIte]
        refine CallD.fresh (coord_asks_t a0).toO rfl (by first | rfl | (simp only [NM]; done)) (by (repeat' apply And.intro) <;> first | trivial | rfl | omega | (simp only [NM]; omega)) (.inl rfl) ?_
        try simp (maxSteps := 4000000) only [h11, h12, EVB, eqF, Op.operands, IntKind.bits, descF, sizeF, bytesF, zeroF, seval, reduceCtorEq, ↓reduceIte]
        refine ⟨by kernel_rfl, ?_⟩
        try simp only [h11, h12, BM]
        exact Weak.sub' ⟨rfl, trivial⟩ trivial (Nat.le_of_ble_eq_true rfl)
      ·simp (maxSteps := 4000000) only [h11, EVB, eqF, Op.operands, IntKind.bits, descF, sizeF, bytesF, zeroF, seval, reduceCtorEq, ↓reduceIte]
       refine CallD.fresh (coord_asks_t a0).toO rfl (by first | rfl | (simp only [NM]; done)) (by (repeat' apply And.intro) <;> first | trivial | rfl | omega | (simp only [NM]; omega)) (.inl rfl) ?_
       try simp (maxSteps := 4000000) only [h11, EVB, eqF, Op.operands, IntKind.bits, descF, sizeF, bytesF, zeroF, seval, reduceCtorEq, ↓reduceIte]
       refine CallD.fresh (coord_asks_t a0).toO rfl (by first | rfl | (simp only [NM]; done)) (by (repeat' apply And.intro) <;> first | trivial | rfl | omega | (simp only [NM]; omega)) (.inl rfl) ?_
       try simp (maxSteps := 4000000) only [h11, EVB, eqF, Op.operands, IntKind.bits, descF, sizeF, bytesF, zeroF, seval, reduceCtorEq, ↓reduceIte]
       refine CallD.fresh (coord_sameTxn_t a0.Txn (STxn.mk 0 0 0 [] [])).toO rfl (by first | rfl | (simp only [NM]; done)) (by (repeat' apply And.intro) <;> first | trivial | rfl | omega | (simp only [NM]; omega)) (.inl rfl) ?_
       try simp (maxSteps := 4000000) only [h11, EVB, eqF, Op.operands, IntKind.bits, descF, sizeF, bytesF, zeroF, seval, reduceCtorEq, ↓reduceIte]
       refine ⟨by kernel_rfl, ?_⟩
       try simp only [h11, BM]
       exact Weak.sub' ⟨rfl, trivial⟩ trivial (Nat.le_of_ble_eq_true rfl)
     ·skip
      refine go_cond (by rfl) (fun h13 => ?_) (fun h13 => ?_)
      ·have gh13 := h13
       try simp only [GN, beq_iff_eq, beq_eq_false_iff_ne, bne_iff_ne, bne_eq_false_iff_eq] at gh13
       simp only [h13, cond_true, cond_false] at hx0
       refine go_seq ?_
       refine go_regionJ hR ⟨[(2, .c (.val (.int .i64 1)))], [], 1⟩ ?_ ?_
       ·skip
        simp only [EVB, eqF, Op.operands, IntKind.bits, descF, sizeF, bytesF, zeroF, seval, reduceCtorEq, ↓reduceIte]
        exact Weak.sub' ⟨rfl, trivial⟩ trivial (Nat.le_of_ble_eq_true rfl)
       ·skip
        subst hx0
        refine go_return ttOk (fun _ h => h) rfl ?_ ?_
        ·exact (by (repeat' apply And.intro) <;> first | trivial | exact Nat.le_of_ble_eq_true rfl | omega | (simp only [NM]; omega))
        ·first | rfl | (simp only [NM, CELLS] <;> rfl)
      ·have gh13 := h13
       try simp only [GN, beq_iff_eq, beq_eq_false_iff_ne, bne_iff_ne, bne_eq_false_iff_eq] at gh13
       simp only [h13, cond_true, cond_false] at hx0
       refine go_skip ?_
       refine go_seq ?_
       refine go_regionJ hR ⟨[(2, .c (.val (.int .i64 0)))], [], 1⟩ ?_ ?_
       ·skip
        simp only [EVB, eqF, Op.operands, IntKind.bits, descF, sizeF, bytesF, zeroF, seval, reduceCtorEq, ↓reduceIte]
        exact Weak.sub' ⟨rfl, trivial⟩ trivial (Nat.le_of_ble_eq_true rfl)
       ·skip
        subst hx0
        refine go_return ttOk (fun _ h => h) rfl ?_ ?_
        ·exact (by (repeat' apply And.intro) <;> first | trivial | exact Nat.le_of_ble_eq_true rfl | omega | (simp only [NM]; omega))
        ·first | rfl | (simp only [NM, CELLS] <;> rfl)

def slices_Clone_int64 (a0 : List Int) : List Int := a0
set_option maxRecDepth 10000 in
theorem slices_Clone_int64_o (a0 : List Int) (hz : a0.length ≤ 4294967296) : FnO Try.prog 33 [.c (.sl (List.map cI64 a0))] [.acc 1 (List.map cI64 a0) 2] (.own 0 1 0 a0.length) := by
  refine FnO.intro (tt := tt) Try.func33 rfl (by kernel_rfl) (by simp [Try.ntmps33]) fun w0 A hA => ?_
  have hR := reckB_ok eqOk ttOk
  simp only [argT, Try.ntmps33]
  (repeat (first | refine go_seq ?_ | refine go_skip ?_ | refine go_blk ?_ | refine go_block ?_ | refine go_scope (fun _ _ _ h => h) ?_ | refine go_label ?_ | (refine go_region hR ?_; simp only [EV1, EV2, EV3, EV4, EV5, EV6, EV7, EV8, EV9, EV10, EV11, eqF, Op.operands, IntKind.bits, descF, sizeF, bytesF, zeroF, Nat.reduceLT, Nat.reduceLeDiff, Nat.reduceAdd, Nat.reduceSub, Nat.reduceMul, Nat.reduceBEq, Nat.reduceEqDiff, reduceCtorEq, ↓reduceIte, Int.reduceToNat, Nat.reducePow, Int.reducePow, Int.reduceLE, Int.reduceLT, Int.reduceAdd, Int.reduceSub, Int.reduceMul, Int.reduceNeg, Int.reduceBEq, Int.reduceBNe, Int.reduceEq]) | (refine go_draw hR rfl ?_; simp only [EV1, EV2, EV3, EV4, EV5, EV6, EV7, EV8, EV9, EV10, EV11, eqF, Op.operands, IntKind.bits, descF, sizeF, bytesF, zeroF, Nat.reduceLT, Nat.reduceLeDiff, Nat.reduceAdd, Nat.reduceSub, Nat.reduceMul, Nat.reduceBEq, Nat.reduceEqDiff, reduceCtorEq, ↓reduceIte, Int.reduceToNat, Nat.reducePow, Int.reducePow, Int.reduceLE, Int.reduceLT, Int.reduceAdd, Int.reduceSub, Int.reduceMul, Int.reduceNeg, Int.reduceBEq, Int.reduceBNe, Int.reduceEq]) | refine ⟨by kernel_rfl, ?_⟩ | refine ⟨by decide, ?_⟩))
  refine spec_eqnil (cx := cx0 _ _ _ _ _ _) (p := List.map cI64 a0 = []) ttOk rfl rfl rfl (by exact Nat.le_of_ble_eq_true rfl) fun b hb => ?_
  (repeat (first | refine go_seq ?_ | refine go_skip ?_ | refine go_blk ?_ | refine go_block ?_ | refine go_scope (fun _ _ _ h => h) ?_ | refine go_label ?_ | (refine go_region hR ?_; simp only [EV1, EV2, EV3, EV4, EV5, EV6, EV7, EV8, EV9, EV10, EV11, eqF, Op.operands, IntKind.bits, descF, sizeF, bytesF, zeroF, Nat.reduceLT, Nat.reduceLeDiff, Nat.reduceAdd, Nat.reduceSub, Nat.reduceMul, Nat.reduceBEq, Nat.reduceEqDiff, reduceCtorEq, ↓reduceIte, Int.reduceToNat, Nat.reducePow, Int.reducePow, Int.reduceLE, Int.reduceLT, Int.reduceAdd, Int.reduceSub, Int.reduceMul, Int.reduceNeg, Int.reduceBEq, Int.reduceBNe, Int.reduceEq]) | (refine go_draw hR rfl ?_; simp only [EV1, EV2, EV3, EV4, EV5, EV6, EV7, EV8, EV9, EV10, EV11, eqF, Op.operands, IntKind.bits, descF, sizeF, bytesF, zeroF, Nat.reduceLT, Nat.reduceLeDiff, Nat.reduceAdd, Nat.reduceSub, Nat.reduceMul, Nat.reduceBEq, Nat.reduceEqDiff, reduceCtorEq, ↓reduceIte, Int.reduceToNat, Nat.reducePow, Int.reducePow, Int.reduceLE, Int.reduceLT, Int.reduceAdd, Int.reduceSub, Int.reduceMul, Int.reduceNeg, Int.reduceBEq, Int.reduceBNe, Int.reduceEq]) | refine ⟨by kernel_rfl, ?_⟩ | refine ⟨by decide, ?_⟩))
  refine go_cond rfl (fun h => ?_) (fun h => ?_)
  · (repeat (first | refine go_seq ?_ | refine go_skip ?_ | refine go_blk ?_ | refine go_block ?_ | refine go_scope (fun _ _ _ h => h) ?_ | refine go_label ?_ | (refine go_region hR ?_; simp only [EV1, EV2, EV3, EV4, EV5, EV6, EV7, EV8, EV9, EV10, EV11, eqF, Op.operands, IntKind.bits, descF, sizeF, bytesF, zeroF, Nat.reduceLT, Nat.reduceLeDiff, Nat.reduceAdd, Nat.reduceSub, Nat.reduceMul, Nat.reduceBEq, Nat.reduceEqDiff, reduceCtorEq, ↓reduceIte, Int.reduceToNat, Nat.reducePow, Int.reducePow, Int.reduceLE, Int.reduceLT, Int.reduceAdd, Int.reduceSub, Int.reduceMul, Int.reduceNeg, Int.reduceBEq, Int.reduceBNe, Int.reduceEq]) | (refine go_draw hR rfl ?_; simp only [EV1, EV2, EV3, EV4, EV5, EV6, EV7, EV8, EV9, EV10, EV11, eqF, Op.operands, IntKind.bits, descF, sizeF, bytesF, zeroF, Nat.reduceLT, Nat.reduceLeDiff, Nat.reduceAdd, Nat.reduceSub, Nat.reduceMul, Nat.reduceBEq, Nat.reduceEqDiff, reduceCtorEq, ↓reduceIte, Int.reduceToNat, Nat.reducePow, Int.reducePow, Int.reduceLE, Int.reduceLT, Int.reduceAdd, Int.reduceSub, Int.reduceMul, Int.reduceNeg, Int.reduceBEq, Int.reduceBNe, Int.reduceEq]) | refine ⟨by kernel_rfl, ?_⟩ | refine ⟨by decide, ?_⟩))
    have h0 : a0 = [] := by simpa using hb h
    subst h0
    refine go_nilOwn 2 1 2 rfl ?_
    refine go_returnO [0] (by simp) ttOk rfl ?_ rfl rfl
    simp
  · (repeat (first | refine go_seq ?_ | refine go_skip ?_ | refine go_blk ?_ | refine go_block ?_ | refine go_scope (fun _ _ _ h => h) ?_ | refine go_label ?_ | (refine go_region hR ?_; simp only [EV1, EV2, EV3, EV4, EV5, EV6, EV7, EV8, EV9, EV10, EV11, eqF, Op.operands, IntKind.bits, descF, sizeF, bytesF, zeroF, Nat.reduceLT, Nat.reduceLeDiff, Nat.reduceAdd, Nat.reduceSub, Nat.reduceMul, Nat.reduceBEq, Nat.reduceEqDiff, reduceCtorEq, ↓reduceIte, Int.reduceToNat, Nat.reducePow, Int.reducePow, Int.reduceLE, Int.reduceLT, Int.reduceAdd, Int.reduceSub, Int.reduceMul, Int.reduceNeg, Int.reduceBEq, Int.reduceBNe, Int.reduceEq]) | (refine go_draw hR rfl ?_; simp only [EV1, EV2, EV3, EV4, EV5, EV6, EV7, EV8, EV9, EV10, EV11, eqF, Op.operands, IntKind.bits, descF, sizeF, bytesF, zeroF, Nat.reduceLT, Nat.reduceLeDiff, Nat.reduceAdd, Nat.reduceSub, Nat.reduceMul, Nat.reduceBEq, Nat.reduceEqDiff, reduceCtorEq, ↓reduceIte, Int.reduceToNat, Nat.reducePow, Int.reducePow, Int.reduceLE, Int.reduceLT, Int.reduceAdd, Int.reduceSub, Int.reduceMul, Int.reduceNeg, Int.reduceBEq, Int.reduceBNe, Int.reduceEq]) | refine ⟨by kernel_rfl, ?_⟩ | refine ⟨by decide, ?_⟩))
    refine ⟨⟨fun u hu => by obtain ⟨x, _, rfl⟩ := List.mem_map.1 hu; rfl, by rw [List.length_map]; omega, by rw [List.length_map]; omega⟩, ?_⟩
    refine go_returnO [0] (by simp) ttOk rfl ?_ ?_ rfl
    · simp
    · rw [List.length_map]
theorem slices_Clone_int64_t (a0 : List Int) (hz : a0.length ≤ 4294967296) : FnP Try.prog 33 [.c (.sl (List.map cI64 a0))] (.c (.sl (List.map cI64 (slices_Clone_int64 a0)))) := by
  have := (slices_Clone_int64_o a0 hz).frz rfl ⟨rfl, by rw [List.length_map]; omega⟩
  rwa [List.drop_zero, take_map_len] at this
theorem slices_Clone_int64_sz (a0 : List Int) (hz : a0.length ≤ 4294967296) : (slices_Clone_int64 a0).length ≤ 4294967296 := hz

def slices_Clone_Record (a0 : List SRecord) : List SRecord := a0
set_option maxRecDepth 10000 in
theorem slices_Clone_Record_o (a0 : List SRecord) (hz : a0.length ≤ 4294967296) : FnO Try.prog 77 [.c (.sl (List.map SRecord.cells a0))] [.acc 2 (List.map SRecord.cells a0) 68] (.own 0 2 0 a0.length) := by
  refine FnO.intro (tt := tt) Try.func77 rfl (by kernel_rfl) (by simp [Try.ntmps77]) fun w0 A hA => ?_
  have hR := reckB_ok eqOk ttOk
  simp only [argT, Try.ntmps77]
  (repeat (first | refine go_seq ?_ | refine go_skip ?_ | refine go_blk ?_ | refine go_block ?_ | refine go_scope (fun _ _ _ h => h) ?_ | refine go_label ?_ | (refine go_region hR ?_; simp only [EV1, EV2, EV3, EV4, EV5, EV6, EV7, EV8, EV9, EV10, EV11, eqF, Op.operands, IntKind.bits, descF, sizeF, bytesF, zeroF, Nat.reduceLT, Nat.reduceLeDiff, Nat.reduceAdd, Nat.reduceSub, Nat.reduceMul, Nat.reduceBEq, Nat.reduceEqDiff, reduceCtorEq, ↓reduceIte, Int.reduceToNat, Nat.reducePow, Int.reducePow, Int.reduceLE, Int.reduceLT, Int.reduceAdd, Int.reduceSub, Int.reduceMul, Int.reduceNeg, Int.reduceBEq, Int.reduceBNe, Int.reduceEq]) | (refine go_draw hR rfl ?_; simp only [EV1, EV2, EV3, EV4, EV5, EV6, EV7, EV8, EV9, EV10, EV11, eqF, Op.operands, IntKind.bits, descF, sizeF, bytesF, zeroF, Nat.reduceLT, Nat.reduceLeDiff, Nat.reduceAdd, Nat.reduceSub, Nat.reduceMul, Nat.reduceBEq, Nat.reduceEqDiff, reduceCtorEq, ↓reduceIte, Int.reduceToNat, Nat.reducePow, Int.reducePow, Int.reduceLE, Int.reduceLT, Int.reduceAdd, Int.reduceSub, Int.reduceMul, Int.reduceNeg, Int.reduceBEq, Int.reduceBNe, Int.reduceEq]) | refine ⟨by kernel_rfl, ?_⟩ | refine ⟨by decide, ?_⟩))
  refine spec_eqnil (cx := cx0 _ _ _ _ _ _) (p := List.map SRecord.cells a0 = []) ttOk rfl rfl rfl (by exact Nat.le_of_ble_eq_true rfl) fun b hb => ?_
  (repeat (first | refine go_seq ?_ | refine go_skip ?_ | refine go_blk ?_ | refine go_block ?_ | refine go_scope (fun _ _ _ h => h) ?_ | refine go_label ?_ | (refine go_region hR ?_; simp only [EV1, EV2, EV3, EV4, EV5, EV6, EV7, EV8, EV9, EV10, EV11, eqF, Op.operands, IntKind.bits, descF, sizeF, bytesF, zeroF, Nat.reduceLT, Nat.reduceLeDiff, Nat.reduceAdd, Nat.reduceSub, Nat.reduceMul, Nat.reduceBEq, Nat.reduceEqDiff, reduceCtorEq, ↓reduceIte, Int.reduceToNat, Nat.reducePow, Int.reducePow, Int.reduceLE, Int.reduceLT, Int.reduceAdd, Int.reduceSub, Int.reduceMul, Int.reduceNeg, Int.reduceBEq, Int.reduceBNe, Int.reduceEq]) | (refine go_draw hR rfl ?_; simp only [EV1, EV2, EV3, EV4, EV5, EV6, EV7, EV8, EV9, EV10, EV11, eqF, Op.operands, IntKind.bits, descF, sizeF, bytesF, zeroF, Nat.reduceLT, Nat.reduceLeDiff, Nat.reduceAdd, Nat.reduceSub, Nat.reduceMul, Nat.reduceBEq, Nat.reduceEqDiff, reduceCtorEq, ↓reduceIte, Int.reduceToNat, Nat.reducePow, Int.reducePow, Int.reduceLE, Int.reduceLT, Int.reduceAdd, Int.reduceSub, Int.reduceMul, Int.reduceNeg, Int.reduceBEq, Int.reduceBNe, Int.reduceEq]) | refine ⟨by kernel_rfl, ?_⟩ | refine ⟨by decide, ?_⟩))
  refine go_cond rfl (fun h => ?_) (fun h => ?_)
  · (repeat (first | refine go_seq ?_ | refine go_skip ?_ | refine go_blk ?_ | refine go_block ?_ | refine go_scope (fun _ _ _ h => h) ?_ | refine go_label ?_ | (refine go_region hR ?_; simp only [EV1, EV2, EV3, EV4, EV5, EV6, EV7, EV8, EV9, EV10, EV11, eqF, Op.operands, IntKind.bits, descF, sizeF, bytesF, zeroF, Nat.reduceLT, Nat.reduceLeDiff, Nat.reduceAdd, Nat.reduceSub, Nat.reduceMul, Nat.reduceBEq, Nat.reduceEqDiff, reduceCtorEq, ↓reduceIte, Int.reduceToNat, Nat.reducePow, Int.reducePow, Int.reduceLE, Int.reduceLT, Int.reduceAdd, Int.reduceSub, Int.reduceMul, Int.reduceNeg, Int.reduceBEq, Int.reduceBNe, Int.reduceEq]) | (refine go_draw hR rfl ?_; simp only [EV1, EV2, EV3, EV4, EV5, EV6, EV7, EV8, EV9, EV10, EV11, eqF, Op.operands, IntKind.bits, descF, sizeF, bytesF, zeroF, Nat.reduceLT, Nat.reduceLeDiff, Nat.reduceAdd, Nat.reduceSub, Nat.reduceMul, Nat.reduceBEq, Nat.reduceEqDiff, reduceCtorEq, ↓reduceIte, Int.reduceToNat, Nat.reducePow, Int.reducePow, Int.reduceLE, Int.reduceLT, Int.reduceAdd, Int.reduceSub, Int.reduceMul, Int.reduceNeg, Int.reduceBEq, Int.reduceBNe, Int.reduceEq]) | refine ⟨by kernel_rfl, ?_⟩ | refine ⟨by decide, ?_⟩))
    have h0 : a0 = [] := by simpa using hb h
    subst h0
    refine go_nilOwn 2 2 68 rfl ?_
    refine go_returnO [0] (by simp) ttOk rfl ?_ rfl rfl
    simp
  · (repeat (first | refine go_seq ?_ | refine go_skip ?_ | refine go_blk ?_ | refine go_block ?_ | refine go_scope (fun _ _ _ h => h) ?_ | refine go_label ?_ | (refine go_region hR ?_; simp only [EV1, EV2, EV3, EV4, EV5, EV6, EV7, EV8, EV9, EV10, EV11, eqF, Op.operands, IntKind.bits, descF, sizeF, bytesF, zeroF, Nat.reduceLT, Nat.reduceLeDiff, Nat.reduceAdd, Nat.reduceSub, Nat.reduceMul, Nat.reduceBEq, Nat.reduceEqDiff, reduceCtorEq, ↓reduceIte, Int.reduceToNat, Nat.reducePow, Int.reducePow, Int.reduceLE, Int.reduceLT, Int.reduceAdd, Int.reduceSub, Int.reduceMul, Int.reduceNeg, Int.reduceBEq, Int.reduceBNe, Int.reduceEq]) | (refine go_draw hR rfl ?_; simp only [EV1, EV2, EV3, EV4, EV5, EV6, EV7, EV8, EV9, EV10, EV11, eqF, Op.operands, IntKind.bits, descF, sizeF, bytesF, zeroF, Nat.reduceLT, Nat.reduceLeDiff, Nat.reduceAdd, Nat.reduceSub, Nat.reduceMul, Nat.reduceBEq, Nat.reduceEqDiff, reduceCtorEq, ↓reduceIte, Int.reduceToNat, Nat.reducePow, Int.reducePow, Int.reduceLE, Int.reduceLT, Int.reduceAdd, Int.reduceSub, Int.reduceMul, Int.reduceNeg, Int.reduceBEq, Int.reduceBNe, Int.reduceEq]) | refine ⟨by kernel_rfl, ?_⟩ | refine ⟨by decide, ?_⟩))
    refine ⟨⟨fun u hu => by obtain ⟨x, _, rfl⟩ := List.mem_map.1 hu; rfl, by rw [List.length_map]; omega, by rw [List.length_map]; omega⟩, ?_⟩
    refine go_returnO [0] (by simp) ttOk rfl ?_ ?_ rfl
    · simp
    · rw [List.length_map]
theorem slices_Clone_Record_t (a0 : List SRecord) (hz : a0.length ≤ 4294967296) : FnP Try.prog 77 [.c (.sl (List.map SRecord.cells a0))] (.c (.sl (List.map SRecord.cells (slices_Clone_Record a0)))) := by
  have := (slices_Clone_Record_o a0 hz).frz rfl ⟨rfl, by rw [List.length_map]; omega⟩
  rwa [List.drop_zero, take_map_len] at this
theorem slices_Clone_Record_sz (a0 : List SRecord) (hz : a0.length ≤ 4294967296) : (slices_Clone_Record a0).length ≤ 4294967296 := hz

def coord_txn (a0 : STxn) : STxn :=
  letIn (slices_Clone_Record a0.Records) fun r1 => letIn (slices_Clone_int64 a0.Vector) fun r2 => (STxn.mk a0.Epoch a0.Id a0.Begin r1 r2)
set_option maxRecDepth 10000 in
set_option maxHeartbeats 8000000 in
theorem coord_txn_t (a0 : STxn) (z0 : STxn.Sz a0) : FnP Try.prog 63 [.agg [.c (.val (.int .i64 a0.Epoch)), .c (.val (.int .i64 a0.Id)), .c (.val (.int .i64 a0.Begin)), .c (.sl (List.map SRecord.cells a0.Records)), .c (.sl (List.map cI64 a0.Vector))]] (.agg [.c (.val (.int .i64 ((coord_txn a0).Epoch))), .c (.val (.int .i64 ((coord_txn a0).Id))), .c (.val (.int .i64 ((coord_txn a0).Begin))), .c (.sl (List.map SRecord.cells ((coord_txn a0).Records))), .c (.sl (List.map cI64 ((coord_txn a0).Vector)))]) := by
 refine FnP.intro (tt := tt) Try.func63 rfl (by kernel_rfl) (by simp [Try.ntmps63]) fun w0 A hA => ?_
 have hR := reckB_ok eqOk ttOk
 obtain ⟨res, hx0⟩ : ∃ r, coord_txn a0 = r := ⟨_, rfl⟩
 simp only [hx0]
 unfold coord_txn at hx0
 simp only [argT, Try.ntmps63]
 try simp only [SZD] at z0
 obtain ⟨zz3, zz4⟩ := z0
 refine go_seq ?_
 refine go_regionJ hR ⟨[(1, .ptr 0 0), (2, .ptr 1 0)], [(0, .box [.c (.val (.int .i64 a0.Epoch)), .c (.val (.int .i64 a0.Id)), .c (.val (.int .i64 a0.Begin)), .c (.sl (List.map SRecord.cells a0.Records)), .c (.sl (List.map cI64 a0.Vector))] 28), (1, .box [.c (.val (.int .i64 0)), .c (.val (.int .i64 0)), .c (.val (.int .i64 0)), .c (.val (.slice none 0 0)), .c (.val (.slice none 0 0))] 28)], 2⟩ ?_ ?_
 ·skip
  simp only [EVB, eqF, Op.operands, IntKind.bits, descF, sizeF, bytesF, zeroF, seval, reduceCtorEq, ↓reduceIte]
  exact Weak.sub' ⟨rfl, rfl, trivial⟩ ⟨rfl, rfl, trivial⟩ (Nat.le_of_ble_eq_true rfl)
 ·skip
  refine go_seq ?_
  obtain ⟨r1, hr1, hx0⟩ := letIn_ex hx0
  have Cr1 := (slices_Clone_Record_t a0.Records (by (try simp only [SZD]); (repeat' apply And.intro) <;> first | assumption | omega | simp_all))
  simp only [hr1] at Cr1
  have zr1 := slices_Clone_Record_sz a0.Records (by (try simp only [SZD]); (repeat' apply And.intro) <;> first | assumption | omega | simp_all)
  simp only [hr1, SZD] at zr1
  obtain ⟨r2, hr2, hx0⟩ := letIn_ex hx0
  have Cr2 := (slices_Clone_int64_t a0.Vector (by (try simp only [SZD]); (repeat' apply And.intro) <;> first | assumption | omega | simp_all))
  simp only [hr2] at Cr2
  have zr2 := slices_Clone_int64_sz a0.Vector (by (try simp only [SZD]); (repeat' apply And.intro) <;> first | assumption | omega | simp_all)
  simp only [hr2, SZD] at zr2
  refine go_drawJ hR rfl ⟨[(1, .ptr 0 0), (2, .ptr 1 0)], [(0, .box [.c (.val (.int .i64 a0.Epoch)), .c (.val (.int .i64 a0.Id)), .c (.val (.int .i64 a0.Begin)), .c (.sl (List.map SRecord.cells r1)), .c (.sl (List.map cI64 r2))] 28), (1, .box [.c (.val (.int .i64 0)), .c (.val (.int .i64 0)), .c (.val (.int .i64 0)), .c (.val (.slice none 0 0)), .c (.val (.slice none 0 0))] 28)], 2⟩ ?_ ?_
  ·skip
   simp only [EVB, eqF, Op.operands, IntKind.bits, descF, sizeF, bytesF, zeroF, seval, reduceCtorEq, ↓reduceIte]
   refine CallD.fresh Cr1.toO rfl (by first | rfl | (simp only [NM]; done)) (by (repeat' apply And.intro) <;> first | trivial | rfl | omega | (simp only [NM]; omega)) (.inl rfl) ?_
   try simp only [EVB, eqF, Op.operands, IntKind.bits, descF, sizeF, bytesF, zeroF, seval, reduceCtorEq, ↓reduceIte]
   refine CallD.fresh Cr2.toO rfl (by first | rfl | (simp only [NM]; done)) (by (repeat' apply And.intro) <;> first | trivial | rfl | omega | (simp only [NM]; omega)) (.inl rfl) ?_
   try simp only [EVB, eqF, Op.operands, IntKind.bits, descF, sizeF, bytesF, zeroF, seval, reduceCtorEq, ↓reduceIte]
   refine ⟨by kernel_rfl, ?_⟩
   exact Weak.sub' ⟨rfl, rfl, trivial⟩ ⟨rfl, rfl, trivial⟩ (Nat.le_of_ble_eq_true rfl)
  ·skip
   refine go_seq ?_
   refine go_regionJ hR ⟨[(2, .ptr 1 0)], [(1, .box [.c (.val (.int .i64 a0.Epoch)), .c (.val (.int .i64 a0.Id)), .c (.val (.int .i64 a0.Begin)), .c (.sl (List.map SRecord.cells r1)), .c (.sl (List.map cI64 r2))] 28)], 2⟩ ?_ ?_
   ·skip
    simp only [EVB, eqF, Op.operands, IntKind.bits, descF, sizeF, bytesF, zeroF, seval, reduceCtorEq, ↓reduceIte]
    exact Weak.sub' ⟨rfl, trivial⟩ ⟨rfl, trivial⟩ (Nat.le_of_ble_eq_true rfl)
   ·skip
    subst hx0
    refine go_return ttOk (fun _ h => h) rfl ?_ ?_
    ·exact (by (repeat' apply And.intro) <;> first | trivial | exact Nat.le_of_ble_eq_true rfl | omega | (simp only [NM]; omega))
    ·first | rfl | (simp only [NM, CELLS] <;> rfl)
theorem coord_txn_sz (a0 : STxn) (z0 : STxn.Sz a0) : STxn.Sz (coord_txn a0) := by
 obtain ⟨res, hx0⟩ : ∃ r, coord_txn a0 = r := ⟨_, rfl⟩
 simp only [hx0]
 unfold coord_txn at hx0
 try simp only [SZD] at z0
 obtain ⟨zz7, zz8⟩ := z0
 obtain ⟨r1, hr1, hx0⟩ := letIn_ex hx0
 have zr1 := slices_Clone_Record_sz a0.Records (by (try simp only [SZD]); (repeat' apply And.intro) <;> first | assumption | omega | simp_all)
 simp only [hr1, SZD] at zr1
 obtain ⟨r2, hr2, hx0⟩ := letIn_ex hx0
 have zr2 := slices_Clone_int64_sz a0.Vector (by (try simp only [SZD]); (repeat' apply And.intro) <;> first | assumption | omega | simp_all)
 simp only [hr2, SZD] at zr2
 subst hx0
 exact (by (try simp only [SZD]); (repeat' apply And.intro) <;> first | assumption | omega | simp_all)

def coord_clone (a0 : SCoord) : SCoord :=
  letIn (slices_Clone_int64 a0.Vector) fun r1 => letIn (coord_txn a0.Txn) fun r2 => (SCoord.mk a0.Phase a0.Epoch a0.Id a0.Len r1 r2 a0.Done a0.Left)
set_option maxRecDepth 10000 in
set_option maxHeartbeats 8000000 in
theorem coord_clone_t (a0 : SCoord) (z0 : SCoord.Sz a0) : FnP Try.prog 54 [.agg [.c (.val (.int .i64 a0.Phase)), .c (.val (.int .i64 a0.Epoch)), .c (.val (.int .i64 a0.Id)), .c (.val (.int .i64 a0.Len)), .c (.sl (List.map cI64 a0.Vector)), .c (.val (.int .i64 a0.Txn.Epoch)), .c (.val (.int .i64 a0.Txn.Id)), .c (.val (.int .i64 a0.Txn.Begin)), .c (.sl (List.map SRecord.cells a0.Txn.Records)), .c (.sl (List.map cI64 a0.Txn.Vector)), .c (.val (.int .i64 a0.Done)), .c (.val (.int .i64 a0.Left))]] (.agg [.c (.val (.int .i64 ((coord_clone a0).Phase))), .c (.val (.int .i64 ((coord_clone a0).Epoch))), .c (.val (.int .i64 ((coord_clone a0).Id))), .c (.val (.int .i64 ((coord_clone a0).Len))), .c (.sl (List.map cI64 ((coord_clone a0).Vector))), .c (.val (.int .i64 (((coord_clone a0).Txn).Epoch))), .c (.val (.int .i64 (((coord_clone a0).Txn).Id))), .c (.val (.int .i64 (((coord_clone a0).Txn).Begin))), .c (.sl (List.map SRecord.cells (((coord_clone a0).Txn).Records))), .c (.sl (List.map cI64 (((coord_clone a0).Txn).Vector))), .c (.val (.int .i64 ((coord_clone a0).Done))), .c (.val (.int .i64 ((coord_clone a0).Left)))]) := by
 refine FnP.intro (tt := tt) Try.func54 rfl (by kernel_rfl) (by simp [Try.ntmps54]) fun w0 A hA => ?_
 have hR := reckB_ok eqOk ttOk
 obtain ⟨res, hx0⟩ : ∃ r, coord_clone a0 = r := ⟨_, rfl⟩
 simp only [hx0]
 unfold coord_clone at hx0
 simp only [argT, Try.ntmps54]
 try simp only [SZD] at z0
 obtain ⟨zz3, ⟨zz4, zz5⟩⟩ := z0
 refine go_seq ?_
 refine go_regionJ hR ⟨[(1, .ptr 0 0), (2, .ptr 1 0)], [(0, .box [.c (.val (.int .i64 a0.Phase)), .c (.val (.int .i64 a0.Epoch)), .c (.val (.int .i64 a0.Id)), .c (.val (.int .i64 a0.Len)), .c (.sl (List.map cI64 a0.Vector)), .c (.val (.int .i64 a0.Txn.Epoch)), .c (.val (.int .i64 a0.Txn.Id)), .c (.val (.int .i64 a0.Txn.Begin)), .c (.sl (List.map SRecord.cells a0.Txn.Records)), .c (.sl (List.map cI64 a0.Txn.Vector)), .c (.val (.int .i64 a0.Done)), .c (.val (.int .i64 a0.Left))] 30), (1, .box [.c (.val (.int .i64 0)), .c (.val (.int .i64 0)), .c (.val (.int .i64 0)), .c (.val (.int .i64 0)), .c (.val (.slice none 0 0)), .c (.val (.int .i64 0)), .c (.val (.int .i64 0)), .c (.val (.int .i64 0)), .c (.val (.slice none 0 0)), .c (.val (.slice none 0 0)), .c (.val (.int .i64 0)), .c (.val (.int .i64 0))] 30)], 2⟩ ?_ ?_
 ·skip
  simp only [EVB, eqF, Op.operands, IntKind.bits, descF, sizeF, bytesF, zeroF, seval, reduceCtorEq, ↓reduceIte]
  exact Weak.sub' ⟨rfl, rfl, trivial⟩ ⟨rfl, rfl, trivial⟩ (Nat.le_of_ble_eq_true rfl)
 ·skip
  refine go_seq ?_
  obtain ⟨r1, hr1, hx0⟩ := letIn_ex hx0
  have Cr1 := (slices_Clone_int64_t a0.Vector (by (try simp only [SZD]); (repeat' apply And.intro) <;> first | assumption | omega | simp_all))
  simp only [hr1] at Cr1
  have zr1 := slices_Clone_int64_sz a0.Vector (by (try simp only [SZD]); (repeat' apply And.intro) <;> first | assumption | omega | simp_all)
  simp only [hr1, SZD] at zr1
  refine go_regionJ hR ⟨[(1, .ptr 0 0), (2, .ptr 1 0)], [(0, .box [.c (.val (.int .i64 a0.Phase)), .c (.val (.int .i64 a0.Epoch)), .c (.val (.int .i64 a0.Id)), .c (.val (.int .i64 a0.Len)), .c (.sl (List.map cI64 r1)), .c (.val (.int .i64 a0.Txn.Epoch)), .c (.val (.int .i64 a0.Txn.Id)), .c (.val (.int .i64 a0.Txn.Begin)), .c (.sl (List.map SRecord.cells a0.Txn.Records)), .c (.sl (List.map cI64 a0.Txn.Vector)), .c (.val (.int .i64 a0.Done)), .c (.val (.int .i64 a0.Left))] 30), (1, .box [.c (.val (.int .i64 0)), .c (.val (.int .i64 0)), .c (.val (.int .i64 0)), .c (.val (.int .i64 0)), .c (.val (.slice none 0 0)), .c (.val (.int .i64 0)), .c (.val (.int .i64 0)), .c (.val (.int .i64 0)), .c (.val (.slice none 0 0)), .c (.val (.slice none 0 0)), .c (.val (.int .i64 0)), .c (.val (.int .i64 0))] 30)], 2⟩ ?_ ?_
  ·skip
   simp only [EVB, eqF, Op.operands, IntKind.bits, descF, sizeF, bytesF, zeroF, seval, reduceCtorEq, ↓reduceIte]
   refine CallK.freshE Cr1.toO rfl (by first | rfl | (simp only [NM]; done)) (by (repeat' apply And.intro) <;> first | trivial | rfl | omega | (simp only [NM]; omega)) (.inl rfl) (by exact Nat.le_of_ble_eq_true rfl) ?_
   try simp only [EVB, eqF, Op.operands, IntKind.bits, descF, sizeF, bytesF, zeroF, seval, reduceCtorEq, ↓reduceIte]
   exact Weak.sub' ⟨rfl, rfl, trivial⟩ ⟨rfl, rfl, trivial⟩ (Nat.le_of_ble_eq_true rfl)
  ·skip
   refine go_seq ?_
   obtain ⟨r2, hr2, hx0⟩ := letIn_ex hx0
   have Cr2 := (coord_txn_t a0.Txn (by (try simp only [SZD]); (repeat' apply And.intro) <;> first | assumption | omega | simp_all))
   simp only [hr2] at Cr2
   have zr2 := coord_txn_sz a0.Txn (by (try simp only [SZD]); (repeat' apply And.intro) <;> first | assumption | omega | simp_all)
   simp only [hr2, SZD] at zr2
   obtain ⟨zz7, zz8⟩ := zr2
   refine go_regionJ hR ⟨[(1, .ptr 0 0), (2, .ptr 1 0)], [(0, .box [.c (.val (.int .i64 a0.Phase)), .c (.val (.int .i64 a0.Epoch)), .c (.val (.int .i64 a0.Id)), .c (.val (.int .i64 a0.Len)), .c (.sl (List.map cI64 r1)), .c (.val (.int .i64 r2.Epoch)), .c (.val (.int .i64 r2.Id)), .c (.val (.int .i64 r2.Begin)), .c (.sl (List.map SRecord.cells r2.Records)), .c (.sl (List.map cI64 r2.Vector)), .c (.val (.int .i64 a0.Done)), .c (.val (.int .i64 a0.Left))] 30), (1, .box [.c (.val (.int .i64 0)), .c (.val (.int .i64 0)), .c (.val (.int .i64 0)), .c (.val (.int .i64 0)), .c (.val (.slice none 0 0)), .c (.val (.int .i64 0)), .c (.val (.int .i64 0)), .c (.val (.int .i64 0)), .c (.val (.slice none 0 0)), .c (.val (.slice none 0 0)), .c (.val (.int .i64 0)), .c (.val (.int .i64 0))] 30)], 2⟩ ?_ ?_
   ·skip
    simp only [EVB, eqF, Op.operands, IntKind.bits, descF, sizeF, bytesF, zeroF, seval, reduceCtorEq, ↓reduceIte]
    refine CallK.freshE Cr2.toO rfl (by first | rfl | (simp only [NM]; done)) (by (repeat' apply And.intro) <;> first | trivial | rfl | omega | (simp only [NM]; omega)) (.inl rfl) (by exact Nat.le_of_ble_eq_true rfl) ?_
    try simp only [EVB, eqF, Op.operands, IntKind.bits, descF, sizeF, bytesF, zeroF, seval, reduceCtorEq, ↓reduceIte]
    exact Weak.sub' ⟨rfl, rfl, trivial⟩ ⟨rfl, rfl, trivial⟩ (Nat.le_of_ble_eq_true rfl)
   ·skip
    refine go_seq ?_
    refine go_regionJ hR ⟨[(2, .ptr 1 0)], [(1, .box [.c (.val (.int .i64 a0.Phase)), .c (.val (.int .i64 a0.Epoch)), .c (.val (.int .i64 a0.Id)), .c (.val (.int .i64 a0.Len)), .c (.sl (List.map cI64 r1)), .c (.val (.int .i64 r2.Epoch)), .c (.val (.int .i64 r2.Id)), .c (.val (.int .i64 r2.Begin)), .c (.sl (List.map SRecord.cells r2.Records)), .c (.sl (List.map cI64 r2.Vector)), .c (.val (.int .i64 a0.Done)), .c (.val (.int .i64 a0.Left))] 30)], 2⟩ ?_ ?_
    ·skip
     simp only [EVB, eqF, Op.operands, IntKind.bits, descF, sizeF, bytesF, zeroF, seval, reduceCtorEq, ↓reduceIte]
     exact Weak.sub' ⟨rfl, trivial⟩ ⟨rfl, trivial⟩ (Nat.le_of_ble_eq_true rfl)
    ·skip
     subst hx0
     refine go_return ttOk (fun _ h => h) rfl ?_ ?_
     ·exact (by (repeat' apply And.intro) <;> first | trivial | exact Nat.le_of_ble_eq_true rfl | omega | (simp only [NM]; omega))
     ·first | rfl | (simp only [NM, CELLS] <;> rfl)
theorem coord_clone_sz (a0 : SCoord) (z0 : SCoord.Sz a0) : SCoord.Sz (coord_clone a0) := by
 obtain ⟨res, hx0⟩ : ∃ r, coord_clone a0 = r := ⟨_, rfl⟩
 simp only [hx0]
 unfold coord_clone at hx0
 try simp only [SZD] at z0
 obtain ⟨zz9, ⟨zz10, zz11⟩⟩ := z0
 obtain ⟨r1, hr1, hx0⟩ := letIn_ex hx0
 have zr1 := slices_Clone_int64_sz a0.Vector (by (try simp only [SZD]); (repeat' apply And.intro) <;> first | assumption | omega | simp_all)
 simp only [hr1, SZD] at zr1
 obtain ⟨r2, hr2, hx0⟩ := letIn_ex hx0
 have zr2 := coord_txn_sz a0.Txn (by (try simp only [SZD]); (repeat' apply And.intro) <;> first | assumption | omega | simp_all)
 simp only [hr2, SZD] at zr2
 obtain ⟨zz13, zz14⟩ := zr2
 subst hx0
 exact (by (try simp only [SZD]); (repeat' apply And.intro) <;> first | assumption | omega | simp_all)

def coord_New (a0 : Int) (a1 : Int) (a2 : Int) (a3 : (List Int)) : SCoord × Int :=
  letIn (slices_Clone_int64 a3) fun r1 => (bif ((coord_Check (SCoord.mk 0 a0 a1 a2 r1 (STxn.mk 0 0 0 [] []) 0 0)) != 0) then ((SCoord.mk 0 0 0 0 [] (STxn.mk 0 0 0 [] []) 0 0), (coord_Check (SCoord.mk 0 a0 a1 a2 r1 (STxn.mk 0 0 0 [] []) 0 0))) else ((SCoord.mk 0 a0 a1 a2 r1 (STxn.mk 0 0 0 [] []) 0 0), 0))
set_option maxRecDepth 10000 in
set_option maxHeartbeats 8000000 in
theorem coord_New_t (a0 : Int) (a1 : Int) (a2 : Int) (a3 : (List Int)) (z3 : a3.length ≤ 4294967296) : FnP Try.prog 11 [.c (.val (.int .i64 a0)), .c (.val (.int .i64 a1)), .c (.val (.int .i64 a2)), .c (.sl (List.map cI64 a3))] (.tup [.agg [.c (.val (.int .i64 (((coord_New a0 a1 a2 a3).1).Phase))), .c (.val (.int .i64 (((coord_New a0 a1 a2 a3).1).Epoch))), .c (.val (.int .i64 (((coord_New a0 a1 a2 a3).1).Id))), .c (.val (.int .i64 (((coord_New a0 a1 a2 a3).1).Len))), .c (.sl (List.map cI64 (((coord_New a0 a1 a2 a3).1).Vector))), .c (.val (.int .i64 ((((coord_New a0 a1 a2 a3).1).Txn).Epoch))), .c (.val (.int .i64 ((((coord_New a0 a1 a2 a3).1).Txn).Id))), .c (.val (.int .i64 ((((coord_New a0 a1 a2 a3).1).Txn).Begin))), .c (.sl (List.map SRecord.cells ((((coord_New a0 a1 a2 a3).1).Txn).Records))), .c (.sl (List.map cI64 ((((coord_New a0 a1 a2 a3).1).Txn).Vector))), .c (.val (.int .i64 (((coord_New a0 a1 a2 a3).1).Done))), .c (.val (.int .i64 (((coord_New a0 a1 a2 a3).1).Left)))], .c (.val (.int .i64 ((coord_New a0 a1 a2 a3).2)))]) := by
 refine FnP.intro (tt := tt) Try.func11 rfl (by kernel_rfl) (by simp [Try.ntmps11]) fun w0 A hA => ?_
 have hR := reckB_ok eqOk ttOk
 obtain ⟨res, hx0⟩ : ∃ r, coord_New a0 a1 a2 a3 = r := ⟨_, rfl⟩
 simp only [hx0]
 unfold coord_New at hx0
 simp only [argT, Try.ntmps11]
 try simp only [SZD] at z3
 refine go_seq ?_
 refine go_regionJ hR ⟨[(0, .c (.val (.int .i64 a0))), (1, .c (.val (.int .i64 a1))), (2, .c (.val (.int .i64 a2))), (3, .c (.sl (List.map cI64 a3))), (8, .ptr 0 0)], [(0, .box [.c (.val (.int .i64 0)), .c (.val (.int .i64 0)), .c (.val (.int .i64 0)), .c (.val (.int .i64 0)), .c (.val (.slice none 0 0)), .c (.val (.int .i64 0)), .c (.val (.int .i64 0)), .c (.val (.int .i64 0)), .c (.val (.slice none 0 0)), .c (.val (.slice none 0 0)), .c (.val (.int .i64 0)), .c (.val (.int .i64 0))] 30)], 1⟩ ?_ ?_
 ·skip
  simp only [EVB, eqF, Op.operands, IntKind.bits, descF, sizeF, bytesF, zeroF, seval, reduceCtorEq, ↓reduceIte]
  exact Weak.sub' ⟨rfl, rfl, rfl, rfl, rfl, trivial⟩ ⟨rfl, trivial⟩ (Nat.le_of_ble_eq_true rfl)
 ·skip
  refine go_seq ?_
  obtain ⟨r1, hr1, hx0⟩ := letIn_ex hx0
  have Cr1 := (slices_Clone_int64_t a3 (by (try simp only [SZD]); (repeat' apply And.intro) <;> first | assumption | omega | simp_all))
  simp only [hr1] at Cr1
  have zr1 := slices_Clone_int64_sz a3 (by (try simp only [SZD]); (repeat' apply And.intro) <;> first | assumption | omega | simp_all)
  simp only [hr1, SZD] at zr1
  refine go_regionJ hR ⟨[(8, .ptr 0 0), (10, .ptr 1 0)], [(0, .box [.c (.val (.int .i64 0)), .c (.val (.int .i64 0)), .c (.val (.int .i64 0)), .c (.val (.int .i64 0)), .c (.val (.slice none 0 0)), .c (.val (.int .i64 0)), .c (.val (.int .i64 0)), .c (.val (.int .i64 0)), .c (.val (.slice none 0 0)), .c (.val (.slice none 0 0)), .c (.val (.int .i64 0)), .c (.val (.int .i64 0))] 30), (1, .box [.c (.val (.int .i64 0)), .c (.val (.int .i64 a0)), .c (.val (.int .i64 a1)), .c (.val (.int .i64 a2)), .c (.sl (List.map cI64 r1)), .c (.val (.int .i64 0)), .c (.val (.int .i64 0)), .c (.val (.int .i64 0)), .c (.val (.slice none 0 0)), .c (.val (.slice none 0 0)), .c (.val (.int .i64 0)), .c (.val (.int .i64 0))] 30)], 2⟩ ?_ ?_
  ·skip
   simp only [EVB, eqF, Op.operands, IntKind.bits, descF, sizeF, bytesF, zeroF, seval, reduceCtorEq, ↓reduceIte]
   refine CallK.freshE Cr1.toO rfl (by first | rfl | (simp only [NM]; done)) (by (repeat' apply And.intro) <;> first | trivial | rfl | omega | (simp only [NM]; omega)) (.inl rfl) (by exact Nat.le_of_ble_eq_true rfl) ?_
   try simp only [EVB, eqF, Op.operands, IntKind.bits, descF, sizeF, bytesF, zeroF, seval, reduceCtorEq, ↓reduceIte]
   exact Weak.sub' ⟨rfl, rfl, trivial⟩ ⟨rfl, rfl, trivial⟩ (Nat.le_of_ble_eq_true rfl)
  ·skip
   refine go_seq ?_
   refine go_seq ?_
   refine go_regionJ hR ⟨[(8, .ptr 0 0), (10, .ptr 1 0), (11, .c (.val (.int .i64 (coord_Check (SCoord.mk 0 a0 a1 a2 r1 (STxn.mk 0 0 0 [] []) 0 0)))))], [(0, .box [.c (.val (.int .i64 0)), .c (.val (.int .i64 0)), .c (.val (.int .i64 0)), .c (.val (.int .i64 0)), .c (.val (.slice none 0 0)), .c (.val (.int .i64 0)), .c (.val (.int .i64 0)), .c (.val (.int .i64 0)), .c (.val (.slice none 0 0)), .c (.val (.slice none 0 0)), .c (.val (.int .i64 0)), .c (.val (.int .i64 0))] 30), (1, .box [.c (.val (.int .i64 0)), .c (.val (.int .i64 a0)), .c (.val (.int .i64 a1)), .c (.val (.int .i64 a2)), .c (.sl (List.map cI64 r1)), .c (.val (.int .i64 0)), .c (.val (.int .i64 0)), .c (.val (.int .i64 0)), .c (.val (.slice none 0 0)), .c (.val (.slice none 0 0)), .c (.val (.int .i64 0)), .c (.val (.int .i64 0))] 30)], 2⟩ ?_ ?_
   ·skip
    simp only [EVB, eqF, Op.operands, IntKind.bits, descF, sizeF, bytesF, zeroF, seval, reduceCtorEq, ↓reduceIte]
    refine CallK.freshE (coord_Check_t (SCoord.mk 0 a0 a1 a2 r1 (STxn.mk 0 0 0 [] []) 0 0)).toO rfl (by first | rfl | (simp only [NM]; done)) (by (repeat' apply And.intro) <;> first | trivial | rfl | omega | (simp only [NM]; omega)) (.inl rfl) (by exact Nat.le_of_ble_eq_true rfl) ?_
    try simp only [EVB, eqF, Op.operands, IntKind.bits, descF, sizeF, bytesF, zeroF, seval, reduceCtorEq, ↓reduceIte]
    exact Weak.sub' ⟨rfl, rfl, rfl, trivial⟩ ⟨rfl, rfl, trivial⟩ (Nat.le_of_ble_eq_true rfl)
   ·skip
    refine go_seq ?_
    refine go_regionJ hR ⟨[(8, .ptr 0 0), (10, .ptr 1 0), (11, .c (.val (.int .i64 (coord_Check (SCoord.mk 0 a0 a1 a2 r1 (STxn.mk 0 0 0 [] []) 0 0))))), (21, .c (.val (.bool ((coord_Check (SCoord.mk 0 a0 a1 a2 r1 (STxn.mk 0 0 0 [] []) 0 0)) != 0))))], [(0, .box [.c (.val (.int .i64 0)), .c (.val (.int .i64 0)), .c (.val (.int .i64 0)), .c (.val (.int .i64 0)), .c (.val (.slice none 0 0)), .c (.val (.int .i64 0)), .c (.val (.int .i64 0)), .c (.val (.int .i64 0)), .c (.val (.slice none 0 0)), .c (.val (.slice none 0 0)), .c (.val (.int .i64 0)), .c (.val (.int .i64 0))] 30), (1, .box [.c (.val (.int .i64 0)), .c (.val (.int .i64 a0)), .c (.val (.int .i64 a1)), .c (.val (.int .i64 a2)), .c (.sl (List.map cI64 r1)), .c (.val (.int .i64 0)), .c (.val (.int .i64 0)), .c (.val (.int .i64 0)), .c (.val (.slice none 0 0)), .c (.val (.slice none 0 0)), .c (.val (.int .i64 0)), .c (.val (.int .i64 0))] 30)], 2⟩ ?_ ?_
    ·skip
     simp only [EVB, eqF, Op.operands, IntKind.bits, descF, sizeF, bytesF, zeroF, seval, reduceCtorEq, ↓reduceIte]
     exact Weak.sub' ⟨rfl, rfl, rfl, rfl, trivial⟩ ⟨rfl, rfl, trivial⟩ (Nat.le_of_ble_eq_true rfl)
    ·skip
     refine go_cond (by rfl) (fun h2 => ?_) (fun h2 => ?_)
     ·have gh2 := h2
      try simp only [GN, beq_iff_eq, beq_eq_false_iff_ne, bne_iff_ne, bne_eq_false_iff_eq] at gh2
      simp only [h2, cond_true, cond_false] at hx0
      refine go_seq ?_
      refine go_regionJ hR ⟨[(8, .ptr 0 0), (9, .c (.val (.int .i64 (coord_Check (SCoord.mk 0 a0 a1 a2 r1 (STxn.mk 0 0 0 [] []) 0 0)))))], [(0, .box [.c (.val (.int .i64 0)), .c (.val (.int .i64 0)), .c (.val (.int .i64 0)), .c (.val (.int .i64 0)), .c (.val (.slice none 0 0)), .c (.val (.int .i64 0)), .c (.val (.int .i64 0)), .c (.val (.int .i64 0)), .c (.val (.slice none 0 0)), .c (.val (.slice none 0 0)), .c (.val (.int .i64 0)), .c (.val (.int .i64 0))] 30)], 2⟩ ?_ ?_
      ·skip
       simp only [EVB, eqF, Op.operands, IntKind.bits, descF, sizeF, bytesF, zeroF, seval, reduceCtorEq, ↓reduceIte]
       exact Weak.sub' ⟨rfl, rfl, trivial⟩ ⟨rfl, trivial⟩ (Nat.le_of_ble_eq_true rfl)
      ·skip
       subst hx0
       refine go_return ttOk (fun _ h => h) rfl ?_ ?_
       ·exact (by (repeat' apply And.intro) <;> first | trivial | exact Nat.le_of_ble_eq_true rfl | omega | (simp only [NM]; omega))
       ·first | rfl | (simp only [NM, CELLS] <;> rfl)
     ·have gh2 := h2
      try simp only [GN, beq_iff_eq, beq_eq_false_iff_ne, bne_iff_ne, bne_eq_false_iff_eq] at gh2
      simp only [h2, cond_true, cond_false] at hx0
      refine go_skip ?_
      refine go_seq ?_
      refine go_regionJ hR ⟨[(8, .ptr 0 0), (9, .c (.val (.int .i64 0)))], [(0, .box [.c (.val (.int .i64 0)), .c (.val (.int .i64 a0)), .c (.val (.int .i64 a1)), .c (.val (.int .i64 a2)), .c (.sl (List.map cI64 r1)), .c (.val (.int .i64 0)), .c (.val (.int .i64 0)), .c (.val (.int .i64 0)), .c (.val (.slice none 0 0)), .c (.val (.slice none 0 0)), .c (.val (.int .i64 0)), .c (.val (.int .i64 0))] 30)], 2⟩ ?_ ?_
      ·skip
       simp only [EVB, eqF, Op.operands, IntKind.bits, descF, sizeF, bytesF, zeroF, seval, reduceCtorEq, ↓reduceIte]
       exact Weak.sub' ⟨rfl, rfl, trivial⟩ ⟨rfl, trivial⟩ (Nat.le_of_ble_eq_true rfl)
      ·skip
       subst hx0
       refine go_return ttOk (fun _ h => h) rfl ?_ ?_
       ·exact (by (repeat' apply And.intro) <;> first | trivial | exact Nat.le_of_ble_eq_true rfl | omega | (simp only [NM]; omega))
       ·first | rfl | (simp only [NM, CELLS] <;> rfl)
theorem coord_New_sz (a0 : Int) (a1 : Int) (a2 : Int) (a3 : (List Int)) (z3 : a3.length ≤ 4294967296) : SCoord.Sz ((coord_New a0 a1 a2 a3).1) := by
 obtain ⟨res, hx0⟩ : ∃ r, coord_New a0 a1 a2 a3 = r := ⟨_, rfl⟩
 simp only [hx0]
 unfold coord_New at hx0
 try simp only [SZD] at z3
 obtain ⟨r1, hr1, hx0⟩ := letIn_ex hx0
 have zr1 := slices_Clone_int64_sz a3 (by (try simp only [SZD]); (repeat' apply And.intro) <;> first | assumption | omega | simp_all)
 simp only [hr1, SZD] at zr1
 rcases Bool.eq_false_or_eq_true ((coord_Check (SCoord.mk 0 a0 a1 a2 r1 (STxn.mk 0 0 0 [] []) 0 0)) != 0) with h2 | h2
 ·simp only [h2, cond_true, cond_false] at hx0
  subst hx0
  exact (by (try simp only [SZD]); (repeat' apply And.intro) <;> first | assumption | omega | simp_all)
 ·simp only [h2, cond_true, cond_false] at hx0
  subst hx0
  exact (by (try simp only [SZD]); (repeat' apply And.intro) <;> first | assumption | omega | simp_all)

def coord_in (a0 : SCoord) (a1 : Int) : Bool :=
  (((coord_Check a0) == 0) && (a0.Phase == a1))
set_option maxRecDepth 10000 in
set_option maxHeartbeats 8000000 in
theorem coord_in_t (a0 : SCoord) (a1 : Int) : FnP Try.prog 55 [.agg [.c (.val (.int .i64 a0.Phase)), .c (.val (.int .i64 a0.Epoch)), .c (.val (.int .i64 a0.Id)), .c (.val (.int .i64 a0.Len)), .c (.sl (List.map cI64 a0.Vector)), .c (.val (.int .i64 a0.Txn.Epoch)), .c (.val (.int .i64 a0.Txn.Id)), .c (.val (.int .i64 a0.Txn.Begin)), .c (.sl (List.map SRecord.cells a0.Txn.Records)), .c (.sl (List.map cI64 a0.Txn.Vector)), .c (.val (.int .i64 a0.Done)), .c (.val (.int .i64 a0.Left))], .c (.val (.int .i64 a1))] (.c (.val (.bool (coord_in a0 a1)))) := by
 refine FnP.intro (tt := tt) Try.func55 rfl (by kernel_rfl) (by simp [Try.ntmps55]) fun w0 A hA => ?_
 have hR := reckB_ok eqOk ttOk
 obtain ⟨res, hx0⟩ : ∃ r, coord_in a0 a1 = r := ⟨_, rfl⟩
 simp only [hx0]
 unfold coord_in at hx0
 simp only [argT, Try.ntmps55]
 refine go_seq ?_
 refine go_regionJ hR ⟨[(1, .c (.val (.int .i64 a1))), (2, .ptr 0 0)], [(0, .box [.c (.val (.int .i64 a0.Phase)), .c (.val (.int .i64 a0.Epoch)), .c (.val (.int .i64 a0.Id)), .c (.val (.int .i64 a0.Len)), .c (.sl (List.map cI64 a0.Vector)), .c (.val (.int .i64 a0.Txn.Epoch)), .c (.val (.int .i64 a0.Txn.Id)), .c (.val (.int .i64 a0.Txn.Begin)), .c (.sl (List.map SRecord.cells a0.Txn.Records)), .c (.sl (List.map cI64 a0.Txn.Vector)), .c (.val (.int .i64 a0.Done)), .c (.val (.int .i64 a0.Left))] 30)], 1⟩ ?_ ?_
 ·skip
  simp only [EVB, eqF, Op.operands, IntKind.bits, descF, sizeF, bytesF, zeroF, seval, reduceCtorEq, ↓reduceIte]
  exact Weak.sub' ⟨rfl, rfl, trivial⟩ ⟨rfl, trivial⟩ (Nat.le_of_ble_eq_true rfl)
 ·skip
  refine go_seq ?_
  refine go_regionJ hR ⟨[(4, .c (.val (.bool (((coord_Check a0) == 0) && (a0.Phase == a1)))))], [], 1⟩ ?_ ?_
  ·skip
   rcases Bool.eq_false_or_eq_true ((coord_Check a0) == 0) with h1 | h1
   ·simp only [h1, EVB, eqF, Op.operands, IntKind.bits, descF, sizeF, bytesF, zeroF, seval, reduceCtorEq, ↓reduceIte]
    refine CallK.freshE (coord_Check_t a0).toO rfl (by first | rfl | (simp only [NM]; done)) (by (repeat' apply And.intro) <;> first | trivial | rfl | omega | (simp only [NM]; omega)) (.inl rfl) (by exact Nat.le_of_ble_eq_true rfl) ?_
    try simp only [h1, EVB, eqF, Op.operands, IntKind.bits, descF, sizeF, bytesF, zeroF, seval, reduceCtorEq, ↓reduceIte]
    try simp only [h1, BM]
    exact Weak.sub' ⟨rfl, trivial⟩ trivial (Nat.le_of_ble_eq_true rfl)
   ·simp only [h1, EVB, eqF, Op.operands, IntKind.bits, descF, sizeF, bytesF, zeroF, seval, reduceCtorEq, ↓reduceIte]
    refine CallK.freshE (coord_Check_t a0).toO rfl (by first | rfl | (simp only [NM]; done)) (by (repeat' apply And.intro) <;> first | trivial | rfl | omega | (simp only [NM]; omega)) (.inl rfl) (by exact Nat.le_of_ble_eq_true rfl) ?_
    try simp only [h1, EVB, eqF, Op.operands, IntKind.bits, descF, sizeF, bytesF, zeroF, seval, reduceCtorEq, ↓reduceIte]
    try simp only [h1, BM]
    exact Weak.sub' ⟨rfl, trivial⟩ trivial (Nat.le_of_ble_eq_true rfl)
  ·skip
   subst hx0
   refine go_return ttOk (fun _ h => h) rfl ?_ ?_
   ·exact (by (repeat' apply And.intro) <;> first | trivial | exact Nat.le_of_ble_eq_true rfl | omega | (simp only [NM]; omega))
   ·first | rfl | (simp only [NM, CELLS] <;> rfl)

def coord_Trigger (a0 : SCoord) : SCoord × SDo :=
  letIn (coord_clone a0) fun r1 => (bif ((!(coord_in r1 0)) || (r1.Id == 9007199254740992)) then (r1, (SDo.mk 0 0 0 (STxn.mk 0 0 0 [] []))) else ((SCoord.mk 1 r1.Epoch (IntKind.i64.wrap (r1.Id + 1)) r1.Len r1.Vector r1.Txn r1.Done r1.Left), (SDo.mk 1 (IntKind.i64.wrap (r1.Id + 1)) 0 (STxn.mk 0 0 0 [] []))))
set_option maxRecDepth 10000 in
set_option maxHeartbeats 8000000 in
theorem coord_Trigger_t (a0 : SCoord) (z0 : SCoord.Sz a0) : FnP Try.prog 28 [.agg [.c (.val (.int .i64 a0.Phase)), .c (.val (.int .i64 a0.Epoch)), .c (.val (.int .i64 a0.Id)), .c (.val (.int .i64 a0.Len)), .c (.sl (List.map cI64 a0.Vector)), .c (.val (.int .i64 a0.Txn.Epoch)), .c (.val (.int .i64 a0.Txn.Id)), .c (.val (.int .i64 a0.Txn.Begin)), .c (.sl (List.map SRecord.cells a0.Txn.Records)), .c (.sl (List.map cI64 a0.Txn.Vector)), .c (.val (.int .i64 a0.Done)), .c (.val (.int .i64 a0.Left))]] (.tup [.agg [.c (.val (.int .i64 (((coord_Trigger a0).1).Phase))), .c (.val (.int .i64 (((coord_Trigger a0).1).Epoch))), .c (.val (.int .i64 (((coord_Trigger a0).1).Id))), .c (.val (.int .i64 (((coord_Trigger a0).1).Len))), .c (.sl (List.map cI64 (((coord_Trigger a0).1).Vector))), .c (.val (.int .i64 ((((coord_Trigger a0).1).Txn).Epoch))), .c (.val (.int .i64 ((((coord_Trigger a0).1).Txn).Id))), .c (.val (.int .i64 ((((coord_Trigger a0).1).Txn).Begin))), .c (.sl (List.map SRecord.cells ((((coord_Trigger a0).1).Txn).Records))), .c (.sl (List.map cI64 ((((coord_Trigger a0).1).Txn).Vector))), .c (.val (.int .i64 (((coord_Trigger a0).1).Done))), .c (.val (.int .i64 (((coord_Trigger a0).1).Left)))], .agg [.c (.val (.int .i64 (((coord_Trigger a0).2).Kind))), .c (.val (.int .i64 (((coord_Trigger a0).2).Id))), .c (.val (.int .i64 (((coord_Trigger a0).2).Begin))), .c (.val (.int .i64 ((((coord_Trigger a0).2).Txn).Epoch))), .c (.val (.int .i64 ((((coord_Trigger a0).2).Txn).Id))), .c (.val (.int .i64 ((((coord_Trigger a0).2).Txn).Begin))), .c (.sl (List.map SRecord.cells ((((coord_Trigger a0).2).Txn).Records))), .c (.sl (List.map cI64 ((((coord_Trigger a0).2).Txn).Vector)))]]) := by
 refine FnP.intro (tt := tt) Try.func28 rfl (by kernel_rfl) (by simp [Try.ntmps28]) fun w0 A hA => ?_
 have hR := reckB_ok eqOk ttOk
 obtain ⟨res, hx0⟩ : ∃ r, coord_Trigger a0 = r := ⟨_, rfl⟩
 simp only [hx0]
 unfold coord_Trigger at hx0
 simp only [argT, Try.ntmps28]
 try simp only [SZD] at z0
 obtain ⟨zz4, ⟨zz5, zz6⟩⟩ := z0
 refine go_seq ?_
 refine go_regionJ hR ⟨[(1, .ptr 0 0), (2, .ptr 1 0), (3, .ptr 2 0)], [(0, .box [.c (.val (.int .i64 a0.Phase)), .c (.val (.int .i64 a0.Epoch)), .c (.val (.int .i64 a0.Id)), .c (.val (.int .i64 a0.Len)), .c (.sl (List.map cI64 a0.Vector)), .c (.val (.int .i64 a0.Txn.Epoch)), .c (.val (.int .i64 a0.Txn.Id)), .c (.val (.int .i64 a0.Txn.Begin)), .c (.sl (List.map SRecord.cells a0.Txn.Records)), .c (.sl (List.map cI64 a0.Txn.Vector)), .c (.val (.int .i64 a0.Done)), .c (.val (.int .i64 a0.Left))] 30), (1, .box [.c (.val (.int .i64 0)), .c (.val (.int .i64 0)), .c (.val (.int .i64 0)), .c (.val (.int .i64 0)), .c (.val (.slice none 0 0)), .c (.val (.int .i64 0)), .c (.val (.int .i64 0)), .c (.val (.int .i64 0)), .c (.val (.slice none 0 0)), .c (.val (.slice none 0 0)), .c (.val (.int .i64 0)), .c (.val (.int .i64 0))] 30), (2, .box [.c (.val (.int .i64 0)), .c (.val (.int .i64 0)), .c (.val (.int .i64 0)), .c (.val (.int .i64 0)), .c (.val (.int .i64 0)), .c (.val (.int .i64 0)), .c (.val (.slice none 0 0)), .c (.val (.slice none 0 0))] 48)], 3⟩ ?_ ?_
 ·skip
  simp only [EVB, eqF, Op.operands, IntKind.bits, descF, sizeF, bytesF, zeroF, seval, reduceCtorEq, ↓reduceIte]
  exact Weak.sub' ⟨rfl, rfl, rfl, trivial⟩ ⟨rfl, rfl, rfl, trivial⟩ (Nat.le_of_ble_eq_true rfl)
 ·skip
  refine go_seq ?_
  obtain ⟨r1, hr1, hx0⟩ := letIn_ex hx0
  have Cr1 := (coord_clone_t a0 (by (try simp only [SZD]); (repeat' apply And.intro) <;> first | assumption | omega | simp_all))
  simp only [hr1] at Cr1
  have zr1 := coord_clone_sz a0 (by (try simp only [SZD]); (repeat' apply And.intro) <;> first | assumption | omega | simp_all)
  simp only [hr1, SZD] at zr1
  obtain ⟨zz7, ⟨zz8, zz9⟩⟩ := zr1
  refine go_regionJ hR ⟨[(1, .ptr 0 0), (2, .ptr 1 0), (3, .ptr 2 0)], [(0, .box [.c (.val (.int .i64 r1.Phase)), .c (.val (.int .i64 r1.Epoch)), .c (.val (.int .i64 r1.Id)), .c (.val (.int .i64 r1.Len)), .c (.sl (List.map cI64 r1.Vector)), .c (.val (.int .i64 r1.Txn.Epoch)), .c (.val (.int .i64 r1.Txn.Id)), .c (.val (.int .i64 r1.Txn.Begin)), .c (.sl (List.map SRecord.cells r1.Txn.Records)), .c (.sl (List.map cI64 r1.Txn.Vector)), .c (.val (.int .i64 r1.Done)), .c (.val (.int .i64 r1.Left))] 30), (1, .box [.c (.val (.int .i64 0)), .c (.val (.int .i64 0)), .c (.val (.int .i64 0)), .c (.val (.int .i64 0)), .c (.val (.slice none 0 0)), .c (.val (.int .i64 0)), .c (.val (.int .i64 0)), .c (.val (.int .i64 0)), .c (.val (.slice none 0 0)), .c (.val (.slice none 0 0)), .c (.val (.int .i64 0)), .c (.val (.int .i64 0))] 30), (2, .box [.c (.val (.int .i64 0)), .c (.val (.int .i64 0)), .c (.val (.int .i64 0)), .c (.val (.int .i64 0)), .c (.val (.int .i64 0)), .c (.val (.int .i64 0)), .c (.val (.slice none 0 0)), .c (.val (.slice none 0 0))] 48)], 3⟩ ?_ ?_
  ·skip
   simp only [EVB, eqF, Op.operands, IntKind.bits, descF, sizeF, bytesF, zeroF, seval, reduceCtorEq, ↓reduceIte]
   refine CallK.freshE Cr1.toO rfl (by first | rfl | (simp only [NM]; done)) (by (repeat' apply And.intro) <;> first | trivial | rfl | omega | (simp only [NM]; omega)) (.inl rfl) (by exact Nat.le_of_ble_eq_true rfl) ?_
   try simp only [EVB, eqF, Op.operands, IntKind.bits, descF, sizeF, bytesF, zeroF, seval, reduceCtorEq, ↓reduceIte]
   exact Weak.sub' ⟨rfl, rfl, rfl, trivial⟩ ⟨rfl, rfl, rfl, trivial⟩ (Nat.le_of_ble_eq_true rfl)
  ·skip
   refine go_seq ?_
   refine go_seq ?_
   refine go_regionJ hR ⟨[(1, .ptr 0 0), (2, .ptr 1 0), (3, .ptr 2 0), (13, .c (.val (.bool ((!(coord_in r1 0)) || (r1.Id == 9007199254740992)))))], [(0, .box [.c (.val (.int .i64 r1.Phase)), .c (.val (.int .i64 r1.Epoch)), .c (.val (.int .i64 r1.Id)), .c (.val (.int .i64 r1.Len)), .c (.sl (List.map cI64 r1.Vector)), .c (.val (.int .i64 r1.Txn.Epoch)), .c (.val (.int .i64 r1.Txn.Id)), .c (.val (.int .i64 r1.Txn.Begin)), .c (.sl (List.map SRecord.cells r1.Txn.Records)), .c (.sl (List.map cI64 r1.Txn.Vector)), .c (.val (.int .i64 r1.Done)), .c (.val (.int .i64 r1.Left))] 30), (1, .box [.c (.val (.int .i64 0)), .c (.val (.int .i64 0)), .c (.val (.int .i64 0)), .c (.val (.int .i64 0)), .c (.val (.slice none 0 0)), .c (.val (.int .i64 0)), .c (.val (.int .i64 0)), .c (.val (.int .i64 0)), .c (.val (.slice none 0 0)), .c (.val (.slice none 0 0)), .c (.val (.int .i64 0)), .c (.val (.int .i64 0))] 30), (2, .box [.c (.val (.int .i64 0)), .c (.val (.int .i64 0)), .c (.val (.int .i64 0)), .c (.val (.int .i64 0)), .c (.val (.int .i64 0)), .c (.val (.int .i64 0)), .c (.val (.slice none 0 0)), .c (.val (.slice none 0 0))] 48)], 3⟩ ?_ ?_
   ·skip
    rcases Bool.eq_false_or_eq_true (!(coord_in r1 0)) with h2 | h2
    ·simp only [h2, EVB, eqF, Op.operands, IntKind.bits, descF, sizeF, bytesF, zeroF, seval, reduceCtorEq, ↓reduceIte]
     refine CallK.freshE (coord_in_t r1 0).toO rfl (by first | rfl | (simp only [NM]; done)) (by (repeat' apply And.intro) <;> first | trivial | rfl | omega | (simp only [NM]; omega)) (.inl rfl) (by exact Nat.le_of_ble_eq_true rfl) ?_
     try simp only [h2, EVB, eqF, Op.operands, IntKind.bits, descF, sizeF, bytesF, zeroF, seval, reduceCtorEq, ↓reduceIte]
     try simp only [h2, BM]
     exact Weak.sub' ⟨rfl, rfl, rfl, rfl, trivial⟩ ⟨rfl, rfl, rfl, trivial⟩ (Nat.le_of_ble_eq_true rfl)
    ·simp only [h2, EVB, eqF, Op.operands, IntKind.bits, descF, sizeF, bytesF, zeroF, seval, reduceCtorEq, ↓reduceIte]
     refine CallK.freshE (coord_in_t r1 0).toO rfl (by first | rfl | (simp only [NM]; done)) (by (repeat' apply And.intro) <;> first | trivial | rfl | omega | (simp only [NM]; omega)) (.inl rfl) (by exact Nat.le_of_ble_eq_true rfl) ?_
     try simp only [h2, EVB, eqF, Op.operands, IntKind.bits, descF, sizeF, bytesF, zeroF, seval, reduceCtorEq, ↓reduceIte]
     try simp only [h2, BM]
     exact Weak.sub' ⟨rfl, rfl, rfl, rfl, trivial⟩ ⟨rfl, rfl, rfl, trivial⟩ (Nat.le_of_ble_eq_true rfl)
   ·skip
    refine go_cond (by rfl) (fun h3 => ?_) (fun h3 => ?_)
    ·have gh3 := h3
     try simp only [GN, beq_iff_eq, beq_eq_false_iff_ne, bne_iff_ne, bne_eq_false_iff_eq] at gh3
     simp only [h3, cond_true, cond_false] at hx0
     refine go_seq ?_
     refine go_regionJ hR ⟨[(2, .ptr 1 0), (3, .ptr 2 0)], [(1, .box [.c (.val (.int .i64 r1.Phase)), .c (.val (.int .i64 r1.Epoch)), .c (.val (.int .i64 r1.Id)), .c (.val (.int .i64 r1.Len)), .c (.sl (List.map cI64 r1.Vector)), .c (.val (.int .i64 r1.Txn.Epoch)), .c (.val (.int .i64 r1.Txn.Id)), .c (.val (.int .i64 r1.Txn.Begin)), .c (.sl (List.map SRecord.cells r1.Txn.Records)), .c (.sl (List.map cI64 r1.Txn.Vector)), .c (.val (.int .i64 r1.Done)), .c (.val (.int .i64 r1.Left))] 30), (2, .box [.c (.val (.int .i64 0)), .c (.val (.int .i64 0)), .c (.val (.int .i64 0)), .c (.val (.int .i64 0)), .c (.val (.int .i64 0)), .c (.val (.int .i64 0)), .c (.val (.slice none 0 0)), .c (.val (.slice none 0 0))] 48)], 3⟩ ?_ ?_
     ·skip
      simp only [EVB, eqF, Op.operands, IntKind.bits, descF, sizeF, bytesF, zeroF, seval, reduceCtorEq, ↓reduceIte]
      exact Weak.sub' ⟨rfl, rfl, trivial⟩ ⟨rfl, rfl, trivial⟩ (Nat.le_of_ble_eq_true rfl)
     ·skip
      subst hx0
      refine go_return ttOk (fun _ h => h) rfl ?_ ?_
      ·exact (by (repeat' apply And.intro) <;> first | trivial | exact Nat.le_of_ble_eq_true rfl | omega | (simp only [NM]; omega))
      ·first | rfl | (simp only [NM, CELLS] <;> rfl)
    ·have gh3 := h3
     try simp only [GN, beq_iff_eq, beq_eq_false_iff_ne, bne_iff_ne, bne_eq_false_iff_eq] at gh3
     simp only [h3, cond_true, cond_false] at hx0
     refine go_skip ?_
     refine go_seq ?_
     refine go_regionJ hR ⟨[(1, .ptr 0 0), (2, .ptr 1 0), (3, .ptr 2 0)], [(0, .box [.c (.val (.int .i64 1)), .c (.val (.int .i64 r1.Epoch)), .c (.val (.int .i64 r1.Id)), .c (.val (.int .i64 r1.Len)), .c (.sl (List.map cI64 r1.Vector)), .c (.val (.int .i64 r1.Txn.Epoch)), .c (.val (.int .i64 r1.Txn.Id)), .c (.val (.int .i64 r1.Txn.Begin)), .c (.sl (List.map SRecord.cells r1.Txn.Records)), .c (.sl (List.map cI64 r1.Txn.Vector)), .c (.val (.int .i64 r1.Done)), .c (.val (.int .i64 r1.Left))] 30), (1, .box [.c (.val (.int .i64 0)), .c (.val (.int .i64 0)), .c (.val (.int .i64 0)), .c (.val (.int .i64 0)), .c (.val (.slice none 0 0)), .c (.val (.int .i64 0)), .c (.val (.int .i64 0)), .c (.val (.int .i64 0)), .c (.val (.slice none 0 0)), .c (.val (.slice none 0 0)), .c (.val (.int .i64 0)), .c (.val (.int .i64 0))] 30), (2, .box [.c (.val (.int .i64 0)), .c (.val (.int .i64 0)), .c (.val (.int .i64 0)), .c (.val (.int .i64 0)), .c (.val (.int .i64 0)), .c (.val (.int .i64 0)), .c (.val (.slice none 0 0)), .c (.val (.slice none 0 0))] 48)], 3⟩ ?_ ?_
     ·skip
      simp only [EVB, eqF, Op.operands, IntKind.bits, descF, sizeF, bytesF, zeroF, seval, reduceCtorEq, ↓reduceIte]
      exact Weak.sub' ⟨rfl, rfl, rfl, trivial⟩ ⟨rfl, rfl, rfl, trivial⟩ (Nat.le_of_ble_eq_true rfl)
     ·skip
      refine go_seq ?_
      refine go_regionJ hR ⟨[(1, .ptr 0 0), (2, .ptr 1 0), (3, .ptr 2 0)], [(0, .box [.c (.val (.int .i64 1)), .c (.val (.int .i64 r1.Epoch)), .c (.val (.int .i64 (IntKind.i64.wrap (r1.Id + 1)))), .c (.val (.int .i64 r1.Len)), .c (.sl (List.map cI64 r1.Vector)), .c (.val (.int .i64 r1.Txn.Epoch)), .c (.val (.int .i64 r1.Txn.Id)), .c (.val (.int .i64 r1.Txn.Begin)), .c (.sl (List.map SRecord.cells r1.Txn.Records)), .c (.sl (List.map cI64 r1.Txn.Vector)), .c (.val (.int .i64 r1.Done)), .c (.val (.int .i64 r1.Left))] 30), (1, .box [.c (.val (.int .i64 0)), .c (.val (.int .i64 0)), .c (.val (.int .i64 0)), .c (.val (.int .i64 0)), .c (.val (.slice none 0 0)), .c (.val (.int .i64 0)), .c (.val (.int .i64 0)), .c (.val (.int .i64 0)), .c (.val (.slice none 0 0)), .c (.val (.slice none 0 0)), .c (.val (.int .i64 0)), .c (.val (.int .i64 0))] 30), (2, .box [.c (.val (.int .i64 0)), .c (.val (.int .i64 0)), .c (.val (.int .i64 0)), .c (.val (.int .i64 0)), .c (.val (.int .i64 0)), .c (.val (.int .i64 0)), .c (.val (.slice none 0 0)), .c (.val (.slice none 0 0))] 48)], 3⟩ ?_ ?_
      ·skip
       simp only [EVB, eqF, Op.operands, IntKind.bits, descF, sizeF, bytesF, zeroF, seval, reduceCtorEq, ↓reduceIte]
       exact Weak.sub' ⟨rfl, rfl, rfl, trivial⟩ ⟨rfl, rfl, rfl, trivial⟩ (Nat.le_of_ble_eq_true rfl)
      ·skip
       refine go_seq ?_
       refine go_drawJ hR rfl ⟨[(2, .ptr 1 0), (3, .ptr 2 0)], [(1, .box [.c (.val (.int .i64 1)), .c (.val (.int .i64 r1.Epoch)), .c (.val (.int .i64 (IntKind.i64.wrap (r1.Id + 1)))), .c (.val (.int .i64 r1.Len)), .c (.sl (List.map cI64 r1.Vector)), .c (.val (.int .i64 r1.Txn.Epoch)), .c (.val (.int .i64 r1.Txn.Id)), .c (.val (.int .i64 r1.Txn.Begin)), .c (.sl (List.map SRecord.cells r1.Txn.Records)), .c (.sl (List.map cI64 r1.Txn.Vector)), .c (.val (.int .i64 r1.Done)), .c (.val (.int .i64 r1.Left))] 30), (2, .box [.c (.val (.int .i64 1)), .c (.val (.int .i64 (IntKind.i64.wrap (r1.Id + 1)))), .c (.val (.int .i64 0)), .c (.val (.int .i64 0)), .c (.val (.int .i64 0)), .c (.val (.int .i64 0)), .c (.val (.slice none 0 0)), .c (.val (.slice none 0 0))] 48)], 3⟩ ?_ ?_
       ·skip
        simp only [EVB, eqF, Op.operands, IntKind.bits, descF, sizeF, bytesF, zeroF, seval, reduceCtorEq, ↓reduceIte]
        refine ⟨by kernel_rfl, ?_⟩
        exact Weak.sub' ⟨rfl, rfl, trivial⟩ ⟨rfl, rfl, trivial⟩ (Nat.le_of_ble_eq_true rfl)
       ·skip
        subst hx0
        refine go_return ttOk (fun _ h => h) rfl ?_ ?_
        ·exact (by (repeat' apply And.intro) <;> first | trivial | exact Nat.le_of_ble_eq_true rfl | omega | (simp only [NM]; omega))
        ·first | rfl | (simp only [NM, CELLS] <;> rfl)
theorem coord_Trigger_sz (a0 : SCoord) (z0 : SCoord.Sz a0) : SCoord.Sz ((coord_Trigger a0).1) ∧ SDo.Sz ((coord_Trigger a0).2) := by
 obtain ⟨res, hx0⟩ : ∃ r, coord_Trigger a0 = r := ⟨_, rfl⟩
 simp only [hx0]
 unfold coord_Trigger at hx0
 try simp only [SZD] at z0
 obtain ⟨zz10, ⟨zz11, zz12⟩⟩ := z0
 obtain ⟨r1, hr1, hx0⟩ := letIn_ex hx0
 have zr1 := coord_clone_sz a0 (by (try simp only [SZD]); (repeat' apply And.intro) <;> first | assumption | omega | simp_all)
 simp only [hr1, SZD] at zr1
 obtain ⟨zz13, ⟨zz14, zz15⟩⟩ := zr1
 rcases Bool.eq_false_or_eq_true ((!(coord_in r1 0)) || (r1.Id == 9007199254740992)) with h3 | h3
 ·simp only [h3, cond_true, cond_false] at hx0
  subst hx0
  exact (by (try simp only [SZD]); (repeat' apply And.intro) <;> first | assumption | omega | simp_all)
 ·simp only [h3, cond_true, cond_false] at hx0
  subst hx0
  exact (by (try simp only [SZD]); (repeat' apply And.intro) <;> first | assumption | omega | simp_all)

def coord_Snapped (a0 : SCoord) (a1 : Int) : SCoord × SDo :=
  letIn (coord_clone a0) fun r1 => (bif ((!(coord_in r1 1)) || (a1 != r1.Id)) then (r1, (SDo.mk 0 0 0 (STxn.mk 0 0 0 [] []))) else (r1, (SDo.mk 2 r1.Id r1.Len (STxn.mk 0 0 0 [] []))))
set_option maxRecDepth 10000 in
set_option maxHeartbeats 8000000 in
theorem coord_Snapped_t (a0 : SCoord) (a1 : Int) (z0 : SCoord.Sz a0) : FnP Try.prog 29 [.agg [.c (.val (.int .i64 a0.Phase)), .c (.val (.int .i64 a0.Epoch)), .c (.val (.int .i64 a0.Id)), .c (.val (.int .i64 a0.Len)), .c (.sl (List.map cI64 a0.Vector)), .c (.val (.int .i64 a0.Txn.Epoch)), .c (.val (.int .i64 a0.Txn.Id)), .c (.val (.int .i64 a0.Txn.Begin)), .c (.sl (List.map SRecord.cells a0.Txn.Records)), .c (.sl (List.map cI64 a0.Txn.Vector)), .c (.val (.int .i64 a0.Done)), .c (.val (.int .i64 a0.Left))], .c (.val (.int .i64 a1))] (.tup [.agg [.c (.val (.int .i64 (((coord_Snapped a0 a1).1).Phase))), .c (.val (.int .i64 (((coord_Snapped a0 a1).1).Epoch))), .c (.val (.int .i64 (((coord_Snapped a0 a1).1).Id))), .c (.val (.int .i64 (((coord_Snapped a0 a1).1).Len))), .c (.sl (List.map cI64 (((coord_Snapped a0 a1).1).Vector))), .c (.val (.int .i64 ((((coord_Snapped a0 a1).1).Txn).Epoch))), .c (.val (.int .i64 ((((coord_Snapped a0 a1).1).Txn).Id))), .c (.val (.int .i64 ((((coord_Snapped a0 a1).1).Txn).Begin))), .c (.sl (List.map SRecord.cells ((((coord_Snapped a0 a1).1).Txn).Records))), .c (.sl (List.map cI64 ((((coord_Snapped a0 a1).1).Txn).Vector))), .c (.val (.int .i64 (((coord_Snapped a0 a1).1).Done))), .c (.val (.int .i64 (((coord_Snapped a0 a1).1).Left)))], .agg [.c (.val (.int .i64 (((coord_Snapped a0 a1).2).Kind))), .c (.val (.int .i64 (((coord_Snapped a0 a1).2).Id))), .c (.val (.int .i64 (((coord_Snapped a0 a1).2).Begin))), .c (.val (.int .i64 ((((coord_Snapped a0 a1).2).Txn).Epoch))), .c (.val (.int .i64 ((((coord_Snapped a0 a1).2).Txn).Id))), .c (.val (.int .i64 ((((coord_Snapped a0 a1).2).Txn).Begin))), .c (.sl (List.map SRecord.cells ((((coord_Snapped a0 a1).2).Txn).Records))), .c (.sl (List.map cI64 ((((coord_Snapped a0 a1).2).Txn).Vector)))]]) := by
 refine FnP.intro (tt := tt) Try.func29 rfl (by kernel_rfl) (by simp [Try.ntmps29]) fun w0 A hA => ?_
 have hR := reckB_ok eqOk ttOk
 obtain ⟨res, hx0⟩ : ∃ r, coord_Snapped a0 a1 = r := ⟨_, rfl⟩
 simp only [hx0]
 unfold coord_Snapped at hx0
 simp only [argT, Try.ntmps29]
 try simp only [SZD] at z0
 obtain ⟨zz4, ⟨zz5, zz6⟩⟩ := z0
 refine go_seq ?_
 refine go_regionJ hR ⟨[(1, .c (.val (.int .i64 a1))), (2, .ptr 0 0), (4, .ptr 1 0), (5, .ptr 2 0)], [(0, .box [.c (.val (.int .i64 a0.Phase)), .c (.val (.int .i64 a0.Epoch)), .c (.val (.int .i64 a0.Id)), .c (.val (.int .i64 a0.Len)), .c (.sl (List.map cI64 a0.Vector)), .c (.val (.int .i64 a0.Txn.Epoch)), .c (.val (.int .i64 a0.Txn.Id)), .c (.val (.int .i64 a0.Txn.Begin)), .c (.sl (List.map SRecord.cells a0.Txn.Records)), .c (.sl (List.map cI64 a0.Txn.Vector)), .c (.val (.int .i64 a0.Done)), .c (.val (.int .i64 a0.Left))] 30), (1, .box [.c (.val (.int .i64 0)), .c (.val (.int .i64 0)), .c (.val (.int .i64 0)), .c (.val (.int .i64 0)), .c (.val (.slice none 0 0)), .c (.val (.int .i64 0)), .c (.val (.int .i64 0)), .c (.val (.int .i64 0)), .c (.val (.slice none 0 0)), .c (.val (.slice none 0 0)), .c (.val (.int .i64 0)), .c (.val (.int .i64 0))] 30), (2, .box [.c (.val (.int .i64 0)), .c (.val (.int .i64 0)), .c (.val (.int .i64 0)), .c (.val (.int .i64 0)), .c (.val (.int .i64 0)), .c (.val (.int .i64 0)), .c (.val (.slice none 0 0)), .c (.val (.slice none 0 0))] 48)], 3⟩ ?_ ?_
 ·skip
  simp only [EVB, eqF, Op.operands, IntKind.bits, descF, sizeF, bytesF, zeroF, seval, reduceCtorEq, ↓reduceIte]
  exact Weak.sub' ⟨rfl, rfl, rfl, rfl, trivial⟩ ⟨rfl, rfl, rfl, trivial⟩ (Nat.le_of_ble_eq_true rfl)
 ·skip
  refine go_seq ?_
  obtain ⟨r1, hr1, hx0⟩ := letIn_ex hx0
  have Cr1 := (coord_clone_t a0 (by (try simp only [SZD]); (repeat' apply And.intro) <;> first | assumption | omega | simp_all))
  simp only [hr1] at Cr1
  have zr1 := coord_clone_sz a0 (by (try simp only [SZD]); (repeat' apply And.intro) <;> first | assumption | omega | simp_all)
  simp only [hr1, SZD] at zr1
  obtain ⟨zz7, ⟨zz8, zz9⟩⟩ := zr1
  refine go_regionJ hR ⟨[(1, .c (.val (.int .i64 a1))), (2, .ptr 0 0), (4, .ptr 1 0), (5, .ptr 2 0)], [(0, .box [.c (.val (.int .i64 r1.Phase)), .c (.val (.int .i64 r1.Epoch)), .c (.val (.int .i64 r1.Id)), .c (.val (.int .i64 r1.Len)), .c (.sl (List.map cI64 r1.Vector)), .c (.val (.int .i64 r1.Txn.Epoch)), .c (.val (.int .i64 r1.Txn.Id)), .c (.val (.int .i64 r1.Txn.Begin)), .c (.sl (List.map SRecord.cells r1.Txn.Records)), .c (.sl (List.map cI64 r1.Txn.Vector)), .c (.val (.int .i64 r1.Done)), .c (.val (.int .i64 r1.Left))] 30), (1, .box [.c (.val (.int .i64 0)), .c (.val (.int .i64 0)), .c (.val (.int .i64 0)), .c (.val (.int .i64 0)), .c (.val (.slice none 0 0)), .c (.val (.int .i64 0)), .c (.val (.int .i64 0)), .c (.val (.int .i64 0)), .c (.val (.slice none 0 0)), .c (.val (.slice none 0 0)), .c (.val (.int .i64 0)), .c (.val (.int .i64 0))] 30), (2, .box [.c (.val (.int .i64 0)), .c (.val (.int .i64 0)), .c (.val (.int .i64 0)), .c (.val (.int .i64 0)), .c (.val (.int .i64 0)), .c (.val (.int .i64 0)), .c (.val (.slice none 0 0)), .c (.val (.slice none 0 0))] 48)], 3⟩ ?_ ?_
  ·skip
   simp only [EVB, eqF, Op.operands, IntKind.bits, descF, sizeF, bytesF, zeroF, seval, reduceCtorEq, ↓reduceIte]
   refine CallK.freshE Cr1.toO rfl (by first | rfl | (simp only [NM]; done)) (by (repeat' apply And.intro) <;> first | trivial | rfl | omega | (simp only [NM]; omega)) (.inl rfl) (by exact Nat.le_of_ble_eq_true rfl) ?_
   try simp only [EVB, eqF, Op.operands, IntKind.bits, descF, sizeF, bytesF, zeroF, seval, reduceCtorEq, ↓reduceIte]
   exact Weak.sub' ⟨rfl, rfl, rfl, rfl, trivial⟩ ⟨rfl, rfl, rfl, trivial⟩ (Nat.le_of_ble_eq_true rfl)
  ·skip
   refine go_seq ?_
   refine go_seq ?_
   refine go_regionJ hR ⟨[(2, .ptr 0 0), (4, .ptr 1 0), (5, .ptr 2 0), (16, .c (.val (.bool ((!(coord_in r1 1)) || (a1 != r1.Id)))))], [(0, .box [.c (.val (.int .i64 r1.Phase)), .c (.val (.int .i64 r1.Epoch)), .c (.val (.int .i64 r1.Id)), .c (.val (.int .i64 r1.Len)), .c (.sl (List.map cI64 r1.Vector)), .c (.val (.int .i64 r1.Txn.Epoch)), .c (.val (.int .i64 r1.Txn.Id)), .c (.val (.int .i64 r1.Txn.Begin)), .c (.sl (List.map SRecord.cells r1.Txn.Records)), .c (.sl (List.map cI64 r1.Txn.Vector)), .c (.val (.int .i64 r1.Done)), .c (.val (.int .i64 r1.Left))] 30), (1, .box [.c (.val (.int .i64 0)), .c (.val (.int .i64 0)), .c (.val (.int .i64 0)), .c (.val (.int .i64 0)), .c (.val (.slice none 0 0)), .c (.val (.int .i64 0)), .c (.val (.int .i64 0)), .c (.val (.int .i64 0)), .c (.val (.slice none 0 0)), .c (.val (.slice none 0 0)), .c (.val (.int .i64 0)), .c (.val (.int .i64 0))] 30), (2, .box [.c (.val (.int .i64 0)), .c (.val (.int .i64 0)), .c (.val (.int .i64 0)), .c (.val (.int .i64 0)), .c (.val (.int .i64 0)), .c (.val (.int .i64 0)), .c (.val (.slice none 0 0)), .c (.val (.slice none 0 0))] 48)], 3⟩ ?_ ?_
   ·skip
    rcases Bool.eq_false_or_eq_true (!(coord_in r1 1)) with h2 | h2
    ·simp only [h2, EVB, eqF, Op.operands, IntKind.bits, descF, sizeF, bytesF, zeroF, seval, reduceCtorEq, ↓reduceIte]
     refine CallK.freshE (coord_in_t r1 1).toO rfl (by first | rfl | (simp only [NM]; done)) (by (repeat' apply And.intro) <;> first | trivial | rfl | omega | (simp only [NM]; omega)) (.inl rfl) (by exact Nat.le_of_ble_eq_true rfl) ?_
     try simp only [h2, EVB, eqF, Op.operands, IntKind.bits, descF, sizeF, bytesF, zeroF, seval, reduceCtorEq, ↓reduceIte]
     try simp only [h2, BM]
     exact Weak.sub' ⟨rfl, rfl, rfl, rfl, trivial⟩ ⟨rfl, rfl, rfl, trivial⟩ (Nat.le_of_ble_eq_true rfl)
    ·simp only [h2, EVB, eqF, Op.operands, IntKind.bits, descF, sizeF, bytesF, zeroF, seval, reduceCtorEq, ↓reduceIte]
     refine CallK.freshE (coord_in_t r1 1).toO rfl (by first | rfl | (simp only [NM]; done)) (by (repeat' apply And.intro) <;> first | trivial | rfl | omega | (simp only [NM]; omega)) (.inl rfl) (by exact Nat.le_of_ble_eq_true rfl) ?_
     try simp only [h2, EVB, eqF, Op.operands, IntKind.bits, descF, sizeF, bytesF, zeroF, seval, reduceCtorEq, ↓reduceIte]
     try simp only [h2, BM]
     exact Weak.sub' ⟨rfl, rfl, rfl, rfl, trivial⟩ ⟨rfl, rfl, rfl, trivial⟩ (Nat.le_of_ble_eq_true rfl)
   ·skip
    refine go_cond (by rfl) (fun h3 => ?_) (fun h3 => ?_)
    ·have gh3 := h3
     try simp only [GN, beq_iff_eq, beq_eq_false_iff_ne, bne_iff_ne, bne_eq_false_iff_eq] at gh3
     simp only [h3, cond_true, cond_false] at hx0
     refine go_seq ?_
     refine go_regionJ hR ⟨[(4, .ptr 1 0), (5, .ptr 2 0)], [(1, .box [.c (.val (.int .i64 r1.Phase)), .c (.val (.int .i64 r1.Epoch)), .c (.val (.int .i64 r1.Id)), .c (.val (.int .i64 r1.Len)), .c (.sl (List.map cI64 r1.Vector)), .c (.val (.int .i64 r1.Txn.Epoch)), .c (.val (.int .i64 r1.Txn.Id)), .c (.val (.int .i64 r1.Txn.Begin)), .c (.sl (List.map SRecord.cells r1.Txn.Records)), .c (.sl (List.map cI64 r1.Txn.Vector)), .c (.val (.int .i64 r1.Done)), .c (.val (.int .i64 r1.Left))] 30), (2, .box [.c (.val (.int .i64 0)), .c (.val (.int .i64 0)), .c (.val (.int .i64 0)), .c (.val (.int .i64 0)), .c (.val (.int .i64 0)), .c (.val (.int .i64 0)), .c (.val (.slice none 0 0)), .c (.val (.slice none 0 0))] 48)], 3⟩ ?_ ?_
     ·skip
      simp only [EVB, eqF, Op.operands, IntKind.bits, descF, sizeF, bytesF, zeroF, seval, reduceCtorEq, ↓reduceIte]
      exact Weak.sub' ⟨rfl, rfl, trivial⟩ ⟨rfl, rfl, trivial⟩ (Nat.le_of_ble_eq_true rfl)
     ·skip
      subst hx0
      refine go_return ttOk (fun _ h => h) rfl ?_ ?_
      ·exact (by (repeat' apply And.intro) <;> first | trivial | exact Nat.le_of_ble_eq_true rfl | omega | (simp only [NM]; omega))
      ·first | rfl | (simp only [NM, CELLS] <;> rfl)
    ·have gh3 := h3
     try simp only [GN, beq_iff_eq, beq_eq_false_iff_ne, bne_iff_ne, bne_eq_false_iff_eq] at gh3
     simp only [h3, cond_true, cond_false] at hx0
     refine go_skip ?_
     refine go_seq ?_
     refine go_drawJ hR rfl ⟨[(4, .ptr 1 0), (5, .ptr 2 0)], [(1, .box [.c (.val (.int .i64 r1.Phase)), .c (.val (.int .i64 r1.Epoch)), .c (.val (.int .i64 r1.Id)), .c (.val (.int .i64 r1.Len)), .c (.sl (List.map cI64 r1.Vector)), .c (.val (.int .i64 r1.Txn.Epoch)), .c (.val (.int .i64 r1.Txn.Id)), .c (.val (.int .i64 r1.Txn.Begin)), .c (.sl (List.map SRecord.cells r1.Txn.Records)), .c (.sl (List.map cI64 r1.Txn.Vector)), .c (.val (.int .i64 r1.Done)), .c (.val (.int .i64 r1.Left))] 30), (2, .box [.c (.val (.int .i64 2)), .c (.val (.int .i64 r1.Id)), .c (.val (.int .i64 r1.Len)), .c (.val (.int .i64 0)), .c (.val (.int .i64 0)), .c (.val (.int .i64 0)), .c (.val (.slice none 0 0)), .c (.val (.slice none 0 0))] 48)], 3⟩ ?_ ?_
     ·skip
      simp only [EVB, eqF, Op.operands, IntKind.bits, descF, sizeF, bytesF, zeroF, seval, reduceCtorEq, ↓reduceIte]
      refine ⟨by kernel_rfl, ?_⟩
      exact Weak.sub' ⟨rfl, rfl, trivial⟩ ⟨rfl, rfl, trivial⟩ (Nat.le_of_ble_eq_true rfl)
     ·skip
      subst hx0
      refine go_return ttOk (fun _ h => h) rfl ?_ ?_
      ·exact (by (repeat' apply And.intro) <;> first | trivial | exact Nat.le_of_ble_eq_true rfl | omega | (simp only [NM]; omega))
      ·first | rfl | (simp only [NM, CELLS] <;> rfl)
theorem coord_Snapped_sz (a0 : SCoord) (a1 : Int) (z0 : SCoord.Sz a0) : SCoord.Sz ((coord_Snapped a0 a1).1) ∧ SDo.Sz ((coord_Snapped a0 a1).2) := by
 obtain ⟨res, hx0⟩ : ∃ r, coord_Snapped a0 a1 = r := ⟨_, rfl⟩
 simp only [hx0]
 unfold coord_Snapped at hx0
 try simp only [SZD] at z0
 obtain ⟨zz10, ⟨zz11, zz12⟩⟩ := z0
 obtain ⟨r1, hr1, hx0⟩ := letIn_ex hx0
 have zr1 := coord_clone_sz a0 (by (try simp only [SZD]); (repeat' apply And.intro) <;> first | assumption | omega | simp_all)
 simp only [hr1, SZD] at zr1
 obtain ⟨zz13, ⟨zz14, zz15⟩⟩ := zr1
 rcases Bool.eq_false_or_eq_true ((!(coord_in r1 1)) || (a1 != r1.Id)) with h3 | h3
 ·simp only [h3, cond_true, cond_false] at hx0
  subst hx0
  exact (by (try simp only [SZD]); (repeat' apply And.intro) <;> first | assumption | omega | simp_all)
 ·simp only [h3, cond_true, cond_false] at hx0
  subst hx0
  exact (by (try simp only [SZD]); (repeat' apply And.intro) <;> first | assumption | omega | simp_all)

def coord_left (a0 : SCoord) : SCoord :=
  (SCoord.mk 0 a0.Epoch a0.Id a0.Len a0.Vector (STxn.mk 0 0 0 [] []) a0.Done (if 9007199254740992 < (IntKind.i64.wrap (a0.Left + 1)) then 9007199254740992 else (IntKind.i64.wrap (a0.Left + 1))))
set_option maxRecDepth 10000 in
set_option maxHeartbeats 8000000 in
theorem coord_left_t (a0 : SCoord) : FnP Try.prog 61 [.agg [.c (.val (.int .i64 a0.Phase)), .c (.val (.int .i64 a0.Epoch)), .c (.val (.int .i64 a0.Id)), .c (.val (.int .i64 a0.Len)), .c (.sl (List.map cI64 a0.Vector)), .c (.val (.int .i64 a0.Txn.Epoch)), .c (.val (.int .i64 a0.Txn.Id)), .c (.val (.int .i64 a0.Txn.Begin)), .c (.sl (List.map SRecord.cells a0.Txn.Records)), .c (.sl (List.map cI64 a0.Txn.Vector)), .c (.val (.int .i64 a0.Done)), .c (.val (.int .i64 a0.Left))]] (.agg [.c (.val (.int .i64 ((coord_left a0).Phase))), .c (.val (.int .i64 ((coord_left a0).Epoch))), .c (.val (.int .i64 ((coord_left a0).Id))), .c (.val (.int .i64 ((coord_left a0).Len))), .c (.sl (List.map cI64 ((coord_left a0).Vector))), .c (.val (.int .i64 (((coord_left a0).Txn).Epoch))), .c (.val (.int .i64 (((coord_left a0).Txn).Id))), .c (.val (.int .i64 (((coord_left a0).Txn).Begin))), .c (.sl (List.map SRecord.cells (((coord_left a0).Txn).Records))), .c (.sl (List.map cI64 (((coord_left a0).Txn).Vector))), .c (.val (.int .i64 ((coord_left a0).Done))), .c (.val (.int .i64 ((coord_left a0).Left)))]) := by
 refine FnP.intro (tt := tt) Try.func61 rfl (by kernel_rfl) (by simp [Try.ntmps61]) fun w0 A hA => ?_
 have hR := reckB_ok eqOk ttOk
 obtain ⟨res, hx0⟩ : ∃ r, coord_left a0 = r := ⟨_, rfl⟩
 simp only [hx0]
 unfold coord_left at hx0
 simp only [argT, Try.ntmps61]
 refine go_seq ?_
 refine go_regionJ hR ⟨[(1, .ptr 0 0), (2, .ptr 1 0)], [(0, .box [.c (.val (.int .i64 a0.Phase)), .c (.val (.int .i64 a0.Epoch)), .c (.val (.int .i64 a0.Id)), .c (.val (.int .i64 a0.Len)), .c (.sl (List.map cI64 a0.Vector)), .c (.val (.int .i64 a0.Txn.Epoch)), .c (.val (.int .i64 a0.Txn.Id)), .c (.val (.int .i64 a0.Txn.Begin)), .c (.sl (List.map SRecord.cells a0.Txn.Records)), .c (.sl (List.map cI64 a0.Txn.Vector)), .c (.val (.int .i64 a0.Done)), .c (.val (.int .i64 a0.Left))] 30), (1, .box [.c (.val (.int .i64 0)), .c (.val (.int .i64 0)), .c (.val (.int .i64 0)), .c (.val (.int .i64 0)), .c (.val (.slice none 0 0)), .c (.val (.int .i64 0)), .c (.val (.int .i64 0)), .c (.val (.int .i64 0)), .c (.val (.slice none 0 0)), .c (.val (.slice none 0 0)), .c (.val (.int .i64 0)), .c (.val (.int .i64 0))] 30)], 2⟩ ?_ ?_
 ·skip
  simp only [EVB, eqF, Op.operands, IntKind.bits, descF, sizeF, bytesF, zeroF, seval, reduceCtorEq, ↓reduceIte]
  exact Weak.sub' ⟨rfl, rfl, trivial⟩ ⟨rfl, rfl, trivial⟩ (Nat.le_of_ble_eq_true rfl)
 ·skip
  refine go_seq ?_
  refine go_regionJ hR ⟨[(1, .ptr 0 0), (2, .ptr 1 0)], [(0, .box [.c (.val (.int .i64 0)), .c (.val (.int .i64 a0.Epoch)), .c (.val (.int .i64 a0.Id)), .c (.val (.int .i64 a0.Len)), .c (.sl (List.map cI64 a0.Vector)), .c (.val (.int .i64 0)), .c (.val (.int .i64 0)), .c (.val (.int .i64 0)), .c (.val (.slice none 0 0)), .c (.val (.slice none 0 0)), .c (.val (.int .i64 a0.Done)), .c (.val (.int .i64 a0.Left))] 30), (1, .box [.c (.val (.int .i64 0)), .c (.val (.int .i64 0)), .c (.val (.int .i64 0)), .c (.val (.int .i64 0)), .c (.val (.slice none 0 0)), .c (.val (.int .i64 0)), .c (.val (.int .i64 0)), .c (.val (.int .i64 0)), .c (.val (.slice none 0 0)), .c (.val (.slice none 0 0)), .c (.val (.int .i64 0)), .c (.val (.int .i64 0))] 30)], 2⟩ ?_ ?_
  ·skip
   simp only [EVB, eqF, Op.operands, IntKind.bits, descF, sizeF, bytesF, zeroF, seval, reduceCtorEq, ↓reduceIte]
   exact Weak.sub' ⟨rfl, rfl, trivial⟩ ⟨rfl, rfl, trivial⟩ (Nat.le_of_ble_eq_true rfl)
  ·skip
   refine go_seq ?_
   refine go_regionJ hR ⟨[(1, .ptr 0 0), (2, .ptr 1 0)], [(0, .box [.c (.val (.int .i64 0)), .c (.val (.int .i64 a0.Epoch)), .c (.val (.int .i64 a0.Id)), .c (.val (.int .i64 a0.Len)), .c (.sl (List.map cI64 a0.Vector)), .c (.val (.int .i64 0)), .c (.val (.int .i64 0)), .c (.val (.int .i64 0)), .c (.val (.slice none 0 0)), .c (.val (.slice none 0 0)), .c (.val (.int .i64 a0.Done)), .c (.val (.int .i64 (if 9007199254740992 < (IntKind.i64.wrap (a0.Left + 1)) then 9007199254740992 else (IntKind.i64.wrap (a0.Left + 1)))))] 30), (1, .box [.c (.val (.int .i64 0)), .c (.val (.int .i64 0)), .c (.val (.int .i64 0)), .c (.val (.int .i64 0)), .c (.val (.slice none 0 0)), .c (.val (.int .i64 0)), .c (.val (.int .i64 0)), .c (.val (.int .i64 0)), .c (.val (.slice none 0 0)), .c (.val (.slice none 0 0)), .c (.val (.int .i64 0)), .c (.val (.int .i64 0))] 30)], 2⟩ ?_ ?_
   ·skip
    simp only [EVB, eqF, Op.operands, IntKind.bits, descF, sizeF, bytesF, zeroF, seval, reduceCtorEq, ↓reduceIte]
    exact Weak.sub' ⟨rfl, rfl, trivial⟩ ⟨rfl, rfl, trivial⟩ (Nat.le_of_ble_eq_true rfl)
   ·skip
    refine go_seq ?_
    refine go_regionJ hR ⟨[(2, .ptr 1 0)], [(1, .box [.c (.val (.int .i64 0)), .c (.val (.int .i64 a0.Epoch)), .c (.val (.int .i64 a0.Id)), .c (.val (.int .i64 a0.Len)), .c (.sl (List.map cI64 a0.Vector)), .c (.val (.int .i64 0)), .c (.val (.int .i64 0)), .c (.val (.int .i64 0)), .c (.val (.slice none 0 0)), .c (.val (.slice none 0 0)), .c (.val (.int .i64 a0.Done)), .c (.val (.int .i64 (if 9007199254740992 < (IntKind.i64.wrap (a0.Left + 1)) then 9007199254740992 else (IntKind.i64.wrap (a0.Left + 1)))))] 30)], 2⟩ ?_ ?_
    ·skip
     simp only [EVB, eqF, Op.operands, IntKind.bits, descF, sizeF, bytesF, zeroF, seval, reduceCtorEq, ↓reduceIte]
     exact Weak.sub' ⟨rfl, trivial⟩ ⟨rfl, trivial⟩ (Nat.le_of_ble_eq_true rfl)
    ·skip
     subst hx0
     refine go_return ttOk (fun _ h => h) rfl ?_ ?_
     ·exact (by (repeat' apply And.intro) <;> first | trivial | exact Nat.le_of_ble_eq_true rfl | omega | (simp only [NM]; omega))
     ·first | rfl | (simp only [NM, CELLS] <;> rfl)
theorem coord_left_sz (a0 : SCoord) (z0 : SCoord.Sz a0) : SCoord.Sz (coord_left a0) := by
 obtain ⟨res, hx0⟩ : ∃ r, coord_left a0 = r := ⟨_, rfl⟩
 simp only [hx0]
 unfold coord_left at hx0
 try simp only [SZD] at z0
 obtain ⟨zz1, ⟨zz2, zz3⟩⟩ := z0
 subst hx0
 exact (by (try simp only [SZD]); (repeat' apply And.intro) <;> first | assumption | omega | simp_all)

def coord_Failed (a0 : SCoord) : SCoord :=
  letIn (coord_clone a0) fun r1 => (bif (!(coord_in r1 1)) then r1 else letIn (coord_left r1) fun r3 => r3)
set_option maxRecDepth 10000 in
set_option maxHeartbeats 8000000 in
theorem coord_Failed_t (a0 : SCoord) (z0 : SCoord.Sz a0) : FnP Try.prog 35 [.agg [.c (.val (.int .i64 a0.Phase)), .c (.val (.int .i64 a0.Epoch)), .c (.val (.int .i64 a0.Id)), .c (.val (.int .i64 a0.Len)), .c (.sl (List.map cI64 a0.Vector)), .c (.val (.int .i64 a0.Txn.Epoch)), .c (.val (.int .i64 a0.Txn.Id)), .c (.val (.int .i64 a0.Txn.Begin)), .c (.sl (List.map SRecord.cells a0.Txn.Records)), .c (.sl (List.map cI64 a0.Txn.Vector)), .c (.val (.int .i64 a0.Done)), .c (.val (.int .i64 a0.Left))]] (.agg [.c (.val (.int .i64 ((coord_Failed a0).Phase))), .c (.val (.int .i64 ((coord_Failed a0).Epoch))), .c (.val (.int .i64 ((coord_Failed a0).Id))), .c (.val (.int .i64 ((coord_Failed a0).Len))), .c (.sl (List.map cI64 ((coord_Failed a0).Vector))), .c (.val (.int .i64 (((coord_Failed a0).Txn).Epoch))), .c (.val (.int .i64 (((coord_Failed a0).Txn).Id))), .c (.val (.int .i64 (((coord_Failed a0).Txn).Begin))), .c (.sl (List.map SRecord.cells (((coord_Failed a0).Txn).Records))), .c (.sl (List.map cI64 (((coord_Failed a0).Txn).Vector))), .c (.val (.int .i64 ((coord_Failed a0).Done))), .c (.val (.int .i64 ((coord_Failed a0).Left)))]) := by
 refine FnP.intro (tt := tt) Try.func35 rfl (by kernel_rfl) (by simp [Try.ntmps35]) fun w0 A hA => ?_
 have hR := reckB_ok eqOk ttOk
 obtain ⟨res, hx0⟩ : ∃ r, coord_Failed a0 = r := ⟨_, rfl⟩
 simp only [hx0]
 unfold coord_Failed at hx0
 simp only [argT, Try.ntmps35]
 try simp only [SZD] at z0
 obtain ⟨zz4, ⟨zz5, zz6⟩⟩ := z0
 refine go_seq ?_
 refine go_regionJ hR ⟨[(1, .ptr 0 0), (2, .ptr 1 0)], [(0, .box [.c (.val (.int .i64 a0.Phase)), .c (.val (.int .i64 a0.Epoch)), .c (.val (.int .i64 a0.Id)), .c (.val (.int .i64 a0.Len)), .c (.sl (List.map cI64 a0.Vector)), .c (.val (.int .i64 a0.Txn.Epoch)), .c (.val (.int .i64 a0.Txn.Id)), .c (.val (.int .i64 a0.Txn.Begin)), .c (.sl (List.map SRecord.cells a0.Txn.Records)), .c (.sl (List.map cI64 a0.Txn.Vector)), .c (.val (.int .i64 a0.Done)), .c (.val (.int .i64 a0.Left))] 30), (1, .box [.c (.val (.int .i64 0)), .c (.val (.int .i64 0)), .c (.val (.int .i64 0)), .c (.val (.int .i64 0)), .c (.val (.slice none 0 0)), .c (.val (.int .i64 0)), .c (.val (.int .i64 0)), .c (.val (.int .i64 0)), .c (.val (.slice none 0 0)), .c (.val (.slice none 0 0)), .c (.val (.int .i64 0)), .c (.val (.int .i64 0))] 30)], 2⟩ ?_ ?_
 ·skip
  simp only [EVB, eqF, Op.operands, IntKind.bits, descF, sizeF, bytesF, zeroF, seval, reduceCtorEq, ↓reduceIte]
  exact Weak.sub' ⟨rfl, rfl, trivial⟩ ⟨rfl, rfl, trivial⟩ (Nat.le_of_ble_eq_true rfl)
 ·skip
  refine go_seq ?_
  obtain ⟨r1, hr1, hx0⟩ := letIn_ex hx0
  have Cr1 := (coord_clone_t a0 (by (try simp only [SZD]); (repeat' apply And.intro) <;> first | assumption | omega | simp_all))
  simp only [hr1] at Cr1
  have zr1 := coord_clone_sz a0 (by (try simp only [SZD]); (repeat' apply And.intro) <;> first | assumption | omega | simp_all)
  simp only [hr1, SZD] at zr1
  obtain ⟨zz7, ⟨zz8, zz9⟩⟩ := zr1
  refine go_regionJ hR ⟨[(1, .ptr 0 0), (2, .ptr 1 0)], [(0, .box [.c (.val (.int .i64 r1.Phase)), .c (.val (.int .i64 r1.Epoch)), .c (.val (.int .i64 r1.Id)), .c (.val (.int .i64 r1.Len)), .c (.sl (List.map cI64 r1.Vector)), .c (.val (.int .i64 r1.Txn.Epoch)), .c (.val (.int .i64 r1.Txn.Id)), .c (.val (.int .i64 r1.Txn.Begin)), .c (.sl (List.map SRecord.cells r1.Txn.Records)), .c (.sl (List.map cI64 r1.Txn.Vector)), .c (.val (.int .i64 r1.Done)), .c (.val (.int .i64 r1.Left))] 30), (1, .box [.c (.val (.int .i64 0)), .c (.val (.int .i64 0)), .c (.val (.int .i64 0)), .c (.val (.int .i64 0)), .c (.val (.slice none 0 0)), .c (.val (.int .i64 0)), .c (.val (.int .i64 0)), .c (.val (.int .i64 0)), .c (.val (.slice none 0 0)), .c (.val (.slice none 0 0)), .c (.val (.int .i64 0)), .c (.val (.int .i64 0))] 30)], 2⟩ ?_ ?_
  ·skip
   simp only [EVB, eqF, Op.operands, IntKind.bits, descF, sizeF, bytesF, zeroF, seval, reduceCtorEq, ↓reduceIte]
   refine CallK.freshE Cr1.toO rfl (by first | rfl | (simp only [NM]; done)) (by (repeat' apply And.intro) <;> first | trivial | rfl | omega | (simp only [NM]; omega)) (.inl rfl) (by exact Nat.le_of_ble_eq_true rfl) ?_
   try simp only [EVB, eqF, Op.operands, IntKind.bits, descF, sizeF, bytesF, zeroF, seval, reduceCtorEq, ↓reduceIte]
   exact Weak.sub' ⟨rfl, rfl, trivial⟩ ⟨rfl, rfl, trivial⟩ (Nat.le_of_ble_eq_true rfl)
  ·skip
   refine go_seq ?_
   refine go_seq ?_
   refine go_regionJ hR ⟨[(1, .ptr 0 0), (2, .ptr 1 0), (7, .c (.val (.bool (!(coord_in r1 1)))))], [(0, .box [.c (.val (.int .i64 r1.Phase)), .c (.val (.int .i64 r1.Epoch)), .c (.val (.int .i64 r1.Id)), .c (.val (.int .i64 r1.Len)), .c (.sl (List.map cI64 r1.Vector)), .c (.val (.int .i64 r1.Txn.Epoch)), .c (.val (.int .i64 r1.Txn.Id)), .c (.val (.int .i64 r1.Txn.Begin)), .c (.sl (List.map SRecord.cells r1.Txn.Records)), .c (.sl (List.map cI64 r1.Txn.Vector)), .c (.val (.int .i64 r1.Done)), .c (.val (.int .i64 r1.Left))] 30), (1, .box [.c (.val (.int .i64 0)), .c (.val (.int .i64 0)), .c (.val (.int .i64 0)), .c (.val (.int .i64 0)), .c (.val (.slice none 0 0)), .c (.val (.int .i64 0)), .c (.val (.int .i64 0)), .c (.val (.int .i64 0)), .c (.val (.slice none 0 0)), .c (.val (.slice none 0 0)), .c (.val (.int .i64 0)), .c (.val (.int .i64 0))] 30)], 2⟩ ?_ ?_
   ·skip
    simp only [EVB, eqF, Op.operands, IntKind.bits, descF, sizeF, bytesF, zeroF, seval, reduceCtorEq, ↓reduceIte]
    refine CallK.freshE (coord_in_t r1 1).toO rfl (by first | rfl | (simp only [NM]; done)) (by (repeat' apply And.intro) <;> first | trivial | rfl | omega | (simp only [NM]; omega)) (.inl rfl) (by exact Nat.le_of_ble_eq_true rfl) ?_
    try simp only [EVB, eqF, Op.operands, IntKind.bits, descF, sizeF, bytesF, zeroF, seval, reduceCtorEq, ↓reduceIte]
    exact Weak.sub' ⟨rfl, rfl, rfl, trivial⟩ ⟨rfl, rfl, trivial⟩ (Nat.le_of_ble_eq_true rfl)
   ·skip
    refine go_cond (by rfl) (fun h2 => ?_) (fun h2 => ?_)
    ·have gh2 := h2
     try simp only [GN, beq_iff_eq, beq_eq_false_iff_ne, bne_iff_ne, bne_eq_false_iff_eq] at gh2
     simp only [h2, cond_true, cond_false] at hx0
     refine go_seq ?_
     refine go_regionJ hR ⟨[(2, .ptr 1 0)], [(1, .box [.c (.val (.int .i64 r1.Phase)), .c (.val (.int .i64 r1.Epoch)), .c (.val (.int .i64 r1.Id)), .c (.val (.int .i64 r1.Len)), .c (.sl (List.map cI64 r1.Vector)), .c (.val (.int .i64 r1.Txn.Epoch)), .c (.val (.int .i64 r1.Txn.Id)), .c (.val (.int .i64 r1.Txn.Begin)), .c (.sl (List.map SRecord.cells r1.Txn.Records)), .c (.sl (List.map cI64 r1.Txn.Vector)), .c (.val (.int .i64 r1.Done)), .c (.val (.int .i64 r1.Left))] 30)], 2⟩ ?_ ?_
     ·skip
      simp only [EVB, eqF, Op.operands, IntKind.bits, descF, sizeF, bytesF, zeroF, seval, reduceCtorEq, ↓reduceIte]
      exact Weak.sub' ⟨rfl, trivial⟩ ⟨rfl, trivial⟩ (Nat.le_of_ble_eq_true rfl)
     ·skip
      subst hx0
      refine go_return ttOk (fun _ h => h) rfl ?_ ?_
      ·exact (by (repeat' apply And.intro) <;> first | trivial | exact Nat.le_of_ble_eq_true rfl | omega | (simp only [NM]; omega))
      ·first | rfl | (simp only [NM, CELLS] <;> rfl)
    ·have gh2 := h2
     try simp only [GN, beq_iff_eq, beq_eq_false_iff_ne, bne_iff_ne, bne_eq_false_iff_eq] at gh2
     simp only [h2, cond_true, cond_false] at hx0
     refine go_skip ?_
     refine go_seq ?_
     obtain ⟨r3, hr3, hx0⟩ := letIn_ex hx0
     have Cr3 := (coord_left_t r1)
     simp only [hr3] at Cr3
     have zr3 := coord_left_sz r1 (by (try simp only [SZD]); (repeat' apply And.intro) <;> first | assumption | omega | simp_all)
     simp only [hr3, SZD] at zr3
     obtain ⟨zz10, ⟨zz11, zz12⟩⟩ := zr3
     refine go_regionJ hR ⟨[(2, .ptr 1 0)], [(1, .box [.c (.val (.int .i64 r3.Phase)), .c (.val (.int .i64 r3.Epoch)), .c (.val (.int .i64 r3.Id)), .c (.val (.int .i64 r3.Len)), .c (.sl (List.map cI64 r3.Vector)), .c (.val (.int .i64 r3.Txn.Epoch)), .c (.val (.int .i64 r3.Txn.Id)), .c (.val (.int .i64 r3.Txn.Begin)), .c (.sl (List.map SRecord.cells r3.Txn.Records)), .c (.sl (List.map cI64 r3.Txn.Vector)), .c (.val (.int .i64 r3.Done)), .c (.val (.int .i64 r3.Left))] 30)], 2⟩ ?_ ?_
     ·skip
      simp only [EVB, eqF, Op.operands, IntKind.bits, descF, sizeF, bytesF, zeroF, seval, reduceCtorEq, ↓reduceIte]
      refine CallK.freshE Cr3.toO rfl (by first | rfl | (simp only [NM]; done)) (by (repeat' apply And.intro) <;> first | trivial | rfl | omega | (simp only [NM]; omega)) (.inl rfl) (by exact Nat.le_of_ble_eq_true rfl) ?_
      try simp only [EVB, eqF, Op.operands, IntKind.bits, descF, sizeF, bytesF, zeroF, seval, reduceCtorEq, ↓reduceIte]
      exact Weak.sub' ⟨rfl, trivial⟩ ⟨rfl, trivial⟩ (Nat.le_of_ble_eq_true rfl)
     ·skip
      subst hx0
      refine go_return ttOk (fun _ h => h) rfl ?_ ?_
      ·exact (by (repeat' apply And.intro) <;> first | trivial | exact Nat.le_of_ble_eq_true rfl | omega | (simp only [NM]; omega))
      ·first | rfl | (simp only [NM, CELLS] <;> rfl)
theorem coord_Failed_sz (a0 : SCoord) (z0 : SCoord.Sz a0) : SCoord.Sz (coord_Failed a0) := by
 obtain ⟨res, hx0⟩ : ∃ r, coord_Failed a0 = r := ⟨_, rfl⟩
 simp only [hx0]
 unfold coord_Failed at hx0
 try simp only [SZD] at z0
 obtain ⟨zz13, ⟨zz14, zz15⟩⟩ := z0
 obtain ⟨r1, hr1, hx0⟩ := letIn_ex hx0
 have zr1 := coord_clone_sz a0 (by (try simp only [SZD]); (repeat' apply And.intro) <;> first | assumption | omega | simp_all)
 simp only [hr1, SZD] at zr1
 obtain ⟨zz16, ⟨zz17, zz18⟩⟩ := zr1
 rcases Bool.eq_false_or_eq_true (!(coord_in r1 1)) with h2 | h2
 ·simp only [h2, cond_true, cond_false] at hx0
  subst hx0
  exact (by (try simp only [SZD]); (repeat' apply And.intro) <;> first | assumption | omega | simp_all)
 ·simp only [h2, cond_true, cond_false] at hx0
  obtain ⟨r3, hr3, hx0⟩ := letIn_ex hx0
  have zr3 := coord_left_sz r1 (by (try simp only [SZD]); (repeat' apply And.intro) <;> first | assumption | omega | simp_all)
  simp only [hr3, SZD] at zr3
  obtain ⟨zz19, ⟨zz20, zz21⟩⟩ := zr3
  subst hx0
  exact (by (try simp only [SZD]); (repeat' apply And.intro) <;> first | assumption | omega | simp_all)

def coord_pre (a0 : SCoord) (a1 : STxn) : SCoord × SDo :=
  letIn (coord_txn a1) fun r1 => ((SCoord.mk 2 a0.Epoch a0.Id a0.Len a0.Vector a1 a0.Done a0.Left), (SDo.mk 3 a0.Id 0 r1))
set_option maxRecDepth 10000 in
set_option maxHeartbeats 8000000 in
theorem coord_pre_t (a0 : SCoord) (a1 : STxn) (z0 : SCoord.Sz a0) (z1 : STxn.Sz a1) : FnP Try.prog 59 [.agg [.c (.val (.int .i64 a0.Phase)), .c (.val (.int .i64 a0.Epoch)), .c (.val (.int .i64 a0.Id)), .c (.val (.int .i64 a0.Len)), .c (.sl (List.map cI64 a0.Vector)), .c (.val (.int .i64 a0.Txn.Epoch)), .c (.val (.int .i64 a0.Txn.Id)), .c (.val (.int .i64 a0.Txn.Begin)), .c (.sl (List.map SRecord.cells a0.Txn.Records)), .c (.sl (List.map cI64 a0.Txn.Vector)), .c (.val (.int .i64 a0.Done)), .c (.val (.int .i64 a0.Left))], .agg [.c (.val (.int .i64 a1.Epoch)), .c (.val (.int .i64 a1.Id)), .c (.val (.int .i64 a1.Begin)), .c (.sl (List.map SRecord.cells a1.Records)), .c (.sl (List.map cI64 a1.Vector))]] (.tup [.agg [.c (.val (.int .i64 (((coord_pre a0 a1).1).Phase))), .c (.val (.int .i64 (((coord_pre a0 a1).1).Epoch))), .c (.val (.int .i64 (((coord_pre a0 a1).1).Id))), .c (.val (.int .i64 (((coord_pre a0 a1).1).Len))), .c (.sl (List.map cI64 (((coord_pre a0 a1).1).Vector))), .c (.val (.int .i64 ((((coord_pre a0 a1).1).Txn).Epoch))), .c (.val (.int .i64 ((((coord_pre a0 a1).1).Txn).Id))), .c (.val (.int .i64 ((((coord_pre a0 a1).1).Txn).Begin))), .c (.sl (List.map SRecord.cells ((((coord_pre a0 a1).1).Txn).Records))), .c (.sl (List.map cI64 ((((coord_pre a0 a1).1).Txn).Vector))), .c (.val (.int .i64 (((coord_pre a0 a1).1).Done))), .c (.val (.int .i64 (((coord_pre a0 a1).1).Left)))], .agg [.c (.val (.int .i64 (((coord_pre a0 a1).2).Kind))), .c (.val (.int .i64 (((coord_pre a0 a1).2).Id))), .c (.val (.int .i64 (((coord_pre a0 a1).2).Begin))), .c (.val (.int .i64 ((((coord_pre a0 a1).2).Txn).Epoch))), .c (.val (.int .i64 ((((coord_pre a0 a1).2).Txn).Id))), .c (.val (.int .i64 ((((coord_pre a0 a1).2).Txn).Begin))), .c (.sl (List.map SRecord.cells ((((coord_pre a0 a1).2).Txn).Records))), .c (.sl (List.map cI64 ((((coord_pre a0 a1).2).Txn).Vector)))]]) := by
 refine FnP.intro (tt := tt) Try.func59 rfl (by kernel_rfl) (by simp [Try.ntmps59]) fun w0 A hA => ?_
 have hR := reckB_ok eqOk ttOk
 obtain ⟨res, hx0⟩ : ∃ r, coord_pre a0 a1 = r := ⟨_, rfl⟩
 simp only [hx0]
 unfold coord_pre at hx0
 simp only [argT, Try.ntmps59]
 try simp only [SZD] at z0 z1
 obtain ⟨zz2, ⟨zz3, zz4⟩⟩ := z0
 obtain ⟨zz5, zz6⟩ := z1
 refine go_seq ?_
 refine go_regionJ hR ⟨[(2, .ptr 0 0), (3, .ptr 1 0), (4, .ptr 2 0), (5, .ptr 3 0)], [(0, .box [.c (.val (.int .i64 a0.Phase)), .c (.val (.int .i64 a0.Epoch)), .c (.val (.int .i64 a0.Id)), .c (.val (.int .i64 a0.Len)), .c (.sl (List.map cI64 a0.Vector)), .c (.val (.int .i64 a0.Txn.Epoch)), .c (.val (.int .i64 a0.Txn.Id)), .c (.val (.int .i64 a0.Txn.Begin)), .c (.sl (List.map SRecord.cells a0.Txn.Records)), .c (.sl (List.map cI64 a0.Txn.Vector)), .c (.val (.int .i64 a0.Done)), .c (.val (.int .i64 a0.Left))] 30), (1, .box [.c (.val (.int .i64 a1.Epoch)), .c (.val (.int .i64 a1.Id)), .c (.val (.int .i64 a1.Begin)), .c (.sl (List.map SRecord.cells a1.Records)), .c (.sl (List.map cI64 a1.Vector))] 28), (2, .box [.c (.val (.int .i64 0)), .c (.val (.int .i64 0)), .c (.val (.int .i64 0)), .c (.val (.int .i64 0)), .c (.val (.slice none 0 0)), .c (.val (.int .i64 0)), .c (.val (.int .i64 0)), .c (.val (.int .i64 0)), .c (.val (.slice none 0 0)), .c (.val (.slice none 0 0)), .c (.val (.int .i64 0)), .c (.val (.int .i64 0))] 30), (3, .box [.c (.val (.int .i64 0)), .c (.val (.int .i64 0)), .c (.val (.int .i64 0)), .c (.val (.int .i64 0)), .c (.val (.int .i64 0)), .c (.val (.int .i64 0)), .c (.val (.slice none 0 0)), .c (.val (.slice none 0 0))] 48)], 4⟩ ?_ ?_
 ·skip
  simp only [EVB, eqF, Op.operands, IntKind.bits, descF, sizeF, bytesF, zeroF, seval, reduceCtorEq, ↓reduceIte]
  exact Weak.sub' ⟨rfl, rfl, rfl, rfl, trivial⟩ ⟨rfl, rfl, rfl, rfl, trivial⟩ (Nat.le_of_ble_eq_true rfl)
 ·skip
  refine go_seq ?_
  refine go_drawJ hR rfl ⟨[(2, .ptr 0 0), (3, .ptr 1 0), (4, .ptr 2 0), (5, .ptr 3 0)], [(0, .box [.c (.val (.int .i64 2)), .c (.val (.int .i64 a0.Epoch)), .c (.val (.int .i64 a0.Id)), .c (.val (.int .i64 a0.Len)), .c (.sl (List.map cI64 a0.Vector)), .c (.val (.int .i64 a1.Epoch)), .c (.val (.int .i64 a1.Id)), .c (.val (.int .i64 a1.Begin)), .c (.sl (List.map SRecord.cells a1.Records)), .c (.sl (List.map cI64 a1.Vector)), .c (.val (.int .i64 a0.Done)), .c (.val (.int .i64 a0.Left))] 30), (1, .box [.c (.val (.int .i64 a1.Epoch)), .c (.val (.int .i64 a1.Id)), .c (.val (.int .i64 a1.Begin)), .c (.sl (List.map SRecord.cells a1.Records)), .c (.sl (List.map cI64 a1.Vector))] 28), (2, .box [.c (.val (.int .i64 0)), .c (.val (.int .i64 0)), .c (.val (.int .i64 0)), .c (.val (.int .i64 0)), .c (.val (.slice none 0 0)), .c (.val (.int .i64 0)), .c (.val (.int .i64 0)), .c (.val (.int .i64 0)), .c (.val (.slice none 0 0)), .c (.val (.slice none 0 0)), .c (.val (.int .i64 0)), .c (.val (.int .i64 0))] 30), (3, .box [.c (.val (.int .i64 0)), .c (.val (.int .i64 0)), .c (.val (.int .i64 0)), .c (.val (.int .i64 0)), .c (.val (.int .i64 0)), .c (.val (.int .i64 0)), .c (.val (.slice none 0 0)), .c (.val (.slice none 0 0))] 48)], 4⟩ ?_ ?_
  ·skip
   simp only [EVB, eqF, Op.operands, IntKind.bits, descF, sizeF, bytesF, zeroF, seval, reduceCtorEq, ↓reduceIte]
   refine ⟨by kernel_rfl, ?_⟩
   exact Weak.sub' ⟨rfl, rfl, rfl, rfl, trivial⟩ ⟨rfl, rfl, rfl, rfl, trivial⟩ (Nat.le_of_ble_eq_true rfl)
  ·skip
   refine go_seq ?_
   obtain ⟨r1, hr1, hx0⟩ := letIn_ex hx0
   have Cr1 := (coord_txn_t a1 (by (try simp only [SZD]); (repeat' apply And.intro) <;> first | assumption | omega | simp_all))
   simp only [hr1] at Cr1
   have zr1 := coord_txn_sz a1 (by (try simp only [SZD]); (repeat' apply And.intro) <;> first | assumption | omega | simp_all)
   simp only [hr1, SZD] at zr1
   obtain ⟨zz7, zz8⟩ := zr1
   refine go_drawJ hR rfl ⟨[(4, .ptr 2 0), (5, .ptr 3 0)], [(2, .box [.c (.val (.int .i64 2)), .c (.val (.int .i64 a0.Epoch)), .c (.val (.int .i64 a0.Id)), .c (.val (.int .i64 a0.Len)), .c (.sl (List.map cI64 a0.Vector)), .c (.val (.int .i64 a1.Epoch)), .c (.val (.int .i64 a1.Id)), .c (.val (.int .i64 a1.Begin)), .c (.sl (List.map SRecord.cells a1.Records)), .c (.sl (List.map cI64 a1.Vector)), .c (.val (.int .i64 a0.Done)), .c (.val (.int .i64 a0.Left))] 30), (3, .box [.c (.val (.int .i64 3)), .c (.val (.int .i64 a0.Id)), .c (.val (.int .i64 0)), .c (.val (.int .i64 r1.Epoch)), .c (.val (.int .i64 r1.Id)), .c (.val (.int .i64 r1.Begin)), .c (.sl (List.map SRecord.cells r1.Records)), .c (.sl (List.map cI64 r1.Vector))] 48)], 4⟩ ?_ ?_
   ·skip
    simp only [EVB, eqF, Op.operands, IntKind.bits, descF, sizeF, bytesF, zeroF, seval, reduceCtorEq, ↓reduceIte]
    refine CallD.fresh Cr1.toO rfl (by first | rfl | (simp only [NM]; done)) (by (repeat' apply And.intro) <;> first | trivial | rfl | omega | (simp only [NM]; omega)) (.inl rfl) ?_
    try simp only [EVB, eqF, Op.operands, IntKind.bits, descF, sizeF, bytesF, zeroF, seval, reduceCtorEq, ↓reduceIte]
    refine ⟨by kernel_rfl, ?_⟩
    exact Weak.sub' ⟨rfl, rfl, trivial⟩ ⟨rfl, rfl, trivial⟩ (Nat.le_of_ble_eq_true rfl)
   ·skip
    subst hx0
    refine go_return ttOk (fun _ h => h) rfl ?_ ?_
    ·exact (by (repeat' apply And.intro) <;> first | trivial | exact Nat.le_of_ble_eq_true rfl | omega | (simp only [NM]; omega))
    ·first | rfl | (simp only [NM, CELLS] <;> rfl)
theorem coord_pre_sz (a0 : SCoord) (a1 : STxn) (z0 : SCoord.Sz a0) (z1 : STxn.Sz a1) : SCoord.Sz ((coord_pre a0 a1).1) ∧ SDo.Sz ((coord_pre a0 a1).2) := by
 obtain ⟨res, hx0⟩ : ∃ r, coord_pre a0 a1 = r := ⟨_, rfl⟩
 simp only [hx0]
 unfold coord_pre at hx0
 try simp only [SZD] at z0 z1
 obtain ⟨zz9, ⟨zz10, zz11⟩⟩ := z0
 obtain ⟨zz12, zz13⟩ := z1
 obtain ⟨r1, hr1, hx0⟩ := letIn_ex hx0
 have zr1 := coord_txn_sz a1 (by (try simp only [SZD]); (repeat' apply And.intro) <;> first | assumption | omega | simp_all)
 simp only [hr1, SZD] at zr1
 obtain ⟨zz14, zz15⟩ := zr1
 subst hx0
 exact (by (try simp only [SZD]); (repeat' apply And.intro) <;> first | assumption | omega | simp_all)
end Go.Ab.Try
