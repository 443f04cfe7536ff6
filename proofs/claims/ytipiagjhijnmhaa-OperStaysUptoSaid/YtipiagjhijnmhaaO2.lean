/-
  Functions, and what they compute: printed by wg.py, a program of this work.
-/
import Derived.Test.YtipiagjhijnmhaaO0
import Derived.Test.YtipiagjhijnmhaaO1
import Derived.Test.YtipiagjhijnmhaaH2
set_option linter.unusedVariables false
set_option linter.unusedSimpArgs false
namespace Go.Ab.Try
open Go Go.Proofs Go.Ab

def oper_Step (a0 : SOp) (a1 : SOpState) (a2 : SRecord) : SOpState × (List SPut) :=
  letIn ((bif (a0.Kind == 2) then (a0.Kind == 2) else (a0.Kind == 4))) fun o1 => (bif o1 then letIn (oper_Clone a1) fun r4 => letIn (oper_Value a0 a2) fun r5 => (r4, [(SPut.mk 0 r5)]) else (bif (a0.Kind == 3) then (bif (!(oper_Holds a0 a2)) then letIn (oper_Clone a1) fun r8 => (r8, []) else letIn (oper_Clone a1) fun r9 => (r9, [(SPut.mk 0 a2)])) else letIn ((bif (a0.Kind == 1) then (a0.Kind == 1) else (a0.Kind == 8))) fun o10 => (bif o10 then letIn (oper_Clone a1) fun r13 => (r13, [(SPut.mk 0 a2)]) else (bif (a0.Kind == 7) then letIn (oper_Clone a1) fun r15 => (r15, [(SPut.mk (oper_rest a2.Key a0.Arg) a2)]) else letIn ((bif (a0.Kind == 5) then (a0.Kind == 5) else (a0.Kind == 6))) fun o16 => (bif o16 then letIn (oper_fold a0 a1 a2) fun r19 => (r19.1, r19.2) else letIn (oper_Clone a1) fun r20 => (r20, []))))))
set_option maxRecDepth 10000 in
set_option maxHeartbeats 8000000 in
theorem oper_Step_t (a0 : SOp) (a1 : SOpState) (a2 : SRecord) (z0 : SOp.Sz a0) (z1 : a1.Keys.length ≤ 1000000000) : FnP Try.prog 26 [.agg (SOp.avs a0), .agg (SOpState.avs a1), .agg (SRecord.avs a2)] (.tup [.agg (SOpState.avs ((oper_Step a0 a1 a2).1)), (sL SPut.cells ((oper_Step a0 a1 a2).2))]) := by
 refine FnP.intro (tt := tt) Try.func26 rfl (by kernel_rfl) (by simp [Try.ntmps26]) fun w0 A hA => ?_
 have hR := reckB_ok eqOk ttOk
 obtain ⟨res, hx0⟩ : ∃ r, oper_Step a0 a1 a2 = r := ⟨_, rfl⟩
 simp only [hx0]
 unfold oper_Step at hx0
 simp only [argT, Try.ntmps26]
 try simp only [SZD] at z0 z1
 refine go_seq ?_
 refine go_regionJ hR ⟨[(3, .ptr 0 0), (4, .ptr 1 0), (5, .ptr 2 0), (6, .ptr 3 0)], [(0, .box (SOp.avs a0) 57), (1, .box (SOpState.avs a1) 60), (2, .box (SRecord.avs a2) 68), (3, .box [nS, (iV 0)] 60)], 4⟩ ?_ ?_
 ·skip
  simp only [AVS, bits_i64, EVB, eqF, Op.operands, IntKind.bits, descF, sizeF, bytesF, zeroF, seval, reduceCtorEq, ↓reduceIte]
  exact Weak.sub' ⟨rfl, rfl, rfl, rfl, trivial⟩ ⟨rfl, rfl, rfl, rfl, trivial⟩ (Nat.le_of_ble_eq_true rfl)
 ·skip
  refine go_seq ?_
  refine go_seq ?_
  refine go_regionJ hR ⟨[(3, .ptr 0 0), (4, .ptr 1 0), (5, .ptr 2 0), (6, .ptr 3 0), (9, (iV a0.Kind))], [(0, .box (SOp.avs a0) 57), (1, .box (SOpState.avs a1) 60), (2, .box (SRecord.avs a2) 68), (3, .box [nS, (iV 0)] 60)], 4⟩ ?_ ?_
  ·skip
   simp only [AVS, bits_i64, EVB, eqF, Op.operands, IntKind.bits, descF, sizeF, bytesF, zeroF, seval, reduceCtorEq, ↓reduceIte]
   exact Weak.sub' ⟨rfl, rfl, rfl, rfl, rfl, trivial⟩ ⟨rfl, rfl, rfl, rfl, trivial⟩ (Nat.le_of_ble_eq_true rfl)
  ·skip
   refine go_block ?_
   refine go_seq ?_
   refine go_seq ?_
   refine go_regionJ hR ⟨[(3, .ptr 0 0), (4, .ptr 1 0), (5, .ptr 2 0), (6, .ptr 3 0), (9, (iV a0.Kind)), (10, (bo (a0.Kind == 2)))], [(0, .box (SOp.avs a0) 57), (1, .box (SOpState.avs a1) 60), (2, .box (SRecord.avs a2) 68), (3, .box [nS, (iV 0)] 60)], 4⟩ ?_ ?_
   ·skip
    simp only [AVS, bits_i64, EVB, eqF, Op.operands, IntKind.bits, descF, sizeF, bytesF, zeroF, seval, reduceCtorEq, ↓reduceIte]
    exact Weak.sub' ⟨rfl, rfl, rfl, rfl, rfl, rfl, trivial⟩ ⟨rfl, rfl, rfl, rfl, trivial⟩ (Nat.le_of_ble_eq_true rfl)
   ·skip
    obtain ⟨o1, hx1, hx0⟩ := letIn_ex hx0
    refine go_joinE (fun p : Bool => ⟨[(3, .ptr 0 0), (4, .ptr 1 0), (5, .ptr 2 0), (6, .ptr 3 0), (9, (iV a0.Kind)), (10, (bo p))], [(0, .box (SOp.avs a0) 57), (1, .box (SOpState.avs a1) 60), (2, .box (SRecord.avs a2) 68), (3, .box [(sL SKeyState.cells []), (iV 0)] 60)], 4⟩) (fun p : Bool => o1 = p) ?_ ?_
    ·refine go_cond (by rfl) (fun h2 => ?_) (fun h2 => ?_)
     ·have gh2 := h2
      try simp only [GN, beq_iff_eq, beq_eq_false_iff_ne, bne_iff_ne, bne_eq_false_iff_eq] at gh2
      simp only [h2, cond_true, cond_false] at hx1
      refine go_skip ?_
      exact go_fin ⟨(a0.Kind == 2), (by first | exact hx1.symm | (rw [← hx1]; symm; assumption)), (Weak.canon [0, 1, 2, 3] [3, 4, 5, 6, 9, 10] (by decide) rfl (by simp) rfl (by simp) (by first | rfl | (simp only [NM, CELLS] <;> rfl) | simp [NM, CELLS]) (by first | rfl | (simp only [NM, CELLS] <;> rfl) | simp [NM, CELLS]) rfl)⟩
     ·have gh2 := h2
      try simp only [GN, beq_iff_eq, beq_eq_false_iff_ne, bne_iff_ne, bne_eq_false_iff_eq] at gh2
      simp only [h2, cond_true, cond_false] at hx1
      refine go_regionJ hR ⟨[(3, .ptr 0 0), (4, .ptr 1 0), (5, .ptr 2 0), (6, .ptr 3 0), (9, (iV a0.Kind)), (10, (bo (a0.Kind == 4)))], [(0, .box (SOp.avs a0) 57), (1, .box (SOpState.avs a1) 60), (2, .box (SRecord.avs a2) 68), (3, .box [nS, (iV 0)] 60)], 4⟩ ?_ ?_
      ·skip
       simp only [AVS, bits_i64, EVB, eqF, Op.operands, IntKind.bits, descF, sizeF, bytesF, zeroF, seval, reduceCtorEq, ↓reduceIte]
       exact Weak.sub' ⟨rfl, rfl, rfl, rfl, rfl, rfl, trivial⟩ ⟨rfl, rfl, rfl, rfl, trivial⟩ (Nat.le_of_ble_eq_true rfl)
      ·skip
       exact go_fin ⟨(a0.Kind == 4), (by first | exact hx1.symm | (rw [← hx1]; symm; assumption)), (Weak.canon [0, 1, 2, 3] [3, 4, 5, 6, 9, 10] (by decide) rfl (by simp) rfl (by simp) (by first | rfl | (simp only [NM, CELLS] <;> rfl) | simp [NM, CELLS]) (by first | rfl | (simp only [NM, CELLS] <;> rfl) | simp [NM, CELLS]) rfl)⟩
    ·rintro o1_ hp
     try dsimp only at hp
     subst hp
     refine go_cond (by rfl) (fun h3 => ?_) (fun h3 => ?_)
     ·have gh3 := h3
      try simp only [GN, beq_iff_eq, beq_eq_false_iff_ne, bne_iff_ne, bne_eq_false_iff_eq] at gh3
      simp only [h3, cond_true, cond_false] at hx0
      refine go_seq ?_
      obtain ⟨r4, hr4, hx0⟩ := letIn_ex hx0
      have Cr4 := (oper_Clone_t a1 (by (try simp only [SZD]); (repeat' apply And.intro) <;> first | assumption | omega | simp_all))
      simp only [hr4] at Cr4
      have zr4 := oper_Clone_sz a1 (by (try simp only [SZD]); (repeat' apply And.intro) <;> first | assumption | omega | simp_all)
      simp only [hr4, SZD] at zr4
      obtain ⟨r5, hr5, hx0⟩ := letIn_ex hx0
      have Cr5 := (oper_Value_t a0 a2)
      simp only [hr5] at Cr5
      refine go_drawJ hR rfl ⟨[(6, .ptr 3 0), (7, .own 4 3 0 1)], [(3, .box (SOpState.avs r4) 60), (4, .acc 3 (List.map SPut.cells [(SPut.mk 0 r5)]) 70)], 5⟩ ?_ ?_
      ·skip
       simp only [AVS, bits_i64, EVB, eqF, Op.operands, IntKind.bits, descF, sizeF, bytesF, zeroF, seval, reduceCtorEq, ↓reduceIte]
       refine CallD.fresh Cr4.toO rfl (by first | rfl | (simp only [NM]; done)) (by (repeat' apply And.intro) <;> first | trivial | rfl | omega | (simp only [NM]; omega)) (.inl rfl) ?_
       try simp only [AVS, bits_i64, EVB, eqF, Op.operands, IntKind.bits, descF, sizeF, bytesF, zeroF, seval, reduceCtorEq, ↓reduceIte]
       refine CallD.fresh Cr5.toO rfl (by first | rfl | (simp only [NM]; done)) (by (repeat' apply And.intro) <;> first | trivial | rfl | omega | (simp only [NM]; omega)) (.inl rfl) ?_
       try simp only [AVS, bits_i64, EVB, eqF, Op.operands, IntKind.bits, descF, sizeF, bytesF, zeroF, seval, reduceCtorEq, ↓reduceIte]
       refine ⟨(by (repeat' apply And.intro) <;> first | trivial | rfl | exact Nat.le_of_ble_eq_true rfl | omega | (intro u hu; obtain ⟨x, _, rfl⟩ := List.mem_map.1 hu; rfl) | (intro u hu; simp only [List.mem_cons, List.not_mem_nil, or_false] at hu; subst hu; rfl) | (simp only [NM]; omega) | (simp; done)), ?_⟩
       refine ⟨by kernel_rfl, ?_⟩
       try simp only [BM, NM, CELLS]
       exact Weak.sub' ⟨rfl, rfl, trivial⟩ ⟨rfl, rfl, trivial⟩ (Nat.le_of_ble_eq_true rfl)
      ·skip
       subst hx0
       refine go_return ttOk (fun _ h => h) rfl ?_ ?_
       ·exact (by (repeat' apply And.intro) <;> first | trivial | exact Nat.le_of_ble_eq_true rfl | omega | (simp only [NM]; omega))
       ·first | rfl | (simp only [NM, CELLS] <;> rfl)
     ·have gh3 := h3
      try simp only [GN, beq_iff_eq, beq_eq_false_iff_ne, bne_iff_ne, bne_eq_false_iff_eq] at gh3
      simp only [h3, cond_true, cond_false] at hx0
      refine go_seq ?_
      refine go_regionJ hR ⟨[(3, .ptr 0 0), (4, .ptr 1 0), (5, .ptr 2 0), (6, .ptr 3 0), (9, (iV a0.Kind)), (20, (bo (a0.Kind == 3)))], [(0, .box (SOp.avs a0) 57), (1, .box (SOpState.avs a1) 60), (2, .box (SRecord.avs a2) 68), (3, .box [(sL SKeyState.cells []), (iV 0)] 60)], 4⟩ ?_ ?_
      ·skip
       simp only [AVS, bits_i64, EVB, eqF, Op.operands, IntKind.bits, descF, sizeF, bytesF, zeroF, seval, reduceCtorEq, ↓reduceIte]
       exact Weak.sub' ⟨rfl, rfl, rfl, rfl, rfl, rfl, trivial⟩ ⟨rfl, rfl, rfl, rfl, trivial⟩ (Nat.le_of_ble_eq_true rfl)
      ·skip
       refine go_cond (by rfl) (fun h6 => ?_) (fun h6 => ?_)
       ·have gh6 := h6
        try simp only [GN, beq_iff_eq, beq_eq_false_iff_ne, bne_iff_ne, bne_eq_false_iff_eq] at gh6
        simp only [h6, cond_true, cond_false] at hx0
        refine go_seq ?_
        refine go_seq ?_
        refine go_regionJ hR ⟨[(4, .ptr 1 0), (5, .ptr 2 0), (6, .ptr 3 0), (25, (bo (!(oper_Holds a0 a2))))], [(1, .box (SOpState.avs a1) 60), (2, .box (SRecord.avs a2) 68), (3, .box [(sL SKeyState.cells []), (iV 0)] 60)], 4⟩ ?_ ?_
        ·skip
         simp only [AVS, bits_i64, EVB, eqF, Op.operands, IntKind.bits, descF, sizeF, bytesF, zeroF, seval, reduceCtorEq, ↓reduceIte]
         refine CallK.freshE (oper_Holds_t a0 a2).toO rfl (by first | rfl | (simp only [NM]; done) | (simp only [AVS, NM]; done)) (by (repeat' apply And.intro) <;> first | trivial | rfl | omega | (simp only [NM]; omega)) (.inl rfl) (by exact Nat.le_of_ble_eq_true rfl) ?_
         try simp only [AVS, bits_i64, EVB, eqF, Op.operands, IntKind.bits, descF, sizeF, bytesF, zeroF, seval, reduceCtorEq, ↓reduceIte]
         exact Weak.sub' ⟨rfl, rfl, rfl, rfl, trivial⟩ ⟨rfl, rfl, rfl, trivial⟩ (Nat.le_of_ble_eq_true rfl)
        ·skip
         refine go_cond (by rfl) (fun h7 => ?_) (fun h7 => ?_)
         ·have gh7 := h7
          try simp only [GN, beq_iff_eq, beq_eq_false_iff_ne, bne_iff_ne, bne_eq_false_iff_eq] at gh7
          simp only [h7, cond_true, cond_false] at hx0
          refine go_seq ?_
          obtain ⟨r8, hr8, hx0⟩ := letIn_ex hx0
          have Cr8 := (oper_Clone_t a1 (by (try simp only [SZD]); (repeat' apply And.intro) <;> first | assumption | omega | simp_all))
          simp only [hr8] at Cr8
          have zr8 := oper_Clone_sz a1 (by (try simp only [SZD]); (repeat' apply And.intro) <;> first | assumption | omega | simp_all)
          simp only [hr8, SZD] at zr8
          refine go_regionJ hR ⟨[(6, .ptr 3 0), (7, nS)], [(3, .box (SOpState.avs r8) 60)], 4⟩ ?_ ?_
          ·skip
           simp only [AVS, bits_i64, EVB, eqF, Op.operands, IntKind.bits, descF, sizeF, bytesF, zeroF, seval, reduceCtorEq, ↓reduceIte]
           refine CallK.freshE Cr8.toO rfl (by first | rfl | (simp only [NM]; done) | (simp only [AVS, NM]; done)) (by (repeat' apply And.intro) <;> first | trivial | rfl | omega | (simp only [NM]; omega)) (.inl rfl) (by exact Nat.le_of_ble_eq_true rfl) ?_
           try simp only [AVS, bits_i64, EVB, eqF, Op.operands, IntKind.bits, descF, sizeF, bytesF, zeroF, seval, reduceCtorEq, ↓reduceIte]
           exact Weak.sub' ⟨rfl, rfl, trivial⟩ ⟨rfl, trivial⟩ (Nat.le_of_ble_eq_true rfl)
          ·skip
           subst hx0
           refine go_return ttOk (fun _ h => h) rfl ?_ ?_
           ·exact (by (repeat' apply And.intro) <;> first | trivial | exact Nat.le_of_ble_eq_true rfl | omega | (simp only [NM]; omega))
           ·first | rfl | (simp only [NM, CELLS] <;> rfl)
         ·have gh7 := h7
          try simp only [GN, beq_iff_eq, beq_eq_false_iff_ne, bne_iff_ne, bne_eq_false_iff_eq] at gh7
          simp only [h7, cond_true, cond_false] at hx0
          refine go_skip ?_
          refine go_seq ?_
          obtain ⟨r9, hr9, hx0⟩ := letIn_ex hx0
          have Cr9 := (oper_Clone_t a1 (by (try simp only [SZD]); (repeat' apply And.intro) <;> first | assumption | omega | simp_all))
          simp only [hr9] at Cr9
          have zr9 := oper_Clone_sz a1 (by (try simp only [SZD]); (repeat' apply And.intro) <;> first | assumption | omega | simp_all)
          simp only [hr9, SZD] at zr9
          refine go_drawJ hR rfl ⟨[(6, .ptr 3 0), (7, .own 4 3 0 1)], [(3, .box (SOpState.avs r9) 60), (4, .acc 3 (List.map SPut.cells [(SPut.mk 0 a2)]) 70)], 5⟩ ?_ ?_
          ·skip
           simp only [AVS, bits_i64, EVB, eqF, Op.operands, IntKind.bits, descF, sizeF, bytesF, zeroF, seval, reduceCtorEq, ↓reduceIte]
           refine CallD.fresh Cr9.toO rfl (by first | rfl | (simp only [NM]; done)) (by (repeat' apply And.intro) <;> first | trivial | rfl | omega | (simp only [NM]; omega)) (.inl rfl) ?_
           try simp only [AVS, bits_i64, EVB, eqF, Op.operands, IntKind.bits, descF, sizeF, bytesF, zeroF, seval, reduceCtorEq, ↓reduceIte]
           refine ⟨(by (repeat' apply And.intro) <;> first | trivial | rfl | exact Nat.le_of_ble_eq_true rfl | omega | (intro u hu; obtain ⟨x, _, rfl⟩ := List.mem_map.1 hu; rfl) | (intro u hu; simp only [List.mem_cons, List.not_mem_nil, or_false] at hu; subst hu; rfl) | (simp only [NM]; omega) | (simp; done)), ?_⟩
           refine ⟨by kernel_rfl, ?_⟩
           try simp only [BM, NM, CELLS]
           exact Weak.sub' ⟨rfl, rfl, trivial⟩ ⟨rfl, rfl, trivial⟩ (Nat.le_of_ble_eq_true rfl)
          ·skip
           subst hx0
           refine go_return ttOk (fun _ h => h) rfl ?_ ?_
           ·exact (by (repeat' apply And.intro) <;> first | trivial | exact Nat.le_of_ble_eq_true rfl | omega | (simp only [NM]; omega))
           ·first | rfl | (simp only [NM, CELLS] <;> rfl)
       ·have gh6 := h6
        try simp only [GN, beq_iff_eq, beq_eq_false_iff_ne, bne_iff_ne, bne_eq_false_iff_eq] at gh6
        simp only [h6, cond_true, cond_false] at hx0
        refine go_seq ?_
        refine go_seq ?_
        refine go_regionJ hR ⟨[(3, .ptr 0 0), (4, .ptr 1 0), (5, .ptr 2 0), (6, .ptr 3 0), (9, (iV a0.Kind)), (33, (bo (a0.Kind == 1)))], [(0, .box (SOp.avs a0) 57), (1, .box (SOpState.avs a1) 60), (2, .box (SRecord.avs a2) 68), (3, .box [(sL SKeyState.cells []), (iV 0)] 60)], 4⟩ ?_ ?_
        ·skip
         simp only [AVS, bits_i64, EVB, eqF, Op.operands, IntKind.bits, descF, sizeF, bytesF, zeroF, seval, reduceCtorEq, ↓reduceIte]
         exact Weak.sub' ⟨rfl, rfl, rfl, rfl, rfl, rfl, trivial⟩ ⟨rfl, rfl, rfl, rfl, trivial⟩ (Nat.le_of_ble_eq_true rfl)
        ·skip
         obtain ⟨o10, hx1, hx0⟩ := letIn_ex hx0
         refine go_joinE (fun p : Bool => ⟨[(3, .ptr 0 0), (4, .ptr 1 0), (5, .ptr 2 0), (6, .ptr 3 0), (9, (iV a0.Kind)), (33, (bo p))], [(0, .box (SOp.avs a0) 57), (1, .box (SOpState.avs a1) 60), (2, .box (SRecord.avs a2) 68), (3, .box [(sL SKeyState.cells []), (iV 0)] 60)], 4⟩) (fun p : Bool => o10 = p) ?_ ?_
         ·refine go_cond (by rfl) (fun h11 => ?_) (fun h11 => ?_)
          ·have gh11 := h11
           try simp only [GN, beq_iff_eq, beq_eq_false_iff_ne, bne_iff_ne, bne_eq_false_iff_eq] at gh11
           simp only [h11, cond_true, cond_false] at hx1
           refine go_skip ?_
           exact go_fin ⟨(a0.Kind == 1), (by first | exact hx1.symm | (rw [← hx1]; symm; assumption)), (Weak.canon [0, 1, 2, 3] [3, 4, 5, 6, 9, 33] (by decide) rfl (by simp) rfl (by simp) (by first | rfl | (simp only [NM, CELLS] <;> rfl) | simp [NM, CELLS]) (by first | rfl | (simp only [NM, CELLS] <;> rfl) | simp [NM, CELLS]) rfl)⟩
          ·have gh11 := h11
           try simp only [GN, beq_iff_eq, beq_eq_false_iff_ne, bne_iff_ne, bne_eq_false_iff_eq] at gh11
           simp only [h11, cond_true, cond_false] at hx1
           refine go_regionJ hR ⟨[(3, .ptr 0 0), (4, .ptr 1 0), (5, .ptr 2 0), (6, .ptr 3 0), (9, (iV a0.Kind)), (33, (bo (a0.Kind == 8)))], [(0, .box (SOp.avs a0) 57), (1, .box (SOpState.avs a1) 60), (2, .box (SRecord.avs a2) 68), (3, .box [(sL SKeyState.cells []), (iV 0)] 60)], 4⟩ ?_ ?_
           ·skip
            simp only [AVS, bits_i64, EVB, eqF, Op.operands, IntKind.bits, descF, sizeF, bytesF, zeroF, seval, reduceCtorEq, ↓reduceIte]
            exact Weak.sub' ⟨rfl, rfl, rfl, rfl, rfl, rfl, trivial⟩ ⟨rfl, rfl, rfl, rfl, trivial⟩ (Nat.le_of_ble_eq_true rfl)
           ·skip
            exact go_fin ⟨(a0.Kind == 8), (by first | exact hx1.symm | (rw [← hx1]; symm; assumption)), (Weak.canon [0, 1, 2, 3] [3, 4, 5, 6, 9, 33] (by decide) rfl (by simp) rfl (by simp) (by first | rfl | (simp only [NM, CELLS] <;> rfl) | simp [NM, CELLS]) (by first | rfl | (simp only [NM, CELLS] <;> rfl) | simp [NM, CELLS]) rfl)⟩
         ·rintro o10_ hp
          try dsimp only at hp
          subst hp
          refine go_cond (by rfl) (fun h12 => ?_) (fun h12 => ?_)
          ·have gh12 := h12
           try simp only [GN, beq_iff_eq, beq_eq_false_iff_ne, bne_iff_ne, bne_eq_false_iff_eq] at gh12
           simp only [h12, cond_true, cond_false] at hx0
           refine go_seq ?_
           obtain ⟨r13, hr13, hx0⟩ := letIn_ex hx0
           have Cr13 := (oper_Clone_t a1 (by (try simp only [SZD]); (repeat' apply And.intro) <;> first | assumption | omega | simp_all))
           simp only [hr13] at Cr13
           have zr13 := oper_Clone_sz a1 (by (try simp only [SZD]); (repeat' apply And.intro) <;> first | assumption | omega | simp_all)
           simp only [hr13, SZD] at zr13
           refine go_drawJ hR rfl ⟨[(6, .ptr 3 0), (7, .own 4 3 0 1)], [(3, .box (SOpState.avs r13) 60), (4, .acc 3 (List.map SPut.cells [(SPut.mk 0 a2)]) 70)], 5⟩ ?_ ?_
           ·skip
            simp only [AVS, bits_i64, EVB, eqF, Op.operands, IntKind.bits, descF, sizeF, bytesF, zeroF, seval, reduceCtorEq, ↓reduceIte]
            refine CallD.fresh Cr13.toO rfl (by first | rfl | (simp only [NM]; done)) (by (repeat' apply And.intro) <;> first | trivial | rfl | omega | (simp only [NM]; omega)) (.inl rfl) ?_
            try simp only [AVS, bits_i64, EVB, eqF, Op.operands, IntKind.bits, descF, sizeF, bytesF, zeroF, seval, reduceCtorEq, ↓reduceIte]
            refine ⟨(by (repeat' apply And.intro) <;> first | trivial | rfl | exact Nat.le_of_ble_eq_true rfl | omega | (intro u hu; obtain ⟨x, _, rfl⟩ := List.mem_map.1 hu; rfl) | (intro u hu; simp only [List.mem_cons, List.not_mem_nil, or_false] at hu; subst hu; rfl) | (simp only [NM]; omega) | (simp; done)), ?_⟩
            refine ⟨by kernel_rfl, ?_⟩
            try simp only [BM, NM, CELLS]
            exact Weak.sub' ⟨rfl, rfl, trivial⟩ ⟨rfl, rfl, trivial⟩ (Nat.le_of_ble_eq_true rfl)
           ·skip
            subst hx0
            refine go_return ttOk (fun _ h => h) rfl ?_ ?_
            ·exact (by (repeat' apply And.intro) <;> first | trivial | exact Nat.le_of_ble_eq_true rfl | omega | (simp only [NM]; omega))
            ·first | rfl | (simp only [NM, CELLS] <;> rfl)
          ·have gh12 := h12
           try simp only [GN, beq_iff_eq, beq_eq_false_iff_ne, bne_iff_ne, bne_eq_false_iff_eq] at gh12
           simp only [h12, cond_true, cond_false] at hx0
           refine go_seq ?_
           refine go_regionJ hR ⟨[(3, .ptr 0 0), (4, .ptr 1 0), (5, .ptr 2 0), (6, .ptr 3 0), (9, (iV a0.Kind)), (41, (bo (a0.Kind == 7)))], [(0, .box (SOp.avs a0) 57), (1, .box (SOpState.avs a1) 60), (2, .box (SRecord.avs a2) 68), (3, .box [(sL SKeyState.cells []), (iV 0)] 60)], 4⟩ ?_ ?_
           ·skip
            simp only [AVS, bits_i64, EVB, eqF, Op.operands, IntKind.bits, descF, sizeF, bytesF, zeroF, seval, reduceCtorEq, ↓reduceIte]
            exact Weak.sub' ⟨rfl, rfl, rfl, rfl, rfl, rfl, trivial⟩ ⟨rfl, rfl, rfl, rfl, trivial⟩ (Nat.le_of_ble_eq_true rfl)
           ·skip
            refine go_cond (by rfl) (fun h14 => ?_) (fun h14 => ?_)
            ·have gh14 := h14
             try simp only [GN, beq_iff_eq, beq_eq_false_iff_ne, bne_iff_ne, bne_eq_false_iff_eq] at gh14
             simp only [h14, cond_true, cond_false] at hx0
             refine go_seq ?_
             obtain ⟨r15, hr15, hx0⟩ := letIn_ex hx0
             have Cr15 := (oper_Clone_t a1 (by (try simp only [SZD]); (repeat' apply And.intro) <;> first | assumption | omega | simp_all))
             simp only [hr15] at Cr15
             have zr15 := oper_Clone_sz a1 (by (try simp only [SZD]); (repeat' apply And.intro) <;> first | assumption | omega | simp_all)
             simp only [hr15, SZD] at zr15
             refine go_drawJ hR rfl ⟨[(6, .ptr 3 0), (7, .own 4 3 0 1)], [(3, .box (SOpState.avs r15) 60), (4, .acc 3 (List.map SPut.cells [(SPut.mk (oper_rest a2.Key a0.Arg) a2)]) 70)], 5⟩ ?_ ?_
             ·skip
              simp only [AVS, bits_i64, EVB, eqF, Op.operands, IntKind.bits, descF, sizeF, bytesF, zeroF, seval, reduceCtorEq, ↓reduceIte]
              refine CallD.fresh Cr15.toO rfl (by first | rfl | (simp only [NM]; done)) (by (repeat' apply And.intro) <;> first | trivial | rfl | omega | (simp only [NM]; omega)) (.inl rfl) ?_
              try simp only [AVS, bits_i64, EVB, eqF, Op.operands, IntKind.bits, descF, sizeF, bytesF, zeroF, seval, reduceCtorEq, ↓reduceIte]
              refine CallD.fresh (oper_rest_t a2.Key a0.Arg).toO rfl (by first | rfl | (simp only [NM]; done)) (by (repeat' apply And.intro) <;> first | trivial | rfl | omega | (simp only [NM]; omega)) (.inl rfl) ?_
              try simp only [AVS, bits_i64, EVB, eqF, Op.operands, IntKind.bits, descF, sizeF, bytesF, zeroF, seval, reduceCtorEq, ↓reduceIte]
              refine ⟨(by (repeat' apply And.intro) <;> first | trivial | rfl | exact Nat.le_of_ble_eq_true rfl | omega | (intro u hu; obtain ⟨x, _, rfl⟩ := List.mem_map.1 hu; rfl) | (intro u hu; simp only [List.mem_cons, List.not_mem_nil, or_false] at hu; subst hu; rfl) | (simp only [NM]; omega) | (simp; done)), ?_⟩
              refine ⟨by kernel_rfl, ?_⟩
              try simp only [BM, NM, CELLS]
              exact Weak.sub' ⟨rfl, rfl, trivial⟩ ⟨rfl, rfl, trivial⟩ (Nat.le_of_ble_eq_true rfl)
             ·skip
              subst hx0
              refine go_return ttOk (fun _ h => h) rfl ?_ ?_
              ·exact (by (repeat' apply And.intro) <;> first | trivial | exact Nat.le_of_ble_eq_true rfl | omega | (simp only [NM]; omega))
              ·first | rfl | (simp only [NM, CELLS] <;> rfl)
            ·have gh14 := h14
             try simp only [GN, beq_iff_eq, beq_eq_false_iff_ne, bne_iff_ne, bne_eq_false_iff_eq] at gh14
             simp only [h14, cond_true, cond_false] at hx0
             refine go_seq ?_
             refine go_seq ?_
             refine go_regionJ hR ⟨[(3, .ptr 0 0), (4, .ptr 1 0), (5, .ptr 2 0), (6, .ptr 3 0), (9, (iV a0.Kind)), (53, (bo (a0.Kind == 5)))], [(0, .box (SOp.avs a0) 57), (1, .box (SOpState.avs a1) 60), (2, .box (SRecord.avs a2) 68), (3, .box [(sL SKeyState.cells []), (iV 0)] 60)], 4⟩ ?_ ?_
             ·skip
              simp only [AVS, bits_i64, EVB, eqF, Op.operands, IntKind.bits, descF, sizeF, bytesF, zeroF, seval, reduceCtorEq, ↓reduceIte]
              exact Weak.sub' ⟨rfl, rfl, rfl, rfl, rfl, rfl, trivial⟩ ⟨rfl, rfl, rfl, rfl, trivial⟩ (Nat.le_of_ble_eq_true rfl)
             ·skip
              obtain ⟨o16, hx1, hx0⟩ := letIn_ex hx0
              refine go_joinE (fun p : Bool => ⟨[(3, .ptr 0 0), (4, .ptr 1 0), (5, .ptr 2 0), (6, .ptr 3 0), (53, (bo p))], [(0, .box (SOp.avs a0) 57), (1, .box (SOpState.avs a1) 60), (2, .box (SRecord.avs a2) 68), (3, .box [(sL SKeyState.cells []), (iV 0)] 60)], 4⟩) (fun p : Bool => o16 = p) ?_ ?_
              ·refine go_cond (by rfl) (fun h17 => ?_) (fun h17 => ?_)
               ·have gh17 := h17
                try simp only [GN, beq_iff_eq, beq_eq_false_iff_ne, bne_iff_ne, bne_eq_false_iff_eq] at gh17
                simp only [h17, cond_true, cond_false] at hx1
                refine go_skip ?_
                exact go_fin ⟨(a0.Kind == 5), (by first | exact hx1.symm | (rw [← hx1]; symm; assumption)), (Weak.canon [0, 1, 2, 3] [3, 4, 5, 6, 53] (by decide) rfl (by simp) rfl (by simp) (by first | rfl | (simp only [NM, CELLS] <;> rfl) | simp [NM, CELLS]) (by first | rfl | (simp only [NM, CELLS] <;> rfl) | simp [NM, CELLS]) rfl)⟩
               ·have gh17 := h17
                try simp only [GN, beq_iff_eq, beq_eq_false_iff_ne, bne_iff_ne, bne_eq_false_iff_eq] at gh17
                simp only [h17, cond_true, cond_false] at hx1
                refine go_regionJ hR ⟨[(3, .ptr 0 0), (4, .ptr 1 0), (5, .ptr 2 0), (6, .ptr 3 0), (53, (bo (a0.Kind == 6)))], [(0, .box (SOp.avs a0) 57), (1, .box (SOpState.avs a1) 60), (2, .box (SRecord.avs a2) 68), (3, .box [(sL SKeyState.cells []), (iV 0)] 60)], 4⟩ ?_ ?_
                ·skip
                 simp only [AVS, bits_i64, EVB, eqF, Op.operands, IntKind.bits, descF, sizeF, bytesF, zeroF, seval, reduceCtorEq, ↓reduceIte]
                 exact Weak.sub' ⟨rfl, rfl, rfl, rfl, rfl, trivial⟩ ⟨rfl, rfl, rfl, rfl, trivial⟩ (Nat.le_of_ble_eq_true rfl)
                ·skip
                 exact go_fin ⟨(a0.Kind == 6), (by first | exact hx1.symm | (rw [← hx1]; symm; assumption)), (Weak.canon [0, 1, 2, 3] [3, 4, 5, 6, 53] (by decide) rfl (by simp) rfl (by simp) (by first | rfl | (simp only [NM, CELLS] <;> rfl) | simp [NM, CELLS]) (by first | rfl | (simp only [NM, CELLS] <;> rfl) | simp [NM, CELLS]) rfl)⟩
              ·rintro o16_ hp
               try dsimp only at hp
               subst hp
               refine go_cond (by rfl) (fun h18 => ?_) (fun h18 => ?_)
               ·have gh18 := h18
                try simp only [GN, beq_iff_eq, beq_eq_false_iff_ne, bne_iff_ne, bne_eq_false_iff_eq] at gh18
                simp only [h18, cond_true, cond_false] at hx0
                refine go_seq ?_
                obtain ⟨r19, hr19, hx0⟩ := letIn_ex hx0
                have Cr19 := (oper_fold_t a0 a1 a2 z1)
                simp only [hr19] at Cr19
                have zr19 := oper_fold_sz a0 a1 a2
                simp only [hr19, SZD] at zr19
                obtain ⟨zz28, zz29⟩ := zr19
                refine go_regionJ hR ⟨[(6, .ptr 3 0), (7, (sL SPut.cells r19.2))], [(3, .box (SOpState.avs r19.1) 60)], 4⟩ ?_ ?_
                ·skip
                 simp only [AVS, bits_i64, EVB, eqF, Op.operands, IntKind.bits, descF, sizeF, bytesF, zeroF, seval, reduceCtorEq, ↓reduceIte]
                 refine CallK.freshE Cr19.toO rfl (by first | rfl | (simp only [NM]; done) | (simp only [AVS, NM]; done)) (by (repeat' apply And.intro) <;> first | trivial | rfl | omega | (simp only [NM]; omega)) (.inl rfl) (by exact Nat.le_of_ble_eq_true rfl) ?_
                 try simp only [AVS, bits_i64, EVB, eqF, Op.operands, IntKind.bits, descF, sizeF, bytesF, zeroF, seval, reduceCtorEq, ↓reduceIte]
                 exact Weak.sub' ⟨rfl, rfl, trivial⟩ ⟨rfl, trivial⟩ (Nat.le_of_ble_eq_true rfl)
                ·skip
                 subst hx0
                 refine go_return ttOk (fun _ h => h) rfl ?_ ?_
                 ·exact (by (repeat' apply And.intro) <;> first | trivial | exact Nat.le_of_ble_eq_true rfl | omega | (simp only [NM]; omega))
                 ·first | rfl | (simp only [NM, CELLS] <;> rfl)
               ·have gh18 := h18
                try simp only [GN, beq_iff_eq, beq_eq_false_iff_ne, bne_iff_ne, bne_eq_false_iff_eq] at gh18
                simp only [h18, cond_true, cond_false] at hx0
                refine go_skip ?_
                refine go_blk ?_
                refine go_seq ?_
                obtain ⟨r20, hr20, hx0⟩ := letIn_ex hx0
                have Cr20 := (oper_Clone_t a1 (by (try simp only [SZD]); (repeat' apply And.intro) <;> first | assumption | omega | simp_all))
                simp only [hr20] at Cr20
                have zr20 := oper_Clone_sz a1 (by (try simp only [SZD]); (repeat' apply And.intro) <;> first | assumption | omega | simp_all)
                simp only [hr20, SZD] at zr20
                refine go_regionJ hR ⟨[(6, .ptr 3 0), (7, nS)], [(3, .box (SOpState.avs r20) 60)], 4⟩ ?_ ?_
                ·skip
                 simp only [AVS, bits_i64, EVB, eqF, Op.operands, IntKind.bits, descF, sizeF, bytesF, zeroF, seval, reduceCtorEq, ↓reduceIte]
                 refine CallK.freshE Cr20.toO rfl (by first | rfl | (simp only [NM]; done) | (simp only [AVS, NM]; done)) (by (repeat' apply And.intro) <;> first | trivial | rfl | omega | (simp only [NM]; omega)) (.inl rfl) (by exact Nat.le_of_ble_eq_true rfl) ?_
                 try simp only [AVS, bits_i64, EVB, eqF, Op.operands, IntKind.bits, descF, sizeF, bytesF, zeroF, seval, reduceCtorEq, ↓reduceIte]
                 exact Weak.sub' ⟨rfl, rfl, trivial⟩ ⟨rfl, trivial⟩ (Nat.le_of_ble_eq_true rfl)
                ·skip
                 subst hx0
                 refine go_return ttOk (fun _ h => h) rfl ?_ ?_
                 ·exact (by (repeat' apply And.intro) <;> first | trivial | exact Nat.le_of_ble_eq_true rfl | omega | (simp only [NM]; omega))
                 ·first | rfl | (simp only [NM, CELLS] <;> rfl)
theorem clone_id (a : SOpState) : oper_Clone a = a := rfl
theorem oper_Step_sz (a0 : SOp) (a1 : SOpState) (a2 : SRecord) : (oper_Step a0 a1 a2).1.Keys.length ≤ a1.Keys.length + 1 ∧ (oper_Step a0 a1 a2).2.length ≤ 1 := by
 have hf := oper_fold_sz a0 a1 a2
 simp only [oper_Step, letIn, clone_id, Bool.cond_eq_ite]
 repeat' split
 all_goals first | exact hf | exact ⟨Nat.le_succ _, Nat.le_refl _⟩ | exact ⟨Nat.le_succ _, Nat.zero_le _⟩

def oper_All_L0 (a0 : SOp) (a2 : (List SRecord)) (x6 : Nat) (x7 : List SKeyState) (x8 : Int) (x9 : List SPut) : (List SKeyState) × Int × (List SPut) :=
  (if h10 : (decide (((x6 : Nat) : Int) < ((a2.length : Nat) : Int))) = true then letIn (oper_Step a0 (SOpState.mk x7 x8) (List.getD a2 x6 default)) fun r11 => (oper_All_L0 a0 a2 (x6 + 1) r11.1.Keys r11.1.Turn (x9 ++ r11.2)) else (x7, x8, x9))
termination_by a2.length - x6
decreasing_by all_goals (try simp only [GN, beq_iff_eq, beq_eq_false_iff_ne, bne_iff_ne, bne_eq_false_iff_eq] at *) <;> omega
def oper_All (a0 : SOp) (a1 : SOpState) (a2 : (List SRecord)) : SOpState × (List SPut) :=
  letIn (oper_Clone a1) fun r1 => letIn (oper_All_L0 a0 a2 0 r1.Keys r1.Turn []) fun o2 => ((SOpState.mk o2.1 o2.2.1), o2.2.2)
set_option maxRecDepth 10000 in
set_option maxHeartbeats 8000000 in
theorem oper_All_t (a0 : SOp) (a1 : SOpState) (a2 : (List SRecord)) (z0 : SOp.Sz a0) (z1 : a1.Keys.length + a2.length ≤ 1000000000) (z2 : a2.length ≤ 4294967296) : FnP Try.prog 21 [.agg (SOp.avs a0), .agg (SOpState.avs a1), (sL SRecord.cells a2)] (.tup [.agg (SOpState.avs ((oper_All a0 a1 a2).1)), (sL SPut.cells ((oper_All a0 a1 a2).2))]) := by
 refine FnP.intro (tt := tt) Try.func21 rfl (by kernel_rfl) (by simp [Try.ntmps21]) fun w0 A hA => ?_
 have hR := reckB_ok eqOk ttOk
 obtain ⟨res, hx0⟩ : ∃ r, oper_All a0 a1 a2 = r := ⟨_, rfl⟩
 simp only [hx0]
 unfold oper_All at hx0
 simp only [argT, Try.ntmps21]
 try simp only [SZD] at z0 z1 z2
 refine go_seq ?_
 refine go_regionJ hR ⟨[(2, (sL SRecord.cells a2)), (3, .ptr 0 0), (4, .ptr 1 0), (6, .ptr 2 0)], [(0, .box (SOp.avs a0) 57), (1, .box (SOpState.avs a1) 60), (2, .box [nS, (iV 0)] 60)], 3⟩ ?_ ?_
 ·skip
  simp only [AVS, bits_i64, EVB, eqF, Op.operands, IntKind.bits, descF, sizeF, bytesF, zeroF, seval, reduceCtorEq, ↓reduceIte]
  exact Weak.sub' ⟨rfl, rfl, rfl, rfl, trivial⟩ ⟨rfl, rfl, rfl, trivial⟩ (Nat.le_of_ble_eq_true rfl)
 ·skip
  refine go_seq ?_
  obtain ⟨r1, hr1, hx0⟩ := letIn_ex hx0
  have Cr1 := (oper_Clone_t a1 (by (try simp only [SZD]); (repeat' apply And.intro) <;> first | assumption | omega | simp_all))
  simp only [hr1] at Cr1
  have zr1 := oper_Clone_sz a1 (by (try simp only [SZD]); (repeat' apply And.intro) <;> first | assumption | omega | simp_all)
  simp only [hr1, SZD] at zr1
  have zr1' : r1.Keys.length = a1.Keys.length := by rw [← hr1]; rfl
  refine go_regionJ hR ⟨[(2, (sL SRecord.cells a2)), (3, .ptr 0 0), (4, .ptr 1 0), (6, .ptr 2 0)], [(0, .box (SOp.avs a0) 57), (1, .box (SOpState.avs r1) 60), (2, .box [nS, (iV 0)] 60)], 3⟩ ?_ ?_
  ·skip
   simp only [AVS, bits_i64, EVB, eqF, Op.operands, IntKind.bits, descF, sizeF, bytesF, zeroF, seval, reduceCtorEq, ↓reduceIte]
   refine CallK.freshE Cr1.toO rfl (by first | rfl | (simp only [NM]; done) | (simp only [AVS, NM]; done)) (by (repeat' apply And.intro) <;> first | trivial | rfl | omega | (simp only [NM]; omega)) (.inl rfl) (by exact Nat.le_of_ble_eq_true rfl) ?_
   try simp only [AVS, bits_i64, EVB, eqF, Op.operands, IntKind.bits, descF, sizeF, bytesF, zeroF, seval, reduceCtorEq, ↓reduceIte]
   exact Weak.sub' ⟨rfl, rfl, rfl, rfl, trivial⟩ ⟨rfl, rfl, rfl, trivial⟩ (Nat.le_of_ble_eq_true rfl)
  ·skip
   refine go_seq ?_
   refine go_regionJ hR ⟨[(2, (sL SRecord.cells a2)), (3, .ptr 0 0), (4, .ptr 1 0), (6, .ptr 2 0), (8, nS)], [(0, .box (SOp.avs a0) 57), (1, .box (SOpState.avs r1) 60), (2, .box [nS, (iV 0)] 60)], 3⟩ ?_ ?_
   ·skip
    simp only [AVS, bits_i64, EVB, eqF, Op.operands, IntKind.bits, descF, sizeF, bytesF, zeroF, seval, reduceCtorEq, ↓reduceIte]
    exact Weak.sub' ⟨rfl, rfl, rfl, rfl, rfl, trivial⟩ ⟨rfl, rfl, rfl, trivial⟩ (Nat.le_of_ble_eq_true rfl)
   ·skip
    refine go_nilOwn 8 3 70 rfl ?_
    refine go_weak (s' := ⟨[(2, (sL SRecord.cells a2)), (3, .ptr 0 0), (4, .ptr 1 0), (6, .ptr 2 0), (8, .own 3 3 0 0)], [(0, .box (SOp.avs a0) 57), (1, .box (SOpState.avs r1) 60), (2, .box [nS, (iV 0)] 60), (3, .acc 3 (List.map SPut.cells []) 70)], 4⟩) (Weak.sub' (by repeat (first | exact trivial | refine ⟨rfl, ?_⟩)) (by repeat (first | exact trivial | refine ⟨rfl, ?_⟩)) (by exact Nat.le_of_ble_eq_true rfl)) ?_
    refine go_seq ?_
    refine go_seq ?_
    refine go_regionJ hR ⟨[(3, .ptr 0 0), (4, .ptr 1 0), (6, .ptr 2 0), (8, .own 3 3 0 0), (14, (sL SRecord.cells a2)), (15, (iV ((a2.length : Nat) : Int))), (16, (iV 0))], [(0, .box (SOp.avs a0) 57), (1, .box (SOpState.avs r1) 60), (2, .box [nS, (iV 0)] 60), (3, .acc 3 (List.map SPut.cells []) 70)], 4⟩ ?_ ?_
    ·skip
     simp only [AVS, bits_i64, EVB, eqF, Op.operands, IntKind.bits, descF, sizeF, bytesF, zeroF, seval, reduceCtorEq, ↓reduceIte]
     exact Weak.sub' ⟨rfl, rfl, rfl, rfl, rfl, rfl, rfl, trivial⟩ ⟨rfl, rfl, rfl, rfl, trivial⟩ (Nat.le_of_ble_eq_true rfl)
    ·skip
     obtain ⟨o2, hx1, hx0⟩ := letIn_ex hx0
     refine go_joinE (fun p : (List SKeyState) × Int × (List SPut) => ⟨[(4, .ptr 0 0), (6, .ptr 1 0), (8, .own 2 3 0 p.2.2.length)], [(0, .box [(sL SKeyState.cells p.1), (iV p.2.1)] 60), (1, .box [(sL SKeyState.cells []), (iV 0)] 60), (2, .acc 3 (List.map SPut.cells p.2.2) 70)], 3⟩) (fun p : (List SKeyState) × Int × (List SPut) => o2 = p) ?_ ?_
     ·refine go_block ?_
      refine go_len (t := 14) rfl (fun hl16 => ?_)
      simp only [List.length_map, maxLen_eq] at hl16
      refine go_loop (fun p : Nat × (List SKeyState) × Int × (List SPut) => ⟨[(3, .ptr 0 0), (4, .ptr 1 0), (6, .ptr 2 0), (8, .own 3 3 0 p.2.2.2.length), (14, (sL SRecord.cells a2)), (15, (iV ((a2.length : Nat) : Int))), (16, (iV ((p.1 : Nat) : Int)))], [(0, .box (SOp.avs a0) 57), (1, .box [(sL SKeyState.cells p.2.1), (iV p.2.2.1)] 60), (2, .box [(sL SKeyState.cells []), (iV 0)] 60), (3, .acc 3 (List.map SPut.cells p.2.2.2) 70)], 4⟩) (fun p : Nat × (List SKeyState) × Int × (List SPut) => (p.1 ≤ a2.length ∧ p.2.1.length ≤ a1.Keys.length + p.1 ∧ p.2.2.2.length ≤ p.1) ∧ oper_All_L0 a0 a2 p.1 p.2.1 p.2.2.1 p.2.2.2 = o2) (fun p : Nat × (List SKeyState) × Int × (List SPut) => a2.length - p.1) (0, r1.Keys, r1.Turn, []) ⟨(by (try dsimp only); (repeat' apply And.intro) <;> first | trivial | omega | assumption | (simp; done)), hx1⟩ (Weak.canon [0, 1, 2, 3] [3, 4, 6, 8, 14, 15, 16] (by decide) rfl (by simp) rfl (by simp) (by first | rfl | (simp only [NM, CELLS] <;> rfl) | simp [NM, CELLS]) (by first | rfl | (simp only [NM, CELLS] <;> rfl) | simp [NM, CELLS]) rfl) ?_
      rintro ⟨x6, x7, x8, x9⟩ ⟨⟨hi18, hi19⟩, hx1⟩
      try dsimp only at hi18 hi19 hx1 ⊢
      obtain ⟨hi19, hi20⟩ := hi19
      rw [oper_All_L0.eq_def] at hx1
      refine go_seq ?_
      refine go_regionJ hR ⟨[(3, .ptr 0 0), (4, .ptr 1 0), (6, .ptr 2 0), (8, .own 3 3 0 x9.length), (14, (sL SRecord.cells a2)), (15, (iV ((a2.length : Nat) : Int))), (16, (iV ((x6 : Nat) : Int))), (17, (bo (decide (((x6 : Nat) : Int) < ((a2.length : Nat) : Int)))))], [(0, .box (SOp.avs a0) 57), (1, .box [(sL SKeyState.cells x7), (iV x8)] 60), (2, .box [(sL SKeyState.cells []), (iV 0)] 60), (3, .acc 3 (List.map SPut.cells x9) 70)], 4⟩ ?_ ?_
      ·skip
       simp only [AVS, bits_i64, EVB, eqF, Op.operands, IntKind.bits, descF, sizeF, bytesF, zeroF, seval, reduceCtorEq, ↓reduceIte]
       exact Weak.sub' ⟨rfl, rfl, rfl, rfl, rfl, rfl, rfl, rfl, trivial⟩ ⟨rfl, rfl, rfl, rfl, trivial⟩ (Nat.le_of_ble_eq_true rfl)
      ·skip
       refine go_seq ?_
       refine go_cond (by rfl) (fun h10 => ?_) (fun h10 => ?_)
       ·have gh10 := h10
        try simp only [GN, beq_iff_eq, beq_eq_false_iff_ne, bne_iff_ne, bne_eq_false_iff_eq] at gh10
        simp only [h10, dite_true, dite_false, reduceDIte, Bool.false_eq_true] at hx1
        refine go_skip ?_
        refine go_seq ?_
        refine go_block ?_
        refine go_seq ?_
        refine go_regionJ hR ⟨[(3, .ptr 0 0), (4, .ptr 1 0), (6, .ptr 2 0), (8, .own 3 3 0 x9.length), (10, .ptr 4 0), (14, (sL SRecord.cells a2)), (15, (iV ((a2.length : Nat) : Int))), (16, (iV ((x6 : Nat) : Int)))], [(0, .box (SOp.avs a0) 57), (1, .box [(sL SKeyState.cells x7), (iV x8)] 60), (2, .box [(sL SKeyState.cells []), (iV 0)] 60), (3, .acc 3 (List.map SPut.cells x9) 70), (4, .box (SRecord.avs (List.getD a2 x6 default)) 68)], 5⟩ ?_ ?_
        ·skip
         have bq20 : x6 < a2.length := by omega
         have q20 := map_getD SRecord.cells a2 x6 default bq20
         simp only [q20, AVS, bits_i64, EVB, eqF, Op.operands, IntKind.bits, descF, sizeF, bytesF, zeroF, seval, reduceCtorEq, ↓reduceIte, CELLS]
         refine ⟨(by (repeat' apply And.intro) <;> first | trivial | rfl | exact Nat.le_of_ble_eq_true rfl | omega | (intro u hu; obtain ⟨x, _, rfl⟩ := List.mem_map.1 hu; rfl) | (intro u hu; simp only [List.mem_cons, List.not_mem_nil, or_false] at hu; subst hu; rfl) | (simp only [NM]; omega) | (simp; done)), ?_⟩
         exact Weak.sub' ⟨rfl, rfl, rfl, rfl, rfl, rfl, rfl, rfl, trivial⟩ ⟨rfl, rfl, rfl, rfl, rfl, trivial⟩ (Nat.le_of_ble_eq_true rfl)
        ·skip
         refine go_seq ?_
         refine go_regionJ hR ⟨[(3, .ptr 0 0), (4, .ptr 1 0), (6, .ptr 2 0), (8, .own 3 3 0 x9.length), (10, .ptr 4 0), (14, (sL SRecord.cells a2)), (15, (iV ((a2.length : Nat) : Int))), (16, (iV ((x6 : Nat) : Int)))], [(0, .box (SOp.avs a0) 57), (1, .box [(sL SKeyState.cells x7), (iV x8)] 60), (2, .box [(sL SKeyState.cells []), (iV 0)] 60), (3, .acc 3 (List.map SPut.cells x9) 70), (4, .box (SRecord.avs (List.getD a2 x6 default)) 68)], 5⟩ ?_ ?_
         ·skip
          simp only [AVS, bits_i64, EVB, eqF, Op.operands, IntKind.bits, descF, sizeF, bytesF, zeroF, seval, reduceCtorEq, ↓reduceIte]
          exact Weak.sub' ⟨rfl, rfl, rfl, rfl, rfl, rfl, rfl, rfl, trivial⟩ ⟨rfl, rfl, rfl, rfl, rfl, trivial⟩ (Nat.le_of_ble_eq_true rfl)
         ·skip
          refine go_seq ?_
          obtain ⟨r11, hr11, hx1⟩ := letIn_ex hx1
          have Cr11 := (oper_Step_t a0 (SOpState.mk x7 x8) (List.getD a2 x6 default) (by (try simp only [SZD]); (repeat' apply And.intro) <;> first | assumption | omega | simp_all) (by show x7.length ≤ 1000000000; omega))
          simp only [hr11] at Cr11
          have zr11 := oper_Step_sz a0 (SOpState.mk x7 x8) (List.getD a2 x6 default)
          simp only [hr11, SZD] at zr11
          obtain ⟨zz21, zz22⟩ := zr11
          refine go_regionJ hR ⟨[(3, .ptr 0 0), (4, .ptr 1 0), (6, .ptr 2 0), (8, .own 3 3 0 x9.length), (11, (sL SPut.cells r11.2)), (14, (sL SRecord.cells a2)), (15, (iV ((a2.length : Nat) : Int))), (16, (iV ((x6 : Nat) : Int)))], [(0, .box (SOp.avs a0) 57), (1, .box (SOpState.avs r11.1) 60), (2, .box [(sL SKeyState.cells []), (iV 0)] 60), (3, .acc 3 (List.map SPut.cells x9) 70)], 5⟩ ?_ ?_
          ·skip
           simp only [AVS, bits_i64, EVB, eqF, Op.operands, IntKind.bits, descF, sizeF, bytesF, zeroF, seval, reduceCtorEq, ↓reduceIte]
           refine CallK.freshE Cr11.toO rfl (by first | rfl | (simp only [NM]; done) | (simp only [AVS, NM]; done)) (by (repeat' apply And.intro) <;> first | trivial | rfl | omega | (simp only [NM]; omega)) (.inl rfl) (by exact Nat.le_of_ble_eq_true rfl) ?_
           try simp only [AVS, bits_i64, EVB, eqF, Op.operands, IntKind.bits, descF, sizeF, bytesF, zeroF, seval, reduceCtorEq, ↓reduceIte]
           exact Weak.sub' ⟨rfl, rfl, rfl, rfl, rfl, rfl, rfl, rfl, trivial⟩ ⟨rfl, rfl, rfl, rfl, trivial⟩ (Nat.le_of_ble_eq_true rfl)
          ·skip
           refine go_regionJ hR ⟨[(3, .ptr 0 0), (4, .ptr 1 0), (6, .ptr 2 0), (8, .own 3 3 0 ((x9 ++ r11.2).length)), (14, (sL SRecord.cells a2)), (15, (iV ((a2.length : Nat) : Int))), (16, (iV ((x6 : Nat) : Int)))], [(0, .box (SOp.avs a0) 57), (1, .box (SOpState.avs r11.1) 60), (2, .box [(sL SKeyState.cells []), (iV 0)] 60), (3, .acc 3 (List.map SPut.cells (x9 ++ r11.2)) 70)], 5⟩ ?_ ?_
           ·skip
            simp only [AVS, bits_i64, EVB, eqF, Op.operands, IntKind.bits, descF, sizeF, bytesF, zeroF, seval, reduceCtorEq, ↓reduceIte]
            refine ⟨(by (repeat' apply And.intro) <;> first | trivial | rfl | exact Nat.le_of_ble_eq_true rfl | omega | (intro u hu; obtain ⟨x, _, rfl⟩ := List.mem_map.1 hu; rfl) | (intro u hu; simp only [List.mem_cons, List.not_mem_nil, or_false] at hu; subst hu; rfl) | (simp only [NM]; omega) | (simp; done)), ?_⟩
            try simp only [BM, NM, CELLS]
            exact Weak.sub' ⟨rfl, rfl, rfl, rfl, rfl, rfl, rfl, trivial⟩ ⟨rfl, rfl, rfl, rfl, trivial⟩ (Nat.le_of_ble_eq_true rfl)
           ·skip
            refine go_blk ?_
            refine go_regionJ hR ⟨[(3, .ptr 0 0), (4, .ptr 1 0), (6, .ptr 2 0), (8, .own 3 3 0 ((x9 ++ r11.2).length)), (14, (sL SRecord.cells a2)), (15, (iV ((a2.length : Nat) : Int))), (16, (iV ((x6 + 1 : Nat) : Int)))], [(0, .box (SOp.avs a0) 57), (1, .box (SOpState.avs r11.1) 60), (2, .box [(sL SKeyState.cells []), (iV 0)] 60), (3, .acc 3 (List.map SPut.cells (x9 ++ r11.2)) 70)], 5⟩ ?_ ?_
            ·skip
             have w23 : IntKind.i64.wrap (((x6 : Nat) : Int) + 1) = ((x6 + 1 : Nat) : Int) := by rw [IntKind.wrap_i64]; omega
             simp only [w23, AVS, bits_i64, EVB, eqF, Op.operands, IntKind.bits, descF, sizeF, bytesF, zeroF, seval, reduceCtorEq, ↓reduceIte, CELLS]
             exact Weak.sub' ⟨rfl, rfl, rfl, rfl, rfl, rfl, rfl, trivial⟩ ⟨rfl, rfl, rfl, rfl, trivial⟩ (Nat.le_of_ble_eq_true rfl)
            ·skip
             exact go_fin ⟨(x6 + 1, r11.1.Keys, r11.1.Turn, (x9 ++ r11.2)), ⟨(by (try dsimp only); (repeat' apply And.intro) <;> first | trivial | omega | (rw [List.length_append]; omega) | assumption | (simp; done)), hx1⟩, by (try dsimp only); omega, (Weak.canon [0, 1, 2, 3] [3, 4, 6, 8, 14, 15, 16] (by decide) rfl (by simp) rfl (by simp) (by first | rfl | (simp only [NM, CELLS] <;> rfl) | simp [NM, CELLS]) (by first | rfl | (simp only [NM, CELLS] <;> rfl) | simp [NM, CELLS]) rfl)⟩
       ·have gh10 := h10
        try simp only [GN, beq_iff_eq, beq_eq_false_iff_ne, bne_iff_ne, bne_eq_false_iff_eq] at gh10
        simp only [h10, dite_true, dite_false, reduceDIte, Bool.false_eq_true] at hx1
        refine go_exit rfl ?_
        exact go_fin ⟨(x7, x8, x9), hx1.symm, (Weak.canon [1, 2, 3] [4, 6, 8] (by decide) rfl (by simp) rfl (by simp) (by first | rfl | (simp only [NM, CELLS] <;> rfl) | simp [NM, CELLS]) (by first | rfl | (simp only [NM, CELLS] <;> rfl) | simp [NM, CELLS]) rfl)⟩
     ·rintro o2_ hp
      try dsimp only at hp
      subst hp
      refine go_seq ?_
      refine go_regionJ hR ⟨[(6, .ptr 1 0), (7, .own 2 3 0 o2.2.2.length)], [(1, .box [(sL SKeyState.cells o2.1), (iV o2.2.1)] 60), (2, .acc 3 (List.map SPut.cells o2.2.2) 70)], 3⟩ ?_ ?_
      ·skip
       simp only [AVS, bits_i64, EVB, eqF, Op.operands, IntKind.bits, descF, sizeF, bytesF, zeroF, seval, reduceCtorEq, ↓reduceIte]
       exact Weak.sub' ⟨rfl, rfl, trivial⟩ ⟨rfl, rfl, trivial⟩ (Nat.le_of_ble_eq_true rfl)
      ·skip
       subst hx0
       refine go_return ttOk (fun _ h => h) rfl ?_ ?_
       ·exact (by (repeat' apply And.intro) <;> first | trivial | exact Nat.le_of_ble_eq_true rfl | omega | (simp only [NM]; omega))
       ·first | rfl | (simp only [NM, CELLS] <;> rfl)

def pontoonlaw07_live : Bool :=
  letIn (oper_All (SOp.mk 6 0 1 2 [(SEdge.mk 0 0)]) (SOpState.mk [] 0) [(SRecord.mk 1 5), (SRecord.mk 2 9), (SRecord.mk 1 6)]) fun r1 => ((((((r1.2.length : Nat) : Int) == 1) && (decide ([(List.getD r1.2 0 default).Port, ((List.getD r1.2 0 default).Record).Key, ((List.getD r1.2 0 default).Record).Val] = [0, 1, 11]))) && (((r1.1.Keys.length : Nat) : Int) == 1)) && (decide ([(List.getD r1.1.Keys 0 default).Key, (List.getD r1.1.Keys 0 default).Count, (List.getD r1.1.Keys 0 default).Acc] = [2, 1, 9])))
set_option maxRecDepth 10000 in
set_option maxHeartbeats 8000000 in
theorem pontoonlaw07_live_t : FnP Try.prog 20 [] ((bo pontoonlaw07_live)) := by
 refine FnP.intro (tt := tt) Try.func20 rfl (by kernel_rfl) (by simp [Try.ntmps20]) fun w0 A hA => ?_
 have hR := reckB_ok eqOk ttOk
 obtain ⟨res, hx0⟩ : ∃ r, pontoonlaw07_live = r := ⟨_, rfl⟩
 simp only [hx0]
 unfold pontoonlaw07_live at hx0
 simp only [argT, Try.ntmps20]
 refine go_seq ?_
 refine go_regionJ hR ⟨[], [], 0⟩ ?_ ?_
 ·skip
  simp only [AVS, bits_i64, EVB, eqF, Op.operands, IntKind.bits, descF, sizeF, bytesF, zeroF, seval, reduceCtorEq, ↓reduceIte]
  exact Weak.sub' trivial trivial (Nat.le_of_ble_eq_true rfl)
 ·skip
  refine go_seq ?_
  refine go_regionJ hR ⟨[(1, .ptr 1 0)], [(0, .acc 2 (List.map SEdge.cells [(SEdge.mk 0 0)]) 96), (1, .box [(iV 6), (iV 0), (iV 1), (iV 2), .own 0 2 0 1] 57)], 2⟩ ?_ ?_
  ·skip
   simp only [AVS, bits_i64, EVB, eqF, Op.operands, IntKind.bits, descF, sizeF, bytesF, zeroF, seval, reduceCtorEq, ↓reduceIte]
   refine ⟨(by (repeat' apply And.intro) <;> first | trivial | rfl | exact Nat.le_of_ble_eq_true rfl | omega | (intro u hu; obtain ⟨x, _, rfl⟩ := List.mem_map.1 hu; rfl) | (intro u hu; simp only [List.mem_cons, List.not_mem_nil, or_false] at hu; subst hu; rfl) | (simp only [NM]; omega) | (simp; done)), ?_⟩
   try simp only [BM, NM, CELLS]
   exact Weak.sub' ⟨rfl, trivial⟩ ⟨rfl, rfl, trivial⟩ (Nat.le_of_ble_eq_true rfl)
  ·skip
   refine go_seq ?_
   obtain ⟨r1, hr1, hx0⟩ := letIn_ex hx0
   have Cr1 := (oper_All_t (SOp.mk 6 0 1 2 [(SEdge.mk 0 0)]) (SOpState.mk [] 0) [(SRecord.mk 1 5), (SRecord.mk 2 9), (SRecord.mk 1 6)] (show 1 ≤ 4294967296 by decide) (by decide) (by decide))
   simp only [hr1] at Cr1
   refine go_regionJ hR ⟨[(2, .ptr 3 0), (3, (sL SPut.cells r1.2))], [(3, .box (SOpState.avs r1.1) 60)], 4⟩ ?_ ?_
   ·skip
    simp only [AVS, bits_i64, EVB, eqF, Op.operands, IntKind.bits, descF, sizeF, bytesF, zeroF, seval, reduceCtorEq, ↓reduceIte]
    refine ⟨(by (repeat' apply And.intro) <;> first | trivial | rfl | exact Nat.le_of_ble_eq_true rfl | omega | (intro u hu; obtain ⟨x, _, rfl⟩ := List.mem_map.1 hu; rfl) | (intro u hu; simp only [List.mem_cons, List.not_mem_nil, or_false] at hu; subst hu; rfl) | (simp only [NM]; omega) | (simp; done)), ?_⟩
    refine CallK.close 0 rfl rfl (by (repeat' apply And.intro) <;> first | trivial | rfl | exact Nat.le_of_ble_eq_true rfl | omega | (intro u hu; obtain ⟨x, _, rfl⟩ := List.mem_map.1 hu; rfl) | (intro u hu; simp only [List.mem_cons, List.not_mem_nil, or_false] at hu; subst hu; rfl) | (simp only [NM]; omega) | (simp; done)) ?_
    refine CallK.close 2 rfl rfl (by (repeat' apply And.intro) <;> first | trivial | rfl | exact Nat.le_of_ble_eq_true rfl | omega | (intro u hu; obtain ⟨x, _, rfl⟩ := List.mem_map.1 hu; rfl) | (intro u hu; simp only [List.mem_cons, List.not_mem_nil, or_false] at hu; subst hu; rfl) | (simp only [NM]; omega) | (simp; done)) ?_
    refine CallK.freshE Cr1.toO rfl (by first | rfl | (simp only [NM]; done) | (simp only [AVS, NM]; done)) (by (repeat' apply And.intro) <;> first | trivial | rfl | omega | (simp only [NM]; omega)) (.inl rfl) (by exact Nat.le_of_ble_eq_true rfl) ?_
    try simp only [AVS, bits_i64, EVB, eqF, Op.operands, IntKind.bits, descF, sizeF, bytesF, zeroF, seval, reduceCtorEq, ↓reduceIte]
    try simp only [BM, NM, CELLS]
    exact Weak.sub' ⟨rfl, rfl, trivial⟩ ⟨rfl, trivial⟩ (Nat.le_of_ble_eq_true rfl)
   ·skip
    refine go_seq ?_
    refine go_regionJ hR ⟨[(0, (bo ((((((r1.2.length : Nat) : Int) == 1) && (decide ([(List.getD r1.2 0 default).Port, ((List.getD r1.2 0 default).Record).Key, ((List.getD r1.2 0 default).Record).Val] = [0, 1, 11]))) && (((r1.1.Keys.length : Nat) : Int) == 1)) && (decide ([(List.getD r1.1.Keys 0 default).Key, (List.getD r1.1.Keys 0 default).Count, (List.getD r1.1.Keys 0 default).Acc] = [2, 1, 9])))))], [], 4⟩ ?_ ?_
    ·skip
     rcases Bool.eq_false_or_eq_true (((r1.2.length : Nat) : Int) == 1) with h2 | h2
     ·have gh2 := h2
      try simp only [GN, beq_iff_eq, beq_eq_false_iff_ne, bne_iff_ne, bne_eq_false_iff_eq] at gh2
      rcases Bool.eq_false_or_eq_true (decide ([(List.getD r1.2 0 default).Port, ((List.getD r1.2 0 default).Record).Key, ((List.getD r1.2 0 default).Record).Val] = [0, 1, 11])) with h3 | h3
      ·have gh3 := h3
       try simp only [GN, beq_iff_eq, beq_eq_false_iff_ne, bne_iff_ne, bne_eq_false_iff_eq] at gh3
       rcases Bool.eq_false_or_eq_true (((r1.1.Keys.length : Nat) : Int) == 1) with h4 | h4
       ·have gh4 := h4
        try simp only [GN, beq_iff_eq, beq_eq_false_iff_ne, bne_iff_ne, bne_eq_false_iff_eq] at gh4
        have bq5 : 0 < r1.2.length := by omega
        have q5 := map_getD SPut.cells r1.2 0 default bq5
        have bq6 : 0 < r1.1.Keys.length := by omega
        have q6 := map_getD SKeyState.cells r1.1.Keys 0 default bq6
        simp (maxSteps := 4000000) only [h2, h3, h4, q5, q6, AVS, bits_i64, EVB, eqF, Op.operands, IntKind.bits, descF, sizeF, bytesF, zeroF, seval, reduceCtorEq, ↓reduceIte, CELLS]
        refine ⟨(by (repeat' apply And.intro) <;> first | trivial | rfl | exact Nat.le_of_ble_eq_true rfl | omega | (intro u hu; obtain ⟨x, _, rfl⟩ := List.mem_map.1 hu; rfl) | (intro u hu; simp only [List.mem_cons, List.not_mem_nil, or_false] at hu; subst hu; rfl) | (simp only [NM]; omega) | (simp; done)), ?_⟩
        refine ⟨(by (repeat' apply And.intro) <;> first | trivial | rfl | exact Nat.le_of_ble_eq_true rfl | omega | (intro u hu; obtain ⟨x, _, rfl⟩ := List.mem_map.1 hu; rfl) | (intro u hu; simp only [List.mem_cons, List.not_mem_nil, or_false] at hu; subst hu; rfl) | (simp only [NM]; omega) | (simp; done)), ?_⟩
        try simp only [h2, h3, h4, BM]
        exact Weak.sub' ⟨rfl, trivial⟩ trivial (Nat.le_of_ble_eq_true rfl)
       ·have bq7 : 0 < r1.2.length := by omega
        have q7 := map_getD SPut.cells r1.2 0 default bq7
        simp (maxSteps := 4000000) only [h2, h3, h4, q7, AVS, bits_i64, EVB, eqF, Op.operands, IntKind.bits, descF, sizeF, bytesF, zeroF, seval, reduceCtorEq, ↓reduceIte, CELLS]
        refine ⟨(by (repeat' apply And.intro) <;> first | trivial | rfl | exact Nat.le_of_ble_eq_true rfl | omega | (intro u hu; obtain ⟨x, _, rfl⟩ := List.mem_map.1 hu; rfl) | (intro u hu; simp only [List.mem_cons, List.not_mem_nil, or_false] at hu; subst hu; rfl) | (simp only [NM]; omega) | (simp; done)), ?_⟩
        try simp only [h2, h3, h4, BM]
        exact Weak.sub' ⟨rfl, trivial⟩ trivial (Nat.le_of_ble_eq_true rfl)
      ·have bq8 : 0 < r1.2.length := by omega
       have q8 := map_getD SPut.cells r1.2 0 default bq8
       simp (maxSteps := 4000000) only [h2, h3, q8, AVS, bits_i64, EVB, eqF, Op.operands, IntKind.bits, descF, sizeF, bytesF, zeroF, seval, reduceCtorEq, ↓reduceIte, CELLS]
       refine ⟨(by (repeat' apply And.intro) <;> first | trivial | rfl | exact Nat.le_of_ble_eq_true rfl | omega | (intro u hu; obtain ⟨x, _, rfl⟩ := List.mem_map.1 hu; rfl) | (intro u hu; simp only [List.mem_cons, List.not_mem_nil, or_false] at hu; subst hu; rfl) | (simp only [NM]; omega) | (simp; done)), ?_⟩
       try simp only [h2, h3, BM]
       exact Weak.sub' ⟨rfl, trivial⟩ trivial (Nat.le_of_ble_eq_true rfl)
     ·simp (maxSteps := 4000000) only [h2, AVS, bits_i64, EVB, eqF, Op.operands, IntKind.bits, descF, sizeF, bytesF, zeroF, seval, reduceCtorEq, ↓reduceIte]
      try simp only [h2, BM]
      exact Weak.sub' ⟨rfl, trivial⟩ trivial (Nat.le_of_ble_eq_true rfl)
    ·skip
     subst hx0
     refine go_return ttOk (fun _ h => h) rfl ?_ ?_
     ·exact (by (repeat' apply And.intro) <;> first | trivial | exact Nat.le_of_ble_eq_true rfl | omega | (simp only [NM]; omega))
     ·first | rfl | (simp only [NM, CELLS] <;> rfl)
end Go.Ab.Try
