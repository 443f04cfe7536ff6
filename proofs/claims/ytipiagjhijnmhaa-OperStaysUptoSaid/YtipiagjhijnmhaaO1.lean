/-
  Functions, and what they compute: printed by wg.py, a program of this work.
-/
import Derived.Test.YtipiagjhijnmhaaO0
set_option linter.unusedVariables false
set_option linter.unusedSimpArgs false
namespace Go.Ab.Try
open Go Go.Proofs Go.Ab

def oper_rest (a0 : Int) (a1 : Int) : Int :=
  (bif (decide (a1 < 1)) then 0 else letIn ((bif (decide ((Int.tmod a0 a1) < 0)) then (IntKind.i64.wrap ((Int.tmod a0 a1) + a1)) else (Int.tmod a0 a1))) fun o2 => o2)
set_option maxRecDepth 10000 in
set_option maxHeartbeats 8000000 in
theorem oper_rest_t (a0 : Int) (a1 : Int) : FnP Try.prog 52 [(iV a0), (iV a1)] ((iV (oper_rest a0 a1))) := by
 refine FnP.intro (tt := tt) Try.func52 rfl (by kernel_rfl) (by simp [Try.ntmps52]) fun w0 A hA => ?_
 have hR := reckB_ok eqOk ttOk
 obtain ⟨res, hx0⟩ : ∃ r, oper_rest a0 a1 = r := ⟨_, rfl⟩
 simp only [hx0]
 unfold oper_rest at hx0
 simp only [argT, Try.ntmps52]
 refine go_seq ?_
 refine go_regionJ hR ⟨[(0, (iV a0)), (1, (iV a1))], [], 0⟩ ?_ ?_
 ·skip
  simp only [AVS, bits_i64, EVB, eqF, Op.operands, IntKind.bits, descF, sizeF, bytesF, zeroF, seval, reduceCtorEq, ↓reduceIte]
  exact Weak.sub' ⟨rfl, rfl, trivial⟩ trivial (Nat.le_of_ble_eq_true rfl)
 ·skip
  refine go_seq ?_
  refine go_seq ?_
  refine go_regionJ hR ⟨[(0, (iV a0)), (1, (iV a1)), (6, (bo (decide (a1 < 1))))], [], 0⟩ ?_ ?_
  ·skip
   simp only [AVS, bits_i64, EVB, eqF, Op.operands, IntKind.bits, descF, sizeF, bytesF, zeroF, seval, reduceCtorEq, ↓reduceIte]
   exact Weak.sub' ⟨rfl, rfl, rfl, trivial⟩ trivial (Nat.le_of_ble_eq_true rfl)
  ·skip
   refine go_cond (by rfl) (fun h1 => ?_) (fun h1 => ?_)
   ·have gh1 := h1
    try simp only [GN, beq_iff_eq, beq_eq_false_iff_ne, bne_iff_ne, bne_eq_false_iff_eq] at gh1
    simp only [h1, cond_true, cond_false] at hx0
    refine go_seq ?_
    refine go_regionJ hR ⟨[(4, (iV 0))], [], 0⟩ ?_ ?_
    ·skip
     simp only [AVS, bits_i64, EVB, eqF, Op.operands, IntKind.bits, descF, sizeF, bytesF, zeroF, seval, reduceCtorEq, ↓reduceIte]
     exact Weak.sub' ⟨rfl, trivial⟩ trivial (Nat.le_of_ble_eq_true rfl)
    ·skip
     subst hx0
     refine go_return ttOk (fun _ h => h) rfl ?_ ?_
     ·exact (by (repeat' apply And.intro) <;> first | trivial | exact Nat.le_of_ble_eq_true rfl | omega | (simp only [NM]; omega))
     ·first | rfl | (simp only [NM, CELLS] <;> rfl)
   ·have gh1 := h1
    try simp only [GN, beq_iff_eq, beq_eq_false_iff_ne, bne_iff_ne, bne_eq_false_iff_eq] at gh1
    simp only [h1, cond_true, cond_false] at hx0
    refine go_skip ?_
    refine go_seq ?_
    refine go_regionJ hR ⟨[(0, (iV (Int.tmod a0 a1))), (1, (iV a1))], [], 0⟩ ?_ ?_
    ·skip
     simp only [AVS, bits_i64, EVB, eqF, Op.operands, IntKind.bits, descF, sizeF, bytesF, zeroF, seval, reduceCtorEq, ↓reduceIte]
     refine ⟨(by (repeat' apply And.intro) <;> first | trivial | rfl | exact Nat.le_of_ble_eq_true rfl | omega | (intro u hu; obtain ⟨x, _, rfl⟩ := List.mem_map.1 hu; rfl) | (intro u hu; simp only [List.mem_cons, List.not_mem_nil, or_false] at hu; subst hu; rfl) | (simp only [NM]; omega) | (simp; done)), ?_⟩
     try simp only [BM, NM, CELLS]
     exact Weak.sub' ⟨rfl, rfl, trivial⟩ trivial (Nat.le_of_ble_eq_true rfl)
    ·skip
     refine go_seq ?_
     refine go_seq ?_
     refine go_regionJ hR ⟨[(0, (iV (Int.tmod a0 a1))), (1, (iV a1)), (11, (bo (decide ((Int.tmod a0 a1) < 0))))], [], 0⟩ ?_ ?_
     ·skip
      simp only [AVS, bits_i64, EVB, eqF, Op.operands, IntKind.bits, descF, sizeF, bytesF, zeroF, seval, reduceCtorEq, ↓reduceIte]
      exact Weak.sub' ⟨rfl, rfl, rfl, trivial⟩ trivial (Nat.le_of_ble_eq_true rfl)
     ·skip
      obtain ⟨o2, hx1, hx0⟩ := letIn_ex hx0
      refine go_joinE (fun p : Int => ⟨[(0, (iV p))], [], 0⟩) (fun p : Int => o2 = p) ?_ ?_
      ·refine go_cond (by rfl) (fun h3 => ?_) (fun h3 => ?_)
       ·have gh3 := h3
        try simp only [GN, beq_iff_eq, beq_eq_false_iff_ne, bne_iff_ne, bne_eq_false_iff_eq] at gh3
        simp only [h3, cond_true, cond_false] at hx1
        refine go_regionJ hR ⟨[(0, (iV (IntKind.i64.wrap ((Int.tmod a0 a1) + a1))))], [], 0⟩ ?_ ?_
        ·skip
         simp only [AVS, bits_i64, EVB, eqF, Op.operands, IntKind.bits, descF, sizeF, bytesF, zeroF, seval, reduceCtorEq, ↓reduceIte]
         exact Weak.sub' ⟨rfl, trivial⟩ trivial (Nat.le_of_ble_eq_true rfl)
        ·skip
         exact go_fin ⟨(IntKind.i64.wrap ((Int.tmod a0 a1) + a1)), hx1.symm, (Weak.canon [] [0] (by decide) rfl trivial rfl (by simp) (by first | rfl | (simp only [NM, CELLS] <;> rfl) | simp [NM, CELLS]) rfl rfl)⟩
       ·have gh3 := h3
        try simp only [GN, beq_iff_eq, beq_eq_false_iff_ne, bne_iff_ne, bne_eq_false_iff_eq] at gh3
        simp only [h3, cond_true, cond_false] at hx1
        refine go_skip ?_
        exact go_fin ⟨(Int.tmod a0 a1), hx1.symm, (Weak.canon [] [0] (by decide) rfl trivial rfl (by simp) (by first | rfl | (simp only [NM, CELLS] <;> rfl) | simp [NM, CELLS]) rfl rfl)⟩
      ·rintro o2_ hp
       try dsimp only at hp
       subst hp
       refine go_seq ?_
       refine go_regionJ hR ⟨[(4, (iV o2))], [], 0⟩ ?_ ?_
       ·skip
        simp only [AVS, bits_i64, EVB, eqF, Op.operands, IntKind.bits, descF, sizeF, bytesF, zeroF, seval, reduceCtorEq, ↓reduceIte]
        exact Weak.sub' ⟨rfl, trivial⟩ trivial (Nat.le_of_ble_eq_true rfl)
       ·skip
        subst hx0
        refine go_return ttOk (fun _ h => h) rfl ?_ ?_
        ·exact (by (repeat' apply And.intro) <;> first | trivial | exact Nat.le_of_ble_eq_true rfl | omega | (simp only [NM]; omega))
        ·first | rfl | (simp only [NM, CELLS] <;> rfl)

def oper_Value (a0 : SOp) (a1 : SRecord) : SRecord :=
  letIn ((bif (a0.Kind == 2) then (bif (a0.Fn == 1) then (a1.Key, (IntKind.i64.wrap (a1.Val + a0.Arg))) else (bif (a0.Fn == 2) then (a1.Key, (IntKind.i64.wrap (a1.Val * a0.Arg))) else (bif (a0.Fn == 3) then (a1.Key, (IntKind.i64.wrap (0 - a1.Val))) else (bif (a0.Fn == 4) then (a1.Key, (xorI a1.Val a0.Arg)) else (a1.Key, a1.Val))))) else (bif (a0.Kind == 4) then (bif (a0.Fn == 2) then ((oper_rest a1.Key a0.Arg), a1.Val) else (bif (a0.Fn == 3) then ((oper_rest a1.Val a0.Arg), a1.Val) else (bif (a0.Fn == 4) then (a0.Arg, a1.Val) else (a1.Key, a1.Val)))) else (a1.Key, a1.Val)))) fun o1 => (SRecord.mk o1.1 o1.2)
set_option maxRecDepth 10000 in
set_option maxHeartbeats 8000000 in
theorem oper_Value_t (a0 : SOp) (a1 : SRecord) : FnP Try.prog 50 [.agg (SOp.avs a0), .agg (SRecord.avs a1)] (.agg (SRecord.avs (oper_Value a0 a1))) := by
 refine FnP.intro (tt := tt) Try.func50 rfl (by kernel_rfl) (by simp [Try.ntmps50]) fun w0 A hA => ?_
 have hR := reckB_ok eqOk ttOk
 obtain ⟨res, hx0⟩ : ∃ r, oper_Value a0 a1 = r := ⟨_, rfl⟩
 simp only [hx0]
 unfold oper_Value at hx0
 simp only [argT, Try.ntmps50]
 refine go_seq ?_
 refine go_regionJ hR ⟨[(2, .ptr 0 0), (3, .ptr 1 0), (4, .ptr 2 0)], [(0, .box (SOp.avs a0) 57), (1, .box (SRecord.avs a1) 68), (2, .box [(iV 0), (iV 0)] 68)], 3⟩ ?_ ?_
 ·skip
  simp only [AVS, bits_i64, EVB, eqF, Op.operands, IntKind.bits, descF, sizeF, bytesF, zeroF, seval, reduceCtorEq, ↓reduceIte]
  exact Weak.sub' ⟨rfl, rfl, rfl, trivial⟩ ⟨rfl, rfl, rfl, trivial⟩ (Nat.le_of_ble_eq_true rfl)
 ·skip
  refine go_seq ?_
  refine go_seq ?_
  refine go_regionJ hR ⟨[(2, .ptr 0 0), (3, .ptr 1 0), (4, .ptr 2 0), (6, (iV a0.Kind))], [(0, .box (SOp.avs a0) 57), (1, .box (SRecord.avs a1) 68), (2, .box [(iV 0), (iV 0)] 68)], 3⟩ ?_ ?_
  ·skip
   simp only [AVS, bits_i64, EVB, eqF, Op.operands, IntKind.bits, descF, sizeF, bytesF, zeroF, seval, reduceCtorEq, ↓reduceIte]
   exact Weak.sub' ⟨rfl, rfl, rfl, rfl, trivial⟩ ⟨rfl, rfl, rfl, trivial⟩ (Nat.le_of_ble_eq_true rfl)
  ·skip
   obtain ⟨o1, hx1, hx0⟩ := letIn_ex hx0
   refine go_joinE (fun p : Int × Int => ⟨[(3, .ptr 0 0), (4, .ptr 1 0)], [(0, .box [(iV p.1), (iV p.2)] 68), (1, .box [(iV 0), (iV 0)] 68)], 2⟩) (fun p : Int × Int => o1 = p) ?_ ?_
   ·refine go_block ?_
    refine go_seq ?_
    refine go_regionJ hR ⟨[(2, .ptr 0 0), (3, .ptr 1 0), (4, .ptr 2 0), (6, (iV a0.Kind)), (7, (bo (a0.Kind == 2)))], [(0, .box (SOp.avs a0) 57), (1, .box (SRecord.avs a1) 68), (2, .box [(iV 0), (iV 0)] 68)], 3⟩ ?_ ?_
    ·skip
     simp only [AVS, bits_i64, EVB, eqF, Op.operands, IntKind.bits, descF, sizeF, bytesF, zeroF, seval, reduceCtorEq, ↓reduceIte]
     exact Weak.sub' ⟨rfl, rfl, rfl, rfl, rfl, trivial⟩ ⟨rfl, rfl, rfl, trivial⟩ (Nat.le_of_ble_eq_true rfl)
    ·skip
     refine go_cond (by rfl) (fun h2 => ?_) (fun h2 => ?_)
     ·have gh2 := h2
      try simp only [GN, beq_iff_eq, beq_eq_false_iff_ne, bne_iff_ne, bne_eq_false_iff_eq] at gh2
      simp only [h2, cond_true, cond_false] at hx1
      refine go_seq ?_
      refine go_regionJ hR ⟨[(2, .ptr 0 0), (3, .ptr 1 0), (4, .ptr 2 0), (10, (iV a0.Fn))], [(0, .box (SOp.avs a0) 57), (1, .box (SRecord.avs a1) 68), (2, .box [(iV 0), (iV 0)] 68)], 3⟩ ?_ ?_
      ·skip
       simp only [AVS, bits_i64, EVB, eqF, Op.operands, IntKind.bits, descF, sizeF, bytesF, zeroF, seval, reduceCtorEq, ↓reduceIte]
       exact Weak.sub' ⟨rfl, rfl, rfl, rfl, trivial⟩ ⟨rfl, rfl, rfl, trivial⟩ (Nat.le_of_ble_eq_true rfl)
      ·skip
       refine go_block ?_
       refine go_seq ?_
       refine go_regionJ hR ⟨[(2, .ptr 0 0), (3, .ptr 1 0), (4, .ptr 2 0), (10, (iV a0.Fn)), (11, (bo (a0.Fn == 1)))], [(0, .box (SOp.avs a0) 57), (1, .box (SRecord.avs a1) 68), (2, .box [(iV 0), (iV 0)] 68)], 3⟩ ?_ ?_
       ·skip
        simp only [AVS, bits_i64, EVB, eqF, Op.operands, IntKind.bits, descF, sizeF, bytesF, zeroF, seval, reduceCtorEq, ↓reduceIte]
        exact Weak.sub' ⟨rfl, rfl, rfl, rfl, rfl, trivial⟩ ⟨rfl, rfl, rfl, trivial⟩ (Nat.le_of_ble_eq_true rfl)
       ·skip
        refine go_cond (by rfl) (fun h3 => ?_) (fun h3 => ?_)
        ·have gh3 := h3
         try simp only [GN, beq_iff_eq, beq_eq_false_iff_ne, bne_iff_ne, bne_eq_false_iff_eq] at gh3
         simp only [h3, cond_true, cond_false] at hx1
         refine go_regionJ hR ⟨[(3, .ptr 1 0), (4, .ptr 2 0)], [(1, .box [(iV a1.Key), (iV (IntKind.i64.wrap (a1.Val + a0.Arg)))] 68), (2, .box [(iV 0), (iV 0)] 68)], 3⟩ ?_ ?_
         ·skip
          simp only [AVS, bits_i64, EVB, eqF, Op.operands, IntKind.bits, descF, sizeF, bytesF, zeroF, seval, reduceCtorEq, ↓reduceIte]
          exact Weak.sub' ⟨rfl, rfl, trivial⟩ ⟨rfl, rfl, trivial⟩ (Nat.le_of_ble_eq_true rfl)
         ·skip
          refine go_blk ?_
          refine go_blk ?_
          exact go_fin ⟨(a1.Key, (IntKind.i64.wrap (a1.Val + a0.Arg))), hx1.symm, (Weak.canon [1, 2] [3, 4] (by decide) rfl (by simp) rfl (by simp) (by first | rfl | (simp only [NM, CELLS] <;> rfl) | simp [NM, CELLS]) (by first | rfl | (simp only [NM, CELLS] <;> rfl) | simp [NM, CELLS]) rfl)⟩
        ·have gh3 := h3
         try simp only [GN, beq_iff_eq, beq_eq_false_iff_ne, bne_iff_ne, bne_eq_false_iff_eq] at gh3
         simp only [h3, cond_true, cond_false] at hx1
         refine go_seq ?_
         refine go_regionJ hR ⟨[(2, .ptr 0 0), (3, .ptr 1 0), (4, .ptr 2 0), (10, (iV a0.Fn)), (19, (bo (a0.Fn == 2)))], [(0, .box (SOp.avs a0) 57), (1, .box (SRecord.avs a1) 68), (2, .box [(iV 0), (iV 0)] 68)], 3⟩ ?_ ?_
         ·skip
          simp only [AVS, bits_i64, EVB, eqF, Op.operands, IntKind.bits, descF, sizeF, bytesF, zeroF, seval, reduceCtorEq, ↓reduceIte]
          exact Weak.sub' ⟨rfl, rfl, rfl, rfl, rfl, trivial⟩ ⟨rfl, rfl, rfl, trivial⟩ (Nat.le_of_ble_eq_true rfl)
         ·skip
          refine go_cond (by rfl) (fun h4 => ?_) (fun h4 => ?_)
          ·have gh4 := h4
           try simp only [GN, beq_iff_eq, beq_eq_false_iff_ne, bne_iff_ne, bne_eq_false_iff_eq] at gh4
           simp only [h4, cond_true, cond_false] at hx1
           refine go_regionJ hR ⟨[(3, .ptr 1 0), (4, .ptr 2 0)], [(1, .box [(iV a1.Key), (iV (IntKind.i64.wrap (a1.Val * a0.Arg)))] 68), (2, .box [(iV 0), (iV 0)] 68)], 3⟩ ?_ ?_
           ·skip
            simp only [AVS, bits_i64, EVB, eqF, Op.operands, IntKind.bits, descF, sizeF, bytesF, zeroF, seval, reduceCtorEq, ↓reduceIte]
            exact Weak.sub' ⟨rfl, rfl, trivial⟩ ⟨rfl, rfl, trivial⟩ (Nat.le_of_ble_eq_true rfl)
           ·skip
            refine go_blk ?_
            refine go_blk ?_
            exact go_fin ⟨(a1.Key, (IntKind.i64.wrap (a1.Val * a0.Arg))), hx1.symm, (Weak.canon [1, 2] [3, 4] (by decide) rfl (by simp) rfl (by simp) (by first | rfl | (simp only [NM, CELLS] <;> rfl) | simp [NM, CELLS]) (by first | rfl | (simp only [NM, CELLS] <;> rfl) | simp [NM, CELLS]) rfl)⟩
          ·have gh4 := h4
           try simp only [GN, beq_iff_eq, beq_eq_false_iff_ne, bne_iff_ne, bne_eq_false_iff_eq] at gh4
           simp only [h4, cond_true, cond_false] at hx1
           refine go_seq ?_
           refine go_regionJ hR ⟨[(2, .ptr 0 0), (3, .ptr 1 0), (4, .ptr 2 0), (10, (iV a0.Fn)), (27, (bo (a0.Fn == 3)))], [(0, .box (SOp.avs a0) 57), (1, .box (SRecord.avs a1) 68), (2, .box [(iV 0), (iV 0)] 68)], 3⟩ ?_ ?_
           ·skip
            simp only [AVS, bits_i64, EVB, eqF, Op.operands, IntKind.bits, descF, sizeF, bytesF, zeroF, seval, reduceCtorEq, ↓reduceIte]
            exact Weak.sub' ⟨rfl, rfl, rfl, rfl, rfl, trivial⟩ ⟨rfl, rfl, rfl, trivial⟩ (Nat.le_of_ble_eq_true rfl)
           ·skip
            refine go_cond (by rfl) (fun h5 => ?_) (fun h5 => ?_)
            ·have gh5 := h5
             try simp only [GN, beq_iff_eq, beq_eq_false_iff_ne, bne_iff_ne, bne_eq_false_iff_eq] at gh5
             simp only [h5, cond_true, cond_false] at hx1
             refine go_regionJ hR ⟨[(3, .ptr 1 0), (4, .ptr 2 0)], [(1, .box [(iV a1.Key), (iV (IntKind.i64.wrap (0 - a1.Val)))] 68), (2, .box [(iV 0), (iV 0)] 68)], 3⟩ ?_ ?_
             ·skip
              simp only [AVS, bits_i64, EVB, eqF, Op.operands, IntKind.bits, descF, sizeF, bytesF, zeroF, seval, reduceCtorEq, ↓reduceIte]
              exact Weak.sub' ⟨rfl, rfl, trivial⟩ ⟨rfl, rfl, trivial⟩ (Nat.le_of_ble_eq_true rfl)
             ·skip
              refine go_blk ?_
              refine go_blk ?_
              exact go_fin ⟨(a1.Key, (IntKind.i64.wrap (0 - a1.Val))), hx1.symm, (Weak.canon [1, 2] [3, 4] (by decide) rfl (by simp) rfl (by simp) (by first | rfl | (simp only [NM, CELLS] <;> rfl) | simp [NM, CELLS]) (by first | rfl | (simp only [NM, CELLS] <;> rfl) | simp [NM, CELLS]) rfl)⟩
            ·have gh5 := h5
             try simp only [GN, beq_iff_eq, beq_eq_false_iff_ne, bne_iff_ne, bne_eq_false_iff_eq] at gh5
             simp only [h5, cond_true, cond_false] at hx1
             refine go_seq ?_
             refine go_regionJ hR ⟨[(2, .ptr 0 0), (3, .ptr 1 0), (4, .ptr 2 0), (33, (bo (a0.Fn == 4)))], [(0, .box (SOp.avs a0) 57), (1, .box (SRecord.avs a1) 68), (2, .box [(iV 0), (iV 0)] 68)], 3⟩ ?_ ?_
             ·skip
              simp only [AVS, bits_i64, EVB, eqF, Op.operands, IntKind.bits, descF, sizeF, bytesF, zeroF, seval, reduceCtorEq, ↓reduceIte]
              exact Weak.sub' ⟨rfl, rfl, rfl, rfl, trivial⟩ ⟨rfl, rfl, rfl, trivial⟩ (Nat.le_of_ble_eq_true rfl)
             ·skip
              refine go_cond (by rfl) (fun h6 => ?_) (fun h6 => ?_)
              ·have gh6 := h6
               try simp only [GN, beq_iff_eq, beq_eq_false_iff_ne, bne_iff_ne, bne_eq_false_iff_eq] at gh6
               simp only [h6, cond_true, cond_false] at hx1
               refine go_regionJ hR ⟨[(3, .ptr 1 0), (4, .ptr 2 0)], [(1, .box [(iV a1.Key), (iV (xorI a1.Val a0.Arg))] 68), (2, .box [(iV 0), (iV 0)] 68)], 3⟩ ?_ ?_
               ·skip
                simp only [AVS, bits_i64, EVB, eqF, Op.operands, IntKind.bits, descF, sizeF, bytesF, zeroF, seval, reduceCtorEq, ↓reduceIte]
                exact Weak.sub' ⟨rfl, rfl, trivial⟩ ⟨rfl, rfl, trivial⟩ (Nat.le_of_ble_eq_true rfl)
               ·skip
                refine go_blk ?_
                refine go_blk ?_
                exact go_fin ⟨(a1.Key, (xorI a1.Val a0.Arg)), hx1.symm, (Weak.canon [1, 2] [3, 4] (by decide) rfl (by simp) rfl (by simp) (by first | rfl | (simp only [NM, CELLS] <;> rfl) | simp [NM, CELLS]) (by first | rfl | (simp only [NM, CELLS] <;> rfl) | simp [NM, CELLS]) rfl)⟩
              ·have gh6 := h6
               try simp only [GN, beq_iff_eq, beq_eq_false_iff_ne, bne_iff_ne, bne_eq_false_iff_eq] at gh6
               simp only [h6, cond_true, cond_false] at hx1
               refine go_skip ?_
               refine go_blk ?_
               refine go_blk ?_
               exact go_fin ⟨(a1.Key, a1.Val), hx1.symm, (Weak.canon [1, 2] [3, 4] (by decide) rfl (by simp) rfl (by simp) (by first | rfl | (simp only [NM, CELLS] <;> rfl) | simp [NM, CELLS]) (by first | rfl | (simp only [NM, CELLS] <;> rfl) | simp [NM, CELLS]) rfl)⟩
     ·have gh2 := h2
      try simp only [GN, beq_iff_eq, beq_eq_false_iff_ne, bne_iff_ne, bne_eq_false_iff_eq] at gh2
      simp only [h2, cond_true, cond_false] at hx1
      refine go_seq ?_
      refine go_regionJ hR ⟨[(2, .ptr 0 0), (3, .ptr 1 0), (4, .ptr 2 0), (41, (bo (a0.Kind == 4)))], [(0, .box (SOp.avs a0) 57), (1, .box (SRecord.avs a1) 68), (2, .box [(iV 0), (iV 0)] 68)], 3⟩ ?_ ?_
      ·skip
       simp only [AVS, bits_i64, EVB, eqF, Op.operands, IntKind.bits, descF, sizeF, bytesF, zeroF, seval, reduceCtorEq, ↓reduceIte]
       exact Weak.sub' ⟨rfl, rfl, rfl, rfl, trivial⟩ ⟨rfl, rfl, rfl, trivial⟩ (Nat.le_of_ble_eq_true rfl)
      ·skip
       refine go_cond (by rfl) (fun h7 => ?_) (fun h7 => ?_)
       ·have gh7 := h7
        try simp only [GN, beq_iff_eq, beq_eq_false_iff_ne, bne_iff_ne, bne_eq_false_iff_eq] at gh7
        simp only [h7, cond_true, cond_false] at hx1
        refine go_seq ?_
        refine go_regionJ hR ⟨[(2, .ptr 0 0), (3, .ptr 1 0), (4, .ptr 2 0), (44, (iV a0.Fn))], [(0, .box (SOp.avs a0) 57), (1, .box (SRecord.avs a1) 68), (2, .box [(iV 0), (iV 0)] 68)], 3⟩ ?_ ?_
        ·skip
         simp only [AVS, bits_i64, EVB, eqF, Op.operands, IntKind.bits, descF, sizeF, bytesF, zeroF, seval, reduceCtorEq, ↓reduceIte]
         exact Weak.sub' ⟨rfl, rfl, rfl, rfl, trivial⟩ ⟨rfl, rfl, rfl, trivial⟩ (Nat.le_of_ble_eq_true rfl)
        ·skip
         refine go_block ?_
         refine go_seq ?_
         refine go_regionJ hR ⟨[(2, .ptr 0 0), (3, .ptr 1 0), (4, .ptr 2 0), (44, (iV a0.Fn)), (45, (bo (a0.Fn == 2)))], [(0, .box (SOp.avs a0) 57), (1, .box (SRecord.avs a1) 68), (2, .box [(iV 0), (iV 0)] 68)], 3⟩ ?_ ?_
         ·skip
          simp only [AVS, bits_i64, EVB, eqF, Op.operands, IntKind.bits, descF, sizeF, bytesF, zeroF, seval, reduceCtorEq, ↓reduceIte]
          exact Weak.sub' ⟨rfl, rfl, rfl, rfl, rfl, trivial⟩ ⟨rfl, rfl, rfl, trivial⟩ (Nat.le_of_ble_eq_true rfl)
         ·skip
          refine go_cond (by rfl) (fun h8 => ?_) (fun h8 => ?_)
          ·have gh8 := h8
           try simp only [GN, beq_iff_eq, beq_eq_false_iff_ne, bne_iff_ne, bne_eq_false_iff_eq] at gh8
           simp only [h8, cond_true, cond_false] at hx1
           refine go_regionJ hR ⟨[(3, .ptr 1 0), (4, .ptr 2 0)], [(1, .box [(iV (oper_rest a1.Key a0.Arg)), (iV a1.Val)] 68), (2, .box [(iV 0), (iV 0)] 68)], 3⟩ ?_ ?_
           ·skip
            simp only [AVS, bits_i64, EVB, eqF, Op.operands, IntKind.bits, descF, sizeF, bytesF, zeroF, seval, reduceCtorEq, ↓reduceIte]
            refine CallK.freshE (oper_rest_t a1.Key a0.Arg).toO rfl (by first | rfl | (simp only [NM]; done) | (simp only [AVS, NM]; done)) (by (repeat' apply And.intro) <;> first | trivial | rfl | omega | (simp only [NM]; omega)) (.inl rfl) (by exact Nat.le_of_ble_eq_true rfl) ?_
            try simp only [AVS, bits_i64, EVB, eqF, Op.operands, IntKind.bits, descF, sizeF, bytesF, zeroF, seval, reduceCtorEq, ↓reduceIte]
            exact Weak.sub' ⟨rfl, rfl, trivial⟩ ⟨rfl, rfl, trivial⟩ (Nat.le_of_ble_eq_true rfl)
           ·skip
            refine go_blk ?_
            refine go_blk ?_
            exact go_fin ⟨((oper_rest a1.Key a0.Arg), a1.Val), hx1.symm, (Weak.canon [1, 2] [3, 4] (by decide) rfl (by simp) rfl (by simp) (by first | rfl | (simp only [NM, CELLS] <;> rfl) | simp [NM, CELLS]) (by first | rfl | (simp only [NM, CELLS] <;> rfl) | simp [NM, CELLS]) rfl)⟩
          ·have gh8 := h8
           try simp only [GN, beq_iff_eq, beq_eq_false_iff_ne, bne_iff_ne, bne_eq_false_iff_eq] at gh8
           simp only [h8, cond_true, cond_false] at hx1
           refine go_seq ?_
           refine go_regionJ hR ⟨[(2, .ptr 0 0), (3, .ptr 1 0), (4, .ptr 2 0), (44, (iV a0.Fn)), (53, (bo (a0.Fn == 3)))], [(0, .box (SOp.avs a0) 57), (1, .box (SRecord.avs a1) 68), (2, .box [(iV 0), (iV 0)] 68)], 3⟩ ?_ ?_
           ·skip
            simp only [AVS, bits_i64, EVB, eqF, Op.operands, IntKind.bits, descF, sizeF, bytesF, zeroF, seval, reduceCtorEq, ↓reduceIte]
            exact Weak.sub' ⟨rfl, rfl, rfl, rfl, rfl, trivial⟩ ⟨rfl, rfl, rfl, trivial⟩ (Nat.le_of_ble_eq_true rfl)
           ·skip
            refine go_cond (by rfl) (fun h9 => ?_) (fun h9 => ?_)
            ·have gh9 := h9
             try simp only [GN, beq_iff_eq, beq_eq_false_iff_ne, bne_iff_ne, bne_eq_false_iff_eq] at gh9
             simp only [h9, cond_true, cond_false] at hx1
             refine go_regionJ hR ⟨[(3, .ptr 1 0), (4, .ptr 2 0)], [(1, .box [(iV (oper_rest a1.Val a0.Arg)), (iV a1.Val)] 68), (2, .box [(iV 0), (iV 0)] 68)], 3⟩ ?_ ?_
             ·skip
              simp only [AVS, bits_i64, EVB, eqF, Op.operands, IntKind.bits, descF, sizeF, bytesF, zeroF, seval, reduceCtorEq, ↓reduceIte]
              refine CallK.freshE (oper_rest_t a1.Val a0.Arg).toO rfl (by first | rfl | (simp only [NM]; done) | (simp only [AVS, NM]; done)) (by (repeat' apply And.intro) <;> first | trivial | rfl | omega | (simp only [NM]; omega)) (.inl rfl) (by exact Nat.le_of_ble_eq_true rfl) ?_
              try simp only [AVS, bits_i64, EVB, eqF, Op.operands, IntKind.bits, descF, sizeF, bytesF, zeroF, seval, reduceCtorEq, ↓reduceIte]
              exact Weak.sub' ⟨rfl, rfl, trivial⟩ ⟨rfl, rfl, trivial⟩ (Nat.le_of_ble_eq_true rfl)
             ·skip
              refine go_blk ?_
              refine go_blk ?_
              exact go_fin ⟨((oper_rest a1.Val a0.Arg), a1.Val), hx1.symm, (Weak.canon [1, 2] [3, 4] (by decide) rfl (by simp) rfl (by simp) (by first | rfl | (simp only [NM, CELLS] <;> rfl) | simp [NM, CELLS]) (by first | rfl | (simp only [NM, CELLS] <;> rfl) | simp [NM, CELLS]) rfl)⟩
            ·have gh9 := h9
             try simp only [GN, beq_iff_eq, beq_eq_false_iff_ne, bne_iff_ne, bne_eq_false_iff_eq] at gh9
             simp only [h9, cond_true, cond_false] at hx1
             refine go_seq ?_
             refine go_regionJ hR ⟨[(2, .ptr 0 0), (3, .ptr 1 0), (4, .ptr 2 0), (61, (bo (a0.Fn == 4)))], [(0, .box (SOp.avs a0) 57), (1, .box (SRecord.avs a1) 68), (2, .box [(iV 0), (iV 0)] 68)], 3⟩ ?_ ?_
             ·skip
              simp only [AVS, bits_i64, EVB, eqF, Op.operands, IntKind.bits, descF, sizeF, bytesF, zeroF, seval, reduceCtorEq, ↓reduceIte]
              exact Weak.sub' ⟨rfl, rfl, rfl, rfl, trivial⟩ ⟨rfl, rfl, rfl, trivial⟩ (Nat.le_of_ble_eq_true rfl)
             ·skip
              refine go_cond (by rfl) (fun h10 => ?_) (fun h10 => ?_)
              ·have gh10 := h10
               try simp only [GN, beq_iff_eq, beq_eq_false_iff_ne, bne_iff_ne, bne_eq_false_iff_eq] at gh10
               simp only [h10, cond_true, cond_false] at hx1
               refine go_regionJ hR ⟨[(3, .ptr 1 0), (4, .ptr 2 0)], [(1, .box [(iV a0.Arg), (iV a1.Val)] 68), (2, .box [(iV 0), (iV 0)] 68)], 3⟩ ?_ ?_
               ·skip
                simp only [AVS, bits_i64, EVB, eqF, Op.operands, IntKind.bits, descF, sizeF, bytesF, zeroF, seval, reduceCtorEq, ↓reduceIte]
                exact Weak.sub' ⟨rfl, rfl, trivial⟩ ⟨rfl, rfl, trivial⟩ (Nat.le_of_ble_eq_true rfl)
               ·skip
                refine go_blk ?_
                refine go_blk ?_
                exact go_fin ⟨(a0.Arg, a1.Val), hx1.symm, (Weak.canon [1, 2] [3, 4] (by decide) rfl (by simp) rfl (by simp) (by first | rfl | (simp only [NM, CELLS] <;> rfl) | simp [NM, CELLS]) (by first | rfl | (simp only [NM, CELLS] <;> rfl) | simp [NM, CELLS]) rfl)⟩
              ·have gh10 := h10
               try simp only [GN, beq_iff_eq, beq_eq_false_iff_ne, bne_iff_ne, bne_eq_false_iff_eq] at gh10
               simp only [h10, cond_true, cond_false] at hx1
               refine go_skip ?_
               refine go_blk ?_
               refine go_blk ?_
               exact go_fin ⟨(a1.Key, a1.Val), hx1.symm, (Weak.canon [1, 2] [3, 4] (by decide) rfl (by simp) rfl (by simp) (by first | rfl | (simp only [NM, CELLS] <;> rfl) | simp [NM, CELLS]) (by first | rfl | (simp only [NM, CELLS] <;> rfl) | simp [NM, CELLS]) rfl)⟩
       ·have gh7 := h7
        try simp only [GN, beq_iff_eq, beq_eq_false_iff_ne, bne_iff_ne, bne_eq_false_iff_eq] at gh7
        simp only [h7, cond_true, cond_false] at hx1
        refine go_skip ?_
        refine go_blk ?_
        exact go_fin ⟨(a1.Key, a1.Val), hx1.symm, (Weak.canon [1, 2] [3, 4] (by decide) rfl (by simp) rfl (by simp) (by first | rfl | (simp only [NM, CELLS] <;> rfl) | simp [NM, CELLS]) (by first | rfl | (simp only [NM, CELLS] <;> rfl) | simp [NM, CELLS]) rfl)⟩
   ·rintro o1_ hp
    try dsimp only at hp
    subst hp
    refine go_seq ?_
    refine go_regionJ hR ⟨[(4, .ptr 1 0)], [(1, .box [(iV o1.1), (iV o1.2)] 68)], 2⟩ ?_ ?_
    ·skip
     simp only [AVS, bits_i64, EVB, eqF, Op.operands, IntKind.bits, descF, sizeF, bytesF, zeroF, seval, reduceCtorEq, ↓reduceIte]
     exact Weak.sub' ⟨rfl, trivial⟩ ⟨rfl, trivial⟩ (Nat.le_of_ble_eq_true rfl)
    ·skip
     subst hx0
     refine go_return ttOk (fun _ h => h) rfl ?_ ?_
     ·exact (by (repeat' apply And.intro) <;> first | trivial | exact Nat.le_of_ble_eq_true rfl | omega | (simp only [NM]; omega))
     ·first | rfl | (simp only [NM, CELLS] <;> rfl)

def oper_Holds (a0 : SOp) (a1 : SRecord) : Bool :=
  (bif (a0.Kind != 3) then true else (bif (a0.Fn == 1) then (decide (a1.Val < a0.Arg)) else (bif (a0.Fn == 2) then (a1.Val == a0.Arg) else (bif (a0.Fn == 3) then ((andI a1.Val 1) == 1) else (bif (a0.Fn == 4) then ((andI a1.Val a0.Arg) != 0) else false)))))
set_option maxRecDepth 10000 in
set_option maxHeartbeats 8000000 in
theorem oper_Holds_t (a0 : SOp) (a1 : SRecord) : FnP Try.prog 51 [.agg (SOp.avs a0), .agg (SRecord.avs a1)] ((bo (oper_Holds a0 a1))) := by
 refine FnP.intro (tt := tt) Try.func51 rfl (by kernel_rfl) (by simp [Try.ntmps51]) fun w0 A hA => ?_
 have hR := reckB_ok eqOk ttOk
 obtain ⟨res, hx0⟩ : ∃ r, oper_Holds a0 a1 = r := ⟨_, rfl⟩
 simp only [hx0]
 unfold oper_Holds at hx0
 simp only [argT, Try.ntmps51]
 refine go_seq ?_
 refine go_regionJ hR ⟨[(2, .ptr 0 0), (3, .ptr 1 0)], [(0, .box (SOp.avs a0) 57), (1, .box (SRecord.avs a1) 68)], 2⟩ ?_ ?_
 ·skip
  simp only [AVS, bits_i64, EVB, eqF, Op.operands, IntKind.bits, descF, sizeF, bytesF, zeroF, seval, reduceCtorEq, ↓reduceIte]
  exact Weak.sub' ⟨rfl, rfl, trivial⟩ ⟨rfl, rfl, trivial⟩ (Nat.le_of_ble_eq_true rfl)
 ·skip
  refine go_seq ?_
  refine go_seq ?_
  refine go_regionJ hR ⟨[(2, .ptr 0 0), (3, .ptr 1 0), (7, (bo (a0.Kind != 3)))], [(0, .box (SOp.avs a0) 57), (1, .box (SRecord.avs a1) 68)], 2⟩ ?_ ?_
  ·skip
   simp only [AVS, bits_i64, EVB, eqF, Op.operands, IntKind.bits, descF, sizeF, bytesF, zeroF, seval, reduceCtorEq, ↓reduceIte]
   exact Weak.sub' ⟨rfl, rfl, rfl, trivial⟩ ⟨rfl, rfl, trivial⟩ (Nat.le_of_ble_eq_true rfl)
  ·skip
   refine go_cond (by rfl) (fun h1 => ?_) (fun h1 => ?_)
   ·have gh1 := h1
    try simp only [GN, beq_iff_eq, beq_eq_false_iff_ne, bne_iff_ne, bne_eq_false_iff_eq] at gh1
    simp only [h1, cond_true, cond_false] at hx0
    refine go_seq ?_
    refine go_regionJ hR ⟨[(4, (bo true))], [], 2⟩ ?_ ?_
    ·skip
     simp only [AVS, bits_i64, EVB, eqF, Op.operands, IntKind.bits, descF, sizeF, bytesF, zeroF, seval, reduceCtorEq, ↓reduceIte]
     exact Weak.sub' ⟨rfl, trivial⟩ trivial (Nat.le_of_ble_eq_true rfl)
    ·skip
     subst hx0
     refine go_return ttOk (fun _ h => h) rfl ?_ ?_
     ·exact (by (repeat' apply And.intro) <;> first | trivial | exact Nat.le_of_ble_eq_true rfl | omega | (simp only [NM]; omega))
     ·first | rfl | (simp only [NM, CELLS] <;> rfl)
   ·have gh1 := h1
    try simp only [GN, beq_iff_eq, beq_eq_false_iff_ne, bne_iff_ne, bne_eq_false_iff_eq] at gh1
    simp only [h1, cond_true, cond_false] at hx0
    refine go_skip ?_
    refine go_seq ?_
    refine go_seq ?_
    refine go_regionJ hR ⟨[(2, .ptr 0 0), (3, .ptr 1 0), (9, (iV a0.Fn))], [(0, .box (SOp.avs a0) 57), (1, .box (SRecord.avs a1) 68)], 2⟩ ?_ ?_
    ·skip
     simp only [AVS, bits_i64, EVB, eqF, Op.operands, IntKind.bits, descF, sizeF, bytesF, zeroF, seval, reduceCtorEq, ↓reduceIte]
     exact Weak.sub' ⟨rfl, rfl, rfl, trivial⟩ ⟨rfl, rfl, trivial⟩ (Nat.le_of_ble_eq_true rfl)
    ·skip
     refine go_block ?_
     refine go_seq ?_
     refine go_regionJ hR ⟨[(2, .ptr 0 0), (3, .ptr 1 0), (9, (iV a0.Fn)), (10, (bo (a0.Fn == 1)))], [(0, .box (SOp.avs a0) 57), (1, .box (SRecord.avs a1) 68)], 2⟩ ?_ ?_
     ·skip
      simp only [AVS, bits_i64, EVB, eqF, Op.operands, IntKind.bits, descF, sizeF, bytesF, zeroF, seval, reduceCtorEq, ↓reduceIte]
      exact Weak.sub' ⟨rfl, rfl, rfl, rfl, trivial⟩ ⟨rfl, rfl, trivial⟩ (Nat.le_of_ble_eq_true rfl)
     ·skip
      refine go_cond (by rfl) (fun h2 => ?_) (fun h2 => ?_)
      ·have gh2 := h2
       try simp only [GN, beq_iff_eq, beq_eq_false_iff_ne, bne_iff_ne, bne_eq_false_iff_eq] at gh2
       simp only [h2, cond_true, cond_false] at hx0
       refine go_seq ?_
       refine go_regionJ hR ⟨[(4, (bo (decide (a1.Val < a0.Arg))))], [], 2⟩ ?_ ?_
       ·skip
        simp only [AVS, bits_i64, EVB, eqF, Op.operands, IntKind.bits, descF, sizeF, bytesF, zeroF, seval, reduceCtorEq, ↓reduceIte]
        exact Weak.sub' ⟨rfl, trivial⟩ trivial (Nat.le_of_ble_eq_true rfl)
       ·skip
        subst hx0
        refine go_return ttOk (fun _ h => h) rfl ?_ ?_
        ·exact (by (repeat' apply And.intro) <;> first | trivial | exact Nat.le_of_ble_eq_true rfl | omega | (simp only [NM]; omega))
        ·first | rfl | (simp only [NM, CELLS] <;> rfl)
      ·have gh2 := h2
       try simp only [GN, beq_iff_eq, beq_eq_false_iff_ne, bne_iff_ne, bne_eq_false_iff_eq] at gh2
       simp only [h2, cond_true, cond_false] at hx0
       refine go_seq ?_
       refine go_regionJ hR ⟨[(2, .ptr 0 0), (3, .ptr 1 0), (9, (iV a0.Fn)), (17, (bo (a0.Fn == 2)))], [(0, .box (SOp.avs a0) 57), (1, .box (SRecord.avs a1) 68)], 2⟩ ?_ ?_
       ·skip
        simp only [AVS, bits_i64, EVB, eqF, Op.operands, IntKind.bits, descF, sizeF, bytesF, zeroF, seval, reduceCtorEq, ↓reduceIte]
        exact Weak.sub' ⟨rfl, rfl, rfl, rfl, trivial⟩ ⟨rfl, rfl, trivial⟩ (Nat.le_of_ble_eq_true rfl)
       ·skip
        refine go_cond (by rfl) (fun h3 => ?_) (fun h3 => ?_)
        ·have gh3 := h3
         try simp only [GN, beq_iff_eq, beq_eq_false_iff_ne, bne_iff_ne, bne_eq_false_iff_eq] at gh3
         simp only [h3, cond_true, cond_false] at hx0
         refine go_seq ?_
         refine go_regionJ hR ⟨[(4, (bo (a1.Val == a0.Arg)))], [], 2⟩ ?_ ?_
         ·skip
          simp only [AVS, bits_i64, EVB, eqF, Op.operands, IntKind.bits, descF, sizeF, bytesF, zeroF, seval, reduceCtorEq, ↓reduceIte]
          exact Weak.sub' ⟨rfl, trivial⟩ trivial (Nat.le_of_ble_eq_true rfl)
         ·skip
          subst hx0
          refine go_return ttOk (fun _ h => h) rfl ?_ ?_
          ·exact (by (repeat' apply And.intro) <;> first | trivial | exact Nat.le_of_ble_eq_true rfl | omega | (simp only [NM]; omega))
          ·first | rfl | (simp only [NM, CELLS] <;> rfl)
        ·have gh3 := h3
         try simp only [GN, beq_iff_eq, beq_eq_false_iff_ne, bne_iff_ne, bne_eq_false_iff_eq] at gh3
         simp only [h3, cond_true, cond_false] at hx0
         refine go_seq ?_
         refine go_regionJ hR ⟨[(2, .ptr 0 0), (3, .ptr 1 0), (9, (iV a0.Fn)), (24, (bo (a0.Fn == 3)))], [(0, .box (SOp.avs a0) 57), (1, .box (SRecord.avs a1) 68)], 2⟩ ?_ ?_
         ·skip
          simp only [AVS, bits_i64, EVB, eqF, Op.operands, IntKind.bits, descF, sizeF, bytesF, zeroF, seval, reduceCtorEq, ↓reduceIte]
          exact Weak.sub' ⟨rfl, rfl, rfl, rfl, trivial⟩ ⟨rfl, rfl, trivial⟩ (Nat.le_of_ble_eq_true rfl)
         ·skip
          refine go_cond (by rfl) (fun h4 => ?_) (fun h4 => ?_)
          ·have gh4 := h4
           try simp only [GN, beq_iff_eq, beq_eq_false_iff_ne, bne_iff_ne, bne_eq_false_iff_eq] at gh4
           simp only [h4, cond_true, cond_false] at hx0
           refine go_seq ?_
           refine go_regionJ hR ⟨[(4, (bo ((andI a1.Val 1) == 1)))], [], 2⟩ ?_ ?_
           ·skip
            simp only [AVS, bits_i64, EVB, eqF, Op.operands, IntKind.bits, descF, sizeF, bytesF, zeroF, seval, reduceCtorEq, ↓reduceIte]
            exact Weak.sub' ⟨rfl, trivial⟩ trivial (Nat.le_of_ble_eq_true rfl)
           ·skip
            subst hx0
            refine go_return ttOk (fun _ h => h) rfl ?_ ?_
            ·exact (by (repeat' apply And.intro) <;> first | trivial | exact Nat.le_of_ble_eq_true rfl | omega | (simp only [NM]; omega))
            ·first | rfl | (simp only [NM, CELLS] <;> rfl)
          ·have gh4 := h4
           try simp only [GN, beq_iff_eq, beq_eq_false_iff_ne, bne_iff_ne, bne_eq_false_iff_eq] at gh4
           simp only [h4, cond_true, cond_false] at hx0
           refine go_seq ?_
           refine go_regionJ hR ⟨[(2, .ptr 0 0), (3, .ptr 1 0), (30, (bo (a0.Fn == 4)))], [(0, .box (SOp.avs a0) 57), (1, .box (SRecord.avs a1) 68)], 2⟩ ?_ ?_
           ·skip
            simp only [AVS, bits_i64, EVB, eqF, Op.operands, IntKind.bits, descF, sizeF, bytesF, zeroF, seval, reduceCtorEq, ↓reduceIte]
            exact Weak.sub' ⟨rfl, rfl, rfl, trivial⟩ ⟨rfl, rfl, trivial⟩ (Nat.le_of_ble_eq_true rfl)
           ·skip
            refine go_cond (by rfl) (fun h5 => ?_) (fun h5 => ?_)
            ·have gh5 := h5
             try simp only [GN, beq_iff_eq, beq_eq_false_iff_ne, bne_iff_ne, bne_eq_false_iff_eq] at gh5
             simp only [h5, cond_true, cond_false] at hx0
             refine go_seq ?_
             refine go_regionJ hR ⟨[(4, (bo ((andI a1.Val a0.Arg) != 0)))], [], 2⟩ ?_ ?_
             ·skip
              simp only [AVS, bits_i64, EVB, eqF, Op.operands, IntKind.bits, descF, sizeF, bytesF, zeroF, seval, reduceCtorEq, ↓reduceIte]
              exact Weak.sub' ⟨rfl, trivial⟩ trivial (Nat.le_of_ble_eq_true rfl)
             ·skip
              subst hx0
              refine go_return ttOk (fun _ h => h) rfl ?_ ?_
              ·exact (by (repeat' apply And.intro) <;> first | trivial | exact Nat.le_of_ble_eq_true rfl | omega | (simp only [NM]; omega))
              ·first | rfl | (simp only [NM, CELLS] <;> rfl)
            ·have gh5 := h5
             try simp only [GN, beq_iff_eq, beq_eq_false_iff_ne, bne_iff_ne, bne_eq_false_iff_eq] at gh5
             simp only [h5, cond_true, cond_false] at hx0
             refine go_skip ?_
             refine go_blk ?_
             refine go_seq ?_
             refine go_regionJ hR ⟨[(4, (bo false))], [], 2⟩ ?_ ?_
             ·skip
              simp only [AVS, bits_i64, EVB, eqF, Op.operands, IntKind.bits, descF, sizeF, bytesF, zeroF, seval, reduceCtorEq, ↓reduceIte]
              exact Weak.sub' ⟨rfl, trivial⟩ trivial (Nat.le_of_ble_eq_true rfl)
             ·skip
              subst hx0
              refine go_return ttOk (fun _ h => h) rfl ?_ ?_
              ·exact (by (repeat' apply And.intro) <;> first | trivial | exact Nat.le_of_ble_eq_true rfl | omega | (simp only [NM]; omega))
              ·first | rfl | (simp only [NM, CELLS] <;> rfl)

def oper_Acc (a0 : Int) (a1 : SKeyState) (a2 : Int) : Int :=
  (bif (decide (a1.Count < 1)) then (bif (a0 == 2) then 1 else a2) else (bif (a0 == 1) then (IntKind.i64.wrap (a1.Acc + a2)) else (bif (a0 == 2) then (IntKind.i64.wrap (a1.Acc + 1)) else (bif (a0 == 3) then (if a2 > a1.Acc then a2 else a1.Acc) else (bif (a0 == 4) then (if a2 < a1.Acc then a2 else a1.Acc) else a2)))))
set_option maxRecDepth 10000 in
set_option maxHeartbeats 8000000 in
theorem oper_Acc_t (a0 : Int) (a1 : SKeyState) (a2 : Int) : FnP Try.prog 71 [(iV a0), .agg (SKeyState.avs a1), (iV a2)] ((iV (oper_Acc a0 a1 a2))) := by
 refine FnP.intro (tt := tt) Try.func71 rfl (by kernel_rfl) (by simp [Try.ntmps71]) fun w0 A hA => ?_
 have hR := reckB_ok eqOk ttOk
 obtain ⟨res, hx0⟩ : ∃ r, oper_Acc a0 a1 a2 = r := ⟨_, rfl⟩
 simp only [hx0]
 unfold oper_Acc at hx0
 simp only [argT, Try.ntmps71]
 refine go_seq ?_
 refine go_regionJ hR ⟨[(0, (iV a0)), (2, (iV a2)), (4, .ptr 0 0)], [(0, .box (SKeyState.avs a1) 72)], 1⟩ ?_ ?_
 ·skip
  simp only [AVS, bits_i64, EVB, eqF, Op.operands, IntKind.bits, descF, sizeF, bytesF, zeroF, seval, reduceCtorEq, ↓reduceIte]
  exact Weak.sub' ⟨rfl, rfl, rfl, trivial⟩ ⟨rfl, trivial⟩ (Nat.le_of_ble_eq_true rfl)
 ·skip
  refine go_seq ?_
  refine go_seq ?_
  refine go_regionJ hR ⟨[(0, (iV a0)), (2, (iV a2)), (4, .ptr 0 0), (9, (bo (decide (a1.Count < 1))))], [(0, .box (SKeyState.avs a1) 72)], 1⟩ ?_ ?_
  ·skip
   simp only [AVS, bits_i64, EVB, eqF, Op.operands, IntKind.bits, descF, sizeF, bytesF, zeroF, seval, reduceCtorEq, ↓reduceIte]
   exact Weak.sub' ⟨rfl, rfl, rfl, rfl, trivial⟩ ⟨rfl, trivial⟩ (Nat.le_of_ble_eq_true rfl)
  ·skip
   refine go_cond (by rfl) (fun h1 => ?_) (fun h1 => ?_)
   ·have gh1 := h1
    try simp only [GN, beq_iff_eq, beq_eq_false_iff_ne, bne_iff_ne, bne_eq_false_iff_eq] at gh1
    simp only [h1, cond_true, cond_false] at hx0
    refine go_seq ?_
    refine go_seq ?_
    refine go_regionJ hR ⟨[(2, (iV a2)), (11, (bo (a0 == 2)))], [], 1⟩ ?_ ?_
    ·skip
     simp only [AVS, bits_i64, EVB, eqF, Op.operands, IntKind.bits, descF, sizeF, bytesF, zeroF, seval, reduceCtorEq, ↓reduceIte]
     exact Weak.sub' ⟨rfl, rfl, trivial⟩ trivial (Nat.le_of_ble_eq_true rfl)
    ·skip
     refine go_cond (by rfl) (fun h2 => ?_) (fun h2 => ?_)
     ·have gh2 := h2
      try simp only [GN, beq_iff_eq, beq_eq_false_iff_ne, bne_iff_ne, bne_eq_false_iff_eq] at gh2
      simp only [h2, cond_true, cond_false] at hx0
      refine go_seq ?_
      refine go_regionJ hR ⟨[(6, (iV 1))], [], 1⟩ ?_ ?_
      ·skip
       simp only [AVS, bits_i64, EVB, eqF, Op.operands, IntKind.bits, descF, sizeF, bytesF, zeroF, seval, reduceCtorEq, ↓reduceIte]
       exact Weak.sub' ⟨rfl, trivial⟩ trivial (Nat.le_of_ble_eq_true rfl)
      ·skip
       subst hx0
       refine go_return ttOk (fun _ h => h) rfl ?_ ?_
       ·exact (by (repeat' apply And.intro) <;> first | trivial | exact Nat.le_of_ble_eq_true rfl | omega | (simp only [NM]; omega))
       ·first | rfl | (simp only [NM, CELLS] <;> rfl)
     ·have gh2 := h2
      try simp only [GN, beq_iff_eq, beq_eq_false_iff_ne, bne_iff_ne, bne_eq_false_iff_eq] at gh2
      simp only [h2, cond_true, cond_false] at hx0
      refine go_skip ?_
      refine go_seq ?_
      refine go_regionJ hR ⟨[(6, (iV a2))], [], 1⟩ ?_ ?_
      ·skip
       simp only [AVS, bits_i64, EVB, eqF, Op.operands, IntKind.bits, descF, sizeF, bytesF, zeroF, seval, reduceCtorEq, ↓reduceIte]
       exact Weak.sub' ⟨rfl, trivial⟩ trivial (Nat.le_of_ble_eq_true rfl)
      ·skip
       subst hx0
       refine go_return ttOk (fun _ h => h) rfl ?_ ?_
       ·exact (by (repeat' apply And.intro) <;> first | trivial | exact Nat.le_of_ble_eq_true rfl | omega | (simp only [NM]; omega))
       ·first | rfl | (simp only [NM, CELLS] <;> rfl)
   ·have gh1 := h1
    try simp only [GN, beq_iff_eq, beq_eq_false_iff_ne, bne_iff_ne, bne_eq_false_iff_eq] at gh1
    simp only [h1, cond_true, cond_false] at hx0
    refine go_skip ?_
    refine go_seq ?_
    refine go_seq ?_
    refine go_regionJ hR ⟨[(2, (iV a2)), (4, .ptr 0 0), (13, (iV a0))], [(0, .box (SKeyState.avs a1) 72)], 1⟩ ?_ ?_
    ·skip
     simp only [AVS, bits_i64, EVB, eqF, Op.operands, IntKind.bits, descF, sizeF, bytesF, zeroF, seval, reduceCtorEq, ↓reduceIte]
     exact Weak.sub' ⟨rfl, rfl, rfl, trivial⟩ ⟨rfl, trivial⟩ (Nat.le_of_ble_eq_true rfl)
    ·skip
     refine go_block ?_
     refine go_seq ?_
     refine go_regionJ hR ⟨[(2, (iV a2)), (4, .ptr 0 0), (13, (iV a0)), (14, (bo (a0 == 1)))], [(0, .box (SKeyState.avs a1) 72)], 1⟩ ?_ ?_
     ·skip
      simp only [AVS, bits_i64, EVB, eqF, Op.operands, IntKind.bits, descF, sizeF, bytesF, zeroF, seval, reduceCtorEq, ↓reduceIte]
      exact Weak.sub' ⟨rfl, rfl, rfl, rfl, trivial⟩ ⟨rfl, trivial⟩ (Nat.le_of_ble_eq_true rfl)
     ·skip
      refine go_cond (by rfl) (fun h3 => ?_) (fun h3 => ?_)
      ·have gh3 := h3
       try simp only [GN, beq_iff_eq, beq_eq_false_iff_ne, bne_iff_ne, bne_eq_false_iff_eq] at gh3
       simp only [h3, cond_true, cond_false] at hx0
       refine go_seq ?_
       refine go_regionJ hR ⟨[(6, (iV (IntKind.i64.wrap (a1.Acc + a2))))], [], 1⟩ ?_ ?_
       ·skip
        simp only [AVS, bits_i64, EVB, eqF, Op.operands, IntKind.bits, descF, sizeF, bytesF, zeroF, seval, reduceCtorEq, ↓reduceIte]
        exact Weak.sub' ⟨rfl, trivial⟩ trivial (Nat.le_of_ble_eq_true rfl)
       ·skip
        subst hx0
        refine go_return ttOk (fun _ h => h) rfl ?_ ?_
        ·exact (by (repeat' apply And.intro) <;> first | trivial | exact Nat.le_of_ble_eq_true rfl | omega | (simp only [NM]; omega))
        ·first | rfl | (simp only [NM, CELLS] <;> rfl)
      ·have gh3 := h3
       try simp only [GN, beq_iff_eq, beq_eq_false_iff_ne, bne_iff_ne, bne_eq_false_iff_eq] at gh3
       simp only [h3, cond_true, cond_false] at hx0
       refine go_seq ?_
       refine go_regionJ hR ⟨[(2, (iV a2)), (4, .ptr 0 0), (13, (iV a0)), (20, (bo (a0 == 2)))], [(0, .box (SKeyState.avs a1) 72)], 1⟩ ?_ ?_
       ·skip
        simp only [AVS, bits_i64, EVB, eqF, Op.operands, IntKind.bits, descF, sizeF, bytesF, zeroF, seval, reduceCtorEq, ↓reduceIte]
        exact Weak.sub' ⟨rfl, rfl, rfl, rfl, trivial⟩ ⟨rfl, trivial⟩ (Nat.le_of_ble_eq_true rfl)
       ·skip
        refine go_cond (by rfl) (fun h4 => ?_) (fun h4 => ?_)
        ·have gh4 := h4
         try simp only [GN, beq_iff_eq, beq_eq_false_iff_ne, bne_iff_ne, bne_eq_false_iff_eq] at gh4
         simp only [h4, cond_true, cond_false] at hx0
         refine go_seq ?_
         refine go_regionJ hR ⟨[(6, (iV (IntKind.i64.wrap (a1.Acc + 1))))], [], 1⟩ ?_ ?_
         ·skip
          simp only [AVS, bits_i64, EVB, eqF, Op.operands, IntKind.bits, descF, sizeF, bytesF, zeroF, seval, reduceCtorEq, ↓reduceIte]
          exact Weak.sub' ⟨rfl, trivial⟩ trivial (Nat.le_of_ble_eq_true rfl)
         ·skip
          subst hx0
          refine go_return ttOk (fun _ h => h) rfl ?_ ?_
          ·exact (by (repeat' apply And.intro) <;> first | trivial | exact Nat.le_of_ble_eq_true rfl | omega | (simp only [NM]; omega))
          ·first | rfl | (simp only [NM, CELLS] <;> rfl)
        ·have gh4 := h4
         try simp only [GN, beq_iff_eq, beq_eq_false_iff_ne, bne_iff_ne, bne_eq_false_iff_eq] at gh4
         simp only [h4, cond_true, cond_false] at hx0
         refine go_seq ?_
         refine go_regionJ hR ⟨[(2, (iV a2)), (4, .ptr 0 0), (13, (iV a0)), (25, (bo (a0 == 3)))], [(0, .box (SKeyState.avs a1) 72)], 1⟩ ?_ ?_
         ·skip
          simp only [AVS, bits_i64, EVB, eqF, Op.operands, IntKind.bits, descF, sizeF, bytesF, zeroF, seval, reduceCtorEq, ↓reduceIte]
          exact Weak.sub' ⟨rfl, rfl, rfl, rfl, trivial⟩ ⟨rfl, trivial⟩ (Nat.le_of_ble_eq_true rfl)
         ·skip
          refine go_cond (by rfl) (fun h5 => ?_) (fun h5 => ?_)
          ·have gh5 := h5
           try simp only [GN, beq_iff_eq, beq_eq_false_iff_ne, bne_iff_ne, bne_eq_false_iff_eq] at gh5
           simp only [h5, cond_true, cond_false] at hx0
           refine go_seq ?_
           refine go_regionJ hR ⟨[(6, (iV (if a2 > a1.Acc then a2 else a1.Acc)))], [], 1⟩ ?_ ?_
           ·skip
            simp only [AVS, bits_i64, EVB, eqF, Op.operands, IntKind.bits, descF, sizeF, bytesF, zeroF, seval, reduceCtorEq, ↓reduceIte]
            exact Weak.sub' ⟨rfl, trivial⟩ trivial (Nat.le_of_ble_eq_true rfl)
           ·skip
            subst hx0
            refine go_return ttOk (fun _ h => h) rfl ?_ ?_
            ·exact (by (repeat' apply And.intro) <;> first | trivial | exact Nat.le_of_ble_eq_true rfl | omega | (simp only [NM]; omega))
            ·first | rfl | (simp only [NM, CELLS] <;> rfl)
          ·have gh5 := h5
           try simp only [GN, beq_iff_eq, beq_eq_false_iff_ne, bne_iff_ne, bne_eq_false_iff_eq] at gh5
           simp only [h5, cond_true, cond_false] at hx0
           refine go_seq ?_
           refine go_regionJ hR ⟨[(2, (iV a2)), (4, .ptr 0 0), (31, (bo (a0 == 4)))], [(0, .box (SKeyState.avs a1) 72)], 1⟩ ?_ ?_
           ·skip
            simp only [AVS, bits_i64, EVB, eqF, Op.operands, IntKind.bits, descF, sizeF, bytesF, zeroF, seval, reduceCtorEq, ↓reduceIte]
            exact Weak.sub' ⟨rfl, rfl, rfl, trivial⟩ ⟨rfl, trivial⟩ (Nat.le_of_ble_eq_true rfl)
           ·skip
            refine go_cond (by rfl) (fun h6 => ?_) (fun h6 => ?_)
            ·have gh6 := h6
             try simp only [GN, beq_iff_eq, beq_eq_false_iff_ne, bne_iff_ne, bne_eq_false_iff_eq] at gh6
             simp only [h6, cond_true, cond_false] at hx0
             refine go_seq ?_
             refine go_regionJ hR ⟨[(6, (iV (if a2 < a1.Acc then a2 else a1.Acc)))], [], 1⟩ ?_ ?_
             ·skip
              simp only [AVS, bits_i64, EVB, eqF, Op.operands, IntKind.bits, descF, sizeF, bytesF, zeroF, seval, reduceCtorEq, ↓reduceIte]
              exact Weak.sub' ⟨rfl, trivial⟩ trivial (Nat.le_of_ble_eq_true rfl)
             ·skip
              subst hx0
              refine go_return ttOk (fun _ h => h) rfl ?_ ?_
              ·exact (by (repeat' apply And.intro) <;> first | trivial | exact Nat.le_of_ble_eq_true rfl | omega | (simp only [NM]; omega))
              ·first | rfl | (simp only [NM, CELLS] <;> rfl)
            ·have gh6 := h6
             try simp only [GN, beq_iff_eq, beq_eq_false_iff_ne, bne_iff_ne, bne_eq_false_iff_eq] at gh6
             simp only [h6, cond_true, cond_false] at hx0
             refine go_skip ?_
             refine go_blk ?_
             refine go_seq ?_
             refine go_regionJ hR ⟨[(6, (iV a2))], [], 1⟩ ?_ ?_
             ·skip
              simp only [AVS, bits_i64, EVB, eqF, Op.operands, IntKind.bits, descF, sizeF, bytesF, zeroF, seval, reduceCtorEq, ↓reduceIte]
              exact Weak.sub' ⟨rfl, trivial⟩ trivial (Nat.le_of_ble_eq_true rfl)
             ·skip
              subst hx0
              refine go_return ttOk (fun _ h => h) rfl ?_ ?_
              ·exact (by (repeat' apply And.intro) <;> first | trivial | exact Nat.le_of_ble_eq_true rfl | omega | (simp only [NM]; omega))
              ·first | rfl | (simp only [NM, CELLS] <;> rfl)

def oper_keeps (a0 : SOp) : Bool :=
  ((a0.Kind == 5) || (a0.Kind == 6))
set_option maxRecDepth 10000 in
set_option maxHeartbeats 8000000 in
theorem oper_keeps_t (a0 : SOp) : FnP Try.prog 49 [.agg (SOp.avs a0)] ((bo (oper_keeps a0))) := by
 refine FnP.intro (tt := tt) Try.func49 rfl (by kernel_rfl) (by simp [Try.ntmps49]) fun w0 A hA => ?_
 have hR := reckB_ok eqOk ttOk
 obtain ⟨res, hx0⟩ : ∃ r, oper_keeps a0 = r := ⟨_, rfl⟩
 simp only [hx0]
 unfold oper_keeps at hx0
 simp only [argT, Try.ntmps49]
 refine go_seq ?_
 refine go_regionJ hR ⟨[(1, .ptr 0 0)], [(0, .box (SOp.avs a0) 57)], 1⟩ ?_ ?_
 ·skip
  simp only [AVS, bits_i64, EVB, eqF, Op.operands, IntKind.bits, descF, sizeF, bytesF, zeroF, seval, reduceCtorEq, ↓reduceIte]
  exact Weak.sub' ⟨rfl, trivial⟩ ⟨rfl, trivial⟩ (Nat.le_of_ble_eq_true rfl)
 ·skip
  refine go_seq ?_
  refine go_regionJ hR ⟨[(2, (bo ((a0.Kind == 5) || (a0.Kind == 6))))], [], 1⟩ ?_ ?_
  ·skip
   rcases Bool.eq_false_or_eq_true (a0.Kind == 5) with h1 | h1
   ·simp only [h1, AVS, bits_i64, EVB, eqF, Op.operands, IntKind.bits, descF, sizeF, bytesF, zeroF, seval, reduceCtorEq, ↓reduceIte]
    try simp only [h1, BM]
    exact Weak.sub' ⟨rfl, trivial⟩ trivial (Nat.le_of_ble_eq_true rfl)
   ·simp only [h1, AVS, bits_i64, EVB, eqF, Op.operands, IntKind.bits, descF, sizeF, bytesF, zeroF, seval, reduceCtorEq, ↓reduceIte]
    try simp only [h1, BM]
    exact Weak.sub' ⟨rfl, trivial⟩ trivial (Nat.le_of_ble_eq_true rfl)
  ·skip
   subst hx0
   refine go_return ttOk (fun _ h => h) rfl ?_ ?_
   ·exact (by (repeat' apply And.intro) <;> first | trivial | exact Nat.le_of_ble_eq_true rfl | omega | (simp only [NM]; omega))
   ·first | rfl | (simp only [NM, CELLS] <;> rfl)

def slices_Clone_KeyState (a0 : List SKeyState) : List SKeyState := a0
set_option maxRecDepth 10000 in
theorem slices_Clone_KeyState_o (a0 : List SKeyState) (hz : a0.length ≤ 4294967296) : FnO Try.prog 70 [.c (.sl (List.map SKeyState.cells a0))] [.acc 3 (List.map SKeyState.cells a0) 72] (.own 0 3 0 a0.length) := by
  refine FnO.intro (tt := tt) Try.func70 rfl (by kernel_rfl) (by simp [Try.ntmps70]) fun w0 A hA => ?_
  have hR := reckB_ok eqOk ttOk
  simp only [argT, Try.ntmps70]
  (repeat (first | refine go_seq ?_ | refine go_skip ?_ | refine go_blk ?_ | refine go_block ?_ | refine go_scope (fun _ _ _ h => h) ?_ | refine go_label ?_ | (refine go_region hR ?_; simp only [EV1, EV2, EV3, EV4, EV5, EV6, EV7, EV8, EV9, EV10, EV11, eqF, Op.operands, IntKind.bits, descF, sizeF, bytesF, zeroF, Nat.reduceLT, Nat.reduceLeDiff, Nat.reduceAdd, Nat.reduceSub, Nat.reduceMul, Nat.reduceBEq, Nat.reduceEqDiff, reduceCtorEq, ↓reduceIte, Int.reduceToNat, Nat.reducePow, Int.reducePow, Int.reduceLE, Int.reduceLT, Int.reduceAdd, Int.reduceSub, Int.reduceMul, Int.reduceNeg, Int.reduceBEq, Int.reduceBNe, Int.reduceEq]) | (refine go_draw hR rfl ?_; simp only [EV1, EV2, EV3, EV4, EV5, EV6, EV7, EV8, EV9, EV10, EV11, eqF, Op.operands, IntKind.bits, descF, sizeF, bytesF, zeroF, Nat.reduceLT, Nat.reduceLeDiff, Nat.reduceAdd, Nat.reduceSub, Nat.reduceMul, Nat.reduceBEq, Nat.reduceEqDiff, reduceCtorEq, ↓reduceIte, Int.reduceToNat, Nat.reducePow, Int.reducePow, Int.reduceLE, Int.reduceLT, Int.reduceAdd, Int.reduceSub, Int.reduceMul, Int.reduceNeg, Int.reduceBEq, Int.reduceBNe, Int.reduceEq]) | refine ⟨by kernel_rfl, ?_⟩ | refine ⟨by decide, ?_⟩))
  refine spec_eqnil (cx := cx0 _ _ _ _ _ _) (p := List.map SKeyState.cells a0 = []) ttOk rfl rfl rfl (by exact Nat.le_of_ble_eq_true rfl) fun b hb => ?_
  (repeat (first | refine go_seq ?_ | refine go_skip ?_ | refine go_blk ?_ | refine go_block ?_ | refine go_scope (fun _ _ _ h => h) ?_ | refine go_label ?_ | (refine go_region hR ?_; simp only [EV1, EV2, EV3, EV4, EV5, EV6, EV7, EV8, EV9, EV10, EV11, eqF, Op.operands, IntKind.bits, descF, sizeF, bytesF, zeroF, Nat.reduceLT, Nat.reduceLeDiff, Nat.reduceAdd, Nat.reduceSub, Nat.reduceMul, Nat.reduceBEq, Nat.reduceEqDiff, reduceCtorEq, ↓reduceIte, Int.reduceToNat, Nat.reducePow, Int.reducePow, Int.reduceLE, Int.reduceLT, Int.reduceAdd, Int.reduceSub, Int.reduceMul, Int.reduceNeg, Int.reduceBEq, Int.reduceBNe, Int.reduceEq]) | (refine go_draw hR rfl ?_; simp only [EV1, EV2, EV3, EV4, EV5, EV6, EV7, EV8, EV9, EV10, EV11, eqF, Op.operands, IntKind.bits, descF, sizeF, bytesF, zeroF, Nat.reduceLT, Nat.reduceLeDiff, Nat.reduceAdd, Nat.reduceSub, Nat.reduceMul, Nat.reduceBEq, Nat.reduceEqDiff, reduceCtorEq, ↓reduceIte, Int.reduceToNat, Nat.reducePow, Int.reducePow, Int.reduceLE, Int.reduceLT, Int.reduceAdd, Int.reduceSub, Int.reduceMul, Int.reduceNeg, Int.reduceBEq, Int.reduceBNe, Int.reduceEq]) | refine ⟨by kernel_rfl, ?_⟩ | refine ⟨by decide, ?_⟩))
  refine go_cond rfl (fun h => ?_) (fun h => ?_)
  · (repeat (first | refine go_seq ?_ | refine go_skip ?_ | refine go_blk ?_ | refine go_block ?_ | refine go_scope (fun _ _ _ h => h) ?_ | refine go_label ?_ | (refine go_region hR ?_; simp only [EV1, EV2, EV3, EV4, EV5, EV6, EV7, EV8, EV9, EV10, EV11, eqF, Op.operands, IntKind.bits, descF, sizeF, bytesF, zeroF, Nat.reduceLT, Nat.reduceLeDiff, Nat.reduceAdd, Nat.reduceSub, Nat.reduceMul, Nat.reduceBEq, Nat.reduceEqDiff, reduceCtorEq, ↓reduceIte, Int.reduceToNat, Nat.reducePow, Int.reducePow, Int.reduceLE, Int.reduceLT, Int.reduceAdd, Int.reduceSub, Int.reduceMul, Int.reduceNeg, Int.reduceBEq, Int.reduceBNe, Int.reduceEq]) | (refine go_draw hR rfl ?_; simp only [EV1, EV2, EV3, EV4, EV5, EV6, EV7, EV8, EV9, EV10, EV11, eqF, Op.operands, IntKind.bits, descF, sizeF, bytesF, zeroF, Nat.reduceLT, Nat.reduceLeDiff, Nat.reduceAdd, Nat.reduceSub, Nat.reduceMul, Nat.reduceBEq, Nat.reduceEqDiff, reduceCtorEq, ↓reduceIte, Int.reduceToNat, Nat.reducePow, Int.reducePow, Int.reduceLE, Int.reduceLT, Int.reduceAdd, Int.reduceSub, Int.reduceMul, Int.reduceNeg, Int.reduceBEq, Int.reduceBNe, Int.reduceEq]) | refine ⟨by kernel_rfl, ?_⟩ | refine ⟨by decide, ?_⟩))
    have h0 : a0 = [] := by simpa using hb h
    subst h0
    refine go_nilOwn 2 3 72 rfl ?_
    refine go_returnO [0] (by simp) ttOk rfl ?_ rfl rfl
    simp
  · (repeat (first | refine go_seq ?_ | refine go_skip ?_ | refine go_blk ?_ | refine go_block ?_ | refine go_scope (fun _ _ _ h => h) ?_ | refine go_label ?_ | (refine go_region hR ?_; simp only [EV1, EV2, EV3, EV4, EV5, EV6, EV7, EV8, EV9, EV10, EV11, eqF, Op.operands, IntKind.bits, descF, sizeF, bytesF, zeroF, Nat.reduceLT, Nat.reduceLeDiff, Nat.reduceAdd, Nat.reduceSub, Nat.reduceMul, Nat.reduceBEq, Nat.reduceEqDiff, reduceCtorEq, ↓reduceIte, Int.reduceToNat, Nat.reducePow, Int.reducePow, Int.reduceLE, Int.reduceLT, Int.reduceAdd, Int.reduceSub, Int.reduceMul, Int.reduceNeg, Int.reduceBEq, Int.reduceBNe, Int.reduceEq]) | (refine go_draw hR rfl ?_; simp only [EV1, EV2, EV3, EV4, EV5, EV6, EV7, EV8, EV9, EV10, EV11, eqF, Op.operands, IntKind.bits, descF, sizeF, bytesF, zeroF, Nat.reduceLT, Nat.reduceLeDiff, Nat.reduceAdd, Nat.reduceSub, Nat.reduceMul, Nat.reduceBEq, Nat.reduceEqDiff, reduceCtorEq, ↓reduceIte, Int.reduceToNat, Nat.reducePow, Int.reducePow, Int.reduceLE, Int.reduceLT, Int.reduceAdd, Int.reduceSub, Int.reduceMul, Int.reduceNeg, Int.reduceBEq, Int.reduceBNe, Int.reduceEq]) | refine ⟨by kernel_rfl, ?_⟩ | refine ⟨by decide, ?_⟩))
    refine ⟨⟨fun u hu => by obtain ⟨x, _, rfl⟩ := List.mem_map.1 hu; rfl, by rw [List.length_map]; omega, by rw [List.length_map]; omega⟩, ?_⟩
    refine go_returnO [0] (by simp) ttOk rfl ?_ ?_ rfl
    · simp
    · rw [List.length_map]
theorem slices_Clone_KeyState_t (a0 : List SKeyState) (hz : a0.length ≤ 4294967296) : FnP Try.prog 70 [.c (.sl (List.map SKeyState.cells a0))] (.c (.sl (List.map SKeyState.cells (slices_Clone_KeyState a0)))) := by
  have := (slices_Clone_KeyState_o a0 hz).frz rfl ⟨rfl, by rw [List.length_map]; omega⟩
  rwa [List.drop_zero, take_map_len] at this
theorem slices_Clone_KeyState_sz (a0 : List SKeyState) (hz : a0.length ≤ 4294967296) : (slices_Clone_KeyState a0).length ≤ 4294967296 := hz

def oper_Clone (a0 : SOpState) : SOpState :=
  letIn (slices_Clone_KeyState a0.Keys) fun r1 => (SOpState.mk r1 a0.Turn)
set_option maxRecDepth 10000 in
set_option maxHeartbeats 8000000 in
theorem oper_Clone_t (a0 : SOpState) (z0 : SOpState.Sz a0) : FnP Try.prog 45 [.agg (SOpState.avs a0)] (.agg (SOpState.avs (oper_Clone a0))) := by
 refine FnP.intro (tt := tt) Try.func45 rfl (by kernel_rfl) (by simp [Try.ntmps45]) fun w0 A hA => ?_
 have hR := reckB_ok eqOk ttOk
 obtain ⟨res, hx0⟩ : ∃ r, oper_Clone a0 = r := ⟨_, rfl⟩
 simp only [hx0]
 unfold oper_Clone at hx0
 simp only [argT, Try.ntmps45]
 try simp only [SZD] at z0
 refine go_seq ?_
 refine go_regionJ hR ⟨[(1, .ptr 0 0), (2, .ptr 1 0)], [(0, .box (SOpState.avs a0) 60), (1, .box [nS, (iV 0)] 60)], 2⟩ ?_ ?_
 ·skip
  simp only [AVS, bits_i64, EVB, eqF, Op.operands, IntKind.bits, descF, sizeF, bytesF, zeroF, seval, reduceCtorEq, ↓reduceIte]
  exact Weak.sub' ⟨rfl, rfl, trivial⟩ ⟨rfl, rfl, trivial⟩ (Nat.le_of_ble_eq_true rfl)
 ·skip
  refine go_seq ?_
  obtain ⟨r1, hr1, hx0⟩ := letIn_ex hx0
  have Cr1 := (slices_Clone_KeyState_t a0.Keys (by (try simp only [SZD]); (repeat' apply And.intro) <;> first | assumption | omega | simp_all))
  simp only [hr1] at Cr1
  have zr1 := slices_Clone_KeyState_sz a0.Keys (by (try simp only [SZD]); (repeat' apply And.intro) <;> first | assumption | omega | simp_all)
  simp only [hr1, SZD] at zr1
  refine go_regionJ hR ⟨[(1, .ptr 0 0), (2, .ptr 1 0)], [(0, .box [(sL SKeyState.cells r1), (iV a0.Turn)] 60), (1, .box [nS, (iV 0)] 60)], 2⟩ ?_ ?_
  ·skip
   simp only [AVS, bits_i64, EVB, eqF, Op.operands, IntKind.bits, descF, sizeF, bytesF, zeroF, seval, reduceCtorEq, ↓reduceIte]
   refine CallK.freshE Cr1.toO rfl (by first | rfl | (simp only [NM]; done) | (simp only [AVS, NM]; done)) (by (repeat' apply And.intro) <;> first | trivial | rfl | omega | (simp only [NM]; omega)) (.inl rfl) (by exact Nat.le_of_ble_eq_true rfl) ?_
   try simp only [AVS, bits_i64, EVB, eqF, Op.operands, IntKind.bits, descF, sizeF, bytesF, zeroF, seval, reduceCtorEq, ↓reduceIte]
   exact Weak.sub' ⟨rfl, rfl, trivial⟩ ⟨rfl, rfl, trivial⟩ (Nat.le_of_ble_eq_true rfl)
  ·skip
   refine go_seq ?_
   refine go_regionJ hR ⟨[(2, .ptr 1 0)], [(1, .box [(sL SKeyState.cells r1), (iV a0.Turn)] 60)], 2⟩ ?_ ?_
   ·skip
    simp only [AVS, bits_i64, EVB, eqF, Op.operands, IntKind.bits, descF, sizeF, bytesF, zeroF, seval, reduceCtorEq, ↓reduceIte]
    exact Weak.sub' ⟨rfl, trivial⟩ ⟨rfl, trivial⟩ (Nat.le_of_ble_eq_true rfl)
   ·skip
    subst hx0
    refine go_return ttOk (fun _ h => h) rfl ?_ ?_
    ·exact (by (repeat' apply And.intro) <;> first | trivial | exact Nat.le_of_ble_eq_true rfl | omega | (simp only [NM]; omega))
    ·first | rfl | (simp only [NM, CELLS] <;> rfl)
theorem oper_Clone_sz (a0 : SOpState) (z0 : SOpState.Sz a0) : SOpState.Sz (oper_Clone a0) := by
 obtain ⟨res, hx0⟩ : ∃ r, oper_Clone a0 = r := ⟨_, rfl⟩
 simp only [hx0]
 unfold oper_Clone at hx0
 try simp only [SZD] at z0
 obtain ⟨r1, hr1, hx0⟩ := letIn_ex hx0
 have zr1 := slices_Clone_KeyState_sz a0.Keys (by (try simp only [SZD]); (repeat' apply And.intro) <;> first | assumption | omega | simp_all)
 simp only [hr1, SZD] at zr1
 subst hx0
 exact (by (try simp only [SZD]); (repeat' apply And.intro) <;> first | assumption | omega | simp_all)

def oper_Check_L0 (a0 : SOp) (a1 : SOpState) (x14 : Nat) : Sum Int Unit :=
  (if h15 : (decide (((x14 : Nat) : Int) < ((a1.Keys.length : Nat) : Int))) = true then (if h24 : (((((decide (((x14 : Nat) : Int) > 0)) && (decide ((List.getD a1.Keys x14 default).Key ≤ (List.getD a1.Keys (Int.toNat (((x14 : Nat) : Int) - 1)) default).Key))) || (decide ((List.getD a1.Keys x14 default).Count < 1))) || (decide ((List.getD a1.Keys x14 default).Count > 9007199254740992))) || ((a0.Kind == 6) && (decide ((List.getD a1.Keys x14 default).Count ≥ a0.Arg)))) = true then (Sum.inl 70) else (oper_Check_L0 a0 a1 (x14 + 1))) else (Sum.inr ()))
termination_by a1.Keys.length - x14
decreasing_by all_goals (try simp only [GN, beq_iff_eq, beq_eq_false_iff_ne, bne_iff_ne, bne_eq_false_iff_eq] at *) <;> omega
def oper_Check (a0 : SOp) (a1 : SOpState) : Int :=
  letIn ((bif (a0.Kind == 8) then (if (((a0.In.length : Nat) : Int) - 1) > 0 then (((a0.In.length : Nat) : Int) - 1) else 0) else 0)) fun o1 => (bif (((decide (a1.Turn < 0)) || (decide (a1.Turn > o1))) || ((!(oper_keeps a0)) && (decide (((a1.Keys.length : Nat) : Int) > 0)))) then 70 else letIn (oper_Check_L0 a0 a1 0) fun o7s => Sum.elim (fun q => q) (fun o7 => 0) o7s)
set_option maxRecDepth 10000 in
set_option maxHeartbeats 8000000 in
theorem oper_Check_t (a0 : SOp) (a1 : SOpState) (z0 : SOp.Sz a0) (z1 : SOpState.Sz a1) : FnP Try.prog 25 [.agg (SOp.avs a0), .agg (SOpState.avs a1)] ((iV (oper_Check a0 a1))) := by
 refine FnP.intro (tt := tt) Try.func25 rfl (by kernel_rfl) (by simp [Try.ntmps25]) fun w0 A hA => ?_
 have hR := reckB_ok eqOk ttOk
 obtain ⟨res, hx0⟩ : ∃ r, oper_Check a0 a1 = r := ⟨_, rfl⟩
 simp only [hx0]
 unfold oper_Check at hx0
 simp only [argT, Try.ntmps25]
 try simp only [SZD] at z0 z1
 refine go_seq ?_
 refine go_regionJ hR ⟨[(2, .ptr 0 0), (3, .ptr 1 0)], [(0, .box (SOp.avs a0) 57), (1, .box (SOpState.avs a1) 60)], 2⟩ ?_ ?_
 ·skip
  simp only [AVS, bits_i64, EVB, eqF, Op.operands, IntKind.bits, descF, sizeF, bytesF, zeroF, seval, reduceCtorEq, ↓reduceIte]
  exact Weak.sub' ⟨rfl, rfl, trivial⟩ ⟨rfl, rfl, trivial⟩ (Nat.le_of_ble_eq_true rfl)
 ·skip
  refine go_seq ?_
  refine go_regionJ hR ⟨[(2, .ptr 0 0), (3, .ptr 1 0), (5, (iV 0))], [(0, .box (SOp.avs a0) 57), (1, .box (SOpState.avs a1) 60)], 2⟩ ?_ ?_
  ·skip
   simp only [AVS, bits_i64, EVB, eqF, Op.operands, IntKind.bits, descF, sizeF, bytesF, zeroF, seval, reduceCtorEq, ↓reduceIte]
   exact Weak.sub' ⟨rfl, rfl, rfl, trivial⟩ ⟨rfl, rfl, trivial⟩ (Nat.le_of_ble_eq_true rfl)
  ·skip
   refine go_seq ?_
   refine go_seq ?_
   refine go_regionJ hR ⟨[(2, .ptr 0 0), (3, .ptr 1 0), (5, (iV 0)), (10, (bo (a0.Kind == 8)))], [(0, .box (SOp.avs a0) 57), (1, .box (SOpState.avs a1) 60)], 2⟩ ?_ ?_
   ·skip
    simp only [AVS, bits_i64, EVB, eqF, Op.operands, IntKind.bits, descF, sizeF, bytesF, zeroF, seval, reduceCtorEq, ↓reduceIte]
    exact Weak.sub' ⟨rfl, rfl, rfl, rfl, trivial⟩ ⟨rfl, rfl, trivial⟩ (Nat.le_of_ble_eq_true rfl)
   ·skip
    obtain ⟨o1, hx1, hx0⟩ := letIn_ex hx0
    refine go_joinE (fun p : Int => ⟨[(2, .ptr 0 0), (3, .ptr 1 0), (5, (iV p))], [(0, .box (SOp.avs a0) 57), (1, .box (SOpState.avs a1) 60)], 2⟩) (fun p : Int => o1 = p) ?_ ?_
    ·refine go_cond (by rfl) (fun h2 => ?_) (fun h2 => ?_)
     ·have gh2 := h2
      try simp only [GN, beq_iff_eq, beq_eq_false_iff_ne, bne_iff_ne, bne_eq_false_iff_eq] at gh2
      simp only [h2, cond_true, cond_false] at hx1
      refine go_regionJ hR ⟨[(2, .ptr 0 0), (3, .ptr 1 0), (5, (iV (if (((a0.In.length : Nat) : Int) - 1) > 0 then (((a0.In.length : Nat) : Int) - 1) else 0)))], [(0, .box (SOp.avs a0) 57), (1, .box (SOpState.avs a1) 60)], 2⟩ ?_ ?_
      ·skip
       have w27 : IntKind.i64.wrap (((a0.In.length : Nat) : Int) - 1) = ((a0.In.length : Nat) : Int) - 1 := by rw [IntKind.wrap_i64]; omega
       simp only [w27, AVS, bits_i64, EVB, eqF, Op.operands, IntKind.bits, descF, sizeF, bytesF, zeroF, seval, reduceCtorEq, ↓reduceIte, CELLS]
       exact Weak.sub' ⟨rfl, rfl, rfl, trivial⟩ ⟨rfl, rfl, trivial⟩ (Nat.le_of_ble_eq_true rfl)
      ·skip
       exact go_fin ⟨(if (((a0.In.length : Nat) : Int) - 1) > 0 then (((a0.In.length : Nat) : Int) - 1) else 0), hx1.symm, (Weak.canon [0, 1] [2, 3, 5] (by decide) rfl (by simp) rfl (by simp) (by first | rfl | (simp only [NM, CELLS] <;> rfl) | simp [NM, CELLS]) (by first | rfl | (simp only [NM, CELLS] <;> rfl) | simp [NM, CELLS]) rfl)⟩
     ·have gh2 := h2
      try simp only [GN, beq_iff_eq, beq_eq_false_iff_ne, bne_iff_ne, bne_eq_false_iff_eq] at gh2
      simp only [h2, cond_true, cond_false] at hx1
      refine go_skip ?_
      exact go_fin ⟨0, hx1.symm, (Weak.canon [0, 1] [2, 3, 5] (by decide) rfl (by simp) rfl (by simp) (by first | rfl | (simp only [NM, CELLS] <;> rfl) | simp [NM, CELLS]) (by first | rfl | (simp only [NM, CELLS] <;> rfl) | simp [NM, CELLS]) rfl)⟩
    ·rintro o1_ hp
     try dsimp only at hp
     subst hp
     refine go_seq ?_
     refine go_seq ?_
     refine go_regionJ hR ⟨[(2, .ptr 0 0), (3, .ptr 1 0), (35, (bo (((decide (a1.Turn < 0)) || (decide (a1.Turn > o1))) || ((!(oper_keeps a0)) && (decide (((a1.Keys.length : Nat) : Int) > 0))))))], [(0, .box (SOp.avs a0) 57), (1, .box (SOpState.avs a1) 60)], 2⟩ ?_ ?_
     ·skip
      rcases Bool.eq_false_or_eq_true (decide (a1.Turn < 0)) with h3 | h3
      ·simp (maxSteps := 4000000) only [h3, AVS, bits_i64, EVB, eqF, Op.operands, IntKind.bits, descF, sizeF, bytesF, zeroF, seval, reduceCtorEq, ↓reduceIte]
       try simp only [h3, BM]
       exact Weak.sub' ⟨rfl, rfl, rfl, trivial⟩ ⟨rfl, rfl, trivial⟩ (Nat.le_of_ble_eq_true rfl)
      ·rcases Bool.eq_false_or_eq_true (decide (a1.Turn > o1)) with h4 | h4
       ·simp (maxSteps := 4000000) only [h3, h4, AVS, bits_i64, EVB, eqF, Op.operands, IntKind.bits, descF, sizeF, bytesF, zeroF, seval, reduceCtorEq, ↓reduceIte]
        try simp only [h3, h4, BM]
        exact Weak.sub' ⟨rfl, rfl, rfl, trivial⟩ ⟨rfl, rfl, trivial⟩ (Nat.le_of_ble_eq_true rfl)
       ·rcases Bool.eq_false_or_eq_true (!(oper_keeps a0)) with h5 | h5
        ·simp (maxSteps := 4000000) only [h3, h4, h5, AVS, bits_i64, EVB, eqF, Op.operands, IntKind.bits, descF, sizeF, bytesF, zeroF, seval, reduceCtorEq, ↓reduceIte]
         refine CallK.freshE (oper_keeps_t a0).toO rfl (by first | rfl | (simp only [NM]; done) | (simp only [AVS, NM]; done)) (by (repeat' apply And.intro) <;> first | trivial | rfl | omega | (simp only [NM]; omega)) (.inl rfl) (by exact Nat.le_of_ble_eq_true rfl) ?_
         try simp (maxSteps := 4000000) only [h3, h4, h5, AVS, bits_i64, EVB, eqF, Op.operands, IntKind.bits, descF, sizeF, bytesF, zeroF, seval, reduceCtorEq, ↓reduceIte]
         try simp only [h3, h4, h5, BM]
         exact Weak.sub' ⟨rfl, rfl, rfl, trivial⟩ ⟨rfl, rfl, trivial⟩ (Nat.le_of_ble_eq_true rfl)
        ·simp (maxSteps := 4000000) only [h3, h4, h5, AVS, bits_i64, EVB, eqF, Op.operands, IntKind.bits, descF, sizeF, bytesF, zeroF, seval, reduceCtorEq, ↓reduceIte]
         refine CallK.freshE (oper_keeps_t a0).toO rfl (by first | rfl | (simp only [NM]; done) | (simp only [AVS, NM]; done)) (by (repeat' apply And.intro) <;> first | trivial | rfl | omega | (simp only [NM]; omega)) (.inl rfl) (by exact Nat.le_of_ble_eq_true rfl) ?_
         try simp (maxSteps := 4000000) only [h3, h4, h5, AVS, bits_i64, EVB, eqF, Op.operands, IntKind.bits, descF, sizeF, bytesF, zeroF, seval, reduceCtorEq, ↓reduceIte]
         try simp only [h3, h4, h5, BM]
         exact Weak.sub' ⟨rfl, rfl, rfl, trivial⟩ ⟨rfl, rfl, trivial⟩ (Nat.le_of_ble_eq_true rfl)
     ·skip
      refine go_cond (by rfl) (fun h6 => ?_) (fun h6 => ?_)
      ·have gh6 := h6
       try simp only [GN, beq_iff_eq, beq_eq_false_iff_ne, bne_iff_ne, bne_eq_false_iff_eq] at gh6
       simp only [h6, cond_true, cond_false] at hx0
       refine go_seq ?_
       refine go_regionJ hR ⟨[(4, (iV 70))], [], 2⟩ ?_ ?_
       ·skip
        simp only [AVS, bits_i64, EVB, eqF, Op.operands, IntKind.bits, descF, sizeF, bytesF, zeroF, seval, reduceCtorEq, ↓reduceIte]
        exact Weak.sub' ⟨rfl, trivial⟩ trivial (Nat.le_of_ble_eq_true rfl)
       ·skip
        subst hx0
        refine go_return ttOk (fun _ h => h) rfl ?_ ?_
        ·exact (by (repeat' apply And.intro) <;> first | trivial | exact Nat.le_of_ble_eq_true rfl | omega | (simp only [NM]; omega))
        ·first | rfl | (simp only [NM, CELLS] <;> rfl)
      ·have gh6 := h6
       try simp only [GN, beq_iff_eq, beq_eq_false_iff_ne, bne_iff_ne, bne_eq_false_iff_eq] at gh6
       simp only [h6, cond_true, cond_false] at hx0
       refine go_skip ?_
       refine go_seq ?_
       refine go_seq ?_
       refine go_regionJ hR ⟨[(2, .ptr 0 0), (3, .ptr 1 0), (37, (sL SKeyState.cells a1.Keys)), (38, (iV ((a1.Keys.length : Nat) : Int))), (39, (iV 0))], [(0, .box (SOp.avs a0) 57), (1, .box (SOpState.avs a1) 60)], 2⟩ ?_ ?_
       ·skip
        simp only [AVS, bits_i64, EVB, eqF, Op.operands, IntKind.bits, descF, sizeF, bytesF, zeroF, seval, reduceCtorEq, ↓reduceIte]
        exact Weak.sub' ⟨rfl, rfl, rfl, rfl, rfl, trivial⟩ ⟨rfl, rfl, trivial⟩ (Nat.le_of_ble_eq_true rfl)
       ·skip
        obtain ⟨o7s, hx1, hx0⟩ := letIn_ex hx0
        refine go_joinE (fun p : Unit => ⟨[], [], 0⟩) (fun p : Unit => o7s = Sum.inr p) ?_ ?_
        ·refine go_block ?_
         refine go_len (t := 37) rfl (fun hl28 => ?_)
         simp only [List.length_map, maxLen_eq] at hl28
         refine go_loop (fun p : Nat => ⟨[(2, .ptr 0 0), (3, .ptr 1 0), (37, (sL SKeyState.cells a1.Keys)), (38, (iV ((a1.Keys.length : Nat) : Int))), (39, (iV ((p : Nat) : Int)))], [(0, .box (SOp.avs a0) 57), (1, .box (SOpState.avs a1) 60)], 2⟩) (fun p : Nat => (p ≤ a1.Keys.length) ∧ oper_Check_L0 a0 a1 p = o7s) (fun p : Nat => a1.Keys.length - p) 0 ⟨(by (try dsimp only); (repeat' apply And.intro) <;> first | trivial | omega | assumption | (simp; done)), hx1⟩ (Weak.canon [0, 1] [2, 3, 37, 38, 39] (by decide) rfl (by simp) rfl (by simp) (by first | rfl | (simp only [NM, CELLS] <;> rfl) | simp [NM, CELLS]) (by first | rfl | (simp only [NM, CELLS] <;> rfl) | simp [NM, CELLS]) rfl) ?_
         rintro x14 ⟨hi29, hx1⟩
         try dsimp only at hi29 hx1 ⊢
         rw [oper_Check_L0.eq_def] at hx1
         refine go_seq ?_
         refine go_regionJ hR ⟨[(2, .ptr 0 0), (3, .ptr 1 0), (37, (sL SKeyState.cells a1.Keys)), (38, (iV ((a1.Keys.length : Nat) : Int))), (39, (iV ((x14 : Nat) : Int))), (40, (bo (decide (((x14 : Nat) : Int) < ((a1.Keys.length : Nat) : Int)))))], [(0, .box (SOp.avs a0) 57), (1, .box (SOpState.avs a1) 60)], 2⟩ ?_ ?_
         ·skip
          simp only [AVS, bits_i64, EVB, eqF, Op.operands, IntKind.bits, descF, sizeF, bytesF, zeroF, seval, reduceCtorEq, ↓reduceIte]
          exact Weak.sub' ⟨rfl, rfl, rfl, rfl, rfl, rfl, trivial⟩ ⟨rfl, rfl, trivial⟩ (Nat.le_of_ble_eq_true rfl)
         ·skip
          refine go_seq ?_
          refine go_cond (by rfl) (fun h15 => ?_) (fun h15 => ?_)
          ·have gh15 := h15
           try simp only [GN, beq_iff_eq, beq_eq_false_iff_ne, bne_iff_ne, bne_eq_false_iff_eq] at gh15
           simp only [h15, dite_true, dite_false, reduceDIte, Bool.false_eq_true] at hx1
           refine go_skip ?_
           refine go_seq ?_
           refine go_block ?_
           refine go_seq ?_
           refine go_regionJ hR ⟨[(2, .ptr 0 0), (3, .ptr 1 0), (6, (iV ((x14 : Nat) : Int))), (7, .ptr 2 0), (37, (sL SKeyState.cells a1.Keys)), (38, (iV ((a1.Keys.length : Nat) : Int))), (39, (iV ((x14 : Nat) : Int)))], [(0, .box (SOp.avs a0) 57), (1, .box (SOpState.avs a1) 60), (2, .box (SKeyState.avs (List.getD a1.Keys x14 default)) 72)], 3⟩ ?_ ?_
           ·skip
            have bq30 : x14 < a1.Keys.length := by omega
            have q30 := map_getD SKeyState.cells a1.Keys x14 default bq30
            simp only [q30, AVS, bits_i64, EVB, eqF, Op.operands, IntKind.bits, descF, sizeF, bytesF, zeroF, seval, reduceCtorEq, ↓reduceIte, CELLS]
            refine ⟨(by (repeat' apply And.intro) <;> first | trivial | rfl | exact Nat.le_of_ble_eq_true rfl | omega | (intro u hu; obtain ⟨x, _, rfl⟩ := List.mem_map.1 hu; rfl) | (intro u hu; simp only [List.mem_cons, List.not_mem_nil, or_false] at hu; subst hu; rfl) | (simp only [NM]; omega) | (simp; done)), ?_⟩
            exact Weak.sub' ⟨rfl, rfl, rfl, rfl, rfl, rfl, rfl, trivial⟩ ⟨rfl, rfl, rfl, trivial⟩ (Nat.le_of_ble_eq_true rfl)
           ·skip
            refine go_seq ?_
            refine go_drawJ hR rfl ⟨[(2, .ptr 0 0), (3, .ptr 1 0), (37, (sL SKeyState.cells a1.Keys)), (38, (iV ((a1.Keys.length : Nat) : Int))), (39, (iV ((x14 : Nat) : Int))), (79, (bo (((((decide (((x14 : Nat) : Int) > 0)) && (decide ((List.getD a1.Keys x14 default).Key ≤ (List.getD a1.Keys (Int.toNat (((x14 : Nat) : Int) - 1)) default).Key))) || (decide ((List.getD a1.Keys x14 default).Count < 1))) || (decide ((List.getD a1.Keys x14 default).Count > 9007199254740992))) || ((a0.Kind == 6) && (decide ((List.getD a1.Keys x14 default).Count ≥ a0.Arg))))))], [(0, .box (SOp.avs a0) 57), (1, .box (SOpState.avs a1) 60)], 3⟩ ?_ ?_
            ·skip
             rcases Bool.eq_false_or_eq_true (decide (((x14 : Nat) : Int) > 0)) with h16 | h16
             ·have gh16 := h16
              try simp only [GN, beq_iff_eq, beq_eq_false_iff_ne, bne_iff_ne, bne_eq_false_iff_eq] at gh16
              rcases Bool.eq_false_or_eq_true (decide ((List.getD a1.Keys x14 default).Key ≤ (List.getD a1.Keys (Int.toNat (((x14 : Nat) : Int) - 1)) default).Key)) with h17 | h17
              ·have w31 : IntKind.i64.wrap (((x14 : Nat) : Int) - 1) = ((x14 : Nat) : Int) - 1 := by rw [IntKind.wrap_i64]; omega
               have bq32 : (Int.toNat (((x14 : Nat) : Int) - 1)) < a1.Keys.length := by omega
               have q32 := map_getD SKeyState.cells a1.Keys (Int.toNat (((x14 : Nat) : Int) - 1)) default bq32
               simp (maxSteps := 4000000) only [h16, h17, w31, q32, AVS, bits_i64, EVB, eqF, Op.operands, IntKind.bits, descF, sizeF, bytesF, zeroF, seval, reduceCtorEq, ↓reduceIte, CELLS]
               refine ⟨(by (repeat' apply And.intro) <;> first | trivial | rfl | exact Nat.le_of_ble_eq_true rfl | omega | (intro u hu; obtain ⟨x, _, rfl⟩ := List.mem_map.1 hu; rfl) | (intro u hu; simp only [List.mem_cons, List.not_mem_nil, or_false] at hu; subst hu; rfl) | (simp only [NM]; omega) | (simp; done)), ?_⟩
               refine ⟨by kernel_rfl, ?_⟩
               try simp only [h16, h17, BM]
               exact Weak.sub' ⟨rfl, rfl, rfl, rfl, rfl, rfl, trivial⟩ ⟨rfl, rfl, trivial⟩ (Nat.le_of_ble_eq_true rfl)
              ·rcases Bool.eq_false_or_eq_true (decide ((List.getD a1.Keys x14 default).Count < 1)) with h18 | h18
               ·have w33 : IntKind.i64.wrap (((x14 : Nat) : Int) - 1) = ((x14 : Nat) : Int) - 1 := by rw [IntKind.wrap_i64]; omega
                have bq34 : (Int.toNat (((x14 : Nat) : Int) - 1)) < a1.Keys.length := by omega
                have q34 := map_getD SKeyState.cells a1.Keys (Int.toNat (((x14 : Nat) : Int) - 1)) default bq34
                simp (maxSteps := 4000000) only [h16, h17, h18, w33, q34, AVS, bits_i64, EVB, eqF, Op.operands, IntKind.bits, descF, sizeF, bytesF, zeroF, seval, reduceCtorEq, ↓reduceIte, CELLS]
                refine ⟨(by (repeat' apply And.intro) <;> first | trivial | rfl | exact Nat.le_of_ble_eq_true rfl | omega | (intro u hu; obtain ⟨x, _, rfl⟩ := List.mem_map.1 hu; rfl) | (intro u hu; simp only [List.mem_cons, List.not_mem_nil, or_false] at hu; subst hu; rfl) | (simp only [NM]; omega) | (simp; done)), ?_⟩
                refine ⟨by kernel_rfl, ?_⟩
                try simp only [h16, h17, h18, BM]
                exact Weak.sub' ⟨rfl, rfl, rfl, rfl, rfl, rfl, trivial⟩ ⟨rfl, rfl, trivial⟩ (Nat.le_of_ble_eq_true rfl)
               ·rcases Bool.eq_false_or_eq_true (decide ((List.getD a1.Keys x14 default).Count > 9007199254740992)) with h19 | h19
                ·have w35 : IntKind.i64.wrap (((x14 : Nat) : Int) - 1) = ((x14 : Nat) : Int) - 1 := by rw [IntKind.wrap_i64]; omega
                 have bq36 : (Int.toNat (((x14 : Nat) : Int) - 1)) < a1.Keys.length := by omega
                 have q36 := map_getD SKeyState.cells a1.Keys (Int.toNat (((x14 : Nat) : Int) - 1)) default bq36
                 simp (maxSteps := 4000000) only [h16, h17, h18, h19, w35, q36, AVS, bits_i64, EVB, eqF, Op.operands, IntKind.bits, descF, sizeF, bytesF, zeroF, seval, reduceCtorEq, ↓reduceIte, CELLS]
                 refine ⟨(by (repeat' apply And.intro) <;> first | trivial | rfl | exact Nat.le_of_ble_eq_true rfl | omega | (intro u hu; obtain ⟨x, _, rfl⟩ := List.mem_map.1 hu; rfl) | (intro u hu; simp only [List.mem_cons, List.not_mem_nil, or_false] at hu; subst hu; rfl) | (simp only [NM]; omega) | (simp; done)), ?_⟩
                 refine ⟨by kernel_rfl, ?_⟩
                 try simp only [h16, h17, h18, h19, BM]
                 exact Weak.sub' ⟨rfl, rfl, rfl, rfl, rfl, rfl, trivial⟩ ⟨rfl, rfl, trivial⟩ (Nat.le_of_ble_eq_true rfl)
                ·rcases Bool.eq_false_or_eq_true (a0.Kind == 6) with h20 | h20
                 ·have w37 : IntKind.i64.wrap (((x14 : Nat) : Int) - 1) = ((x14 : Nat) : Int) - 1 := by rw [IntKind.wrap_i64]; omega
                  have bq38 : (Int.toNat (((x14 : Nat) : Int) - 1)) < a1.Keys.length := by omega
                  have q38 := map_getD SKeyState.cells a1.Keys (Int.toNat (((x14 : Nat) : Int) - 1)) default bq38
                  simp (maxSteps := 4000000) only [h16, h17, h18, h19, h20, w37, q38, AVS, bits_i64, EVB, eqF, Op.operands, IntKind.bits, descF, sizeF, bytesF, zeroF, seval, reduceCtorEq, ↓reduceIte, CELLS]
                  refine ⟨(by (repeat' apply And.intro) <;> first | trivial | rfl | exact Nat.le_of_ble_eq_true rfl | omega | (intro u hu; obtain ⟨x, _, rfl⟩ := List.mem_map.1 hu; rfl) | (intro u hu; simp only [List.mem_cons, List.not_mem_nil, or_false] at hu; subst hu; rfl) | (simp only [NM]; omega) | (simp; done)), ?_⟩
                  refine ⟨by kernel_rfl, ?_⟩
                  try simp only [h16, h17, h18, h19, h20, BM]
                  exact Weak.sub' ⟨rfl, rfl, rfl, rfl, rfl, rfl, trivial⟩ ⟨rfl, rfl, trivial⟩ (Nat.le_of_ble_eq_true rfl)
                 ·have w39 : IntKind.i64.wrap (((x14 : Nat) : Int) - 1) = ((x14 : Nat) : Int) - 1 := by rw [IntKind.wrap_i64]; omega
                  have bq40 : (Int.toNat (((x14 : Nat) : Int) - 1)) < a1.Keys.length := by omega
                  have q40 := map_getD SKeyState.cells a1.Keys (Int.toNat (((x14 : Nat) : Int) - 1)) default bq40
                  simp (maxSteps := 4000000) only [h16, h17, h18, h19, h20, w39, q40, AVS, bits_i64, EVB, eqF, Op.operands, IntKind.bits, descF, sizeF, bytesF, zeroF, seval, reduceCtorEq, ↓reduceIte, CELLS]
                  refine ⟨(by (repeat' apply And.intro) <;> first | trivial | rfl | exact Nat.le_of_ble_eq_true rfl | omega | (intro u hu; obtain ⟨x, _, rfl⟩ := List.mem_map.1 hu; rfl) | (intro u hu; simp only [List.mem_cons, List.not_mem_nil, or_false] at hu; subst hu; rfl) | (simp only [NM]; omega) | (simp; done)), ?_⟩
                  refine ⟨by kernel_rfl, ?_⟩
                  try simp only [h16, h17, h18, h19, h20, BM]
                  exact Weak.sub' ⟨rfl, rfl, rfl, rfl, rfl, rfl, trivial⟩ ⟨rfl, rfl, trivial⟩ (Nat.le_of_ble_eq_true rfl)
             ·rcases Bool.eq_false_or_eq_true (decide ((List.getD a1.Keys x14 default).Count < 1)) with h21 | h21
              ·simp (maxSteps := 4000000) only [h16, h21, AVS, bits_i64, EVB, eqF, Op.operands, IntKind.bits, descF, sizeF, bytesF, zeroF, seval, reduceCtorEq, ↓reduceIte]
               refine ⟨by kernel_rfl, ?_⟩
               try simp only [h16, h21, BM]
               exact Weak.sub' ⟨rfl, rfl, rfl, rfl, rfl, rfl, trivial⟩ ⟨rfl, rfl, trivial⟩ (Nat.le_of_ble_eq_true rfl)
              ·rcases Bool.eq_false_or_eq_true (decide ((List.getD a1.Keys x14 default).Count > 9007199254740992)) with h22 | h22
               ·simp (maxSteps := 4000000) only [h16, h21, h22, AVS, bits_i64, EVB, eqF, Op.operands, IntKind.bits, descF, sizeF, bytesF, zeroF, seval, reduceCtorEq, ↓reduceIte]
                refine ⟨by kernel_rfl, ?_⟩
                try simp only [h16, h21, h22, BM]
                exact Weak.sub' ⟨rfl, rfl, rfl, rfl, rfl, rfl, trivial⟩ ⟨rfl, rfl, trivial⟩ (Nat.le_of_ble_eq_true rfl)
               ·rcases Bool.eq_false_or_eq_true (a0.Kind == 6) with h23 | h23
                ·simp (maxSteps := 4000000) only [h16, h21, h22, h23, AVS, bits_i64, EVB, eqF, Op.operands, IntKind.bits, descF, sizeF, bytesF, zeroF, seval, reduceCtorEq, ↓reduceIte]
                 refine ⟨by kernel_rfl, ?_⟩
                 try simp only [h16, h21, h22, h23, BM]
                 exact Weak.sub' ⟨rfl, rfl, rfl, rfl, rfl, rfl, trivial⟩ ⟨rfl, rfl, trivial⟩ (Nat.le_of_ble_eq_true rfl)
                ·simp (maxSteps := 4000000) only [h16, h21, h22, h23, AVS, bits_i64, EVB, eqF, Op.operands, IntKind.bits, descF, sizeF, bytesF, zeroF, seval, reduceCtorEq, ↓reduceIte]
                 refine ⟨by kernel_rfl, ?_⟩
                 try simp only [h16, h21, h22, h23, BM]
                 exact Weak.sub' ⟨rfl, rfl, rfl, rfl, rfl, rfl, trivial⟩ ⟨rfl, rfl, trivial⟩ (Nat.le_of_ble_eq_true rfl)
            ·skip
             refine go_cond (by rfl) (fun h24 => ?_) (fun h24 => ?_)
             ·have gh24 := h24
              try simp only [GN, beq_iff_eq, beq_eq_false_iff_ne, bne_iff_ne, bne_eq_false_iff_eq] at gh24
              simp only [h24, dite_true, dite_false, reduceDIte, Bool.false_eq_true] at hx1
              refine go_seq ?_
              refine go_regionJ hR ⟨[(4, (iV 70))], [], 3⟩ ?_ ?_
              ·skip
               simp only [AVS, bits_i64, EVB, eqF, Op.operands, IntKind.bits, descF, sizeF, bytesF, zeroF, seval, reduceCtorEq, ↓reduceIte]
               exact Weak.sub' ⟨rfl, trivial⟩ trivial (Nat.le_of_ble_eq_true rfl)
              ·skip
               subst hx1
               simp only [Sum.elim_inl] at hx0
               subst hx0
               refine go_return ttOk (fun _ h => h) rfl ?_ ?_
               ·exact (by (repeat' apply And.intro) <;> first | trivial | exact Nat.le_of_ble_eq_true rfl | omega | (simp only [NM]; omega))
               ·first | rfl | (simp only [NM, CELLS] <;> rfl)
             ·have gh24 := h24
              try simp only [GN, beq_iff_eq, beq_eq_false_iff_ne, bne_iff_ne, bne_eq_false_iff_eq] at gh24
              simp only [h24, dite_true, dite_false, reduceDIte, Bool.false_eq_true] at hx1
              refine go_skip ?_
              refine go_blk ?_
              refine go_regionJ hR ⟨[(2, .ptr 0 0), (3, .ptr 1 0), (37, (sL SKeyState.cells a1.Keys)), (38, (iV ((a1.Keys.length : Nat) : Int))), (39, (iV ((x14 + 1 : Nat) : Int)))], [(0, .box (SOp.avs a0) 57), (1, .box (SOpState.avs a1) 60)], 3⟩ ?_ ?_
              ·skip
               have w41 : IntKind.i64.wrap (((x14 : Nat) : Int) + 1) = ((x14 + 1 : Nat) : Int) := by rw [IntKind.wrap_i64]; omega
               simp only [w41, AVS, bits_i64, EVB, eqF, Op.operands, IntKind.bits, descF, sizeF, bytesF, zeroF, seval, reduceCtorEq, ↓reduceIte, CELLS]
               exact Weak.sub' ⟨rfl, rfl, rfl, rfl, rfl, trivial⟩ ⟨rfl, rfl, trivial⟩ (Nat.le_of_ble_eq_true rfl)
              ·skip
               exact go_fin ⟨x14 + 1, ⟨(by (try dsimp only); (repeat' apply And.intro) <;> first | trivial | omega | assumption | (simp; done)), hx1⟩, by (try dsimp only); omega, (Weak.canon [0, 1] [2, 3, 37, 38, 39] (by decide) rfl (by simp) rfl (by simp) (by first | rfl | (simp only [NM, CELLS] <;> rfl) | simp [NM, CELLS]) (by first | rfl | (simp only [NM, CELLS] <;> rfl) | simp [NM, CELLS]) rfl)⟩
          ·have gh15 := h15
           try simp only [GN, beq_iff_eq, beq_eq_false_iff_ne, bne_iff_ne, bne_eq_false_iff_eq] at gh15
           simp only [h15, dite_true, dite_false, reduceDIte, Bool.false_eq_true] at hx1
           refine go_exit rfl ?_
           exact go_fin ⟨(), hx1.symm, (Weak.canon [] [] (by decide) rfl trivial rfl (by simp) (by first | rfl | (simp only [NM, CELLS] <;> rfl) | simp [NM, CELLS]) rfl rfl)⟩
        ·rintro o7 hp
         try dsimp only at hp
         subst hp
         simp only [Sum.elim_inr] at hx0
         refine go_seq ?_
         refine go_regionJ hR ⟨[(4, (iV 0))], [], 0⟩ ?_ ?_
         ·skip
          simp only [AVS, bits_i64, EVB, eqF, Op.operands, IntKind.bits, descF, sizeF, bytesF, zeroF, seval, reduceCtorEq, ↓reduceIte]
          exact Weak.sub' ⟨rfl, trivial⟩ trivial (Nat.le_of_ble_eq_true rfl)
         ·skip
          subst hx0
          refine go_return ttOk (fun _ h => h) rfl ?_ ?_
          ·exact (by (repeat' apply And.intro) <;> first | trivial | exact Nat.le_of_ble_eq_true rfl | omega | (simp only [NM]; omega))
          ·first | rfl | (simp only [NM, CELLS] <;> rfl)

def pontoonref07_Same_L0 (a0 : SOpState) (a1 : SOpState) (x7 : Nat) : Sum Bool Unit :=
  (if h8 : (decide (((x7 : Nat) : Int) < ((a0.Keys.length : Nat) : Int))) = true then (if h9 : (!(decide ([(List.getD a0.Keys x7 default).Key, (List.getD a0.Keys x7 default).Count, (List.getD a0.Keys x7 default).Acc] = [(List.getD a1.Keys x7 default).Key, (List.getD a1.Keys x7 default).Count, (List.getD a1.Keys x7 default).Acc]))) = true then (Sum.inl false) else (pontoonref07_Same_L0 a0 a1 (x7 + 1))) else (Sum.inr ()))
termination_by a0.Keys.length - x7
decreasing_by all_goals (try simp only [GN, beq_iff_eq, beq_eq_false_iff_ne, bne_iff_ne, bne_eq_false_iff_eq] at *) <;> omega
def pontoonref07_Same (a0 : SOpState) (a1 : SOpState) : Bool :=
  (bif ((a0.Turn != a1.Turn) || (((a0.Keys.length : Nat) : Int) != ((a1.Keys.length : Nat) : Int))) then false else letIn (pontoonref07_Same_L0 a0 a1 0) fun o3s => Sum.elim (fun q => q) (fun o3 => true) o3s)
set_option maxRecDepth 10000 in
set_option maxHeartbeats 8000000 in
theorem pontoonref07_Same_t (a0 : SOpState) (a1 : SOpState) : FnP Try.prog 22 [.agg (SOpState.avs a0), .agg (SOpState.avs a1)] ((bo (pontoonref07_Same a0 a1))) := by
 refine FnP.intro (tt := tt) Try.func22 rfl (by kernel_rfl) (by simp [Try.ntmps22]) fun w0 A hA => ?_
 have hR := reckB_ok eqOk ttOk
 obtain ⟨res, hx0⟩ : ∃ r, pontoonref07_Same a0 a1 = r := ⟨_, rfl⟩
 simp only [hx0]
 unfold pontoonref07_Same at hx0
 simp only [argT, Try.ntmps22]
 refine go_seq ?_
 refine go_regionJ hR ⟨[(2, .ptr 0 0), (3, .ptr 1 0)], [(0, .box (SOpState.avs a0) 60), (1, .box (SOpState.avs a1) 60)], 2⟩ ?_ ?_
 ·skip
  simp only [AVS, bits_i64, EVB, eqF, Op.operands, IntKind.bits, descF, sizeF, bytesF, zeroF, seval, reduceCtorEq, ↓reduceIte]
  exact Weak.sub' ⟨rfl, rfl, trivial⟩ ⟨rfl, rfl, trivial⟩ (Nat.le_of_ble_eq_true rfl)
 ·skip
  refine go_seq ?_
  refine go_seq ?_
  refine go_regionJ hR ⟨[(2, .ptr 0 0), (3, .ptr 1 0), (19, (bo ((a0.Turn != a1.Turn) || (((a0.Keys.length : Nat) : Int) != ((a1.Keys.length : Nat) : Int)))))], [(0, .box (SOpState.avs a0) 60), (1, .box (SOpState.avs a1) 60)], 2⟩ ?_ ?_
  ·skip
   rcases Bool.eq_false_or_eq_true (a0.Turn != a1.Turn) with h1 | h1
   ·simp only [h1, AVS, bits_i64, EVB, eqF, Op.operands, IntKind.bits, descF, sizeF, bytesF, zeroF, seval, reduceCtorEq, ↓reduceIte]
    try simp only [h1, BM]
    exact Weak.sub' ⟨rfl, rfl, rfl, trivial⟩ ⟨rfl, rfl, trivial⟩ (Nat.le_of_ble_eq_true rfl)
   ·simp only [h1, AVS, bits_i64, EVB, eqF, Op.operands, IntKind.bits, descF, sizeF, bytesF, zeroF, seval, reduceCtorEq, ↓reduceIte]
    try simp only [h1, BM]
    exact Weak.sub' ⟨rfl, rfl, rfl, trivial⟩ ⟨rfl, rfl, trivial⟩ (Nat.le_of_ble_eq_true rfl)
  ·skip
   refine go_cond (by rfl) (fun h2 => ?_) (fun h2 => ?_)
   ·have gh2 := h2
    try simp only [GN, beq_iff_eq, beq_eq_false_iff_ne, bne_iff_ne, bne_eq_false_iff_eq] at gh2
    simp only [h2, cond_true, cond_false] at hx0
    refine go_seq ?_
    refine go_regionJ hR ⟨[(4, (bo false))], [], 2⟩ ?_ ?_
    ·skip
     simp only [AVS, bits_i64, EVB, eqF, Op.operands, IntKind.bits, descF, sizeF, bytesF, zeroF, seval, reduceCtorEq, ↓reduceIte]
     exact Weak.sub' ⟨rfl, trivial⟩ trivial (Nat.le_of_ble_eq_true rfl)
    ·skip
     subst hx0
     refine go_return ttOk (fun _ h => h) rfl ?_ ?_
     ·exact (by (repeat' apply And.intro) <;> first | trivial | exact Nat.le_of_ble_eq_true rfl | omega | (simp only [NM]; omega))
     ·first | rfl | (simp only [NM, CELLS] <;> rfl)
   ·have gh2 := h2
    try simp only [GN, beq_iff_eq, beq_eq_false_iff_ne, bne_iff_ne, bne_eq_false_iff_eq] at gh2
    simp only [h2, cond_true, cond_false] at hx0
    refine go_skip ?_
    refine go_seq ?_
    refine go_seq ?_
    refine go_regionJ hR ⟨[(2, .ptr 0 0), (3, .ptr 1 0), (5, (iV 0))], [(0, .box (SOpState.avs a0) 60), (1, .box (SOpState.avs a1) 60)], 2⟩ ?_ ?_
    ·skip
     simp only [AVS, bits_i64, EVB, eqF, Op.operands, IntKind.bits, descF, sizeF, bytesF, zeroF, seval, reduceCtorEq, ↓reduceIte]
     exact Weak.sub' ⟨rfl, rfl, rfl, trivial⟩ ⟨rfl, rfl, trivial⟩ (Nat.le_of_ble_eq_true rfl)
    ·skip
     obtain ⟨o3s, hx1, hx0⟩ := letIn_ex hx0
     refine go_joinE (fun p : Unit => ⟨[], [], 0⟩) (fun p : Unit => o3s = Sum.inr p) ?_ ?_
     ·refine go_block ?_
      refine go_lenB (b := 0) rfl 0 rfl (fun hl10 => ?_)
      simp only [List.length_map, maxLen_eq] at hl10
      refine go_lenB (b := 1) rfl 0 rfl (fun hl11 => ?_)
      simp only [List.length_map, maxLen_eq] at hl11
      refine go_loop (fun p : Nat => ⟨[(2, .ptr 0 0), (3, .ptr 1 0), (5, (iV ((p : Nat) : Int)))], [(0, .box (SOpState.avs a0) 60), (1, .box (SOpState.avs a1) 60)], 2⟩) (fun p : Nat => (p ≤ a0.Keys.length) ∧ pontoonref07_Same_L0 a0 a1 p = o3s) (fun p : Nat => a0.Keys.length - p) 0 ⟨(by (try dsimp only); (repeat' apply And.intro) <;> first | trivial | omega | assumption | (simp; done)), hx1⟩ (Weak.canon [0, 1] [2, 3, 5] (by decide) rfl (by simp) rfl (by simp) (by first | rfl | (simp only [NM, CELLS] <;> rfl) | simp [NM, CELLS]) (by first | rfl | (simp only [NM, CELLS] <;> rfl) | simp [NM, CELLS]) rfl) ?_
      rintro x7 ⟨hi12, hx1⟩
      try dsimp only at hi12 hx1 ⊢
      rw [pontoonref07_Same_L0.eq_def] at hx1
      refine go_seq ?_
      refine go_seq ?_
      refine go_regionJ hR ⟨[(2, .ptr 0 0), (3, .ptr 1 0), (5, (iV ((x7 : Nat) : Int))), (24, (bo (decide (((x7 : Nat) : Int) < ((a0.Keys.length : Nat) : Int)))))], [(0, .box (SOpState.avs a0) 60), (1, .box (SOpState.avs a1) 60)], 2⟩ ?_ ?_
      ·skip
       simp only [AVS, bits_i64, EVB, eqF, Op.operands, IntKind.bits, descF, sizeF, bytesF, zeroF, seval, reduceCtorEq, ↓reduceIte]
       exact Weak.sub' ⟨rfl, rfl, rfl, rfl, trivial⟩ ⟨rfl, rfl, trivial⟩ (Nat.le_of_ble_eq_true rfl)
      ·skip
       refine go_cond (by rfl) (fun h8 => ?_) (fun h8 => ?_)
       ·have gh8 := h8
        try simp only [GN, beq_iff_eq, beq_eq_false_iff_ne, bne_iff_ne, bne_eq_false_iff_eq] at gh8
        simp only [h8, dite_true, dite_false, reduceDIte, Bool.false_eq_true] at hx1
        refine go_skip ?_
        refine go_seq ?_
        refine go_block ?_
        refine go_seq ?_
        refine go_drawJ hR rfl ⟨[(2, .ptr 0 0), (3, .ptr 1 0), (5, (iV ((x7 : Nat) : Int))), (37, (bo (!(decide ([(List.getD a0.Keys x7 default).Key, (List.getD a0.Keys x7 default).Count, (List.getD a0.Keys x7 default).Acc] = [(List.getD a1.Keys x7 default).Key, (List.getD a1.Keys x7 default).Count, (List.getD a1.Keys x7 default).Acc])))))], [(0, .box (SOpState.avs a0) 60), (1, .box (SOpState.avs a1) 60)], 2⟩ ?_ ?_
        ·skip
         have bq13 : x7 < a0.Keys.length := by omega
         have q13 := map_getD SKeyState.cells a0.Keys x7 default bq13
         have bq14 : x7 < a1.Keys.length := by omega
         have q14 := map_getD SKeyState.cells a1.Keys x7 default bq14
         simp only [q13, q14, AVS, bits_i64, EVB, eqF, Op.operands, IntKind.bits, descF, sizeF, bytesF, zeroF, seval, reduceCtorEq, ↓reduceIte, CELLS]
         refine ⟨(by (repeat' apply And.intro) <;> first | trivial | rfl | exact Nat.le_of_ble_eq_true rfl | omega | (intro u hu; obtain ⟨x, _, rfl⟩ := List.mem_map.1 hu; rfl) | (intro u hu; simp only [List.mem_cons, List.not_mem_nil, or_false] at hu; subst hu; rfl) | (simp only [NM]; omega) | (simp; done)), ?_⟩
         refine ⟨(by (repeat' apply And.intro) <;> first | trivial | rfl | exact Nat.le_of_ble_eq_true rfl | omega | (intro u hu; obtain ⟨x, _, rfl⟩ := List.mem_map.1 hu; rfl) | (intro u hu; simp only [List.mem_cons, List.not_mem_nil, or_false] at hu; subst hu; rfl) | (simp only [NM]; omega) | (simp; done)), ?_⟩
         refine ⟨by kernel_rfl, ?_⟩
         exact Weak.sub' ⟨rfl, rfl, rfl, rfl, trivial⟩ ⟨rfl, rfl, trivial⟩ (Nat.le_of_ble_eq_true rfl)
        ·skip
         refine go_cond (by rfl) (fun h9 => ?_) (fun h9 => ?_)
         ·have gh9 := h9
          try simp only [GN, beq_iff_eq, beq_eq_false_iff_ne, bne_iff_ne, bne_eq_false_iff_eq] at gh9
          simp only [h9, dite_true, dite_false, reduceDIte, Bool.false_eq_true] at hx1
          refine go_seq ?_
          refine go_regionJ hR ⟨[(4, (bo false))], [], 2⟩ ?_ ?_
          ·skip
           simp only [AVS, bits_i64, EVB, eqF, Op.operands, IntKind.bits, descF, sizeF, bytesF, zeroF, seval, reduceCtorEq, ↓reduceIte]
           exact Weak.sub' ⟨rfl, trivial⟩ trivial (Nat.le_of_ble_eq_true rfl)
          ·skip
           subst hx1
           simp only [Sum.elim_inl] at hx0
           subst hx0
           refine go_return ttOk (fun _ h => h) rfl ?_ ?_
           ·exact (by (repeat' apply And.intro) <;> first | trivial | exact Nat.le_of_ble_eq_true rfl | omega | (simp only [NM]; omega))
           ·first | rfl | (simp only [NM, CELLS] <;> rfl)
         ·have gh9 := h9
          try simp only [GN, beq_iff_eq, beq_eq_false_iff_ne, bne_iff_ne, bne_eq_false_iff_eq] at gh9
          simp only [h9, dite_true, dite_false, reduceDIte, Bool.false_eq_true] at hx1
          refine go_skip ?_
          refine go_blk ?_
          refine go_regionJ hR ⟨[(2, .ptr 0 0), (3, .ptr 1 0), (5, (iV ((x7 + 1 : Nat) : Int)))], [(0, .box (SOpState.avs a0) 60), (1, .box (SOpState.avs a1) 60)], 2⟩ ?_ ?_
          ·skip
           have w15 : IntKind.i64.wrap (((x7 : Nat) : Int) + 1) = ((x7 + 1 : Nat) : Int) := by rw [IntKind.wrap_i64]; omega
           simp only [w15, AVS, bits_i64, EVB, eqF, Op.operands, IntKind.bits, descF, sizeF, bytesF, zeroF, seval, reduceCtorEq, ↓reduceIte, CELLS]
           exact Weak.sub' ⟨rfl, rfl, rfl, trivial⟩ ⟨rfl, rfl, trivial⟩ (Nat.le_of_ble_eq_true rfl)
          ·skip
           exact go_fin ⟨x7 + 1, ⟨(by (try dsimp only); (repeat' apply And.intro) <;> first | trivial | omega | assumption | (simp; done)), hx1⟩, by (try dsimp only); omega, (Weak.canon [0, 1] [2, 3, 5] (by decide) rfl (by simp) rfl (by simp) (by first | rfl | (simp only [NM, CELLS] <;> rfl) | simp [NM, CELLS]) (by first | rfl | (simp only [NM, CELLS] <;> rfl) | simp [NM, CELLS]) rfl)⟩
       ·have gh8 := h8
        try simp only [GN, beq_iff_eq, beq_eq_false_iff_ne, bne_iff_ne, bne_eq_false_iff_eq] at gh8
        simp only [h8, dite_true, dite_false, reduceDIte, Bool.false_eq_true] at hx1
        refine go_exit rfl ?_
        exact go_fin ⟨(), hx1.symm, (Weak.canon [] [] (by decide) rfl trivial rfl (by simp) (by first | rfl | (simp only [NM, CELLS] <;> rfl) | simp [NM, CELLS]) rfl rfl)⟩
     ·rintro o3 hp
      try dsimp only at hp
      subst hp
      simp only [Sum.elim_inr] at hx0
      refine go_seq ?_
      refine go_regionJ hR ⟨[(4, (bo true))], [], 0⟩ ?_ ?_
      ·skip
       simp only [AVS, bits_i64, EVB, eqF, Op.operands, IntKind.bits, descF, sizeF, bytesF, zeroF, seval, reduceCtorEq, ↓reduceIte]
       exact Weak.sub' ⟨rfl, trivial⟩ trivial (Nat.le_of_ble_eq_true rfl)
      ·skip
       subst hx0
       refine go_return ttOk (fun _ h => h) rfl ?_ ?_
       ·exact (by (repeat' apply And.intro) <;> first | trivial | exact Nat.le_of_ble_eq_true rfl | omega | (simp only [NM]; omega))
       ·first | rfl | (simp only [NM, CELLS] <;> rfl)

def pontoonref07_SamePuts_L0 (a0 : (List SPut)) (a1 : (List SPut)) (x6 : Nat) : Sum Bool Unit :=
  (if h7 : (decide (((x6 : Nat) : Int) < ((a0.length : Nat) : Int))) = true then (if h8 : (!(decide ([(List.getD a0 x6 default).Port, ((List.getD a0 x6 default).Record).Key, ((List.getD a0 x6 default).Record).Val] = [(List.getD a1 x6 default).Port, ((List.getD a1 x6 default).Record).Key, ((List.getD a1 x6 default).Record).Val]))) = true then (Sum.inl false) else (pontoonref07_SamePuts_L0 a0 a1 (x6 + 1))) else (Sum.inr ()))
termination_by a0.length - x6
decreasing_by all_goals (try simp only [GN, beq_iff_eq, beq_eq_false_iff_ne, bne_iff_ne, bne_eq_false_iff_eq] at *) <;> omega
def pontoonref07_SamePuts (a0 : (List SPut)) (a1 : (List SPut)) : Bool :=
  (bif (((a0.length : Nat) : Int) != ((a1.length : Nat) : Int)) then false else letIn (pontoonref07_SamePuts_L0 a0 a1 0) fun o2s => Sum.elim (fun q => q) (fun o2 => true) o2s)
set_option maxRecDepth 10000 in
set_option maxHeartbeats 8000000 in
theorem pontoonref07_SamePuts_t (a0 : (List SPut)) (a1 : (List SPut)) : FnP Try.prog 23 [(sL SPut.cells a0), (sL SPut.cells a1)] ((bo (pontoonref07_SamePuts a0 a1))) := by
 refine FnP.intro (tt := tt) Try.func23 rfl (by kernel_rfl) (by simp [Try.ntmps23]) fun w0 A hA => ?_
 have hR := reckB_ok eqOk ttOk
 obtain ⟨res, hx0⟩ : ∃ r, pontoonref07_SamePuts a0 a1 = r := ⟨_, rfl⟩
 simp only [hx0]
 unfold pontoonref07_SamePuts at hx0
 simp only [argT, Try.ntmps23]
 refine go_seq ?_
 refine go_regionJ hR ⟨[(0, (sL SPut.cells a0)), (1, (sL SPut.cells a1))], [], 0⟩ ?_ ?_
 ·skip
  simp only [AVS, bits_i64, EVB, eqF, Op.operands, IntKind.bits, descF, sizeF, bytesF, zeroF, seval, reduceCtorEq, ↓reduceIte]
  exact Weak.sub' ⟨rfl, rfl, trivial⟩ trivial (Nat.le_of_ble_eq_true rfl)
 ·skip
  refine go_seq ?_
  refine go_seq ?_
  refine go_regionJ hR ⟨[(0, (sL SPut.cells a0)), (1, (sL SPut.cells a1)), (10, (bo (((a0.length : Nat) : Int) != ((a1.length : Nat) : Int))))], [], 0⟩ ?_ ?_
  ·skip
   simp only [AVS, bits_i64, EVB, eqF, Op.operands, IntKind.bits, descF, sizeF, bytesF, zeroF, seval, reduceCtorEq, ↓reduceIte]
   exact Weak.sub' ⟨rfl, rfl, rfl, trivial⟩ trivial (Nat.le_of_ble_eq_true rfl)
  ·skip
   refine go_cond (by rfl) (fun h1 => ?_) (fun h1 => ?_)
   ·have gh1 := h1
    try simp only [GN, beq_iff_eq, beq_eq_false_iff_ne, bne_iff_ne, bne_eq_false_iff_eq] at gh1
    simp only [h1, cond_true, cond_false] at hx0
    refine go_seq ?_
    refine go_regionJ hR ⟨[(4, (bo false))], [], 0⟩ ?_ ?_
    ·skip
     simp only [AVS, bits_i64, EVB, eqF, Op.operands, IntKind.bits, descF, sizeF, bytesF, zeroF, seval, reduceCtorEq, ↓reduceIte]
     exact Weak.sub' ⟨rfl, trivial⟩ trivial (Nat.le_of_ble_eq_true rfl)
    ·skip
     subst hx0
     refine go_return ttOk (fun _ h => h) rfl ?_ ?_
     ·exact (by (repeat' apply And.intro) <;> first | trivial | exact Nat.le_of_ble_eq_true rfl | omega | (simp only [NM]; omega))
     ·first | rfl | (simp only [NM, CELLS] <;> rfl)
   ·have gh1 := h1
    try simp only [GN, beq_iff_eq, beq_eq_false_iff_ne, bne_iff_ne, bne_eq_false_iff_eq] at gh1
    simp only [h1, cond_true, cond_false] at hx0
    refine go_skip ?_
    refine go_seq ?_
    refine go_seq ?_
    refine go_regionJ hR ⟨[(0, (sL SPut.cells a0)), (1, (sL SPut.cells a1)), (5, (iV 0))], [], 0⟩ ?_ ?_
    ·skip
     simp only [AVS, bits_i64, EVB, eqF, Op.operands, IntKind.bits, descF, sizeF, bytesF, zeroF, seval, reduceCtorEq, ↓reduceIte]
     exact Weak.sub' ⟨rfl, rfl, rfl, trivial⟩ trivial (Nat.le_of_ble_eq_true rfl)
    ·skip
     obtain ⟨o2s, hx1, hx0⟩ := letIn_ex hx0
     refine go_joinE (fun p : Unit => ⟨[], [], 0⟩) (fun p : Unit => o2s = Sum.inr p) ?_ ?_
     ·refine go_block ?_
      refine go_len (t := 0) rfl (fun hl9 => ?_)
      simp only [List.length_map, maxLen_eq] at hl9
      refine go_len (t := 1) rfl (fun hl10 => ?_)
      simp only [List.length_map, maxLen_eq] at hl10
      refine go_loop (fun p : Nat => ⟨[(0, (sL SPut.cells a0)), (1, (sL SPut.cells a1)), (5, (iV ((p : Nat) : Int)))], [], 0⟩) (fun p : Nat => (p ≤ a0.length) ∧ pontoonref07_SamePuts_L0 a0 a1 p = o2s) (fun p : Nat => a0.length - p) 0 ⟨(by (try dsimp only); (repeat' apply And.intro) <;> first | trivial | omega | assumption | (simp; done)), hx1⟩ (Weak.canon [] [0, 1, 5] (by decide) rfl trivial rfl (by simp) (by first | rfl | (simp only [NM, CELLS] <;> rfl) | simp [NM, CELLS]) rfl rfl) ?_
      rintro x6 ⟨hi11, hx1⟩
      try dsimp only at hi11 hx1 ⊢
      rw [pontoonref07_SamePuts_L0.eq_def] at hx1
      refine go_seq ?_
      refine go_seq ?_
      refine go_regionJ hR ⟨[(0, (sL SPut.cells a0)), (1, (sL SPut.cells a1)), (5, (iV ((x6 : Nat) : Int))), (14, (bo (decide (((x6 : Nat) : Int) < ((a0.length : Nat) : Int)))))], [], 0⟩ ?_ ?_
      ·skip
       simp only [AVS, bits_i64, EVB, eqF, Op.operands, IntKind.bits, descF, sizeF, bytesF, zeroF, seval, reduceCtorEq, ↓reduceIte]
       exact Weak.sub' ⟨rfl, rfl, rfl, rfl, trivial⟩ trivial (Nat.le_of_ble_eq_true rfl)
      ·skip
       refine go_cond (by rfl) (fun h7 => ?_) (fun h7 => ?_)
       ·have gh7 := h7
        try simp only [GN, beq_iff_eq, beq_eq_false_iff_ne, bne_iff_ne, bne_eq_false_iff_eq] at gh7
        simp only [h7, dite_true, dite_false, reduceDIte, Bool.false_eq_true] at hx1
        refine go_skip ?_
        refine go_seq ?_
        refine go_block ?_
        refine go_seq ?_
        refine go_drawJ hR rfl ⟨[(0, (sL SPut.cells a0)), (1, (sL SPut.cells a1)), (5, (iV ((x6 : Nat) : Int))), (25, (bo (!(decide ([(List.getD a0 x6 default).Port, ((List.getD a0 x6 default).Record).Key, ((List.getD a0 x6 default).Record).Val] = [(List.getD a1 x6 default).Port, ((List.getD a1 x6 default).Record).Key, ((List.getD a1 x6 default).Record).Val])))))], [], 0⟩ ?_ ?_
        ·skip
         have bq12 : x6 < a0.length := by omega
         have q12 := map_getD SPut.cells a0 x6 default bq12
         have bq13 : x6 < a1.length := by omega
         have q13 := map_getD SPut.cells a1 x6 default bq13
         simp only [q12, q13, AVS, bits_i64, EVB, eqF, Op.operands, IntKind.bits, descF, sizeF, bytesF, zeroF, seval, reduceCtorEq, ↓reduceIte, CELLS]
         refine ⟨(by (repeat' apply And.intro) <;> first | trivial | rfl | exact Nat.le_of_ble_eq_true rfl | omega | (intro u hu; obtain ⟨x, _, rfl⟩ := List.mem_map.1 hu; rfl) | (intro u hu; simp only [List.mem_cons, List.not_mem_nil, or_false] at hu; subst hu; rfl) | (simp only [NM]; omega) | (simp; done)), ?_⟩
         refine ⟨(by (repeat' apply And.intro) <;> first | trivial | rfl | exact Nat.le_of_ble_eq_true rfl | omega | (intro u hu; obtain ⟨x, _, rfl⟩ := List.mem_map.1 hu; rfl) | (intro u hu; simp only [List.mem_cons, List.not_mem_nil, or_false] at hu; subst hu; rfl) | (simp only [NM]; omega) | (simp; done)), ?_⟩
         refine ⟨by kernel_rfl, ?_⟩
         exact Weak.sub' ⟨rfl, rfl, rfl, rfl, trivial⟩ trivial (Nat.le_of_ble_eq_true rfl)
        ·skip
         refine go_cond (by rfl) (fun h8 => ?_) (fun h8 => ?_)
         ·have gh8 := h8
          try simp only [GN, beq_iff_eq, beq_eq_false_iff_ne, bne_iff_ne, bne_eq_false_iff_eq] at gh8
          simp only [h8, dite_true, dite_false, reduceDIte, Bool.false_eq_true] at hx1
          refine go_seq ?_
          refine go_regionJ hR ⟨[(4, (bo false))], [], 0⟩ ?_ ?_
          ·skip
           simp only [AVS, bits_i64, EVB, eqF, Op.operands, IntKind.bits, descF, sizeF, bytesF, zeroF, seval, reduceCtorEq, ↓reduceIte]
           exact Weak.sub' ⟨rfl, trivial⟩ trivial (Nat.le_of_ble_eq_true rfl)
          ·skip
           subst hx1
           simp only [Sum.elim_inl] at hx0
           subst hx0
           refine go_return ttOk (fun _ h => h) rfl ?_ ?_
           ·exact (by (repeat' apply And.intro) <;> first | trivial | exact Nat.le_of_ble_eq_true rfl | omega | (simp only [NM]; omega))
           ·first | rfl | (simp only [NM, CELLS] <;> rfl)
         ·have gh8 := h8
          try simp only [GN, beq_iff_eq, beq_eq_false_iff_ne, bne_iff_ne, bne_eq_false_iff_eq] at gh8
          simp only [h8, dite_true, dite_false, reduceDIte, Bool.false_eq_true] at hx1
          refine go_skip ?_
          refine go_blk ?_
          refine go_regionJ hR ⟨[(0, (sL SPut.cells a0)), (1, (sL SPut.cells a1)), (5, (iV ((x6 + 1 : Nat) : Int)))], [], 0⟩ ?_ ?_
          ·skip
           have w14 : IntKind.i64.wrap (((x6 : Nat) : Int) + 1) = ((x6 + 1 : Nat) : Int) := by rw [IntKind.wrap_i64]; omega
           simp only [w14, AVS, bits_i64, EVB, eqF, Op.operands, IntKind.bits, descF, sizeF, bytesF, zeroF, seval, reduceCtorEq, ↓reduceIte, CELLS]
           exact Weak.sub' ⟨rfl, rfl, rfl, trivial⟩ trivial (Nat.le_of_ble_eq_true rfl)
          ·skip
           exact go_fin ⟨x6 + 1, ⟨(by (try dsimp only); (repeat' apply And.intro) <;> first | trivial | omega | assumption | (simp; done)), hx1⟩, by (try dsimp only); omega, (Weak.canon [] [0, 1, 5] (by decide) rfl trivial rfl (by simp) (by first | rfl | (simp only [NM, CELLS] <;> rfl) | simp [NM, CELLS]) rfl rfl)⟩
       ·have gh7 := h7
        try simp only [GN, beq_iff_eq, beq_eq_false_iff_ne, bne_iff_ne, bne_eq_false_iff_eq] at gh7
        simp only [h7, dite_true, dite_false, reduceDIte, Bool.false_eq_true] at hx1
        refine go_exit rfl ?_
        exact go_fin ⟨(), hx1.symm, (Weak.canon [] [] (by decide) rfl trivial rfl (by simp) (by first | rfl | (simp only [NM, CELLS] <;> rfl) | simp [NM, CELLS]) rfl rfl)⟩
     ·rintro o2 hp
      try dsimp only at hp
      subst hp
      simp only [Sum.elim_inr] at hx0
      refine go_seq ?_
      refine go_regionJ hR ⟨[(4, (bo true))], [], 0⟩ ?_ ?_
      ·skip
       simp only [AVS, bits_i64, EVB, eqF, Op.operands, IntKind.bits, descF, sizeF, bytesF, zeroF, seval, reduceCtorEq, ↓reduceIte]
       exact Weak.sub' ⟨rfl, trivial⟩ trivial (Nat.le_of_ble_eq_true rfl)
      ·skip
       subst hx0
       refine go_return ttOk (fun _ h => h) rfl ?_ ?_
       ·exact (by (repeat' apply And.intro) <;> first | trivial | exact Nat.le_of_ble_eq_true rfl | omega | (simp only [NM]; omega))
       ·first | rfl | (simp only [NM, CELLS] <;> rfl)
end Go.Ab.Try
