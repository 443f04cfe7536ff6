/-
  Functions, and what they compute: printed by wg.py, a program of this work.
-/
import Derived.Test.YtipiagjhijnmhaaO0
import Derived.Test.YtipiagjhijnmhaaO1
import Derived.Test.YtipiagjhijnmhaaO2
import Derived.Test.YtipiagjhijnmhaaH3
set_option linter.unusedVariables false
set_option linter.unusedSimpArgs false
namespace Go.Ab.Try
open Go Go.Proofs Go.Ab

def pontoonlaw07_OperApart_L0 (a1 : (List SRecord)) (a2 : Int) (x9 : Nat) (x10 : List SRecord) : List SRecord :=
  (if h11 : (decide (((x9 : Nat) : Int) < ((a1.length : Nat) : Int))) = true then letIn ((if h13 : ((List.getD a1 x9 default).Key == a2) = true then (x10 ++ [(List.getD a1 x9 default)]) else x10)) fun o12 => (pontoonlaw07_OperApart_L0 a1 a2 (x9 + 1) o12) else x10)
termination_by a1.length - x9
decreasing_by all_goals (try simp only [GN, beq_iff_eq, beq_eq_false_iff_ne, bne_iff_ne, bne_eq_false_iff_eq] at *) <;> omega
theorem apart_L0_len (a1 : List SRecord) (a2 : Int) (i : Nat) (x : List SRecord) : (pontoonlaw07_OperApart_L0 a1 a2 i x).length ≤ x.length + (a1.length - i) := by
  rw [pontoonlaw07_OperApart_L0.eq_def]
  split
  · rename_i h
    have h := of_decide_eq_true h
    have ih := fun y => apart_L0_len a1 a2 (i + 1) y
    simp only [letIn]
    split
    · have := ih (x ++ [List.getD a1 i default])
      simp only [List.length_append, List.length_cons, List.length_nil] at this
      omega
    · have := ih x
      omega
  · omega
termination_by a1.length - i
def pontoonlaw07_OperApart_L1 (a2 : Int) (r14 : SOpState × (List SPut)) (x21 : Nat) (x22 : List SPut) : List SPut :=
  (if h23 : (decide (((x21 : Nat) : Int) < ((r14.2.length : Nat) : Int))) = true then letIn ((if h25 : (((List.getD r14.2 x21 default).Record).Key == a2) = true then (x22 ++ [(SPut.mk ((List.getD r14.2 x21 default).Port) ((List.getD r14.2 x21 default).Record))]) else x22)) fun o24 => (pontoonlaw07_OperApart_L1 a2 r14 (x21 + 1) o24) else x22)
termination_by r14.2.length - x21
decreasing_by all_goals (try simp only [GN, beq_iff_eq, beq_eq_false_iff_ne, bne_iff_ne, bne_eq_false_iff_eq] at *) <;> omega
def pontoonlaw07_OperApart_L2 (a2 : Int) (r14 : SOpState × (List SPut)) (x31 : Nat) (x32 : List SKeyState) : List SKeyState :=
  (if h33 : (decide (((x31 : Nat) : Int) < ((r14.1.Keys.length : Nat) : Int))) = true then letIn ((if h35 : ((List.getD r14.1.Keys x31 default).Key == a2) = true then (x32 ++ [(List.getD r14.1.Keys x31 default)]) else x32)) fun o34 => (pontoonlaw07_OperApart_L2 a2 r14 (x31 + 1) o34) else x32)
termination_by r14.1.Keys.length - x31
decreasing_by all_goals (try simp only [GN, beq_iff_eq, beq_eq_false_iff_ne, bne_iff_ne, bne_eq_false_iff_eq] at *) <;> omega
def pontoonlaw07_OperApart (a0 : SOp) (a1 : (List SRecord)) (a2 : Int) : Bool :=
  (bif (!pontoonlaw07_live) then false else (bif ((a0.Kind != 5) && (a0.Kind != 6)) then true else letIn (pontoonlaw07_OperApart_L0 a1 a2 0 []) fun o4 => letIn (oper_All a0 (SOpState.mk [] 0) a1) fun r14 => letIn (oper_All a0 (SOpState.mk [] 0) o4) fun r15 => letIn (pontoonlaw07_OperApart_L1 a2 r14 0 []) fun o16 => letIn (pontoonlaw07_OperApart_L2 a2 r14 0 []) fun o26 => ((pontoonref07_SamePuts o16 r15.2) && (pontoonref07_Same (SOpState.mk o26 0) r15.1))))
set_option maxRecDepth 10000 in
set_option maxHeartbeats 8000000 in
theorem pontoonlaw07_OperApart_t (a0 : SOp) (a1 : (List SRecord)) (a2 : Int) (z0 : SOp.Sz a0) (z1 : a1.length ≤ 10000000) : FnP Try.prog 8 [.agg (SOp.avs a0), (sL SRecord.cells a1), (iV a2)] ((bo (pontoonlaw07_OperApart a0 a1 a2))) := by
 refine FnP.intro (tt := tt) Try.func8 rfl (by kernel_rfl) (by simp [Try.ntmps8]) fun w0 A hA => ?_
 have hR := reckB_ok eqOk ttOk
 obtain ⟨res, hx0⟩ : ∃ r, pontoonlaw07_OperApart a0 a1 a2 = r := ⟨_, rfl⟩
 simp only [hx0]
 unfold pontoonlaw07_OperApart at hx0
 simp only [argT, Try.ntmps8]
 try simp only [SZD] at z0 z1
 refine go_seq ?_
 refine go_regionJ hR ⟨[(1, (sL SRecord.cells a1)), (2, (iV a2)), (3, .ptr 0 0)], [(0, .box (SOp.avs a0) 57)], 1⟩ ?_ ?_
 ·skip
  simp only [AVS, bits_i64, EVB, eqF, Op.operands, IntKind.bits, descF, sizeF, bytesF, zeroF, seval, reduceCtorEq, ↓reduceIte]
  exact Weak.sub' ⟨rfl, rfl, rfl, trivial⟩ ⟨rfl, trivial⟩ (Nat.le_of_ble_eq_true rfl)
 ·skip
  refine go_seq ?_
  refine go_seq ?_
  refine go_regionJ hR ⟨[(1, (sL SRecord.cells a1)), (2, (iV a2)), (3, .ptr 0 0), (21, (bo (!pontoonlaw07_live)))], [(0, .box (SOp.avs a0) 57)], 1⟩ ?_ ?_
  ·skip
   simp only [AVS, bits_i64, EVB, eqF, Op.operands, IntKind.bits, descF, sizeF, bytesF, zeroF, seval, reduceCtorEq, ↓reduceIte]
   refine CallK.freshE pontoonlaw07_live_t.toO rfl (by first | rfl | (simp only [NM]; done) | (simp only [AVS, NM]; done)) (by (repeat' apply And.intro) <;> first | trivial | rfl | omega | (simp only [NM]; omega)) (.inl rfl) (by exact Nat.le_of_ble_eq_true rfl) ?_
   try simp only [AVS, bits_i64, EVB, eqF, Op.operands, IntKind.bits, descF, sizeF, bytesF, zeroF, seval, reduceCtorEq, ↓reduceIte]
   exact Weak.sub' ⟨rfl, rfl, rfl, rfl, trivial⟩ ⟨rfl, trivial⟩ (Nat.le_of_ble_eq_true rfl)
  ·skip
   refine go_cond (by rfl) (fun h1 => ?_) (fun h1 => ?_)
   ·have gh1 := h1
    try simp only [GN, beq_iff_eq, beq_eq_false_iff_ne, bne_iff_ne, bne_eq_false_iff_eq] at gh1
    simp only [h1, cond_true, cond_false] at hx0
    refine go_seq ?_
    refine go_regionJ hR ⟨[(6, (bo false))], [], 1⟩ ?_ ?_
    ·skip
     simp only [AVS, bits_i64, EVB, eqF, Op.operands, IntKind.bits, descF, sizeF, bytesF, zeroF, seval, reduceCtorEq, ↓reduceIte]
     exact Weak.sub' ⟨rfl, trivial⟩ trivial (Nat.le_of_ble_eq_true rfl)
    ·skip
     subst hx0
     refine go_return ttOk (fun _ h => h) rfl ?_ ?_
     ·exact (by (repeat' apply And.intro) <;> first | trivial | exact Nat.le_of_ble_eq_true rfl | omega | (simp only [NM]; omega))
     ·first | rfl | (simp only [NM, CELLS] <;> rfl)
   ·have gh1 := h1
    try simp only [GN, beq_iff_eq, beq_eq_false_iff_ne, bne_iff_ne, bne_eq_false_iff_eq] at gh1
    simp only [h1, cond_true, cond_false] at hx0
    refine go_skip ?_
    refine go_seq ?_
    refine go_seq ?_
    refine go_regionJ hR ⟨[(1, (sL SRecord.cells a1)), (2, (iV a2)), (3, .ptr 0 0), (29, (bo ((a0.Kind != 5) && (a0.Kind != 6))))], [(0, .box (SOp.avs a0) 57)], 1⟩ ?_ ?_
    ·skip
     rcases Bool.eq_false_or_eq_true (a0.Kind != 5) with h2 | h2
     ·simp only [h2, AVS, bits_i64, EVB, eqF, Op.operands, IntKind.bits, descF, sizeF, bytesF, zeroF, seval, reduceCtorEq, ↓reduceIte]
      try simp only [h2, BM]
      exact Weak.sub' ⟨rfl, rfl, rfl, rfl, trivial⟩ ⟨rfl, trivial⟩ (Nat.le_of_ble_eq_true rfl)
     ·simp only [h2, AVS, bits_i64, EVB, eqF, Op.operands, IntKind.bits, descF, sizeF, bytesF, zeroF, seval, reduceCtorEq, ↓reduceIte]
      try simp only [h2, BM]
      exact Weak.sub' ⟨rfl, rfl, rfl, rfl, trivial⟩ ⟨rfl, trivial⟩ (Nat.le_of_ble_eq_true rfl)
    ·skip
     refine go_cond (by rfl) (fun h3 => ?_) (fun h3 => ?_)
     ·have gh3 := h3
      try simp only [GN, beq_iff_eq, beq_eq_false_iff_ne, bne_iff_ne, bne_eq_false_iff_eq] at gh3
      simp only [h3, cond_true, cond_false] at hx0
      refine go_seq ?_
      refine go_regionJ hR ⟨[(6, (bo true))], [], 1⟩ ?_ ?_
      ·skip
       simp only [AVS, bits_i64, EVB, eqF, Op.operands, IntKind.bits, descF, sizeF, bytesF, zeroF, seval, reduceCtorEq, ↓reduceIte]
       exact Weak.sub' ⟨rfl, trivial⟩ trivial (Nat.le_of_ble_eq_true rfl)
      ·skip
       subst hx0
       refine go_return ttOk (fun _ h => h) rfl ?_ ?_
       ·exact (by (repeat' apply And.intro) <;> first | trivial | exact Nat.le_of_ble_eq_true rfl | omega | (simp only [NM]; omega))
       ·first | rfl | (simp only [NM, CELLS] <;> rfl)
     ·have gh3 := h3
      try simp only [GN, beq_iff_eq, beq_eq_false_iff_ne, bne_iff_ne, bne_eq_false_iff_eq] at gh3
      simp only [h3, cond_true, cond_false] at hx0
      refine go_skip ?_
      refine go_seq ?_
      refine go_regionJ hR ⟨[(1, (sL SRecord.cells a1)), (2, (iV a2)), (3, .ptr 0 0), (7, nS)], [(0, .box (SOp.avs a0) 57)], 1⟩ ?_ ?_
      ·skip
       simp only [AVS, bits_i64, EVB, eqF, Op.operands, IntKind.bits, descF, sizeF, bytesF, zeroF, seval, reduceCtorEq, ↓reduceIte]
       exact Weak.sub' ⟨rfl, rfl, rfl, rfl, trivial⟩ ⟨rfl, trivial⟩ (Nat.le_of_ble_eq_true rfl)
      ·skip
       refine go_nilOwn 7 2 68 rfl ?_
       refine go_weak (s' := ⟨[(1, (sL SRecord.cells a1)), (2, (iV a2)), (3, .ptr 0 0), (7, .own 1 2 0 0)], [(0, .box (SOp.avs a0) 57), (1, .acc 2 (List.map SRecord.cells []) 68)], 2⟩) (Weak.sub' (by repeat (first | exact trivial | refine ⟨rfl, ?_⟩)) (by repeat (first | exact trivial | refine ⟨rfl, ?_⟩)) (by exact Nat.le_of_ble_eq_true rfl)) ?_
       refine go_seq ?_
       refine go_seq ?_
       refine go_regionJ hR ⟨[(1, (sL SRecord.cells a1)), (2, (iV a2)), (3, .ptr 0 0), (7, .own 1 2 0 0), (30, (sL SRecord.cells a1)), (31, (iV ((a1.length : Nat) : Int))), (32, (iV 0))], [(0, .box (SOp.avs a0) 57), (1, .acc 2 (List.map SRecord.cells []) 68)], 2⟩ ?_ ?_
       ·skip
        simp only [AVS, bits_i64, EVB, eqF, Op.operands, IntKind.bits, descF, sizeF, bytesF, zeroF, seval, reduceCtorEq, ↓reduceIte]
        exact Weak.sub' ⟨rfl, rfl, rfl, rfl, rfl, rfl, rfl, trivial⟩ ⟨rfl, rfl, trivial⟩ (Nat.le_of_ble_eq_true rfl)
       ·skip
        obtain ⟨o4, hx1, hx0⟩ := letIn_ex hx0
        refine go_joinE (fun p : List SRecord => ⟨[(1, (sL SRecord.cells a1)), (2, (iV a2)), (3, .ptr 0 0), (7, .own 1 2 0 p.length)], [(0, .box (SOp.avs a0) 57), (1, .acc 2 (List.map SRecord.cells p) 68)], 2⟩) (fun p : List SRecord => o4 = p) ?_ ?_
        ·refine go_block ?_
         refine go_len (t := 1) rfl (fun hl39 => ?_)
         simp only [List.length_map, maxLen_eq] at hl39
         refine go_loop (fun p : Nat × (List SRecord) => ⟨[(1, (sL SRecord.cells a1)), (2, (iV a2)), (3, .ptr 0 0), (7, .own 1 2 0 p.2.length), (30, (sL SRecord.cells a1)), (31, (iV ((a1.length : Nat) : Int))), (32, (iV ((p.1 : Nat) : Int)))], [(0, .box (SOp.avs a0) 57), (1, .acc 2 (List.map SRecord.cells p.2) 68)], 2⟩) (fun p : Nat × (List SRecord) => (p.1 ≤ a1.length ∧ p.2.length ≤ p.1) ∧ pontoonlaw07_OperApart_L0 a1 a2 p.1 p.2 = o4) (fun p : Nat × (List SRecord) => a1.length - p.1) (0, []) ⟨(by (try dsimp only); (repeat' apply And.intro) <;> first | trivial | omega | assumption | (simp; done)), hx1⟩ (Weak.canon [0, 1] [1, 2, 3, 7, 30, 31, 32] (by decide) rfl (by simp) rfl (by simp) (by first | rfl | (simp only [NM, CELLS] <;> rfl) | simp [NM, CELLS]) (by first | rfl | (simp only [NM, CELLS] <;> rfl) | simp [NM, CELLS]) rfl) ?_
         rintro ⟨x9, x10⟩ ⟨hi40, hx1⟩
         try dsimp only at hi40 hx1 ⊢
         obtain ⟨hi40, hj⟩ := hi40
         rw [pontoonlaw07_OperApart_L0.eq_def] at hx1
         refine go_seq ?_
         refine go_regionJ hR ⟨[(1, (sL SRecord.cells a1)), (2, (iV a2)), (3, .ptr 0 0), (7, .own 1 2 0 x10.length), (30, (sL SRecord.cells a1)), (31, (iV ((a1.length : Nat) : Int))), (32, (iV ((x9 : Nat) : Int))), (33, (bo (decide (((x9 : Nat) : Int) < ((a1.length : Nat) : Int)))))], [(0, .box (SOp.avs a0) 57), (1, .acc 2 (List.map SRecord.cells x10) 68)], 2⟩ ?_ ?_
         ·skip
          simp only [AVS, bits_i64, EVB, eqF, Op.operands, IntKind.bits, descF, sizeF, bytesF, zeroF, seval, reduceCtorEq, ↓reduceIte]
          exact Weak.sub' ⟨rfl, rfl, rfl, rfl, rfl, rfl, rfl, rfl, trivial⟩ ⟨rfl, rfl, trivial⟩ (Nat.le_of_ble_eq_true rfl)
         ·skip
          refine go_seq ?_
          refine go_cond (by rfl) (fun h11 => ?_) (fun h11 => ?_)
          ·have gh11 := h11
           try simp only [GN, beq_iff_eq, beq_eq_false_iff_ne, bne_iff_ne, bne_eq_false_iff_eq] at gh11
           simp only [h11, dite_true, dite_false, reduceDIte, Bool.false_eq_true] at hx1
           refine go_skip ?_
           refine go_seq ?_
           obtain ⟨o12, hx2, hx1⟩ := letIn_ex hx1
           refine go_joinE (fun p : List SRecord => ⟨[(1, (sL SRecord.cells a1)), (2, (iV a2)), (3, .ptr 0 0), (7, .own 1 2 0 p.length), (30, (sL SRecord.cells a1)), (31, (iV ((a1.length : Nat) : Int))), (32, (iV ((x9 : Nat) : Int)))], [(0, .box (SOp.avs a0) 57), (1, .acc 2 (List.map SRecord.cells p) 68)], 2⟩) (fun p : List SRecord => o12 = p) ?_ ?_
           ·refine go_block ?_
            refine go_seq ?_
            refine go_regionJ hR ⟨[(1, (sL SRecord.cells a1)), (2, (iV a2)), (3, .ptr 0 0), (7, .own 1 2 0 x10.length), (9, .ptr 2 0), (30, (sL SRecord.cells a1)), (31, (iV ((a1.length : Nat) : Int))), (32, (iV ((x9 : Nat) : Int)))], [(0, .box (SOp.avs a0) 57), (1, .acc 2 (List.map SRecord.cells x10) 68), (2, .box (SRecord.avs (List.getD a1 x9 default)) 68)], 3⟩ ?_ ?_
            ·skip
             have bq41 : x9 < a1.length := by omega
             have q41 := map_getD SRecord.cells a1 x9 default bq41
             simp only [q41, AVS, bits_i64, EVB, eqF, Op.operands, IntKind.bits, descF, sizeF, bytesF, zeroF, seval, reduceCtorEq, ↓reduceIte, CELLS]
             refine ⟨(by (repeat' apply And.intro) <;> first | trivial | rfl | exact Nat.le_of_ble_eq_true rfl | omega | (intro u hu; obtain ⟨x, _, rfl⟩ := List.mem_map.1 hu; rfl) | (intro u hu; simp only [List.mem_cons, List.not_mem_nil, or_false] at hu; subst hu; rfl) | (simp only [NM]; omega) | (simp; done)), ?_⟩
             exact Weak.sub' ⟨rfl, rfl, rfl, rfl, rfl, rfl, rfl, rfl, trivial⟩ ⟨rfl, rfl, rfl, trivial⟩ (Nat.le_of_ble_eq_true rfl)
            ·skip
             refine go_seq ?_
             refine go_regionJ hR ⟨[(1, (sL SRecord.cells a1)), (2, (iV a2)), (3, .ptr 0 0), (7, .own 1 2 0 x10.length), (9, .ptr 2 0), (30, (sL SRecord.cells a1)), (31, (iV ((a1.length : Nat) : Int))), (32, (iV ((x9 : Nat) : Int))), (39, (bo ((List.getD a1 x9 default).Key == a2)))], [(0, .box (SOp.avs a0) 57), (1, .acc 2 (List.map SRecord.cells x10) 68), (2, .box (SRecord.avs (List.getD a1 x9 default)) 68)], 3⟩ ?_ ?_
             ·skip
              simp only [AVS, bits_i64, EVB, eqF, Op.operands, IntKind.bits, descF, sizeF, bytesF, zeroF, seval, reduceCtorEq, ↓reduceIte]
              exact Weak.sub' ⟨rfl, rfl, rfl, rfl, rfl, rfl, rfl, rfl, rfl, trivial⟩ ⟨rfl, rfl, rfl, trivial⟩ (Nat.le_of_ble_eq_true rfl)
             ·skip
              refine go_cond (by rfl) (fun h13 => ?_) (fun h13 => ?_)
              ·have gh13 := h13
               try simp only [GN, beq_iff_eq, beq_eq_false_iff_ne, bne_iff_ne, bne_eq_false_iff_eq] at gh13
               simp only [h13, dite_true, dite_false, reduceDIte, Bool.false_eq_true] at hx2
               refine go_regionJ hR ⟨[(1, (sL SRecord.cells a1)), (2, (iV a2)), (3, .ptr 0 0), (7, .own 1 2 0 ((x10 ++ [(List.getD a1 x9 default)]).length)), (30, (sL SRecord.cells a1)), (31, (iV ((a1.length : Nat) : Int))), (32, (iV ((x9 : Nat) : Int)))], [(0, .box (SOp.avs a0) 57), (1, .acc 2 (List.map SRecord.cells (x10 ++ [(List.getD a1 x9 default)])) 68)], 4⟩ ?_ ?_
               ·skip
                simp only [AVS, bits_i64, EVB, eqF, Op.operands, IntKind.bits, descF, sizeF, bytesF, zeroF, seval, reduceCtorEq, ↓reduceIte]
                refine ⟨(by (repeat' apply And.intro) <;> first | trivial | rfl | exact Nat.le_of_ble_eq_true rfl | omega | (intro u hu; obtain ⟨x, _, rfl⟩ := List.mem_map.1 hu; rfl) | (intro u hu; simp only [List.mem_cons, List.not_mem_nil, or_false] at hu; subst hu; rfl) | (simp only [NM]; omega) | (simp; done)), ?_⟩
                refine ⟨(by (repeat' apply And.intro) <;> first | trivial | rfl | exact Nat.le_of_ble_eq_true rfl | omega | (intro u hu; obtain ⟨x, _, rfl⟩ := List.mem_map.1 hu; rfl) | (intro u hu; simp only [List.mem_cons, List.not_mem_nil, or_false] at hu; subst hu; rfl) | (simp only [NM]; omega) | (simp; done)), ?_⟩
                try simp only [BM, NM, CELLS]
                exact Weak.sub' ⟨rfl, rfl, rfl, rfl, rfl, rfl, rfl, trivial⟩ ⟨rfl, rfl, trivial⟩ (Nat.le_of_ble_eq_true rfl)
               ·skip
                refine go_blk ?_
                exact go_fin ⟨(x10 ++ [(List.getD a1 x9 default)]), hx2.symm, (Weak.canon [0, 1] [1, 2, 3, 7, 30, 31, 32] (by decide) rfl (by simp) rfl (by simp) (by first | rfl | (simp only [NM, CELLS] <;> rfl) | simp [NM, CELLS]) (by first | rfl | (simp only [NM, CELLS] <;> rfl) | simp [NM, CELLS]) rfl)⟩
              ·have gh13 := h13
               try simp only [GN, beq_iff_eq, beq_eq_false_iff_ne, bne_iff_ne, bne_eq_false_iff_eq] at gh13
               simp only [h13, dite_true, dite_false, reduceDIte, Bool.false_eq_true] at hx2
               refine go_skip ?_
               refine go_blk ?_
               exact go_fin ⟨x10, hx2.symm, (Weak.canon [0, 1] [1, 2, 3, 7, 30, 31, 32] (by decide) rfl (by simp) rfl (by simp) (by first | rfl | (simp only [NM, CELLS] <;> rfl) | simp [NM, CELLS]) (by first | rfl | (simp only [NM, CELLS] <;> rfl) | simp [NM, CELLS]) rfl)⟩
           ·rintro o12_ hp
            try dsimp only at hp
            subst hp
            refine go_regionJ hR ⟨[(1, (sL SRecord.cells a1)), (2, (iV a2)), (3, .ptr 0 0), (7, .own 1 2 0 o12.length), (30, (sL SRecord.cells a1)), (31, (iV ((a1.length : Nat) : Int))), (32, (iV ((x9 + 1 : Nat) : Int)))], [(0, .box (SOp.avs a0) 57), (1, .acc 2 (List.map SRecord.cells o12) 68)], 2⟩ ?_ ?_
            ·skip
             have w42 : IntKind.i64.wrap (((x9 : Nat) : Int) + 1) = ((x9 + 1 : Nat) : Int) := by rw [IntKind.wrap_i64]; omega
             simp only [w42, AVS, bits_i64, EVB, eqF, Op.operands, IntKind.bits, descF, sizeF, bytesF, zeroF, seval, reduceCtorEq, ↓reduceIte, CELLS]
             exact Weak.sub' ⟨rfl, rfl, rfl, rfl, rfl, rfl, rfl, trivial⟩ ⟨rfl, rfl, trivial⟩ (Nat.le_of_ble_eq_true rfl)
            ·skip
             have hq : o12.length ≤ x9 + 1 := by rw [← hx2]; split <;> (try rw [List.length_append]) <;> (try simp only [List.length_cons, List.length_nil]) <;> omega
             exact go_fin ⟨(x9 + 1, o12), ⟨(by (try dsimp only); (repeat' apply And.intro) <;> first | trivial | omega | assumption | (simp; done)), hx1⟩, by (try dsimp only); omega, (Weak.canon [0, 1] [1, 2, 3, 7, 30, 31, 32] (by decide) rfl (by simp) rfl (by simp) (by first | rfl | (simp only [NM, CELLS] <;> rfl) | simp [NM, CELLS]) (by first | rfl | (simp only [NM, CELLS] <;> rfl) | simp [NM, CELLS]) rfl)⟩
          ·have gh11 := h11
           try simp only [GN, beq_iff_eq, beq_eq_false_iff_ne, bne_iff_ne, bne_eq_false_iff_eq] at gh11
           simp only [h11, dite_true, dite_false, reduceDIte, Bool.false_eq_true] at hx1
           refine go_exit rfl ?_
           exact go_fin ⟨x10, hx1.symm, (Weak.canon [0, 1] [1, 2, 3, 7] (by decide) rfl (by simp) rfl (by simp) (by first | rfl | (simp only [NM, CELLS] <;> rfl) | simp [NM, CELLS]) (by first | rfl | (simp only [NM, CELLS] <;> rfl) | simp [NM, CELLS]) rfl)⟩
        ·rintro o4_ hp
         try dsimp only at hp
         subst hp
         refine go_seq ?_
         obtain ⟨r14, hr14, hx0⟩ := letIn_ex hx0
         have hs14 := all_sz a0 (SOpState.mk [] 0) a1
         rw [hr14] at hs14
         simp only [List.length_nil, Nat.zero_add] at hs14
         obtain ⟨hs14a, hs14b⟩ := hs14
         have ho4 : o4.length ≤ a1.length := by
           have := apart_L0_len a1 a2 0 []
           rw [hx1] at this
           simp only [List.length_nil] at this
           omega
         have Cr14 := (oper_All_t a0 (SOpState.mk [] 0) a1 z0 (by show 0 + a1.length ≤ _; omega) (by omega))
         simp only [hr14] at Cr14
         refine go_regionJ hR ⟨[(2, (iV a2)), (3, .ptr 0 0), (7, .own 1 2 0 o4.length), (10, .ptr 2 0), (11, (sL SPut.cells r14.2))], [(0, .box (SOp.avs a0) 57), (1, .acc 2 (List.map SRecord.cells o4) 68), (2, .box (SOpState.avs r14.1) 60)], 3⟩ ?_ ?_
         ·skip
          simp only [AVS, bits_i64, EVB, eqF, Op.operands, IntKind.bits, descF, sizeF, bytesF, zeroF, seval, reduceCtorEq, ↓reduceIte]
          refine CallK.freshE Cr14.toO rfl (by first | rfl | (simp only [NM]; done) | (simp only [AVS, NM]; done)) (by (repeat' apply And.intro) <;> first | trivial | rfl | omega | (simp only [NM]; omega)) (.inl rfl) (by exact Nat.le_of_ble_eq_true rfl) ?_
          try simp only [AVS, bits_i64, EVB, eqF, Op.operands, IntKind.bits, descF, sizeF, bytesF, zeroF, seval, reduceCtorEq, ↓reduceIte]
          exact Weak.sub' ⟨rfl, rfl, rfl, rfl, rfl, trivial⟩ ⟨rfl, rfl, rfl, trivial⟩ (Nat.le_of_ble_eq_true rfl)
         ·skip
          refine go_seq ?_
          obtain ⟨r15, hr15, hx0⟩ := letIn_ex hx0
          have Cr15 := (oper_All_t a0 (SOpState.mk [] 0) o4 z0 (by show 0 + o4.length ≤ _; omega) (by omega))
          simp only [hr15] at Cr15
          refine go_regionJ hR ⟨[(2, (iV a2)), (10, .ptr 2 0), (11, (sL SPut.cells r14.2)), (12, .ptr 3 0), (13, (sL SPut.cells r15.2))], [(2, .box (SOpState.avs r14.1) 60), (3, .box (SOpState.avs r15.1) 60)], 4⟩ ?_ ?_
          ·skip
           simp only [AVS, bits_i64, EVB, eqF, Op.operands, IntKind.bits, descF, sizeF, bytesF, zeroF, seval, reduceCtorEq, ↓reduceIte]
           refine CallK.close 1 rfl rfl (by (repeat' apply And.intro) <;> first | trivial | rfl | exact Nat.le_of_ble_eq_true rfl | omega | (intro u hu; obtain ⟨x, _, rfl⟩ := List.mem_map.1 hu; rfl) | (intro u hu; simp only [List.mem_cons, List.not_mem_nil, or_false] at hu; subst hu; rfl) | (simp only [NM]; omega) | (simp; done)) ?_
           refine CallK.freshE Cr15.toO rfl (by first | rfl | (simp only [NM]; done) | (simp only [AVS, NM]; done)) (by (repeat' apply And.intro) <;> first | trivial | rfl | omega | (simp only [NM]; omega)) (.inl rfl) (by exact Nat.le_of_ble_eq_true rfl) ?_
           try simp only [AVS, bits_i64, EVB, eqF, Op.operands, IntKind.bits, descF, sizeF, bytesF, zeroF, seval, reduceCtorEq, ↓reduceIte]
           exact Weak.sub' ⟨rfl, rfl, rfl, rfl, rfl, trivial⟩ ⟨rfl, rfl, trivial⟩ (Nat.le_of_ble_eq_true rfl)
          ·skip
           refine go_seq ?_
           refine go_regionJ hR ⟨[(2, (iV a2)), (10, .ptr 2 0), (11, (sL SPut.cells r14.2)), (12, .ptr 3 0), (13, (sL SPut.cells r15.2)), (14, nS)], [(2, .box (SOpState.avs r14.1) 60), (3, .box (SOpState.avs r15.1) 60)], 4⟩ ?_ ?_
           ·skip
            simp only [AVS, bits_i64, EVB, eqF, Op.operands, IntKind.bits, descF, sizeF, bytesF, zeroF, seval, reduceCtorEq, ↓reduceIte]
            exact Weak.sub' ⟨rfl, rfl, rfl, rfl, rfl, rfl, trivial⟩ ⟨rfl, rfl, trivial⟩ (Nat.le_of_ble_eq_true rfl)
           ·skip
            refine go_nilOwn 14 3 70 rfl ?_
            refine go_weak (s' := ⟨[(2, (iV a2)), (10, .ptr 2 0), (11, (sL SPut.cells r14.2)), (12, .ptr 3 0), (13, (sL SPut.cells r15.2)), (14, .own 4 3 0 0)], [(2, .box (SOpState.avs r14.1) 60), (3, .box (SOpState.avs r15.1) 60), (4, .acc 3 (List.map SPut.cells []) 70)], 5⟩) (Weak.sub' (by repeat (first | exact trivial | refine ⟨rfl, ?_⟩)) (by repeat (first | exact trivial | refine ⟨rfl, ?_⟩)) (by exact Nat.le_of_ble_eq_true rfl)) ?_
            refine go_seq ?_
            refine go_seq ?_
            refine go_regionJ hR ⟨[(2, (iV a2)), (10, .ptr 2 0), (12, .ptr 3 0), (13, (sL SPut.cells r15.2)), (14, .own 4 3 0 0), (59, (sL SPut.cells r14.2)), (60, (iV ((r14.2.length : Nat) : Int))), (61, (iV 0))], [(2, .box (SOpState.avs r14.1) 60), (3, .box (SOpState.avs r15.1) 60), (4, .acc 3 (List.map SPut.cells []) 70)], 5⟩ ?_ ?_
            ·skip
             simp only [AVS, bits_i64, EVB, eqF, Op.operands, IntKind.bits, descF, sizeF, bytesF, zeroF, seval, reduceCtorEq, ↓reduceIte]
             exact Weak.sub' ⟨rfl, rfl, rfl, rfl, rfl, rfl, rfl, rfl, trivial⟩ ⟨rfl, rfl, rfl, trivial⟩ (Nat.le_of_ble_eq_true rfl)
            ·skip
             obtain ⟨o16, hx1, hx0⟩ := letIn_ex hx0
             refine go_joinE (fun p : List SPut => ⟨[(2, (iV a2)), (10, .ptr 0 0), (12, .ptr 1 0), (13, (sL SPut.cells r15.2)), (14, .own 2 3 0 p.length)], [(0, .box (SOpState.avs r14.1) 60), (1, .box (SOpState.avs r15.1) 60), (2, .acc 3 (List.map SPut.cells p) 70)], 3⟩) (fun p : List SPut => o16 = p) ?_ ?_
             ·refine go_block ?_
              refine go_len (t := 59) rfl (fun hl43 => ?_)
              simp only [List.length_map, maxLen_eq] at hl43
              refine go_loop (fun p : Nat × (List SPut) => ⟨[(2, (iV a2)), (10, .ptr 0 0), (12, .ptr 1 0), (13, (sL SPut.cells r15.2)), (14, .own 2 3 0 p.2.length), (59, (sL SPut.cells r14.2)), (60, (iV ((r14.2.length : Nat) : Int))), (61, (iV ((p.1 : Nat) : Int)))], [(0, .box (SOpState.avs r14.1) 60), (1, .box (SOpState.avs r15.1) 60), (2, .acc 3 (List.map SPut.cells p.2) 70)], 3⟩) (fun p : Nat × (List SPut) => (p.1 ≤ r14.2.length ∧ p.2.length ≤ p.1) ∧ pontoonlaw07_OperApart_L1 a2 r14 p.1 p.2 = o16) (fun p : Nat × (List SPut) => r14.2.length - p.1) (0, []) ⟨(by (try dsimp only); (repeat' apply And.intro) <;> first | trivial | omega | assumption | (simp; done)), hx1⟩ (Weak.canon [2, 3, 4] [2, 10, 12, 13, 14, 59, 60, 61] (by decide) rfl (by simp) rfl (by simp) (by first | rfl | (simp only [NM, CELLS] <;> rfl) | simp [NM, CELLS]) (by first | rfl | (simp only [NM, CELLS] <;> rfl) | simp [NM, CELLS]) rfl) ?_
              rintro ⟨x21, x22⟩ ⟨hi44, hx1⟩
              try dsimp only at hi44 hx1 ⊢
              obtain ⟨hi44, hj⟩ := hi44
              rw [pontoonlaw07_OperApart_L1.eq_def] at hx1
              refine go_seq ?_
              refine go_regionJ hR ⟨[(2, (iV a2)), (10, .ptr 0 0), (12, .ptr 1 0), (13, (sL SPut.cells r15.2)), (14, .own 2 3 0 x22.length), (59, (sL SPut.cells r14.2)), (60, (iV ((r14.2.length : Nat) : Int))), (61, (iV ((x21 : Nat) : Int))), (62, (bo (decide (((x21 : Nat) : Int) < ((r14.2.length : Nat) : Int)))))], [(0, .box (SOpState.avs r14.1) 60), (1, .box (SOpState.avs r15.1) 60), (2, .acc 3 (List.map SPut.cells x22) 70)], 3⟩ ?_ ?_
              ·skip
               simp only [AVS, bits_i64, EVB, eqF, Op.operands, IntKind.bits, descF, sizeF, bytesF, zeroF, seval, reduceCtorEq, ↓reduceIte]
               exact Weak.sub' ⟨rfl, rfl, rfl, rfl, rfl, rfl, rfl, rfl, rfl, trivial⟩ ⟨rfl, rfl, rfl, trivial⟩ (Nat.le_of_ble_eq_true rfl)
              ·skip
               refine go_seq ?_
               refine go_cond (by rfl) (fun h23 => ?_) (fun h23 => ?_)
               ·have gh23 := h23
                try simp only [GN, beq_iff_eq, beq_eq_false_iff_ne, bne_iff_ne, bne_eq_false_iff_eq] at gh23
                simp only [h23, dite_true, dite_false, reduceDIte, Bool.false_eq_true] at hx1
                refine go_skip ?_
                refine go_seq ?_
                obtain ⟨o24, hx2, hx1⟩ := letIn_ex hx1
                refine go_joinE (fun p : List SPut => ⟨[(2, (iV a2)), (10, .ptr 0 0), (12, .ptr 1 0), (13, (sL SPut.cells r15.2)), (14, .own 2 3 0 p.length), (59, (sL SPut.cells r14.2)), (60, (iV ((r14.2.length : Nat) : Int))), (61, (iV ((x21 : Nat) : Int)))], [(0, .box (SOpState.avs r14.1) 60), (1, .box (SOpState.avs r15.1) 60), (2, .acc 3 (List.map SPut.cells p) 70)], 3⟩) (fun p : List SPut => o24 = p) ?_ ?_
                ·refine go_block ?_
                 refine go_seq ?_
                 refine go_regionJ hR ⟨[(2, (iV a2)), (10, .ptr 0 0), (12, .ptr 1 0), (13, (sL SPut.cells r15.2)), (14, .own 2 3 0 x22.length), (16, .ptr 3 0), (59, (sL SPut.cells r14.2)), (60, (iV ((r14.2.length : Nat) : Int))), (61, (iV ((x21 : Nat) : Int)))], [(0, .box (SOpState.avs r14.1) 60), (1, .box (SOpState.avs r15.1) 60), (2, .acc 3 (List.map SPut.cells x22) 70), (3, .box (SPut.avs (List.getD r14.2 x21 default)) 70)], 4⟩ ?_ ?_
                 ·skip
                  have bq45 : x21 < r14.2.length := by omega
                  have q45 := map_getD SPut.cells r14.2 x21 default bq45
                  simp only [q45, AVS, bits_i64, EVB, eqF, Op.operands, IntKind.bits, descF, sizeF, bytesF, zeroF, seval, reduceCtorEq, ↓reduceIte, CELLS]
                  refine ⟨(by (repeat' apply And.intro) <;> first | trivial | rfl | exact Nat.le_of_ble_eq_true rfl | omega | (intro u hu; obtain ⟨x, _, rfl⟩ := List.mem_map.1 hu; rfl) | (intro u hu; simp only [List.mem_cons, List.not_mem_nil, or_false] at hu; subst hu; rfl) | (simp only [NM]; omega) | (simp; done)), ?_⟩
                  exact Weak.sub' ⟨rfl, rfl, rfl, rfl, rfl, rfl, rfl, rfl, rfl, trivial⟩ ⟨rfl, rfl, rfl, rfl, trivial⟩ (Nat.le_of_ble_eq_true rfl)
                 ·skip
                  refine go_seq ?_
                  refine go_regionJ hR ⟨[(2, (iV a2)), (10, .ptr 0 0), (12, .ptr 1 0), (13, (sL SPut.cells r15.2)), (14, .own 2 3 0 x22.length), (16, .ptr 3 0), (59, (sL SPut.cells r14.2)), (60, (iV ((r14.2.length : Nat) : Int))), (61, (iV ((x21 : Nat) : Int))), (69, (bo (((List.getD r14.2 x21 default).Record).Key == a2)))], [(0, .box (SOpState.avs r14.1) 60), (1, .box (SOpState.avs r15.1) 60), (2, .acc 3 (List.map SPut.cells x22) 70), (3, .box (SPut.avs (List.getD r14.2 x21 default)) 70)], 4⟩ ?_ ?_
                  ·skip
                   simp only [AVS, bits_i64, EVB, eqF, Op.operands, IntKind.bits, descF, sizeF, bytesF, zeroF, seval, reduceCtorEq, ↓reduceIte]
                   exact Weak.sub' ⟨rfl, rfl, rfl, rfl, rfl, rfl, rfl, rfl, rfl, rfl, trivial⟩ ⟨rfl, rfl, rfl, rfl, trivial⟩ (Nat.le_of_ble_eq_true rfl)
                  ·skip
                   refine go_cond (by rfl) (fun h25 => ?_) (fun h25 => ?_)
                   ·have gh25 := h25
                    try simp only [GN, beq_iff_eq, beq_eq_false_iff_ne, bne_iff_ne, bne_eq_false_iff_eq] at gh25
                    simp only [h25, dite_true, dite_false, reduceDIte, Bool.false_eq_true] at hx2
                    refine go_regionJ hR ⟨[(2, (iV a2)), (10, .ptr 0 0), (12, .ptr 1 0), (13, (sL SPut.cells r15.2)), (14, .own 2 3 0 ((x22 ++ [(SPut.mk ((List.getD r14.2 x21 default).Port) ((List.getD r14.2 x21 default).Record))]).length)), (59, (sL SPut.cells r14.2)), (60, (iV ((r14.2.length : Nat) : Int))), (61, (iV ((x21 : Nat) : Int)))], [(0, .box (SOpState.avs r14.1) 60), (1, .box (SOpState.avs r15.1) 60), (2, .acc 3 (List.map SPut.cells (x22 ++ [(SPut.mk ((List.getD r14.2 x21 default).Port) ((List.getD r14.2 x21 default).Record))])) 70)], 5⟩ ?_ ?_
                    ·skip
                     simp only [AVS, bits_i64, EVB, eqF, Op.operands, IntKind.bits, descF, sizeF, bytesF, zeroF, seval, reduceCtorEq, ↓reduceIte]
                     refine ⟨(by (repeat' apply And.intro) <;> first | trivial | rfl | exact Nat.le_of_ble_eq_true rfl | omega | (intro u hu; obtain ⟨x, _, rfl⟩ := List.mem_map.1 hu; rfl) | (intro u hu; simp only [List.mem_cons, List.not_mem_nil, or_false] at hu; subst hu; rfl) | (simp only [NM]; omega) | (simp; done)), ?_⟩
                     refine ⟨(by (repeat' apply And.intro) <;> first | trivial | rfl | exact Nat.le_of_ble_eq_true rfl | omega | (intro u hu; obtain ⟨x, _, rfl⟩ := List.mem_map.1 hu; rfl) | (intro u hu; simp only [List.mem_cons, List.not_mem_nil, or_false] at hu; subst hu; rfl) | (simp only [NM]; omega) | (simp; done)), ?_⟩
                     try simp only [BM, NM, CELLS]
                     exact Weak.sub' ⟨rfl, rfl, rfl, rfl, rfl, rfl, rfl, rfl, trivial⟩ ⟨rfl, rfl, rfl, trivial⟩ (Nat.le_of_ble_eq_true rfl)
                    ·skip
                     refine go_blk ?_
                     exact go_fin ⟨(x22 ++ [(SPut.mk ((List.getD r14.2 x21 default).Port) ((List.getD r14.2 x21 default).Record))]), hx2.symm, (Weak.canon [0, 1, 2] [2, 10, 12, 13, 14, 59, 60, 61] (by decide) rfl (by simp) rfl (by simp) (by first | rfl | (simp only [NM, CELLS] <;> rfl) | simp [NM, CELLS]) (by first | rfl | (simp only [NM, CELLS] <;> rfl) | simp [NM, CELLS]) rfl)⟩
                   ·have gh25 := h25
                    try simp only [GN, beq_iff_eq, beq_eq_false_iff_ne, bne_iff_ne, bne_eq_false_iff_eq] at gh25
                    simp only [h25, dite_true, dite_false, reduceDIte, Bool.false_eq_true] at hx2
                    refine go_skip ?_
                    refine go_blk ?_
                    exact go_fin ⟨x22, hx2.symm, (Weak.canon [0, 1, 2] [2, 10, 12, 13, 14, 59, 60, 61] (by decide) rfl (by simp) rfl (by simp) (by first | rfl | (simp only [NM, CELLS] <;> rfl) | simp [NM, CELLS]) (by first | rfl | (simp only [NM, CELLS] <;> rfl) | simp [NM, CELLS]) rfl)⟩
                ·rintro o24_ hp
                 try dsimp only at hp
                 subst hp
                 refine go_regionJ hR ⟨[(2, (iV a2)), (10, .ptr 0 0), (12, .ptr 1 0), (13, (sL SPut.cells r15.2)), (14, .own 2 3 0 o24.length), (59, (sL SPut.cells r14.2)), (60, (iV ((r14.2.length : Nat) : Int))), (61, (iV ((x21 + 1 : Nat) : Int)))], [(0, .box (SOpState.avs r14.1) 60), (1, .box (SOpState.avs r15.1) 60), (2, .acc 3 (List.map SPut.cells o24) 70)], 3⟩ ?_ ?_
                 ·skip
                  have w46 : IntKind.i64.wrap (((x21 : Nat) : Int) + 1) = ((x21 + 1 : Nat) : Int) := by rw [IntKind.wrap_i64]; omega
                  simp only [w46, AVS, bits_i64, EVB, eqF, Op.operands, IntKind.bits, descF, sizeF, bytesF, zeroF, seval, reduceCtorEq, ↓reduceIte, CELLS]
                  exact Weak.sub' ⟨rfl, rfl, rfl, rfl, rfl, rfl, rfl, rfl, trivial⟩ ⟨rfl, rfl, rfl, trivial⟩ (Nat.le_of_ble_eq_true rfl)
                 ·skip
                  have hq : o24.length ≤ x21 + 1 := by rw [← hx2]; split <;> (try rw [List.length_append]) <;> (try simp only [List.length_cons, List.length_nil]) <;> omega
                  exact go_fin ⟨(x21 + 1, o24), ⟨(by (try dsimp only); (repeat' apply And.intro) <;> first | trivial | omega | assumption | (simp; done)), hx1⟩, by (try dsimp only); omega, (Weak.canon [0, 1, 2] [2, 10, 12, 13, 14, 59, 60, 61] (by decide) rfl (by simp) rfl (by simp) (by first | rfl | (simp only [NM, CELLS] <;> rfl) | simp [NM, CELLS]) (by first | rfl | (simp only [NM, CELLS] <;> rfl) | simp [NM, CELLS]) rfl)⟩
               ·have gh23 := h23
                try simp only [GN, beq_iff_eq, beq_eq_false_iff_ne, bne_iff_ne, bne_eq_false_iff_eq] at gh23
                simp only [h23, dite_true, dite_false, reduceDIte, Bool.false_eq_true] at hx1
                refine go_exit rfl ?_
                exact go_fin ⟨x22, hx1.symm, (Weak.canon [0, 1, 2] [2, 10, 12, 13, 14] (by decide) rfl (by simp) rfl (by simp) (by first | rfl | (simp only [NM, CELLS] <;> rfl) | simp [NM, CELLS]) (by first | rfl | (simp only [NM, CELLS] <;> rfl) | simp [NM, CELLS]) rfl)⟩
             ·rintro o16_ hp
              try dsimp only at hp
              subst hp
              refine go_seq ?_
              refine go_regionJ hR ⟨[(2, (iV a2)), (10, .ptr 0 0), (12, .ptr 1 0), (13, (sL SPut.cells r15.2)), (14, .own 2 3 0 o16.length), (17, nS)], [(0, .box (SOpState.avs r14.1) 60), (1, .box (SOpState.avs r15.1) 60), (2, .acc 3 (List.map SPut.cells o16) 70)], 3⟩ ?_ ?_
              ·skip
               simp only [AVS, bits_i64, EVB, eqF, Op.operands, IntKind.bits, descF, sizeF, bytesF, zeroF, seval, reduceCtorEq, ↓reduceIte]
               exact Weak.sub' ⟨rfl, rfl, rfl, rfl, rfl, rfl, trivial⟩ ⟨rfl, rfl, rfl, trivial⟩ (Nat.le_of_ble_eq_true rfl)
              ·skip
               refine go_nilOwn 17 3 72 rfl ?_
               refine go_weak (s' := ⟨[(2, (iV a2)), (10, .ptr 0 0), (12, .ptr 1 0), (13, (sL SPut.cells r15.2)), (14, .own 2 3 0 o16.length), (17, .own 3 3 0 0)], [(0, .box (SOpState.avs r14.1) 60), (1, .box (SOpState.avs r15.1) 60), (2, .acc 3 (List.map SPut.cells o16) 70), (3, .acc 3 (List.map SKeyState.cells []) 72)], 4⟩) (Weak.sub' (by repeat (first | exact trivial | refine ⟨rfl, ?_⟩)) (by repeat (first | exact trivial | refine ⟨rfl, ?_⟩)) (by exact Nat.le_of_ble_eq_true rfl)) ?_
               refine go_seq ?_
               refine go_seq ?_
               refine go_regionJ hR ⟨[(2, (iV a2)), (12, .ptr 1 0), (13, (sL SPut.cells r15.2)), (14, .own 2 3 0 o16.length), (17, .own 3 3 0 0), (76, (sL SKeyState.cells r14.1.Keys)), (77, (iV ((r14.1.Keys.length : Nat) : Int))), (78, (iV 0))], [(1, .box (SOpState.avs r15.1) 60), (2, .acc 3 (List.map SPut.cells o16) 70), (3, .acc 3 (List.map SKeyState.cells []) 72)], 4⟩ ?_ ?_
               ·skip
                simp only [AVS, bits_i64, EVB, eqF, Op.operands, IntKind.bits, descF, sizeF, bytesF, zeroF, seval, reduceCtorEq, ↓reduceIte]
                exact Weak.sub' ⟨rfl, rfl, rfl, rfl, rfl, rfl, rfl, rfl, trivial⟩ ⟨rfl, rfl, rfl, trivial⟩ (Nat.le_of_ble_eq_true rfl)
               ·skip
                obtain ⟨o26, hx1, hx0⟩ := letIn_ex hx0
                refine go_joinE (fun p : List SKeyState => ⟨[(12, .ptr 0 0), (13, (sL SPut.cells r15.2)), (14, .own 1 3 0 o16.length), (17, .own 2 3 0 p.length)], [(0, .box (SOpState.avs r15.1) 60), (1, .acc 3 (List.map SPut.cells o16) 70), (2, .acc 3 (List.map SKeyState.cells p) 72)], 3⟩) (fun p : List SKeyState => o26 = p) ?_ ?_
                ·refine go_block ?_
                 refine go_len (t := 76) rfl (fun hl47 => ?_)
                 simp only [List.length_map, maxLen_eq] at hl47
                 refine go_loop (fun p : Nat × (List SKeyState) => ⟨[(2, (iV a2)), (12, .ptr 0 0), (13, (sL SPut.cells r15.2)), (14, .own 1 3 0 o16.length), (17, .own 2 3 0 p.2.length), (76, (sL SKeyState.cells r14.1.Keys)), (77, (iV ((r14.1.Keys.length : Nat) : Int))), (78, (iV ((p.1 : Nat) : Int)))], [(0, .box (SOpState.avs r15.1) 60), (1, .acc 3 (List.map SPut.cells o16) 70), (2, .acc 3 (List.map SKeyState.cells p.2) 72)], 3⟩) (fun p : Nat × (List SKeyState) => (p.1 ≤ r14.1.Keys.length ∧ p.2.length ≤ p.1) ∧ pontoonlaw07_OperApart_L2 a2 r14 p.1 p.2 = o26) (fun p : Nat × (List SKeyState) => r14.1.Keys.length - p.1) (0, []) ⟨(by (try dsimp only); (repeat' apply And.intro) <;> first | trivial | omega | assumption | (simp; done)), hx1⟩ (Weak.canon [1, 2, 3] [2, 12, 13, 14, 17, 76, 77, 78] (by decide) rfl (by simp) rfl (by simp) (by first | rfl | (simp only [NM, CELLS] <;> rfl) | simp [NM, CELLS]) (by first | rfl | (simp only [NM, CELLS] <;> rfl) | simp [NM, CELLS]) rfl) ?_
                 rintro ⟨x31, x32⟩ ⟨hi48, hx1⟩
                 try dsimp only at hi48 hx1 ⊢
                 obtain ⟨hi48, hj⟩ := hi48
                 rw [pontoonlaw07_OperApart_L2.eq_def] at hx1
                 refine go_seq ?_
                 refine go_regionJ hR ⟨[(2, (iV a2)), (12, .ptr 0 0), (13, (sL SPut.cells r15.2)), (14, .own 1 3 0 o16.length), (17, .own 2 3 0 x32.length), (76, (sL SKeyState.cells r14.1.Keys)), (77, (iV ((r14.1.Keys.length : Nat) : Int))), (78, (iV ((x31 : Nat) : Int))), (79, (bo (decide (((x31 : Nat) : Int) < ((r14.1.Keys.length : Nat) : Int)))))], [(0, .box (SOpState.avs r15.1) 60), (1, .acc 3 (List.map SPut.cells o16) 70), (2, .acc 3 (List.map SKeyState.cells x32) 72)], 3⟩ ?_ ?_
                 ·skip
                  simp only [AVS, bits_i64, EVB, eqF, Op.operands, IntKind.bits, descF, sizeF, bytesF, zeroF, seval, reduceCtorEq, ↓reduceIte]
                  exact Weak.sub' ⟨rfl, rfl, rfl, rfl, rfl, rfl, rfl, rfl, rfl, trivial⟩ ⟨rfl, rfl, rfl, trivial⟩ (Nat.le_of_ble_eq_true rfl)
                 ·skip
                  refine go_seq ?_
                  refine go_cond (by rfl) (fun h33 => ?_) (fun h33 => ?_)
                  ·have gh33 := h33
                   try simp only [GN, beq_iff_eq, beq_eq_false_iff_ne, bne_iff_ne, bne_eq_false_iff_eq] at gh33
                   simp only [h33, dite_true, dite_false, reduceDIte, Bool.false_eq_true] at hx1
                   refine go_skip ?_
                   refine go_seq ?_
                   obtain ⟨o34, hx2, hx1⟩ := letIn_ex hx1
                   refine go_joinE (fun p : List SKeyState => ⟨[(2, (iV a2)), (12, .ptr 0 0), (13, (sL SPut.cells r15.2)), (14, .own 1 3 0 o16.length), (17, .own 2 3 0 p.length), (76, (sL SKeyState.cells r14.1.Keys)), (77, (iV ((r14.1.Keys.length : Nat) : Int))), (78, (iV ((x31 : Nat) : Int)))], [(0, .box (SOpState.avs r15.1) 60), (1, .acc 3 (List.map SPut.cells o16) 70), (2, .acc 3 (List.map SKeyState.cells p) 72)], 3⟩) (fun p : List SKeyState => o34 = p) ?_ ?_
                   ·refine go_block ?_
                    refine go_seq ?_
                    refine go_regionJ hR ⟨[(2, (iV a2)), (12, .ptr 0 0), (13, (sL SPut.cells r15.2)), (14, .own 1 3 0 o16.length), (17, .own 2 3 0 x32.length), (19, .ptr 3 0), (76, (sL SKeyState.cells r14.1.Keys)), (77, (iV ((r14.1.Keys.length : Nat) : Int))), (78, (iV ((x31 : Nat) : Int)))], [(0, .box (SOpState.avs r15.1) 60), (1, .acc 3 (List.map SPut.cells o16) 70), (2, .acc 3 (List.map SKeyState.cells x32) 72), (3, .box (SKeyState.avs (List.getD r14.1.Keys x31 default)) 72)], 4⟩ ?_ ?_
                    ·skip
                     have bq49 : x31 < r14.1.Keys.length := by omega
                     have q49 := map_getD SKeyState.cells r14.1.Keys x31 default bq49
                     simp only [q49, AVS, bits_i64, EVB, eqF, Op.operands, IntKind.bits, descF, sizeF, bytesF, zeroF, seval, reduceCtorEq, ↓reduceIte, CELLS]
                     refine ⟨(by (repeat' apply And.intro) <;> first | trivial | rfl | exact Nat.le_of_ble_eq_true rfl | omega | (intro u hu; obtain ⟨x, _, rfl⟩ := List.mem_map.1 hu; rfl) | (intro u hu; simp only [List.mem_cons, List.not_mem_nil, or_false] at hu; subst hu; rfl) | (simp only [NM]; omega) | (simp; done)), ?_⟩
                     exact Weak.sub' ⟨rfl, rfl, rfl, rfl, rfl, rfl, rfl, rfl, rfl, trivial⟩ ⟨rfl, rfl, rfl, rfl, trivial⟩ (Nat.le_of_ble_eq_true rfl)
                    ·skip
                     refine go_seq ?_
                     refine go_regionJ hR ⟨[(2, (iV a2)), (12, .ptr 0 0), (13, (sL SPut.cells r15.2)), (14, .own 1 3 0 o16.length), (17, .own 2 3 0 x32.length), (19, .ptr 3 0), (76, (sL SKeyState.cells r14.1.Keys)), (77, (iV ((r14.1.Keys.length : Nat) : Int))), (78, (iV ((x31 : Nat) : Int))), (85, (bo ((List.getD r14.1.Keys x31 default).Key == a2)))], [(0, .box (SOpState.avs r15.1) 60), (1, .acc 3 (List.map SPut.cells o16) 70), (2, .acc 3 (List.map SKeyState.cells x32) 72), (3, .box (SKeyState.avs (List.getD r14.1.Keys x31 default)) 72)], 4⟩ ?_ ?_
                     ·skip
                      simp only [AVS, bits_i64, EVB, eqF, Op.operands, IntKind.bits, descF, sizeF, bytesF, zeroF, seval, reduceCtorEq, ↓reduceIte]
                      exact Weak.sub' ⟨rfl, rfl, rfl, rfl, rfl, rfl, rfl, rfl, rfl, rfl, trivial⟩ ⟨rfl, rfl, rfl, rfl, trivial⟩ (Nat.le_of_ble_eq_true rfl)
                     ·skip
                      refine go_cond (by rfl) (fun h35 => ?_) (fun h35 => ?_)
                      ·have gh35 := h35
                       try simp only [GN, beq_iff_eq, beq_eq_false_iff_ne, bne_iff_ne, bne_eq_false_iff_eq] at gh35
                       simp only [h35, dite_true, dite_false, reduceDIte, Bool.false_eq_true] at hx2
                       refine go_regionJ hR ⟨[(2, (iV a2)), (12, .ptr 0 0), (13, (sL SPut.cells r15.2)), (14, .own 1 3 0 o16.length), (17, .own 2 3 0 ((x32 ++ [(List.getD r14.1.Keys x31 default)]).length)), (76, (sL SKeyState.cells r14.1.Keys)), (77, (iV ((r14.1.Keys.length : Nat) : Int))), (78, (iV ((x31 : Nat) : Int)))], [(0, .box (SOpState.avs r15.1) 60), (1, .acc 3 (List.map SPut.cells o16) 70), (2, .acc 3 (List.map SKeyState.cells (x32 ++ [(List.getD r14.1.Keys x31 default)])) 72)], 5⟩ ?_ ?_
                       ·skip
                        simp only [AVS, bits_i64, EVB, eqF, Op.operands, IntKind.bits, descF, sizeF, bytesF, zeroF, seval, reduceCtorEq, ↓reduceIte]
                        refine ⟨(by (repeat' apply And.intro) <;> first | trivial | rfl | exact Nat.le_of_ble_eq_true rfl | omega | (intro u hu; obtain ⟨x, _, rfl⟩ := List.mem_map.1 hu; rfl) | (intro u hu; simp only [List.mem_cons, List.not_mem_nil, or_false] at hu; subst hu; rfl) | (simp only [NM]; omega) | (simp; done)), ?_⟩
                        refine ⟨(by (repeat' apply And.intro) <;> first | trivial | rfl | exact Nat.le_of_ble_eq_true rfl | omega | (intro u hu; obtain ⟨x, _, rfl⟩ := List.mem_map.1 hu; rfl) | (intro u hu; simp only [List.mem_cons, List.not_mem_nil, or_false] at hu; subst hu; rfl) | (simp only [NM]; omega) | (simp; done)), ?_⟩
                        try simp only [BM, NM, CELLS]
                        exact Weak.sub' ⟨rfl, rfl, rfl, rfl, rfl, rfl, rfl, rfl, trivial⟩ ⟨rfl, rfl, rfl, trivial⟩ (Nat.le_of_ble_eq_true rfl)
                       ·skip
                        refine go_blk ?_
                        exact go_fin ⟨(x32 ++ [(List.getD r14.1.Keys x31 default)]), hx2.symm, (Weak.canon [0, 1, 2] [2, 12, 13, 14, 17, 76, 77, 78] (by decide) rfl (by simp) rfl (by simp) (by first | rfl | (simp only [NM, CELLS] <;> rfl) | simp [NM, CELLS]) (by first | rfl | (simp only [NM, CELLS] <;> rfl) | simp [NM, CELLS]) rfl)⟩
                      ·have gh35 := h35
                       try simp only [GN, beq_iff_eq, beq_eq_false_iff_ne, bne_iff_ne, bne_eq_false_iff_eq] at gh35
                       simp only [h35, dite_true, dite_false, reduceDIte, Bool.false_eq_true] at hx2
                       refine go_skip ?_
                       refine go_blk ?_
                       exact go_fin ⟨x32, hx2.symm, (Weak.canon [0, 1, 2] [2, 12, 13, 14, 17, 76, 77, 78] (by decide) rfl (by simp) rfl (by simp) (by first | rfl | (simp only [NM, CELLS] <;> rfl) | simp [NM, CELLS]) (by first | rfl | (simp only [NM, CELLS] <;> rfl) | simp [NM, CELLS]) rfl)⟩
                   ·rintro o34_ hp
                    try dsimp only at hp
                    subst hp
                    refine go_regionJ hR ⟨[(2, (iV a2)), (12, .ptr 0 0), (13, (sL SPut.cells r15.2)), (14, .own 1 3 0 o16.length), (17, .own 2 3 0 o34.length), (76, (sL SKeyState.cells r14.1.Keys)), (77, (iV ((r14.1.Keys.length : Nat) : Int))), (78, (iV ((x31 + 1 : Nat) : Int)))], [(0, .box (SOpState.avs r15.1) 60), (1, .acc 3 (List.map SPut.cells o16) 70), (2, .acc 3 (List.map SKeyState.cells o34) 72)], 3⟩ ?_ ?_
                    ·skip
                     have w50 : IntKind.i64.wrap (((x31 : Nat) : Int) + 1) = ((x31 + 1 : Nat) : Int) := by rw [IntKind.wrap_i64]; omega
                     simp only [w50, AVS, bits_i64, EVB, eqF, Op.operands, IntKind.bits, descF, sizeF, bytesF, zeroF, seval, reduceCtorEq, ↓reduceIte, CELLS]
                     exact Weak.sub' ⟨rfl, rfl, rfl, rfl, rfl, rfl, rfl, rfl, trivial⟩ ⟨rfl, rfl, rfl, trivial⟩ (Nat.le_of_ble_eq_true rfl)
                    ·skip
                     have hq : o34.length ≤ x31 + 1 := by rw [← hx2]; split <;> (try rw [List.length_append]) <;> (try simp only [List.length_cons, List.length_nil]) <;> omega
                     exact go_fin ⟨(x31 + 1, o34), ⟨(by (try dsimp only); (repeat' apply And.intro) <;> first | trivial | omega | assumption | (simp; done)), hx1⟩, by (try dsimp only); omega, (Weak.canon [0, 1, 2] [2, 12, 13, 14, 17, 76, 77, 78] (by decide) rfl (by simp) rfl (by simp) (by first | rfl | (simp only [NM, CELLS] <;> rfl) | simp [NM, CELLS]) (by first | rfl | (simp only [NM, CELLS] <;> rfl) | simp [NM, CELLS]) rfl)⟩
                  ·have gh33 := h33
                   try simp only [GN, beq_iff_eq, beq_eq_false_iff_ne, bne_iff_ne, bne_eq_false_iff_eq] at gh33
                   simp only [h33, dite_true, dite_false, reduceDIte, Bool.false_eq_true] at hx1
                   refine go_exit rfl ?_
                   exact go_fin ⟨x32, hx1.symm, (Weak.canon [0, 1, 2] [12, 13, 14, 17] (by decide) rfl (by simp) rfl (by simp) (by first | rfl | (simp only [NM, CELLS] <;> rfl) | simp [NM, CELLS]) (by first | rfl | (simp only [NM, CELLS] <;> rfl) | simp [NM, CELLS]) rfl)⟩
                ·rintro o26_ hp
                 try dsimp only at hp
                 subst hp
                 refine go_seq ?_
                 refine go_regionJ hR ⟨[(6, (bo ((pontoonref07_SamePuts o16 r15.2) && (pontoonref07_Same (SOpState.mk o26 0) r15.1))))], [], 3⟩ ?_ ?_
                 ·skip
                  rcases Bool.eq_false_or_eq_true (pontoonref07_SamePuts o16 r15.2) with h36 | h36
                  ·simp only [h36, AVS, bits_i64, EVB, eqF, Op.operands, IntKind.bits, descF, sizeF, bytesF, zeroF, seval, reduceCtorEq, ↓reduceIte]
                   refine CallK.freshE (pontoonref07_SamePuts_t o16 r15.2).toO rfl (by first | rfl | (simp only [NM]; done) | (simp only [AVS, NM]; done)) (by (repeat' apply And.intro) <;> first | trivial | rfl | omega | (simp only [NM]; omega)) (.inr ⟨by simp [flatAV, flatLs, AVS], trivial⟩) (by exact Nat.le_of_ble_eq_true rfl) ?_
                   try simp only [h36, AVS, bits_i64, EVB, eqF, Op.operands, IntKind.bits, descF, sizeF, bytesF, zeroF, seval, reduceCtorEq, ↓reduceIte]
                   refine CallK.freshE (pontoonref07_Same_t (SOpState.mk o26 0) r15.1).toO rfl (by first | rfl | (simp only [NM]; done) | (simp only [AVS, NM]; done)) (by (repeat' apply And.intro) <;> first | trivial | rfl | omega | (simp only [NM]; omega)) (.inr ⟨by simp [flatAV, flatLs, AVS], trivial⟩) (by exact Nat.le_of_ble_eq_true rfl) ?_
                   try simp only [h36, AVS, bits_i64, EVB, eqF, Op.operands, IntKind.bits, descF, sizeF, bytesF, zeroF, seval, reduceCtorEq, ↓reduceIte]
                   try simp only [h36, BM]
                   exact Weak.sub' ⟨rfl, trivial⟩ trivial (Nat.le_of_ble_eq_true rfl)
                  ·simp only [h36, AVS, bits_i64, EVB, eqF, Op.operands, IntKind.bits, descF, sizeF, bytesF, zeroF, seval, reduceCtorEq, ↓reduceIte]
                   refine CallK.freshE (pontoonref07_SamePuts_t o16 r15.2).toO rfl (by first | rfl | (simp only [NM]; done) | (simp only [AVS, NM]; done)) (by (repeat' apply And.intro) <;> first | trivial | rfl | omega | (simp only [NM]; omega)) (.inr ⟨by simp [flatAV, flatLs, AVS], trivial⟩) (by exact Nat.le_of_ble_eq_true rfl) ?_
                   try simp only [h36, AVS, bits_i64, EVB, eqF, Op.operands, IntKind.bits, descF, sizeF, bytesF, zeroF, seval, reduceCtorEq, ↓reduceIte]
                   try simp only [h36, BM]
                   exact Weak.sub' ⟨rfl, trivial⟩ trivial (Nat.le_of_ble_eq_true rfl)
                 ·skip
                  subst hx0
                  refine go_return ttOk (fun _ h => h) rfl ?_ ?_
                  ·exact (by (repeat' apply And.intro) <;> first | trivial | exact Nat.le_of_ble_eq_true rfl | omega | (simp only [NM]; omega))
                  ·first | rfl | (simp only [NM, CELLS] <;> rfl)
end Go.Ab.Try
