/-
  Functions, and what they compute: printed by wg.py, a program of this work.
-/
import Derived.Test.YtipiagjhijnmhaaP0
import Derived.Test.YtipiagjhijnmhaaP2
import Derived.Test.YtipiagjhijnmhaaP4
import Derived.Test.YtipiagjhijnmhaaP5
set_option linter.unusedVariables false
set_option linter.unusedSimpArgs false
namespace Go.Ab.Try
open Go Go.Proofs Go.Ab

def pontoonlaw19_CoordOrder_L0 (a1 : (List Spontoonlaw19_Come)) (x64 : Int) (x65 : Nat) (x66 : Int) (x67 : Int) (x68 : Int) (x69 : Int) (x70 : List Int) (x71 : Int) (x72 : Int) (x73 : Int) (x74 : List SRecord) (x75 : List Int) (x76 : Int) (x77 : Int) : Sum Bool Unit :=
  (if h78 : (decide (((x65 : Nat) : Int) < ((a1.length : Nat) : Int))) = true then letIn (pontoonlaw19_owned (SCoord.mk x66 x67 x68 x69 x70 (STxn.mk x71 x72 x73 x74 x75) x76 x77) (Spontoonlaw19_Come.mk ((List.getD a1 x65 default).Do) ((List.getD a1 x65 default).Own) ((List.getD a1 x65 default).Id) ((List.getD a1 x65 default).Manifest) ((List.getD a1 x65 default).Kind) ((List.getD a1 x65 default).Key) ((List.getD a1 x65 default).Err) ((List.getD a1 x65 default).Len) ((List.getD a1 x65 default).Vector))) fun r79 => letIn (pontoonlaw19_does (SCoord.mk x66 x67 x68 x69 x70 (STxn.mk x71 x72 x73 x74 x75) x76 x77) r79) fun r80 => (if h83 : ((((coord_Check r80.1) != 0) || (decide (r80.1.Id < x68))) || (r80.1.Epoch != x67)) = true then (Sum.inl false) else letIn ((if h85 : (r80.2.Kind == 1) = true then (if h87 : ((decide (r80.2.Id ≤ x64)) || (x66 != 0)) = true then (Sum.inl false) else (Sum.inr r80.2.Id)) else (if h88 : (r80.2.Kind == 4) = true then (if h93 : (((((r79.Do != 4) || (r79.Kind != 3)) || (r79.Err != 0)) || (x66 != 2)) || (!(pontoonref15_SameTxn r80.2.Txn (STxn.mk x71 x72 x73 x74 x75)))) = true then (Sum.inl false) else (Sum.inr x64)) else (if h94 : (r80.2.Kind == 6) = true then (if h96 : ((r79.Err != 150) || (r80.1.Phase != 4)) = true then (Sum.inl false) else (Sum.inr x64)) else (Sum.inr x64))))) fun o84s => Sum.elim (fun q => Sum.inl q) (fun o84 => (if h99 : ((x66 == 4) && ((r80.2.Kind != 0) || (!(pontoonref19_Same (SCoord.mk x66 x67 x68 x69 x70 (STxn.mk x71 x72 x73 x74 x75) x76 x77) r80.1)))) = true then (Sum.inl false) else (pontoonlaw19_CoordOrder_L0 a1 o84 (x65 + 1) r80.1.Phase r80.1.Epoch r80.1.Id r80.1.Len r80.1.Vector r80.1.Txn.Epoch r80.1.Txn.Id r80.1.Txn.Begin r80.1.Txn.Records r80.1.Txn.Vector r80.1.Done r80.1.Left))) o84s) else (Sum.inr ()))
termination_by a1.length - x65
decreasing_by all_goals (try simp only [GN, beq_iff_eq, beq_eq_false_iff_ne, bne_iff_ne, bne_eq_false_iff_eq] at *) <;> omega
def pontoonlaw19_CoordOrder (a0 : Int) (a1 : (List Spontoonlaw19_Come)) : Bool :=
  (bif (!pontoonlaw19_live) then false else letIn (coord_New (IntKind.i64.wrap ((IntKind.i64.wrap a0) + 1)) 0 0 [0, 0]) fun r2 => (bif (r2.2 != 0) then false else letIn (pontoonlaw19_CoordOrder_L0 a1 0 0 r2.1.Phase r2.1.Epoch r2.1.Id r2.1.Len r2.1.Vector r2.1.Txn.Epoch r2.1.Txn.Id r2.1.Txn.Begin r2.1.Txn.Records r2.1.Txn.Vector r2.1.Done r2.1.Left) fun o4s => Sum.elim (fun q => q) (fun o4 => true) o4s))
set_option maxRecDepth 10000 in
set_option maxHeartbeats 8000000 in
theorem pontoonlaw19_CoordOrder_t (a0 : Int) (a1 : (List Spontoonlaw19_Come)) (z1 : (a1.length ≤ 4294967296 ∧ ∀ y ∈ a1, Spontoonlaw19_Come.Sz y)) : FnP Try.prog 4 [.c (.val (.int .u8 a0)), .c (.sl (List.map Spontoonlaw19_Come.cells a1))] (.c (.val (.bool (pontoonlaw19_CoordOrder a0 a1)))) := by
 refine FnP.intro (tt := tt) Try.func4 rfl (by kernel_rfl) (by simp [Try.ntmps4]) fun w0 A hA => ?_
 have hR := reckB_ok eqOk ttOk
 obtain ⟨res, hx0⟩ : ∃ r, pontoonlaw19_CoordOrder a0 a1 = r := ⟨_, rfl⟩
 simp only [hx0]
 unfold pontoonlaw19_CoordOrder at hx0
 simp only [argT, Try.ntmps4]
 try simp only [SZD] at z1
 obtain ⟨zz100, zz101⟩ := z1
 refine go_seq ?_
 refine go_regionJ hR ⟨[(0, .c (.val (.int .u8 a0))), (1, .c (.sl (List.map Spontoonlaw19_Come.cells a1)))], [], 0⟩ ?_ ?_
 ·skip
  simp only [EVB, eqF, Op.operands, IntKind.bits, descF, sizeF, bytesF, zeroF, seval, reduceCtorEq, ↓reduceIte]
  exact Weak.sub' ⟨rfl, rfl, trivial⟩ trivial (Nat.le_of_ble_eq_true rfl)
 ·skip
  refine go_seq ?_
  refine go_seq ?_
  refine go_regionJ hR ⟨[(0, .c (.val (.int .u8 a0))), (1, .c (.sl (List.map Spontoonlaw19_Come.cells a1))), (13, .c (.val (.bool (!pontoonlaw19_live))))], [], 0⟩ ?_ ?_
  ·skip
   simp only [EVB, eqF, Op.operands, IntKind.bits, descF, sizeF, bytesF, zeroF, seval, reduceCtorEq, ↓reduceIte]
   refine CallK.freshE pontoonlaw19_live_t.toO rfl (by first | rfl | (simp only [NM]; done)) (by (repeat' apply And.intro) <;> first | trivial | rfl | omega | (simp only [NM]; omega)) (.inl rfl) (by exact Nat.le_of_ble_eq_true rfl) ?_
   try simp only [EVB, eqF, Op.operands, IntKind.bits, descF, sizeF, bytesF, zeroF, seval, reduceCtorEq, ↓reduceIte]
   exact Weak.sub' ⟨rfl, rfl, rfl, trivial⟩ trivial (Nat.le_of_ble_eq_true rfl)
  ·skip
   refine go_cond (by rfl) (fun h1 => ?_) (fun h1 => ?_)
   ·have gh1 := h1
    try simp only [GN, beq_iff_eq, beq_eq_false_iff_ne, bne_iff_ne, bne_eq_false_iff_eq] at gh1
    simp only [h1, cond_true, cond_false] at hx0
    refine go_seq ?_
    refine go_regionJ hR ⟨[(4, .c (.val (.bool false)))], [], 0⟩ ?_ ?_
    ·skip
     simp only [EVB, eqF, Op.operands, IntKind.bits, descF, sizeF, bytesF, zeroF, seval, reduceCtorEq, ↓reduceIte]
     exact Weak.sub' ⟨rfl, trivial⟩ trivial (Nat.le_of_ble_eq_true rfl)
    ·skip
     subst hx0
     refine go_return ttOk (fun _ h => h) rfl ?_ ?_
     ·exact (by (repeat' apply And.intro) <;> first | trivial | exact Nat.le_of_ble_eq_true rfl | omega | (simp only [NM]; omega))
     ·first | rfl | (simp only [NM, CELLS] <;> rfl)
   ·have gh1 := h1
    try simp only [GN, beq_iff_eq, beq_eq_false_iff_ne, bne_iff_ne, bne_eq_false_iff_eq] at gh1
    simp only [h1, cond_true, cond_false] at hx0
    refine go_skip ?_
    refine go_seq ?_
    obtain ⟨r2, hr2, hx0⟩ := letIn_ex hx0
    have Cr2 := (coord_New_t (IntKind.i64.wrap ((IntKind.i64.wrap a0) + 1)) 0 0 [0, 0] (by (try simp only [SZD]); (repeat' apply And.intro) <;> first | assumption | omega | simp_all))
    simp only [hr2] at Cr2
    have zr2 := coord_New_sz (IntKind.i64.wrap ((IntKind.i64.wrap a0) + 1)) 0 0 [0, 0] (by (try simp only [SZD]); (repeat' apply And.intro) <;> first | assumption | omega | simp_all)
    simp only [hr2, SZD] at zr2
    obtain ⟨zz102, ⟨zz103, zz104⟩⟩ := zr2
    refine go_regionJ hR ⟨[(1, .c (.sl (List.map Spontoonlaw19_Come.cells a1))), (5, .ptr 1 0), (6, .c (.val (.int .i64 r2.2)))], [(1, .box [.c (.val (.int .i64 r2.1.Phase)), .c (.val (.int .i64 r2.1.Epoch)), .c (.val (.int .i64 r2.1.Id)), .c (.val (.int .i64 r2.1.Len)), .c (.sl (List.map cI64 r2.1.Vector)), .c (.val (.int .i64 r2.1.Txn.Epoch)), .c (.val (.int .i64 r2.1.Txn.Id)), .c (.val (.int .i64 r2.1.Txn.Begin)), .c (.sl (List.map SRecord.cells r2.1.Txn.Records)), .c (.sl (List.map cI64 r2.1.Txn.Vector)), .c (.val (.int .i64 r2.1.Done)), .c (.val (.int .i64 r2.1.Left))] 30)], 2⟩ ?_ ?_
    ·skip
     simp only [EVB, eqF, Op.operands, IntKind.bits, descF, sizeF, bytesF, zeroF, seval, reduceCtorEq, ↓reduceIte]
     refine ⟨(by (repeat' apply And.intro) <;> first | trivial | rfl | exact Nat.le_of_ble_eq_true rfl | omega | (intro u hu; obtain ⟨x, _, rfl⟩ := List.mem_map.1 hu; rfl) | (intro u hu; simp only [List.mem_cons, List.not_mem_nil, or_false] at hu; subst hu; rfl) | (simp only [NM]; omega) | (simp; done)), ?_⟩
     refine CallK.close 0 rfl rfl (by (repeat' apply And.intro) <;> first | trivial | rfl | exact Nat.le_of_ble_eq_true rfl | omega | (intro u hu; obtain ⟨x, _, rfl⟩ := List.mem_map.1 hu; rfl) | (intro u hu; simp only [List.mem_cons, List.not_mem_nil, or_false] at hu; subst hu; rfl) | (simp only [NM]; omega) | (simp; done)) ?_
     refine CallK.freshE Cr2.toO rfl (by first | rfl | (simp only [NM]; done)) (by (repeat' apply And.intro) <;> first | trivial | rfl | omega | (simp only [NM]; omega)) (.inl rfl) (by exact Nat.le_of_ble_eq_true rfl) ?_
     try simp only [EVB, eqF, Op.operands, IntKind.bits, descF, sizeF, bytesF, zeroF, seval, reduceCtorEq, ↓reduceIte]
     try simp only [BM, NM, CELLS]
     exact Weak.sub' ⟨rfl, rfl, rfl, trivial⟩ ⟨rfl, trivial⟩ (Nat.le_of_ble_eq_true rfl)
    ·skip
     refine go_seq ?_
     refine go_seq ?_
     refine go_regionJ hR ⟨[(1, .c (.sl (List.map Spontoonlaw19_Come.cells a1))), (5, .ptr 1 0), (23, .c (.val (.bool (r2.2 != 0))))], [(1, .box [.c (.val (.int .i64 r2.1.Phase)), .c (.val (.int .i64 r2.1.Epoch)), .c (.val (.int .i64 r2.1.Id)), .c (.val (.int .i64 r2.1.Len)), .c (.sl (List.map cI64 r2.1.Vector)), .c (.val (.int .i64 r2.1.Txn.Epoch)), .c (.val (.int .i64 r2.1.Txn.Id)), .c (.val (.int .i64 r2.1.Txn.Begin)), .c (.sl (List.map SRecord.cells r2.1.Txn.Records)), .c (.sl (List.map cI64 r2.1.Txn.Vector)), .c (.val (.int .i64 r2.1.Done)), .c (.val (.int .i64 r2.1.Left))] 30)], 2⟩ ?_ ?_
     ·skip
      simp only [EVB, eqF, Op.operands, IntKind.bits, descF, sizeF, bytesF, zeroF, seval, reduceCtorEq, ↓reduceIte]
      exact Weak.sub' ⟨rfl, rfl, rfl, trivial⟩ ⟨rfl, trivial⟩ (Nat.le_of_ble_eq_true rfl)
     ·skip
      refine go_cond (by rfl) (fun h3 => ?_) (fun h3 => ?_)
      ·have gh3 := h3
       try simp only [GN, beq_iff_eq, beq_eq_false_iff_ne, bne_iff_ne, bne_eq_false_iff_eq] at gh3
       simp only [h3, cond_true, cond_false] at hx0
       refine go_seq ?_
       refine go_regionJ hR ⟨[(4, .c (.val (.bool false)))], [], 2⟩ ?_ ?_
       ·skip
        simp only [EVB, eqF, Op.operands, IntKind.bits, descF, sizeF, bytesF, zeroF, seval, reduceCtorEq, ↓reduceIte]
        exact Weak.sub' ⟨rfl, trivial⟩ trivial (Nat.le_of_ble_eq_true rfl)
       ·skip
        subst hx0
        refine go_return ttOk (fun _ h => h) rfl ?_ ?_
        ·exact (by (repeat' apply And.intro) <;> first | trivial | exact Nat.le_of_ble_eq_true rfl | omega | (simp only [NM]; omega))
        ·first | rfl | (simp only [NM, CELLS] <;> rfl)
      ·have gh3 := h3
       try simp only [GN, beq_iff_eq, beq_eq_false_iff_ne, bne_iff_ne, bne_eq_false_iff_eq] at gh3
       simp only [h3, cond_true, cond_false] at hx0
       refine go_skip ?_
       refine go_seq ?_
       refine go_regionJ hR ⟨[(1, .c (.sl (List.map Spontoonlaw19_Come.cells a1))), (5, .ptr 1 0), (7, .c (.val (.int .i64 0)))], [(1, .box [.c (.val (.int .i64 r2.1.Phase)), .c (.val (.int .i64 r2.1.Epoch)), .c (.val (.int .i64 r2.1.Id)), .c (.val (.int .i64 r2.1.Len)), .c (.sl (List.map cI64 r2.1.Vector)), .c (.val (.int .i64 r2.1.Txn.Epoch)), .c (.val (.int .i64 r2.1.Txn.Id)), .c (.val (.int .i64 r2.1.Txn.Begin)), .c (.sl (List.map SRecord.cells r2.1.Txn.Records)), .c (.sl (List.map cI64 r2.1.Txn.Vector)), .c (.val (.int .i64 r2.1.Done)), .c (.val (.int .i64 r2.1.Left))] 30)], 2⟩ ?_ ?_
       ·skip
        simp only [EVB, eqF, Op.operands, IntKind.bits, descF, sizeF, bytesF, zeroF, seval, reduceCtorEq, ↓reduceIte]
        exact Weak.sub' ⟨rfl, rfl, rfl, trivial⟩ ⟨rfl, trivial⟩ (Nat.le_of_ble_eq_true rfl)
       ·skip
        refine go_seq ?_
        refine go_seq ?_
        refine go_regionJ hR ⟨[(5, .ptr 1 0), (7, .c (.val (.int .i64 0))), (24, .c (.sl (List.map Spontoonlaw19_Come.cells a1))), (25, .c (.val (.int .i64 ((a1.length : Nat) : Int)))), (26, .c (.val (.int .i64 0)))], [(1, .box [.c (.val (.int .i64 r2.1.Phase)), .c (.val (.int .i64 r2.1.Epoch)), .c (.val (.int .i64 r2.1.Id)), .c (.val (.int .i64 r2.1.Len)), .c (.sl (List.map cI64 r2.1.Vector)), .c (.val (.int .i64 r2.1.Txn.Epoch)), .c (.val (.int .i64 r2.1.Txn.Id)), .c (.val (.int .i64 r2.1.Txn.Begin)), .c (.sl (List.map SRecord.cells r2.1.Txn.Records)), .c (.sl (List.map cI64 r2.1.Txn.Vector)), .c (.val (.int .i64 r2.1.Done)), .c (.val (.int .i64 r2.1.Left))] 30)], 2⟩ ?_ ?_
        ·skip
         simp only [EVB, eqF, Op.operands, IntKind.bits, descF, sizeF, bytesF, zeroF, seval, reduceCtorEq, ↓reduceIte]
         exact Weak.sub' ⟨rfl, rfl, rfl, rfl, rfl, trivial⟩ ⟨rfl, trivial⟩ (Nat.le_of_ble_eq_true rfl)
        ·skip
         obtain ⟨o4s, hx1, hx0⟩ := letIn_ex hx0
         refine go_joinE (fun p : Unit => ⟨[], [], 0⟩) (fun p : Unit => o4s = Sum.inr p) ?_ ?_
         ·refine go_block ?_
          refine go_len (t := 24) rfl (fun hl105 => ?_)
          simp only [List.length_map, maxLen_eq] at hl105
          refine go_loop (fun p : Int × Nat × Int × Int × Int × Int × (List Int) × Int × Int × Int × (List SRecord) × (List Int) × Int × Int => ⟨[(5, .ptr 0 0), (7, .c (.val (.int .i64 p.1))), (24, .c (.sl (List.map Spontoonlaw19_Come.cells a1))), (25, .c (.val (.int .i64 ((a1.length : Nat) : Int)))), (26, .c (.val (.int .i64 ((p.2.1 : Nat) : Int))))], [(0, .box [.c (.val (.int .i64 p.2.2.1)), .c (.val (.int .i64 p.2.2.2.1)), .c (.val (.int .i64 p.2.2.2.2.1)), .c (.val (.int .i64 p.2.2.2.2.2.1)), .c (.sl (List.map cI64 p.2.2.2.2.2.2.1)), .c (.val (.int .i64 p.2.2.2.2.2.2.2.1)), .c (.val (.int .i64 p.2.2.2.2.2.2.2.2.1)), .c (.val (.int .i64 p.2.2.2.2.2.2.2.2.2.1)), .c (.sl (List.map SRecord.cells p.2.2.2.2.2.2.2.2.2.2.1)), .c (.sl (List.map cI64 p.2.2.2.2.2.2.2.2.2.2.2.1)), .c (.val (.int .i64 p.2.2.2.2.2.2.2.2.2.2.2.2.1)), .c (.val (.int .i64 p.2.2.2.2.2.2.2.2.2.2.2.2.2))] 30)], 1⟩) (fun p : Int × Nat × Int × Int × Int × Int × (List Int) × Int × Int × Int × (List SRecord) × (List Int) × Int × Int => (p.2.1 ≤ a1.length ∧ p.2.2.2.2.2.2.1.length ≤ 4294967296 ∧ p.2.2.2.2.2.2.2.2.2.2.1.length ≤ 4294967296 ∧ p.2.2.2.2.2.2.2.2.2.2.2.1.length ≤ 4294967296) ∧ pontoonlaw19_CoordOrder_L0 a1 p.1 p.2.1 p.2.2.1 p.2.2.2.1 p.2.2.2.2.1 p.2.2.2.2.2.1 p.2.2.2.2.2.2.1 p.2.2.2.2.2.2.2.1 p.2.2.2.2.2.2.2.2.1 p.2.2.2.2.2.2.2.2.2.1 p.2.2.2.2.2.2.2.2.2.2.1 p.2.2.2.2.2.2.2.2.2.2.2.1 p.2.2.2.2.2.2.2.2.2.2.2.2.1 p.2.2.2.2.2.2.2.2.2.2.2.2.2 = o4s) (fun p : Int × Nat × Int × Int × Int × Int × (List Int) × Int × Int × Int × (List SRecord) × (List Int) × Int × Int => a1.length - p.2.1) (0, 0, r2.1.Phase, r2.1.Epoch, r2.1.Id, r2.1.Len, r2.1.Vector, r2.1.Txn.Epoch, r2.1.Txn.Id, r2.1.Txn.Begin, r2.1.Txn.Records, r2.1.Txn.Vector, r2.1.Done, r2.1.Left) ⟨(by (try dsimp only); (repeat' apply And.intro) <;> first | trivial | omega | assumption | (simp; done)), hx1⟩ (Weak.canon [1] [5, 7, 24, 25, 26] (by decide) rfl (by simp) rfl (by simp) (by first | rfl | (simp only [NM, CELLS] <;> rfl) | simp [NM, CELLS]) (by first | rfl | (simp only [NM, CELLS] <;> rfl) | simp [NM, CELLS]) rfl) ?_
          rintro ⟨x64, x65, x66, x67, x68, x69, x70, x71, x72, x73, x74, x75, x76, x77⟩ ⟨⟨hi107, hi108, hi109, hi110⟩, hx1⟩
          try dsimp only at hi107 hi108 hi109 hi110 hx1 ⊢
          rw [pontoonlaw19_CoordOrder_L0.eq_def] at hx1
          refine go_seq ?_
          refine go_regionJ hR ⟨[(5, .ptr 0 0), (7, .c (.val (.int .i64 x64))), (24, .c (.sl (List.map Spontoonlaw19_Come.cells a1))), (25, .c (.val (.int .i64 ((a1.length : Nat) : Int)))), (26, .c (.val (.int .i64 ((x65 : Nat) : Int)))), (27, .c (.val (.bool (decide (((x65 : Nat) : Int) < ((a1.length : Nat) : Int))))))], [(0, .box [.c (.val (.int .i64 x66)), .c (.val (.int .i64 x67)), .c (.val (.int .i64 x68)), .c (.val (.int .i64 x69)), .c (.sl (List.map cI64 x70)), .c (.val (.int .i64 x71)), .c (.val (.int .i64 x72)), .c (.val (.int .i64 x73)), .c (.sl (List.map SRecord.cells x74)), .c (.sl (List.map cI64 x75)), .c (.val (.int .i64 x76)), .c (.val (.int .i64 x77))] 30)], 1⟩ ?_ ?_
          ·skip
           simp only [EVB, eqF, Op.operands, IntKind.bits, descF, sizeF, bytesF, zeroF, seval, reduceCtorEq, ↓reduceIte]
           exact Weak.sub' ⟨rfl, rfl, rfl, rfl, rfl, rfl, trivial⟩ ⟨rfl, trivial⟩ (Nat.le_of_ble_eq_true rfl)
          ·skip
           refine go_seq ?_
           refine go_cond (by rfl) (fun h78 => ?_) (fun h78 => ?_)
           ·have gh78 := h78
            try simp only [GN, beq_iff_eq, beq_eq_false_iff_ne, bne_iff_ne, bne_eq_false_iff_eq] at gh78
            simp only [h78, dite_true, dite_false, reduceDIte, Bool.false_eq_true] at hx1
            refine go_skip ?_
            refine go_seq ?_
            refine go_block ?_
            refine go_seq ?_
            refine go_regionJ hR ⟨[(5, .ptr 0 0), (7, .c (.val (.int .i64 x64))), (9, .ptr 1 0), (24, .c (.sl (List.map Spontoonlaw19_Come.cells a1))), (25, .c (.val (.int .i64 ((a1.length : Nat) : Int)))), (26, .c (.val (.int .i64 ((x65 : Nat) : Int))))], [(0, .box [.c (.val (.int .i64 x66)), .c (.val (.int .i64 x67)), .c (.val (.int .i64 x68)), .c (.val (.int .i64 x69)), .c (.sl (List.map cI64 x70)), .c (.val (.int .i64 x71)), .c (.val (.int .i64 x72)), .c (.val (.int .i64 x73)), .c (.sl (List.map SRecord.cells x74)), .c (.sl (List.map cI64 x75)), .c (.val (.int .i64 x76)), .c (.val (.int .i64 x77))] 30), (1, .box [.c (.val (.int .i64 ((List.getD a1 x65 default).Do))), .c (.val (.bool ((List.getD a1 x65 default).Own))), .c (.val (.int .i64 ((List.getD a1 x65 default).Id))), .c (.val (.int .i64 (((List.getD a1 x65 default).Manifest).Epoch))), .c (.val (.int .i64 (((List.getD a1 x65 default).Manifest).Id))), .c (.sl (List.map cI64 (((List.getD a1 x65 default).Manifest).Vector))), .c (.val (.int .i64 (((List.getD a1 x65 default).Manifest).Out))), .c (.val (.int .i64 (((List.getD a1 x65 default).Manifest).Begin))), .c (.sl (List.map SRecord.cells (((List.getD a1 x65 default).Manifest).Records))), .c (.sl (List.map SPiece.cells (((List.getD a1 x65 default).Manifest).Pieces))), .c (.val (.int .u32 (((List.getD a1 x65 default).Manifest).Graph))), .c (.val (.int .i64 ((List.getD a1 x65 default).Kind))), .c (.val (.int .i64 (((List.getD a1 x65 default).Key).Epoch))), .c (.val (.int .i64 (((List.getD a1 x65 default).Key).Id))), .c (.val (.int .i64 ((List.getD a1 x65 default).Err))), .c (.val (.int .i64 ((List.getD a1 x65 default).Len))), .c (.sl (List.map cI64 ((List.getD a1 x65 default).Vector)))] 45)], 2⟩ ?_ ?_
            ·skip
             have bq111 : x65 < a1.length := by omega
             have q111 := map_getD Spontoonlaw19_Come.cells a1 x65 default bq111
             have zq111 : (((((List.getD a1 x65 default).Manifest).Vector).length ≤ 4294967296 ∧ (((List.getD a1 x65 default).Manifest).Records).length ≤ 4294967296 ∧ (((List.getD a1 x65 default).Manifest).Pieces).length ≤ 4294967296) ∧ ((List.getD a1 x65 default).Vector).length ≤ 4294967296) := (by assumption : ∀ y ∈ a1, ((y.Manifest.Vector.length ≤ 4294967296 ∧ y.Manifest.Records.length ≤ 4294967296 ∧ y.Manifest.Pieces.length ≤ 4294967296) ∧ y.Vector.length ≤ 4294967296)) _ (getD_mem a1 x65 default bq111)
             obtain ⟨⟨zz112, zz113, zz114⟩, zz115⟩ := zq111
             simp only [q111, EVB, eqF, Op.operands, IntKind.bits, descF, sizeF, bytesF, zeroF, seval, reduceCtorEq, ↓reduceIte, CELLS]
             refine ⟨(by (repeat' apply And.intro) <;> first | trivial | rfl | exact Nat.le_of_ble_eq_true rfl | omega | (intro u hu; obtain ⟨x, _, rfl⟩ := List.mem_map.1 hu; rfl) | (intro u hu; simp only [List.mem_cons, List.not_mem_nil, or_false] at hu; subst hu; rfl) | (simp only [NM]; omega) | (simp; done)), ?_⟩
             exact Weak.sub' ⟨rfl, rfl, rfl, rfl, rfl, rfl, trivial⟩ ⟨rfl, rfl, trivial⟩ (Nat.le_of_ble_eq_true rfl)
            ·skip
             refine go_seq ?_
             obtain ⟨r79, hr79, hx1⟩ := letIn_ex hx1
             have Cr79 := (pontoonlaw19_owned_t (SCoord.mk x66 x67 x68 x69 x70 (STxn.mk x71 x72 x73 x74 x75) x76 x77) (Spontoonlaw19_Come.mk ((List.getD a1 x65 default).Do) ((List.getD a1 x65 default).Own) ((List.getD a1 x65 default).Id) ((List.getD a1 x65 default).Manifest) ((List.getD a1 x65 default).Kind) ((List.getD a1 x65 default).Key) ((List.getD a1 x65 default).Err) ((List.getD a1 x65 default).Len) ((List.getD a1 x65 default).Vector)))
             simp only [hr79] at Cr79
             have zr79 := pontoonlaw19_owned_sz (SCoord.mk x66 x67 x68 x69 x70 (STxn.mk x71 x72 x73 x74 x75) x76 x77) (Spontoonlaw19_Come.mk ((List.getD a1 x65 default).Do) ((List.getD a1 x65 default).Own) ((List.getD a1 x65 default).Id) ((List.getD a1 x65 default).Manifest) ((List.getD a1 x65 default).Kind) ((List.getD a1 x65 default).Key) ((List.getD a1 x65 default).Err) ((List.getD a1 x65 default).Len) ((List.getD a1 x65 default).Vector)) (by (try simp only [SZD]); (repeat' apply And.intro) <;> first | assumption | omega | simp_all) (by (try simp only [SZD]); (repeat' apply And.intro) <;> first | assumption | omega | simp_all)
             simp only [hr79, SZD] at zr79
             obtain ⟨⟨zz116, zz117, zz118⟩, zz119⟩ := zr79
             refine go_regionJ hR ⟨[(5, .ptr 0 0), (7, .c (.val (.int .i64 x64))), (9, .ptr 1 0), (24, .c (.sl (List.map Spontoonlaw19_Come.cells a1))), (25, .c (.val (.int .i64 ((a1.length : Nat) : Int)))), (26, .c (.val (.int .i64 ((x65 : Nat) : Int))))], [(0, .box [.c (.val (.int .i64 x66)), .c (.val (.int .i64 x67)), .c (.val (.int .i64 x68)), .c (.val (.int .i64 x69)), .c (.sl (List.map cI64 x70)), .c (.val (.int .i64 x71)), .c (.val (.int .i64 x72)), .c (.val (.int .i64 x73)), .c (.sl (List.map SRecord.cells x74)), .c (.sl (List.map cI64 x75)), .c (.val (.int .i64 x76)), .c (.val (.int .i64 x77))] 30), (1, .box [.c (.val (.int .i64 r79.Do)), .c (.val (.bool r79.Own)), .c (.val (.int .i64 r79.Id)), .c (.val (.int .i64 r79.Manifest.Epoch)), .c (.val (.int .i64 r79.Manifest.Id)), .c (.sl (List.map cI64 r79.Manifest.Vector)), .c (.val (.int .i64 r79.Manifest.Out)), .c (.val (.int .i64 r79.Manifest.Begin)), .c (.sl (List.map SRecord.cells r79.Manifest.Records)), .c (.sl (List.map SPiece.cells r79.Manifest.Pieces)), .c (.val (.int .u32 r79.Manifest.Graph)), .c (.val (.int .i64 r79.Kind)), .c (.val (.int .i64 r79.Key.Epoch)), .c (.val (.int .i64 r79.Key.Id)), .c (.val (.int .i64 r79.Err)), .c (.val (.int .i64 r79.Len)), .c (.sl (List.map cI64 r79.Vector))] 45)], 2⟩ ?_ ?_
             ·skip
              simp only [EVB, eqF, Op.operands, IntKind.bits, descF, sizeF, bytesF, zeroF, seval, reduceCtorEq, ↓reduceIte]
              refine CallK.freshE Cr79.toO rfl (by first | rfl | (simp only [NM]; done)) (by (repeat' apply And.intro) <;> first | trivial | rfl | omega | (simp only [NM]; omega)) (.inl rfl) (by exact Nat.le_of_ble_eq_true rfl) ?_
              try simp only [EVB, eqF, Op.operands, IntKind.bits, descF, sizeF, bytesF, zeroF, seval, reduceCtorEq, ↓reduceIte]
              exact Weak.sub' ⟨rfl, rfl, rfl, rfl, rfl, rfl, trivial⟩ ⟨rfl, rfl, trivial⟩ (Nat.le_of_ble_eq_true rfl)
             ·skip
              refine go_seq ?_
              obtain ⟨r80, hr80, hx1⟩ := letIn_ex hx1
              have Cr80 := (pontoonlaw19_does_t (SCoord.mk x66 x67 x68 x69 x70 (STxn.mk x71 x72 x73 x74 x75) x76 x77) r79 (by (try simp only [SZD]); (repeat' apply And.intro) <;> first | assumption | omega | simp_all) (by (try simp only [SZD]); (repeat' apply And.intro) <;> first | assumption | omega | simp_all))
              simp only [hr80] at Cr80
              have zr80 := pontoonlaw19_does_sz (SCoord.mk x66 x67 x68 x69 x70 (STxn.mk x71 x72 x73 x74 x75) x76 x77) r79 (by (try simp only [SZD]); (repeat' apply And.intro) <;> first | assumption | omega | simp_all) (by (try simp only [SZD]); (repeat' apply And.intro) <;> first | assumption | omega | simp_all)
              simp only [hr80, SZD] at zr80
              obtain ⟨⟨zz120, ⟨zz121, zz122⟩⟩, ⟨zz123, zz124⟩⟩ := zr80
              refine go_regionJ hR ⟨[(5, .ptr 0 0), (7, .c (.val (.int .i64 x64))), (9, .ptr 1 0), (10, .ptr 2 0), (11, .ptr 3 0), (24, .c (.sl (List.map Spontoonlaw19_Come.cells a1))), (25, .c (.val (.int .i64 ((a1.length : Nat) : Int)))), (26, .c (.val (.int .i64 ((x65 : Nat) : Int))))], [(0, .box [.c (.val (.int .i64 x66)), .c (.val (.int .i64 x67)), .c (.val (.int .i64 x68)), .c (.val (.int .i64 x69)), .c (.sl (List.map cI64 x70)), .c (.val (.int .i64 x71)), .c (.val (.int .i64 x72)), .c (.val (.int .i64 x73)), .c (.sl (List.map SRecord.cells x74)), .c (.sl (List.map cI64 x75)), .c (.val (.int .i64 x76)), .c (.val (.int .i64 x77))] 30), (1, .box [.c (.val (.int .i64 r79.Do)), .c (.val (.bool r79.Own)), .c (.val (.int .i64 r79.Id)), .c (.val (.int .i64 r79.Manifest.Epoch)), .c (.val (.int .i64 r79.Manifest.Id)), .c (.sl (List.map cI64 r79.Manifest.Vector)), .c (.val (.int .i64 r79.Manifest.Out)), .c (.val (.int .i64 r79.Manifest.Begin)), .c (.sl (List.map SRecord.cells r79.Manifest.Records)), .c (.sl (List.map SPiece.cells r79.Manifest.Pieces)), .c (.val (.int .u32 r79.Manifest.Graph)), .c (.val (.int .i64 r79.Kind)), .c (.val (.int .i64 r79.Key.Epoch)), .c (.val (.int .i64 r79.Key.Id)), .c (.val (.int .i64 r79.Err)), .c (.val (.int .i64 r79.Len)), .c (.sl (List.map cI64 r79.Vector))] 45), (2, .box [.c (.val (.int .i64 r80.1.Phase)), .c (.val (.int .i64 r80.1.Epoch)), .c (.val (.int .i64 r80.1.Id)), .c (.val (.int .i64 r80.1.Len)), .c (.sl (List.map cI64 r80.1.Vector)), .c (.val (.int .i64 r80.1.Txn.Epoch)), .c (.val (.int .i64 r80.1.Txn.Id)), .c (.val (.int .i64 r80.1.Txn.Begin)), .c (.sl (List.map SRecord.cells r80.1.Txn.Records)), .c (.sl (List.map cI64 r80.1.Txn.Vector)), .c (.val (.int .i64 r80.1.Done)), .c (.val (.int .i64 r80.1.Left))] 30), (3, .box [.c (.val (.int .i64 r80.2.Kind)), .c (.val (.int .i64 r80.2.Id)), .c (.val (.int .i64 r80.2.Begin)), .c (.val (.int .i64 r80.2.Txn.Epoch)), .c (.val (.int .i64 r80.2.Txn.Id)), .c (.val (.int .i64 r80.2.Txn.Begin)), .c (.sl (List.map SRecord.cells r80.2.Txn.Records)), .c (.sl (List.map cI64 r80.2.Txn.Vector))] 48)], 4⟩ ?_ ?_
              ·skip
               simp only [EVB, eqF, Op.operands, IntKind.bits, descF, sizeF, bytesF, zeroF, seval, reduceCtorEq, ↓reduceIte]
               refine CallK.freshE Cr80.toO rfl (by first | rfl | (simp only [NM]; done)) (by (repeat' apply And.intro) <;> first | trivial | rfl | omega | (simp only [NM]; omega)) (.inl rfl) (by exact Nat.le_of_ble_eq_true rfl) ?_
               try simp only [EVB, eqF, Op.operands, IntKind.bits, descF, sizeF, bytesF, zeroF, seval, reduceCtorEq, ↓reduceIte]
               exact Weak.sub' ⟨rfl, rfl, rfl, rfl, rfl, rfl, rfl, rfl, trivial⟩ ⟨rfl, rfl, rfl, rfl, trivial⟩ (Nat.le_of_ble_eq_true rfl)
              ·skip
               refine go_seq ?_
               refine go_seq ?_
               refine go_regionJ hR ⟨[(5, .ptr 0 0), (7, .c (.val (.int .i64 x64))), (9, .ptr 1 0), (10, .ptr 2 0), (11, .ptr 3 0), (24, .c (.sl (List.map Spontoonlaw19_Come.cells a1))), (25, .c (.val (.int .i64 ((a1.length : Nat) : Int)))), (26, .c (.val (.int .i64 ((x65 : Nat) : Int)))), (55, .c (.val (.bool ((((coord_Check r80.1) != 0) || (decide (r80.1.Id < x68))) || (r80.1.Epoch != x67)))))], [(0, .box [.c (.val (.int .i64 x66)), .c (.val (.int .i64 x67)), .c (.val (.int .i64 x68)), .c (.val (.int .i64 x69)), .c (.sl (List.map cI64 x70)), .c (.val (.int .i64 x71)), .c (.val (.int .i64 x72)), .c (.val (.int .i64 x73)), .c (.sl (List.map SRecord.cells x74)), .c (.sl (List.map cI64 x75)), .c (.val (.int .i64 x76)), .c (.val (.int .i64 x77))] 30), (1, .box [.c (.val (.int .i64 r79.Do)), .c (.val (.bool r79.Own)), .c (.val (.int .i64 r79.Id)), .c (.val (.int .i64 r79.Manifest.Epoch)), .c (.val (.int .i64 r79.Manifest.Id)), .c (.sl (List.map cI64 r79.Manifest.Vector)), .c (.val (.int .i64 r79.Manifest.Out)), .c (.val (.int .i64 r79.Manifest.Begin)), .c (.sl (List.map SRecord.cells r79.Manifest.Records)), .c (.sl (List.map SPiece.cells r79.Manifest.Pieces)), .c (.val (.int .u32 r79.Manifest.Graph)), .c (.val (.int .i64 r79.Kind)), .c (.val (.int .i64 r79.Key.Epoch)), .c (.val (.int .i64 r79.Key.Id)), .c (.val (.int .i64 r79.Err)), .c (.val (.int .i64 r79.Len)), .c (.sl (List.map cI64 r79.Vector))] 45), (2, .box [.c (.val (.int .i64 r80.1.Phase)), .c (.val (.int .i64 r80.1.Epoch)), .c (.val (.int .i64 r80.1.Id)), .c (.val (.int .i64 r80.1.Len)), .c (.sl (List.map cI64 r80.1.Vector)), .c (.val (.int .i64 r80.1.Txn.Epoch)), .c (.val (.int .i64 r80.1.Txn.Id)), .c (.val (.int .i64 r80.1.Txn.Begin)), .c (.sl (List.map SRecord.cells r80.1.Txn.Records)), .c (.sl (List.map cI64 r80.1.Txn.Vector)), .c (.val (.int .i64 r80.1.Done)), .c (.val (.int .i64 r80.1.Left))] 30), (3, .box [.c (.val (.int .i64 r80.2.Kind)), .c (.val (.int .i64 r80.2.Id)), .c (.val (.int .i64 r80.2.Begin)), .c (.val (.int .i64 r80.2.Txn.Epoch)), .c (.val (.int .i64 r80.2.Txn.Id)), .c (.val (.int .i64 r80.2.Txn.Begin)), .c (.sl (List.map SRecord.cells r80.2.Txn.Records)), .c (.sl (List.map cI64 r80.2.Txn.Vector))] 48)], 4⟩ ?_ ?_
               ·skip
                rcases Bool.eq_false_or_eq_true ((coord_Check r80.1) != 0) with h81 | h81
                ·simp (maxSteps := 4000000) only [h81, EVB, eqF, Op.operands, IntKind.bits, descF, sizeF, bytesF, zeroF, seval, reduceCtorEq, ↓reduceIte]
                 refine CallK.freshE (coord_Check_t r80.1).toO rfl (by first | rfl | (simp only [NM]; done)) (by (repeat' apply And.intro) <;> first | trivial | rfl | omega | (simp only [NM]; omega)) (.inl rfl) (by exact Nat.le_of_ble_eq_true rfl) ?_
                 try simp (maxSteps := 4000000) only [h81, EVB, eqF, Op.operands, IntKind.bits, descF, sizeF, bytesF, zeroF, seval, reduceCtorEq, ↓reduceIte]
                 try simp only [h81, BM]
                 exact Weak.sub' ⟨rfl, rfl, rfl, rfl, rfl, rfl, rfl, rfl, rfl, trivial⟩ ⟨rfl, rfl, rfl, rfl, trivial⟩ (Nat.le_of_ble_eq_true rfl)
                ·rcases Bool.eq_false_or_eq_true (decide (r80.1.Id < x68)) with h82 | h82
                 ·simp (maxSteps := 4000000) only [h81, h82, EVB, eqF, Op.operands, IntKind.bits, descF, sizeF, bytesF, zeroF, seval, reduceCtorEq, ↓reduceIte]
                  refine CallK.freshE (coord_Check_t r80.1).toO rfl (by first | rfl | (simp only [NM]; done)) (by (repeat' apply And.intro) <;> first | trivial | rfl | omega | (simp only [NM]; omega)) (.inl rfl) (by exact Nat.le_of_ble_eq_true rfl) ?_
                  try simp (maxSteps := 4000000) only [h81, h82, EVB, eqF, Op.operands, IntKind.bits, descF, sizeF, bytesF, zeroF, seval, reduceCtorEq, ↓reduceIte]
                  try simp only [h81, h82, BM]
                  exact Weak.sub' ⟨rfl, rfl, rfl, rfl, rfl, rfl, rfl, rfl, rfl, trivial⟩ ⟨rfl, rfl, rfl, rfl, trivial⟩ (Nat.le_of_ble_eq_true rfl)
                 ·simp (maxSteps := 4000000) only [h81, h82, EVB, eqF, Op.operands, IntKind.bits, descF, sizeF, bytesF, zeroF, seval, reduceCtorEq, ↓reduceIte]
                  refine CallK.freshE (coord_Check_t r80.1).toO rfl (by first | rfl | (simp only [NM]; done)) (by (repeat' apply And.intro) <;> first | trivial | rfl | omega | (simp only [NM]; omega)) (.inl rfl) (by exact Nat.le_of_ble_eq_true rfl) ?_
                  try simp (maxSteps := 4000000) only [h81, h82, EVB, eqF, Op.operands, IntKind.bits, descF, sizeF, bytesF, zeroF, seval, reduceCtorEq, ↓reduceIte]
                  try simp only [h81, h82, BM]
                  exact Weak.sub' ⟨rfl, rfl, rfl, rfl, rfl, rfl, rfl, rfl, rfl, trivial⟩ ⟨rfl, rfl, rfl, rfl, trivial⟩ (Nat.le_of_ble_eq_true rfl)
               ·skip
                refine go_cond (by rfl) (fun h83 => ?_) (fun h83 => ?_)
                ·have gh83 := h83
                 try simp only [GN, beq_iff_eq, beq_eq_false_iff_ne, bne_iff_ne, bne_eq_false_iff_eq] at gh83
                 simp only [h83, dite_true, dite_false, reduceDIte, Bool.false_eq_true] at hx1
                 refine go_seq ?_
                 refine go_regionJ hR ⟨[(4, .c (.val (.bool false)))], [], 4⟩ ?_ ?_
                 ·skip
                  simp only [EVB, eqF, Op.operands, IntKind.bits, descF, sizeF, bytesF, zeroF, seval, reduceCtorEq, ↓reduceIte]
                  exact Weak.sub' ⟨rfl, trivial⟩ trivial (Nat.le_of_ble_eq_true rfl)
                 ·skip
                  subst hx1
                  simp only [Sum.elim_inl] at hx0
                  subst hx0
                  refine go_return ttOk (fun _ h => h) rfl ?_ ?_
                  ·exact (by (repeat' apply And.intro) <;> first | trivial | exact Nat.le_of_ble_eq_true rfl | omega | (simp only [NM]; omega))
                  ·first | rfl | (simp only [NM, CELLS] <;> rfl)
                ·have gh83 := h83
                 try simp only [GN, beq_iff_eq, beq_eq_false_iff_ne, bne_iff_ne, bne_eq_false_iff_eq] at gh83
                 simp only [h83, dite_true, dite_false, reduceDIte, Bool.false_eq_true] at hx1
                 refine go_skip ?_
                 refine go_seq ?_
                 refine go_seq ?_
                 refine go_regionJ hR ⟨[(5, .ptr 0 0), (7, .c (.val (.int .i64 x64))), (9, .ptr 1 0), (10, .ptr 2 0), (11, .ptr 3 0), (24, .c (.sl (List.map Spontoonlaw19_Come.cells a1))), (25, .c (.val (.int .i64 ((a1.length : Nat) : Int)))), (26, .c (.val (.int .i64 ((x65 : Nat) : Int)))), (57, .c (.val (.int .i64 r80.2.Kind)))], [(0, .box [.c (.val (.int .i64 x66)), .c (.val (.int .i64 x67)), .c (.val (.int .i64 x68)), .c (.val (.int .i64 x69)), .c (.sl (List.map cI64 x70)), .c (.val (.int .i64 x71)), .c (.val (.int .i64 x72)), .c (.val (.int .i64 x73)), .c (.sl (List.map SRecord.cells x74)), .c (.sl (List.map cI64 x75)), .c (.val (.int .i64 x76)), .c (.val (.int .i64 x77))] 30), (1, .box [.c (.val (.int .i64 r79.Do)), .c (.val (.bool r79.Own)), .c (.val (.int .i64 r79.Id)), .c (.val (.int .i64 r79.Manifest.Epoch)), .c (.val (.int .i64 r79.Manifest.Id)), .c (.sl (List.map cI64 r79.Manifest.Vector)), .c (.val (.int .i64 r79.Manifest.Out)), .c (.val (.int .i64 r79.Manifest.Begin)), .c (.sl (List.map SRecord.cells r79.Manifest.Records)), .c (.sl (List.map SPiece.cells r79.Manifest.Pieces)), .c (.val (.int .u32 r79.Manifest.Graph)), .c (.val (.int .i64 r79.Kind)), .c (.val (.int .i64 r79.Key.Epoch)), .c (.val (.int .i64 r79.Key.Id)), .c (.val (.int .i64 r79.Err)), .c (.val (.int .i64 r79.Len)), .c (.sl (List.map cI64 r79.Vector))] 45), (2, .box [.c (.val (.int .i64 r80.1.Phase)), .c (.val (.int .i64 r80.1.Epoch)), .c (.val (.int .i64 r80.1.Id)), .c (.val (.int .i64 r80.1.Len)), .c (.sl (List.map cI64 r80.1.Vector)), .c (.val (.int .i64 r80.1.Txn.Epoch)), .c (.val (.int .i64 r80.1.Txn.Id)), .c (.val (.int .i64 r80.1.Txn.Begin)), .c (.sl (List.map SRecord.cells r80.1.Txn.Records)), .c (.sl (List.map cI64 r80.1.Txn.Vector)), .c (.val (.int .i64 r80.1.Done)), .c (.val (.int .i64 r80.1.Left))] 30), (3, .box [.c (.val (.int .i64 r80.2.Kind)), .c (.val (.int .i64 r80.2.Id)), .c (.val (.int .i64 r80.2.Begin)), .c (.val (.int .i64 r80.2.Txn.Epoch)), .c (.val (.int .i64 r80.2.Txn.Id)), .c (.val (.int .i64 r80.2.Txn.Begin)), .c (.sl (List.map SRecord.cells r80.2.Txn.Records)), .c (.sl (List.map cI64 r80.2.Txn.Vector))] 48)], 4⟩ ?_ ?_
                 ·skip
                  simp only [EVB, eqF, Op.operands, IntKind.bits, descF, sizeF, bytesF, zeroF, seval, reduceCtorEq, ↓reduceIte]
                  exact Weak.sub' ⟨rfl, rfl, rfl, rfl, rfl, rfl, rfl, rfl, rfl, trivial⟩ ⟨rfl, rfl, rfl, rfl, trivial⟩ (Nat.le_of_ble_eq_true rfl)
                 ·skip
                  obtain ⟨o84s, hx2, hx1⟩ := letIn_ex hx1
                  refine go_joinE (fun p : Int => ⟨[(5, .ptr 0 0), (7, .c (.val (.int .i64 p))), (10, .ptr 1 0), (11, .ptr 2 0), (24, .c (.sl (List.map Spontoonlaw19_Come.cells a1))), (25, .c (.val (.int .i64 ((a1.length : Nat) : Int)))), (26, .c (.val (.int .i64 ((x65 : Nat) : Int))))], [(0, .box [.c (.val (.int .i64 x66)), .c (.val (.int .i64 x67)), .c (.val (.int .i64 x68)), .c (.val (.int .i64 x69)), .c (.sl (List.map cI64 x70)), .c (.val (.int .i64 x71)), .c (.val (.int .i64 x72)), .c (.val (.int .i64 x73)), .c (.sl (List.map SRecord.cells x74)), .c (.sl (List.map cI64 x75)), .c (.val (.int .i64 x76)), .c (.val (.int .i64 x77))] 30), (1, .box [.c (.val (.int .i64 r80.1.Phase)), .c (.val (.int .i64 r80.1.Epoch)), .c (.val (.int .i64 r80.1.Id)), .c (.val (.int .i64 r80.1.Len)), .c (.sl (List.map cI64 r80.1.Vector)), .c (.val (.int .i64 r80.1.Txn.Epoch)), .c (.val (.int .i64 r80.1.Txn.Id)), .c (.val (.int .i64 r80.1.Txn.Begin)), .c (.sl (List.map SRecord.cells r80.1.Txn.Records)), .c (.sl (List.map cI64 r80.1.Txn.Vector)), .c (.val (.int .i64 r80.1.Done)), .c (.val (.int .i64 r80.1.Left))] 30), (2, .box [.c (.val (.int .i64 r80.2.Kind)), .c (.val (.int .i64 r80.2.Id)), .c (.val (.int .i64 r80.2.Begin)), .c (.val (.int .i64 r80.2.Txn.Epoch)), .c (.val (.int .i64 r80.2.Txn.Id)), .c (.val (.int .i64 r80.2.Txn.Begin)), .c (.sl (List.map SRecord.cells r80.2.Txn.Records)), .c (.sl (List.map cI64 r80.2.Txn.Vector))] 48)], 3⟩) (fun p : Int => o84s = Sum.inr p) ?_ ?_
                  ·refine go_block ?_
                   refine go_seq ?_
                   refine go_regionJ hR ⟨[(5, .ptr 0 0), (7, .c (.val (.int .i64 x64))), (9, .ptr 1 0), (10, .ptr 2 0), (11, .ptr 3 0), (24, .c (.sl (List.map Spontoonlaw19_Come.cells a1))), (25, .c (.val (.int .i64 ((a1.length : Nat) : Int)))), (26, .c (.val (.int .i64 ((x65 : Nat) : Int)))), (57, .c (.val (.int .i64 r80.2.Kind))), (58, .c (.val (.bool (r80.2.Kind == 1))))], [(0, .box [.c (.val (.int .i64 x66)), .c (.val (.int .i64 x67)), .c (.val (.int .i64 x68)), .c (.val (.int .i64 x69)), .c (.sl (List.map cI64 x70)), .c (.val (.int .i64 x71)), .c (.val (.int .i64 x72)), .c (.val (.int .i64 x73)), .c (.sl (List.map SRecord.cells x74)), .c (.sl (List.map cI64 x75)), .c (.val (.int .i64 x76)), .c (.val (.int .i64 x77))] 30), (1, .box [.c (.val (.int .i64 r79.Do)), .c (.val (.bool r79.Own)), .c (.val (.int .i64 r79.Id)), .c (.val (.int .i64 r79.Manifest.Epoch)), .c (.val (.int .i64 r79.Manifest.Id)), .c (.sl (List.map cI64 r79.Manifest.Vector)), .c (.val (.int .i64 r79.Manifest.Out)), .c (.val (.int .i64 r79.Manifest.Begin)), .c (.sl (List.map SRecord.cells r79.Manifest.Records)), .c (.sl (List.map SPiece.cells r79.Manifest.Pieces)), .c (.val (.int .u32 r79.Manifest.Graph)), .c (.val (.int .i64 r79.Kind)), .c (.val (.int .i64 r79.Key.Epoch)), .c (.val (.int .i64 r79.Key.Id)), .c (.val (.int .i64 r79.Err)), .c (.val (.int .i64 r79.Len)), .c (.sl (List.map cI64 r79.Vector))] 45), (2, .box [.c (.val (.int .i64 r80.1.Phase)), .c (.val (.int .i64 r80.1.Epoch)), .c (.val (.int .i64 r80.1.Id)), .c (.val (.int .i64 r80.1.Len)), .c (.sl (List.map cI64 r80.1.Vector)), .c (.val (.int .i64 r80.1.Txn.Epoch)), .c (.val (.int .i64 r80.1.Txn.Id)), .c (.val (.int .i64 r80.1.Txn.Begin)), .c (.sl (List.map SRecord.cells r80.1.Txn.Records)), .c (.sl (List.map cI64 r80.1.Txn.Vector)), .c (.val (.int .i64 r80.1.Done)), .c (.val (.int .i64 r80.1.Left))] 30), (3, .box [.c (.val (.int .i64 r80.2.Kind)), .c (.val (.int .i64 r80.2.Id)), .c (.val (.int .i64 r80.2.Begin)), .c (.val (.int .i64 r80.2.Txn.Epoch)), .c (.val (.int .i64 r80.2.Txn.Id)), .c (.val (.int .i64 r80.2.Txn.Begin)), .c (.sl (List.map SRecord.cells r80.2.Txn.Records)), .c (.sl (List.map cI64 r80.2.Txn.Vector))] 48)], 4⟩ ?_ ?_
                   ·skip
                    simp only [EVB, eqF, Op.operands, IntKind.bits, descF, sizeF, bytesF, zeroF, seval, reduceCtorEq, ↓reduceIte]
                    exact Weak.sub' ⟨rfl, rfl, rfl, rfl, rfl, rfl, rfl, rfl, rfl, rfl, trivial⟩ ⟨rfl, rfl, rfl, rfl, trivial⟩ (Nat.le_of_ble_eq_true rfl)
                   ·skip
                    refine go_cond (by rfl) (fun h85 => ?_) (fun h85 => ?_)
                    ·have gh85 := h85
                     try simp only [GN, beq_iff_eq, beq_eq_false_iff_ne, bne_iff_ne, bne_eq_false_iff_eq] at gh85
                     simp only [h85, dite_true, dite_false, reduceDIte, Bool.false_eq_true] at hx2
                     refine go_seq ?_
                     refine go_seq ?_
                     refine go_regionJ hR ⟨[(5, .ptr 0 0), (10, .ptr 2 0), (11, .ptr 3 0), (24, .c (.sl (List.map Spontoonlaw19_Come.cells a1))), (25, .c (.val (.int .i64 ((a1.length : Nat) : Int)))), (26, .c (.val (.int .i64 ((x65 : Nat) : Int)))), (68, .c (.val (.bool ((decide (r80.2.Id ≤ x64)) || (x66 != 0)))))], [(0, .box [.c (.val (.int .i64 x66)), .c (.val (.int .i64 x67)), .c (.val (.int .i64 x68)), .c (.val (.int .i64 x69)), .c (.sl (List.map cI64 x70)), .c (.val (.int .i64 x71)), .c (.val (.int .i64 x72)), .c (.val (.int .i64 x73)), .c (.sl (List.map SRecord.cells x74)), .c (.sl (List.map cI64 x75)), .c (.val (.int .i64 x76)), .c (.val (.int .i64 x77))] 30), (2, .box [.c (.val (.int .i64 r80.1.Phase)), .c (.val (.int .i64 r80.1.Epoch)), .c (.val (.int .i64 r80.1.Id)), .c (.val (.int .i64 r80.1.Len)), .c (.sl (List.map cI64 r80.1.Vector)), .c (.val (.int .i64 r80.1.Txn.Epoch)), .c (.val (.int .i64 r80.1.Txn.Id)), .c (.val (.int .i64 r80.1.Txn.Begin)), .c (.sl (List.map SRecord.cells r80.1.Txn.Records)), .c (.sl (List.map cI64 r80.1.Txn.Vector)), .c (.val (.int .i64 r80.1.Done)), .c (.val (.int .i64 r80.1.Left))] 30), (3, .box [.c (.val (.int .i64 r80.2.Kind)), .c (.val (.int .i64 r80.2.Id)), .c (.val (.int .i64 r80.2.Begin)), .c (.val (.int .i64 r80.2.Txn.Epoch)), .c (.val (.int .i64 r80.2.Txn.Id)), .c (.val (.int .i64 r80.2.Txn.Begin)), .c (.sl (List.map SRecord.cells r80.2.Txn.Records)), .c (.sl (List.map cI64 r80.2.Txn.Vector))] 48)], 4⟩ ?_ ?_
                     ·skip
                      rcases Bool.eq_false_or_eq_true (decide (r80.2.Id ≤ x64)) with h86 | h86
                      ·simp only [h86, EVB, eqF, Op.operands, IntKind.bits, descF, sizeF, bytesF, zeroF, seval, reduceCtorEq, ↓reduceIte]
                       try simp only [h86, BM]
                       exact Weak.sub' ⟨rfl, rfl, rfl, rfl, rfl, rfl, rfl, trivial⟩ ⟨rfl, rfl, rfl, trivial⟩ (Nat.le_of_ble_eq_true rfl)
                      ·simp only [h86, EVB, eqF, Op.operands, IntKind.bits, descF, sizeF, bytesF, zeroF, seval, reduceCtorEq, ↓reduceIte]
                       try simp only [h86, BM]
                       exact Weak.sub' ⟨rfl, rfl, rfl, rfl, rfl, rfl, rfl, trivial⟩ ⟨rfl, rfl, rfl, trivial⟩ (Nat.le_of_ble_eq_true rfl)
                     ·skip
                      refine go_cond (by rfl) (fun h87 => ?_) (fun h87 => ?_)
                      ·have gh87 := h87
                       try simp only [GN, beq_iff_eq, beq_eq_false_iff_ne, bne_iff_ne, bne_eq_false_iff_eq] at gh87
                       simp only [h87, dite_true, dite_false, reduceDIte, Bool.false_eq_true] at hx2
                       refine go_seq ?_
                       refine go_regionJ hR ⟨[(4, .c (.val (.bool false)))], [], 4⟩ ?_ ?_
                       ·skip
                        simp only [EVB, eqF, Op.operands, IntKind.bits, descF, sizeF, bytesF, zeroF, seval, reduceCtorEq, ↓reduceIte]
                        exact Weak.sub' ⟨rfl, trivial⟩ trivial (Nat.le_of_ble_eq_true rfl)
                       ·skip
                        subst hx2
                        simp only [Sum.elim_inl] at hx1
                        subst hx1
                        simp only [Sum.elim_inl] at hx0
                        subst hx0
                        refine go_return ttOk (fun _ h => h) rfl ?_ ?_
                        ·exact (by (repeat' apply And.intro) <;> first | trivial | exact Nat.le_of_ble_eq_true rfl | omega | (simp only [NM]; omega))
                        ·first | rfl | (simp only [NM, CELLS] <;> rfl)
                      ·have gh87 := h87
                       try simp only [GN, beq_iff_eq, beq_eq_false_iff_ne, bne_iff_ne, bne_eq_false_iff_eq] at gh87
                       simp only [h87, dite_true, dite_false, reduceDIte, Bool.false_eq_true] at hx2
                       refine go_skip ?_
                       refine go_regionJ hR ⟨[(5, .ptr 0 0), (7, .c (.val (.int .i64 r80.2.Id))), (10, .ptr 2 0), (11, .ptr 3 0), (24, .c (.sl (List.map Spontoonlaw19_Come.cells a1))), (25, .c (.val (.int .i64 ((a1.length : Nat) : Int)))), (26, .c (.val (.int .i64 ((x65 : Nat) : Int))))], [(0, .box [.c (.val (.int .i64 x66)), .c (.val (.int .i64 x67)), .c (.val (.int .i64 x68)), .c (.val (.int .i64 x69)), .c (.sl (List.map cI64 x70)), .c (.val (.int .i64 x71)), .c (.val (.int .i64 x72)), .c (.val (.int .i64 x73)), .c (.sl (List.map SRecord.cells x74)), .c (.sl (List.map cI64 x75)), .c (.val (.int .i64 x76)), .c (.val (.int .i64 x77))] 30), (2, .box [.c (.val (.int .i64 r80.1.Phase)), .c (.val (.int .i64 r80.1.Epoch)), .c (.val (.int .i64 r80.1.Id)), .c (.val (.int .i64 r80.1.Len)), .c (.sl (List.map cI64 r80.1.Vector)), .c (.val (.int .i64 r80.1.Txn.Epoch)), .c (.val (.int .i64 r80.1.Txn.Id)), .c (.val (.int .i64 r80.1.Txn.Begin)), .c (.sl (List.map SRecord.cells r80.1.Txn.Records)), .c (.sl (List.map cI64 r80.1.Txn.Vector)), .c (.val (.int .i64 r80.1.Done)), .c (.val (.int .i64 r80.1.Left))] 30), (3, .box [.c (.val (.int .i64 r80.2.Kind)), .c (.val (.int .i64 r80.2.Id)), .c (.val (.int .i64 r80.2.Begin)), .c (.val (.int .i64 r80.2.Txn.Epoch)), .c (.val (.int .i64 r80.2.Txn.Id)), .c (.val (.int .i64 r80.2.Txn.Begin)), .c (.sl (List.map SRecord.cells r80.2.Txn.Records)), .c (.sl (List.map cI64 r80.2.Txn.Vector))] 48)], 4⟩ ?_ ?_
                       ·skip
                        simp only [EVB, eqF, Op.operands, IntKind.bits, descF, sizeF, bytesF, zeroF, seval, reduceCtorEq, ↓reduceIte]
                        exact Weak.sub' ⟨rfl, rfl, rfl, rfl, rfl, rfl, rfl, trivial⟩ ⟨rfl, rfl, rfl, trivial⟩ (Nat.le_of_ble_eq_true rfl)
                       ·skip
                        refine go_blk ?_
                        exact go_fin ⟨r80.2.Id, hx2.symm, (Weak.canon [0, 2, 3] [5, 7, 10, 11, 24, 25, 26] (by decide) rfl (by simp) rfl (by simp) (by first | rfl | (simp only [NM, CELLS] <;> rfl) | simp [NM, CELLS]) (by first | rfl | (simp only [NM, CELLS] <;> rfl) | simp [NM, CELLS]) rfl)⟩
                    ·have gh85 := h85
                     try simp only [GN, beq_iff_eq, beq_eq_false_iff_ne, bne_iff_ne, bne_eq_false_iff_eq] at gh85
                     simp only [h85, dite_true, dite_false, reduceDIte, Bool.false_eq_true] at hx2
                     refine go_seq ?_
                     refine go_regionJ hR ⟨[(5, .ptr 0 0), (7, .c (.val (.int .i64 x64))), (9, .ptr 1 0), (10, .ptr 2 0), (11, .ptr 3 0), (24, .c (.sl (List.map Spontoonlaw19_Come.cells a1))), (25, .c (.val (.int .i64 ((a1.length : Nat) : Int)))), (26, .c (.val (.int .i64 ((x65 : Nat) : Int)))), (57, .c (.val (.int .i64 r80.2.Kind))), (71, .c (.val (.bool (r80.2.Kind == 4))))], [(0, .box [.c (.val (.int .i64 x66)), .c (.val (.int .i64 x67)), .c (.val (.int .i64 x68)), .c (.val (.int .i64 x69)), .c (.sl (List.map cI64 x70)), .c (.val (.int .i64 x71)), .c (.val (.int .i64 x72)), .c (.val (.int .i64 x73)), .c (.sl (List.map SRecord.cells x74)), .c (.sl (List.map cI64 x75)), .c (.val (.int .i64 x76)), .c (.val (.int .i64 x77))] 30), (1, .box [.c (.val (.int .i64 r79.Do)), .c (.val (.bool r79.Own)), .c (.val (.int .i64 r79.Id)), .c (.val (.int .i64 r79.Manifest.Epoch)), .c (.val (.int .i64 r79.Manifest.Id)), .c (.sl (List.map cI64 r79.Manifest.Vector)), .c (.val (.int .i64 r79.Manifest.Out)), .c (.val (.int .i64 r79.Manifest.Begin)), .c (.sl (List.map SRecord.cells r79.Manifest.Records)), .c (.sl (List.map SPiece.cells r79.Manifest.Pieces)), .c (.val (.int .u32 r79.Manifest.Graph)), .c (.val (.int .i64 r79.Kind)), .c (.val (.int .i64 r79.Key.Epoch)), .c (.val (.int .i64 r79.Key.Id)), .c (.val (.int .i64 r79.Err)), .c (.val (.int .i64 r79.Len)), .c (.sl (List.map cI64 r79.Vector))] 45), (2, .box [.c (.val (.int .i64 r80.1.Phase)), .c (.val (.int .i64 r80.1.Epoch)), .c (.val (.int .i64 r80.1.Id)), .c (.val (.int .i64 r80.1.Len)), .c (.sl (List.map cI64 r80.1.Vector)), .c (.val (.int .i64 r80.1.Txn.Epoch)), .c (.val (.int .i64 r80.1.Txn.Id)), .c (.val (.int .i64 r80.1.Txn.Begin)), .c (.sl (List.map SRecord.cells r80.1.Txn.Records)), .c (.sl (List.map cI64 r80.1.Txn.Vector)), .c (.val (.int .i64 r80.1.Done)), .c (.val (.int .i64 r80.1.Left))] 30), (3, .box [.c (.val (.int .i64 r80.2.Kind)), .c (.val (.int .i64 r80.2.Id)), .c (.val (.int .i64 r80.2.Begin)), .c (.val (.int .i64 r80.2.Txn.Epoch)), .c (.val (.int .i64 r80.2.Txn.Id)), .c (.val (.int .i64 r80.2.Txn.Begin)), .c (.sl (List.map SRecord.cells r80.2.Txn.Records)), .c (.sl (List.map cI64 r80.2.Txn.Vector))] 48)], 4⟩ ?_ ?_
                     ·skip
                      simp only [EVB, eqF, Op.operands, IntKind.bits, descF, sizeF, bytesF, zeroF, seval, reduceCtorEq, ↓reduceIte]
                      exact Weak.sub' ⟨rfl, rfl, rfl, rfl, rfl, rfl, rfl, rfl, rfl, rfl, trivial⟩ ⟨rfl, rfl, rfl, rfl, trivial⟩ (Nat.le_of_ble_eq_true rfl)
                     ·skip
                      refine go_cond (by rfl) (fun h88 => ?_) (fun h88 => ?_)
                      ·have gh88 := h88
                       try simp only [GN, beq_iff_eq, beq_eq_false_iff_ne, bne_iff_ne, bne_eq_false_iff_eq] at gh88
                       simp only [h88, dite_true, dite_false, reduceDIte, Bool.false_eq_true] at hx2
                       refine go_seq ?_
                       refine go_regionJ hR ⟨[(5, .ptr 0 0), (7, .c (.val (.int .i64 x64))), (10, .ptr 2 0), (11, .ptr 3 0), (24, .c (.sl (List.map Spontoonlaw19_Come.cells a1))), (25, .c (.val (.int .i64 ((a1.length : Nat) : Int)))), (26, .c (.val (.int .i64 ((x65 : Nat) : Int)))), (98, .c (.val (.bool (((((r79.Do != 4) || (r79.Kind != 3)) || (r79.Err != 0)) || (x66 != 2)) || (!(pontoonref15_SameTxn r80.2.Txn (STxn.mk x71 x72 x73 x74 x75)))))))], [(0, .box [.c (.val (.int .i64 x66)), .c (.val (.int .i64 x67)), .c (.val (.int .i64 x68)), .c (.val (.int .i64 x69)), .c (.sl (List.map cI64 x70)), .c (.val (.int .i64 x71)), .c (.val (.int .i64 x72)), .c (.val (.int .i64 x73)), .c (.sl (List.map SRecord.cells x74)), .c (.sl (List.map cI64 x75)), .c (.val (.int .i64 x76)), .c (.val (.int .i64 x77))] 30), (2, .box [.c (.val (.int .i64 r80.1.Phase)), .c (.val (.int .i64 r80.1.Epoch)), .c (.val (.int .i64 r80.1.Id)), .c (.val (.int .i64 r80.1.Len)), .c (.sl (List.map cI64 r80.1.Vector)), .c (.val (.int .i64 r80.1.Txn.Epoch)), .c (.val (.int .i64 r80.1.Txn.Id)), .c (.val (.int .i64 r80.1.Txn.Begin)), .c (.sl (List.map SRecord.cells r80.1.Txn.Records)), .c (.sl (List.map cI64 r80.1.Txn.Vector)), .c (.val (.int .i64 r80.1.Done)), .c (.val (.int .i64 r80.1.Left))] 30), (3, .box [.c (.val (.int .i64 r80.2.Kind)), .c (.val (.int .i64 r80.2.Id)), .c (.val (.int .i64 r80.2.Begin)), .c (.val (.int .i64 r80.2.Txn.Epoch)), .c (.val (.int .i64 r80.2.Txn.Id)), .c (.val (.int .i64 r80.2.Txn.Begin)), .c (.sl (List.map SRecord.cells r80.2.Txn.Records)), .c (.sl (List.map cI64 r80.2.Txn.Vector))] 48)], 4⟩ ?_ ?_
                       ·skip
                        rcases Bool.eq_false_or_eq_true (r79.Do != 4) with h89 | h89
                        ·simp (maxSteps := 4000000) only [h89, EVB, eqF, Op.operands, IntKind.bits, descF, sizeF, bytesF, zeroF, seval, reduceCtorEq, ↓reduceIte]
                         try simp only [h89, BM]
                         exact Weak.sub' ⟨rfl, rfl, rfl, rfl, rfl, rfl, rfl, rfl, trivial⟩ ⟨rfl, rfl, rfl, trivial⟩ (Nat.le_of_ble_eq_true rfl)
                        ·rcases Bool.eq_false_or_eq_true (r79.Kind != 3) with h90 | h90
                         ·simp (maxSteps := 4000000) only [h89, h90, EVB, eqF, Op.operands, IntKind.bits, descF, sizeF, bytesF, zeroF, seval, reduceCtorEq, ↓reduceIte]
                          try simp only [h89, h90, BM]
                          exact Weak.sub' ⟨rfl, rfl, rfl, rfl, rfl, rfl, rfl, rfl, trivial⟩ ⟨rfl, rfl, rfl, trivial⟩ (Nat.le_of_ble_eq_true rfl)
                         ·rcases Bool.eq_false_or_eq_true (r79.Err != 0) with h91 | h91
                          ·simp (maxSteps := 4000000) only [h89, h90, h91, EVB, eqF, Op.operands, IntKind.bits, descF, sizeF, bytesF, zeroF, seval, reduceCtorEq, ↓reduceIte]
                           try simp only [h89, h90, h91, BM]
                           exact Weak.sub' ⟨rfl, rfl, rfl, rfl, rfl, rfl, rfl, rfl, trivial⟩ ⟨rfl, rfl, rfl, trivial⟩ (Nat.le_of_ble_eq_true rfl)
                          ·rcases Bool.eq_false_or_eq_true (x66 != 2) with h92 | h92
                           ·simp (maxSteps := 4000000) only [h89, h90, h91, h92, EVB, eqF, Op.operands, IntKind.bits, descF, sizeF, bytesF, zeroF, seval, reduceCtorEq, ↓reduceIte]
                            try simp only [h89, h90, h91, h92, BM]
                            exact Weak.sub' ⟨rfl, rfl, rfl, rfl, rfl, rfl, rfl, rfl, trivial⟩ ⟨rfl, rfl, rfl, trivial⟩ (Nat.le_of_ble_eq_true rfl)
                           ·simp (maxSteps := 4000000) only [h89, h90, h91, h92, EVB, eqF, Op.operands, IntKind.bits, descF, sizeF, bytesF, zeroF, seval, reduceCtorEq, ↓reduceIte]
                            refine CallK.freshE (pontoonref15_SameTxn_t r80.2.Txn (STxn.mk x71 x72 x73 x74 x75)).toO rfl (by first | rfl | (simp only [NM]; done)) (by (repeat' apply And.intro) <;> first | trivial | rfl | omega | (simp only [NM]; omega)) (.inl rfl) (by exact Nat.le_of_ble_eq_true rfl) ?_
                            try simp (maxSteps := 4000000) only [h89, h90, h91, h92, EVB, eqF, Op.operands, IntKind.bits, descF, sizeF, bytesF, zeroF, seval, reduceCtorEq, ↓reduceIte]
                            try simp only [h89, h90, h91, h92, BM]
                            exact Weak.sub' ⟨rfl, rfl, rfl, rfl, rfl, rfl, rfl, rfl, trivial⟩ ⟨rfl, rfl, rfl, trivial⟩ (Nat.le_of_ble_eq_true rfl)
                       ·skip
                        refine go_cond (by rfl) (fun h93 => ?_) (fun h93 => ?_)
                        ·have gh93 := h93
                         try simp only [GN, beq_iff_eq, beq_eq_false_iff_ne, bne_iff_ne, bne_eq_false_iff_eq] at gh93
                         simp only [h93, dite_true, dite_false, reduceDIte, Bool.false_eq_true] at hx2
                         refine go_seq ?_
                         refine go_regionJ hR ⟨[(4, .c (.val (.bool false)))], [], 4⟩ ?_ ?_
                         ·skip
                          simp only [EVB, eqF, Op.operands, IntKind.bits, descF, sizeF, bytesF, zeroF, seval, reduceCtorEq, ↓reduceIte]
                          exact Weak.sub' ⟨rfl, trivial⟩ trivial (Nat.le_of_ble_eq_true rfl)
                         ·skip
                          subst hx2
                          simp only [Sum.elim_inl] at hx1
                          subst hx1
                          simp only [Sum.elim_inl] at hx0
                          subst hx0
                          refine go_return ttOk (fun _ h => h) rfl ?_ ?_
                          ·exact (by (repeat' apply And.intro) <;> first | trivial | exact Nat.le_of_ble_eq_true rfl | omega | (simp only [NM]; omega))
                          ·first | rfl | (simp only [NM, CELLS] <;> rfl)
                        ·have gh93 := h93
                         try simp only [GN, beq_iff_eq, beq_eq_false_iff_ne, bne_iff_ne, bne_eq_false_iff_eq] at gh93
                         simp only [h93, dite_true, dite_false, reduceDIte, Bool.false_eq_true] at hx2
                         refine go_skip ?_
                         refine go_blk ?_
                         exact go_fin ⟨x64, hx2.symm, (Weak.canon [0, 2, 3] [5, 7, 10, 11, 24, 25, 26] (by decide) rfl (by simp) rfl (by simp) (by first | rfl | (simp only [NM, CELLS] <;> rfl) | simp [NM, CELLS]) (by first | rfl | (simp only [NM, CELLS] <;> rfl) | simp [NM, CELLS]) rfl)⟩
                      ·have gh88 := h88
                       try simp only [GN, beq_iff_eq, beq_eq_false_iff_ne, bne_iff_ne, bne_eq_false_iff_eq] at gh88
                       simp only [h88, dite_true, dite_false, reduceDIte, Bool.false_eq_true] at hx2
                       refine go_seq ?_
                       refine go_regionJ hR ⟨[(5, .ptr 0 0), (7, .c (.val (.int .i64 x64))), (9, .ptr 1 0), (10, .ptr 2 0), (11, .ptr 3 0), (24, .c (.sl (List.map Spontoonlaw19_Come.cells a1))), (25, .c (.val (.int .i64 ((a1.length : Nat) : Int)))), (26, .c (.val (.int .i64 ((x65 : Nat) : Int)))), (99, .c (.val (.bool (r80.2.Kind == 6))))], [(0, .box [.c (.val (.int .i64 x66)), .c (.val (.int .i64 x67)), .c (.val (.int .i64 x68)), .c (.val (.int .i64 x69)), .c (.sl (List.map cI64 x70)), .c (.val (.int .i64 x71)), .c (.val (.int .i64 x72)), .c (.val (.int .i64 x73)), .c (.sl (List.map SRecord.cells x74)), .c (.sl (List.map cI64 x75)), .c (.val (.int .i64 x76)), .c (.val (.int .i64 x77))] 30), (1, .box [.c (.val (.int .i64 r79.Do)), .c (.val (.bool r79.Own)), .c (.val (.int .i64 r79.Id)), .c (.val (.int .i64 r79.Manifest.Epoch)), .c (.val (.int .i64 r79.Manifest.Id)), .c (.sl (List.map cI64 r79.Manifest.Vector)), .c (.val (.int .i64 r79.Manifest.Out)), .c (.val (.int .i64 r79.Manifest.Begin)), .c (.sl (List.map SRecord.cells r79.Manifest.Records)), .c (.sl (List.map SPiece.cells r79.Manifest.Pieces)), .c (.val (.int .u32 r79.Manifest.Graph)), .c (.val (.int .i64 r79.Kind)), .c (.val (.int .i64 r79.Key.Epoch)), .c (.val (.int .i64 r79.Key.Id)), .c (.val (.int .i64 r79.Err)), .c (.val (.int .i64 r79.Len)), .c (.sl (List.map cI64 r79.Vector))] 45), (2, .box [.c (.val (.int .i64 r80.1.Phase)), .c (.val (.int .i64 r80.1.Epoch)), .c (.val (.int .i64 r80.1.Id)), .c (.val (.int .i64 r80.1.Len)), .c (.sl (List.map cI64 r80.1.Vector)), .c (.val (.int .i64 r80.1.Txn.Epoch)), .c (.val (.int .i64 r80.1.Txn.Id)), .c (.val (.int .i64 r80.1.Txn.Begin)), .c (.sl (List.map SRecord.cells r80.1.Txn.Records)), .c (.sl (List.map cI64 r80.1.Txn.Vector)), .c (.val (.int .i64 r80.1.Done)), .c (.val (.int .i64 r80.1.Left))] 30), (3, .box [.c (.val (.int .i64 r80.2.Kind)), .c (.val (.int .i64 r80.2.Id)), .c (.val (.int .i64 r80.2.Begin)), .c (.val (.int .i64 r80.2.Txn.Epoch)), .c (.val (.int .i64 r80.2.Txn.Id)), .c (.val (.int .i64 r80.2.Txn.Begin)), .c (.sl (List.map SRecord.cells r80.2.Txn.Records)), .c (.sl (List.map cI64 r80.2.Txn.Vector))] 48)], 4⟩ ?_ ?_
                       ·skip
                        simp only [EVB, eqF, Op.operands, IntKind.bits, descF, sizeF, bytesF, zeroF, seval, reduceCtorEq, ↓reduceIte]
                        exact Weak.sub' ⟨rfl, rfl, rfl, rfl, rfl, rfl, rfl, rfl, rfl, trivial⟩ ⟨rfl, rfl, rfl, rfl, trivial⟩ (Nat.le_of_ble_eq_true rfl)
                       ·skip
                        refine go_cond (by rfl) (fun h94 => ?_) (fun h94 => ?_)
                        ·have gh94 := h94
                         try simp only [GN, beq_iff_eq, beq_eq_false_iff_ne, bne_iff_ne, bne_eq_false_iff_eq] at gh94
                         simp only [h94, dite_true, dite_false, reduceDIte, Bool.false_eq_true] at hx2
                         refine go_seq ?_
                         refine go_regionJ hR ⟨[(5, .ptr 0 0), (7, .c (.val (.int .i64 x64))), (10, .ptr 2 0), (11, .ptr 3 0), (24, .c (.sl (List.map Spontoonlaw19_Come.cells a1))), (25, .c (.val (.int .i64 ((a1.length : Nat) : Int)))), (26, .c (.val (.int .i64 ((x65 : Nat) : Int)))), (108, .c (.val (.bool ((r79.Err != 150) || (r80.1.Phase != 4)))))], [(0, .box [.c (.val (.int .i64 x66)), .c (.val (.int .i64 x67)), .c (.val (.int .i64 x68)), .c (.val (.int .i64 x69)), .c (.sl (List.map cI64 x70)), .c (.val (.int .i64 x71)), .c (.val (.int .i64 x72)), .c (.val (.int .i64 x73)), .c (.sl (List.map SRecord.cells x74)), .c (.sl (List.map cI64 x75)), .c (.val (.int .i64 x76)), .c (.val (.int .i64 x77))] 30), (2, .box [.c (.val (.int .i64 r80.1.Phase)), .c (.val (.int .i64 r80.1.Epoch)), .c (.val (.int .i64 r80.1.Id)), .c (.val (.int .i64 r80.1.Len)), .c (.sl (List.map cI64 r80.1.Vector)), .c (.val (.int .i64 r80.1.Txn.Epoch)), .c (.val (.int .i64 r80.1.Txn.Id)), .c (.val (.int .i64 r80.1.Txn.Begin)), .c (.sl (List.map SRecord.cells r80.1.Txn.Records)), .c (.sl (List.map cI64 r80.1.Txn.Vector)), .c (.val (.int .i64 r80.1.Done)), .c (.val (.int .i64 r80.1.Left))] 30), (3, .box [.c (.val (.int .i64 r80.2.Kind)), .c (.val (.int .i64 r80.2.Id)), .c (.val (.int .i64 r80.2.Begin)), .c (.val (.int .i64 r80.2.Txn.Epoch)), .c (.val (.int .i64 r80.2.Txn.Id)), .c (.val (.int .i64 r80.2.Txn.Begin)), .c (.sl (List.map SRecord.cells r80.2.Txn.Records)), .c (.sl (List.map cI64 r80.2.Txn.Vector))] 48)], 4⟩ ?_ ?_
                         ·skip
                          rcases Bool.eq_false_or_eq_true (r79.Err != 150) with h95 | h95
                          ·simp only [h95, EVB, eqF, Op.operands, IntKind.bits, descF, sizeF, bytesF, zeroF, seval, reduceCtorEq, ↓reduceIte]
                           try simp only [h95, BM]
                           exact Weak.sub' ⟨rfl, rfl, rfl, rfl, rfl, rfl, rfl, rfl, trivial⟩ ⟨rfl, rfl, rfl, trivial⟩ (Nat.le_of_ble_eq_true rfl)
                          ·simp only [h95, EVB, eqF, Op.operands, IntKind.bits, descF, sizeF, bytesF, zeroF, seval, reduceCtorEq, ↓reduceIte]
                           try simp only [h95, BM]
                           exact Weak.sub' ⟨rfl, rfl, rfl, rfl, rfl, rfl, rfl, rfl, trivial⟩ ⟨rfl, rfl, rfl, trivial⟩ (Nat.le_of_ble_eq_true rfl)
                         ·skip
                          refine go_cond (by rfl) (fun h96 => ?_) (fun h96 => ?_)
                          ·have gh96 := h96
                           try simp only [GN, beq_iff_eq, beq_eq_false_iff_ne, bne_iff_ne, bne_eq_false_iff_eq] at gh96
                           simp only [h96, dite_true, dite_false, reduceDIte, Bool.false_eq_true] at hx2
                           refine go_seq ?_
                           refine go_regionJ hR ⟨[(4, .c (.val (.bool false)))], [], 4⟩ ?_ ?_
                           ·skip
                            simp only [EVB, eqF, Op.operands, IntKind.bits, descF, sizeF, bytesF, zeroF, seval, reduceCtorEq, ↓reduceIte]
                            exact Weak.sub' ⟨rfl, trivial⟩ trivial (Nat.le_of_ble_eq_true rfl)
                           ·skip
                            subst hx2
                            simp only [Sum.elim_inl] at hx1
                            subst hx1
                            simp only [Sum.elim_inl] at hx0
                            subst hx0
                            refine go_return ttOk (fun _ h => h) rfl ?_ ?_
                            ·exact (by (repeat' apply And.intro) <;> first | trivial | exact Nat.le_of_ble_eq_true rfl | omega | (simp only [NM]; omega))
                            ·first | rfl | (simp only [NM, CELLS] <;> rfl)
                          ·have gh96 := h96
                           try simp only [GN, beq_iff_eq, beq_eq_false_iff_ne, bne_iff_ne, bne_eq_false_iff_eq] at gh96
                           simp only [h96, dite_true, dite_false, reduceDIte, Bool.false_eq_true] at hx2
                           refine go_skip ?_
                           refine go_blk ?_
                           exact go_fin ⟨x64, hx2.symm, (Weak.canon [0, 2, 3] [5, 7, 10, 11, 24, 25, 26] (by decide) rfl (by simp) rfl (by simp) (by first | rfl | (simp only [NM, CELLS] <;> rfl) | simp [NM, CELLS]) (by first | rfl | (simp only [NM, CELLS] <;> rfl) | simp [NM, CELLS]) rfl)⟩
                        ·have gh94 := h94
                         try simp only [GN, beq_iff_eq, beq_eq_false_iff_ne, bne_iff_ne, bne_eq_false_iff_eq] at gh94
                         simp only [h94, dite_true, dite_false, reduceDIte, Bool.false_eq_true] at hx2
                         refine go_skip ?_
                         refine go_blk ?_
                         exact go_fin ⟨x64, hx2.symm, (Weak.canon [0, 2, 3] [5, 7, 10, 11, 24, 25, 26] (by decide) rfl (by simp) rfl (by simp) (by first | rfl | (simp only [NM, CELLS] <;> rfl) | simp [NM, CELLS]) (by first | rfl | (simp only [NM, CELLS] <;> rfl) | simp [NM, CELLS]) rfl)⟩
                  ·rintro o84 hp
                   try dsimp only at hp
                   subst hp
                   simp only [Sum.elim_inr] at hx1
                   refine go_seq ?_
                   refine go_seq ?_
                   refine go_regionJ hR ⟨[(5, .ptr 0 0), (7, .c (.val (.int .i64 o84))), (10, .ptr 1 0), (24, .c (.sl (List.map Spontoonlaw19_Come.cells a1))), (25, .c (.val (.int .i64 ((a1.length : Nat) : Int)))), (26, .c (.val (.int .i64 ((x65 : Nat) : Int)))), (122, .c (.val (.bool ((x66 == 4) && ((r80.2.Kind != 0) || (!(pontoonref19_Same (SCoord.mk x66 x67 x68 x69 x70 (STxn.mk x71 x72 x73 x74 x75) x76 x77) r80.1)))))))], [(0, .box [.c (.val (.int .i64 x66)), .c (.val (.int .i64 x67)), .c (.val (.int .i64 x68)), .c (.val (.int .i64 x69)), .c (.sl (List.map cI64 x70)), .c (.val (.int .i64 x71)), .c (.val (.int .i64 x72)), .c (.val (.int .i64 x73)), .c (.sl (List.map SRecord.cells x74)), .c (.sl (List.map cI64 x75)), .c (.val (.int .i64 x76)), .c (.val (.int .i64 x77))] 30), (1, .box [.c (.val (.int .i64 r80.1.Phase)), .c (.val (.int .i64 r80.1.Epoch)), .c (.val (.int .i64 r80.1.Id)), .c (.val (.int .i64 r80.1.Len)), .c (.sl (List.map cI64 r80.1.Vector)), .c (.val (.int .i64 r80.1.Txn.Epoch)), .c (.val (.int .i64 r80.1.Txn.Id)), .c (.val (.int .i64 r80.1.Txn.Begin)), .c (.sl (List.map SRecord.cells r80.1.Txn.Records)), .c (.sl (List.map cI64 r80.1.Txn.Vector)), .c (.val (.int .i64 r80.1.Done)), .c (.val (.int .i64 r80.1.Left))] 30)], 3⟩ ?_ ?_
                   ·skip
                    rcases Bool.eq_false_or_eq_true (x66 == 4) with h97 | h97
                    ·rcases Bool.eq_false_or_eq_true (r80.2.Kind != 0) with h98 | h98
                     ·simp only [h97, h98, EVB, eqF, Op.operands, IntKind.bits, descF, sizeF, bytesF, zeroF, seval, reduceCtorEq, ↓reduceIte]
                      try simp only [h97, h98, BM]
                      exact Weak.sub' ⟨rfl, rfl, rfl, rfl, rfl, rfl, rfl, trivial⟩ ⟨rfl, rfl, trivial⟩ (Nat.le_of_ble_eq_true rfl)
                     ·simp only [h97, h98, EVB, eqF, Op.operands, IntKind.bits, descF, sizeF, bytesF, zeroF, seval, reduceCtorEq, ↓reduceIte]
                      refine CallK.freshE (pontoonref19_Same_t (SCoord.mk x66 x67 x68 x69 x70 (STxn.mk x71 x72 x73 x74 x75) x76 x77) r80.1).toO rfl (by first | rfl | (simp only [NM]; done)) (by (repeat' apply And.intro) <;> first | trivial | rfl | omega | (simp only [NM]; omega)) (.inl rfl) (by exact Nat.le_of_ble_eq_true rfl) ?_
                      try simp only [h97, h98, EVB, eqF, Op.operands, IntKind.bits, descF, sizeF, bytesF, zeroF, seval, reduceCtorEq, ↓reduceIte]
                      try simp only [h97, h98, BM]
                      exact Weak.sub' ⟨rfl, rfl, rfl, rfl, rfl, rfl, rfl, trivial⟩ ⟨rfl, rfl, trivial⟩ (Nat.le_of_ble_eq_true rfl)
                    ·simp only [h97, EVB, eqF, Op.operands, IntKind.bits, descF, sizeF, bytesF, zeroF, seval, reduceCtorEq, ↓reduceIte]
                     try simp only [h97, BM]
                     exact Weak.sub' ⟨rfl, rfl, rfl, rfl, rfl, rfl, rfl, trivial⟩ ⟨rfl, rfl, trivial⟩ (Nat.le_of_ble_eq_true rfl)
                   ·skip
                    refine go_cond (by rfl) (fun h99 => ?_) (fun h99 => ?_)
                    ·have gh99 := h99
                     try simp only [GN, beq_iff_eq, beq_eq_false_iff_ne, bne_iff_ne, bne_eq_false_iff_eq] at gh99
                     simp only [h99, dite_true, dite_false, reduceDIte, Bool.false_eq_true] at hx1
                     refine go_seq ?_
                     refine go_regionJ hR ⟨[(4, .c (.val (.bool false)))], [], 3⟩ ?_ ?_
                     ·skip
                      simp only [EVB, eqF, Op.operands, IntKind.bits, descF, sizeF, bytesF, zeroF, seval, reduceCtorEq, ↓reduceIte]
                      exact Weak.sub' ⟨rfl, trivial⟩ trivial (Nat.le_of_ble_eq_true rfl)
                     ·skip
                      subst hx1
                      simp only [Sum.elim_inl] at hx0
                      subst hx0
                      refine go_return ttOk (fun _ h => h) rfl ?_ ?_
                      ·exact (by (repeat' apply And.intro) <;> first | trivial | exact Nat.le_of_ble_eq_true rfl | omega | (simp only [NM]; omega))
                      ·first | rfl | (simp only [NM, CELLS] <;> rfl)
                    ·have gh99 := h99
                     try simp only [GN, beq_iff_eq, beq_eq_false_iff_ne, bne_iff_ne, bne_eq_false_iff_eq] at gh99
                     simp only [h99, dite_true, dite_false, reduceDIte, Bool.false_eq_true] at hx1
                     refine go_skip ?_
                     refine go_regionJ hR ⟨[(5, .ptr 0 0), (7, .c (.val (.int .i64 o84))), (24, .c (.sl (List.map Spontoonlaw19_Come.cells a1))), (25, .c (.val (.int .i64 ((a1.length : Nat) : Int)))), (26, .c (.val (.int .i64 ((x65 : Nat) : Int))))], [(0, .box [.c (.val (.int .i64 r80.1.Phase)), .c (.val (.int .i64 r80.1.Epoch)), .c (.val (.int .i64 r80.1.Id)), .c (.val (.int .i64 r80.1.Len)), .c (.sl (List.map cI64 r80.1.Vector)), .c (.val (.int .i64 r80.1.Txn.Epoch)), .c (.val (.int .i64 r80.1.Txn.Id)), .c (.val (.int .i64 r80.1.Txn.Begin)), .c (.sl (List.map SRecord.cells r80.1.Txn.Records)), .c (.sl (List.map cI64 r80.1.Txn.Vector)), .c (.val (.int .i64 r80.1.Done)), .c (.val (.int .i64 r80.1.Left))] 30)], 3⟩ ?_ ?_
                     ·skip
                      simp only [EVB, eqF, Op.operands, IntKind.bits, descF, sizeF, bytesF, zeroF, seval, reduceCtorEq, ↓reduceIte]
                      exact Weak.sub' ⟨rfl, rfl, rfl, rfl, rfl, trivial⟩ ⟨rfl, trivial⟩ (Nat.le_of_ble_eq_true rfl)
                     ·skip
                      refine go_blk ?_
                      refine go_regionJ hR ⟨[(5, .ptr 0 0), (7, .c (.val (.int .i64 o84))), (24, .c (.sl (List.map Spontoonlaw19_Come.cells a1))), (25, .c (.val (.int .i64 ((a1.length : Nat) : Int)))), (26, .c (.val (.int .i64 ((x65 + 1 : Nat) : Int))))], [(0, .box [.c (.val (.int .i64 r80.1.Phase)), .c (.val (.int .i64 r80.1.Epoch)), .c (.val (.int .i64 r80.1.Id)), .c (.val (.int .i64 r80.1.Len)), .c (.sl (List.map cI64 r80.1.Vector)), .c (.val (.int .i64 r80.1.Txn.Epoch)), .c (.val (.int .i64 r80.1.Txn.Id)), .c (.val (.int .i64 r80.1.Txn.Begin)), .c (.sl (List.map SRecord.cells r80.1.Txn.Records)), .c (.sl (List.map cI64 r80.1.Txn.Vector)), .c (.val (.int .i64 r80.1.Done)), .c (.val (.int .i64 r80.1.Left))] 30)], 3⟩ ?_ ?_
                      ·skip
                       have w125 : IntKind.i64.wrap (((x65 : Nat) : Int) + 1) = ((x65 + 1 : Nat) : Int) := by rw [IntKind.wrap_i64]; omega
                       simp only [w125, EVB, eqF, Op.operands, IntKind.bits, descF, sizeF, bytesF, zeroF, seval, reduceCtorEq, ↓reduceIte, CELLS]
                       exact Weak.sub' ⟨rfl, rfl, rfl, rfl, rfl, trivial⟩ ⟨rfl, trivial⟩ (Nat.le_of_ble_eq_true rfl)
                      ·skip
                       exact go_fin ⟨(o84, x65 + 1, r80.1.Phase, r80.1.Epoch, r80.1.Id, r80.1.Len, r80.1.Vector, r80.1.Txn.Epoch, r80.1.Txn.Id, r80.1.Txn.Begin, r80.1.Txn.Records, r80.1.Txn.Vector, r80.1.Done, r80.1.Left), ⟨(by (try dsimp only); (repeat' apply And.intro) <;> first | trivial | omega | assumption | (simp; done)), hx1⟩, by (try dsimp only); omega, (Weak.canon [0] [5, 7, 24, 25, 26] (by decide) rfl (by simp) rfl (by simp) (by first | rfl | (simp only [NM, CELLS] <;> rfl) | simp [NM, CELLS]) (by first | rfl | (simp only [NM, CELLS] <;> rfl) | simp [NM, CELLS]) rfl)⟩
           ·have gh78 := h78
            try simp only [GN, beq_iff_eq, beq_eq_false_iff_ne, bne_iff_ne, bne_eq_false_iff_eq] at gh78
            simp only [h78, dite_true, dite_false, reduceDIte, Bool.false_eq_true] at hx1
            refine go_exit rfl ?_
            exact go_fin ⟨(), hx1.symm, (Weak.canon [] [] (by decide) rfl trivial rfl (by simp) (by first | rfl | (simp only [NM, CELLS] <;> rfl) | simp [NM, CELLS]) rfl rfl)⟩
         ·rintro o4 hp
          try dsimp only at hp
          subst hp
          simp only [Sum.elim_inr] at hx0
          refine go_seq ?_
          refine go_regionJ hR ⟨[(4, .c (.val (.bool true)))], [], 0⟩ ?_ ?_
          ·skip
           simp only [EVB, eqF, Op.operands, IntKind.bits, descF, sizeF, bytesF, zeroF, seval, reduceCtorEq, ↓reduceIte]
           exact Weak.sub' ⟨rfl, trivial⟩ trivial (Nat.le_of_ble_eq_true rfl)
          ·skip
           subst hx0
           refine go_return ttOk (fun _ h => h) rfl ?_ ?_
           ·exact (by (repeat' apply And.intro) <;> first | trivial | exact Nat.le_of_ble_eq_true rfl | omega | (simp only [NM]; omega))
           ·first | rfl | (simp only [NM, CELLS] <;> rfl)

def pontoonlaw19_CoordLess_L0 (a0 : (List Spontoonlaw19_Come)) (x15 : Nat) (x16 : Int) (x17 : Int) (x18 : Int) (x19 : Int) (x20 : List Int) (x21 : Int) (x22 : Int) (x23 : Int) (x24 : List SRecord) (x25 : List Int) (x26 : Int) (x27 : Int) : Sum Bool Unit :=
  (if h28 : (decide (((x15 : Nat) : Int) < ((a0.length : Nat) : Int))) = true then letIn (pontoonlaw19_owned (SCoord.mk x16 x17 x18 x19 x20 (STxn.mk x21 x22 x23 x24 x25) x26 x27) (Spontoonlaw19_Come.mk ((List.getD a0 x15 default).Do) ((List.getD a0 x15 default).Own) ((List.getD a0 x15 default).Id) ((List.getD a0 x15 default).Manifest) ((List.getD a0 x15 default).Kind) ((List.getD a0 x15 default).Key) ((List.getD a0 x15 default).Err) ((List.getD a0 x15 default).Len) ((List.getD a0 x15 default).Vector))) fun r29 => letIn (pontoonlaw19_does (SCoord.mk x16 x17 x18 x19 x20 (STxn.mk x21 x22 x23 x24 x25) x26 x27) r29) fun r30 => (if h32 : ((decide (r30.1.Len < x19)) || (!(pontoonref15_Above r30.1.Vector x20))) = true then (Sum.inl false) else (if h36 : (((r30.2.Kind == 3) && ((List.getD a0 x15 default).Do != 4)) && ((!(pontoonref15_Above r30.2.Txn.Vector x20)) || (decide ((IntKind.i64.wrap (r30.2.Txn.Begin + ((r30.2.Txn.Records.length : Nat) : Int))) < x19)))) = true then (Sum.inl false) else (pontoonlaw19_CoordLess_L0 a0 (x15 + 1) r30.1.Phase r30.1.Epoch r30.1.Id r30.1.Len r30.1.Vector r30.1.Txn.Epoch r30.1.Txn.Id r30.1.Txn.Begin r30.1.Txn.Records r30.1.Txn.Vector r30.1.Done r30.1.Left))) else (Sum.inr ()))
termination_by a0.length - x15
decreasing_by all_goals (try simp only [GN, beq_iff_eq, beq_eq_false_iff_ne, bne_iff_ne, bne_eq_false_iff_eq] at *) <;> omega
def pontoonlaw19_CoordLess (a0 : (List Spontoonlaw19_Come)) : Bool :=
  (bif (!pontoonlaw19_live) then false else letIn (coord_New 2 0 0 [0, 0]) fun r2 => (bif (r2.2 != 0) then false else letIn (pontoonlaw19_CoordLess_L0 a0 0 r2.1.Phase r2.1.Epoch r2.1.Id r2.1.Len r2.1.Vector r2.1.Txn.Epoch r2.1.Txn.Id r2.1.Txn.Begin r2.1.Txn.Records r2.1.Txn.Vector r2.1.Done r2.1.Left) fun o4s => Sum.elim (fun q => q) (fun o4 => true) o4s))
set_option maxRecDepth 10000 in
set_option maxHeartbeats 8000000 in
theorem pontoonlaw19_CoordLess_t (a0 : (List Spontoonlaw19_Come)) (z0 : (a0.length ≤ 4294967296 ∧ ∀ y ∈ a0, Spontoonlaw19_Come.Sz y)) : FnP Try.prog 5 [.c (.sl (List.map Spontoonlaw19_Come.cells a0))] (.c (.val (.bool (pontoonlaw19_CoordLess a0)))) := by
 refine FnP.intro (tt := tt) Try.func5 rfl (by kernel_rfl) (by simp [Try.ntmps5]) fun w0 A hA => ?_
 have hR := reckB_ok eqOk ttOk
 obtain ⟨res, hx0⟩ : ∃ r, pontoonlaw19_CoordLess a0 = r := ⟨_, rfl⟩
 simp only [hx0]
 unfold pontoonlaw19_CoordLess at hx0
 simp only [argT, Try.ntmps5]
 try simp only [SZD] at z0
 obtain ⟨zz37, zz38⟩ := z0
 refine go_seq ?_
 refine go_regionJ hR ⟨[(0, .c (.sl (List.map Spontoonlaw19_Come.cells a0)))], [], 0⟩ ?_ ?_
 ·skip
  simp only [EVB, eqF, Op.operands, IntKind.bits, descF, sizeF, bytesF, zeroF, seval, reduceCtorEq, ↓reduceIte]
  exact Weak.sub' ⟨rfl, trivial⟩ trivial (Nat.le_of_ble_eq_true rfl)
 ·skip
  refine go_seq ?_
  refine go_seq ?_
  refine go_regionJ hR ⟨[(0, .c (.sl (List.map Spontoonlaw19_Come.cells a0))), (10, .c (.val (.bool (!pontoonlaw19_live))))], [], 0⟩ ?_ ?_
  ·skip
   simp only [EVB, eqF, Op.operands, IntKind.bits, descF, sizeF, bytesF, zeroF, seval, reduceCtorEq, ↓reduceIte]
   refine CallK.freshE pontoonlaw19_live_t.toO rfl (by first | rfl | (simp only [NM]; done)) (by (repeat' apply And.intro) <;> first | trivial | rfl | omega | (simp only [NM]; omega)) (.inl rfl) (by exact Nat.le_of_ble_eq_true rfl) ?_
   try simp only [EVB, eqF, Op.operands, IntKind.bits, descF, sizeF, bytesF, zeroF, seval, reduceCtorEq, ↓reduceIte]
   exact Weak.sub' ⟨rfl, rfl, trivial⟩ trivial (Nat.le_of_ble_eq_true rfl)
  ·skip
   refine go_cond (by rfl) (fun h1 => ?_) (fun h1 => ?_)
   ·have gh1 := h1
    try simp only [GN, beq_iff_eq, beq_eq_false_iff_ne, bne_iff_ne, bne_eq_false_iff_eq] at gh1
    simp only [h1, cond_true, cond_false] at hx0
    refine go_seq ?_
    refine go_regionJ hR ⟨[(2, .c (.val (.bool false)))], [], 0⟩ ?_ ?_
    ·skip
     simp only [EVB, eqF, Op.operands, IntKind.bits, descF, sizeF, bytesF, zeroF, seval, reduceCtorEq, ↓reduceIte]
     exact Weak.sub' ⟨rfl, trivial⟩ trivial (Nat.le_of_ble_eq_true rfl)
    ·skip
     subst hx0
     refine go_return ttOk (fun _ h => h) rfl ?_ ?_
     ·exact (by (repeat' apply And.intro) <;> first | trivial | exact Nat.le_of_ble_eq_true rfl | omega | (simp only [NM]; omega))
     ·first | rfl | (simp only [NM, CELLS] <;> rfl)
   ·have gh1 := h1
    try simp only [GN, beq_iff_eq, beq_eq_false_iff_ne, bne_iff_ne, bne_eq_false_iff_eq] at gh1
    simp only [h1, cond_true, cond_false] at hx0
    refine go_skip ?_
    refine go_seq ?_
    obtain ⟨r2, hr2, hx0⟩ := letIn_ex hx0
    have Cr2 := (coord_New_t 2 0 0 [0, 0] (by (try simp only [SZD]); (repeat' apply And.intro) <;> first | assumption | omega | simp_all))
    simp only [hr2] at Cr2
    have zr2 := coord_New_sz 2 0 0 [0, 0] (by (try simp only [SZD]); (repeat' apply And.intro) <;> first | assumption | omega | simp_all)
    simp only [hr2, SZD] at zr2
    obtain ⟨zz39, ⟨zz40, zz41⟩⟩ := zr2
    refine go_regionJ hR ⟨[(0, .c (.sl (List.map Spontoonlaw19_Come.cells a0))), (3, .ptr 1 0), (4, .c (.val (.int .i64 r2.2)))], [(1, .box [.c (.val (.int .i64 r2.1.Phase)), .c (.val (.int .i64 r2.1.Epoch)), .c (.val (.int .i64 r2.1.Id)), .c (.val (.int .i64 r2.1.Len)), .c (.sl (List.map cI64 r2.1.Vector)), .c (.val (.int .i64 r2.1.Txn.Epoch)), .c (.val (.int .i64 r2.1.Txn.Id)), .c (.val (.int .i64 r2.1.Txn.Begin)), .c (.sl (List.map SRecord.cells r2.1.Txn.Records)), .c (.sl (List.map cI64 r2.1.Txn.Vector)), .c (.val (.int .i64 r2.1.Done)), .c (.val (.int .i64 r2.1.Left))] 30)], 2⟩ ?_ ?_
    ·skip
     simp only [EVB, eqF, Op.operands, IntKind.bits, descF, sizeF, bytesF, zeroF, seval, reduceCtorEq, ↓reduceIte]
     refine ⟨(by (repeat' apply And.intro) <;> first | trivial | rfl | exact Nat.le_of_ble_eq_true rfl | omega | (intro u hu; obtain ⟨x, _, rfl⟩ := List.mem_map.1 hu; rfl) | (intro u hu; simp only [List.mem_cons, List.not_mem_nil, or_false] at hu; subst hu; rfl) | (simp only [NM]; omega) | (simp; done)), ?_⟩
     refine CallK.close 0 rfl rfl (by (repeat' apply And.intro) <;> first | trivial | rfl | exact Nat.le_of_ble_eq_true rfl | omega | (intro u hu; obtain ⟨x, _, rfl⟩ := List.mem_map.1 hu; rfl) | (intro u hu; simp only [List.mem_cons, List.not_mem_nil, or_false] at hu; subst hu; rfl) | (simp only [NM]; omega) | (simp; done)) ?_
     refine CallK.freshE Cr2.toO rfl (by first | rfl | (simp only [NM]; done)) (by (repeat' apply And.intro) <;> first | trivial | rfl | omega | (simp only [NM]; omega)) (.inl rfl) (by exact Nat.le_of_ble_eq_true rfl) ?_
     try simp only [EVB, eqF, Op.operands, IntKind.bits, descF, sizeF, bytesF, zeroF, seval, reduceCtorEq, ↓reduceIte]
     try simp only [BM, NM, CELLS]
     exact Weak.sub' ⟨rfl, rfl, rfl, trivial⟩ ⟨rfl, trivial⟩ (Nat.le_of_ble_eq_true rfl)
    ·skip
     refine go_seq ?_
     refine go_seq ?_
     refine go_regionJ hR ⟨[(0, .c (.sl (List.map Spontoonlaw19_Come.cells a0))), (3, .ptr 1 0), (17, .c (.val (.bool (r2.2 != 0))))], [(1, .box [.c (.val (.int .i64 r2.1.Phase)), .c (.val (.int .i64 r2.1.Epoch)), .c (.val (.int .i64 r2.1.Id)), .c (.val (.int .i64 r2.1.Len)), .c (.sl (List.map cI64 r2.1.Vector)), .c (.val (.int .i64 r2.1.Txn.Epoch)), .c (.val (.int .i64 r2.1.Txn.Id)), .c (.val (.int .i64 r2.1.Txn.Begin)), .c (.sl (List.map SRecord.cells r2.1.Txn.Records)), .c (.sl (List.map cI64 r2.1.Txn.Vector)), .c (.val (.int .i64 r2.1.Done)), .c (.val (.int .i64 r2.1.Left))] 30)], 2⟩ ?_ ?_
     ·skip
      simp only [EVB, eqF, Op.operands, IntKind.bits, descF, sizeF, bytesF, zeroF, seval, reduceCtorEq, ↓reduceIte]
      exact Weak.sub' ⟨rfl, rfl, rfl, trivial⟩ ⟨rfl, trivial⟩ (Nat.le_of_ble_eq_true rfl)
     ·skip
      refine go_cond (by rfl) (fun h3 => ?_) (fun h3 => ?_)
      ·have gh3 := h3
       try simp only [GN, beq_iff_eq, beq_eq_false_iff_ne, bne_iff_ne, bne_eq_false_iff_eq] at gh3
       simp only [h3, cond_true, cond_false] at hx0
       refine go_seq ?_
       refine go_regionJ hR ⟨[(2, .c (.val (.bool false)))], [], 2⟩ ?_ ?_
       ·skip
        simp only [EVB, eqF, Op.operands, IntKind.bits, descF, sizeF, bytesF, zeroF, seval, reduceCtorEq, ↓reduceIte]
        exact Weak.sub' ⟨rfl, trivial⟩ trivial (Nat.le_of_ble_eq_true rfl)
       ·skip
        subst hx0
        refine go_return ttOk (fun _ h => h) rfl ?_ ?_
        ·exact (by (repeat' apply And.intro) <;> first | trivial | exact Nat.le_of_ble_eq_true rfl | omega | (simp only [NM]; omega))
        ·first | rfl | (simp only [NM, CELLS] <;> rfl)
      ·have gh3 := h3
       try simp only [GN, beq_iff_eq, beq_eq_false_iff_ne, bne_iff_ne, bne_eq_false_iff_eq] at gh3
       simp only [h3, cond_true, cond_false] at hx0
       refine go_skip ?_
       refine go_seq ?_
       refine go_seq ?_
       refine go_regionJ hR ⟨[(3, .ptr 1 0), (18, .c (.sl (List.map Spontoonlaw19_Come.cells a0))), (19, .c (.val (.int .i64 ((a0.length : Nat) : Int)))), (20, .c (.val (.int .i64 0)))], [(1, .box [.c (.val (.int .i64 r2.1.Phase)), .c (.val (.int .i64 r2.1.Epoch)), .c (.val (.int .i64 r2.1.Id)), .c (.val (.int .i64 r2.1.Len)), .c (.sl (List.map cI64 r2.1.Vector)), .c (.val (.int .i64 r2.1.Txn.Epoch)), .c (.val (.int .i64 r2.1.Txn.Id)), .c (.val (.int .i64 r2.1.Txn.Begin)), .c (.sl (List.map SRecord.cells r2.1.Txn.Records)), .c (.sl (List.map cI64 r2.1.Txn.Vector)), .c (.val (.int .i64 r2.1.Done)), .c (.val (.int .i64 r2.1.Left))] 30)], 2⟩ ?_ ?_
       ·skip
        simp only [EVB, eqF, Op.operands, IntKind.bits, descF, sizeF, bytesF, zeroF, seval, reduceCtorEq, ↓reduceIte]
        exact Weak.sub' ⟨rfl, rfl, rfl, rfl, trivial⟩ ⟨rfl, trivial⟩ (Nat.le_of_ble_eq_true rfl)
       ·skip
        obtain ⟨o4s, hx1, hx0⟩ := letIn_ex hx0
        refine go_joinE (fun p : Unit => ⟨[], [], 0⟩) (fun p : Unit => o4s = Sum.inr p) ?_ ?_
        ·refine go_block ?_
         refine go_len (t := 18) rfl (fun hl42 => ?_)
         simp only [List.length_map, maxLen_eq] at hl42
         refine go_loop (fun p : Nat × Int × Int × Int × Int × (List Int) × Int × Int × Int × (List SRecord) × (List Int) × Int × Int => ⟨[(3, .ptr 0 0), (18, .c (.sl (List.map Spontoonlaw19_Come.cells a0))), (19, .c (.val (.int .i64 ((a0.length : Nat) : Int)))), (20, .c (.val (.int .i64 ((p.1 : Nat) : Int))))], [(0, .box [.c (.val (.int .i64 p.2.1)), .c (.val (.int .i64 p.2.2.1)), .c (.val (.int .i64 p.2.2.2.1)), .c (.val (.int .i64 p.2.2.2.2.1)), .c (.sl (List.map cI64 p.2.2.2.2.2.1)), .c (.val (.int .i64 p.2.2.2.2.2.2.1)), .c (.val (.int .i64 p.2.2.2.2.2.2.2.1)), .c (.val (.int .i64 p.2.2.2.2.2.2.2.2.1)), .c (.sl (List.map SRecord.cells p.2.2.2.2.2.2.2.2.2.1)), .c (.sl (List.map cI64 p.2.2.2.2.2.2.2.2.2.2.1)), .c (.val (.int .i64 p.2.2.2.2.2.2.2.2.2.2.2.1)), .c (.val (.int .i64 p.2.2.2.2.2.2.2.2.2.2.2.2))] 30)], 1⟩) (fun p : Nat × Int × Int × Int × Int × (List Int) × Int × Int × Int × (List SRecord) × (List Int) × Int × Int => (p.1 ≤ a0.length ∧ p.2.2.2.2.2.1.length ≤ 4294967296 ∧ p.2.2.2.2.2.2.2.2.2.1.length ≤ 4294967296 ∧ p.2.2.2.2.2.2.2.2.2.2.1.length ≤ 4294967296) ∧ pontoonlaw19_CoordLess_L0 a0 p.1 p.2.1 p.2.2.1 p.2.2.2.1 p.2.2.2.2.1 p.2.2.2.2.2.1 p.2.2.2.2.2.2.1 p.2.2.2.2.2.2.2.1 p.2.2.2.2.2.2.2.2.1 p.2.2.2.2.2.2.2.2.2.1 p.2.2.2.2.2.2.2.2.2.2.1 p.2.2.2.2.2.2.2.2.2.2.2.1 p.2.2.2.2.2.2.2.2.2.2.2.2 = o4s) (fun p : Nat × Int × Int × Int × Int × (List Int) × Int × Int × Int × (List SRecord) × (List Int) × Int × Int => a0.length - p.1) (0, r2.1.Phase, r2.1.Epoch, r2.1.Id, r2.1.Len, r2.1.Vector, r2.1.Txn.Epoch, r2.1.Txn.Id, r2.1.Txn.Begin, r2.1.Txn.Records, r2.1.Txn.Vector, r2.1.Done, r2.1.Left) ⟨(by (try dsimp only); (repeat' apply And.intro) <;> first | trivial | omega | assumption | (simp; done)), hx1⟩ (Weak.canon [1] [3, 18, 19, 20] (by decide) rfl (by simp) rfl (by simp) (by first | rfl | (simp only [NM, CELLS] <;> rfl) | simp [NM, CELLS]) (by first | rfl | (simp only [NM, CELLS] <;> rfl) | simp [NM, CELLS]) rfl) ?_
         rintro ⟨x15, x16, x17, x18, x19, x20, x21, x22, x23, x24, x25, x26, x27⟩ ⟨⟨hi44, hi45, hi46, hi47⟩, hx1⟩
         try dsimp only at hi44 hi45 hi46 hi47 hx1 ⊢
         rw [pontoonlaw19_CoordLess_L0.eq_def] at hx1
         refine go_seq ?_
         refine go_regionJ hR ⟨[(3, .ptr 0 0), (18, .c (.sl (List.map Spontoonlaw19_Come.cells a0))), (19, .c (.val (.int .i64 ((a0.length : Nat) : Int)))), (20, .c (.val (.int .i64 ((x15 : Nat) : Int)))), (21, .c (.val (.bool (decide (((x15 : Nat) : Int) < ((a0.length : Nat) : Int))))))], [(0, .box [.c (.val (.int .i64 x16)), .c (.val (.int .i64 x17)), .c (.val (.int .i64 x18)), .c (.val (.int .i64 x19)), .c (.sl (List.map cI64 x20)), .c (.val (.int .i64 x21)), .c (.val (.int .i64 x22)), .c (.val (.int .i64 x23)), .c (.sl (List.map SRecord.cells x24)), .c (.sl (List.map cI64 x25)), .c (.val (.int .i64 x26)), .c (.val (.int .i64 x27))] 30)], 1⟩ ?_ ?_
         ·skip
          simp only [EVB, eqF, Op.operands, IntKind.bits, descF, sizeF, bytesF, zeroF, seval, reduceCtorEq, ↓reduceIte]
          exact Weak.sub' ⟨rfl, rfl, rfl, rfl, rfl, trivial⟩ ⟨rfl, trivial⟩ (Nat.le_of_ble_eq_true rfl)
         ·skip
          refine go_seq ?_
          refine go_cond (by rfl) (fun h28 => ?_) (fun h28 => ?_)
          ·have gh28 := h28
           try simp only [GN, beq_iff_eq, beq_eq_false_iff_ne, bne_iff_ne, bne_eq_false_iff_eq] at gh28
           simp only [h28, dite_true, dite_false, reduceDIte, Bool.false_eq_true] at hx1
           refine go_skip ?_
           refine go_seq ?_
           refine go_block ?_
           refine go_seq ?_
           refine go_regionJ hR ⟨[(3, .ptr 0 0), (6, .ptr 1 0), (18, .c (.sl (List.map Spontoonlaw19_Come.cells a0))), (19, .c (.val (.int .i64 ((a0.length : Nat) : Int)))), (20, .c (.val (.int .i64 ((x15 : Nat) : Int))))], [(0, .box [.c (.val (.int .i64 x16)), .c (.val (.int .i64 x17)), .c (.val (.int .i64 x18)), .c (.val (.int .i64 x19)), .c (.sl (List.map cI64 x20)), .c (.val (.int .i64 x21)), .c (.val (.int .i64 x22)), .c (.val (.int .i64 x23)), .c (.sl (List.map SRecord.cells x24)), .c (.sl (List.map cI64 x25)), .c (.val (.int .i64 x26)), .c (.val (.int .i64 x27))] 30), (1, .box [.c (.val (.int .i64 ((List.getD a0 x15 default).Do))), .c (.val (.bool ((List.getD a0 x15 default).Own))), .c (.val (.int .i64 ((List.getD a0 x15 default).Id))), .c (.val (.int .i64 (((List.getD a0 x15 default).Manifest).Epoch))), .c (.val (.int .i64 (((List.getD a0 x15 default).Manifest).Id))), .c (.sl (List.map cI64 (((List.getD a0 x15 default).Manifest).Vector))), .c (.val (.int .i64 (((List.getD a0 x15 default).Manifest).Out))), .c (.val (.int .i64 (((List.getD a0 x15 default).Manifest).Begin))), .c (.sl (List.map SRecord.cells (((List.getD a0 x15 default).Manifest).Records))), .c (.sl (List.map SPiece.cells (((List.getD a0 x15 default).Manifest).Pieces))), .c (.val (.int .u32 (((List.getD a0 x15 default).Manifest).Graph))), .c (.val (.int .i64 ((List.getD a0 x15 default).Kind))), .c (.val (.int .i64 (((List.getD a0 x15 default).Key).Epoch))), .c (.val (.int .i64 (((List.getD a0 x15 default).Key).Id))), .c (.val (.int .i64 ((List.getD a0 x15 default).Err))), .c (.val (.int .i64 ((List.getD a0 x15 default).Len))), .c (.sl (List.map cI64 ((List.getD a0 x15 default).Vector)))] 45)], 2⟩ ?_ ?_
           ·skip
            have bq48 : x15 < a0.length := by omega
            have q48 := map_getD Spontoonlaw19_Come.cells a0 x15 default bq48
            have zq48 : (((((List.getD a0 x15 default).Manifest).Vector).length ≤ 4294967296 ∧ (((List.getD a0 x15 default).Manifest).Records).length ≤ 4294967296 ∧ (((List.getD a0 x15 default).Manifest).Pieces).length ≤ 4294967296) ∧ ((List.getD a0 x15 default).Vector).length ≤ 4294967296) := (by assumption : ∀ y ∈ a0, ((y.Manifest.Vector.length ≤ 4294967296 ∧ y.Manifest.Records.length ≤ 4294967296 ∧ y.Manifest.Pieces.length ≤ 4294967296) ∧ y.Vector.length ≤ 4294967296)) _ (getD_mem a0 x15 default bq48)
            obtain ⟨⟨zz49, zz50, zz51⟩, zz52⟩ := zq48
            simp only [q48, EVB, eqF, Op.operands, IntKind.bits, descF, sizeF, bytesF, zeroF, seval, reduceCtorEq, ↓reduceIte, CELLS]
            refine ⟨(by (repeat' apply And.intro) <;> first | trivial | rfl | exact Nat.le_of_ble_eq_true rfl | omega | (intro u hu; obtain ⟨x, _, rfl⟩ := List.mem_map.1 hu; rfl) | (intro u hu; simp only [List.mem_cons, List.not_mem_nil, or_false] at hu; subst hu; rfl) | (simp only [NM]; omega) | (simp; done)), ?_⟩
            exact Weak.sub' ⟨rfl, rfl, rfl, rfl, rfl, trivial⟩ ⟨rfl, rfl, trivial⟩ (Nat.le_of_ble_eq_true rfl)
           ·skip
            refine go_seq ?_
            obtain ⟨r29, hr29, hx1⟩ := letIn_ex hx1
            have Cr29 := (pontoonlaw19_owned_t (SCoord.mk x16 x17 x18 x19 x20 (STxn.mk x21 x22 x23 x24 x25) x26 x27) (Spontoonlaw19_Come.mk ((List.getD a0 x15 default).Do) ((List.getD a0 x15 default).Own) ((List.getD a0 x15 default).Id) ((List.getD a0 x15 default).Manifest) ((List.getD a0 x15 default).Kind) ((List.getD a0 x15 default).Key) ((List.getD a0 x15 default).Err) ((List.getD a0 x15 default).Len) ((List.getD a0 x15 default).Vector)))
            simp only [hr29] at Cr29
            have zr29 := pontoonlaw19_owned_sz (SCoord.mk x16 x17 x18 x19 x20 (STxn.mk x21 x22 x23 x24 x25) x26 x27) (Spontoonlaw19_Come.mk ((List.getD a0 x15 default).Do) ((List.getD a0 x15 default).Own) ((List.getD a0 x15 default).Id) ((List.getD a0 x15 default).Manifest) ((List.getD a0 x15 default).Kind) ((List.getD a0 x15 default).Key) ((List.getD a0 x15 default).Err) ((List.getD a0 x15 default).Len) ((List.getD a0 x15 default).Vector)) (by (try simp only [SZD]); (repeat' apply And.intro) <;> first | assumption | omega | simp_all) (by (try simp only [SZD]); (repeat' apply And.intro) <;> first | assumption | omega | simp_all)
            simp only [hr29, SZD] at zr29
            obtain ⟨⟨zz53, zz54, zz55⟩, zz56⟩ := zr29
            obtain ⟨r30, hr30, hx1⟩ := letIn_ex hx1
            have Cr30 := (pontoonlaw19_does_t (SCoord.mk x16 x17 x18 x19 x20 (STxn.mk x21 x22 x23 x24 x25) x26 x27) r29 (by (try simp only [SZD]); (repeat' apply And.intro) <;> first | assumption | omega | simp_all) (by (try simp only [SZD]); (repeat' apply And.intro) <;> first | assumption | omega | simp_all))
            simp only [hr30] at Cr30
            have zr30 := pontoonlaw19_does_sz (SCoord.mk x16 x17 x18 x19 x20 (STxn.mk x21 x22 x23 x24 x25) x26 x27) r29 (by (try simp only [SZD]); (repeat' apply And.intro) <;> first | assumption | omega | simp_all) (by (try simp only [SZD]); (repeat' apply And.intro) <;> first | assumption | omega | simp_all)
            simp only [hr30, SZD] at zr30
            obtain ⟨⟨zz57, ⟨zz58, zz59⟩⟩, ⟨zz60, zz61⟩⟩ := zr30
            refine go_drawJ hR rfl ⟨[(3, .ptr 0 0), (6, .ptr 1 0), (7, .ptr 2 0), (8, .ptr 3 0), (18, .c (.sl (List.map Spontoonlaw19_Come.cells a0))), (19, .c (.val (.int .i64 ((a0.length : Nat) : Int)))), (20, .c (.val (.int .i64 ((x15 : Nat) : Int))))], [(0, .box [.c (.val (.int .i64 x16)), .c (.val (.int .i64 x17)), .c (.val (.int .i64 x18)), .c (.val (.int .i64 x19)), .c (.sl (List.map cI64 x20)), .c (.val (.int .i64 x21)), .c (.val (.int .i64 x22)), .c (.val (.int .i64 x23)), .c (.sl (List.map SRecord.cells x24)), .c (.sl (List.map cI64 x25)), .c (.val (.int .i64 x26)), .c (.val (.int .i64 x27))] 30), (1, .box [.c (.val (.int .i64 ((List.getD a0 x15 default).Do))), .c (.val (.bool ((List.getD a0 x15 default).Own))), .c (.val (.int .i64 ((List.getD a0 x15 default).Id))), .c (.val (.int .i64 (((List.getD a0 x15 default).Manifest).Epoch))), .c (.val (.int .i64 (((List.getD a0 x15 default).Manifest).Id))), .c (.sl (List.map cI64 (((List.getD a0 x15 default).Manifest).Vector))), .c (.val (.int .i64 (((List.getD a0 x15 default).Manifest).Out))), .c (.val (.int .i64 (((List.getD a0 x15 default).Manifest).Begin))), .c (.sl (List.map SRecord.cells (((List.getD a0 x15 default).Manifest).Records))), .c (.sl (List.map SPiece.cells (((List.getD a0 x15 default).Manifest).Pieces))), .c (.val (.int .u32 (((List.getD a0 x15 default).Manifest).Graph))), .c (.val (.int .i64 ((List.getD a0 x15 default).Kind))), .c (.val (.int .i64 (((List.getD a0 x15 default).Key).Epoch))), .c (.val (.int .i64 (((List.getD a0 x15 default).Key).Id))), .c (.val (.int .i64 ((List.getD a0 x15 default).Err))), .c (.val (.int .i64 ((List.getD a0 x15 default).Len))), .c (.sl (List.map cI64 ((List.getD a0 x15 default).Vector)))] 45), (2, .box [.c (.val (.int .i64 r30.1.Phase)), .c (.val (.int .i64 r30.1.Epoch)), .c (.val (.int .i64 r30.1.Id)), .c (.val (.int .i64 r30.1.Len)), .c (.sl (List.map cI64 r30.1.Vector)), .c (.val (.int .i64 r30.1.Txn.Epoch)), .c (.val (.int .i64 r30.1.Txn.Id)), .c (.val (.int .i64 r30.1.Txn.Begin)), .c (.sl (List.map SRecord.cells r30.1.Txn.Records)), .c (.sl (List.map cI64 r30.1.Txn.Vector)), .c (.val (.int .i64 r30.1.Done)), .c (.val (.int .i64 r30.1.Left))] 30), (3, .box [.c (.val (.int .i64 r30.2.Kind)), .c (.val (.int .i64 r30.2.Id)), .c (.val (.int .i64 r30.2.Begin)), .c (.val (.int .i64 r30.2.Txn.Epoch)), .c (.val (.int .i64 r30.2.Txn.Id)), .c (.val (.int .i64 r30.2.Txn.Begin)), .c (.sl (List.map SRecord.cells r30.2.Txn.Records)), .c (.sl (List.map cI64 r30.2.Txn.Vector))] 48)], 4⟩ ?_ ?_
            ·skip
             simp only [EVB, eqF, Op.operands, IntKind.bits, descF, sizeF, bytesF, zeroF, seval, reduceCtorEq, ↓reduceIte]
             refine CallD.fresh Cr29.toO rfl (by first | rfl | (simp only [NM]; done)) (by (repeat' apply And.intro) <;> first | trivial | rfl | omega | (simp only [NM]; omega)) (.inl rfl) ?_
             try simp only [EVB, eqF, Op.operands, IntKind.bits, descF, sizeF, bytesF, zeroF, seval, reduceCtorEq, ↓reduceIte]
             refine CallD.fresh Cr30.toO rfl (by first | rfl | (simp only [NM]; done)) (by (repeat' apply And.intro) <;> first | trivial | rfl | omega | (simp only [NM]; omega)) (.inl rfl) ?_
             try simp only [EVB, eqF, Op.operands, IntKind.bits, descF, sizeF, bytesF, zeroF, seval, reduceCtorEq, ↓reduceIte]
             refine ⟨by kernel_rfl, ?_⟩
             exact Weak.sub' ⟨rfl, rfl, rfl, rfl, rfl, rfl, rfl, trivial⟩ ⟨rfl, rfl, rfl, rfl, trivial⟩ (Nat.le_of_ble_eq_true rfl)
            ·skip
             refine go_seq ?_
             refine go_seq ?_
             refine go_regionJ hR ⟨[(3, .ptr 0 0), (6, .ptr 1 0), (7, .ptr 2 0), (8, .ptr 3 0), (18, .c (.sl (List.map Spontoonlaw19_Come.cells a0))), (19, .c (.val (.int .i64 ((a0.length : Nat) : Int)))), (20, .c (.val (.int .i64 ((x15 : Nat) : Int)))), (44, .c (.val (.bool ((decide (r30.1.Len < x19)) || (!(pontoonref15_Above r30.1.Vector x20))))))], [(0, .box [.c (.val (.int .i64 x16)), .c (.val (.int .i64 x17)), .c (.val (.int .i64 x18)), .c (.val (.int .i64 x19)), .c (.sl (List.map cI64 x20)), .c (.val (.int .i64 x21)), .c (.val (.int .i64 x22)), .c (.val (.int .i64 x23)), .c (.sl (List.map SRecord.cells x24)), .c (.sl (List.map cI64 x25)), .c (.val (.int .i64 x26)), .c (.val (.int .i64 x27))] 30), (1, .box [.c (.val (.int .i64 ((List.getD a0 x15 default).Do))), .c (.val (.bool ((List.getD a0 x15 default).Own))), .c (.val (.int .i64 ((List.getD a0 x15 default).Id))), .c (.val (.int .i64 (((List.getD a0 x15 default).Manifest).Epoch))), .c (.val (.int .i64 (((List.getD a0 x15 default).Manifest).Id))), .c (.sl (List.map cI64 (((List.getD a0 x15 default).Manifest).Vector))), .c (.val (.int .i64 (((List.getD a0 x15 default).Manifest).Out))), .c (.val (.int .i64 (((List.getD a0 x15 default).Manifest).Begin))), .c (.sl (List.map SRecord.cells (((List.getD a0 x15 default).Manifest).Records))), .c (.sl (List.map SPiece.cells (((List.getD a0 x15 default).Manifest).Pieces))), .c (.val (.int .u32 (((List.getD a0 x15 default).Manifest).Graph))), .c (.val (.int .i64 ((List.getD a0 x15 default).Kind))), .c (.val (.int .i64 (((List.getD a0 x15 default).Key).Epoch))), .c (.val (.int .i64 (((List.getD a0 x15 default).Key).Id))), .c (.val (.int .i64 ((List.getD a0 x15 default).Err))), .c (.val (.int .i64 ((List.getD a0 x15 default).Len))), .c (.sl (List.map cI64 ((List.getD a0 x15 default).Vector)))] 45), (2, .box [.c (.val (.int .i64 r30.1.Phase)), .c (.val (.int .i64 r30.1.Epoch)), .c (.val (.int .i64 r30.1.Id)), .c (.val (.int .i64 r30.1.Len)), .c (.sl (List.map cI64 r30.1.Vector)), .c (.val (.int .i64 r30.1.Txn.Epoch)), .c (.val (.int .i64 r30.1.Txn.Id)), .c (.val (.int .i64 r30.1.Txn.Begin)), .c (.sl (List.map SRecord.cells r30.1.Txn.Records)), .c (.sl (List.map cI64 r30.1.Txn.Vector)), .c (.val (.int .i64 r30.1.Done)), .c (.val (.int .i64 r30.1.Left))] 30), (3, .box [.c (.val (.int .i64 r30.2.Kind)), .c (.val (.int .i64 r30.2.Id)), .c (.val (.int .i64 r30.2.Begin)), .c (.val (.int .i64 r30.2.Txn.Epoch)), .c (.val (.int .i64 r30.2.Txn.Id)), .c (.val (.int .i64 r30.2.Txn.Begin)), .c (.sl (List.map SRecord.cells r30.2.Txn.Records)), .c (.sl (List.map cI64 r30.2.Txn.Vector))] 48)], 4⟩ ?_ ?_
             ·skip
              rcases Bool.eq_false_or_eq_true (decide (r30.1.Len < x19)) with h31 | h31
              ·simp only [h31, EVB, eqF, Op.operands, IntKind.bits, descF, sizeF, bytesF, zeroF, seval, reduceCtorEq, ↓reduceIte]
               try simp only [h31, BM]
               exact Weak.sub' ⟨rfl, rfl, rfl, rfl, rfl, rfl, rfl, rfl, trivial⟩ ⟨rfl, rfl, rfl, rfl, trivial⟩ (Nat.le_of_ble_eq_true rfl)
              ·simp only [h31, EVB, eqF, Op.operands, IntKind.bits, descF, sizeF, bytesF, zeroF, seval, reduceCtorEq, ↓reduceIte]
               refine CallK.freshE (pontoonref15_Above_t r30.1.Vector x20).toO rfl (by first | rfl | (simp only [NM]; done)) (by (repeat' apply And.intro) <;> first | trivial | rfl | omega | (simp only [NM]; omega)) (.inl rfl) (by exact Nat.le_of_ble_eq_true rfl) ?_
               try simp only [h31, EVB, eqF, Op.operands, IntKind.bits, descF, sizeF, bytesF, zeroF, seval, reduceCtorEq, ↓reduceIte]
               try simp only [h31, BM]
               exact Weak.sub' ⟨rfl, rfl, rfl, rfl, rfl, rfl, rfl, rfl, trivial⟩ ⟨rfl, rfl, rfl, rfl, trivial⟩ (Nat.le_of_ble_eq_true rfl)
             ·skip
              refine go_cond (by rfl) (fun h32 => ?_) (fun h32 => ?_)
              ·have gh32 := h32
               try simp only [GN, beq_iff_eq, beq_eq_false_iff_ne, bne_iff_ne, bne_eq_false_iff_eq] at gh32
               simp only [h32, dite_true, dite_false, reduceDIte, Bool.false_eq_true] at hx1
               refine go_seq ?_
               refine go_regionJ hR ⟨[(2, .c (.val (.bool false)))], [], 4⟩ ?_ ?_
               ·skip
                simp only [EVB, eqF, Op.operands, IntKind.bits, descF, sizeF, bytesF, zeroF, seval, reduceCtorEq, ↓reduceIte]
                exact Weak.sub' ⟨rfl, trivial⟩ trivial (Nat.le_of_ble_eq_true rfl)
               ·skip
                subst hx1
                simp only [Sum.elim_inl] at hx0
                subst hx0
                refine go_return ttOk (fun _ h => h) rfl ?_ ?_
                ·exact (by (repeat' apply And.intro) <;> first | trivial | exact Nat.le_of_ble_eq_true rfl | omega | (simp only [NM]; omega))
                ·first | rfl | (simp only [NM, CELLS] <;> rfl)
              ·have gh32 := h32
               try simp only [GN, beq_iff_eq, beq_eq_false_iff_ne, bne_iff_ne, bne_eq_false_iff_eq] at gh32
               simp only [h32, dite_true, dite_false, reduceDIte, Bool.false_eq_true] at hx1
               refine go_skip ?_
               refine go_seq ?_
               refine go_seq ?_
               refine go_regionJ hR ⟨[(3, .ptr 0 0), (7, .ptr 2 0), (18, .c (.sl (List.map Spontoonlaw19_Come.cells a0))), (19, .c (.val (.int .i64 ((a0.length : Nat) : Int)))), (20, .c (.val (.int .i64 ((x15 : Nat) : Int)))), (74, .c (.val (.bool (((r30.2.Kind == 3) && ((List.getD a0 x15 default).Do != 4)) && ((!(pontoonref15_Above r30.2.Txn.Vector x20)) || (decide ((IntKind.i64.wrap (r30.2.Txn.Begin + ((r30.2.Txn.Records.length : Nat) : Int))) < x19)))))))], [(0, .box [.c (.val (.int .i64 x16)), .c (.val (.int .i64 x17)), .c (.val (.int .i64 x18)), .c (.val (.int .i64 x19)), .c (.sl (List.map cI64 x20)), .c (.val (.int .i64 x21)), .c (.val (.int .i64 x22)), .c (.val (.int .i64 x23)), .c (.sl (List.map SRecord.cells x24)), .c (.sl (List.map cI64 x25)), .c (.val (.int .i64 x26)), .c (.val (.int .i64 x27))] 30), (2, .box [.c (.val (.int .i64 r30.1.Phase)), .c (.val (.int .i64 r30.1.Epoch)), .c (.val (.int .i64 r30.1.Id)), .c (.val (.int .i64 r30.1.Len)), .c (.sl (List.map cI64 r30.1.Vector)), .c (.val (.int .i64 r30.1.Txn.Epoch)), .c (.val (.int .i64 r30.1.Txn.Id)), .c (.val (.int .i64 r30.1.Txn.Begin)), .c (.sl (List.map SRecord.cells r30.1.Txn.Records)), .c (.sl (List.map cI64 r30.1.Txn.Vector)), .c (.val (.int .i64 r30.1.Done)), .c (.val (.int .i64 r30.1.Left))] 30)], 4⟩ ?_ ?_
               ·skip
                rcases Bool.eq_false_or_eq_true (r30.2.Kind == 3) with h33 | h33
                ·rcases Bool.eq_false_or_eq_true ((List.getD a0 x15 default).Do != 4) with h34 | h34
                 ·rcases Bool.eq_false_or_eq_true (!(pontoonref15_Above r30.2.Txn.Vector x20)) with h35 | h35
                  ·simp (maxSteps := 4000000) only [h33, h34, h35, EVB, eqF, Op.operands, IntKind.bits, descF, sizeF, bytesF, zeroF, seval, reduceCtorEq, ↓reduceIte]
                   refine CallK.freshE (pontoonref15_Above_t r30.2.Txn.Vector x20).toO rfl (by first | rfl | (simp only [NM]; done)) (by (repeat' apply And.intro) <;> first | trivial | rfl | omega | (simp only [NM]; omega)) (.inl rfl) (by exact Nat.le_of_ble_eq_true rfl) ?_
                   try simp (maxSteps := 4000000) only [h33, h34, h35, EVB, eqF, Op.operands, IntKind.bits, descF, sizeF, bytesF, zeroF, seval, reduceCtorEq, ↓reduceIte]
                   try simp only [h33, h34, h35, BM]
                   exact Weak.sub' ⟨rfl, rfl, rfl, rfl, rfl, rfl, trivial⟩ ⟨rfl, rfl, trivial⟩ (Nat.le_of_ble_eq_true rfl)
                  ·simp (maxSteps := 4000000) only [h33, h34, h35, EVB, eqF, Op.operands, IntKind.bits, descF, sizeF, bytesF, zeroF, seval, reduceCtorEq, ↓reduceIte]
                   refine CallK.freshE (pontoonref15_Above_t r30.2.Txn.Vector x20).toO rfl (by first | rfl | (simp only [NM]; done)) (by (repeat' apply And.intro) <;> first | trivial | rfl | omega | (simp only [NM]; omega)) (.inl rfl) (by exact Nat.le_of_ble_eq_true rfl) ?_
                   try simp (maxSteps := 4000000) only [h33, h34, h35, EVB, eqF, Op.operands, IntKind.bits, descF, sizeF, bytesF, zeroF, seval, reduceCtorEq, ↓reduceIte]
                   try simp only [h33, h34, h35, BM]
                   exact Weak.sub' ⟨rfl, rfl, rfl, rfl, rfl, rfl, trivial⟩ ⟨rfl, rfl, trivial⟩ (Nat.le_of_ble_eq_true rfl)
                 ·simp (maxSteps := 4000000) only [h33, h34, EVB, eqF, Op.operands, IntKind.bits, descF, sizeF, bytesF, zeroF, seval, reduceCtorEq, ↓reduceIte]
                  try simp only [h33, h34, BM]
                  exact Weak.sub' ⟨rfl, rfl, rfl, rfl, rfl, rfl, trivial⟩ ⟨rfl, rfl, trivial⟩ (Nat.le_of_ble_eq_true rfl)
                ·simp (maxSteps := 4000000) only [h33, EVB, eqF, Op.operands, IntKind.bits, descF, sizeF, bytesF, zeroF, seval, reduceCtorEq, ↓reduceIte]
                 try simp only [h33, BM]
                 exact Weak.sub' ⟨rfl, rfl, rfl, rfl, rfl, rfl, trivial⟩ ⟨rfl, rfl, trivial⟩ (Nat.le_of_ble_eq_true rfl)
               ·skip
                refine go_cond (by rfl) (fun h36 => ?_) (fun h36 => ?_)
                ·have gh36 := h36
                 try simp only [GN, beq_iff_eq, beq_eq_false_iff_ne, bne_iff_ne, bne_eq_false_iff_eq] at gh36
                 simp only [h36, dite_true, dite_false, reduceDIte, Bool.false_eq_true] at hx1
                 refine go_seq ?_
                 refine go_regionJ hR ⟨[(2, .c (.val (.bool false)))], [], 4⟩ ?_ ?_
                 ·skip
                  simp only [EVB, eqF, Op.operands, IntKind.bits, descF, sizeF, bytesF, zeroF, seval, reduceCtorEq, ↓reduceIte]
                  exact Weak.sub' ⟨rfl, trivial⟩ trivial (Nat.le_of_ble_eq_true rfl)
                 ·skip
                  subst hx1
                  simp only [Sum.elim_inl] at hx0
                  subst hx0
                  refine go_return ttOk (fun _ h => h) rfl ?_ ?_
                  ·exact (by (repeat' apply And.intro) <;> first | trivial | exact Nat.le_of_ble_eq_true rfl | omega | (simp only [NM]; omega))
                  ·first | rfl | (simp only [NM, CELLS] <;> rfl)
                ·have gh36 := h36
                 try simp only [GN, beq_iff_eq, beq_eq_false_iff_ne, bne_iff_ne, bne_eq_false_iff_eq] at gh36
                 simp only [h36, dite_true, dite_false, reduceDIte, Bool.false_eq_true] at hx1
                 refine go_skip ?_
                 refine go_regionJ hR ⟨[(3, .ptr 0 0), (18, .c (.sl (List.map Spontoonlaw19_Come.cells a0))), (19, .c (.val (.int .i64 ((a0.length : Nat) : Int)))), (20, .c (.val (.int .i64 ((x15 : Nat) : Int))))], [(0, .box [.c (.val (.int .i64 r30.1.Phase)), .c (.val (.int .i64 r30.1.Epoch)), .c (.val (.int .i64 r30.1.Id)), .c (.val (.int .i64 r30.1.Len)), .c (.sl (List.map cI64 r30.1.Vector)), .c (.val (.int .i64 r30.1.Txn.Epoch)), .c (.val (.int .i64 r30.1.Txn.Id)), .c (.val (.int .i64 r30.1.Txn.Begin)), .c (.sl (List.map SRecord.cells r30.1.Txn.Records)), .c (.sl (List.map cI64 r30.1.Txn.Vector)), .c (.val (.int .i64 r30.1.Done)), .c (.val (.int .i64 r30.1.Left))] 30)], 4⟩ ?_ ?_
                 ·skip
                  simp only [EVB, eqF, Op.operands, IntKind.bits, descF, sizeF, bytesF, zeroF, seval, reduceCtorEq, ↓reduceIte]
                  exact Weak.sub' ⟨rfl, rfl, rfl, rfl, trivial⟩ ⟨rfl, trivial⟩ (Nat.le_of_ble_eq_true rfl)
                 ·skip
                  refine go_blk ?_
                  refine go_regionJ hR ⟨[(3, .ptr 0 0), (18, .c (.sl (List.map Spontoonlaw19_Come.cells a0))), (19, .c (.val (.int .i64 ((a0.length : Nat) : Int)))), (20, .c (.val (.int .i64 ((x15 + 1 : Nat) : Int))))], [(0, .box [.c (.val (.int .i64 r30.1.Phase)), .c (.val (.int .i64 r30.1.Epoch)), .c (.val (.int .i64 r30.1.Id)), .c (.val (.int .i64 r30.1.Len)), .c (.sl (List.map cI64 r30.1.Vector)), .c (.val (.int .i64 r30.1.Txn.Epoch)), .c (.val (.int .i64 r30.1.Txn.Id)), .c (.val (.int .i64 r30.1.Txn.Begin)), .c (.sl (List.map SRecord.cells r30.1.Txn.Records)), .c (.sl (List.map cI64 r30.1.Txn.Vector)), .c (.val (.int .i64 r30.1.Done)), .c (.val (.int .i64 r30.1.Left))] 30)], 4⟩ ?_ ?_
                  ·skip
                   have w62 : IntKind.i64.wrap (((x15 : Nat) : Int) + 1) = ((x15 + 1 : Nat) : Int) := by rw [IntKind.wrap_i64]; omega
                   simp only [w62, EVB, eqF, Op.operands, IntKind.bits, descF, sizeF, bytesF, zeroF, seval, reduceCtorEq, ↓reduceIte, CELLS]
                   exact Weak.sub' ⟨rfl, rfl, rfl, rfl, trivial⟩ ⟨rfl, trivial⟩ (Nat.le_of_ble_eq_true rfl)
                  ·skip
                   exact go_fin ⟨(x15 + 1, r30.1.Phase, r30.1.Epoch, r30.1.Id, r30.1.Len, r30.1.Vector, r30.1.Txn.Epoch, r30.1.Txn.Id, r30.1.Txn.Begin, r30.1.Txn.Records, r30.1.Txn.Vector, r30.1.Done, r30.1.Left), ⟨(by (try dsimp only); (repeat' apply And.intro) <;> first | trivial | omega | assumption | (simp; done)), hx1⟩, by (try dsimp only); omega, (Weak.canon [0] [3, 18, 19, 20] (by decide) rfl (by simp) rfl (by simp) (by first | rfl | (simp only [NM, CELLS] <;> rfl) | simp [NM, CELLS]) (by first | rfl | (simp only [NM, CELLS] <;> rfl) | simp [NM, CELLS]) rfl)⟩
          ·have gh28 := h28
           try simp only [GN, beq_iff_eq, beq_eq_false_iff_ne, bne_iff_ne, bne_eq_false_iff_eq] at gh28
           simp only [h28, dite_true, dite_false, reduceDIte, Bool.false_eq_true] at hx1
           refine go_exit rfl ?_
           exact go_fin ⟨(), hx1.symm, (Weak.canon [] [] (by decide) rfl trivial rfl (by simp) (by first | rfl | (simp only [NM, CELLS] <;> rfl) | simp [NM, CELLS]) rfl rfl)⟩
        ·rintro o4 hp
         try dsimp only at hp
         subst hp
         simp only [Sum.elim_inr] at hx0
         refine go_seq ?_
         refine go_regionJ hR ⟨[(2, .c (.val (.bool true)))], [], 0⟩ ?_ ?_
         ·skip
          simp only [EVB, eqF, Op.operands, IntKind.bits, descF, sizeF, bytesF, zeroF, seval, reduceCtorEq, ↓reduceIte]
          exact Weak.sub' ⟨rfl, trivial⟩ trivial (Nat.le_of_ble_eq_true rfl)
         ·skip
          subst hx0
          refine go_return ttOk (fun _ h => h) rfl ?_ ?_
          ·exact (by (repeat' apply And.intro) <;> first | trivial | exact Nat.le_of_ble_eq_true rfl | omega | (simp only [NM]; omega))
          ·first | rfl | (simp only [NM, CELLS] <;> rfl)

def pontoonlaw19_CoordTwice_L0 (a0 : (List Spontoonlaw19_Come)) (x16 : Nat) (x17 : Int) (x18 : Int) (x19 : Int) (x20 : Int) (x21 : List Int) (x22 : Int) (x23 : Int) (x24 : Int) (x25 : List SRecord) (x26 : List Int) (x27 : Int) (x28 : Int) : Sum Bool Unit :=
  (if h29 : (decide (((x16 : Nat) : Int) < ((a0.length : Nat) : Int))) = true then letIn (pontoonlaw19_owned (SCoord.mk x17 x18 x19 x20 x21 (STxn.mk x22 x23 x24 x25 x26) x27 x28) (Spontoonlaw19_Come.mk ((List.getD a0 x16 default).Do) ((List.getD a0 x16 default).Own) ((List.getD a0 x16 default).Id) ((List.getD a0 x16 default).Manifest) ((List.getD a0 x16 default).Kind) ((List.getD a0 x16 default).Key) ((List.getD a0 x16 default).Err) ((List.getD a0 x16 default).Len) ((List.getD a0 x16 default).Vector))) fun r30 => letIn (pontoonlaw19_does (SCoord.mk x17 x18 x19 x20 x21 (STxn.mk x22 x23 x24 x25 x26) x27 x28) r30) fun r31 => letIn ((if h35 : (((r30.Do == 4) && (r31.2.Kind != 0)) && (r31.2.Kind != 3)) = true then letIn (pontoonlaw19_does r31.1 r30) fun r36 => (if h38 : ((r36.2.Kind != 0) || (!(pontoonref19_Same r36.1 r31.1))) = true then (Sum.inl false) else (Sum.inr ())) else (Sum.inr ()))) fun o34s => Sum.elim (fun q => Sum.inl q) (fun o34 => (pontoonlaw19_CoordTwice_L0 a0 (x16 + 1) r31.1.Phase r31.1.Epoch r31.1.Id r31.1.Len r31.1.Vector r31.1.Txn.Epoch r31.1.Txn.Id r31.1.Txn.Begin r31.1.Txn.Records r31.1.Txn.Vector r31.1.Done r31.1.Left)) o34s else (Sum.inr ()))
termination_by a0.length - x16
decreasing_by all_goals (try simp only [GN, beq_iff_eq, beq_eq_false_iff_ne, bne_iff_ne, bne_eq_false_iff_eq] at *) <;> omega
def pontoonlaw19_CoordTwice (a0 : (List Spontoonlaw19_Come)) : Bool :=
  (bif (!pontoonlaw19_live) then false else letIn (coord_New 2 0 0 [0, 0]) fun r2 => (bif (r2.2 != 0) then false else letIn (pontoonlaw19_CoordTwice_L0 a0 0 r2.1.Phase r2.1.Epoch r2.1.Id r2.1.Len r2.1.Vector r2.1.Txn.Epoch r2.1.Txn.Id r2.1.Txn.Begin r2.1.Txn.Records r2.1.Txn.Vector r2.1.Done r2.1.Left) fun o4s => Sum.elim (fun q => q) (fun o4 => true) o4s))
set_option maxRecDepth 10000 in
set_option maxHeartbeats 8000000 in
theorem pontoonlaw19_CoordTwice_t (a0 : (List Spontoonlaw19_Come)) (z0 : (a0.length ≤ 4294967296 ∧ ∀ y ∈ a0, Spontoonlaw19_Come.Sz y)) : FnP Try.prog 6 [.c (.sl (List.map Spontoonlaw19_Come.cells a0))] (.c (.val (.bool (pontoonlaw19_CoordTwice a0)))) := by
 refine FnP.intro (tt := tt) Try.func6 rfl (by kernel_rfl) (by simp [Try.ntmps6]) fun w0 A hA => ?_
 have hR := reckB_ok eqOk ttOk
 obtain ⟨res, hx0⟩ : ∃ r, pontoonlaw19_CoordTwice a0 = r := ⟨_, rfl⟩
 simp only [hx0]
 unfold pontoonlaw19_CoordTwice at hx0
 simp only [argT, Try.ntmps6]
 try simp only [SZD] at z0
 obtain ⟨zz39, zz40⟩ := z0
 refine go_seq ?_
 refine go_regionJ hR ⟨[(0, .c (.sl (List.map Spontoonlaw19_Come.cells a0)))], [], 0⟩ ?_ ?_
 ·skip
  simp only [EVB, eqF, Op.operands, IntKind.bits, descF, sizeF, bytesF, zeroF, seval, reduceCtorEq, ↓reduceIte]
  exact Weak.sub' ⟨rfl, trivial⟩ trivial (Nat.le_of_ble_eq_true rfl)
 ·skip
  refine go_seq ?_
  refine go_seq ?_
  refine go_regionJ hR ⟨[(0, .c (.sl (List.map Spontoonlaw19_Come.cells a0))), (12, .c (.val (.bool (!pontoonlaw19_live))))], [], 0⟩ ?_ ?_
  ·skip
   simp only [EVB, eqF, Op.operands, IntKind.bits, descF, sizeF, bytesF, zeroF, seval, reduceCtorEq, ↓reduceIte]
   refine CallK.freshE pontoonlaw19_live_t.toO rfl (by first | rfl | (simp only [NM]; done)) (by (repeat' apply And.intro) <;> first | trivial | rfl | omega | (simp only [NM]; omega)) (.inl rfl) (by exact Nat.le_of_ble_eq_true rfl) ?_
   try simp only [EVB, eqF, Op.operands, IntKind.bits, descF, sizeF, bytesF, zeroF, seval, reduceCtorEq, ↓reduceIte]
   exact Weak.sub' ⟨rfl, rfl, trivial⟩ trivial (Nat.le_of_ble_eq_true rfl)
  ·skip
   refine go_cond (by rfl) (fun h1 => ?_) (fun h1 => ?_)
   ·have gh1 := h1
    try simp only [GN, beq_iff_eq, beq_eq_false_iff_ne, bne_iff_ne, bne_eq_false_iff_eq] at gh1
    simp only [h1, cond_true, cond_false] at hx0
    refine go_seq ?_
    refine go_regionJ hR ⟨[(2, .c (.val (.bool false)))], [], 0⟩ ?_ ?_
    ·skip
     simp only [EVB, eqF, Op.operands, IntKind.bits, descF, sizeF, bytesF, zeroF, seval, reduceCtorEq, ↓reduceIte]
     exact Weak.sub' ⟨rfl, trivial⟩ trivial (Nat.le_of_ble_eq_true rfl)
    ·skip
     subst hx0
     refine go_return ttOk (fun _ h => h) rfl ?_ ?_
     ·exact (by (repeat' apply And.intro) <;> first | trivial | exact Nat.le_of_ble_eq_true rfl | omega | (simp only [NM]; omega))
     ·first | rfl | (simp only [NM, CELLS] <;> rfl)
   ·have gh1 := h1
    try simp only [GN, beq_iff_eq, beq_eq_false_iff_ne, bne_iff_ne, bne_eq_false_iff_eq] at gh1
    simp only [h1, cond_true, cond_false] at hx0
    refine go_skip ?_
    refine go_seq ?_
    obtain ⟨r2, hr2, hx0⟩ := letIn_ex hx0
    have Cr2 := (coord_New_t 2 0 0 [0, 0] (by (try simp only [SZD]); (repeat' apply And.intro) <;> first | assumption | omega | simp_all))
    simp only [hr2] at Cr2
    have zr2 := coord_New_sz 2 0 0 [0, 0] (by (try simp only [SZD]); (repeat' apply And.intro) <;> first | assumption | omega | simp_all)
    simp only [hr2, SZD] at zr2
    obtain ⟨zz41, ⟨zz42, zz43⟩⟩ := zr2
    refine go_regionJ hR ⟨[(0, .c (.sl (List.map Spontoonlaw19_Come.cells a0))), (3, .ptr 1 0), (4, .c (.val (.int .i64 r2.2)))], [(1, .box [.c (.val (.int .i64 r2.1.Phase)), .c (.val (.int .i64 r2.1.Epoch)), .c (.val (.int .i64 r2.1.Id)), .c (.val (.int .i64 r2.1.Len)), .c (.sl (List.map cI64 r2.1.Vector)), .c (.val (.int .i64 r2.1.Txn.Epoch)), .c (.val (.int .i64 r2.1.Txn.Id)), .c (.val (.int .i64 r2.1.Txn.Begin)), .c (.sl (List.map SRecord.cells r2.1.Txn.Records)), .c (.sl (List.map cI64 r2.1.Txn.Vector)), .c (.val (.int .i64 r2.1.Done)), .c (.val (.int .i64 r2.1.Left))] 30)], 2⟩ ?_ ?_
    ·skip
     simp only [EVB, eqF, Op.operands, IntKind.bits, descF, sizeF, bytesF, zeroF, seval, reduceCtorEq, ↓reduceIte]
     refine ⟨(by (repeat' apply And.intro) <;> first | trivial | rfl | exact Nat.le_of_ble_eq_true rfl | omega | (intro u hu; obtain ⟨x, _, rfl⟩ := List.mem_map.1 hu; rfl) | (intro u hu; simp only [List.mem_cons, List.not_mem_nil, or_false] at hu; subst hu; rfl) | (simp only [NM]; omega) | (simp; done)), ?_⟩
     refine CallK.close 0 rfl rfl (by (repeat' apply And.intro) <;> first | trivial | rfl | exact Nat.le_of_ble_eq_true rfl | omega | (intro u hu; obtain ⟨x, _, rfl⟩ := List.mem_map.1 hu; rfl) | (intro u hu; simp only [List.mem_cons, List.not_mem_nil, or_false] at hu; subst hu; rfl) | (simp only [NM]; omega) | (simp; done)) ?_
     refine CallK.freshE Cr2.toO rfl (by first | rfl | (simp only [NM]; done)) (by (repeat' apply And.intro) <;> first | trivial | rfl | omega | (simp only [NM]; omega)) (.inl rfl) (by exact Nat.le_of_ble_eq_true rfl) ?_
     try simp only [EVB, eqF, Op.operands, IntKind.bits, descF, sizeF, bytesF, zeroF, seval, reduceCtorEq, ↓reduceIte]
     try simp only [BM, NM, CELLS]
     exact Weak.sub' ⟨rfl, rfl, rfl, trivial⟩ ⟨rfl, trivial⟩ (Nat.le_of_ble_eq_true rfl)
    ·skip
     refine go_seq ?_
     refine go_seq ?_
     refine go_regionJ hR ⟨[(0, .c (.sl (List.map Spontoonlaw19_Come.cells a0))), (3, .ptr 1 0), (19, .c (.val (.bool (r2.2 != 0))))], [(1, .box [.c (.val (.int .i64 r2.1.Phase)), .c (.val (.int .i64 r2.1.Epoch)), .c (.val (.int .i64 r2.1.Id)), .c (.val (.int .i64 r2.1.Len)), .c (.sl (List.map cI64 r2.1.Vector)), .c (.val (.int .i64 r2.1.Txn.Epoch)), .c (.val (.int .i64 r2.1.Txn.Id)), .c (.val (.int .i64 r2.1.Txn.Begin)), .c (.sl (List.map SRecord.cells r2.1.Txn.Records)), .c (.sl (List.map cI64 r2.1.Txn.Vector)), .c (.val (.int .i64 r2.1.Done)), .c (.val (.int .i64 r2.1.Left))] 30)], 2⟩ ?_ ?_
     ·skip
      simp only [EVB, eqF, Op.operands, IntKind.bits, descF, sizeF, bytesF, zeroF, seval, reduceCtorEq, ↓reduceIte]
      exact Weak.sub' ⟨rfl, rfl, rfl, trivial⟩ ⟨rfl, trivial⟩ (Nat.le_of_ble_eq_true rfl)
     ·skip
      refine go_cond (by rfl) (fun h3 => ?_) (fun h3 => ?_)
      ·have gh3 := h3
       try simp only [GN, beq_iff_eq, beq_eq_false_iff_ne, bne_iff_ne, bne_eq_false_iff_eq] at gh3
       simp only [h3, cond_true, cond_false] at hx0
       refine go_seq ?_
       refine go_regionJ hR ⟨[(2, .c (.val (.bool false)))], [], 2⟩ ?_ ?_
       ·skip
        simp only [EVB, eqF, Op.operands, IntKind.bits, descF, sizeF, bytesF, zeroF, seval, reduceCtorEq, ↓reduceIte]
        exact Weak.sub' ⟨rfl, trivial⟩ trivial (Nat.le_of_ble_eq_true rfl)
       ·skip
        subst hx0
        refine go_return ttOk (fun _ h => h) rfl ?_ ?_
        ·exact (by (repeat' apply And.intro) <;> first | trivial | exact Nat.le_of_ble_eq_true rfl | omega | (simp only [NM]; omega))
        ·first | rfl | (simp only [NM, CELLS] <;> rfl)
      ·have gh3 := h3
       try simp only [GN, beq_iff_eq, beq_eq_false_iff_ne, bne_iff_ne, bne_eq_false_iff_eq] at gh3
       simp only [h3, cond_true, cond_false] at hx0
       refine go_skip ?_
       refine go_seq ?_
       refine go_seq ?_
       refine go_regionJ hR ⟨[(3, .ptr 1 0), (20, .c (.sl (List.map Spontoonlaw19_Come.cells a0))), (21, .c (.val (.int .i64 ((a0.length : Nat) : Int)))), (22, .c (.val (.int .i64 0)))], [(1, .box [.c (.val (.int .i64 r2.1.Phase)), .c (.val (.int .i64 r2.1.Epoch)), .c (.val (.int .i64 r2.1.Id)), .c (.val (.int .i64 r2.1.Len)), .c (.sl (List.map cI64 r2.1.Vector)), .c (.val (.int .i64 r2.1.Txn.Epoch)), .c (.val (.int .i64 r2.1.Txn.Id)), .c (.val (.int .i64 r2.1.Txn.Begin)), .c (.sl (List.map SRecord.cells r2.1.Txn.Records)), .c (.sl (List.map cI64 r2.1.Txn.Vector)), .c (.val (.int .i64 r2.1.Done)), .c (.val (.int .i64 r2.1.Left))] 30)], 2⟩ ?_ ?_
       ·skip
        simp only [EVB, eqF, Op.operands, IntKind.bits, descF, sizeF, bytesF, zeroF, seval, reduceCtorEq, ↓reduceIte]
        exact Weak.sub' ⟨rfl, rfl, rfl, rfl, trivial⟩ ⟨rfl, trivial⟩ (Nat.le_of_ble_eq_true rfl)
       ·skip
        obtain ⟨o4s, hx1, hx0⟩ := letIn_ex hx0
        refine go_joinE (fun p : Unit => ⟨[], [], 0⟩) (fun p : Unit => o4s = Sum.inr p) ?_ ?_
        ·refine go_block ?_
         refine go_len (t := 20) rfl (fun hl44 => ?_)
         simp only [List.length_map, maxLen_eq] at hl44
         refine go_loop (fun p : Nat × Int × Int × Int × Int × (List Int) × Int × Int × Int × (List SRecord) × (List Int) × Int × Int => ⟨[(3, .ptr 0 0), (20, .c (.sl (List.map Spontoonlaw19_Come.cells a0))), (21, .c (.val (.int .i64 ((a0.length : Nat) : Int)))), (22, .c (.val (.int .i64 ((p.1 : Nat) : Int))))], [(0, .box [.c (.val (.int .i64 p.2.1)), .c (.val (.int .i64 p.2.2.1)), .c (.val (.int .i64 p.2.2.2.1)), .c (.val (.int .i64 p.2.2.2.2.1)), .c (.sl (List.map cI64 p.2.2.2.2.2.1)), .c (.val (.int .i64 p.2.2.2.2.2.2.1)), .c (.val (.int .i64 p.2.2.2.2.2.2.2.1)), .c (.val (.int .i64 p.2.2.2.2.2.2.2.2.1)), .c (.sl (List.map SRecord.cells p.2.2.2.2.2.2.2.2.2.1)), .c (.sl (List.map cI64 p.2.2.2.2.2.2.2.2.2.2.1)), .c (.val (.int .i64 p.2.2.2.2.2.2.2.2.2.2.2.1)), .c (.val (.int .i64 p.2.2.2.2.2.2.2.2.2.2.2.2))] 30)], 1⟩) (fun p : Nat × Int × Int × Int × Int × (List Int) × Int × Int × Int × (List SRecord) × (List Int) × Int × Int => (p.1 ≤ a0.length ∧ p.2.2.2.2.2.1.length ≤ 4294967296 ∧ p.2.2.2.2.2.2.2.2.2.1.length ≤ 4294967296 ∧ p.2.2.2.2.2.2.2.2.2.2.1.length ≤ 4294967296) ∧ pontoonlaw19_CoordTwice_L0 a0 p.1 p.2.1 p.2.2.1 p.2.2.2.1 p.2.2.2.2.1 p.2.2.2.2.2.1 p.2.2.2.2.2.2.1 p.2.2.2.2.2.2.2.1 p.2.2.2.2.2.2.2.2.1 p.2.2.2.2.2.2.2.2.2.1 p.2.2.2.2.2.2.2.2.2.2.1 p.2.2.2.2.2.2.2.2.2.2.2.1 p.2.2.2.2.2.2.2.2.2.2.2.2 = o4s) (fun p : Nat × Int × Int × Int × Int × (List Int) × Int × Int × Int × (List SRecord) × (List Int) × Int × Int => a0.length - p.1) (0, r2.1.Phase, r2.1.Epoch, r2.1.Id, r2.1.Len, r2.1.Vector, r2.1.Txn.Epoch, r2.1.Txn.Id, r2.1.Txn.Begin, r2.1.Txn.Records, r2.1.Txn.Vector, r2.1.Done, r2.1.Left) ⟨(by (try dsimp only); (repeat' apply And.intro) <;> first | trivial | omega | assumption | (simp; done)), hx1⟩ (Weak.canon [1] [3, 20, 21, 22] (by decide) rfl (by simp) rfl (by simp) (by first | rfl | (simp only [NM, CELLS] <;> rfl) | simp [NM, CELLS]) (by first | rfl | (simp only [NM, CELLS] <;> rfl) | simp [NM, CELLS]) rfl) ?_
         rintro ⟨x16, x17, x18, x19, x20, x21, x22, x23, x24, x25, x26, x27, x28⟩ ⟨⟨hi46, hi47, hi48, hi49⟩, hx1⟩
         try dsimp only at hi46 hi47 hi48 hi49 hx1 ⊢
         rw [pontoonlaw19_CoordTwice_L0.eq_def] at hx1
         refine go_seq ?_
         refine go_regionJ hR ⟨[(3, .ptr 0 0), (20, .c (.sl (List.map Spontoonlaw19_Come.cells a0))), (21, .c (.val (.int .i64 ((a0.length : Nat) : Int)))), (22, .c (.val (.int .i64 ((x16 : Nat) : Int)))), (23, .c (.val (.bool (decide (((x16 : Nat) : Int) < ((a0.length : Nat) : Int))))))], [(0, .box [.c (.val (.int .i64 x17)), .c (.val (.int .i64 x18)), .c (.val (.int .i64 x19)), .c (.val (.int .i64 x20)), .c (.sl (List.map cI64 x21)), .c (.val (.int .i64 x22)), .c (.val (.int .i64 x23)), .c (.val (.int .i64 x24)), .c (.sl (List.map SRecord.cells x25)), .c (.sl (List.map cI64 x26)), .c (.val (.int .i64 x27)), .c (.val (.int .i64 x28))] 30)], 1⟩ ?_ ?_
         ·skip
          simp only [EVB, eqF, Op.operands, IntKind.bits, descF, sizeF, bytesF, zeroF, seval, reduceCtorEq, ↓reduceIte]
          exact Weak.sub' ⟨rfl, rfl, rfl, rfl, rfl, trivial⟩ ⟨rfl, trivial⟩ (Nat.le_of_ble_eq_true rfl)
         ·skip
          refine go_seq ?_
          refine go_cond (by rfl) (fun h29 => ?_) (fun h29 => ?_)
          ·have gh29 := h29
           try simp only [GN, beq_iff_eq, beq_eq_false_iff_ne, bne_iff_ne, bne_eq_false_iff_eq] at gh29
           simp only [h29, dite_true, dite_false, reduceDIte, Bool.false_eq_true] at hx1
           refine go_skip ?_
           refine go_seq ?_
           refine go_block ?_
           refine go_seq ?_
           refine go_regionJ hR ⟨[(3, .ptr 0 0), (6, .ptr 1 0), (20, .c (.sl (List.map Spontoonlaw19_Come.cells a0))), (21, .c (.val (.int .i64 ((a0.length : Nat) : Int)))), (22, .c (.val (.int .i64 ((x16 : Nat) : Int))))], [(0, .box [.c (.val (.int .i64 x17)), .c (.val (.int .i64 x18)), .c (.val (.int .i64 x19)), .c (.val (.int .i64 x20)), .c (.sl (List.map cI64 x21)), .c (.val (.int .i64 x22)), .c (.val (.int .i64 x23)), .c (.val (.int .i64 x24)), .c (.sl (List.map SRecord.cells x25)), .c (.sl (List.map cI64 x26)), .c (.val (.int .i64 x27)), .c (.val (.int .i64 x28))] 30), (1, .box [.c (.val (.int .i64 ((List.getD a0 x16 default).Do))), .c (.val (.bool ((List.getD a0 x16 default).Own))), .c (.val (.int .i64 ((List.getD a0 x16 default).Id))), .c (.val (.int .i64 (((List.getD a0 x16 default).Manifest).Epoch))), .c (.val (.int .i64 (((List.getD a0 x16 default).Manifest).Id))), .c (.sl (List.map cI64 (((List.getD a0 x16 default).Manifest).Vector))), .c (.val (.int .i64 (((List.getD a0 x16 default).Manifest).Out))), .c (.val (.int .i64 (((List.getD a0 x16 default).Manifest).Begin))), .c (.sl (List.map SRecord.cells (((List.getD a0 x16 default).Manifest).Records))), .c (.sl (List.map SPiece.cells (((List.getD a0 x16 default).Manifest).Pieces))), .c (.val (.int .u32 (((List.getD a0 x16 default).Manifest).Graph))), .c (.val (.int .i64 ((List.getD a0 x16 default).Kind))), .c (.val (.int .i64 (((List.getD a0 x16 default).Key).Epoch))), .c (.val (.int .i64 (((List.getD a0 x16 default).Key).Id))), .c (.val (.int .i64 ((List.getD a0 x16 default).Err))), .c (.val (.int .i64 ((List.getD a0 x16 default).Len))), .c (.sl (List.map cI64 ((List.getD a0 x16 default).Vector)))] 45)], 2⟩ ?_ ?_
           ·skip
            have bq50 : x16 < a0.length := by omega
            have q50 := map_getD Spontoonlaw19_Come.cells a0 x16 default bq50
            have zq50 : (((((List.getD a0 x16 default).Manifest).Vector).length ≤ 4294967296 ∧ (((List.getD a0 x16 default).Manifest).Records).length ≤ 4294967296 ∧ (((List.getD a0 x16 default).Manifest).Pieces).length ≤ 4294967296) ∧ ((List.getD a0 x16 default).Vector).length ≤ 4294967296) := (by assumption : ∀ y ∈ a0, ((y.Manifest.Vector.length ≤ 4294967296 ∧ y.Manifest.Records.length ≤ 4294967296 ∧ y.Manifest.Pieces.length ≤ 4294967296) ∧ y.Vector.length ≤ 4294967296)) _ (getD_mem a0 x16 default bq50)
            obtain ⟨⟨zz51, zz52, zz53⟩, zz54⟩ := zq50
            simp only [q50, EVB, eqF, Op.operands, IntKind.bits, descF, sizeF, bytesF, zeroF, seval, reduceCtorEq, ↓reduceIte, CELLS]
            refine ⟨(by (repeat' apply And.intro) <;> first | trivial | rfl | exact Nat.le_of_ble_eq_true rfl | omega | (intro u hu; obtain ⟨x, _, rfl⟩ := List.mem_map.1 hu; rfl) | (intro u hu; simp only [List.mem_cons, List.not_mem_nil, or_false] at hu; subst hu; rfl) | (simp only [NM]; omega) | (simp; done)), ?_⟩
            exact Weak.sub' ⟨rfl, rfl, rfl, rfl, rfl, trivial⟩ ⟨rfl, rfl, trivial⟩ (Nat.le_of_ble_eq_true rfl)
           ·skip
            refine go_seq ?_
            obtain ⟨r30, hr30, hx1⟩ := letIn_ex hx1
            have Cr30 := (pontoonlaw19_owned_t (SCoord.mk x17 x18 x19 x20 x21 (STxn.mk x22 x23 x24 x25 x26) x27 x28) (Spontoonlaw19_Come.mk ((List.getD a0 x16 default).Do) ((List.getD a0 x16 default).Own) ((List.getD a0 x16 default).Id) ((List.getD a0 x16 default).Manifest) ((List.getD a0 x16 default).Kind) ((List.getD a0 x16 default).Key) ((List.getD a0 x16 default).Err) ((List.getD a0 x16 default).Len) ((List.getD a0 x16 default).Vector)))
            simp only [hr30] at Cr30
            have zr30 := pontoonlaw19_owned_sz (SCoord.mk x17 x18 x19 x20 x21 (STxn.mk x22 x23 x24 x25 x26) x27 x28) (Spontoonlaw19_Come.mk ((List.getD a0 x16 default).Do) ((List.getD a0 x16 default).Own) ((List.getD a0 x16 default).Id) ((List.getD a0 x16 default).Manifest) ((List.getD a0 x16 default).Kind) ((List.getD a0 x16 default).Key) ((List.getD a0 x16 default).Err) ((List.getD a0 x16 default).Len) ((List.getD a0 x16 default).Vector)) (by (try simp only [SZD]); (repeat' apply And.intro) <;> first | assumption | omega | simp_all) (by (try simp only [SZD]); (repeat' apply And.intro) <;> first | assumption | omega | simp_all)
            simp only [hr30, SZD] at zr30
            obtain ⟨⟨zz55, zz56, zz57⟩, zz58⟩ := zr30
            refine go_regionJ hR ⟨[(3, .ptr 0 0), (6, .ptr 1 0), (20, .c (.sl (List.map Spontoonlaw19_Come.cells a0))), (21, .c (.val (.int .i64 ((a0.length : Nat) : Int)))), (22, .c (.val (.int .i64 ((x16 : Nat) : Int))))], [(0, .box [.c (.val (.int .i64 x17)), .c (.val (.int .i64 x18)), .c (.val (.int .i64 x19)), .c (.val (.int .i64 x20)), .c (.sl (List.map cI64 x21)), .c (.val (.int .i64 x22)), .c (.val (.int .i64 x23)), .c (.val (.int .i64 x24)), .c (.sl (List.map SRecord.cells x25)), .c (.sl (List.map cI64 x26)), .c (.val (.int .i64 x27)), .c (.val (.int .i64 x28))] 30), (1, .box [.c (.val (.int .i64 r30.Do)), .c (.val (.bool r30.Own)), .c (.val (.int .i64 r30.Id)), .c (.val (.int .i64 r30.Manifest.Epoch)), .c (.val (.int .i64 r30.Manifest.Id)), .c (.sl (List.map cI64 r30.Manifest.Vector)), .c (.val (.int .i64 r30.Manifest.Out)), .c (.val (.int .i64 r30.Manifest.Begin)), .c (.sl (List.map SRecord.cells r30.Manifest.Records)), .c (.sl (List.map SPiece.cells r30.Manifest.Pieces)), .c (.val (.int .u32 r30.Manifest.Graph)), .c (.val (.int .i64 r30.Kind)), .c (.val (.int .i64 r30.Key.Epoch)), .c (.val (.int .i64 r30.Key.Id)), .c (.val (.int .i64 r30.Err)), .c (.val (.int .i64 r30.Len)), .c (.sl (List.map cI64 r30.Vector))] 45)], 2⟩ ?_ ?_
            ·skip
             simp only [EVB, eqF, Op.operands, IntKind.bits, descF, sizeF, bytesF, zeroF, seval, reduceCtorEq, ↓reduceIte]
             refine CallK.freshE Cr30.toO rfl (by first | rfl | (simp only [NM]; done)) (by (repeat' apply And.intro) <;> first | trivial | rfl | omega | (simp only [NM]; omega)) (.inl rfl) (by exact Nat.le_of_ble_eq_true rfl) ?_
             try simp only [EVB, eqF, Op.operands, IntKind.bits, descF, sizeF, bytesF, zeroF, seval, reduceCtorEq, ↓reduceIte]
             exact Weak.sub' ⟨rfl, rfl, rfl, rfl, rfl, trivial⟩ ⟨rfl, rfl, trivial⟩ (Nat.le_of_ble_eq_true rfl)
            ·skip
             refine go_seq ?_
             obtain ⟨r31, hr31, hx1⟩ := letIn_ex hx1
             have Cr31 := (pontoonlaw19_does_t (SCoord.mk x17 x18 x19 x20 x21 (STxn.mk x22 x23 x24 x25 x26) x27 x28) r30 (by (try simp only [SZD]); (repeat' apply And.intro) <;> first | assumption | omega | simp_all) (by (try simp only [SZD]); (repeat' apply And.intro) <;> first | assumption | omega | simp_all))
             simp only [hr31] at Cr31
             have zr31 := pontoonlaw19_does_sz (SCoord.mk x17 x18 x19 x20 x21 (STxn.mk x22 x23 x24 x25 x26) x27 x28) r30 (by (try simp only [SZD]); (repeat' apply And.intro) <;> first | assumption | omega | simp_all) (by (try simp only [SZD]); (repeat' apply And.intro) <;> first | assumption | omega | simp_all)
             simp only [hr31, SZD] at zr31
             obtain ⟨⟨zz59, ⟨zz60, zz61⟩⟩, ⟨zz62, zz63⟩⟩ := zr31
             refine go_regionJ hR ⟨[(3, .ptr 0 0), (6, .ptr 1 0), (7, .ptr 2 0), (8, .ptr 3 0), (20, .c (.sl (List.map Spontoonlaw19_Come.cells a0))), (21, .c (.val (.int .i64 ((a0.length : Nat) : Int)))), (22, .c (.val (.int .i64 ((x16 : Nat) : Int))))], [(0, .box [.c (.val (.int .i64 x17)), .c (.val (.int .i64 x18)), .c (.val (.int .i64 x19)), .c (.val (.int .i64 x20)), .c (.sl (List.map cI64 x21)), .c (.val (.int .i64 x22)), .c (.val (.int .i64 x23)), .c (.val (.int .i64 x24)), .c (.sl (List.map SRecord.cells x25)), .c (.sl (List.map cI64 x26)), .c (.val (.int .i64 x27)), .c (.val (.int .i64 x28))] 30), (1, .box [.c (.val (.int .i64 r30.Do)), .c (.val (.bool r30.Own)), .c (.val (.int .i64 r30.Id)), .c (.val (.int .i64 r30.Manifest.Epoch)), .c (.val (.int .i64 r30.Manifest.Id)), .c (.sl (List.map cI64 r30.Manifest.Vector)), .c (.val (.int .i64 r30.Manifest.Out)), .c (.val (.int .i64 r30.Manifest.Begin)), .c (.sl (List.map SRecord.cells r30.Manifest.Records)), .c (.sl (List.map SPiece.cells r30.Manifest.Pieces)), .c (.val (.int .u32 r30.Manifest.Graph)), .c (.val (.int .i64 r30.Kind)), .c (.val (.int .i64 r30.Key.Epoch)), .c (.val (.int .i64 r30.Key.Id)), .c (.val (.int .i64 r30.Err)), .c (.val (.int .i64 r30.Len)), .c (.sl (List.map cI64 r30.Vector))] 45), (2, .box [.c (.val (.int .i64 r31.1.Phase)), .c (.val (.int .i64 r31.1.Epoch)), .c (.val (.int .i64 r31.1.Id)), .c (.val (.int .i64 r31.1.Len)), .c (.sl (List.map cI64 r31.1.Vector)), .c (.val (.int .i64 r31.1.Txn.Epoch)), .c (.val (.int .i64 r31.1.Txn.Id)), .c (.val (.int .i64 r31.1.Txn.Begin)), .c (.sl (List.map SRecord.cells r31.1.Txn.Records)), .c (.sl (List.map cI64 r31.1.Txn.Vector)), .c (.val (.int .i64 r31.1.Done)), .c (.val (.int .i64 r31.1.Left))] 30), (3, .box [.c (.val (.int .i64 r31.2.Kind)), .c (.val (.int .i64 r31.2.Id)), .c (.val (.int .i64 r31.2.Begin)), .c (.val (.int .i64 r31.2.Txn.Epoch)), .c (.val (.int .i64 r31.2.Txn.Id)), .c (.val (.int .i64 r31.2.Txn.Begin)), .c (.sl (List.map SRecord.cells r31.2.Txn.Records)), .c (.sl (List.map cI64 r31.2.Txn.Vector))] 48)], 4⟩ ?_ ?_
             ·skip
              simp only [EVB, eqF, Op.operands, IntKind.bits, descF, sizeF, bytesF, zeroF, seval, reduceCtorEq, ↓reduceIte]
              refine CallK.freshE Cr31.toO rfl (by first | rfl | (simp only [NM]; done)) (by (repeat' apply And.intro) <;> first | trivial | rfl | omega | (simp only [NM]; omega)) (.inl rfl) (by exact Nat.le_of_ble_eq_true rfl) ?_
              try simp only [EVB, eqF, Op.operands, IntKind.bits, descF, sizeF, bytesF, zeroF, seval, reduceCtorEq, ↓reduceIte]
              exact Weak.sub' ⟨rfl, rfl, rfl, rfl, rfl, rfl, rfl, trivial⟩ ⟨rfl, rfl, rfl, rfl, trivial⟩ (Nat.le_of_ble_eq_true rfl)
             ·skip
              refine go_seq ?_
              refine go_seq ?_
              refine go_regionJ hR ⟨[(3, .ptr 0 0), (6, .ptr 1 0), (7, .ptr 2 0), (20, .c (.sl (List.map Spontoonlaw19_Come.cells a0))), (21, .c (.val (.int .i64 ((a0.length : Nat) : Int)))), (22, .c (.val (.int .i64 ((x16 : Nat) : Int)))), (47, .c (.val (.bool (((r30.Do == 4) && (r31.2.Kind != 0)) && (r31.2.Kind != 3)))))], [(0, .box [.c (.val (.int .i64 x17)), .c (.val (.int .i64 x18)), .c (.val (.int .i64 x19)), .c (.val (.int .i64 x20)), .c (.sl (List.map cI64 x21)), .c (.val (.int .i64 x22)), .c (.val (.int .i64 x23)), .c (.val (.int .i64 x24)), .c (.sl (List.map SRecord.cells x25)), .c (.sl (List.map cI64 x26)), .c (.val (.int .i64 x27)), .c (.val (.int .i64 x28))] 30), (1, .box [.c (.val (.int .i64 r30.Do)), .c (.val (.bool r30.Own)), .c (.val (.int .i64 r30.Id)), .c (.val (.int .i64 r30.Manifest.Epoch)), .c (.val (.int .i64 r30.Manifest.Id)), .c (.sl (List.map cI64 r30.Manifest.Vector)), .c (.val (.int .i64 r30.Manifest.Out)), .c (.val (.int .i64 r30.Manifest.Begin)), .c (.sl (List.map SRecord.cells r30.Manifest.Records)), .c (.sl (List.map SPiece.cells r30.Manifest.Pieces)), .c (.val (.int .u32 r30.Manifest.Graph)), .c (.val (.int .i64 r30.Kind)), .c (.val (.int .i64 r30.Key.Epoch)), .c (.val (.int .i64 r30.Key.Id)), .c (.val (.int .i64 r30.Err)), .c (.val (.int .i64 r30.Len)), .c (.sl (List.map cI64 r30.Vector))] 45), (2, .box [.c (.val (.int .i64 r31.1.Phase)), .c (.val (.int .i64 r31.1.Epoch)), .c (.val (.int .i64 r31.1.Id)), .c (.val (.int .i64 r31.1.Len)), .c (.sl (List.map cI64 r31.1.Vector)), .c (.val (.int .i64 r31.1.Txn.Epoch)), .c (.val (.int .i64 r31.1.Txn.Id)), .c (.val (.int .i64 r31.1.Txn.Begin)), .c (.sl (List.map SRecord.cells r31.1.Txn.Records)), .c (.sl (List.map cI64 r31.1.Txn.Vector)), .c (.val (.int .i64 r31.1.Done)), .c (.val (.int .i64 r31.1.Left))] 30)], 4⟩ ?_ ?_
              ·skip
               rcases Bool.eq_false_or_eq_true (r30.Do == 4) with h32 | h32
               ·rcases Bool.eq_false_or_eq_true (r31.2.Kind != 0) with h33 | h33
                ·simp only [h32, h33, EVB, eqF, Op.operands, IntKind.bits, descF, sizeF, bytesF, zeroF, seval, reduceCtorEq, ↓reduceIte]
                 try simp only [h32, h33, BM]
                 exact Weak.sub' ⟨rfl, rfl, rfl, rfl, rfl, rfl, rfl, trivial⟩ ⟨rfl, rfl, rfl, trivial⟩ (Nat.le_of_ble_eq_true rfl)
                ·simp only [h32, h33, EVB, eqF, Op.operands, IntKind.bits, descF, sizeF, bytesF, zeroF, seval, reduceCtorEq, ↓reduceIte]
                 try simp only [h32, h33, BM]
                 exact Weak.sub' ⟨rfl, rfl, rfl, rfl, rfl, rfl, rfl, trivial⟩ ⟨rfl, rfl, rfl, trivial⟩ (Nat.le_of_ble_eq_true rfl)
               ·simp only [h32, EVB, eqF, Op.operands, IntKind.bits, descF, sizeF, bytesF, zeroF, seval, reduceCtorEq, ↓reduceIte]
                try simp only [h32, BM]
                exact Weak.sub' ⟨rfl, rfl, rfl, rfl, rfl, rfl, rfl, trivial⟩ ⟨rfl, rfl, rfl, trivial⟩ (Nat.le_of_ble_eq_true rfl)
              ·skip
               obtain ⟨o34s, hx2, hx1⟩ := letIn_ex hx1
               refine go_joinE (fun p : Unit => ⟨[(3, .ptr 0 0), (7, .ptr 1 0), (20, .c (.sl (List.map Spontoonlaw19_Come.cells a0))), (21, .c (.val (.int .i64 ((a0.length : Nat) : Int)))), (22, .c (.val (.int .i64 ((x16 : Nat) : Int))))], [(0, .box [.c (.val (.int .i64 x17)), .c (.val (.int .i64 x18)), .c (.val (.int .i64 x19)), .c (.val (.int .i64 x20)), .c (.sl (List.map cI64 x21)), .c (.val (.int .i64 x22)), .c (.val (.int .i64 x23)), .c (.val (.int .i64 x24)), .c (.sl (List.map SRecord.cells x25)), .c (.sl (List.map cI64 x26)), .c (.val (.int .i64 x27)), .c (.val (.int .i64 x28))] 30), (1, .box [.c (.val (.int .i64 r31.1.Phase)), .c (.val (.int .i64 r31.1.Epoch)), .c (.val (.int .i64 r31.1.Id)), .c (.val (.int .i64 r31.1.Len)), .c (.sl (List.map cI64 r31.1.Vector)), .c (.val (.int .i64 r31.1.Txn.Epoch)), .c (.val (.int .i64 r31.1.Txn.Id)), .c (.val (.int .i64 r31.1.Txn.Begin)), .c (.sl (List.map SRecord.cells r31.1.Txn.Records)), .c (.sl (List.map cI64 r31.1.Txn.Vector)), .c (.val (.int .i64 r31.1.Done)), .c (.val (.int .i64 r31.1.Left))] 30)], 2⟩) (fun p : Unit => o34s = Sum.inr p) ?_ ?_
               ·refine go_cond (by rfl) (fun h35 => ?_) (fun h35 => ?_)
                ·have gh35 := h35
                 try simp only [GN, beq_iff_eq, beq_eq_false_iff_ne, bne_iff_ne, bne_eq_false_iff_eq] at gh35
                 simp only [h35, dite_true, dite_false, reduceDIte, Bool.false_eq_true] at hx2
                 refine go_seq ?_
                 obtain ⟨r36, hr36, hx2⟩ := letIn_ex hx2
                 have Cr36 := (pontoonlaw19_does_t r31.1 r30 (by (try simp only [SZD]); (repeat' apply And.intro) <;> first | assumption | omega | simp_all) (by (try simp only [SZD]); (repeat' apply And.intro) <;> first | assumption | omega | simp_all))
                 simp only [hr36] at Cr36
                 have zr36 := pontoonlaw19_does_sz r31.1 r30 (by (try simp only [SZD]); (repeat' apply And.intro) <;> first | assumption | omega | simp_all) (by (try simp only [SZD]); (repeat' apply And.intro) <;> first | assumption | omega | simp_all)
                 simp only [hr36, SZD] at zr36
                 obtain ⟨⟨zz64, ⟨zz65, zz66⟩⟩, ⟨zz67, zz68⟩⟩ := zr36
                 refine go_regionJ hR ⟨[(3, .ptr 0 0), (7, .ptr 2 0), (9, .ptr 4 0), (10, .ptr 5 0), (20, .c (.sl (List.map Spontoonlaw19_Come.cells a0))), (21, .c (.val (.int .i64 ((a0.length : Nat) : Int)))), (22, .c (.val (.int .i64 ((x16 : Nat) : Int))))], [(0, .box [.c (.val (.int .i64 x17)), .c (.val (.int .i64 x18)), .c (.val (.int .i64 x19)), .c (.val (.int .i64 x20)), .c (.sl (List.map cI64 x21)), .c (.val (.int .i64 x22)), .c (.val (.int .i64 x23)), .c (.val (.int .i64 x24)), .c (.sl (List.map SRecord.cells x25)), .c (.sl (List.map cI64 x26)), .c (.val (.int .i64 x27)), .c (.val (.int .i64 x28))] 30), (2, .box [.c (.val (.int .i64 r31.1.Phase)), .c (.val (.int .i64 r31.1.Epoch)), .c (.val (.int .i64 r31.1.Id)), .c (.val (.int .i64 r31.1.Len)), .c (.sl (List.map cI64 r31.1.Vector)), .c (.val (.int .i64 r31.1.Txn.Epoch)), .c (.val (.int .i64 r31.1.Txn.Id)), .c (.val (.int .i64 r31.1.Txn.Begin)), .c (.sl (List.map SRecord.cells r31.1.Txn.Records)), .c (.sl (List.map cI64 r31.1.Txn.Vector)), .c (.val (.int .i64 r31.1.Done)), .c (.val (.int .i64 r31.1.Left))] 30), (4, .box [.c (.val (.int .i64 r36.1.Phase)), .c (.val (.int .i64 r36.1.Epoch)), .c (.val (.int .i64 r36.1.Id)), .c (.val (.int .i64 r36.1.Len)), .c (.sl (List.map cI64 r36.1.Vector)), .c (.val (.int .i64 r36.1.Txn.Epoch)), .c (.val (.int .i64 r36.1.Txn.Id)), .c (.val (.int .i64 r36.1.Txn.Begin)), .c (.sl (List.map SRecord.cells r36.1.Txn.Records)), .c (.sl (List.map cI64 r36.1.Txn.Vector)), .c (.val (.int .i64 r36.1.Done)), .c (.val (.int .i64 r36.1.Left))] 30), (5, .box [.c (.val (.int .i64 r36.2.Kind)), .c (.val (.int .i64 r36.2.Id)), .c (.val (.int .i64 r36.2.Begin)), .c (.val (.int .i64 r36.2.Txn.Epoch)), .c (.val (.int .i64 r36.2.Txn.Id)), .c (.val (.int .i64 r36.2.Txn.Begin)), .c (.sl (List.map SRecord.cells r36.2.Txn.Records)), .c (.sl (List.map cI64 r36.2.Txn.Vector))] 48)], 6⟩ ?_ ?_
                 ·skip
                  simp only [EVB, eqF, Op.operands, IntKind.bits, descF, sizeF, bytesF, zeroF, seval, reduceCtorEq, ↓reduceIte]
                  refine CallK.freshE Cr36.toO rfl (by first | rfl | (simp only [NM]; done)) (by (repeat' apply And.intro) <;> first | trivial | rfl | omega | (simp only [NM]; omega)) (.inl rfl) (by exact Nat.le_of_ble_eq_true rfl) ?_
                  try simp only [EVB, eqF, Op.operands, IntKind.bits, descF, sizeF, bytesF, zeroF, seval, reduceCtorEq, ↓reduceIte]
                  exact Weak.sub' ⟨rfl, rfl, rfl, rfl, rfl, rfl, rfl, trivial⟩ ⟨rfl, rfl, rfl, rfl, trivial⟩ (Nat.le_of_ble_eq_true rfl)
                 ·skip
                  refine go_seq ?_
                  refine go_regionJ hR ⟨[(3, .ptr 0 0), (7, .ptr 2 0), (20, .c (.sl (List.map Spontoonlaw19_Come.cells a0))), (21, .c (.val (.int .i64 ((a0.length : Nat) : Int)))), (22, .c (.val (.int .i64 ((x16 : Nat) : Int)))), (62, .c (.val (.bool ((r36.2.Kind != 0) || (!(pontoonref19_Same r36.1 r31.1))))))], [(0, .box [.c (.val (.int .i64 x17)), .c (.val (.int .i64 x18)), .c (.val (.int .i64 x19)), .c (.val (.int .i64 x20)), .c (.sl (List.map cI64 x21)), .c (.val (.int .i64 x22)), .c (.val (.int .i64 x23)), .c (.val (.int .i64 x24)), .c (.sl (List.map SRecord.cells x25)), .c (.sl (List.map cI64 x26)), .c (.val (.int .i64 x27)), .c (.val (.int .i64 x28))] 30), (2, .box [.c (.val (.int .i64 r31.1.Phase)), .c (.val (.int .i64 r31.1.Epoch)), .c (.val (.int .i64 r31.1.Id)), .c (.val (.int .i64 r31.1.Len)), .c (.sl (List.map cI64 r31.1.Vector)), .c (.val (.int .i64 r31.1.Txn.Epoch)), .c (.val (.int .i64 r31.1.Txn.Id)), .c (.val (.int .i64 r31.1.Txn.Begin)), .c (.sl (List.map SRecord.cells r31.1.Txn.Records)), .c (.sl (List.map cI64 r31.1.Txn.Vector)), .c (.val (.int .i64 r31.1.Done)), .c (.val (.int .i64 r31.1.Left))] 30)], 6⟩ ?_ ?_
                  ·skip
                   rcases Bool.eq_false_or_eq_true (r36.2.Kind != 0) with h37 | h37
                   ·simp only [h37, EVB, eqF, Op.operands, IntKind.bits, descF, sizeF, bytesF, zeroF, seval, reduceCtorEq, ↓reduceIte]
                    try simp only [h37, BM]
                    exact Weak.sub' ⟨rfl, rfl, rfl, rfl, rfl, rfl, trivial⟩ ⟨rfl, rfl, trivial⟩ (Nat.le_of_ble_eq_true rfl)
                   ·simp only [h37, EVB, eqF, Op.operands, IntKind.bits, descF, sizeF, bytesF, zeroF, seval, reduceCtorEq, ↓reduceIte]
                    refine CallK.freshE (pontoonref19_Same_t r36.1 r31.1).toO rfl (by first | rfl | (simp only [NM]; done)) (by (repeat' apply And.intro) <;> first | trivial | rfl | omega | (simp only [NM]; omega)) (.inl rfl) (by exact Nat.le_of_ble_eq_true rfl) ?_
                    try simp only [h37, EVB, eqF, Op.operands, IntKind.bits, descF, sizeF, bytesF, zeroF, seval, reduceCtorEq, ↓reduceIte]
                    try simp only [h37, BM]
                    exact Weak.sub' ⟨rfl, rfl, rfl, rfl, rfl, rfl, trivial⟩ ⟨rfl, rfl, trivial⟩ (Nat.le_of_ble_eq_true rfl)
                  ·skip
                   refine go_cond (by rfl) (fun h38 => ?_) (fun h38 => ?_)
                   ·have gh38 := h38
                    try simp only [GN, beq_iff_eq, beq_eq_false_iff_ne, bne_iff_ne, bne_eq_false_iff_eq] at gh38
                    simp only [h38, dite_true, dite_false, reduceDIte, Bool.false_eq_true] at hx2
                    refine go_seq ?_
                    refine go_regionJ hR ⟨[(2, .c (.val (.bool false)))], [], 6⟩ ?_ ?_
                    ·skip
                     simp only [EVB, eqF, Op.operands, IntKind.bits, descF, sizeF, bytesF, zeroF, seval, reduceCtorEq, ↓reduceIte]
                     exact Weak.sub' ⟨rfl, trivial⟩ trivial (Nat.le_of_ble_eq_true rfl)
                    ·skip
                     subst hx2
                     simp only [Sum.elim_inl] at hx1
                     subst hx1
                     simp only [Sum.elim_inl] at hx0
                     subst hx0
                     refine go_return ttOk (fun _ h => h) rfl ?_ ?_
                     ·exact (by (repeat' apply And.intro) <;> first | trivial | exact Nat.le_of_ble_eq_true rfl | omega | (simp only [NM]; omega))
                     ·first | rfl | (simp only [NM, CELLS] <;> rfl)
                   ·have gh38 := h38
                    try simp only [GN, beq_iff_eq, beq_eq_false_iff_ne, bne_iff_ne, bne_eq_false_iff_eq] at gh38
                    simp only [h38, dite_true, dite_false, reduceDIte, Bool.false_eq_true] at hx2
                    refine go_skip ?_
                    exact go_fin ⟨(), hx2.symm, (Weak.canon [0, 2] [3, 7, 20, 21, 22] (by decide) rfl (by simp) rfl (by simp) (by first | rfl | (simp only [NM, CELLS] <;> rfl) | simp [NM, CELLS]) (by first | rfl | (simp only [NM, CELLS] <;> rfl) | simp [NM, CELLS]) rfl)⟩
                ·have gh35 := h35
                 try simp only [GN, beq_iff_eq, beq_eq_false_iff_ne, bne_iff_ne, bne_eq_false_iff_eq] at gh35
                 simp only [h35, dite_true, dite_false, reduceDIte, Bool.false_eq_true] at hx2
                 refine go_skip ?_
                 exact go_fin ⟨(), hx2.symm, (Weak.canon [0, 2] [3, 7, 20, 21, 22] (by decide) rfl (by simp) rfl (by simp) (by first | rfl | (simp only [NM, CELLS] <;> rfl) | simp [NM, CELLS]) (by first | rfl | (simp only [NM, CELLS] <;> rfl) | simp [NM, CELLS]) rfl)⟩
               ·rintro o34 hp
                try dsimp only at hp
                subst hp
                simp only [Sum.elim_inr] at hx1
                refine go_regionJ hR ⟨[(3, .ptr 0 0), (20, .c (.sl (List.map Spontoonlaw19_Come.cells a0))), (21, .c (.val (.int .i64 ((a0.length : Nat) : Int)))), (22, .c (.val (.int .i64 ((x16 : Nat) : Int))))], [(0, .box [.c (.val (.int .i64 r31.1.Phase)), .c (.val (.int .i64 r31.1.Epoch)), .c (.val (.int .i64 r31.1.Id)), .c (.val (.int .i64 r31.1.Len)), .c (.sl (List.map cI64 r31.1.Vector)), .c (.val (.int .i64 r31.1.Txn.Epoch)), .c (.val (.int .i64 r31.1.Txn.Id)), .c (.val (.int .i64 r31.1.Txn.Begin)), .c (.sl (List.map SRecord.cells r31.1.Txn.Records)), .c (.sl (List.map cI64 r31.1.Txn.Vector)), .c (.val (.int .i64 r31.1.Done)), .c (.val (.int .i64 r31.1.Left))] 30)], 2⟩ ?_ ?_
                ·skip
                 simp only [EVB, eqF, Op.operands, IntKind.bits, descF, sizeF, bytesF, zeroF, seval, reduceCtorEq, ↓reduceIte]
                 exact Weak.sub' ⟨rfl, rfl, rfl, rfl, trivial⟩ ⟨rfl, trivial⟩ (Nat.le_of_ble_eq_true rfl)
                ·skip
                 refine go_blk ?_
                 refine go_regionJ hR ⟨[(3, .ptr 0 0), (20, .c (.sl (List.map Spontoonlaw19_Come.cells a0))), (21, .c (.val (.int .i64 ((a0.length : Nat) : Int)))), (22, .c (.val (.int .i64 ((x16 + 1 : Nat) : Int))))], [(0, .box [.c (.val (.int .i64 r31.1.Phase)), .c (.val (.int .i64 r31.1.Epoch)), .c (.val (.int .i64 r31.1.Id)), .c (.val (.int .i64 r31.1.Len)), .c (.sl (List.map cI64 r31.1.Vector)), .c (.val (.int .i64 r31.1.Txn.Epoch)), .c (.val (.int .i64 r31.1.Txn.Id)), .c (.val (.int .i64 r31.1.Txn.Begin)), .c (.sl (List.map SRecord.cells r31.1.Txn.Records)), .c (.sl (List.map cI64 r31.1.Txn.Vector)), .c (.val (.int .i64 r31.1.Done)), .c (.val (.int .i64 r31.1.Left))] 30)], 2⟩ ?_ ?_
                 ·skip
                  have w69 : IntKind.i64.wrap (((x16 : Nat) : Int) + 1) = ((x16 + 1 : Nat) : Int) := by rw [IntKind.wrap_i64]; omega
                  simp only [w69, EVB, eqF, Op.operands, IntKind.bits, descF, sizeF, bytesF, zeroF, seval, reduceCtorEq, ↓reduceIte, CELLS]
                  exact Weak.sub' ⟨rfl, rfl, rfl, rfl, trivial⟩ ⟨rfl, trivial⟩ (Nat.le_of_ble_eq_true rfl)
                 ·skip
                  exact go_fin ⟨(x16 + 1, r31.1.Phase, r31.1.Epoch, r31.1.Id, r31.1.Len, r31.1.Vector, r31.1.Txn.Epoch, r31.1.Txn.Id, r31.1.Txn.Begin, r31.1.Txn.Records, r31.1.Txn.Vector, r31.1.Done, r31.1.Left), ⟨(by (try dsimp only); (repeat' apply And.intro) <;> first | trivial | omega | assumption | (simp; done)), hx1⟩, by (try dsimp only); omega, (Weak.canon [0] [3, 20, 21, 22] (by decide) rfl (by simp) rfl (by simp) (by first | rfl | (simp only [NM, CELLS] <;> rfl) | simp [NM, CELLS]) (by first | rfl | (simp only [NM, CELLS] <;> rfl) | simp [NM, CELLS]) rfl)⟩
          ·have gh29 := h29
           try simp only [GN, beq_iff_eq, beq_eq_false_iff_ne, bne_iff_ne, bne_eq_false_iff_eq] at gh29
           simp only [h29, dite_true, dite_false, reduceDIte, Bool.false_eq_true] at hx1
           refine go_exit rfl ?_
           exact go_fin ⟨(), hx1.symm, (Weak.canon [] [] (by decide) rfl trivial rfl (by simp) (by first | rfl | (simp only [NM, CELLS] <;> rfl) | simp [NM, CELLS]) rfl rfl)⟩
        ·rintro o4 hp
         try dsimp only at hp
         subst hp
         simp only [Sum.elim_inr] at hx0
         refine go_seq ?_
         refine go_regionJ hR ⟨[(2, .c (.val (.bool true)))], [], 0⟩ ?_ ?_
         ·skip
          simp only [EVB, eqF, Op.operands, IntKind.bits, descF, sizeF, bytesF, zeroF, seval, reduceCtorEq, ↓reduceIte]
          exact Weak.sub' ⟨rfl, trivial⟩ trivial (Nat.le_of_ble_eq_true rfl)
         ·skip
          subst hx0
          refine go_return ttOk (fun _ h => h) rfl ?_ ?_
          ·exact (by (repeat' apply And.intro) <;> first | trivial | exact Nat.le_of_ble_eq_true rfl | omega | (simp only [NM]; omega))
          ·first | rfl | (simp only [NM, CELLS] <;> rfl)
end Go.Ab.Try
