/-
  Functions, and what they compute: printed by wg.py, a program of this work.
-/
import Derived.Test.YtipiagjhijnmhaaP0
import Derived.Test.YtipiagjhijnmhaaP2
import Derived.Test.YtipiagjhijnmhaaP4
import Derived.Test.YtipiagjhijnmhaaP5
import Derived.Test.YtipiagjhijnmhaaLN
set_option linter.unusedVariables false
set_option linter.unusedSimpArgs false
namespace Go.Ab.Try
open Go Go.Proofs Go.Ab

structure Spontoonlaw19_Begin where
  Epoch : Int
  Id : Int
  Len : Int
  Vector : (List Int)
deriving DecidableEq
instance : Inhabited Spontoonlaw19_Begin := ⟨(Spontoonlaw19_Begin.mk 0 0 0 [])⟩
def Spontoonlaw19_Begin.Sz (x : Spontoonlaw19_Begin) : Prop := x.Vector.length ≤ 4294967296
theorem slices_Clone_int64_O (a0 : List Int) (hz : a0.length ≤ 4294967296) : FnO Try.prog 33 [.c (.sl (List.map cI64 a0))] [.acc 1 (List.map cI64 (slices_Clone_int64 a0)) 2] (.own 0 1 0 (slices_Clone_int64 a0).length) := slices_Clone_int64_o a0 hz
set_option maxRecDepth 10000 in
set_option maxHeartbeats 8000000 in
theorem coord_New_o (a0 : Int) (a1 : Int) (a2 : Int) (a3 : (List Int)) (z3 : a3.length ≤ 4294967296) : FnO Try.prog 11 [.c (.val (.int .i64 a0)), .c (.val (.int .i64 a1)), .c (.val (.int .i64 a2)), .c (.sl (List.map cI64 a3))] [.acc 1 (List.map cI64 (((coord_New a0 a1 a2 a3).1).Vector)) 2] (.tup [.agg [.c (.val (.int .i64 (((coord_New a0 a1 a2 a3).1).Phase))), .c (.val (.int .i64 (((coord_New a0 a1 a2 a3).1).Epoch))), .c (.val (.int .i64 (((coord_New a0 a1 a2 a3).1).Id))), .c (.val (.int .i64 (((coord_New a0 a1 a2 a3).1).Len))), .own 0 1 0 ((((coord_New a0 a1 a2 a3).1).Vector).length), .c (.val (.int .i64 ((((coord_New a0 a1 a2 a3).1).Txn).Epoch))), .c (.val (.int .i64 ((((coord_New a0 a1 a2 a3).1).Txn).Id))), .c (.val (.int .i64 ((((coord_New a0 a1 a2 a3).1).Txn).Begin))), .c (.sl (List.map SRecord.cells ((((coord_New a0 a1 a2 a3).1).Txn).Records))), .c (.sl (List.map cI64 ((((coord_New a0 a1 a2 a3).1).Txn).Vector))), .c (.val (.int .i64 (((coord_New a0 a1 a2 a3).1).Done))), .c (.val (.int .i64 (((coord_New a0 a1 a2 a3).1).Left)))], .c (.val (.int .i64 ((coord_New a0 a1 a2 a3).2)))]) := by
 refine FnO.intro (tt := tt) Try.func11 rfl (by kernel_rfl) (by simp [Try.ntmps11]) fun w0 A hA => ?_
 have hR := reckB_ok eqOk ttOk
 obtain ⟨res, hx0⟩ : ∃ r, (coord_New a0 a1 a2 a3) = r := ⟨_, rfl⟩
 simp only [hx0]
 unfold coord_New at hx0
 simp only [argT, Try.ntmps11]
 try simp only [SZD, Spontoonlaw19_Begin.Sz] at z3
 refine go_seq ?_
 refine go_regionJ hR ⟨[(0, .c (.val (.int .i64 a0))), (1, .c (.val (.int .i64 a1))), (2, .c (.val (.int .i64 a2))), (3, .c (.sl (List.map cI64 a3))), (8, .ptr 0 0)], [(0, .box [.c (.val (.int .i64 0)), .c (.val (.int .i64 0)), .c (.val (.int .i64 0)), .c (.val (.int .i64 0)), .c (.val (.slice none 0 0)), .c (.val (.int .i64 0)), .c (.val (.int .i64 0)), .c (.val (.int .i64 0)), .c (.val (.slice none 0 0)), .c (.val (.slice none 0 0)), .c (.val (.int .i64 0)), .c (.val (.int .i64 0))] 30)], 1⟩ ?_ ?_
 ·skip
  simp only [EVB, eqF, Op.operands, IntKind.bits, descF, sizeF, bytesF, zeroF, seval, reduceCtorEq, ↓reduceIte]
  exact Weak.sub' ⟨rfl, rfl, rfl, rfl, rfl, trivial⟩ ⟨rfl, trivial⟩ (Nat.le_of_ble_eq_true rfl)
 ·skip
  refine go_seq ?_
  obtain ⟨r1, hr1, hx0⟩ := letIn_ex hx0
  have Cr1 := (slices_Clone_int64_O a3 (by (try simp only [SZD]); (repeat' apply And.intro) <;> first | assumption | omega | simp_all))
  simp only [hr1] at Cr1
  have zr1 := slices_Clone_int64_sz a3 (by (try simp only [SZD]); (repeat' apply And.intro) <;> first | assumption | omega | simp_all)
  simp only [hr1, SZD, Spontoonlaw19_Begin.Sz] at zr1
  refine go_regionJ hR ⟨[(8, .ptr 0 0), (10, .ptr 2 0)], [(0, .box [.c (.val (.int .i64 0)), .c (.val (.int .i64 0)), .c (.val (.int .i64 0)), .c (.val (.int .i64 0)), .c (.val (.slice none 0 0)), .c (.val (.int .i64 0)), .c (.val (.int .i64 0)), .c (.val (.int .i64 0)), .c (.val (.slice none 0 0)), .c (.val (.slice none 0 0)), .c (.val (.int .i64 0)), .c (.val (.int .i64 0))] 30), (1, .acc 1 (List.map cI64 r1) 2), (2, .box [.c (.val (.int .i64 0)), .c (.val (.int .i64 a0)), .c (.val (.int .i64 a1)), .c (.val (.int .i64 a2)), .own 1 1 0 r1.length, .c (.val (.int .i64 0)), .c (.val (.int .i64 0)), .c (.val (.int .i64 0)), .c (.val (.slice none 0 0)), .c (.val (.slice none 0 0)), .c (.val (.int .i64 0)), .c (.val (.int .i64 0))] 30)], 3⟩ ?_ ?_
  ·skip
   simp only [EVB, eqF, Op.operands, IntKind.bits, descF, sizeF, bytesF, zeroF, seval, reduceCtorEq, ↓reduceIte]
   refine CallK.freshE Cr1 rfl (by first | rfl | (simp only [NM]; done)) (by (repeat' apply And.intro) <;> first | trivial | rfl | omega | (simp only [NM]; omega)) (.inl rfl) (by exact Nat.le_of_ble_eq_true rfl) ?_
   try simp only [EVB, eqF, Op.operands, IntKind.bits, descF, sizeF, bytesF, zeroF, seval, reduceCtorEq, ↓reduceIte]
   exact Weak.sub' ⟨rfl, rfl, trivial⟩ ⟨rfl, rfl, rfl, trivial⟩ (Nat.le_of_ble_eq_true rfl)
  ·skip
   refine go_seq ?_
   refine go_seq ?_
   refine go_regionJ hR ⟨[(8, .ptr 0 0), (10, .ptr 2 0), (11, .c (.val (.int .i64 (coord_Check (SCoord.mk 0 a0 a1 a2 r1 (STxn.mk 0 0 0 [] []) 0 0)))))], [(0, .box [.c (.val (.int .i64 0)), .c (.val (.int .i64 0)), .c (.val (.int .i64 0)), .c (.val (.int .i64 0)), .c (.val (.slice none 0 0)), .c (.val (.int .i64 0)), .c (.val (.int .i64 0)), .c (.val (.int .i64 0)), .c (.val (.slice none 0 0)), .c (.val (.slice none 0 0)), .c (.val (.int .i64 0)), .c (.val (.int .i64 0))] 30), (1, .acc 1 (List.map cI64 r1) 2), (2, .box [.c (.val (.int .i64 0)), .c (.val (.int .i64 a0)), .c (.val (.int .i64 a1)), .c (.val (.int .i64 a2)), .own 1 1 0 r1.length, .c (.val (.int .i64 0)), .c (.val (.int .i64 0)), .c (.val (.int .i64 0)), .c (.val (.slice none 0 0)), .c (.val (.slice none 0 0)), .c (.val (.int .i64 0)), .c (.val (.int .i64 0))] 30)], 3⟩ ?_ ?_
   ·skip
    simp only [EVB, eqF, Op.operands, IntKind.bits, descF, sizeF, bytesF, zeroF, seval, reduceCtorEq, ↓reduceIte]
    refine CallK.freshE (coord_Check_t (SCoord.mk 0 a0 a1 a2 r1 (STxn.mk 0 0 0 [] []) 0 0)).toO rfl (by first | rfl | (simp only [NM]; done)) (by (repeat' apply And.intro) <;> first | trivial | rfl | omega | (simp only [NM]; omega)) (.inr ⟨by simp [flatAV, flatLs], trivial⟩) (by exact Nat.le_of_ble_eq_true rfl) ?_
    try simp only [EVB, eqF, Op.operands, IntKind.bits, descF, sizeF, bytesF, zeroF, seval, reduceCtorEq, ↓reduceIte]
    exact Weak.sub' ⟨rfl, rfl, rfl, trivial⟩ ⟨rfl, rfl, rfl, trivial⟩ (Nat.le_of_ble_eq_true rfl)
   ·skip
    refine go_seq ?_
    refine go_regionJ hR ⟨[(8, .ptr 0 0), (10, .ptr 2 0), (11, .c (.val (.int .i64 (coord_Check (SCoord.mk 0 a0 a1 a2 r1 (STxn.mk 0 0 0 [] []) 0 0))))), (21, .c (.val (.bool ((coord_Check (SCoord.mk 0 a0 a1 a2 r1 (STxn.mk 0 0 0 [] []) 0 0)) != 0))))], [(0, .box [.c (.val (.int .i64 0)), .c (.val (.int .i64 0)), .c (.val (.int .i64 0)), .c (.val (.int .i64 0)), .c (.val (.slice none 0 0)), .c (.val (.int .i64 0)), .c (.val (.int .i64 0)), .c (.val (.int .i64 0)), .c (.val (.slice none 0 0)), .c (.val (.slice none 0 0)), .c (.val (.int .i64 0)), .c (.val (.int .i64 0))] 30), (1, .acc 1 (List.map cI64 r1) 2), (2, .box [.c (.val (.int .i64 0)), .c (.val (.int .i64 a0)), .c (.val (.int .i64 a1)), .c (.val (.int .i64 a2)), .own 1 1 0 r1.length, .c (.val (.int .i64 0)), .c (.val (.int .i64 0)), .c (.val (.int .i64 0)), .c (.val (.slice none 0 0)), .c (.val (.slice none 0 0)), .c (.val (.int .i64 0)), .c (.val (.int .i64 0))] 30)], 3⟩ ?_ ?_
    ·skip
     simp only [EVB, eqF, Op.operands, IntKind.bits, descF, sizeF, bytesF, zeroF, seval, reduceCtorEq, ↓reduceIte]
     exact Weak.sub' ⟨rfl, rfl, rfl, rfl, trivial⟩ ⟨rfl, rfl, rfl, trivial⟩ (Nat.le_of_ble_eq_true rfl)
    ·skip
     refine go_cond (by rfl) (fun h2 => ?_) (fun h2 => ?_)
     ·have gh2 := h2
      try simp only [GN, beq_iff_eq, beq_eq_false_iff_ne, bne_iff_ne, bne_eq_false_iff_eq] at gh2
      simp only [h2, cond_true, cond_false] at hx0
      refine go_seq ?_
      refine go_regionJ hR ⟨[(8, .ptr 0 0), (9, .c (.val (.int .i64 (coord_Check (SCoord.mk 0 a0 a1 a2 r1 (STxn.mk 0 0 0 [] []) 0 0)))))], [(0, .box [.c (.val (.int .i64 0)), .c (.val (.int .i64 0)), .c (.val (.int .i64 0)), .c (.val (.int .i64 0)), .c (.val (.slice none 0 0)), .c (.val (.int .i64 0)), .c (.val (.int .i64 0)), .c (.val (.int .i64 0)), .c (.val (.slice none 0 0)), .c (.val (.slice none 0 0)), .c (.val (.int .i64 0)), .c (.val (.int .i64 0))] 30)], 3⟩ ?_ ?_
      ·skip
       simp only [EVB, eqF, Op.operands, IntKind.bits, descF, sizeF, bytesF, zeroF, seval, reduceCtorEq, ↓reduceIte]
       exact Weak.sub' ⟨rfl, rfl, trivial⟩ ⟨rfl, trivial⟩ (Nat.le_of_ble_eq_true rfl)
      ·skip
       subst hx0
       refine go_nilCell 0 4 1 2 rfl rfl ?_
       refine go_returnO [3] (by decide) ttOk rfl ?_ ?_ ?_
       ·exact (by (repeat' apply And.intro) <;> first | trivial | exact Nat.le_of_ble_eq_true rfl | omega | (simp only [NM]; omega))
       ·first | rfl | (simp only [NM, CELLS] <;> rfl)
       ·first | rfl | (simp only [NM, CELLS] <;> rfl)
     ·have gh2 := h2
      try simp only [GN, beq_iff_eq, beq_eq_false_iff_ne, bne_iff_ne, bne_eq_false_iff_eq] at gh2
      simp only [h2, cond_true, cond_false] at hx0
      refine go_skip ?_
      refine go_seq ?_
      refine go_regionJ hR ⟨[(8, .ptr 0 0), (9, .c (.val (.int .i64 0)))], [(0, .box [.c (.val (.int .i64 0)), .c (.val (.int .i64 a0)), .c (.val (.int .i64 a1)), .c (.val (.int .i64 a2)), .own 1 1 0 r1.length, .c (.val (.int .i64 0)), .c (.val (.int .i64 0)), .c (.val (.int .i64 0)), .c (.val (.slice none 0 0)), .c (.val (.slice none 0 0)), .c (.val (.int .i64 0)), .c (.val (.int .i64 0))] 30), (1, .acc 1 (List.map cI64 r1) 2)], 3⟩ ?_ ?_
      ·skip
       simp only [EVB, eqF, Op.operands, IntKind.bits, descF, sizeF, bytesF, zeroF, seval, reduceCtorEq, ↓reduceIte]
       exact Weak.sub' ⟨rfl, rfl, trivial⟩ ⟨rfl, rfl, trivial⟩ (Nat.le_of_ble_eq_true rfl)
      ·skip
       subst hx0
       refine go_returnO [1] (by decide) ttOk rfl ?_ ?_ ?_
       ·exact (by (repeat' apply And.intro) <;> first | trivial | exact Nat.le_of_ble_eq_true rfl | omega | (simp only [NM]; omega))
       ·first | rfl | (simp only [NM, CELLS] <;> rfl)
       ·first | rfl | (simp only [NM, CELLS] <;> rfl)

def pontoonlaw19_CoordNew (a0 : Spontoonlaw19_Begin) : Bool :=
  (bif (!pontoonlaw19_live) then false else letIn (coord_New a0.Epoch a0.Id a0.Len a0.Vector) fun r2 => letIn (pontoonref19_New a0.Epoch a0.Id a0.Len a0.Vector) fun r3 => (bif ((r2.2 != r3.2) || (!(pontoonref19_Same r2.1 r3.1))) then false else (bif (r2.2 == 0) then (pontoonref15_SameInts a0.Vector a0.Vector) else true)))
set_option maxRecDepth 10000 in
set_option maxHeartbeats 8000000 in
theorem pontoonlaw19_CoordNew_t (a0 : Spontoonlaw19_Begin) (z0 : Spontoonlaw19_Begin.Sz a0) : FnP Try.prog 3 [.agg [.c (.val (.int .i64 a0.Epoch)), .c (.val (.int .i64 a0.Id)), .c (.val (.int .i64 a0.Len)), .c (.sl (List.map cI64 a0.Vector))]] (.c (.val (.bool (pontoonlaw19_CoordNew a0)))) := by
 refine FnP.intro (tt := tt) Try.func3 rfl (by kernel_rfl) (by simp [Try.ntmps3]) fun w0 A hA => ?_
 have hR := reckB_ok eqOk ttOk
 obtain ⟨res, hx0⟩ : ∃ r, pontoonlaw19_CoordNew a0 = r := ⟨_, rfl⟩
 simp only [hx0]
 unfold pontoonlaw19_CoordNew at hx0
 simp only [argT, Try.ntmps3]
 try simp only [SZD, Spontoonlaw19_Begin.Sz] at z0
 refine go_seq ?_
 refine go_regionJ hR ⟨[(1, .ptr 0 0)], [(0, .box [.c (.val (.int .i64 a0.Epoch)), .c (.val (.int .i64 a0.Id)), .c (.val (.int .i64 a0.Len)), .c (.sl (List.map cI64 a0.Vector))] 24)], 1⟩ ?_ ?_
 ·skip
  simp only [EVB, eqF, Op.operands, IntKind.bits, descF, sizeF, bytesF, zeroF, seval, reduceCtorEq, ↓reduceIte]
  exact Weak.sub' ⟨rfl, trivial⟩ ⟨rfl, trivial⟩ (Nat.le_of_ble_eq_true rfl)
 ·skip
  refine go_seq ?_
  refine go_drawJ hR rfl ⟨[(3, .c (.val (.int .i64 a0.Epoch))), (4, .c (.val (.int .i64 a0.Id))), (5, .c (.val (.int .i64 a0.Len))), (6, .c (.sl (List.map cI64 a0.Vector)))], [], 1⟩ ?_ ?_
  ·skip
   simp only [EVB, eqF, Op.operands, IntKind.bits, descF, sizeF, bytesF, zeroF, seval, reduceCtorEq, ↓reduceIte]
   refine ⟨by kernel_rfl, ?_⟩
   exact Weak.sub' ⟨rfl, rfl, rfl, rfl, trivial⟩ trivial (Nat.le_of_ble_eq_true rfl)
  ·skip
   refine go_seq ?_
   refine go_seq ?_
   refine go_regionJ hR ⟨[(3, .c (.val (.int .i64 a0.Epoch))), (4, .c (.val (.int .i64 a0.Id))), (5, .c (.val (.int .i64 a0.Len))), (6, .c (.sl (List.map cI64 a0.Vector))), (21, .c (.val (.bool (!pontoonlaw19_live))))], [], 1⟩ ?_ ?_
   ·skip
    simp only [EVB, eqF, Op.operands, IntKind.bits, descF, sizeF, bytesF, zeroF, seval, reduceCtorEq, ↓reduceIte]
    refine CallK.freshE pontoonlaw19_live_t.toO rfl (by first | rfl | (simp only [NM]; done)) (by (repeat' apply And.intro) <;> first | trivial | rfl | omega | (simp only [NM]; omega)) (.inl rfl) (by exact Nat.le_of_ble_eq_true rfl) ?_
    try simp only [EVB, eqF, Op.operands, IntKind.bits, descF, sizeF, bytesF, zeroF, seval, reduceCtorEq, ↓reduceIte]
    exact Weak.sub' ⟨rfl, rfl, rfl, rfl, rfl, trivial⟩ trivial (Nat.le_of_ble_eq_true rfl)
   ·skip
    refine go_cond (by rfl) (fun h1 => ?_) (fun h1 => ?_)
    ·have gh1 := h1
     try simp only [GN, beq_iff_eq, beq_eq_false_iff_ne, bne_iff_ne, bne_eq_false_iff_eq] at gh1
     simp only [h1, cond_true, cond_false] at hx0
     refine go_seq ?_
     refine go_regionJ hR ⟨[(2, .c (.val (.bool false)))], [], 1⟩ ?_ ?_
     ·skip
      simp only [EVB, eqF, Op.operands, IntKind.bits, descF, sizeF, bytesF, zeroF, seval, reduceCtorEq, ↓reduceIte]
      exact Weak.sub' ⟨rfl, trivial⟩ trivial (Nat.le_of_ble_eq_true rfl)
     ·skip
      subst hx0
      refine go_return ttOk (fun _ h => h) rfl ?_ ?_
      ·exact (by (repeat' apply And.intro) <;> first | trivial | exact Nat.le_of_ble_eq_true rfl | omega | (simp only [NM]; omega))
      ·first | rfl | (simp only [NM, CELLS] <;> rfl)
    ·have gh1 := h1
     try simp only [GN, beq_iff_eq, beq_eq_false_iff_ne, bne_iff_ne, bne_eq_false_iff_eq] at gh1
     simp only [h1, cond_true, cond_false] at hx0
     refine go_skip ?_
     refine go_seq ?_
     obtain ⟨r2, hr2, hx0⟩ := letIn_ex hx0
     have Cr2 := (coord_New_o a0.Epoch a0.Id a0.Len a0.Vector (by (try simp only [SZD]); (repeat' apply And.intro) <;> first | assumption | omega | simp_all))
     simp only [hr2] at Cr2
     have zr2 := coord_New_sz a0.Epoch a0.Id a0.Len a0.Vector (by (try simp only [SZD]); (repeat' apply And.intro) <;> first | assumption | omega | simp_all)
     simp only [hr2, SZD, Spontoonlaw19_Begin.Sz] at zr2
     obtain ⟨zz8, ⟨zz9, zz10⟩⟩ := zr2
     have fr2 := new_len a0.Epoch a0.Id a0.Len a0.Vector
     simp only [hr2] at fr2
     refine go_regionJ hR ⟨[(3, .c (.val (.int .i64 a0.Epoch))), (4, .c (.val (.int .i64 a0.Id))), (5, .c (.val (.int .i64 a0.Len))), (6, .c (.sl (List.map cI64 a0.Vector))), (7, .ptr 2 0), (8, .c (.val (.int .i64 r2.2)))], [(1, .acc 1 (List.map cI64 r2.1.Vector) 2), (2, .box [.c (.val (.int .i64 r2.1.Phase)), .c (.val (.int .i64 r2.1.Epoch)), .c (.val (.int .i64 r2.1.Id)), .c (.val (.int .i64 r2.1.Len)), .own 1 1 0 r2.1.Vector.length, .c (.val (.int .i64 r2.1.Txn.Epoch)), .c (.val (.int .i64 r2.1.Txn.Id)), .c (.val (.int .i64 r2.1.Txn.Begin)), .c (.sl (List.map SRecord.cells r2.1.Txn.Records)), .c (.sl (List.map cI64 r2.1.Txn.Vector)), .c (.val (.int .i64 r2.1.Done)), .c (.val (.int .i64 r2.1.Left))] 30)], 3⟩ ?_ ?_
     ·skip
      simp only [EVB, eqF, Op.operands, IntKind.bits, descF, sizeF, bytesF, zeroF, seval, reduceCtorEq, ↓reduceIte]
      refine CallK.freshE Cr2 rfl (by first | rfl | (simp only [NM]; done)) (by (repeat' apply And.intro) <;> first | trivial | rfl | omega | (simp only [NM]; omega)) (.inl rfl) (by exact Nat.le_of_ble_eq_true rfl) ?_
      try simp only [EVB, eqF, Op.operands, IntKind.bits, descF, sizeF, bytesF, zeroF, seval, reduceCtorEq, ↓reduceIte]
      exact Weak.sub' ⟨rfl, rfl, rfl, rfl, rfl, rfl, trivial⟩ ⟨rfl, rfl, trivial⟩ (Nat.le_of_ble_eq_true rfl)
     ·skip
      refine go_seq ?_
      obtain ⟨r3, hr3, hx0⟩ := letIn_ex hx0
      have Cr3 := (pontoonref19_New_t a0.Epoch a0.Id a0.Len a0.Vector (by (try simp only [SZD]); (repeat' apply And.intro) <;> first | assumption | omega | simp_all))
      simp only [hr3] at Cr3
      have zr3 := pontoonref19_New_sz a0.Epoch a0.Id a0.Len a0.Vector (by (try simp only [SZD]); (repeat' apply And.intro) <;> first | assumption | omega | simp_all)
      simp only [hr3, SZD, Spontoonlaw19_Begin.Sz] at zr3
      obtain ⟨zz11, ⟨zz12, zz13⟩⟩ := zr3
      refine go_regionJ hR ⟨[(6, .c (.sl (List.map cI64 a0.Vector))), (7, .ptr 2 0), (8, .c (.val (.int .i64 r2.2))), (9, .ptr 3 0), (10, .c (.val (.int .i64 r3.2)))], [(1, .acc 1 (List.map cI64 r2.1.Vector) 2), (2, .box [.c (.val (.int .i64 r2.1.Phase)), .c (.val (.int .i64 r2.1.Epoch)), .c (.val (.int .i64 r2.1.Id)), .c (.val (.int .i64 r2.1.Len)), .own 1 1 0 r2.1.Vector.length, .c (.val (.int .i64 r2.1.Txn.Epoch)), .c (.val (.int .i64 r2.1.Txn.Id)), .c (.val (.int .i64 r2.1.Txn.Begin)), .c (.sl (List.map SRecord.cells r2.1.Txn.Records)), .c (.sl (List.map cI64 r2.1.Txn.Vector)), .c (.val (.int .i64 r2.1.Done)), .c (.val (.int .i64 r2.1.Left))] 30), (3, .box [.c (.val (.int .i64 r3.1.Phase)), .c (.val (.int .i64 r3.1.Epoch)), .c (.val (.int .i64 r3.1.Id)), .c (.val (.int .i64 r3.1.Len)), .c (.sl (List.map cI64 r3.1.Vector)), .c (.val (.int .i64 r3.1.Txn.Epoch)), .c (.val (.int .i64 r3.1.Txn.Id)), .c (.val (.int .i64 r3.1.Txn.Begin)), .c (.sl (List.map SRecord.cells r3.1.Txn.Records)), .c (.sl (List.map cI64 r3.1.Txn.Vector)), .c (.val (.int .i64 r3.1.Done)), .c (.val (.int .i64 r3.1.Left))] 30)], 4⟩ ?_ ?_
      ·skip
       simp only [EVB, eqF, Op.operands, IntKind.bits, descF, sizeF, bytesF, zeroF, seval, reduceCtorEq, ↓reduceIte]
       refine CallK.freshE Cr3.toO rfl (by first | rfl | (simp only [NM]; done)) (by (repeat' apply And.intro) <;> first | trivial | rfl | omega | (simp only [NM]; omega)) (.inl rfl) (by exact Nat.le_of_ble_eq_true rfl) ?_
       try simp only [EVB, eqF, Op.operands, IntKind.bits, descF, sizeF, bytesF, zeroF, seval, reduceCtorEq, ↓reduceIte]
       exact Weak.sub' ⟨rfl, rfl, rfl, rfl, rfl, trivial⟩ ⟨rfl, rfl, rfl, trivial⟩ (Nat.le_of_ble_eq_true rfl)
      ·skip
       refine go_seq ?_
       refine go_seq ?_
       refine go_regionJ hR ⟨[(6, .c (.sl (List.map cI64 a0.Vector))), (7, .ptr 2 0), (8, .c (.val (.int .i64 r2.2))), (46, .c (.val (.bool ((r2.2 != r3.2) || (!(pontoonref19_Same r2.1 r3.1))))))], [(1, .acc 1 (List.map cI64 r2.1.Vector) 2), (2, .box [.c (.val (.int .i64 r2.1.Phase)), .c (.val (.int .i64 r2.1.Epoch)), .c (.val (.int .i64 r2.1.Id)), .c (.val (.int .i64 r2.1.Len)), .own 1 1 0 r2.1.Vector.length, .c (.val (.int .i64 r2.1.Txn.Epoch)), .c (.val (.int .i64 r2.1.Txn.Id)), .c (.val (.int .i64 r2.1.Txn.Begin)), .c (.sl (List.map SRecord.cells r2.1.Txn.Records)), .c (.sl (List.map cI64 r2.1.Txn.Vector)), .c (.val (.int .i64 r2.1.Done)), .c (.val (.int .i64 r2.1.Left))] 30)], 4⟩ ?_ ?_
       ·skip
        rcases Bool.eq_false_or_eq_true (r2.2 != r3.2) with h4 | h4
        ·simp only [h4, EVB, eqF, Op.operands, IntKind.bits, descF, sizeF, bytesF, zeroF, seval, reduceCtorEq, ↓reduceIte]
         try simp only [h4, BM]
         exact Weak.sub' ⟨rfl, rfl, rfl, rfl, trivial⟩ ⟨rfl, rfl, trivial⟩ (Nat.le_of_ble_eq_true rfl)
        ·simp only [h4, EVB, eqF, Op.operands, IntKind.bits, descF, sizeF, bytesF, zeroF, seval, reduceCtorEq, ↓reduceIte]
         refine CallK.freshE (pontoonref19_Same_t r2.1 r3.1).toO rfl (by first | rfl | (simp only [NM]; done)) (by (repeat' apply And.intro) <;> first | trivial | rfl | omega | (simp only [NM]; omega)) (.inr ⟨by simp [flatAV, flatLs], trivial⟩) (by exact Nat.le_of_ble_eq_true rfl) ?_
         try simp only [h4, EVB, eqF, Op.operands, IntKind.bits, descF, sizeF, bytesF, zeroF, seval, reduceCtorEq, ↓reduceIte]
         try simp only [h4, BM]
         exact Weak.sub' ⟨rfl, rfl, rfl, rfl, trivial⟩ ⟨rfl, rfl, trivial⟩ (Nat.le_of_ble_eq_true rfl)
       ·skip
        refine go_cond (by rfl) (fun h5 => ?_) (fun h5 => ?_)
        ·have gh5 := h5
         try simp only [GN, beq_iff_eq, beq_eq_false_iff_ne, bne_iff_ne, bne_eq_false_iff_eq] at gh5
         simp only [h5, cond_true, cond_false] at hx0
         refine go_seq ?_
         refine go_regionJ hR ⟨[(2, .c (.val (.bool false)))], [], 4⟩ ?_ ?_
         ·skip
          simp only [EVB, eqF, Op.operands, IntKind.bits, descF, sizeF, bytesF, zeroF, seval, reduceCtorEq, ↓reduceIte]
          exact Weak.sub' ⟨rfl, trivial⟩ trivial (Nat.le_of_ble_eq_true rfl)
         ·skip
          subst hx0
          refine go_return ttOk (fun _ h => h) rfl ?_ ?_
          ·exact (by (repeat' apply And.intro) <;> first | trivial | exact Nat.le_of_ble_eq_true rfl | omega | (simp only [NM]; omega))
          ·first | rfl | (simp only [NM, CELLS] <;> rfl)
        ·have gh5 := h5
         try simp only [GN, beq_iff_eq, beq_eq_false_iff_ne, bne_iff_ne, bne_eq_false_iff_eq] at gh5
         simp only [h5, cond_true, cond_false] at hx0
         refine go_skip ?_
         refine go_seq ?_
         refine go_seq ?_
         refine go_regionJ hR ⟨[(6, .c (.sl (List.map cI64 a0.Vector))), (7, .ptr 2 0), (48, .c (.val (.bool (r2.2 == 0))))], [(1, .acc 1 (List.map cI64 r2.1.Vector) 2), (2, .box [.c (.val (.int .i64 r2.1.Phase)), .c (.val (.int .i64 r2.1.Epoch)), .c (.val (.int .i64 r2.1.Id)), .c (.val (.int .i64 r2.1.Len)), .own 1 1 0 r2.1.Vector.length, .c (.val (.int .i64 r2.1.Txn.Epoch)), .c (.val (.int .i64 r2.1.Txn.Id)), .c (.val (.int .i64 r2.1.Txn.Begin)), .c (.sl (List.map SRecord.cells r2.1.Txn.Records)), .c (.sl (List.map cI64 r2.1.Txn.Vector)), .c (.val (.int .i64 r2.1.Done)), .c (.val (.int .i64 r2.1.Left))] 30)], 4⟩ ?_ ?_
         ·skip
          simp only [EVB, eqF, Op.operands, IntKind.bits, descF, sizeF, bytesF, zeroF, seval, reduceCtorEq, ↓reduceIte]
          exact Weak.sub' ⟨rfl, rfl, rfl, trivial⟩ ⟨rfl, rfl, trivial⟩ (Nat.le_of_ble_eq_true rfl)
         ·skip
          refine go_cond (by rfl) (fun h6 => ?_) (fun h6 => ?_)
          ·have gh6 := h6
           try simp only [GN, beq_iff_eq, beq_eq_false_iff_ne, bne_iff_ne, bne_eq_false_iff_eq] at gh6
           simp only [h6, cond_true, cond_false] at hx0
           refine go_seq ?_
           refine go_regionJ hR ⟨[(6, .c (.sl (List.map cI64 a0.Vector))), (7, .ptr 2 0), (11, .own 4 1 0 a0.Vector.length)], [(1, .acc 1 (List.map cI64 r2.1.Vector) 2), (2, .box [.c (.val (.int .i64 r2.1.Phase)), .c (.val (.int .i64 r2.1.Epoch)), .c (.val (.int .i64 r2.1.Id)), .c (.val (.int .i64 r2.1.Len)), .own 1 1 0 r2.1.Vector.length, .c (.val (.int .i64 r2.1.Txn.Epoch)), .c (.val (.int .i64 r2.1.Txn.Id)), .c (.val (.int .i64 r2.1.Txn.Begin)), .c (.sl (List.map SRecord.cells r2.1.Txn.Records)), .c (.sl (List.map cI64 r2.1.Txn.Vector)), .c (.val (.int .i64 r2.1.Done)), .c (.val (.int .i64 r2.1.Left))] 30), (4, .acc 1 (List.map cI64 a0.Vector) 2)], 5⟩ ?_ ?_
           ·skip
            simp only [EVB, eqF, Op.operands, IntKind.bits, descF, sizeF, bytesF, zeroF, seval, reduceCtorEq, ↓reduceIte]
            refine ⟨(by (repeat' apply And.intro) <;> first | trivial | rfl | exact Nat.le_of_ble_eq_true rfl | omega | (intro u hu; obtain ⟨x, _, rfl⟩ := List.mem_map.1 hu; rfl) | (intro u hu; simp only [List.mem_cons, List.not_mem_nil, or_false] at hu; subst hu; rfl) | (simp only [NM]; omega) | (simp; done)), ?_⟩
            try simp only [BM, NM, CELLS]
            exact Weak.sub' ⟨rfl, rfl, rfl, trivial⟩ ⟨rfl, rfl, rfl, trivial⟩ (Nat.le_of_ble_eq_true rfl)
           ·skip
            refine go_seq ?_
            refine go_regionJ hR ⟨[(6, .c (.sl (List.map cI64 a0.Vector))), (11, .own 4 1 0 a0.Vector.length)], [(4, .acc 1 (List.map cI64 a0.Vector) 2)], 5⟩ ?_ ?_
            ·skip
             have bq14 : 0 < r2.1.Vector.length := by omega
             have q14 := map_getD cI64 r2.1.Vector 0 default bq14
             have bq15 : 0 < r2.1.Vector.length := by omega
             have q15 := map_getD cI64 r2.1.Vector 0 default bq15
             simp only [q14, q15, EVB, eqF, Op.operands, IntKind.bits, descF, sizeF, bytesF, zeroF, seval, reduceCtorEq, ↓reduceIte, CELLS]
             refine ⟨(by (repeat' apply And.intro) <;> first | trivial | rfl | exact Nat.le_of_ble_eq_true rfl | omega | (intro u hu; obtain ⟨x, _, rfl⟩ := List.mem_map.1 hu; rfl) | (intro u hu; simp only [List.mem_cons, List.not_mem_nil, or_false] at hu; subst hu; rfl) | (simp only [NM]; omega) | (simp; done)), ?_⟩
             refine ⟨(by (repeat' apply And.intro) <;> first | trivial | rfl | exact Nat.le_of_ble_eq_true rfl | omega | (intro u hu; obtain ⟨x, _, rfl⟩ := List.mem_map.1 hu; rfl) | (intro u hu; simp only [List.mem_cons, List.not_mem_nil, or_false] at hu; subst hu; rfl) | (simp only [NM]; omega) | (simp; done)), ?_⟩
             refine ⟨(by (repeat' apply And.intro) <;> first | trivial | rfl | exact Nat.le_of_ble_eq_true rfl | omega | (intro u hu; obtain ⟨x, _, rfl⟩ := List.mem_map.1 hu; rfl) | (intro u hu; simp only [List.mem_cons, List.not_mem_nil, or_false] at hu; subst hu; rfl) | (simp only [NM]; omega) | (simp; done)), ?_⟩
             refine ⟨(by (repeat' apply And.intro) <;> first | trivial | rfl | exact Nat.le_of_ble_eq_true rfl | omega | (intro u hu; obtain ⟨x, _, rfl⟩ := List.mem_map.1 hu; rfl) | (intro u hu; simp only [List.mem_cons, List.not_mem_nil, or_false] at hu; subst hu; rfl) | (simp only [NM]; omega) | (simp; done)), ?_⟩
             try simp only [BM, NM, CELLS, setElem, List.map_set, List.take_zero, List.nil_append, List.append_nil]
             exact Weak.sub' ⟨rfl, rfl, trivial⟩ ⟨rfl, trivial⟩ (Nat.le_of_ble_eq_true rfl)
            ·skip
             refine go_seq ?_
             refine go_regionJ hR ⟨[(2, .c (.val (.bool (pontoonref15_SameInts a0.Vector a0.Vector))))], [], 5⟩ ?_ ?_
             ·skip
              simp only [EVB, eqF, Op.operands, IntKind.bits, descF, sizeF, bytesF, zeroF, seval, reduceCtorEq, ↓reduceIte]
              refine CallK.freshE (pontoonref15_SameInts_t a0.Vector a0.Vector).toO rfl (by first | rfl | (simp only [NM]; done)) (by (repeat' apply And.intro) <;> first | trivial | rfl | omega | (simp only [NM]; omega)) (.inr ⟨by simp [flatAV, flatLs], trivial⟩) (by exact Nat.le_of_ble_eq_true rfl) ?_
              try simp only [EVB, eqF, Op.operands, IntKind.bits, descF, sizeF, bytesF, zeroF, seval, reduceCtorEq, ↓reduceIte]
              exact Weak.sub' ⟨rfl, trivial⟩ trivial (Nat.le_of_ble_eq_true rfl)
             ·skip
              subst hx0
              refine go_return ttOk (fun _ h => h) rfl ?_ ?_
              ·exact (by (repeat' apply And.intro) <;> first | trivial | exact Nat.le_of_ble_eq_true rfl | omega | (simp only [NM]; omega))
              ·first | rfl | (simp only [NM, CELLS] <;> rfl)
          ·have gh6 := h6
           try simp only [GN, beq_iff_eq, beq_eq_false_iff_ne, bne_iff_ne, bne_eq_false_iff_eq] at gh6
           simp only [h6, cond_true, cond_false] at hx0
           refine go_skip ?_
           refine go_seq ?_
           refine go_regionJ hR ⟨[(2, .c (.val (.bool true)))], [], 4⟩ ?_ ?_
           ·skip
            simp only [EVB, eqF, Op.operands, IntKind.bits, descF, sizeF, bytesF, zeroF, seval, reduceCtorEq, ↓reduceIte]
            exact Weak.sub' ⟨rfl, trivial⟩ trivial (Nat.le_of_ble_eq_true rfl)
           ·skip
            subst hx0
            refine go_return ttOk (fun _ h => h) rfl ?_ ?_
            ·exact (by (repeat' apply And.intro) <;> first | trivial | exact Nat.le_of_ble_eq_true rfl | omega | (simp only [NM]; omega))
            ·first | rfl | (simp only [NM, CELLS] <;> rfl)
end Go.Ab.Try
