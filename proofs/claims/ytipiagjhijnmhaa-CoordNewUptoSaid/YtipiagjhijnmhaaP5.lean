/-
  Functions, and what they compute: printed by wg.py, a program of this work.
-/
import Derived.Test.YtipiagjhijnmhaaP0
import Derived.Test.YtipiagjhijnmhaaP2
import Derived.Test.YtipiagjhijnmhaaP3
set_option linter.unusedVariables false
set_option linter.unusedSimpArgs false
namespace Go.Ab.Try
open Go Go.Proofs Go.Ab

def pontoonlaw19_small (a0 : Int) (a1 : Int) (a2 : Int) : SManifest :=
  (SManifest.mk a0 a1 [a2] a2 a2 [] [(SPiece.mk 1 0)] 0)
set_option maxRecDepth 10000 in
set_option maxHeartbeats 8000000 in
theorem pontoonlaw19_small_t (a0 : Int) (a1 : Int) (a2 : Int) : FnP Try.prog 31 [.c (.val (.int .i64 a0)), .c (.val (.int .i64 a1)), .c (.val (.int .i64 a2))] (.agg [.c (.val (.int .i64 ((pontoonlaw19_small a0 a1 a2).Epoch))), .c (.val (.int .i64 ((pontoonlaw19_small a0 a1 a2).Id))), .c (.sl (List.map cI64 ((pontoonlaw19_small a0 a1 a2).Vector))), .c (.val (.int .i64 ((pontoonlaw19_small a0 a1 a2).Out))), .c (.val (.int .i64 ((pontoonlaw19_small a0 a1 a2).Begin))), .c (.sl (List.map SRecord.cells ((pontoonlaw19_small a0 a1 a2).Records))), .c (.sl (List.map SPiece.cells ((pontoonlaw19_small a0 a1 a2).Pieces))), .c (.val (.int .u32 ((pontoonlaw19_small a0 a1 a2).Graph)))]) := by
 refine FnP.intro (tt := tt) Try.func31 rfl (by kernel_rfl) (by simp [Try.ntmps31]) fun w0 A hA => ?_
 have hR := reckB_ok eqOk ttOk
 obtain ⟨res, hx0⟩ : ∃ r, pontoonlaw19_small a0 a1 a2 = r := ⟨_, rfl⟩
 simp only [hx0]
 unfold pontoonlaw19_small at hx0
 simp only [argT, Try.ntmps31]
 refine go_seq ?_
 refine go_regionJ hR ⟨[(0, .c (.val (.int .i64 a0))), (1, .c (.val (.int .i64 a1))), (2, .c (.val (.int .i64 a2))), (6, .ptr 0 0)], [(0, .box [.c (.val (.int .i64 0)), .c (.val (.int .i64 0)), .c (.val (.slice none 0 0)), .c (.val (.int .i64 0)), .c (.val (.int .i64 0)), .c (.val (.slice none 0 0)), .c (.val (.slice none 0 0)), .c (.val (.int .u32 0))] 41)], 1⟩ ?_ ?_
 ·skip
  simp only [EVB, eqF, Op.operands, IntKind.bits, descF, sizeF, bytesF, zeroF, seval, reduceCtorEq, ↓reduceIte]
  exact Weak.sub' ⟨rfl, rfl, rfl, rfl, trivial⟩ ⟨rfl, trivial⟩ (Nat.le_of_ble_eq_true rfl)
 ·skip
  refine go_seq ?_
  refine go_regionJ hR ⟨[(6, .ptr 0 0)], [(0, .box [.c (.val (.int .i64 a0)), .c (.val (.int .i64 a1)), .own 1 1 0 1, .c (.val (.int .i64 a2)), .c (.val (.int .i64 a2)), .c (.val (.slice none 0 0)), .own 2 2 0 1, .c (.val (.int .u32 0))] 41), (1, .acc 1 (List.map cI64 [a2]) 2), (2, .acc 2 (List.map SPiece.cells [(SPiece.mk 1 0)]) 111)], 3⟩ ?_ ?_
  ·skip
   simp only [EVB, eqF, Op.operands, IntKind.bits, descF, sizeF, bytesF, zeroF, seval, reduceCtorEq, ↓reduceIte]
   refine ⟨(by (repeat' apply And.intro) <;> first | trivial | rfl | exact Nat.le_of_ble_eq_true rfl | omega | (intro u hu; obtain ⟨x, _, rfl⟩ := List.mem_map.1 hu; rfl) | (intro u hu; simp only [List.mem_cons, List.not_mem_nil, or_false] at hu; subst hu; rfl) | (simp only [NM]; omega) | (simp; done)), ?_⟩
   refine ⟨(by (repeat' apply And.intro) <;> first | trivial | rfl | exact Nat.le_of_ble_eq_true rfl | omega | (intro u hu; obtain ⟨x, _, rfl⟩ := List.mem_map.1 hu; rfl) | (intro u hu; simp only [List.mem_cons, List.not_mem_nil, or_false] at hu; subst hu; rfl) | (simp only [NM]; omega) | (simp; done)), ?_⟩
   try simp only [BM, NM, CELLS]
   exact Weak.sub' ⟨rfl, trivial⟩ ⟨rfl, rfl, rfl, trivial⟩ (Nat.le_of_ble_eq_true rfl)
  ·skip
   subst hx0
   refine go_return ttOk (fun _ h => h) rfl ?_ ?_
   ·exact (by (repeat' apply And.intro) <;> first | trivial | exact Nat.le_of_ble_eq_true rfl | omega | (simp only [NM]; omega))
   ·first | rfl | (simp only [NM, CELLS] <;> rfl)
theorem pontoonlaw19_small_sz (a0 : Int) (a1 : Int) (a2 : Int) : SManifest.Sz (pontoonlaw19_small a0 a1 a2) := by
 obtain ⟨res, hx0⟩ : ∃ r, pontoonlaw19_small a0 a1 a2 = r := ⟨_, rfl⟩
 simp only [hx0]
 unfold pontoonlaw19_small at hx0
 subst hx0
 exact (by (try simp only [SZD]); (repeat' apply And.intro) <;> first | assumption | omega | simp_all)

def pontoonlaw19_live : Bool :=
  letIn (coord_New 3 0 0 [0]) fun r1 => letIn (coord_Trigger r1.1) fun r2 => letIn (coord_Snapped r2.1 1) fun r3 => letIn (pontoonlaw19_small 3 1 0) fun r4 => letIn (coord_Published r3.1 r4) fun r5 => letIn (coord_Answered r5.1 3 (STxnKey.mk 3 1) 0 0 [0]) fun r6 => letIn (coord_Answered r6.1 4 (STxnKey.mk 3 1) 0 0 [0]) fun r7 => (((((((((r1.2 == 0) && (r2.2.Kind == 1)) && (r2.2.Id == 1)) && (r3.2.Kind == 2)) && (r5.2.Kind == 3)) && (r6.2.Kind == 4)) && (r7.2.Kind == 5)) && (r7.1.Phase == 0)) && (r7.1.Done == 1))
set_option maxRecDepth 10000 in
set_option maxHeartbeats 8000000 in
theorem pontoonlaw19_live_t : FnP Try.prog 10 [] (.c (.val (.bool pontoonlaw19_live))) := by
 refine FnP.intro (tt := tt) Try.func10 rfl (by kernel_rfl) (by simp [Try.ntmps10]) fun w0 A hA => ?_
 have hR := reckB_ok eqOk ttOk
 obtain ⟨res, hx0⟩ : ∃ r, pontoonlaw19_live = r := ⟨_, rfl⟩
 simp only [hx0]
 unfold pontoonlaw19_live at hx0
 simp only [argT, Try.ntmps10]
 refine go_seq ?_
 refine go_regionJ hR ⟨[], [], 0⟩ ?_ ?_
 ·skip
  simp only [EVB, eqF, Op.operands, IntKind.bits, descF, sizeF, bytesF, zeroF, seval, reduceCtorEq, ↓reduceIte]
  exact Weak.sub' trivial trivial (Nat.le_of_ble_eq_true rfl)
 ·skip
  refine go_seq ?_
  obtain ⟨r1, hr1, hx0⟩ := letIn_ex hx0
  have Cr1 := (coord_New_t 3 0 0 [0] (by (try simp only [SZD]); (repeat' apply And.intro) <;> first | assumption | omega | simp_all))
  simp only [hr1] at Cr1
  have zr1 := coord_New_sz 3 0 0 [0] (by (try simp only [SZD]); (repeat' apply And.intro) <;> first | assumption | omega | simp_all)
  simp only [hr1, SZD] at zr1
  obtain ⟨zz16, ⟨zz17, zz18⟩⟩ := zr1
  refine go_regionJ hR ⟨[(1, .ptr 1 0), (2, .c (.val (.int .i64 r1.2)))], [(1, .box [.c (.val (.int .i64 r1.1.Phase)), .c (.val (.int .i64 r1.1.Epoch)), .c (.val (.int .i64 r1.1.Id)), .c (.val (.int .i64 r1.1.Len)), .c (.sl (List.map cI64 r1.1.Vector)), .c (.val (.int .i64 r1.1.Txn.Epoch)), .c (.val (.int .i64 r1.1.Txn.Id)), .c (.val (.int .i64 r1.1.Txn.Begin)), .c (.sl (List.map SRecord.cells r1.1.Txn.Records)), .c (.sl (List.map cI64 r1.1.Txn.Vector)), .c (.val (.int .i64 r1.1.Done)), .c (.val (.int .i64 r1.1.Left))] 30)], 2⟩ ?_ ?_
  ·skip
   simp only [EVB, eqF, Op.operands, IntKind.bits, descF, sizeF, bytesF, zeroF, seval, reduceCtorEq, ↓reduceIte]
   refine ⟨(by (repeat' apply And.intro) <;> first | trivial | rfl | exact Nat.le_of_ble_eq_true rfl | omega | (intro u hu; obtain ⟨x, _, rfl⟩ := List.mem_map.1 hu; rfl) | (intro u hu; simp only [List.mem_cons, List.not_mem_nil, or_false] at hu; subst hu; rfl) | (simp only [NM]; omega) | (simp; done)), ?_⟩
   refine CallK.close 0 rfl rfl (by (repeat' apply And.intro) <;> first | trivial | rfl | exact Nat.le_of_ble_eq_true rfl | omega | (intro u hu; obtain ⟨x, _, rfl⟩ := List.mem_map.1 hu; rfl) | (intro u hu; simp only [List.mem_cons, List.not_mem_nil, or_false] at hu; subst hu; rfl) | (simp only [NM]; omega) | (simp; done)) ?_
   refine CallK.freshE Cr1.toO rfl (by first | rfl | (simp only [NM]; done)) (by (repeat' apply And.intro) <;> first | trivial | rfl | omega | (simp only [NM]; omega)) (.inl rfl) (by exact Nat.le_of_ble_eq_true rfl) ?_
   try simp only [EVB, eqF, Op.operands, IntKind.bits, descF, sizeF, bytesF, zeroF, seval, reduceCtorEq, ↓reduceIte]
   try simp only [BM, NM, CELLS]
   exact Weak.sub' ⟨rfl, rfl, trivial⟩ ⟨rfl, trivial⟩ (Nat.le_of_ble_eq_true rfl)
  ·skip
   refine go_seq ?_
   obtain ⟨r2, hr2, hx0⟩ := letIn_ex hx0
   have Cr2 := (coord_Trigger_t r1.1 (by (try simp only [SZD]); (repeat' apply And.intro) <;> first | assumption | omega | simp_all))
   simp only [hr2] at Cr2
   have zr2 := coord_Trigger_sz r1.1 (by (try simp only [SZD]); (repeat' apply And.intro) <;> first | assumption | omega | simp_all)
   simp only [hr2, SZD] at zr2
   obtain ⟨⟨zz19, ⟨zz20, zz21⟩⟩, ⟨zz22, zz23⟩⟩ := zr2
   refine go_regionJ hR ⟨[(1, .ptr 1 0), (2, .c (.val (.int .i64 r1.2))), (3, .ptr 2 0)], [(1, .box [.c (.val (.int .i64 r2.1.Phase)), .c (.val (.int .i64 r2.1.Epoch)), .c (.val (.int .i64 r2.1.Id)), .c (.val (.int .i64 r2.1.Len)), .c (.sl (List.map cI64 r2.1.Vector)), .c (.val (.int .i64 r2.1.Txn.Epoch)), .c (.val (.int .i64 r2.1.Txn.Id)), .c (.val (.int .i64 r2.1.Txn.Begin)), .c (.sl (List.map SRecord.cells r2.1.Txn.Records)), .c (.sl (List.map cI64 r2.1.Txn.Vector)), .c (.val (.int .i64 r2.1.Done)), .c (.val (.int .i64 r2.1.Left))] 30), (2, .box [.c (.val (.int .i64 r2.2.Kind)), .c (.val (.int .i64 r2.2.Id)), .c (.val (.int .i64 r2.2.Begin)), .c (.val (.int .i64 r2.2.Txn.Epoch)), .c (.val (.int .i64 r2.2.Txn.Id)), .c (.val (.int .i64 r2.2.Txn.Begin)), .c (.sl (List.map SRecord.cells r2.2.Txn.Records)), .c (.sl (List.map cI64 r2.2.Txn.Vector))] 48)], 3⟩ ?_ ?_
   ·skip
    simp only [EVB, eqF, Op.operands, IntKind.bits, descF, sizeF, bytesF, zeroF, seval, reduceCtorEq, ↓reduceIte]
    refine CallK.freshE Cr2.toO rfl (by first | rfl | (simp only [NM]; done)) (by (repeat' apply And.intro) <;> first | trivial | rfl | omega | (simp only [NM]; omega)) (.inl rfl) (by exact Nat.le_of_ble_eq_true rfl) ?_
    try simp only [EVB, eqF, Op.operands, IntKind.bits, descF, sizeF, bytesF, zeroF, seval, reduceCtorEq, ↓reduceIte]
    exact Weak.sub' ⟨rfl, rfl, rfl, trivial⟩ ⟨rfl, rfl, trivial⟩ (Nat.le_of_ble_eq_true rfl)
   ·skip
    refine go_seq ?_
    obtain ⟨r3, hr3, hx0⟩ := letIn_ex hx0
    have Cr3 := (coord_Snapped_t r2.1 1 (by (try simp only [SZD]); (repeat' apply And.intro) <;> first | assumption | omega | simp_all))
    simp only [hr3] at Cr3
    have zr3 := coord_Snapped_sz r2.1 1 (by (try simp only [SZD]); (repeat' apply And.intro) <;> first | assumption | omega | simp_all)
    simp only [hr3, SZD] at zr3
    obtain ⟨⟨zz24, ⟨zz25, zz26⟩⟩, ⟨zz27, zz28⟩⟩ := zr3
    refine go_regionJ hR ⟨[(1, .ptr 1 0), (2, .c (.val (.int .i64 r1.2))), (3, .ptr 2 0), (4, .ptr 3 0)], [(1, .box [.c (.val (.int .i64 r3.1.Phase)), .c (.val (.int .i64 r3.1.Epoch)), .c (.val (.int .i64 r3.1.Id)), .c (.val (.int .i64 r3.1.Len)), .c (.sl (List.map cI64 r3.1.Vector)), .c (.val (.int .i64 r3.1.Txn.Epoch)), .c (.val (.int .i64 r3.1.Txn.Id)), .c (.val (.int .i64 r3.1.Txn.Begin)), .c (.sl (List.map SRecord.cells r3.1.Txn.Records)), .c (.sl (List.map cI64 r3.1.Txn.Vector)), .c (.val (.int .i64 r3.1.Done)), .c (.val (.int .i64 r3.1.Left))] 30), (2, .box [.c (.val (.int .i64 r2.2.Kind)), .c (.val (.int .i64 r2.2.Id)), .c (.val (.int .i64 r2.2.Begin)), .c (.val (.int .i64 r2.2.Txn.Epoch)), .c (.val (.int .i64 r2.2.Txn.Id)), .c (.val (.int .i64 r2.2.Txn.Begin)), .c (.sl (List.map SRecord.cells r2.2.Txn.Records)), .c (.sl (List.map cI64 r2.2.Txn.Vector))] 48), (3, .box [.c (.val (.int .i64 r3.2.Kind)), .c (.val (.int .i64 r3.2.Id)), .c (.val (.int .i64 r3.2.Begin)), .c (.val (.int .i64 r3.2.Txn.Epoch)), .c (.val (.int .i64 r3.2.Txn.Id)), .c (.val (.int .i64 r3.2.Txn.Begin)), .c (.sl (List.map SRecord.cells r3.2.Txn.Records)), .c (.sl (List.map cI64 r3.2.Txn.Vector))] 48)], 4⟩ ?_ ?_
    ·skip
     simp only [EVB, eqF, Op.operands, IntKind.bits, descF, sizeF, bytesF, zeroF, seval, reduceCtorEq, ↓reduceIte]
     refine CallK.freshE Cr3.toO rfl (by first | rfl | (simp only [NM]; done)) (by (repeat' apply And.intro) <;> first | trivial | rfl | omega | (simp only [NM]; omega)) (.inl rfl) (by exact Nat.le_of_ble_eq_true rfl) ?_
     try simp only [EVB, eqF, Op.operands, IntKind.bits, descF, sizeF, bytesF, zeroF, seval, reduceCtorEq, ↓reduceIte]
     exact Weak.sub' ⟨rfl, rfl, rfl, rfl, trivial⟩ ⟨rfl, rfl, rfl, trivial⟩ (Nat.le_of_ble_eq_true rfl)
    ·skip
     refine go_seq ?_
     obtain ⟨r4, hr4, hx0⟩ := letIn_ex hx0
     have Cr4 := (pontoonlaw19_small_t 3 1 0)
     simp only [hr4] at Cr4
     have zr4 := pontoonlaw19_small_sz 3 1 0
     simp only [hr4, SZD] at zr4
     obtain ⟨zz29, zz30, zz31⟩ := zr4
     obtain ⟨r5, hr5, hx0⟩ := letIn_ex hx0
     have Cr5 := (coord_Published_t r3.1 r4 (by (try simp only [SZD]); (repeat' apply And.intro) <;> first | assumption | omega | simp_all) (by (try simp only [SZD]); (repeat' apply And.intro) <;> first | assumption | omega | simp_all))
     simp only [hr5] at Cr5
     have zr5 := coord_Published_sz r3.1 r4 (by (try simp only [SZD]); (repeat' apply And.intro) <;> first | assumption | omega | simp_all) (by (try simp only [SZD]); (repeat' apply And.intro) <;> first | assumption | omega | simp_all)
     simp only [hr5, SZD] at zr5
     obtain ⟨⟨zz32, ⟨zz33, zz34⟩⟩, ⟨zz35, zz36⟩⟩ := zr5
     refine go_drawJ hR rfl ⟨[(1, .ptr 1 0), (2, .c (.val (.int .i64 r1.2))), (3, .ptr 2 0), (4, .ptr 3 0), (5, .ptr 4 0)], [(1, .box [.c (.val (.int .i64 r5.1.Phase)), .c (.val (.int .i64 r5.1.Epoch)), .c (.val (.int .i64 r5.1.Id)), .c (.val (.int .i64 r5.1.Len)), .c (.sl (List.map cI64 r5.1.Vector)), .c (.val (.int .i64 r5.1.Txn.Epoch)), .c (.val (.int .i64 r5.1.Txn.Id)), .c (.val (.int .i64 r5.1.Txn.Begin)), .c (.sl (List.map SRecord.cells r5.1.Txn.Records)), .c (.sl (List.map cI64 r5.1.Txn.Vector)), .c (.val (.int .i64 r5.1.Done)), .c (.val (.int .i64 r5.1.Left))] 30), (2, .box [.c (.val (.int .i64 r2.2.Kind)), .c (.val (.int .i64 r2.2.Id)), .c (.val (.int .i64 r2.2.Begin)), .c (.val (.int .i64 r2.2.Txn.Epoch)), .c (.val (.int .i64 r2.2.Txn.Id)), .c (.val (.int .i64 r2.2.Txn.Begin)), .c (.sl (List.map SRecord.cells r2.2.Txn.Records)), .c (.sl (List.map cI64 r2.2.Txn.Vector))] 48), (3, .box [.c (.val (.int .i64 r3.2.Kind)), .c (.val (.int .i64 r3.2.Id)), .c (.val (.int .i64 r3.2.Begin)), .c (.val (.int .i64 r3.2.Txn.Epoch)), .c (.val (.int .i64 r3.2.Txn.Id)), .c (.val (.int .i64 r3.2.Txn.Begin)), .c (.sl (List.map SRecord.cells r3.2.Txn.Records)), .c (.sl (List.map cI64 r3.2.Txn.Vector))] 48), (4, .box [.c (.val (.int .i64 r5.2.Kind)), .c (.val (.int .i64 r5.2.Id)), .c (.val (.int .i64 r5.2.Begin)), .c (.val (.int .i64 r5.2.Txn.Epoch)), .c (.val (.int .i64 r5.2.Txn.Id)), .c (.val (.int .i64 r5.2.Txn.Begin)), .c (.sl (List.map SRecord.cells r5.2.Txn.Records)), .c (.sl (List.map cI64 r5.2.Txn.Vector))] 48)], 5⟩ ?_ ?_
     ·skip
      simp only [EVB, eqF, Op.operands, IntKind.bits, descF, sizeF, bytesF, zeroF, seval, reduceCtorEq, ↓reduceIte]
      refine CallD.fresh Cr4.toO rfl (by first | rfl | (simp only [NM]; done)) (by (repeat' apply And.intro) <;> first | trivial | rfl | omega | (simp only [NM]; omega)) (.inl rfl) ?_
      try simp only [EVB, eqF, Op.operands, IntKind.bits, descF, sizeF, bytesF, zeroF, seval, reduceCtorEq, ↓reduceIte]
      refine CallD.fresh Cr5.toO rfl (by first | rfl | (simp only [NM]; done)) (by (repeat' apply And.intro) <;> first | trivial | rfl | omega | (simp only [NM]; omega)) (.inl rfl) ?_
      try simp only [EVB, eqF, Op.operands, IntKind.bits, descF, sizeF, bytesF, zeroF, seval, reduceCtorEq, ↓reduceIte]
      refine ⟨by kernel_rfl, ?_⟩
      exact Weak.sub' ⟨rfl, rfl, rfl, rfl, rfl, trivial⟩ ⟨rfl, rfl, rfl, rfl, trivial⟩ (Nat.le_of_ble_eq_true rfl)
     ·skip
      refine go_seq ?_
      refine go_regionJ hR ⟨[(1, .ptr 1 0), (2, .c (.val (.int .i64 r1.2))), (3, .ptr 2 0), (4, .ptr 3 0), (5, .ptr 4 0), (6, .ptr 5 0)], [(1, .box [.c (.val (.int .i64 r5.1.Phase)), .c (.val (.int .i64 r5.1.Epoch)), .c (.val (.int .i64 r5.1.Id)), .c (.val (.int .i64 r5.1.Len)), .c (.sl (List.map cI64 r5.1.Vector)), .c (.val (.int .i64 r5.1.Txn.Epoch)), .c (.val (.int .i64 r5.1.Txn.Id)), .c (.val (.int .i64 r5.1.Txn.Begin)), .c (.sl (List.map SRecord.cells r5.1.Txn.Records)), .c (.sl (List.map cI64 r5.1.Txn.Vector)), .c (.val (.int .i64 r5.1.Done)), .c (.val (.int .i64 r5.1.Left))] 30), (2, .box [.c (.val (.int .i64 r2.2.Kind)), .c (.val (.int .i64 r2.2.Id)), .c (.val (.int .i64 r2.2.Begin)), .c (.val (.int .i64 r2.2.Txn.Epoch)), .c (.val (.int .i64 r2.2.Txn.Id)), .c (.val (.int .i64 r2.2.Txn.Begin)), .c (.sl (List.map SRecord.cells r2.2.Txn.Records)), .c (.sl (List.map cI64 r2.2.Txn.Vector))] 48), (3, .box [.c (.val (.int .i64 r3.2.Kind)), .c (.val (.int .i64 r3.2.Id)), .c (.val (.int .i64 r3.2.Begin)), .c (.val (.int .i64 r3.2.Txn.Epoch)), .c (.val (.int .i64 r3.2.Txn.Id)), .c (.val (.int .i64 r3.2.Txn.Begin)), .c (.sl (List.map SRecord.cells r3.2.Txn.Records)), .c (.sl (List.map cI64 r3.2.Txn.Vector))] 48), (4, .box [.c (.val (.int .i64 r5.2.Kind)), .c (.val (.int .i64 r5.2.Id)), .c (.val (.int .i64 r5.2.Begin)), .c (.val (.int .i64 r5.2.Txn.Epoch)), .c (.val (.int .i64 r5.2.Txn.Id)), .c (.val (.int .i64 r5.2.Txn.Begin)), .c (.sl (List.map SRecord.cells r5.2.Txn.Records)), .c (.sl (List.map cI64 r5.2.Txn.Vector))] 48), (5, .box [.c (.val (.int .i64 3)), .c (.val (.int .i64 1))] 43)], 6⟩ ?_ ?_
      ·skip
       simp only [EVB, eqF, Op.operands, IntKind.bits, descF, sizeF, bytesF, zeroF, seval, reduceCtorEq, ↓reduceIte]
       exact Weak.sub' ⟨rfl, rfl, rfl, rfl, rfl, rfl, trivial⟩ ⟨rfl, rfl, rfl, rfl, rfl, trivial⟩ (Nat.le_of_ble_eq_true rfl)
      ·skip
       refine go_seq ?_
       obtain ⟨r6, hr6, hx0⟩ := letIn_ex hx0
       have Cr6 := (coord_Answered_t r5.1 3 (STxnKey.mk 3 1) 0 0 [0] (by (try simp only [SZD]); (repeat' apply And.intro) <;> first | assumption | omega | simp_all) (by (try simp only [SZD]); (repeat' apply And.intro) <;> first | assumption | omega | simp_all))
       simp only [hr6] at Cr6
       have zr6 := coord_Answered_sz r5.1 3 (STxnKey.mk 3 1) 0 0 [0] (by (try simp only [SZD]); (repeat' apply And.intro) <;> first | assumption | omega | simp_all) (by (try simp only [SZD]); (repeat' apply And.intro) <;> first | assumption | omega | simp_all)
       simp only [hr6, SZD] at zr6
       obtain ⟨⟨zz37, ⟨zz38, zz39⟩⟩, ⟨zz40, zz41⟩⟩ := zr6
       refine go_regionJ hR ⟨[(1, .ptr 1 0), (2, .c (.val (.int .i64 r1.2))), (3, .ptr 2 0), (4, .ptr 3 0), (5, .ptr 4 0), (6, .ptr 5 0), (7, .ptr 7 0)], [(1, .box [.c (.val (.int .i64 r6.1.Phase)), .c (.val (.int .i64 r6.1.Epoch)), .c (.val (.int .i64 r6.1.Id)), .c (.val (.int .i64 r6.1.Len)), .c (.sl (List.map cI64 r6.1.Vector)), .c (.val (.int .i64 r6.1.Txn.Epoch)), .c (.val (.int .i64 r6.1.Txn.Id)), .c (.val (.int .i64 r6.1.Txn.Begin)), .c (.sl (List.map SRecord.cells r6.1.Txn.Records)), .c (.sl (List.map cI64 r6.1.Txn.Vector)), .c (.val (.int .i64 r6.1.Done)), .c (.val (.int .i64 r6.1.Left))] 30), (2, .box [.c (.val (.int .i64 r2.2.Kind)), .c (.val (.int .i64 r2.2.Id)), .c (.val (.int .i64 r2.2.Begin)), .c (.val (.int .i64 r2.2.Txn.Epoch)), .c (.val (.int .i64 r2.2.Txn.Id)), .c (.val (.int .i64 r2.2.Txn.Begin)), .c (.sl (List.map SRecord.cells r2.2.Txn.Records)), .c (.sl (List.map cI64 r2.2.Txn.Vector))] 48), (3, .box [.c (.val (.int .i64 r3.2.Kind)), .c (.val (.int .i64 r3.2.Id)), .c (.val (.int .i64 r3.2.Begin)), .c (.val (.int .i64 r3.2.Txn.Epoch)), .c (.val (.int .i64 r3.2.Txn.Id)), .c (.val (.int .i64 r3.2.Txn.Begin)), .c (.sl (List.map SRecord.cells r3.2.Txn.Records)), .c (.sl (List.map cI64 r3.2.Txn.Vector))] 48), (4, .box [.c (.val (.int .i64 r5.2.Kind)), .c (.val (.int .i64 r5.2.Id)), .c (.val (.int .i64 r5.2.Begin)), .c (.val (.int .i64 r5.2.Txn.Epoch)), .c (.val (.int .i64 r5.2.Txn.Id)), .c (.val (.int .i64 r5.2.Txn.Begin)), .c (.sl (List.map SRecord.cells r5.2.Txn.Records)), .c (.sl (List.map cI64 r5.2.Txn.Vector))] 48), (5, .box [.c (.val (.int .i64 3)), .c (.val (.int .i64 1))] 43), (7, .box [.c (.val (.int .i64 r6.2.Kind)), .c (.val (.int .i64 r6.2.Id)), .c (.val (.int .i64 r6.2.Begin)), .c (.val (.int .i64 r6.2.Txn.Epoch)), .c (.val (.int .i64 r6.2.Txn.Id)), .c (.val (.int .i64 r6.2.Txn.Begin)), .c (.sl (List.map SRecord.cells r6.2.Txn.Records)), .c (.sl (List.map cI64 r6.2.Txn.Vector))] 48)], 8⟩ ?_ ?_
       ·skip
        simp only [EVB, eqF, Op.operands, IntKind.bits, descF, sizeF, bytesF, zeroF, seval, reduceCtorEq, ↓reduceIte]
        refine ⟨(by (repeat' apply And.intro) <;> first | trivial | rfl | exact Nat.le_of_ble_eq_true rfl | omega | (intro u hu; obtain ⟨x, _, rfl⟩ := List.mem_map.1 hu; rfl) | (intro u hu; simp only [List.mem_cons, List.not_mem_nil, or_false] at hu; subst hu; rfl) | (simp only [NM]; omega) | (simp; done)), ?_⟩
        refine CallK.close 6 rfl rfl (by (repeat' apply And.intro) <;> first | trivial | rfl | exact Nat.le_of_ble_eq_true rfl | omega | (intro u hu; obtain ⟨x, _, rfl⟩ := List.mem_map.1 hu; rfl) | (intro u hu; simp only [List.mem_cons, List.not_mem_nil, or_false] at hu; subst hu; rfl) | (simp only [NM]; omega) | (simp; done)) ?_
        refine CallK.freshE Cr6.toO rfl (by first | rfl | (simp only [NM]; done)) (by (repeat' apply And.intro) <;> first | trivial | rfl | omega | (simp only [NM]; omega)) (.inl rfl) (by exact Nat.le_of_ble_eq_true rfl) ?_
        try simp only [EVB, eqF, Op.operands, IntKind.bits, descF, sizeF, bytesF, zeroF, seval, reduceCtorEq, ↓reduceIte]
        try simp only [BM, NM, CELLS]
        exact Weak.sub' ⟨rfl, rfl, rfl, rfl, rfl, rfl, rfl, trivial⟩ ⟨rfl, rfl, rfl, rfl, rfl, rfl, trivial⟩ (Nat.le_of_ble_eq_true rfl)
       ·skip
        refine go_seq ?_
        obtain ⟨r7, hr7, hx0⟩ := letIn_ex hx0
        have Cr7 := (coord_Answered_t r6.1 4 (STxnKey.mk 3 1) 0 0 [0] (by (try simp only [SZD]); (repeat' apply And.intro) <;> first | assumption | omega | simp_all) (by (try simp only [SZD]); (repeat' apply And.intro) <;> first | assumption | omega | simp_all))
        simp only [hr7] at Cr7
        have zr7 := coord_Answered_sz r6.1 4 (STxnKey.mk 3 1) 0 0 [0] (by (try simp only [SZD]); (repeat' apply And.intro) <;> first | assumption | omega | simp_all) (by (try simp only [SZD]); (repeat' apply And.intro) <;> first | assumption | omega | simp_all)
        simp only [hr7, SZD] at zr7
        obtain ⟨⟨zz42, ⟨zz43, zz44⟩⟩, ⟨zz45, zz46⟩⟩ := zr7
        refine go_regionJ hR ⟨[(1, .ptr 1 0), (2, .c (.val (.int .i64 r1.2))), (3, .ptr 2 0), (4, .ptr 3 0), (5, .ptr 4 0), (7, .ptr 7 0), (8, .ptr 9 0)], [(1, .box [.c (.val (.int .i64 r7.1.Phase)), .c (.val (.int .i64 r7.1.Epoch)), .c (.val (.int .i64 r7.1.Id)), .c (.val (.int .i64 r7.1.Len)), .c (.sl (List.map cI64 r7.1.Vector)), .c (.val (.int .i64 r7.1.Txn.Epoch)), .c (.val (.int .i64 r7.1.Txn.Id)), .c (.val (.int .i64 r7.1.Txn.Begin)), .c (.sl (List.map SRecord.cells r7.1.Txn.Records)), .c (.sl (List.map cI64 r7.1.Txn.Vector)), .c (.val (.int .i64 r7.1.Done)), .c (.val (.int .i64 r7.1.Left))] 30), (2, .box [.c (.val (.int .i64 r2.2.Kind)), .c (.val (.int .i64 r2.2.Id)), .c (.val (.int .i64 r2.2.Begin)), .c (.val (.int .i64 r2.2.Txn.Epoch)), .c (.val (.int .i64 r2.2.Txn.Id)), .c (.val (.int .i64 r2.2.Txn.Begin)), .c (.sl (List.map SRecord.cells r2.2.Txn.Records)), .c (.sl (List.map cI64 r2.2.Txn.Vector))] 48), (3, .box [.c (.val (.int .i64 r3.2.Kind)), .c (.val (.int .i64 r3.2.Id)), .c (.val (.int .i64 r3.2.Begin)), .c (.val (.int .i64 r3.2.Txn.Epoch)), .c (.val (.int .i64 r3.2.Txn.Id)), .c (.val (.int .i64 r3.2.Txn.Begin)), .c (.sl (List.map SRecord.cells r3.2.Txn.Records)), .c (.sl (List.map cI64 r3.2.Txn.Vector))] 48), (4, .box [.c (.val (.int .i64 r5.2.Kind)), .c (.val (.int .i64 r5.2.Id)), .c (.val (.int .i64 r5.2.Begin)), .c (.val (.int .i64 r5.2.Txn.Epoch)), .c (.val (.int .i64 r5.2.Txn.Id)), .c (.val (.int .i64 r5.2.Txn.Begin)), .c (.sl (List.map SRecord.cells r5.2.Txn.Records)), .c (.sl (List.map cI64 r5.2.Txn.Vector))] 48), (7, .box [.c (.val (.int .i64 r6.2.Kind)), .c (.val (.int .i64 r6.2.Id)), .c (.val (.int .i64 r6.2.Begin)), .c (.val (.int .i64 r6.2.Txn.Epoch)), .c (.val (.int .i64 r6.2.Txn.Id)), .c (.val (.int .i64 r6.2.Txn.Begin)), .c (.sl (List.map SRecord.cells r6.2.Txn.Records)), .c (.sl (List.map cI64 r6.2.Txn.Vector))] 48), (9, .box [.c (.val (.int .i64 r7.2.Kind)), .c (.val (.int .i64 r7.2.Id)), .c (.val (.int .i64 r7.2.Begin)), .c (.val (.int .i64 r7.2.Txn.Epoch)), .c (.val (.int .i64 r7.2.Txn.Id)), .c (.val (.int .i64 r7.2.Txn.Begin)), .c (.sl (List.map SRecord.cells r7.2.Txn.Records)), .c (.sl (List.map cI64 r7.2.Txn.Vector))] 48)], 10⟩ ?_ ?_
        ·skip
         simp only [EVB, eqF, Op.operands, IntKind.bits, descF, sizeF, bytesF, zeroF, seval, reduceCtorEq, ↓reduceIte]
         refine ⟨(by (repeat' apply And.intro) <;> first | trivial | rfl | exact Nat.le_of_ble_eq_true rfl | omega | (intro u hu; obtain ⟨x, _, rfl⟩ := List.mem_map.1 hu; rfl) | (intro u hu; simp only [List.mem_cons, List.not_mem_nil, or_false] at hu; subst hu; rfl) | (simp only [NM]; omega) | (simp; done)), ?_⟩
         refine CallK.close 8 rfl rfl (by (repeat' apply And.intro) <;> first | trivial | rfl | exact Nat.le_of_ble_eq_true rfl | omega | (intro u hu; obtain ⟨x, _, rfl⟩ := List.mem_map.1 hu; rfl) | (intro u hu; simp only [List.mem_cons, List.not_mem_nil, or_false] at hu; subst hu; rfl) | (simp only [NM]; omega) | (simp; done)) ?_
         refine CallK.freshE Cr7.toO rfl (by first | rfl | (simp only [NM]; done)) (by (repeat' apply And.intro) <;> first | trivial | rfl | omega | (simp only [NM]; omega)) (.inl rfl) (by exact Nat.le_of_ble_eq_true rfl) ?_
         try simp only [EVB, eqF, Op.operands, IntKind.bits, descF, sizeF, bytesF, zeroF, seval, reduceCtorEq, ↓reduceIte]
         try simp only [BM, NM, CELLS]
         exact Weak.sub' ⟨rfl, rfl, rfl, rfl, rfl, rfl, rfl, trivial⟩ ⟨rfl, rfl, rfl, rfl, rfl, rfl, trivial⟩ (Nat.le_of_ble_eq_true rfl)
        ·skip
         refine go_seq ?_
         refine go_regionJ hR ⟨[(0, .c (.val (.bool (((((((((r1.2 == 0) && (r2.2.Kind == 1)) && (r2.2.Id == 1)) && (r3.2.Kind == 2)) && (r5.2.Kind == 3)) && (r6.2.Kind == 4)) && (r7.2.Kind == 5)) && (r7.1.Phase == 0)) && (r7.1.Done == 1)))))], [], 10⟩ ?_ ?_
         ·skip
          rcases Bool.eq_false_or_eq_true (r1.2 == 0) with h8 | h8
          ·rcases Bool.eq_false_or_eq_true (r2.2.Kind == 1) with h9 | h9
           ·rcases Bool.eq_false_or_eq_true (r2.2.Id == 1) with h10 | h10
            ·rcases Bool.eq_false_or_eq_true (r3.2.Kind == 2) with h11 | h11
             ·rcases Bool.eq_false_or_eq_true (r5.2.Kind == 3) with h12 | h12
              ·rcases Bool.eq_false_or_eq_true (r6.2.Kind == 4) with h13 | h13
               ·rcases Bool.eq_false_or_eq_true (r7.2.Kind == 5) with h14 | h14
                ·rcases Bool.eq_false_or_eq_true (r7.1.Phase == 0) with h15 | h15
                 ·simp (maxSteps := 4000000) only [h8, h9, h10, h11, h12, h13, h14, h15, EVB, eqF, Op.operands, IntKind.bits, descF, sizeF, bytesF, zeroF, seval, reduceCtorEq, ↓reduceIte]
                  try simp only [h8, h9, h10, h11, h12, h13, h14, h15, BM]
                  exact Weak.sub' ⟨rfl, trivial⟩ trivial (Nat.le_of_ble_eq_true rfl)
                 ·simp (maxSteps := 4000000) only [h8, h9, h10, h11, h12, h13, h14, h15, EVB, eqF, Op.operands, IntKind.bits, descF, sizeF, bytesF, zeroF, seval, reduceCtorEq, ↓reduceIte]
                  try simp only [h8, h9, h10, h11, h12, h13, h14, h15, BM]
                  exact Weak.sub' ⟨rfl, trivial⟩ trivial (Nat.le_of_ble_eq_true rfl)
                ·simp (maxSteps := 4000000) only [h8, h9, h10, h11, h12, h13, h14, EVB, eqF, Op.operands, IntKind.bits, descF, sizeF, bytesF, zeroF, seval, reduceCtorEq, ↓reduceIte]
                 try simp only [h8, h9, h10, h11, h12, h13, h14, BM]
                 exact Weak.sub' ⟨rfl, trivial⟩ trivial (Nat.le_of_ble_eq_true rfl)
               ·simp (maxSteps := 4000000) only [h8, h9, h10, h11, h12, h13, EVB, eqF, Op.operands, IntKind.bits, descF, sizeF, bytesF, zeroF, seval, reduceCtorEq, ↓reduceIte]
                try simp only [h8, h9, h10, h11, h12, h13, BM]
                exact Weak.sub' ⟨rfl, trivial⟩ trivial (Nat.le_of_ble_eq_true rfl)
              ·simp (maxSteps := 4000000) only [h8, h9, h10, h11, h12, EVB, eqF, Op.operands, IntKind.bits, descF, sizeF, bytesF, zeroF, seval, reduceCtorEq, ↓reduceIte]
               try simp only [h8, h9, h10, h11, h12, BM]
               exact Weak.sub' ⟨rfl, trivial⟩ trivial (Nat.le_of_ble_eq_true rfl)
             ·simp (maxSteps := 4000000) only [h8, h9, h10, h11, EVB, eqF, Op.operands, IntKind.bits, descF, sizeF, bytesF, zeroF, seval, reduceCtorEq, ↓reduceIte]
              try simp only [h8, h9, h10, h11, BM]
              exact Weak.sub' ⟨rfl, trivial⟩ trivial (Nat.le_of_ble_eq_true rfl)
            ·simp (maxSteps := 4000000) only [h8, h9, h10, EVB, eqF, Op.operands, IntKind.bits, descF, sizeF, bytesF, zeroF, seval, reduceCtorEq, ↓reduceIte]
             try simp only [h8, h9, h10, BM]
             exact Weak.sub' ⟨rfl, trivial⟩ trivial (Nat.le_of_ble_eq_true rfl)
           ·simp (maxSteps := 4000000) only [h8, h9, EVB, eqF, Op.operands, IntKind.bits, descF, sizeF, bytesF, zeroF, seval, reduceCtorEq, ↓reduceIte]
            try simp only [h8, h9, BM]
            exact Weak.sub' ⟨rfl, trivial⟩ trivial (Nat.le_of_ble_eq_true rfl)
          ·simp (maxSteps := 4000000) only [h8, EVB, eqF, Op.operands, IntKind.bits, descF, sizeF, bytesF, zeroF, seval, reduceCtorEq, ↓reduceIte]
           try simp only [h8, BM]
           exact Weak.sub' ⟨rfl, trivial⟩ trivial (Nat.le_of_ble_eq_true rfl)
         ·skip
          subst hx0
          refine go_return ttOk (fun _ h => h) rfl ?_ ?_
          ·exact (by (repeat' apply And.intro) <;> first | trivial | exact Nat.le_of_ble_eq_true rfl | omega | (simp only [NM]; omega))
          ·first | rfl | (simp only [NM, CELLS] <;> rfl)

def pontoonlaw19_owned (a0 : SCoord) (a1 : Spontoonlaw19_Come) : Spontoonlaw19_Come :=
  letIn ((bif a1.Own then (bif (a1.Do == 2) then (a0.Id, a0.Epoch, a0.Id, a0.Txn.Epoch, a0.Txn.Id) else (a0.Id, a1.Manifest.Epoch, a1.Manifest.Id, a0.Txn.Epoch, a0.Txn.Id)) else (a1.Id, a1.Manifest.Epoch, a1.Manifest.Id, a1.Key.Epoch, a1.Key.Id))) fun o1 => (Spontoonlaw19_Come.mk a1.Do a1.Own o1.1 (SManifest.mk o1.2.1 o1.2.2.1 a1.Manifest.Vector a1.Manifest.Out a1.Manifest.Begin a1.Manifest.Records a1.Manifest.Pieces a1.Manifest.Graph) a1.Kind (STxnKey.mk o1.2.2.2.1 o1.2.2.2.2) a1.Err a1.Len a1.Vector)
set_option maxRecDepth 10000 in
set_option maxHeartbeats 8000000 in
theorem pontoonlaw19_owned_t (a0 : SCoord) (a1 : Spontoonlaw19_Come) : FnP Try.prog 15 [.agg [.c (.val (.int .i64 a0.Phase)), .c (.val (.int .i64 a0.Epoch)), .c (.val (.int .i64 a0.Id)), .c (.val (.int .i64 a0.Len)), .c (.sl (List.map cI64 a0.Vector)), .c (.val (.int .i64 a0.Txn.Epoch)), .c (.val (.int .i64 a0.Txn.Id)), .c (.val (.int .i64 a0.Txn.Begin)), .c (.sl (List.map SRecord.cells a0.Txn.Records)), .c (.sl (List.map cI64 a0.Txn.Vector)), .c (.val (.int .i64 a0.Done)), .c (.val (.int .i64 a0.Left))], .agg [.c (.val (.int .i64 a1.Do)), .c (.val (.bool a1.Own)), .c (.val (.int .i64 a1.Id)), .c (.val (.int .i64 a1.Manifest.Epoch)), .c (.val (.int .i64 a1.Manifest.Id)), .c (.sl (List.map cI64 a1.Manifest.Vector)), .c (.val (.int .i64 a1.Manifest.Out)), .c (.val (.int .i64 a1.Manifest.Begin)), .c (.sl (List.map SRecord.cells a1.Manifest.Records)), .c (.sl (List.map SPiece.cells a1.Manifest.Pieces)), .c (.val (.int .u32 a1.Manifest.Graph)), .c (.val (.int .i64 a1.Kind)), .c (.val (.int .i64 a1.Key.Epoch)), .c (.val (.int .i64 a1.Key.Id)), .c (.val (.int .i64 a1.Err)), .c (.val (.int .i64 a1.Len)), .c (.sl (List.map cI64 a1.Vector))]] (.agg [.c (.val (.int .i64 ((pontoonlaw19_owned a0 a1).Do))), .c (.val (.bool ((pontoonlaw19_owned a0 a1).Own))), .c (.val (.int .i64 ((pontoonlaw19_owned a0 a1).Id))), .c (.val (.int .i64 (((pontoonlaw19_owned a0 a1).Manifest).Epoch))), .c (.val (.int .i64 (((pontoonlaw19_owned a0 a1).Manifest).Id))), .c (.sl (List.map cI64 (((pontoonlaw19_owned a0 a1).Manifest).Vector))), .c (.val (.int .i64 (((pontoonlaw19_owned a0 a1).Manifest).Out))), .c (.val (.int .i64 (((pontoonlaw19_owned a0 a1).Manifest).Begin))), .c (.sl (List.map SRecord.cells (((pontoonlaw19_owned a0 a1).Manifest).Records))), .c (.sl (List.map SPiece.cells (((pontoonlaw19_owned a0 a1).Manifest).Pieces))), .c (.val (.int .u32 (((pontoonlaw19_owned a0 a1).Manifest).Graph))), .c (.val (.int .i64 ((pontoonlaw19_owned a0 a1).Kind))), .c (.val (.int .i64 (((pontoonlaw19_owned a0 a1).Key).Epoch))), .c (.val (.int .i64 (((pontoonlaw19_owned a0 a1).Key).Id))), .c (.val (.int .i64 ((pontoonlaw19_owned a0 a1).Err))), .c (.val (.int .i64 ((pontoonlaw19_owned a0 a1).Len))), .c (.sl (List.map cI64 ((pontoonlaw19_owned a0 a1).Vector)))]) := by
 refine FnP.intro (tt := tt) Try.func15 rfl (by kernel_rfl) (by simp [Try.ntmps15]) fun w0 A hA => ?_
 have hR := reckB_ok eqOk ttOk
 obtain ⟨res, hx0⟩ : ∃ r, pontoonlaw19_owned a0 a1 = r := ⟨_, rfl⟩
 simp only [hx0]
 unfold pontoonlaw19_owned at hx0
 simp only [argT, Try.ntmps15]
 refine go_seq ?_
 refine go_regionJ hR ⟨[(2, .ptr 0 0), (3, .ptr 1 0), (4, .ptr 2 0)], [(0, .box [.c (.val (.int .i64 a0.Phase)), .c (.val (.int .i64 a0.Epoch)), .c (.val (.int .i64 a0.Id)), .c (.val (.int .i64 a0.Len)), .c (.sl (List.map cI64 a0.Vector)), .c (.val (.int .i64 a0.Txn.Epoch)), .c (.val (.int .i64 a0.Txn.Id)), .c (.val (.int .i64 a0.Txn.Begin)), .c (.sl (List.map SRecord.cells a0.Txn.Records)), .c (.sl (List.map cI64 a0.Txn.Vector)), .c (.val (.int .i64 a0.Done)), .c (.val (.int .i64 a0.Left))] 30), (1, .box [.c (.val (.int .i64 a1.Do)), .c (.val (.bool a1.Own)), .c (.val (.int .i64 a1.Id)), .c (.val (.int .i64 a1.Manifest.Epoch)), .c (.val (.int .i64 a1.Manifest.Id)), .c (.sl (List.map cI64 a1.Manifest.Vector)), .c (.val (.int .i64 a1.Manifest.Out)), .c (.val (.int .i64 a1.Manifest.Begin)), .c (.sl (List.map SRecord.cells a1.Manifest.Records)), .c (.sl (List.map SPiece.cells a1.Manifest.Pieces)), .c (.val (.int .u32 a1.Manifest.Graph)), .c (.val (.int .i64 a1.Kind)), .c (.val (.int .i64 a1.Key.Epoch)), .c (.val (.int .i64 a1.Key.Id)), .c (.val (.int .i64 a1.Err)), .c (.val (.int .i64 a1.Len)), .c (.sl (List.map cI64 a1.Vector))] 45), (2, .box [.c (.val (.int .i64 0)), .c (.val (.bool false)), .c (.val (.int .i64 0)), .c (.val (.int .i64 0)), .c (.val (.int .i64 0)), .c (.val (.slice none 0 0)), .c (.val (.int .i64 0)), .c (.val (.int .i64 0)), .c (.val (.slice none 0 0)), .c (.val (.slice none 0 0)), .c (.val (.int .u32 0)), .c (.val (.int .i64 0)), .c (.val (.int .i64 0)), .c (.val (.int .i64 0)), .c (.val (.int .i64 0)), .c (.val (.int .i64 0)), .c (.val (.slice none 0 0))] 45)], 3⟩ ?_ ?_
 ·skip
  simp only [EVB, eqF, Op.operands, IntKind.bits, descF, sizeF, bytesF, zeroF, seval, reduceCtorEq, ↓reduceIte]
  exact Weak.sub' ⟨rfl, rfl, rfl, trivial⟩ ⟨rfl, rfl, rfl, trivial⟩ (Nat.le_of_ble_eq_true rfl)
 ·skip
  refine go_seq ?_
  refine go_seq ?_
  refine go_regionJ hR ⟨[(2, .ptr 0 0), (3, .ptr 1 0), (4, .ptr 2 0), (6, .c (.val (.bool a1.Own)))], [(0, .box [.c (.val (.int .i64 a0.Phase)), .c (.val (.int .i64 a0.Epoch)), .c (.val (.int .i64 a0.Id)), .c (.val (.int .i64 a0.Len)), .c (.sl (List.map cI64 a0.Vector)), .c (.val (.int .i64 a0.Txn.Epoch)), .c (.val (.int .i64 a0.Txn.Id)), .c (.val (.int .i64 a0.Txn.Begin)), .c (.sl (List.map SRecord.cells a0.Txn.Records)), .c (.sl (List.map cI64 a0.Txn.Vector)), .c (.val (.int .i64 a0.Done)), .c (.val (.int .i64 a0.Left))] 30), (1, .box [.c (.val (.int .i64 a1.Do)), .c (.val (.bool a1.Own)), .c (.val (.int .i64 a1.Id)), .c (.val (.int .i64 a1.Manifest.Epoch)), .c (.val (.int .i64 a1.Manifest.Id)), .c (.sl (List.map cI64 a1.Manifest.Vector)), .c (.val (.int .i64 a1.Manifest.Out)), .c (.val (.int .i64 a1.Manifest.Begin)), .c (.sl (List.map SRecord.cells a1.Manifest.Records)), .c (.sl (List.map SPiece.cells a1.Manifest.Pieces)), .c (.val (.int .u32 a1.Manifest.Graph)), .c (.val (.int .i64 a1.Kind)), .c (.val (.int .i64 a1.Key.Epoch)), .c (.val (.int .i64 a1.Key.Id)), .c (.val (.int .i64 a1.Err)), .c (.val (.int .i64 a1.Len)), .c (.sl (List.map cI64 a1.Vector))] 45), (2, .box [.c (.val (.int .i64 0)), .c (.val (.bool false)), .c (.val (.int .i64 0)), .c (.val (.int .i64 0)), .c (.val (.int .i64 0)), .c (.val (.slice none 0 0)), .c (.val (.int .i64 0)), .c (.val (.int .i64 0)), .c (.val (.slice none 0 0)), .c (.val (.slice none 0 0)), .c (.val (.int .u32 0)), .c (.val (.int .i64 0)), .c (.val (.int .i64 0)), .c (.val (.int .i64 0)), .c (.val (.int .i64 0)), .c (.val (.int .i64 0)), .c (.val (.slice none 0 0))] 45)], 3⟩ ?_ ?_
  ·skip
   simp only [EVB, eqF, Op.operands, IntKind.bits, descF, sizeF, bytesF, zeroF, seval, reduceCtorEq, ↓reduceIte]
   exact Weak.sub' ⟨rfl, rfl, rfl, rfl, trivial⟩ ⟨rfl, rfl, rfl, trivial⟩ (Nat.le_of_ble_eq_true rfl)
  ·skip
   obtain ⟨o1, hx1, hx0⟩ := letIn_ex hx0
   refine go_joinE (fun p : Int × Int × Int × Int × Int => ⟨[(3, .ptr 0 0), (4, .ptr 1 0)], [(0, .box [.c (.val (.int .i64 a1.Do)), .c (.val (.bool a1.Own)), .c (.val (.int .i64 p.1)), .c (.val (.int .i64 p.2.1)), .c (.val (.int .i64 p.2.2.1)), .c (.sl (List.map cI64 a1.Manifest.Vector)), .c (.val (.int .i64 a1.Manifest.Out)), .c (.val (.int .i64 a1.Manifest.Begin)), .c (.sl (List.map SRecord.cells a1.Manifest.Records)), .c (.sl (List.map SPiece.cells a1.Manifest.Pieces)), .c (.val (.int .u32 a1.Manifest.Graph)), .c (.val (.int .i64 a1.Kind)), .c (.val (.int .i64 p.2.2.2.1)), .c (.val (.int .i64 p.2.2.2.2)), .c (.val (.int .i64 a1.Err)), .c (.val (.int .i64 a1.Len)), .c (.sl (List.map cI64 a1.Vector))] 45), (1, .box [.c (.val (.int .i64 0)), .c (.val (.bool false)), .c (.val (.int .i64 0)), .c (.val (.int .i64 0)), .c (.val (.int .i64 0)), .c (.sl (List.map cI64 [])), .c (.val (.int .i64 0)), .c (.val (.int .i64 0)), .c (.sl (List.map SRecord.cells [])), .c (.sl (List.map SPiece.cells [])), .c (.val (.int .u32 0)), .c (.val (.int .i64 0)), .c (.val (.int .i64 0)), .c (.val (.int .i64 0)), .c (.val (.int .i64 0)), .c (.val (.int .i64 0)), .c (.sl (List.map cI64 []))] 45)], 2⟩) (fun p : Int × Int × Int × Int × Int => o1 = p) ?_ ?_
   ·refine go_cond (by rfl) (fun h2 => ?_) (fun h2 => ?_)
    ·have gh2 := h2
     try simp only [GN, beq_iff_eq, beq_eq_false_iff_ne, bne_iff_ne, bne_eq_false_iff_eq] at gh2
     simp only [h2, cond_true, cond_false] at hx1
     refine go_seq ?_
     refine go_regionJ hR ⟨[(2, .ptr 0 0), (3, .ptr 1 0), (4, .ptr 2 0)], [(0, .box [.c (.val (.int .i64 a0.Phase)), .c (.val (.int .i64 a0.Epoch)), .c (.val (.int .i64 a0.Id)), .c (.val (.int .i64 a0.Len)), .c (.sl (List.map cI64 a0.Vector)), .c (.val (.int .i64 a0.Txn.Epoch)), .c (.val (.int .i64 a0.Txn.Id)), .c (.val (.int .i64 a0.Txn.Begin)), .c (.sl (List.map SRecord.cells a0.Txn.Records)), .c (.sl (List.map cI64 a0.Txn.Vector)), .c (.val (.int .i64 a0.Done)), .c (.val (.int .i64 a0.Left))] 30), (1, .box [.c (.val (.int .i64 a1.Do)), .c (.val (.bool a1.Own)), .c (.val (.int .i64 a0.Id)), .c (.val (.int .i64 a1.Manifest.Epoch)), .c (.val (.int .i64 a1.Manifest.Id)), .c (.sl (List.map cI64 a1.Manifest.Vector)), .c (.val (.int .i64 a1.Manifest.Out)), .c (.val (.int .i64 a1.Manifest.Begin)), .c (.sl (List.map SRecord.cells a1.Manifest.Records)), .c (.sl (List.map SPiece.cells a1.Manifest.Pieces)), .c (.val (.int .u32 a1.Manifest.Graph)), .c (.val (.int .i64 a1.Kind)), .c (.val (.int .i64 a1.Key.Epoch)), .c (.val (.int .i64 a1.Key.Id)), .c (.val (.int .i64 a1.Err)), .c (.val (.int .i64 a1.Len)), .c (.sl (List.map cI64 a1.Vector))] 45), (2, .box [.c (.val (.int .i64 0)), .c (.val (.bool false)), .c (.val (.int .i64 0)), .c (.val (.int .i64 0)), .c (.val (.int .i64 0)), .c (.val (.slice none 0 0)), .c (.val (.int .i64 0)), .c (.val (.int .i64 0)), .c (.val (.slice none 0 0)), .c (.val (.slice none 0 0)), .c (.val (.int .u32 0)), .c (.val (.int .i64 0)), .c (.val (.int .i64 0)), .c (.val (.int .i64 0)), .c (.val (.int .i64 0)), .c (.val (.int .i64 0)), .c (.val (.slice none 0 0))] 45)], 3⟩ ?_ ?_
     ·skip
      simp only [EVB, eqF, Op.operands, IntKind.bits, descF, sizeF, bytesF, zeroF, seval, reduceCtorEq, ↓reduceIte]
      exact Weak.sub' ⟨rfl, rfl, rfl, trivial⟩ ⟨rfl, rfl, rfl, trivial⟩ (Nat.le_of_ble_eq_true rfl)
     ·skip
      refine go_seq ?_
      refine go_regionJ hR ⟨[(2, .ptr 0 0), (3, .ptr 1 0), (4, .ptr 2 0)], [(0, .box [.c (.val (.int .i64 a0.Phase)), .c (.val (.int .i64 a0.Epoch)), .c (.val (.int .i64 a0.Id)), .c (.val (.int .i64 a0.Len)), .c (.sl (List.map cI64 a0.Vector)), .c (.val (.int .i64 a0.Txn.Epoch)), .c (.val (.int .i64 a0.Txn.Id)), .c (.val (.int .i64 a0.Txn.Begin)), .c (.sl (List.map SRecord.cells a0.Txn.Records)), .c (.sl (List.map cI64 a0.Txn.Vector)), .c (.val (.int .i64 a0.Done)), .c (.val (.int .i64 a0.Left))] 30), (1, .box [.c (.val (.int .i64 a1.Do)), .c (.val (.bool a1.Own)), .c (.val (.int .i64 a0.Id)), .c (.val (.int .i64 a1.Manifest.Epoch)), .c (.val (.int .i64 a1.Manifest.Id)), .c (.sl (List.map cI64 a1.Manifest.Vector)), .c (.val (.int .i64 a1.Manifest.Out)), .c (.val (.int .i64 a1.Manifest.Begin)), .c (.sl (List.map SRecord.cells a1.Manifest.Records)), .c (.sl (List.map SPiece.cells a1.Manifest.Pieces)), .c (.val (.int .u32 a1.Manifest.Graph)), .c (.val (.int .i64 a1.Kind)), .c (.val (.int .i64 a0.Txn.Epoch)), .c (.val (.int .i64 a0.Txn.Id)), .c (.val (.int .i64 a1.Err)), .c (.val (.int .i64 a1.Len)), .c (.sl (List.map cI64 a1.Vector))] 45), (2, .box [.c (.val (.int .i64 0)), .c (.val (.bool false)), .c (.val (.int .i64 0)), .c (.val (.int .i64 0)), .c (.val (.int .i64 0)), .c (.val (.slice none 0 0)), .c (.val (.int .i64 0)), .c (.val (.int .i64 0)), .c (.val (.slice none 0 0)), .c (.val (.slice none 0 0)), .c (.val (.int .u32 0)), .c (.val (.int .i64 0)), .c (.val (.int .i64 0)), .c (.val (.int .i64 0)), .c (.val (.int .i64 0)), .c (.val (.int .i64 0)), .c (.val (.slice none 0 0))] 45)], 3⟩ ?_ ?_
      ·skip
       simp only [EVB, eqF, Op.operands, IntKind.bits, descF, sizeF, bytesF, zeroF, seval, reduceCtorEq, ↓reduceIte]
       exact Weak.sub' ⟨rfl, rfl, rfl, trivial⟩ ⟨rfl, rfl, rfl, trivial⟩ (Nat.le_of_ble_eq_true rfl)
      ·skip
       refine go_seq ?_
       refine go_regionJ hR ⟨[(2, .ptr 0 0), (3, .ptr 1 0), (4, .ptr 2 0), (20, .c (.val (.bool (a1.Do == 2))))], [(0, .box [.c (.val (.int .i64 a0.Phase)), .c (.val (.int .i64 a0.Epoch)), .c (.val (.int .i64 a0.Id)), .c (.val (.int .i64 a0.Len)), .c (.sl (List.map cI64 a0.Vector)), .c (.val (.int .i64 a0.Txn.Epoch)), .c (.val (.int .i64 a0.Txn.Id)), .c (.val (.int .i64 a0.Txn.Begin)), .c (.sl (List.map SRecord.cells a0.Txn.Records)), .c (.sl (List.map cI64 a0.Txn.Vector)), .c (.val (.int .i64 a0.Done)), .c (.val (.int .i64 a0.Left))] 30), (1, .box [.c (.val (.int .i64 a1.Do)), .c (.val (.bool a1.Own)), .c (.val (.int .i64 a0.Id)), .c (.val (.int .i64 a1.Manifest.Epoch)), .c (.val (.int .i64 a1.Manifest.Id)), .c (.sl (List.map cI64 a1.Manifest.Vector)), .c (.val (.int .i64 a1.Manifest.Out)), .c (.val (.int .i64 a1.Manifest.Begin)), .c (.sl (List.map SRecord.cells a1.Manifest.Records)), .c (.sl (List.map SPiece.cells a1.Manifest.Pieces)), .c (.val (.int .u32 a1.Manifest.Graph)), .c (.val (.int .i64 a1.Kind)), .c (.val (.int .i64 a0.Txn.Epoch)), .c (.val (.int .i64 a0.Txn.Id)), .c (.val (.int .i64 a1.Err)), .c (.val (.int .i64 a1.Len)), .c (.sl (List.map cI64 a1.Vector))] 45), (2, .box [.c (.val (.int .i64 0)), .c (.val (.bool false)), .c (.val (.int .i64 0)), .c (.val (.int .i64 0)), .c (.val (.int .i64 0)), .c (.val (.slice none 0 0)), .c (.val (.int .i64 0)), .c (.val (.int .i64 0)), .c (.val (.slice none 0 0)), .c (.val (.slice none 0 0)), .c (.val (.int .u32 0)), .c (.val (.int .i64 0)), .c (.val (.int .i64 0)), .c (.val (.int .i64 0)), .c (.val (.int .i64 0)), .c (.val (.int .i64 0)), .c (.val (.slice none 0 0))] 45)], 3⟩ ?_ ?_
       ·skip
        simp only [EVB, eqF, Op.operands, IntKind.bits, descF, sizeF, bytesF, zeroF, seval, reduceCtorEq, ↓reduceIte]
        exact Weak.sub' ⟨rfl, rfl, rfl, rfl, trivial⟩ ⟨rfl, rfl, rfl, trivial⟩ (Nat.le_of_ble_eq_true rfl)
       ·skip
        refine go_cond (by rfl) (fun h3 => ?_) (fun h3 => ?_)
        ·have gh3 := h3
         try simp only [GN, beq_iff_eq, beq_eq_false_iff_ne, bne_iff_ne, bne_eq_false_iff_eq] at gh3
         simp only [h3, cond_true, cond_false] at hx1
         refine go_drawJ hR rfl ⟨[(3, .ptr 1 0), (4, .ptr 2 0)], [(1, .box [.c (.val (.int .i64 a1.Do)), .c (.val (.bool a1.Own)), .c (.val (.int .i64 a0.Id)), .c (.val (.int .i64 a0.Epoch)), .c (.val (.int .i64 a0.Id)), .c (.sl (List.map cI64 a1.Manifest.Vector)), .c (.val (.int .i64 a1.Manifest.Out)), .c (.val (.int .i64 a1.Manifest.Begin)), .c (.sl (List.map SRecord.cells a1.Manifest.Records)), .c (.sl (List.map SPiece.cells a1.Manifest.Pieces)), .c (.val (.int .u32 a1.Manifest.Graph)), .c (.val (.int .i64 a1.Kind)), .c (.val (.int .i64 a0.Txn.Epoch)), .c (.val (.int .i64 a0.Txn.Id)), .c (.val (.int .i64 a1.Err)), .c (.val (.int .i64 a1.Len)), .c (.sl (List.map cI64 a1.Vector))] 45), (2, .box [.c (.val (.int .i64 0)), .c (.val (.bool false)), .c (.val (.int .i64 0)), .c (.val (.int .i64 0)), .c (.val (.int .i64 0)), .c (.val (.slice none 0 0)), .c (.val (.int .i64 0)), .c (.val (.int .i64 0)), .c (.val (.slice none 0 0)), .c (.val (.slice none 0 0)), .c (.val (.int .u32 0)), .c (.val (.int .i64 0)), .c (.val (.int .i64 0)), .c (.val (.int .i64 0)), .c (.val (.int .i64 0)), .c (.val (.int .i64 0)), .c (.val (.slice none 0 0))] 45)], 3⟩ ?_ ?_
         ·skip
          simp only [EVB, eqF, Op.operands, IntKind.bits, descF, sizeF, bytesF, zeroF, seval, reduceCtorEq, ↓reduceIte]
          refine ⟨by kernel_rfl, ?_⟩
          exact Weak.sub' ⟨rfl, rfl, trivial⟩ ⟨rfl, rfl, trivial⟩ (Nat.le_of_ble_eq_true rfl)
         ·skip
          exact go_fin ⟨(a0.Id, a0.Epoch, a0.Id, a0.Txn.Epoch, a0.Txn.Id), hx1.symm, (Weak.canon [1, 2] [3, 4] (by decide) rfl (by simp) rfl (by simp) (by first | rfl | (simp only [NM, CELLS] <;> rfl) | simp [NM, CELLS]) (by first | rfl | (simp only [NM, CELLS] <;> rfl) | simp [NM, CELLS]) rfl)⟩
        ·have gh3 := h3
         try simp only [GN, beq_iff_eq, beq_eq_false_iff_ne, bne_iff_ne, bne_eq_false_iff_eq] at gh3
         simp only [h3, cond_true, cond_false] at hx1
         refine go_skip ?_
         exact go_fin ⟨(a0.Id, a1.Manifest.Epoch, a1.Manifest.Id, a0.Txn.Epoch, a0.Txn.Id), hx1.symm, (Weak.canon [1, 2] [3, 4] (by decide) rfl (by simp) rfl (by simp) (by first | rfl | (simp only [NM, CELLS] <;> rfl) | simp [NM, CELLS]) (by first | rfl | (simp only [NM, CELLS] <;> rfl) | simp [NM, CELLS]) rfl)⟩
    ·have gh2 := h2
     try simp only [GN, beq_iff_eq, beq_eq_false_iff_ne, bne_iff_ne, bne_eq_false_iff_eq] at gh2
     simp only [h2, cond_true, cond_false] at hx1
     refine go_skip ?_
     exact go_fin ⟨(a1.Id, a1.Manifest.Epoch, a1.Manifest.Id, a1.Key.Epoch, a1.Key.Id), hx1.symm, (Weak.canon [1, 2] [3, 4] (by decide) rfl (by simp) rfl (by simp) (by first | rfl | (simp only [NM, CELLS] <;> rfl) | simp [NM, CELLS]) (by first | rfl | (simp only [NM, CELLS] <;> rfl) | simp [NM, CELLS]) rfl)⟩
   ·rintro o1_ hp
    try dsimp only at hp
    subst hp
    refine go_seq ?_
    refine go_regionJ hR ⟨[(4, .ptr 1 0)], [(1, .box [.c (.val (.int .i64 a1.Do)), .c (.val (.bool a1.Own)), .c (.val (.int .i64 o1.1)), .c (.val (.int .i64 o1.2.1)), .c (.val (.int .i64 o1.2.2.1)), .c (.sl (List.map cI64 a1.Manifest.Vector)), .c (.val (.int .i64 a1.Manifest.Out)), .c (.val (.int .i64 a1.Manifest.Begin)), .c (.sl (List.map SRecord.cells a1.Manifest.Records)), .c (.sl (List.map SPiece.cells a1.Manifest.Pieces)), .c (.val (.int .u32 a1.Manifest.Graph)), .c (.val (.int .i64 a1.Kind)), .c (.val (.int .i64 o1.2.2.2.1)), .c (.val (.int .i64 o1.2.2.2.2)), .c (.val (.int .i64 a1.Err)), .c (.val (.int .i64 a1.Len)), .c (.sl (List.map cI64 a1.Vector))] 45)], 2⟩ ?_ ?_
    ·skip
     simp only [EVB, eqF, Op.operands, IntKind.bits, descF, sizeF, bytesF, zeroF, seval, reduceCtorEq, ↓reduceIte]
     exact Weak.sub' ⟨rfl, trivial⟩ ⟨rfl, trivial⟩ (Nat.le_of_ble_eq_true rfl)
    ·skip
     subst hx0
     refine go_return ttOk (fun _ h => h) rfl ?_ ?_
     ·exact (by (repeat' apply And.intro) <;> first | trivial | exact Nat.le_of_ble_eq_true rfl | omega | (simp only [NM]; omega))
     ·first | rfl | (simp only [NM, CELLS] <;> rfl)
theorem pontoonlaw19_owned_sz (a0 : SCoord) (a1 : Spontoonlaw19_Come) (z0 : SCoord.Sz a0) (z1 : Spontoonlaw19_Come.Sz a1) : Spontoonlaw19_Come.Sz (pontoonlaw19_owned a0 a1) := by
 obtain ⟨res, hx0⟩ : ∃ r, pontoonlaw19_owned a0 a1 = r := ⟨_, rfl⟩
 simp only [hx0]
 unfold pontoonlaw19_owned at hx0
 try simp only [SZD] at z0 z1
 obtain ⟨zz4, ⟨zz5, zz6⟩⟩ := z0
 obtain ⟨⟨zz7, zz8, zz9⟩, zz10⟩ := z1
 obtain ⟨o1, ho1, hx0⟩ := letIn_ex hx0
 subst hx0
 exact (by (try simp only [SZD]); (repeat' apply And.intro) <;> first | assumption | omega | simp_all)

def pontoonlaw19_does (a0 : SCoord) (a1 : Spontoonlaw19_Come) : SCoord × SDo :=
  (bif (a1.Do == 0) then letIn (coord_Trigger a0) fun r2 => (r2.1, r2.2) else (bif (a1.Do == 1) then letIn (coord_Snapped a0 a1.Id) fun r4 => (r4.1, r4.2) else (bif (a1.Do == 2) then letIn (coord_Published a0 a1.Manifest) fun r6 => (r6.1, r6.2) else (bif (a1.Do == 3) then letIn (coord_Failed a0) fun r8 => (r8, (SDo.mk 0 0 0 (STxn.mk 0 0 0 [] []))) else (bif (a1.Do == 4) then letIn (coord_Answered a0 a1.Kind a1.Key a1.Err a1.Len a1.Vector) fun r10 => (r10.1, r10.2) else letIn (coord_Resume a0 a1.Manifest) fun r11 => (r11.1, r11.2))))))
set_option maxRecDepth 10000 in
set_option maxHeartbeats 8000000 in
theorem pontoonlaw19_does_t (a0 : SCoord) (a1 : Spontoonlaw19_Come) (z0 : SCoord.Sz a0) (z1 : Spontoonlaw19_Come.Sz a1) : FnP Try.prog 16 [.agg [.c (.val (.int .i64 a0.Phase)), .c (.val (.int .i64 a0.Epoch)), .c (.val (.int .i64 a0.Id)), .c (.val (.int .i64 a0.Len)), .c (.sl (List.map cI64 a0.Vector)), .c (.val (.int .i64 a0.Txn.Epoch)), .c (.val (.int .i64 a0.Txn.Id)), .c (.val (.int .i64 a0.Txn.Begin)), .c (.sl (List.map SRecord.cells a0.Txn.Records)), .c (.sl (List.map cI64 a0.Txn.Vector)), .c (.val (.int .i64 a0.Done)), .c (.val (.int .i64 a0.Left))], .agg [.c (.val (.int .i64 a1.Do)), .c (.val (.bool a1.Own)), .c (.val (.int .i64 a1.Id)), .c (.val (.int .i64 a1.Manifest.Epoch)), .c (.val (.int .i64 a1.Manifest.Id)), .c (.sl (List.map cI64 a1.Manifest.Vector)), .c (.val (.int .i64 a1.Manifest.Out)), .c (.val (.int .i64 a1.Manifest.Begin)), .c (.sl (List.map SRecord.cells a1.Manifest.Records)), .c (.sl (List.map SPiece.cells a1.Manifest.Pieces)), .c (.val (.int .u32 a1.Manifest.Graph)), .c (.val (.int .i64 a1.Kind)), .c (.val (.int .i64 a1.Key.Epoch)), .c (.val (.int .i64 a1.Key.Id)), .c (.val (.int .i64 a1.Err)), .c (.val (.int .i64 a1.Len)), .c (.sl (List.map cI64 a1.Vector))]] (.tup [.agg [.c (.val (.int .i64 (((pontoonlaw19_does a0 a1).1).Phase))), .c (.val (.int .i64 (((pontoonlaw19_does a0 a1).1).Epoch))), .c (.val (.int .i64 (((pontoonlaw19_does a0 a1).1).Id))), .c (.val (.int .i64 (((pontoonlaw19_does a0 a1).1).Len))), .c (.sl (List.map cI64 (((pontoonlaw19_does a0 a1).1).Vector))), .c (.val (.int .i64 ((((pontoonlaw19_does a0 a1).1).Txn).Epoch))), .c (.val (.int .i64 ((((pontoonlaw19_does a0 a1).1).Txn).Id))), .c (.val (.int .i64 ((((pontoonlaw19_does a0 a1).1).Txn).Begin))), .c (.sl (List.map SRecord.cells ((((pontoonlaw19_does a0 a1).1).Txn).Records))), .c (.sl (List.map cI64 ((((pontoonlaw19_does a0 a1).1).Txn).Vector))), .c (.val (.int .i64 (((pontoonlaw19_does a0 a1).1).Done))), .c (.val (.int .i64 (((pontoonlaw19_does a0 a1).1).Left)))], .agg [.c (.val (.int .i64 (((pontoonlaw19_does a0 a1).2).Kind))), .c (.val (.int .i64 (((pontoonlaw19_does a0 a1).2).Id))), .c (.val (.int .i64 (((pontoonlaw19_does a0 a1).2).Begin))), .c (.val (.int .i64 ((((pontoonlaw19_does a0 a1).2).Txn).Epoch))), .c (.val (.int .i64 ((((pontoonlaw19_does a0 a1).2).Txn).Id))), .c (.val (.int .i64 ((((pontoonlaw19_does a0 a1).2).Txn).Begin))), .c (.sl (List.map SRecord.cells ((((pontoonlaw19_does a0 a1).2).Txn).Records))), .c (.sl (List.map cI64 ((((pontoonlaw19_does a0 a1).2).Txn).Vector)))]]) := by
 refine FnP.intro (tt := tt) Try.func16 rfl (by kernel_rfl) (by simp [Try.ntmps16]) fun w0 A hA => ?_
 have hR := reckB_ok eqOk ttOk
 obtain ⟨res, hx0⟩ : ∃ r, pontoonlaw19_does a0 a1 = r := ⟨_, rfl⟩
 simp only [hx0]
 unfold pontoonlaw19_does at hx0
 simp only [argT, Try.ntmps16]
 try simp only [SZD] at z0 z1
 obtain ⟨zz12, ⟨zz13, zz14⟩⟩ := z0
 obtain ⟨⟨zz15, zz16, zz17⟩, zz18⟩ := z1
 refine go_seq ?_
 refine go_regionJ hR ⟨[(2, .ptr 0 0), (3, .ptr 1 0), (4, .ptr 2 0), (5, .ptr 3 0)], [(0, .box [.c (.val (.int .i64 a0.Phase)), .c (.val (.int .i64 a0.Epoch)), .c (.val (.int .i64 a0.Id)), .c (.val (.int .i64 a0.Len)), .c (.sl (List.map cI64 a0.Vector)), .c (.val (.int .i64 a0.Txn.Epoch)), .c (.val (.int .i64 a0.Txn.Id)), .c (.val (.int .i64 a0.Txn.Begin)), .c (.sl (List.map SRecord.cells a0.Txn.Records)), .c (.sl (List.map cI64 a0.Txn.Vector)), .c (.val (.int .i64 a0.Done)), .c (.val (.int .i64 a0.Left))] 30), (1, .box [.c (.val (.int .i64 a1.Do)), .c (.val (.bool a1.Own)), .c (.val (.int .i64 a1.Id)), .c (.val (.int .i64 a1.Manifest.Epoch)), .c (.val (.int .i64 a1.Manifest.Id)), .c (.sl (List.map cI64 a1.Manifest.Vector)), .c (.val (.int .i64 a1.Manifest.Out)), .c (.val (.int .i64 a1.Manifest.Begin)), .c (.sl (List.map SRecord.cells a1.Manifest.Records)), .c (.sl (List.map SPiece.cells a1.Manifest.Pieces)), .c (.val (.int .u32 a1.Manifest.Graph)), .c (.val (.int .i64 a1.Kind)), .c (.val (.int .i64 a1.Key.Epoch)), .c (.val (.int .i64 a1.Key.Id)), .c (.val (.int .i64 a1.Err)), .c (.val (.int .i64 a1.Len)), .c (.sl (List.map cI64 a1.Vector))] 45), (2, .box [.c (.val (.int .i64 0)), .c (.val (.int .i64 0)), .c (.val (.int .i64 0)), .c (.val (.int .i64 0)), .c (.val (.slice none 0 0)), .c (.val (.int .i64 0)), .c (.val (.int .i64 0)), .c (.val (.int .i64 0)), .c (.val (.slice none 0 0)), .c (.val (.slice none 0 0)), .c (.val (.int .i64 0)), .c (.val (.int .i64 0))] 30), (3, .box [.c (.val (.int .i64 0)), .c (.val (.int .i64 0)), .c (.val (.int .i64 0)), .c (.val (.int .i64 0)), .c (.val (.int .i64 0)), .c (.val (.int .i64 0)), .c (.val (.slice none 0 0)), .c (.val (.slice none 0 0))] 48)], 4⟩ ?_ ?_
 ·skip
  simp only [EVB, eqF, Op.operands, IntKind.bits, descF, sizeF, bytesF, zeroF, seval, reduceCtorEq, ↓reduceIte]
  exact Weak.sub' ⟨rfl, rfl, rfl, rfl, trivial⟩ ⟨rfl, rfl, rfl, rfl, trivial⟩ (Nat.le_of_ble_eq_true rfl)
 ·skip
  refine go_seq ?_
  refine go_seq ?_
  refine go_regionJ hR ⟨[(2, .ptr 0 0), (3, .ptr 1 0), (4, .ptr 2 0), (5, .ptr 3 0), (7, .c (.val (.int .i64 a1.Do)))], [(0, .box [.c (.val (.int .i64 a0.Phase)), .c (.val (.int .i64 a0.Epoch)), .c (.val (.int .i64 a0.Id)), .c (.val (.int .i64 a0.Len)), .c (.sl (List.map cI64 a0.Vector)), .c (.val (.int .i64 a0.Txn.Epoch)), .c (.val (.int .i64 a0.Txn.Id)), .c (.val (.int .i64 a0.Txn.Begin)), .c (.sl (List.map SRecord.cells a0.Txn.Records)), .c (.sl (List.map cI64 a0.Txn.Vector)), .c (.val (.int .i64 a0.Done)), .c (.val (.int .i64 a0.Left))] 30), (1, .box [.c (.val (.int .i64 a1.Do)), .c (.val (.bool a1.Own)), .c (.val (.int .i64 a1.Id)), .c (.val (.int .i64 a1.Manifest.Epoch)), .c (.val (.int .i64 a1.Manifest.Id)), .c (.sl (List.map cI64 a1.Manifest.Vector)), .c (.val (.int .i64 a1.Manifest.Out)), .c (.val (.int .i64 a1.Manifest.Begin)), .c (.sl (List.map SRecord.cells a1.Manifest.Records)), .c (.sl (List.map SPiece.cells a1.Manifest.Pieces)), .c (.val (.int .u32 a1.Manifest.Graph)), .c (.val (.int .i64 a1.Kind)), .c (.val (.int .i64 a1.Key.Epoch)), .c (.val (.int .i64 a1.Key.Id)), .c (.val (.int .i64 a1.Err)), .c (.val (.int .i64 a1.Len)), .c (.sl (List.map cI64 a1.Vector))] 45), (2, .box [.c (.val (.int .i64 0)), .c (.val (.int .i64 0)), .c (.val (.int .i64 0)), .c (.val (.int .i64 0)), .c (.val (.slice none 0 0)), .c (.val (.int .i64 0)), .c (.val (.int .i64 0)), .c (.val (.int .i64 0)), .c (.val (.slice none 0 0)), .c (.val (.slice none 0 0)), .c (.val (.int .i64 0)), .c (.val (.int .i64 0))] 30), (3, .box [.c (.val (.int .i64 0)), .c (.val (.int .i64 0)), .c (.val (.int .i64 0)), .c (.val (.int .i64 0)), .c (.val (.int .i64 0)), .c (.val (.int .i64 0)), .c (.val (.slice none 0 0)), .c (.val (.slice none 0 0))] 48)], 4⟩ ?_ ?_
  ·skip
   simp only [EVB, eqF, Op.operands, IntKind.bits, descF, sizeF, bytesF, zeroF, seval, reduceCtorEq, ↓reduceIte]
   exact Weak.sub' ⟨rfl, rfl, rfl, rfl, rfl, trivial⟩ ⟨rfl, rfl, rfl, rfl, trivial⟩ (Nat.le_of_ble_eq_true rfl)
  ·skip
   refine go_block ?_
   refine go_seq ?_
   refine go_regionJ hR ⟨[(2, .ptr 0 0), (3, .ptr 1 0), (4, .ptr 2 0), (5, .ptr 3 0), (7, .c (.val (.int .i64 a1.Do))), (8, .c (.val (.bool (a1.Do == 0))))], [(0, .box [.c (.val (.int .i64 a0.Phase)), .c (.val (.int .i64 a0.Epoch)), .c (.val (.int .i64 a0.Id)), .c (.val (.int .i64 a0.Len)), .c (.sl (List.map cI64 a0.Vector)), .c (.val (.int .i64 a0.Txn.Epoch)), .c (.val (.int .i64 a0.Txn.Id)), .c (.val (.int .i64 a0.Txn.Begin)), .c (.sl (List.map SRecord.cells a0.Txn.Records)), .c (.sl (List.map cI64 a0.Txn.Vector)), .c (.val (.int .i64 a0.Done)), .c (.val (.int .i64 a0.Left))] 30), (1, .box [.c (.val (.int .i64 a1.Do)), .c (.val (.bool a1.Own)), .c (.val (.int .i64 a1.Id)), .c (.val (.int .i64 a1.Manifest.Epoch)), .c (.val (.int .i64 a1.Manifest.Id)), .c (.sl (List.map cI64 a1.Manifest.Vector)), .c (.val (.int .i64 a1.Manifest.Out)), .c (.val (.int .i64 a1.Manifest.Begin)), .c (.sl (List.map SRecord.cells a1.Manifest.Records)), .c (.sl (List.map SPiece.cells a1.Manifest.Pieces)), .c (.val (.int .u32 a1.Manifest.Graph)), .c (.val (.int .i64 a1.Kind)), .c (.val (.int .i64 a1.Key.Epoch)), .c (.val (.int .i64 a1.Key.Id)), .c (.val (.int .i64 a1.Err)), .c (.val (.int .i64 a1.Len)), .c (.sl (List.map cI64 a1.Vector))] 45), (2, .box [.c (.val (.int .i64 0)), .c (.val (.int .i64 0)), .c (.val (.int .i64 0)), .c (.val (.int .i64 0)), .c (.val (.slice none 0 0)), .c (.val (.int .i64 0)), .c (.val (.int .i64 0)), .c (.val (.int .i64 0)), .c (.val (.slice none 0 0)), .c (.val (.slice none 0 0)), .c (.val (.int .i64 0)), .c (.val (.int .i64 0))] 30), (3, .box [.c (.val (.int .i64 0)), .c (.val (.int .i64 0)), .c (.val (.int .i64 0)), .c (.val (.int .i64 0)), .c (.val (.int .i64 0)), .c (.val (.int .i64 0)), .c (.val (.slice none 0 0)), .c (.val (.slice none 0 0))] 48)], 4⟩ ?_ ?_
   ·skip
    simp only [EVB, eqF, Op.operands, IntKind.bits, descF, sizeF, bytesF, zeroF, seval, reduceCtorEq, ↓reduceIte]
    exact Weak.sub' ⟨rfl, rfl, rfl, rfl, rfl, rfl, trivial⟩ ⟨rfl, rfl, rfl, rfl, trivial⟩ (Nat.le_of_ble_eq_true rfl)
   ·skip
    refine go_cond (by rfl) (fun h1 => ?_) (fun h1 => ?_)
    ·have gh1 := h1
     try simp only [GN, beq_iff_eq, beq_eq_false_iff_ne, bne_iff_ne, bne_eq_false_iff_eq] at gh1
     simp only [h1, cond_true, cond_false] at hx0
     refine go_seq ?_
     obtain ⟨r2, hr2, hx0⟩ := letIn_ex hx0
     have Cr2 := (coord_Trigger_t a0 (by (try simp only [SZD]); (repeat' apply And.intro) <;> first | assumption | omega | simp_all))
     simp only [hr2] at Cr2
     have zr2 := coord_Trigger_sz a0 (by (try simp only [SZD]); (repeat' apply And.intro) <;> first | assumption | omega | simp_all)
     simp only [hr2, SZD] at zr2
     obtain ⟨⟨zz19, ⟨zz20, zz21⟩⟩, ⟨zz22, zz23⟩⟩ := zr2
     refine go_regionJ hR ⟨[(4, .ptr 2 0), (5, .ptr 3 0)], [(2, .box [.c (.val (.int .i64 r2.1.Phase)), .c (.val (.int .i64 r2.1.Epoch)), .c (.val (.int .i64 r2.1.Id)), .c (.val (.int .i64 r2.1.Len)), .c (.sl (List.map cI64 r2.1.Vector)), .c (.val (.int .i64 r2.1.Txn.Epoch)), .c (.val (.int .i64 r2.1.Txn.Id)), .c (.val (.int .i64 r2.1.Txn.Begin)), .c (.sl (List.map SRecord.cells r2.1.Txn.Records)), .c (.sl (List.map cI64 r2.1.Txn.Vector)), .c (.val (.int .i64 r2.1.Done)), .c (.val (.int .i64 r2.1.Left))] 30), (3, .box [.c (.val (.int .i64 r2.2.Kind)), .c (.val (.int .i64 r2.2.Id)), .c (.val (.int .i64 r2.2.Begin)), .c (.val (.int .i64 r2.2.Txn.Epoch)), .c (.val (.int .i64 r2.2.Txn.Id)), .c (.val (.int .i64 r2.2.Txn.Begin)), .c (.sl (List.map SRecord.cells r2.2.Txn.Records)), .c (.sl (List.map cI64 r2.2.Txn.Vector))] 48)], 4⟩ ?_ ?_
     ·skip
      simp only [EVB, eqF, Op.operands, IntKind.bits, descF, sizeF, bytesF, zeroF, seval, reduceCtorEq, ↓reduceIte]
      refine CallK.freshE Cr2.toO rfl (by first | rfl | (simp only [NM]; done)) (by (repeat' apply And.intro) <;> first | trivial | rfl | omega | (simp only [NM]; omega)) (.inl rfl) (by exact Nat.le_of_ble_eq_true rfl) ?_
      try simp only [EVB, eqF, Op.operands, IntKind.bits, descF, sizeF, bytesF, zeroF, seval, reduceCtorEq, ↓reduceIte]
      exact Weak.sub' ⟨rfl, rfl, trivial⟩ ⟨rfl, rfl, trivial⟩ (Nat.le_of_ble_eq_true rfl)
     ·skip
      subst hx0
      refine go_return ttOk (fun _ h => h) rfl ?_ ?_
      ·exact (by (repeat' apply And.intro) <;> first | trivial | exact Nat.le_of_ble_eq_true rfl | omega | (simp only [NM]; omega))
      ·first | rfl | (simp only [NM, CELLS] <;> rfl)
    ·have gh1 := h1
     try simp only [GN, beq_iff_eq, beq_eq_false_iff_ne, bne_iff_ne, bne_eq_false_iff_eq] at gh1
     simp only [h1, cond_true, cond_false] at hx0
     refine go_seq ?_
     refine go_regionJ hR ⟨[(2, .ptr 0 0), (3, .ptr 1 0), (4, .ptr 2 0), (5, .ptr 3 0), (7, .c (.val (.int .i64 a1.Do))), (14, .c (.val (.bool (a1.Do == 1))))], [(0, .box [.c (.val (.int .i64 a0.Phase)), .c (.val (.int .i64 a0.Epoch)), .c (.val (.int .i64 a0.Id)), .c (.val (.int .i64 a0.Len)), .c (.sl (List.map cI64 a0.Vector)), .c (.val (.int .i64 a0.Txn.Epoch)), .c (.val (.int .i64 a0.Txn.Id)), .c (.val (.int .i64 a0.Txn.Begin)), .c (.sl (List.map SRecord.cells a0.Txn.Records)), .c (.sl (List.map cI64 a0.Txn.Vector)), .c (.val (.int .i64 a0.Done)), .c (.val (.int .i64 a0.Left))] 30), (1, .box [.c (.val (.int .i64 a1.Do)), .c (.val (.bool a1.Own)), .c (.val (.int .i64 a1.Id)), .c (.val (.int .i64 a1.Manifest.Epoch)), .c (.val (.int .i64 a1.Manifest.Id)), .c (.sl (List.map cI64 a1.Manifest.Vector)), .c (.val (.int .i64 a1.Manifest.Out)), .c (.val (.int .i64 a1.Manifest.Begin)), .c (.sl (List.map SRecord.cells a1.Manifest.Records)), .c (.sl (List.map SPiece.cells a1.Manifest.Pieces)), .c (.val (.int .u32 a1.Manifest.Graph)), .c (.val (.int .i64 a1.Kind)), .c (.val (.int .i64 a1.Key.Epoch)), .c (.val (.int .i64 a1.Key.Id)), .c (.val (.int .i64 a1.Err)), .c (.val (.int .i64 a1.Len)), .c (.sl (List.map cI64 a1.Vector))] 45), (2, .box [.c (.val (.int .i64 0)), .c (.val (.int .i64 0)), .c (.val (.int .i64 0)), .c (.val (.int .i64 0)), .c (.val (.slice none 0 0)), .c (.val (.int .i64 0)), .c (.val (.int .i64 0)), .c (.val (.int .i64 0)), .c (.val (.slice none 0 0)), .c (.val (.slice none 0 0)), .c (.val (.int .i64 0)), .c (.val (.int .i64 0))] 30), (3, .box [.c (.val (.int .i64 0)), .c (.val (.int .i64 0)), .c (.val (.int .i64 0)), .c (.val (.int .i64 0)), .c (.val (.int .i64 0)), .c (.val (.int .i64 0)), .c (.val (.slice none 0 0)), .c (.val (.slice none 0 0))] 48)], 4⟩ ?_ ?_
     ·skip
      simp only [EVB, eqF, Op.operands, IntKind.bits, descF, sizeF, bytesF, zeroF, seval, reduceCtorEq, ↓reduceIte]
      exact Weak.sub' ⟨rfl, rfl, rfl, rfl, rfl, rfl, trivial⟩ ⟨rfl, rfl, rfl, rfl, trivial⟩ (Nat.le_of_ble_eq_true rfl)
     ·skip
      refine go_cond (by rfl) (fun h3 => ?_) (fun h3 => ?_)
      ·have gh3 := h3
       try simp only [GN, beq_iff_eq, beq_eq_false_iff_ne, bne_iff_ne, bne_eq_false_iff_eq] at gh3
       simp only [h3, cond_true, cond_false] at hx0
       refine go_seq ?_
       obtain ⟨r4, hr4, hx0⟩ := letIn_ex hx0
       have Cr4 := (coord_Snapped_t a0 a1.Id (by (try simp only [SZD]); (repeat' apply And.intro) <;> first | assumption | omega | simp_all))
       simp only [hr4] at Cr4
       have zr4 := coord_Snapped_sz a0 a1.Id (by (try simp only [SZD]); (repeat' apply And.intro) <;> first | assumption | omega | simp_all)
       simp only [hr4, SZD] at zr4
       obtain ⟨⟨zz24, ⟨zz25, zz26⟩⟩, ⟨zz27, zz28⟩⟩ := zr4
       refine go_regionJ hR ⟨[(4, .ptr 2 0), (5, .ptr 3 0)], [(2, .box [.c (.val (.int .i64 r4.1.Phase)), .c (.val (.int .i64 r4.1.Epoch)), .c (.val (.int .i64 r4.1.Id)), .c (.val (.int .i64 r4.1.Len)), .c (.sl (List.map cI64 r4.1.Vector)), .c (.val (.int .i64 r4.1.Txn.Epoch)), .c (.val (.int .i64 r4.1.Txn.Id)), .c (.val (.int .i64 r4.1.Txn.Begin)), .c (.sl (List.map SRecord.cells r4.1.Txn.Records)), .c (.sl (List.map cI64 r4.1.Txn.Vector)), .c (.val (.int .i64 r4.1.Done)), .c (.val (.int .i64 r4.1.Left))] 30), (3, .box [.c (.val (.int .i64 r4.2.Kind)), .c (.val (.int .i64 r4.2.Id)), .c (.val (.int .i64 r4.2.Begin)), .c (.val (.int .i64 r4.2.Txn.Epoch)), .c (.val (.int .i64 r4.2.Txn.Id)), .c (.val (.int .i64 r4.2.Txn.Begin)), .c (.sl (List.map SRecord.cells r4.2.Txn.Records)), .c (.sl (List.map cI64 r4.2.Txn.Vector))] 48)], 4⟩ ?_ ?_
       ·skip
        simp only [EVB, eqF, Op.operands, IntKind.bits, descF, sizeF, bytesF, zeroF, seval, reduceCtorEq, ↓reduceIte]
        refine CallK.freshE Cr4.toO rfl (by first | rfl | (simp only [NM]; done)) (by (repeat' apply And.intro) <;> first | trivial | rfl | omega | (simp only [NM]; omega)) (.inl rfl) (by exact Nat.le_of_ble_eq_true rfl) ?_
        try simp only [EVB, eqF, Op.operands, IntKind.bits, descF, sizeF, bytesF, zeroF, seval, reduceCtorEq, ↓reduceIte]
        exact Weak.sub' ⟨rfl, rfl, trivial⟩ ⟨rfl, rfl, trivial⟩ (Nat.le_of_ble_eq_true rfl)
       ·skip
        subst hx0
        refine go_return ttOk (fun _ h => h) rfl ?_ ?_
        ·exact (by (repeat' apply And.intro) <;> first | trivial | exact Nat.le_of_ble_eq_true rfl | omega | (simp only [NM]; omega))
        ·first | rfl | (simp only [NM, CELLS] <;> rfl)
      ·have gh3 := h3
       try simp only [GN, beq_iff_eq, beq_eq_false_iff_ne, bne_iff_ne, bne_eq_false_iff_eq] at gh3
       simp only [h3, cond_true, cond_false] at hx0
       refine go_seq ?_
       refine go_regionJ hR ⟨[(2, .ptr 0 0), (3, .ptr 1 0), (4, .ptr 2 0), (5, .ptr 3 0), (7, .c (.val (.int .i64 a1.Do))), (22, .c (.val (.bool (a1.Do == 2))))], [(0, .box [.c (.val (.int .i64 a0.Phase)), .c (.val (.int .i64 a0.Epoch)), .c (.val (.int .i64 a0.Id)), .c (.val (.int .i64 a0.Len)), .c (.sl (List.map cI64 a0.Vector)), .c (.val (.int .i64 a0.Txn.Epoch)), .c (.val (.int .i64 a0.Txn.Id)), .c (.val (.int .i64 a0.Txn.Begin)), .c (.sl (List.map SRecord.cells a0.Txn.Records)), .c (.sl (List.map cI64 a0.Txn.Vector)), .c (.val (.int .i64 a0.Done)), .c (.val (.int .i64 a0.Left))] 30), (1, .box [.c (.val (.int .i64 a1.Do)), .c (.val (.bool a1.Own)), .c (.val (.int .i64 a1.Id)), .c (.val (.int .i64 a1.Manifest.Epoch)), .c (.val (.int .i64 a1.Manifest.Id)), .c (.sl (List.map cI64 a1.Manifest.Vector)), .c (.val (.int .i64 a1.Manifest.Out)), .c (.val (.int .i64 a1.Manifest.Begin)), .c (.sl (List.map SRecord.cells a1.Manifest.Records)), .c (.sl (List.map SPiece.cells a1.Manifest.Pieces)), .c (.val (.int .u32 a1.Manifest.Graph)), .c (.val (.int .i64 a1.Kind)), .c (.val (.int .i64 a1.Key.Epoch)), .c (.val (.int .i64 a1.Key.Id)), .c (.val (.int .i64 a1.Err)), .c (.val (.int .i64 a1.Len)), .c (.sl (List.map cI64 a1.Vector))] 45), (2, .box [.c (.val (.int .i64 0)), .c (.val (.int .i64 0)), .c (.val (.int .i64 0)), .c (.val (.int .i64 0)), .c (.val (.slice none 0 0)), .c (.val (.int .i64 0)), .c (.val (.int .i64 0)), .c (.val (.int .i64 0)), .c (.val (.slice none 0 0)), .c (.val (.slice none 0 0)), .c (.val (.int .i64 0)), .c (.val (.int .i64 0))] 30), (3, .box [.c (.val (.int .i64 0)), .c (.val (.int .i64 0)), .c (.val (.int .i64 0)), .c (.val (.int .i64 0)), .c (.val (.int .i64 0)), .c (.val (.int .i64 0)), .c (.val (.slice none 0 0)), .c (.val (.slice none 0 0))] 48)], 4⟩ ?_ ?_
       ·skip
        simp only [EVB, eqF, Op.operands, IntKind.bits, descF, sizeF, bytesF, zeroF, seval, reduceCtorEq, ↓reduceIte]
        exact Weak.sub' ⟨rfl, rfl, rfl, rfl, rfl, rfl, trivial⟩ ⟨rfl, rfl, rfl, rfl, trivial⟩ (Nat.le_of_ble_eq_true rfl)
       ·skip
        refine go_cond (by rfl) (fun h5 => ?_) (fun h5 => ?_)
        ·have gh5 := h5
         try simp only [GN, beq_iff_eq, beq_eq_false_iff_ne, bne_iff_ne, bne_eq_false_iff_eq] at gh5
         simp only [h5, cond_true, cond_false] at hx0
         refine go_seq ?_
         obtain ⟨r6, hr6, hx0⟩ := letIn_ex hx0
         have Cr6 := (coord_Published_t a0 a1.Manifest (by (try simp only [SZD]); (repeat' apply And.intro) <;> first | assumption | omega | simp_all) (by (try simp only [SZD]); (repeat' apply And.intro) <;> first | assumption | omega | simp_all))
         simp only [hr6] at Cr6
         have zr6 := coord_Published_sz a0 a1.Manifest (by (try simp only [SZD]); (repeat' apply And.intro) <;> first | assumption | omega | simp_all) (by (try simp only [SZD]); (repeat' apply And.intro) <;> first | assumption | omega | simp_all)
         simp only [hr6, SZD] at zr6
         obtain ⟨⟨zz29, ⟨zz30, zz31⟩⟩, ⟨zz32, zz33⟩⟩ := zr6
         refine go_regionJ hR ⟨[(4, .ptr 2 0), (5, .ptr 3 0)], [(2, .box [.c (.val (.int .i64 r6.1.Phase)), .c (.val (.int .i64 r6.1.Epoch)), .c (.val (.int .i64 r6.1.Id)), .c (.val (.int .i64 r6.1.Len)), .c (.sl (List.map cI64 r6.1.Vector)), .c (.val (.int .i64 r6.1.Txn.Epoch)), .c (.val (.int .i64 r6.1.Txn.Id)), .c (.val (.int .i64 r6.1.Txn.Begin)), .c (.sl (List.map SRecord.cells r6.1.Txn.Records)), .c (.sl (List.map cI64 r6.1.Txn.Vector)), .c (.val (.int .i64 r6.1.Done)), .c (.val (.int .i64 r6.1.Left))] 30), (3, .box [.c (.val (.int .i64 r6.2.Kind)), .c (.val (.int .i64 r6.2.Id)), .c (.val (.int .i64 r6.2.Begin)), .c (.val (.int .i64 r6.2.Txn.Epoch)), .c (.val (.int .i64 r6.2.Txn.Id)), .c (.val (.int .i64 r6.2.Txn.Begin)), .c (.sl (List.map SRecord.cells r6.2.Txn.Records)), .c (.sl (List.map cI64 r6.2.Txn.Vector))] 48)], 4⟩ ?_ ?_
         ·skip
          simp only [EVB, eqF, Op.operands, IntKind.bits, descF, sizeF, bytesF, zeroF, seval, reduceCtorEq, ↓reduceIte]
          refine CallK.freshE Cr6.toO rfl (by first | rfl | (simp only [NM]; done)) (by (repeat' apply And.intro) <;> first | trivial | rfl | omega | (simp only [NM]; omega)) (.inl rfl) (by exact Nat.le_of_ble_eq_true rfl) ?_
          try simp only [EVB, eqF, Op.operands, IntKind.bits, descF, sizeF, bytesF, zeroF, seval, reduceCtorEq, ↓reduceIte]
          exact Weak.sub' ⟨rfl, rfl, trivial⟩ ⟨rfl, rfl, trivial⟩ (Nat.le_of_ble_eq_true rfl)
         ·skip
          subst hx0
          refine go_return ttOk (fun _ h => h) rfl ?_ ?_
          ·exact (by (repeat' apply And.intro) <;> first | trivial | exact Nat.le_of_ble_eq_true rfl | omega | (simp only [NM]; omega))
          ·first | rfl | (simp only [NM, CELLS] <;> rfl)
        ·have gh5 := h5
         try simp only [GN, beq_iff_eq, beq_eq_false_iff_ne, bne_iff_ne, bne_eq_false_iff_eq] at gh5
         simp only [h5, cond_true, cond_false] at hx0
         refine go_seq ?_
         refine go_regionJ hR ⟨[(2, .ptr 0 0), (3, .ptr 1 0), (4, .ptr 2 0), (5, .ptr 3 0), (7, .c (.val (.int .i64 a1.Do))), (30, .c (.val (.bool (a1.Do == 3))))], [(0, .box [.c (.val (.int .i64 a0.Phase)), .c (.val (.int .i64 a0.Epoch)), .c (.val (.int .i64 a0.Id)), .c (.val (.int .i64 a0.Len)), .c (.sl (List.map cI64 a0.Vector)), .c (.val (.int .i64 a0.Txn.Epoch)), .c (.val (.int .i64 a0.Txn.Id)), .c (.val (.int .i64 a0.Txn.Begin)), .c (.sl (List.map SRecord.cells a0.Txn.Records)), .c (.sl (List.map cI64 a0.Txn.Vector)), .c (.val (.int .i64 a0.Done)), .c (.val (.int .i64 a0.Left))] 30), (1, .box [.c (.val (.int .i64 a1.Do)), .c (.val (.bool a1.Own)), .c (.val (.int .i64 a1.Id)), .c (.val (.int .i64 a1.Manifest.Epoch)), .c (.val (.int .i64 a1.Manifest.Id)), .c (.sl (List.map cI64 a1.Manifest.Vector)), .c (.val (.int .i64 a1.Manifest.Out)), .c (.val (.int .i64 a1.Manifest.Begin)), .c (.sl (List.map SRecord.cells a1.Manifest.Records)), .c (.sl (List.map SPiece.cells a1.Manifest.Pieces)), .c (.val (.int .u32 a1.Manifest.Graph)), .c (.val (.int .i64 a1.Kind)), .c (.val (.int .i64 a1.Key.Epoch)), .c (.val (.int .i64 a1.Key.Id)), .c (.val (.int .i64 a1.Err)), .c (.val (.int .i64 a1.Len)), .c (.sl (List.map cI64 a1.Vector))] 45), (2, .box [.c (.val (.int .i64 0)), .c (.val (.int .i64 0)), .c (.val (.int .i64 0)), .c (.val (.int .i64 0)), .c (.val (.slice none 0 0)), .c (.val (.int .i64 0)), .c (.val (.int .i64 0)), .c (.val (.int .i64 0)), .c (.val (.slice none 0 0)), .c (.val (.slice none 0 0)), .c (.val (.int .i64 0)), .c (.val (.int .i64 0))] 30), (3, .box [.c (.val (.int .i64 0)), .c (.val (.int .i64 0)), .c (.val (.int .i64 0)), .c (.val (.int .i64 0)), .c (.val (.int .i64 0)), .c (.val (.int .i64 0)), .c (.val (.slice none 0 0)), .c (.val (.slice none 0 0))] 48)], 4⟩ ?_ ?_
         ·skip
          simp only [EVB, eqF, Op.operands, IntKind.bits, descF, sizeF, bytesF, zeroF, seval, reduceCtorEq, ↓reduceIte]
          exact Weak.sub' ⟨rfl, rfl, rfl, rfl, rfl, rfl, trivial⟩ ⟨rfl, rfl, rfl, rfl, trivial⟩ (Nat.le_of_ble_eq_true rfl)
         ·skip
          refine go_cond (by rfl) (fun h7 => ?_) (fun h7 => ?_)
          ·have gh7 := h7
           try simp only [GN, beq_iff_eq, beq_eq_false_iff_ne, bne_iff_ne, bne_eq_false_iff_eq] at gh7
           simp only [h7, cond_true, cond_false] at hx0
           refine go_seq ?_
           obtain ⟨r8, hr8, hx0⟩ := letIn_ex hx0
           have Cr8 := (coord_Failed_t a0 (by (try simp only [SZD]); (repeat' apply And.intro) <;> first | assumption | omega | simp_all))
           simp only [hr8] at Cr8
           have zr8 := coord_Failed_sz a0 (by (try simp only [SZD]); (repeat' apply And.intro) <;> first | assumption | omega | simp_all)
           simp only [hr8, SZD] at zr8
           obtain ⟨zz34, ⟨zz35, zz36⟩⟩ := zr8
           refine go_regionJ hR ⟨[(4, .ptr 2 0), (5, .ptr 3 0)], [(2, .box [.c (.val (.int .i64 r8.Phase)), .c (.val (.int .i64 r8.Epoch)), .c (.val (.int .i64 r8.Id)), .c (.val (.int .i64 r8.Len)), .c (.sl (List.map cI64 r8.Vector)), .c (.val (.int .i64 r8.Txn.Epoch)), .c (.val (.int .i64 r8.Txn.Id)), .c (.val (.int .i64 r8.Txn.Begin)), .c (.sl (List.map SRecord.cells r8.Txn.Records)), .c (.sl (List.map cI64 r8.Txn.Vector)), .c (.val (.int .i64 r8.Done)), .c (.val (.int .i64 r8.Left))] 30), (3, .box [.c (.val (.int .i64 0)), .c (.val (.int .i64 0)), .c (.val (.int .i64 0)), .c (.val (.int .i64 0)), .c (.val (.int .i64 0)), .c (.val (.int .i64 0)), .c (.val (.slice none 0 0)), .c (.val (.slice none 0 0))] 48)], 4⟩ ?_ ?_
           ·skip
            simp only [EVB, eqF, Op.operands, IntKind.bits, descF, sizeF, bytesF, zeroF, seval, reduceCtorEq, ↓reduceIte]
            refine CallK.freshE Cr8.toO rfl (by first | rfl | (simp only [NM]; done)) (by (repeat' apply And.intro) <;> first | trivial | rfl | omega | (simp only [NM]; omega)) (.inl rfl) (by exact Nat.le_of_ble_eq_true rfl) ?_
            try simp only [EVB, eqF, Op.operands, IntKind.bits, descF, sizeF, bytesF, zeroF, seval, reduceCtorEq, ↓reduceIte]
            exact Weak.sub' ⟨rfl, rfl, trivial⟩ ⟨rfl, rfl, trivial⟩ (Nat.le_of_ble_eq_true rfl)
           ·skip
            subst hx0
            refine go_return ttOk (fun _ h => h) rfl ?_ ?_
            ·exact (by (repeat' apply And.intro) <;> first | trivial | exact Nat.le_of_ble_eq_true rfl | omega | (simp only [NM]; omega))
            ·first | rfl | (simp only [NM, CELLS] <;> rfl)
          ·have gh7 := h7
           try simp only [GN, beq_iff_eq, beq_eq_false_iff_ne, bne_iff_ne, bne_eq_false_iff_eq] at gh7
           simp only [h7, cond_true, cond_false] at hx0
           refine go_seq ?_
           refine go_regionJ hR ⟨[(2, .ptr 0 0), (3, .ptr 1 0), (4, .ptr 2 0), (5, .ptr 3 0), (35, .c (.val (.bool (a1.Do == 4))))], [(0, .box [.c (.val (.int .i64 a0.Phase)), .c (.val (.int .i64 a0.Epoch)), .c (.val (.int .i64 a0.Id)), .c (.val (.int .i64 a0.Len)), .c (.sl (List.map cI64 a0.Vector)), .c (.val (.int .i64 a0.Txn.Epoch)), .c (.val (.int .i64 a0.Txn.Id)), .c (.val (.int .i64 a0.Txn.Begin)), .c (.sl (List.map SRecord.cells a0.Txn.Records)), .c (.sl (List.map cI64 a0.Txn.Vector)), .c (.val (.int .i64 a0.Done)), .c (.val (.int .i64 a0.Left))] 30), (1, .box [.c (.val (.int .i64 a1.Do)), .c (.val (.bool a1.Own)), .c (.val (.int .i64 a1.Id)), .c (.val (.int .i64 a1.Manifest.Epoch)), .c (.val (.int .i64 a1.Manifest.Id)), .c (.sl (List.map cI64 a1.Manifest.Vector)), .c (.val (.int .i64 a1.Manifest.Out)), .c (.val (.int .i64 a1.Manifest.Begin)), .c (.sl (List.map SRecord.cells a1.Manifest.Records)), .c (.sl (List.map SPiece.cells a1.Manifest.Pieces)), .c (.val (.int .u32 a1.Manifest.Graph)), .c (.val (.int .i64 a1.Kind)), .c (.val (.int .i64 a1.Key.Epoch)), .c (.val (.int .i64 a1.Key.Id)), .c (.val (.int .i64 a1.Err)), .c (.val (.int .i64 a1.Len)), .c (.sl (List.map cI64 a1.Vector))] 45), (2, .box [.c (.val (.int .i64 0)), .c (.val (.int .i64 0)), .c (.val (.int .i64 0)), .c (.val (.int .i64 0)), .c (.val (.slice none 0 0)), .c (.val (.int .i64 0)), .c (.val (.int .i64 0)), .c (.val (.int .i64 0)), .c (.val (.slice none 0 0)), .c (.val (.slice none 0 0)), .c (.val (.int .i64 0)), .c (.val (.int .i64 0))] 30), (3, .box [.c (.val (.int .i64 0)), .c (.val (.int .i64 0)), .c (.val (.int .i64 0)), .c (.val (.int .i64 0)), .c (.val (.int .i64 0)), .c (.val (.int .i64 0)), .c (.val (.slice none 0 0)), .c (.val (.slice none 0 0))] 48)], 4⟩ ?_ ?_
           ·skip
            simp only [EVB, eqF, Op.operands, IntKind.bits, descF, sizeF, bytesF, zeroF, seval, reduceCtorEq, ↓reduceIte]
            exact Weak.sub' ⟨rfl, rfl, rfl, rfl, rfl, trivial⟩ ⟨rfl, rfl, rfl, rfl, trivial⟩ (Nat.le_of_ble_eq_true rfl)
           ·skip
            refine go_cond (by rfl) (fun h9 => ?_) (fun h9 => ?_)
            ·have gh9 := h9
             try simp only [GN, beq_iff_eq, beq_eq_false_iff_ne, bne_iff_ne, bne_eq_false_iff_eq] at gh9
             simp only [h9, cond_true, cond_false] at hx0
             refine go_seq ?_
             obtain ⟨r10, hr10, hx0⟩ := letIn_ex hx0
             have Cr10 := (coord_Answered_t a0 a1.Kind a1.Key a1.Err a1.Len a1.Vector (by (try simp only [SZD]); (repeat' apply And.intro) <;> first | assumption | omega | simp_all) (by (try simp only [SZD]); (repeat' apply And.intro) <;> first | assumption | omega | simp_all))
             simp only [hr10] at Cr10
             have zr10 := coord_Answered_sz a0 a1.Kind a1.Key a1.Err a1.Len a1.Vector (by (try simp only [SZD]); (repeat' apply And.intro) <;> first | assumption | omega | simp_all) (by (try simp only [SZD]); (repeat' apply And.intro) <;> first | assumption | omega | simp_all)
             simp only [hr10, SZD] at zr10
             obtain ⟨⟨zz37, ⟨zz38, zz39⟩⟩, ⟨zz40, zz41⟩⟩ := zr10
             refine go_regionJ hR ⟨[(4, .ptr 2 0), (5, .ptr 3 0)], [(2, .box [.c (.val (.int .i64 r10.1.Phase)), .c (.val (.int .i64 r10.1.Epoch)), .c (.val (.int .i64 r10.1.Id)), .c (.val (.int .i64 r10.1.Len)), .c (.sl (List.map cI64 r10.1.Vector)), .c (.val (.int .i64 r10.1.Txn.Epoch)), .c (.val (.int .i64 r10.1.Txn.Id)), .c (.val (.int .i64 r10.1.Txn.Begin)), .c (.sl (List.map SRecord.cells r10.1.Txn.Records)), .c (.sl (List.map cI64 r10.1.Txn.Vector)), .c (.val (.int .i64 r10.1.Done)), .c (.val (.int .i64 r10.1.Left))] 30), (3, .box [.c (.val (.int .i64 r10.2.Kind)), .c (.val (.int .i64 r10.2.Id)), .c (.val (.int .i64 r10.2.Begin)), .c (.val (.int .i64 r10.2.Txn.Epoch)), .c (.val (.int .i64 r10.2.Txn.Id)), .c (.val (.int .i64 r10.2.Txn.Begin)), .c (.sl (List.map SRecord.cells r10.2.Txn.Records)), .c (.sl (List.map cI64 r10.2.Txn.Vector))] 48)], 4⟩ ?_ ?_
             ·skip
              simp only [EVB, eqF, Op.operands, IntKind.bits, descF, sizeF, bytesF, zeroF, seval, reduceCtorEq, ↓reduceIte]
              refine CallK.freshE Cr10.toO rfl (by first | rfl | (simp only [NM]; done)) (by (repeat' apply And.intro) <;> first | trivial | rfl | omega | (simp only [NM]; omega)) (.inl rfl) (by exact Nat.le_of_ble_eq_true rfl) ?_
              try simp only [EVB, eqF, Op.operands, IntKind.bits, descF, sizeF, bytesF, zeroF, seval, reduceCtorEq, ↓reduceIte]
              exact Weak.sub' ⟨rfl, rfl, trivial⟩ ⟨rfl, rfl, trivial⟩ (Nat.le_of_ble_eq_true rfl)
             ·skip
              subst hx0
              refine go_return ttOk (fun _ h => h) rfl ?_ ?_
              ·exact (by (repeat' apply And.intro) <;> first | trivial | exact Nat.le_of_ble_eq_true rfl | omega | (simp only [NM]; omega))
              ·first | rfl | (simp only [NM, CELLS] <;> rfl)
            ·have gh9 := h9
             try simp only [GN, beq_iff_eq, beq_eq_false_iff_ne, bne_iff_ne, bne_eq_false_iff_eq] at gh9
             simp only [h9, cond_true, cond_false] at hx0
             refine go_skip ?_
             refine go_blk ?_
             refine go_seq ?_
             obtain ⟨r11, hr11, hx0⟩ := letIn_ex hx0
             have Cr11 := (coord_Resume_t a0 a1.Manifest (by (try simp only [SZD]); (repeat' apply And.intro) <;> first | assumption | omega | simp_all) (by (try simp only [SZD]); (repeat' apply And.intro) <;> first | assumption | omega | simp_all))
             simp only [hr11] at Cr11
             have zr11 := coord_Resume_sz a0 a1.Manifest (by (try simp only [SZD]); (repeat' apply And.intro) <;> first | assumption | omega | simp_all) (by (try simp only [SZD]); (repeat' apply And.intro) <;> first | assumption | omega | simp_all)
             simp only [hr11, SZD] at zr11
             obtain ⟨⟨zz42, ⟨zz43, zz44⟩⟩, ⟨zz45, zz46⟩⟩ := zr11
             refine go_regionJ hR ⟨[(4, .ptr 2 0), (5, .ptr 3 0)], [(2, .box [.c (.val (.int .i64 r11.1.Phase)), .c (.val (.int .i64 r11.1.Epoch)), .c (.val (.int .i64 r11.1.Id)), .c (.val (.int .i64 r11.1.Len)), .c (.sl (List.map cI64 r11.1.Vector)), .c (.val (.int .i64 r11.1.Txn.Epoch)), .c (.val (.int .i64 r11.1.Txn.Id)), .c (.val (.int .i64 r11.1.Txn.Begin)), .c (.sl (List.map SRecord.cells r11.1.Txn.Records)), .c (.sl (List.map cI64 r11.1.Txn.Vector)), .c (.val (.int .i64 r11.1.Done)), .c (.val (.int .i64 r11.1.Left))] 30), (3, .box [.c (.val (.int .i64 r11.2.Kind)), .c (.val (.int .i64 r11.2.Id)), .c (.val (.int .i64 r11.2.Begin)), .c (.val (.int .i64 r11.2.Txn.Epoch)), .c (.val (.int .i64 r11.2.Txn.Id)), .c (.val (.int .i64 r11.2.Txn.Begin)), .c (.sl (List.map SRecord.cells r11.2.Txn.Records)), .c (.sl (List.map cI64 r11.2.Txn.Vector))] 48)], 4⟩ ?_ ?_
             ·skip
              simp only [EVB, eqF, Op.operands, IntKind.bits, descF, sizeF, bytesF, zeroF, seval, reduceCtorEq, ↓reduceIte]
              refine CallK.freshE Cr11.toO rfl (by first | rfl | (simp only [NM]; done)) (by (repeat' apply And.intro) <;> first | trivial | rfl | omega | (simp only [NM]; omega)) (.inl rfl) (by exact Nat.le_of_ble_eq_true rfl) ?_
              try simp only [EVB, eqF, Op.operands, IntKind.bits, descF, sizeF, bytesF, zeroF, seval, reduceCtorEq, ↓reduceIte]
              exact Weak.sub' ⟨rfl, rfl, trivial⟩ ⟨rfl, rfl, trivial⟩ (Nat.le_of_ble_eq_true rfl)
             ·skip
              subst hx0
              refine go_return ttOk (fun _ h => h) rfl ?_ ?_
              ·exact (by (repeat' apply And.intro) <;> first | trivial | exact Nat.le_of_ble_eq_true rfl | omega | (simp only [NM]; omega))
              ·first | rfl | (simp only [NM, CELLS] <;> rfl)
theorem pontoonlaw19_does_sz (a0 : SCoord) (a1 : Spontoonlaw19_Come) (z0 : SCoord.Sz a0) (z1 : Spontoonlaw19_Come.Sz a1) : SCoord.Sz ((pontoonlaw19_does a0 a1).1) ∧ SDo.Sz ((pontoonlaw19_does a0 a1).2) := by
 obtain ⟨res, hx0⟩ : ∃ r, pontoonlaw19_does a0 a1 = r := ⟨_, rfl⟩
 simp only [hx0]
 unfold pontoonlaw19_does at hx0
 try simp only [SZD] at z0 z1
 obtain ⟨zz47, ⟨zz48, zz49⟩⟩ := z0
 obtain ⟨⟨zz50, zz51, zz52⟩, zz53⟩ := z1
 rcases Bool.eq_false_or_eq_true (a1.Do == 0) with h1 | h1
 ·simp only [h1, cond_true, cond_false] at hx0
  obtain ⟨r2, hr2, hx0⟩ := letIn_ex hx0
  have zr2 := coord_Trigger_sz a0 (by (try simp only [SZD]); (repeat' apply And.intro) <;> first | assumption | omega | simp_all)
  simp only [hr2, SZD] at zr2
  obtain ⟨⟨zz54, ⟨zz55, zz56⟩⟩, ⟨zz57, zz58⟩⟩ := zr2
  subst hx0
  exact (by (try simp only [SZD]); (repeat' apply And.intro) <;> first | assumption | omega | simp_all)
 ·simp only [h1, cond_true, cond_false] at hx0
  rcases Bool.eq_false_or_eq_true (a1.Do == 1) with h3 | h3
  ·simp only [h3, cond_true, cond_false] at hx0
   obtain ⟨r4, hr4, hx0⟩ := letIn_ex hx0
   have zr4 := coord_Snapped_sz a0 a1.Id (by (try simp only [SZD]); (repeat' apply And.intro) <;> first | assumption | omega | simp_all)
   simp only [hr4, SZD] at zr4
   obtain ⟨⟨zz59, ⟨zz60, zz61⟩⟩, ⟨zz62, zz63⟩⟩ := zr4
   subst hx0
   exact (by (try simp only [SZD]); (repeat' apply And.intro) <;> first | assumption | omega | simp_all)
  ·simp only [h3, cond_true, cond_false] at hx0
   rcases Bool.eq_false_or_eq_true (a1.Do == 2) with h5 | h5
   ·simp only [h5, cond_true, cond_false] at hx0
    obtain ⟨r6, hr6, hx0⟩ := letIn_ex hx0
    have zr6 := coord_Published_sz a0 a1.Manifest (by (try simp only [SZD]); (repeat' apply And.intro) <;> first | assumption | omega | simp_all) (by (try simp only [SZD]); (repeat' apply And.intro) <;> first | assumption | omega | simp_all)
    simp only [hr6, SZD] at zr6
    obtain ⟨⟨zz64, ⟨zz65, zz66⟩⟩, ⟨zz67, zz68⟩⟩ := zr6
    subst hx0
    exact (by (try simp only [SZD]); (repeat' apply And.intro) <;> first | assumption | omega | simp_all)
   ·simp only [h5, cond_true, cond_false] at hx0
    rcases Bool.eq_false_or_eq_true (a1.Do == 3) with h7 | h7
    ·simp only [h7, cond_true, cond_false] at hx0
     obtain ⟨r8, hr8, hx0⟩ := letIn_ex hx0
     have zr8 := coord_Failed_sz a0 (by (try simp only [SZD]); (repeat' apply And.intro) <;> first | assumption | omega | simp_all)
     simp only [hr8, SZD] at zr8
     obtain ⟨zz69, ⟨zz70, zz71⟩⟩ := zr8
     subst hx0
     exact (by (try simp only [SZD]); (repeat' apply And.intro) <;> first | assumption | omega | simp_all)
    ·simp only [h7, cond_true, cond_false] at hx0
     rcases Bool.eq_false_or_eq_true (a1.Do == 4) with h9 | h9
     ·simp only [h9, cond_true, cond_false] at hx0
      obtain ⟨r10, hr10, hx0⟩ := letIn_ex hx0
      have zr10 := coord_Answered_sz a0 a1.Kind a1.Key a1.Err a1.Len a1.Vector (by (try simp only [SZD]); (repeat' apply And.intro) <;> first | assumption | omega | simp_all) (by (try simp only [SZD]); (repeat' apply And.intro) <;> first | assumption | omega | simp_all)
      simp only [hr10, SZD] at zr10
      obtain ⟨⟨zz72, ⟨zz73, zz74⟩⟩, ⟨zz75, zz76⟩⟩ := zr10
      subst hx0
      exact (by (try simp only [SZD]); (repeat' apply And.intro) <;> first | assumption | omega | simp_all)
     ·simp only [h9, cond_true, cond_false] at hx0
      obtain ⟨r11, hr11, hx0⟩ := letIn_ex hx0
      have zr11 := coord_Resume_sz a0 a1.Manifest (by (try simp only [SZD]); (repeat' apply And.intro) <;> first | assumption | omega | simp_all) (by (try simp only [SZD]); (repeat' apply And.intro) <;> first | assumption | omega | simp_all)
      simp only [hr11, SZD] at zr11
      obtain ⟨⟨zz77, ⟨zz78, zz79⟩⟩, ⟨zz80, zz81⟩⟩ := zr11
      subst hx0
      exact (by (try simp only [SZD]); (repeat' apply And.intro) <;> first | assumption | omega | simp_all)
end Go.Ab.Try
