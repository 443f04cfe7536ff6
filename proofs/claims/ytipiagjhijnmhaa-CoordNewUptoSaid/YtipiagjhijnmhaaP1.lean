/-
  Functions, and what they compute: printed by wg.py, a program of this work.
-/
import Derived.Test.YtipiagjhijnmhaaP0
set_option linter.unusedVariables false
set_option linter.unusedSimpArgs false
namespace Go.Ab.Try
open Go Go.Proofs Go.Ab

def coord_pos (a0 : Int) : Bool :=
  ((decide (a0 ≥ 1)) && (decide (a0 ≤ 9007199254740992)))
set_option maxRecDepth 10000 in
set_option maxHeartbeats 8000000 in
theorem coord_pos_t (a0 : Int) : FnP Try.prog 37 [.c (.val (.int .i64 a0))] (.c (.val (.bool (coord_pos a0)))) := by
 refine FnP.intro (tt := tt) Try.func37 rfl (by kernel_rfl) (by simp [Try.ntmps37]) fun w0 A hA => ?_
 have hR := reckB_ok eqOk ttOk
 obtain ⟨res, hx0⟩ : ∃ r, coord_pos a0 = r := ⟨_, rfl⟩
 simp only [hx0]
 unfold coord_pos at hx0
 simp only [argT, Try.ntmps37]
 refine go_seq ?_
 refine go_regionJ hR ⟨[(0, .c (.val (.int .i64 a0)))], [], 0⟩ ?_ ?_
 ·skip
  simp only [EVB, eqF, Op.operands, IntKind.bits, descF, sizeF, bytesF, zeroF, seval, reduceCtorEq, ↓reduceIte]
  exact Weak.sub' ⟨rfl, trivial⟩ trivial (Nat.le_of_ble_eq_true rfl)
 ·skip
  refine go_seq ?_
  refine go_regionJ hR ⟨[(2, .c (.val (.bool ((decide (a0 ≥ 1)) && (decide (a0 ≤ 9007199254740992))))))], [], 0⟩ ?_ ?_
  ·skip
   rcases Bool.eq_false_or_eq_true (decide (a0 ≥ 1)) with h1 | h1
   ·simp only [h1, EVB, eqF, Op.operands, IntKind.bits, descF, sizeF, bytesF, zeroF, seval, reduceCtorEq, ↓reduceIte]
    try simp only [h1, BM]
    exact Weak.sub' ⟨rfl, trivial⟩ trivial (Nat.le_of_ble_eq_true rfl)
   ·simp only [h1, EVB, eqF, Op.operands, IntKind.bits, descF, sizeF, bytesF, zeroF, seval, reduceCtorEq, ↓reduceIte]
    try simp only [h1, BM]
    exact Weak.sub' ⟨rfl, trivial⟩ trivial (Nat.le_of_ble_eq_true rfl)
  ·skip
   subst hx0
   refine go_return ttOk (fun _ h => h) rfl ?_ ?_
   ·exact (by (repeat' apply And.intro) <;> first | trivial | exact Nat.le_of_ble_eq_true rfl | omega | (simp only [NM]; omega))
   ·first | rfl | (simp only [NM, CELLS] <;> rfl)

def coord_num (a0 : Int) : Bool :=
  ((decide (a0 ≥ 0)) && (decide (a0 ≤ 9007199254740992)))
set_option maxRecDepth 10000 in
set_option maxHeartbeats 8000000 in
theorem coord_num_t (a0 : Int) : FnP Try.prog 38 [.c (.val (.int .i64 a0))] (.c (.val (.bool (coord_num a0)))) := by
 refine FnP.intro (tt := tt) Try.func38 rfl (by kernel_rfl) (by simp [Try.ntmps38]) fun w0 A hA => ?_
 have hR := reckB_ok eqOk ttOk
 obtain ⟨res, hx0⟩ : ∃ r, coord_num a0 = r := ⟨_, rfl⟩
 simp only [hx0]
 unfold coord_num at hx0
 simp only [argT, Try.ntmps38]
 refine go_seq ?_
 refine go_regionJ hR ⟨[(0, .c (.val (.int .i64 a0)))], [], 0⟩ ?_ ?_
 ·skip
  simp only [EVB, eqF, Op.operands, IntKind.bits, descF, sizeF, bytesF, zeroF, seval, reduceCtorEq, ↓reduceIte]
  exact Weak.sub' ⟨rfl, trivial⟩ trivial (Nat.le_of_ble_eq_true rfl)
 ·skip
  refine go_seq ?_
  refine go_regionJ hR ⟨[(2, .c (.val (.bool ((decide (a0 ≥ 0)) && (decide (a0 ≤ 9007199254740992))))))], [], 0⟩ ?_ ?_
  ·skip
   rcases Bool.eq_false_or_eq_true (decide (a0 ≥ 0)) with h1 | h1
   ·simp only [h1, EVB, eqF, Op.operands, IntKind.bits, descF, sizeF, bytesF, zeroF, seval, reduceCtorEq, ↓reduceIte]
    try simp only [h1, BM]
    exact Weak.sub' ⟨rfl, trivial⟩ trivial (Nat.le_of_ble_eq_true rfl)
   ·simp only [h1, EVB, eqF, Op.operands, IntKind.bits, descF, sizeF, bytesF, zeroF, seval, reduceCtorEq, ↓reduceIte]
    try simp only [h1, BM]
    exact Weak.sub' ⟨rfl, trivial⟩ trivial (Nat.le_of_ble_eq_true rfl)
  ·skip
   subst hx0
   refine go_return ttOk (fun _ h => h) rfl ?_ ?_
   ·exact (by (repeat' apply And.intro) <;> first | trivial | exact Nat.le_of_ble_eq_true rfl | omega | (simp only [NM]; omega))
   ·first | rfl | (simp only [NM, CELLS] <;> rfl)

def coord_key (a0 : SCoord) : STxnKey :=
  (STxnKey.mk a0.Epoch a0.Id)
set_option maxRecDepth 10000 in
set_option maxHeartbeats 8000000 in
theorem coord_key_t (a0 : SCoord) : FnP Try.prog 42 [.agg [.c (.val (.int .i64 a0.Phase)), .c (.val (.int .i64 a0.Epoch)), .c (.val (.int .i64 a0.Id)), .c (.val (.int .i64 a0.Len)), .c (.sl (List.map cI64 a0.Vector)), .c (.val (.int .i64 a0.Txn.Epoch)), .c (.val (.int .i64 a0.Txn.Id)), .c (.val (.int .i64 a0.Txn.Begin)), .c (.sl (List.map SRecord.cells a0.Txn.Records)), .c (.sl (List.map cI64 a0.Txn.Vector)), .c (.val (.int .i64 a0.Done)), .c (.val (.int .i64 a0.Left))]] (.agg [.c (.val (.int .i64 ((coord_key a0).Epoch))), .c (.val (.int .i64 ((coord_key a0).Id)))]) := by
 refine FnP.intro (tt := tt) Try.func42 rfl (by kernel_rfl) (by simp [Try.ntmps42]) fun w0 A hA => ?_
 have hR := reckB_ok eqOk ttOk
 obtain ⟨res, hx0⟩ : ∃ r, coord_key a0 = r := ⟨_, rfl⟩
 simp only [hx0]
 unfold coord_key at hx0
 simp only [argT, Try.ntmps42]
 refine go_seq ?_
 refine go_regionJ hR ⟨[(1, .ptr 0 0), (2, .ptr 1 0)], [(0, .box [.c (.val (.int .i64 a0.Phase)), .c (.val (.int .i64 a0.Epoch)), .c (.val (.int .i64 a0.Id)), .c (.val (.int .i64 a0.Len)), .c (.sl (List.map cI64 a0.Vector)), .c (.val (.int .i64 a0.Txn.Epoch)), .c (.val (.int .i64 a0.Txn.Id)), .c (.val (.int .i64 a0.Txn.Begin)), .c (.sl (List.map SRecord.cells a0.Txn.Records)), .c (.sl (List.map cI64 a0.Txn.Vector)), .c (.val (.int .i64 a0.Done)), .c (.val (.int .i64 a0.Left))] 30), (1, .box [.c (.val (.int .i64 0)), .c (.val (.int .i64 0))] 43)], 2⟩ ?_ ?_
 ·skip
  simp only [EVB, eqF, Op.operands, IntKind.bits, descF, sizeF, bytesF, zeroF, seval, reduceCtorEq, ↓reduceIte]
  exact Weak.sub' ⟨rfl, rfl, trivial⟩ ⟨rfl, rfl, trivial⟩ (Nat.le_of_ble_eq_true rfl)
 ·skip
  refine go_seq ?_
  refine go_regionJ hR ⟨[(2, .ptr 1 0)], [(1, .box [.c (.val (.int .i64 a0.Epoch)), .c (.val (.int .i64 a0.Id))] 43)], 2⟩ ?_ ?_
  ·skip
   simp only [EVB, eqF, Op.operands, IntKind.bits, descF, sizeF, bytesF, zeroF, seval, reduceCtorEq, ↓reduceIte]
   exact Weak.sub' ⟨rfl, trivial⟩ ⟨rfl, trivial⟩ (Nat.le_of_ble_eq_true rfl)
  ·skip
   subst hx0
   refine go_return ttOk (fun _ h => h) rfl ?_ ?_
   ·exact (by (repeat' apply And.intro) <;> first | trivial | exact Nat.le_of_ble_eq_true rfl | omega | (simp only [NM]; omega))
   ·first | rfl | (simp only [NM, CELLS] <;> rfl)

def coord_asks (a0 : SCoord) : Bool :=
  ((a0.Phase == 2) || (a0.Phase == 3))
set_option maxRecDepth 10000 in
set_option maxHeartbeats 8000000 in
theorem coord_asks_t (a0 : SCoord) : FnP Try.prog 41 [.agg [.c (.val (.int .i64 a0.Phase)), .c (.val (.int .i64 a0.Epoch)), .c (.val (.int .i64 a0.Id)), .c (.val (.int .i64 a0.Len)), .c (.sl (List.map cI64 a0.Vector)), .c (.val (.int .i64 a0.Txn.Epoch)), .c (.val (.int .i64 a0.Txn.Id)), .c (.val (.int .i64 a0.Txn.Begin)), .c (.sl (List.map SRecord.cells a0.Txn.Records)), .c (.sl (List.map cI64 a0.Txn.Vector)), .c (.val (.int .i64 a0.Done)), .c (.val (.int .i64 a0.Left))]] (.c (.val (.bool (coord_asks a0)))) := by
 refine FnP.intro (tt := tt) Try.func41 rfl (by kernel_rfl) (by simp [Try.ntmps41]) fun w0 A hA => ?_
 have hR := reckB_ok eqOk ttOk
 obtain ⟨res, hx0⟩ : ∃ r, coord_asks a0 = r := ⟨_, rfl⟩
 simp only [hx0]
 unfold coord_asks at hx0
 simp only [argT, Try.ntmps41]
 refine go_seq ?_
 refine go_regionJ hR ⟨[(1, .ptr 0 0)], [(0, .box [.c (.val (.int .i64 a0.Phase)), .c (.val (.int .i64 a0.Epoch)), .c (.val (.int .i64 a0.Id)), .c (.val (.int .i64 a0.Len)), .c (.sl (List.map cI64 a0.Vector)), .c (.val (.int .i64 a0.Txn.Epoch)), .c (.val (.int .i64 a0.Txn.Id)), .c (.val (.int .i64 a0.Txn.Begin)), .c (.sl (List.map SRecord.cells a0.Txn.Records)), .c (.sl (List.map cI64 a0.Txn.Vector)), .c (.val (.int .i64 a0.Done)), .c (.val (.int .i64 a0.Left))] 30)], 1⟩ ?_ ?_
 ·skip
  simp only [EVB, eqF, Op.operands, IntKind.bits, descF, sizeF, bytesF, zeroF, seval, reduceCtorEq, ↓reduceIte]
  exact Weak.sub' ⟨rfl, trivial⟩ ⟨rfl, trivial⟩ (Nat.le_of_ble_eq_true rfl)
 ·skip
  refine go_seq ?_
  refine go_regionJ hR ⟨[(2, .c (.val (.bool ((a0.Phase == 2) || (a0.Phase == 3)))))], [], 1⟩ ?_ ?_
  ·skip
   rcases Bool.eq_false_or_eq_true (a0.Phase == 2) with h1 | h1
   ·simp only [h1, EVB, eqF, Op.operands, IntKind.bits, descF, sizeF, bytesF, zeroF, seval, reduceCtorEq, ↓reduceIte]
    try simp only [h1, BM]
    exact Weak.sub' ⟨rfl, trivial⟩ trivial (Nat.le_of_ble_eq_true rfl)
   ·simp only [h1, EVB, eqF, Op.operands, IntKind.bits, descF, sizeF, bytesF, zeroF, seval, reduceCtorEq, ↓reduceIte]
    try simp only [h1, BM]
    exact Weak.sub' ⟨rfl, trivial⟩ trivial (Nat.le_of_ble_eq_true rfl)
  ·skip
   subst hx0
   refine go_return ttOk (fun _ h => h) rfl ?_ ?_
   ·exact (by (repeat' apply And.intro) <;> first | trivial | exact Nat.le_of_ble_eq_true rfl | omega | (simp only [NM]; omega))
   ·first | rfl | (simp only [NM, CELLS] <;> rfl)

def slices_Equal_int64_L0 (a0 : (List Int)) (a1 : (List Int)) (x6 : Nat) : Sum Bool Unit :=
  (if h7 : (decide (((x6 : Nat) : Int) < ((a0.length : Nat) : Int))) = true then (if h8 : ((List.getD a0 x6 default) != (List.getD a1 x6 default)) = true then (Sum.inl false) else (slices_Equal_int64_L0 a0 a1 (x6 + 1))) else (Sum.inr ()))
termination_by a0.length - x6
decreasing_by all_goals (try simp only [GN, beq_iff_eq, beq_eq_false_iff_ne, bne_iff_ne, bne_eq_false_iff_eq] at *) <;> omega
def slices_Equal_int64 (a0 : (List Int)) (a1 : (List Int)) : Bool :=
  (bif (((a0.length : Nat) : Int) != ((a1.length : Nat) : Int)) then false else letIn (slices_Equal_int64_L0 a0 a1 0) fun o2s => Sum.elim (fun q => q) (fun o2 => true) o2s)
set_option maxRecDepth 10000 in
set_option maxHeartbeats 8000000 in
theorem slices_Equal_int64_t (a0 : (List Int)) (a1 : (List Int)) : FnP Try.prog 69 [.c (.sl (List.map cI64 a0)), .c (.sl (List.map cI64 a1))] (.c (.val (.bool (slices_Equal_int64 a0 a1)))) := by
 refine FnP.intro (tt := tt) Try.func69 rfl (by kernel_rfl) (by simp [Try.ntmps69]) fun w0 A hA => ?_
 have hR := reckB_ok eqOk ttOk
 obtain ⟨res, hx0⟩ : ∃ r, slices_Equal_int64 a0 a1 = r := ⟨_, rfl⟩
 simp only [hx0]
 unfold slices_Equal_int64 at hx0
 simp only [argT, Try.ntmps69]
 refine go_seq ?_
 refine go_regionJ hR ⟨[(0, .c (.sl (List.map cI64 a0))), (1, .c (.sl (List.map cI64 a1)))], [], 0⟩ ?_ ?_
 ·skip
  simp only [EVB, eqF, Op.operands, IntKind.bits, descF, sizeF, bytesF, zeroF, seval, reduceCtorEq, ↓reduceIte]
  exact Weak.sub' ⟨rfl, rfl, trivial⟩ trivial (Nat.le_of_ble_eq_true rfl)
 ·skip
  refine go_seq ?_
  refine go_seq ?_
  refine go_regionJ hR ⟨[(0, .c (.sl (List.map cI64 a0))), (1, .c (.sl (List.map cI64 a1))), (10, .c (.val (.bool (((a0.length : Nat) : Int) != ((a1.length : Nat) : Int)))))], [], 0⟩ ?_ ?_
  ·skip
   simp only [EVB, eqF, Op.operands, IntKind.bits, descF, sizeF, bytesF, zeroF, seval, reduceCtorEq, ↓reduceIte]
   exact Weak.sub' ⟨rfl, rfl, rfl, trivial⟩ trivial (Nat.le_of_ble_eq_true rfl)
  ·skip
   refine go_cond (by rfl) (fun h1 => ?_) (fun h1 => ?_)
   ·have gh1 := h1
    try simp only [GN, beq_iff_eq, beq_eq_false_iff_ne, bne_iff_ne, bne_eq_false_iff_eq] at gh1
    simp only [h1, cond_true, cond_false] at hx0
    refine go_seq ?_
    refine go_regionJ hR ⟨[(4, .c (.val (.bool false)))], [], 0⟩ ?_ ?_
    ·skip
     simp only [EVB, eqF, Op.operands, IntKind.bits, descF, sizeF, bytesF, zeroF, seval, reduceCtorEq, ↓reduceIte]
     exact Weak.sub' ⟨rfl, trivial⟩ trivial (Nat.le_of_ble_eq_true rfl)
    ·skip
     subst hx0
     refine go_return ttOk (fun _ h => h) rfl ?_ ?_
     ·exact (by (repeat' apply And.intro) <;> first | trivial | exact Nat.le_of_ble_eq_true rfl | omega | (simp only [NM]; omega))
     ·first | rfl | (simp only [NM, CELLS] <;> rfl)
   ·have gh1 := h1
    try simp only [GN, beq_iff_eq, beq_eq_false_iff_ne, bne_iff_ne, bne_eq_false_iff_eq] at gh1
    simp only [h1, cond_true, cond_false] at hx0
    refine go_skip ?_
    refine go_seq ?_
    refine go_seq ?_
    refine go_regionJ hR ⟨[(0, .c (.sl (List.map cI64 a0))), (1, .c (.sl (List.map cI64 a1))), (12, .c (.val (.int .i64 ((a0.length : Nat) : Int)))), (13, .c (.val (.int .i64 0)))], [], 0⟩ ?_ ?_
    ·skip
     simp only [EVB, eqF, Op.operands, IntKind.bits, descF, sizeF, bytesF, zeroF, seval, reduceCtorEq, ↓reduceIte]
     exact Weak.sub' ⟨rfl, rfl, rfl, rfl, trivial⟩ trivial (Nat.le_of_ble_eq_true rfl)
    ·skip
     obtain ⟨o2s, hx1, hx0⟩ := letIn_ex hx0
     refine go_joinE (fun p : Unit => ⟨[], [], 0⟩) (fun p : Unit => o2s = Sum.inr p) ?_ ?_
     ·refine go_block ?_
      refine go_len (t := 0) rfl (fun hl9 => ?_)
      simp only [List.length_map, maxLen_eq] at hl9
      refine go_len (t := 1) rfl (fun hl10 => ?_)
      simp only [List.length_map, maxLen_eq] at hl10
      refine go_loop (fun p : Nat => ⟨[(0, .c (.sl (List.map cI64 a0))), (1, .c (.sl (List.map cI64 a1))), (12, .c (.val (.int .i64 ((a0.length : Nat) : Int)))), (13, .c (.val (.int .i64 ((p : Nat) : Int))))], [], 0⟩) (fun p : Nat => (p ≤ a0.length) ∧ slices_Equal_int64_L0 a0 a1 p = o2s) (fun p : Nat => a0.length - p) 0 ⟨(by (try dsimp only); (repeat' apply And.intro) <;> first | trivial | omega | assumption | (simp; done)), hx1⟩ (Weak.canon [] [0, 1, 12, 13] (by decide) rfl trivial rfl (by simp) (by first | rfl | (simp only [NM, CELLS] <;> rfl) | simp [NM, CELLS]) rfl rfl) ?_
      rintro x6 ⟨hi11, hx1⟩
      try dsimp only at hi11 hx1 ⊢
      rw [slices_Equal_int64_L0.eq_def] at hx1
      refine go_seq ?_
      refine go_regionJ hR ⟨[(0, .c (.sl (List.map cI64 a0))), (1, .c (.sl (List.map cI64 a1))), (12, .c (.val (.int .i64 ((a0.length : Nat) : Int)))), (13, .c (.val (.int .i64 ((x6 : Nat) : Int)))), (14, .c (.val (.bool (decide (((x6 : Nat) : Int) < ((a0.length : Nat) : Int))))))], [], 0⟩ ?_ ?_
      ·skip
       simp only [EVB, eqF, Op.operands, IntKind.bits, descF, sizeF, bytesF, zeroF, seval, reduceCtorEq, ↓reduceIte]
       exact Weak.sub' ⟨rfl, rfl, rfl, rfl, rfl, trivial⟩ trivial (Nat.le_of_ble_eq_true rfl)
      ·skip
       refine go_seq ?_
       refine go_cond (by rfl) (fun h7 => ?_) (fun h7 => ?_)
       ·have gh7 := h7
        try simp only [GN, beq_iff_eq, beq_eq_false_iff_ne, bne_iff_ne, bne_eq_false_iff_eq] at gh7
        simp only [h7, dite_true, dite_false, reduceDIte, Bool.false_eq_true] at hx1
        refine go_skip ?_
        refine go_seq ?_
        refine go_block ?_
        refine go_seq ?_
        refine go_regionJ hR ⟨[(0, .c (.sl (List.map cI64 a0))), (1, .c (.sl (List.map cI64 a1))), (5, .c (.val (.int .i64 ((x6 : Nat) : Int)))), (12, .c (.val (.int .i64 ((a0.length : Nat) : Int)))), (13, .c (.val (.int .i64 ((x6 : Nat) : Int))))], [], 0⟩ ?_ ?_
        ·skip
         simp only [EVB, eqF, Op.operands, IntKind.bits, descF, sizeF, bytesF, zeroF, seval, reduceCtorEq, ↓reduceIte]
         exact Weak.sub' ⟨rfl, rfl, rfl, rfl, rfl, trivial⟩ trivial (Nat.le_of_ble_eq_true rfl)
        ·skip
         refine go_seq ?_
         refine go_drawJ hR rfl ⟨[(0, .c (.sl (List.map cI64 a0))), (1, .c (.sl (List.map cI64 a1))), (12, .c (.val (.int .i64 ((a0.length : Nat) : Int)))), (13, .c (.val (.int .i64 ((x6 : Nat) : Int)))), (24, .c (.val (.bool ((List.getD a0 x6 default) != (List.getD a1 x6 default)))))], [], 0⟩ ?_ ?_
         ·skip
          have bq12 : x6 < a0.length := by omega
          have q12 := map_getD cI64 a0 x6 default bq12
          have bq13 : x6 < a1.length := by omega
          have q13 := map_getD cI64 a1 x6 default bq13
          simp only [q12, q13, EVB, eqF, Op.operands, IntKind.bits, descF, sizeF, bytesF, zeroF, seval, reduceCtorEq, ↓reduceIte, CELLS]
          refine ⟨(by (repeat' apply And.intro) <;> first | trivial | rfl | exact Nat.le_of_ble_eq_true rfl | omega | (intro u hu; obtain ⟨x, _, rfl⟩ := List.mem_map.1 hu; rfl) | (intro u hu; simp only [List.mem_cons, List.not_mem_nil, or_false] at hu; subst hu; rfl) | (simp only [NM]; omega) | (simp; done)), ?_⟩
          refine ⟨(by (repeat' apply And.intro) <;> first | trivial | rfl | exact Nat.le_of_ble_eq_true rfl | omega | (intro u hu; obtain ⟨x, _, rfl⟩ := List.mem_map.1 hu; rfl) | (intro u hu; simp only [List.mem_cons, List.not_mem_nil, or_false] at hu; subst hu; rfl) | (simp only [NM]; omega) | (simp; done)), ?_⟩
          refine ⟨by kernel_rfl, ?_⟩
          exact Weak.sub' ⟨rfl, rfl, rfl, rfl, rfl, trivial⟩ trivial (Nat.le_of_ble_eq_true rfl)
         ·skip
          refine go_cond (by rfl) (fun h8 => ?_) (fun h8 => ?_)
          ·have gh8 := h8
           try simp only [GN, beq_iff_eq, beq_eq_false_iff_ne, bne_iff_ne, bne_eq_false_iff_eq] at gh8
           simp only [h8, dite_true, dite_false, reduceDIte, Bool.false_eq_true] at hx1
           refine go_seq ?_
           refine go_regionJ hR ⟨[(4, .c (.val (.bool false)))], [], 0⟩ ?_ ?_
           ·skip
            simp only [EVB, eqF, Op.operands, IntKind.bits, descF, sizeF, bytesF, zeroF, seval, reduceCtorEq, ↓reduceIte]
            exact Weak.sub' ⟨rfl, trivial⟩ trivial (Nat.le_of_ble_eq_true rfl)
           ·skip
            subst hx1
            simp only [Sum.elim_inl] at hx0
            subst hx0
            refine go_return ttOk (fun _ h => h) rfl ?_ ?_
            ·exact (by (repeat' apply And.intro) <;> first | trivial | exact Nat.le_of_ble_eq_true rfl | omega | (simp only [NM]; omega))
            ·first | rfl | (simp only [NM, CELLS] <;> rfl)
          ·have gh8 := h8
           try simp only [GN, beq_iff_eq, beq_eq_false_iff_ne, bne_iff_ne, bne_eq_false_iff_eq] at gh8
           simp only [h8, dite_true, dite_false, reduceDIte, Bool.false_eq_true] at hx1
           refine go_skip ?_
           refine go_blk ?_
           refine go_regionJ hR ⟨[(0, .c (.sl (List.map cI64 a0))), (1, .c (.sl (List.map cI64 a1))), (12, .c (.val (.int .i64 ((a0.length : Nat) : Int)))), (13, .c (.val (.int .i64 ((x6 + 1 : Nat) : Int))))], [], 0⟩ ?_ ?_
           ·skip
            have w14 : IntKind.i64.wrap (((x6 : Nat) : Int) + 1) = ((x6 + 1 : Nat) : Int) := by rw [IntKind.wrap_i64]; omega
            simp only [w14, EVB, eqF, Op.operands, IntKind.bits, descF, sizeF, bytesF, zeroF, seval, reduceCtorEq, ↓reduceIte, CELLS]
            exact Weak.sub' ⟨rfl, rfl, rfl, rfl, trivial⟩ trivial (Nat.le_of_ble_eq_true rfl)
           ·skip
            exact go_fin ⟨x6 + 1, ⟨(by (try dsimp only); (repeat' apply And.intro) <;> first | trivial | omega | assumption | (simp; done)), hx1⟩, by (try dsimp only); omega, (Weak.canon [] [0, 1, 12, 13] (by decide) rfl trivial rfl (by simp) (by first | rfl | (simp only [NM, CELLS] <;> rfl) | simp [NM, CELLS]) rfl rfl)⟩
       ·have gh7 := h7
        try simp only [GN, beq_iff_eq, beq_eq_false_iff_ne, bne_iff_ne, bne_eq_false_iff_eq] at gh7
        simp only [h7, dite_true, dite_false, reduceDIte, Bool.false_eq_true] at hx1
        refine go_exit rfl ?_
        exact go_fin ⟨(), hx1.symm, (Weak.canon [] [] (by decide) rfl trivial rfl (by simp) (by first | rfl | (simp only [NM, CELLS] <;> rfl) | simp [NM, CELLS]) rfl rfl)⟩
     ·rintro o2 hp
      try dsimp only at hp
      subst hp
      simp only [Sum.elim_inr] at hx0
      refine go_seq ?_
      refine go_regionJ hR ⟨[(4, .c (.val (.bool true)))], [], 0⟩ ?_ ?_
      ·skip
       simp only [EVB, eqF, Op.operands, IntKind.bits, descF, sizeF, bytesF, zeroF, seval, reduceCtorEq, ↓reduceIte]
       exact Weak.sub' ⟨rfl, trivial⟩ trivial (Nat.le_of_ble_eq_true rfl)
      ·skip
       subst hx0
       refine go_return ttOk (fun _ h => h) rfl ?_ ?_
       ·exact (by (repeat' apply And.intro) <;> first | trivial | exact Nat.le_of_ble_eq_true rfl | omega | (simp only [NM]; omega))
       ·first | rfl | (simp only [NM, CELLS] <;> rfl)

def slices_Equal_Record_L0 (a0 : (List SRecord)) (a1 : (List SRecord)) (x6 : Nat) : Sum Bool Unit :=
  (if h7 : (decide (((x6 : Nat) : Int) < ((a0.length : Nat) : Int))) = true then (if h8 : (!(decide ([(List.getD a0 x6 default).Key, (List.getD a0 x6 default).Val] = [(List.getD a1 x6 default).Key, (List.getD a1 x6 default).Val]))) = true then (Sum.inl false) else (slices_Equal_Record_L0 a0 a1 (x6 + 1))) else (Sum.inr ()))
termination_by a0.length - x6
decreasing_by all_goals (try simp only [GN, beq_iff_eq, beq_eq_false_iff_ne, bne_iff_ne, bne_eq_false_iff_eq] at *) <;> omega
def slices_Equal_Record (a0 : (List SRecord)) (a1 : (List SRecord)) : Bool :=
  (bif (((a0.length : Nat) : Int) != ((a1.length : Nat) : Int)) then false else letIn (slices_Equal_Record_L0 a0 a1 0) fun o2s => Sum.elim (fun q => q) (fun o2 => true) o2s)
set_option maxRecDepth 10000 in
set_option maxHeartbeats 8000000 in
theorem slices_Equal_Record_t (a0 : (List SRecord)) (a1 : (List SRecord)) : FnP Try.prog 68 [.c (.sl (List.map SRecord.cells a0)), .c (.sl (List.map SRecord.cells a1))] (.c (.val (.bool (slices_Equal_Record a0 a1)))) := by
 refine FnP.intro (tt := tt) Try.func68 rfl (by kernel_rfl) (by simp [Try.ntmps68]) fun w0 A hA => ?_
 have hR := reckB_ok eqOk ttOk
 obtain ⟨res, hx0⟩ : ∃ r, slices_Equal_Record a0 a1 = r := ⟨_, rfl⟩
 simp only [hx0]
 unfold slices_Equal_Record at hx0
 simp only [argT, Try.ntmps68]
 refine go_seq ?_
 refine go_regionJ hR ⟨[(0, .c (.sl (List.map SRecord.cells a0))), (1, .c (.sl (List.map SRecord.cells a1)))], [], 0⟩ ?_ ?_
 ·skip
  simp only [EVB, eqF, Op.operands, IntKind.bits, descF, sizeF, bytesF, zeroF, seval, reduceCtorEq, ↓reduceIte]
  exact Weak.sub' ⟨rfl, rfl, trivial⟩ trivial (Nat.le_of_ble_eq_true rfl)
 ·skip
  refine go_seq ?_
  refine go_seq ?_
  refine go_regionJ hR ⟨[(0, .c (.sl (List.map SRecord.cells a0))), (1, .c (.sl (List.map SRecord.cells a1))), (10, .c (.val (.bool (((a0.length : Nat) : Int) != ((a1.length : Nat) : Int)))))], [], 0⟩ ?_ ?_
  ·skip
   simp only [EVB, eqF, Op.operands, IntKind.bits, descF, sizeF, bytesF, zeroF, seval, reduceCtorEq, ↓reduceIte]
   exact Weak.sub' ⟨rfl, rfl, rfl, trivial⟩ trivial (Nat.le_of_ble_eq_true rfl)
  ·skip
   refine go_cond (by rfl) (fun h1 => ?_) (fun h1 => ?_)
   ·have gh1 := h1
    try simp only [GN, beq_iff_eq, beq_eq_false_iff_ne, bne_iff_ne, bne_eq_false_iff_eq] at gh1
    simp only [h1, cond_true, cond_false] at hx0
    refine go_seq ?_
    refine go_regionJ hR ⟨[(4, .c (.val (.bool false)))], [], 0⟩ ?_ ?_
    ·skip
     simp only [EVB, eqF, Op.operands, IntKind.bits, descF, sizeF, bytesF, zeroF, seval, reduceCtorEq, ↓reduceIte]
     exact Weak.sub' ⟨rfl, trivial⟩ trivial (Nat.le_of_ble_eq_true rfl)
    ·skip
     subst hx0
     refine go_return ttOk (fun _ h => h) rfl ?_ ?_
     ·exact (by (repeat' apply And.intro) <;> first | trivial | exact Nat.le_of_ble_eq_true rfl | omega | (simp only [NM]; omega))
     ·first | rfl | (simp only [NM, CELLS] <;> rfl)
   ·have gh1 := h1
    try simp only [GN, beq_iff_eq, beq_eq_false_iff_ne, bne_iff_ne, bne_eq_false_iff_eq] at gh1
    simp only [h1, cond_true, cond_false] at hx0
    refine go_skip ?_
    refine go_seq ?_
    refine go_seq ?_
    refine go_regionJ hR ⟨[(0, .c (.sl (List.map SRecord.cells a0))), (1, .c (.sl (List.map SRecord.cells a1))), (12, .c (.val (.int .i64 ((a0.length : Nat) : Int)))), (13, .c (.val (.int .i64 0)))], [], 0⟩ ?_ ?_
    ·skip
     simp only [EVB, eqF, Op.operands, IntKind.bits, descF, sizeF, bytesF, zeroF, seval, reduceCtorEq, ↓reduceIte]
     exact Weak.sub' ⟨rfl, rfl, rfl, rfl, trivial⟩ trivial (Nat.le_of_ble_eq_true rfl)
    ·skip
     obtain ⟨o2s, hx1, hx0⟩ := letIn_ex hx0
     refine go_joinE (fun p : Unit => ⟨[], [], 0⟩) (fun p : Unit => o2s = Sum.inr p) ?_ ?_
     ·refine go_block ?_
      refine go_len (t := 0) rfl (fun hl9 => ?_)
      simp only [List.length_map, maxLen_eq] at hl9
      refine go_len (t := 1) rfl (fun hl10 => ?_)
      simp only [List.length_map, maxLen_eq] at hl10
      refine go_loop (fun p : Nat => ⟨[(0, .c (.sl (List.map SRecord.cells a0))), (1, .c (.sl (List.map SRecord.cells a1))), (12, .c (.val (.int .i64 ((a0.length : Nat) : Int)))), (13, .c (.val (.int .i64 ((p : Nat) : Int))))], [], 0⟩) (fun p : Nat => (p ≤ a0.length) ∧ slices_Equal_Record_L0 a0 a1 p = o2s) (fun p : Nat => a0.length - p) 0 ⟨(by (try dsimp only); (repeat' apply And.intro) <;> first | trivial | omega | assumption | (simp; done)), hx1⟩ (Weak.canon [] [0, 1, 12, 13] (by decide) rfl trivial rfl (by simp) (by first | rfl | (simp only [NM, CELLS] <;> rfl) | simp [NM, CELLS]) rfl rfl) ?_
      rintro x6 ⟨hi11, hx1⟩
      try dsimp only at hi11 hx1 ⊢
      rw [slices_Equal_Record_L0.eq_def] at hx1
      refine go_seq ?_
      refine go_regionJ hR ⟨[(0, .c (.sl (List.map SRecord.cells a0))), (1, .c (.sl (List.map SRecord.cells a1))), (12, .c (.val (.int .i64 ((a0.length : Nat) : Int)))), (13, .c (.val (.int .i64 ((x6 : Nat) : Int)))), (14, .c (.val (.bool (decide (((x6 : Nat) : Int) < ((a0.length : Nat) : Int))))))], [], 0⟩ ?_ ?_
      ·skip
       simp only [EVB, eqF, Op.operands, IntKind.bits, descF, sizeF, bytesF, zeroF, seval, reduceCtorEq, ↓reduceIte]
       exact Weak.sub' ⟨rfl, rfl, rfl, rfl, rfl, trivial⟩ trivial (Nat.le_of_ble_eq_true rfl)
      ·skip
       refine go_seq ?_
       refine go_cond (by rfl) (fun h7 => ?_) (fun h7 => ?_)
       ·have gh7 := h7
        try simp only [GN, beq_iff_eq, beq_eq_false_iff_ne, bne_iff_ne, bne_eq_false_iff_eq] at gh7
        simp only [h7, dite_true, dite_false, reduceDIte, Bool.false_eq_true] at hx1
        refine go_skip ?_
        refine go_seq ?_
        refine go_block ?_
        refine go_seq ?_
        refine go_regionJ hR ⟨[(0, .c (.sl (List.map SRecord.cells a0))), (1, .c (.sl (List.map SRecord.cells a1))), (5, .c (.val (.int .i64 ((x6 : Nat) : Int)))), (12, .c (.val (.int .i64 ((a0.length : Nat) : Int)))), (13, .c (.val (.int .i64 ((x6 : Nat) : Int))))], [], 0⟩ ?_ ?_
        ·skip
         simp only [EVB, eqF, Op.operands, IntKind.bits, descF, sizeF, bytesF, zeroF, seval, reduceCtorEq, ↓reduceIte]
         exact Weak.sub' ⟨rfl, rfl, rfl, rfl, rfl, trivial⟩ trivial (Nat.le_of_ble_eq_true rfl)
        ·skip
         refine go_seq ?_
         refine go_drawJ hR rfl ⟨[(0, .c (.sl (List.map SRecord.cells a0))), (1, .c (.sl (List.map SRecord.cells a1))), (12, .c (.val (.int .i64 ((a0.length : Nat) : Int)))), (13, .c (.val (.int .i64 ((x6 : Nat) : Int)))), (24, .c (.val (.bool (!(decide ([(List.getD a0 x6 default).Key, (List.getD a0 x6 default).Val] = [(List.getD a1 x6 default).Key, (List.getD a1 x6 default).Val]))))))], [], 0⟩ ?_ ?_
         ·skip
          have bq12 : x6 < a0.length := by omega
          have q12 := map_getD SRecord.cells a0 x6 default bq12
          have bq13 : x6 < a1.length := by omega
          have q13 := map_getD SRecord.cells a1 x6 default bq13
          simp only [q12, q13, EVB, eqF, Op.operands, IntKind.bits, descF, sizeF, bytesF, zeroF, seval, reduceCtorEq, ↓reduceIte, CELLS]
          refine ⟨(by (repeat' apply And.intro) <;> first | trivial | rfl | exact Nat.le_of_ble_eq_true rfl | omega | (intro u hu; obtain ⟨x, _, rfl⟩ := List.mem_map.1 hu; rfl) | (intro u hu; simp only [List.mem_cons, List.not_mem_nil, or_false] at hu; subst hu; rfl) | (simp only [NM]; omega) | (simp; done)), ?_⟩
          refine ⟨(by (repeat' apply And.intro) <;> first | trivial | rfl | exact Nat.le_of_ble_eq_true rfl | omega | (intro u hu; obtain ⟨x, _, rfl⟩ := List.mem_map.1 hu; rfl) | (intro u hu; simp only [List.mem_cons, List.not_mem_nil, or_false] at hu; subst hu; rfl) | (simp only [NM]; omega) | (simp; done)), ?_⟩
          refine ⟨by kernel_rfl, ?_⟩
          exact Weak.sub' ⟨rfl, rfl, rfl, rfl, rfl, trivial⟩ trivial (Nat.le_of_ble_eq_true rfl)
         ·skip
          refine go_cond (by rfl) (fun h8 => ?_) (fun h8 => ?_)
          ·have gh8 := h8
           try simp only [GN, beq_iff_eq, beq_eq_false_iff_ne, bne_iff_ne, bne_eq_false_iff_eq] at gh8
           simp only [h8, dite_true, dite_false, reduceDIte, Bool.false_eq_true] at hx1
           refine go_seq ?_
           refine go_regionJ hR ⟨[(4, .c (.val (.bool false)))], [], 0⟩ ?_ ?_
           ·skip
            simp only [EVB, eqF, Op.operands, IntKind.bits, descF, sizeF, bytesF, zeroF, seval, reduceCtorEq, ↓reduceIte]
            exact Weak.sub' ⟨rfl, trivial⟩ trivial (Nat.le_of_ble_eq_true rfl)
           ·skip
            subst hx1
            simp only [Sum.elim_inl] at hx0
            subst hx0
            refine go_return ttOk (fun _ h => h) rfl ?_ ?_
            ·exact (by (repeat' apply And.intro) <;> first | trivial | exact Nat.le_of_ble_eq_true rfl | omega | (simp only [NM]; omega))
            ·first | rfl | (simp only [NM, CELLS] <;> rfl)
          ·have gh8 := h8
           try simp only [GN, beq_iff_eq, beq_eq_false_iff_ne, bne_iff_ne, bne_eq_false_iff_eq] at gh8
           simp only [h8, dite_true, dite_false, reduceDIte, Bool.false_eq_true] at hx1
           refine go_skip ?_
           refine go_blk ?_
           refine go_regionJ hR ⟨[(0, .c (.sl (List.map SRecord.cells a0))), (1, .c (.sl (List.map SRecord.cells a1))), (12, .c (.val (.int .i64 ((a0.length : Nat) : Int)))), (13, .c (.val (.int .i64 ((x6 + 1 : Nat) : Int))))], [], 0⟩ ?_ ?_
           ·skip
            have w14 : IntKind.i64.wrap (((x6 : Nat) : Int) + 1) = ((x6 + 1 : Nat) : Int) := by rw [IntKind.wrap_i64]; omega
            simp only [w14, EVB, eqF, Op.operands, IntKind.bits, descF, sizeF, bytesF, zeroF, seval, reduceCtorEq, ↓reduceIte, CELLS]
            exact Weak.sub' ⟨rfl, rfl, rfl, rfl, trivial⟩ trivial (Nat.le_of_ble_eq_true rfl)
           ·skip
            exact go_fin ⟨x6 + 1, ⟨(by (try dsimp only); (repeat' apply And.intro) <;> first | trivial | omega | assumption | (simp; done)), hx1⟩, by (try dsimp only); omega, (Weak.canon [] [0, 1, 12, 13] (by decide) rfl trivial rfl (by simp) (by first | rfl | (simp only [NM, CELLS] <;> rfl) | simp [NM, CELLS]) rfl rfl)⟩
       ·have gh7 := h7
        try simp only [GN, beq_iff_eq, beq_eq_false_iff_ne, bne_iff_ne, bne_eq_false_iff_eq] at gh7
        simp only [h7, dite_true, dite_false, reduceDIte, Bool.false_eq_true] at hx1
        refine go_exit rfl ?_
        exact go_fin ⟨(), hx1.symm, (Weak.canon [] [] (by decide) rfl trivial rfl (by simp) (by first | rfl | (simp only [NM, CELLS] <;> rfl) | simp [NM, CELLS]) rfl rfl)⟩
     ·rintro o2 hp
      try dsimp only at hp
      subst hp
      simp only [Sum.elim_inr] at hx0
      refine go_seq ?_
      refine go_regionJ hR ⟨[(4, .c (.val (.bool true)))], [], 0⟩ ?_ ?_
      ·skip
       simp only [EVB, eqF, Op.operands, IntKind.bits, descF, sizeF, bytesF, zeroF, seval, reduceCtorEq, ↓reduceIte]
       exact Weak.sub' ⟨rfl, trivial⟩ trivial (Nat.le_of_ble_eq_true rfl)
      ·skip
       subst hx0
       refine go_return ttOk (fun _ h => h) rfl ?_ ?_
       ·exact (by (repeat' apply And.intro) <;> first | trivial | exact Nat.le_of_ble_eq_true rfl | omega | (simp only [NM]; omega))
       ·first | rfl | (simp only [NM, CELLS] <;> rfl)

def slices_IndexFunc_int64_L0 (a0 : (List Int)) (a1 : Int → Bool) (x5 : Nat) : Sum Int Unit :=
  (if h6 : (decide (((x5 : Nat) : Int) < ((a0.length : Nat) : Int))) = true then (if h7 : (a1 (List.getD a0 x5 default)) = true then (Sum.inl ((x5 : Nat) : Int)) else (slices_IndexFunc_int64_L0 a0 a1 (x5 + 1))) else (Sum.inr ()))
termination_by a0.length - x5
decreasing_by all_goals (try simp only [GN, beq_iff_eq, beq_eq_false_iff_ne, bne_iff_ne, bne_eq_false_iff_eq] at *) <;> omega
def slices_IndexFunc_int64 (a0 : (List Int)) (a1 : Int → Bool) : Int :=
  letIn (slices_IndexFunc_int64_L0 a0 a1 0) fun o1s => Sum.elim (fun q => q) (fun o1 => (-1)) o1s
set_option maxRecDepth 10000 in
set_option maxHeartbeats 8000000 in
theorem slices_IndexFunc_int64_t (a0 : (List Int)) (f1 : FuncId) (a1 : Int → Bool) (f1_t : ∀ (y0 : Int), FnP Try.prog f1 [.c (.val (.int .i64 y0))] (.c (.val (.bool (a1 y0))))) : FnP Try.prog 67 [.c (.sl (List.map cI64 a0)), .clo f1 []] (.c (.val (.int .i64 (slices_IndexFunc_int64 a0 a1)))) := by
 refine FnP.intro (tt := tt) Try.func67 rfl (by kernel_rfl) (by simp [Try.ntmps67]) fun w0 A hA => ?_
 have hR := reckB_ok eqOk ttOk
 obtain ⟨res, hx0⟩ : ∃ r, slices_IndexFunc_int64 a0 a1 = r := ⟨_, rfl⟩
 simp only [hx0]
 unfold slices_IndexFunc_int64 at hx0
 simp only [argT, Try.ntmps67]
 refine go_seq ?_
 refine go_regionJ hR ⟨[(0, .c (.sl (List.map cI64 a0))), (1, .clo f1 [])], [], 0⟩ ?_ ?_
 ·skip
  simp only [EVB, eqF, Op.operands, IntKind.bits, descF, sizeF, bytesF, zeroF, seval, reduceCtorEq, ↓reduceIte]
  exact Weak.sub' ⟨rfl, rfl, trivial⟩ trivial (Nat.le_of_ble_eq_true rfl)
 ·skip
  refine go_seq ?_
  refine go_seq ?_
  refine go_regionJ hR ⟨[(0, .c (.sl (List.map cI64 a0))), (1, .clo f1 []), (7, .c (.val (.int .i64 ((a0.length : Nat) : Int)))), (8, .c (.val (.int .i64 0)))], [], 0⟩ ?_ ?_
  ·skip
   simp only [EVB, eqF, Op.operands, IntKind.bits, descF, sizeF, bytesF, zeroF, seval, reduceCtorEq, ↓reduceIte]
   exact Weak.sub' ⟨rfl, rfl, rfl, rfl, trivial⟩ trivial (Nat.le_of_ble_eq_true rfl)
  ·skip
   obtain ⟨o1s, hx1, hx0⟩ := letIn_ex hx0
   refine go_joinE (fun p : Unit => ⟨[], [], 0⟩) (fun p : Unit => o1s = Sum.inr p) ?_ ?_
   ·refine go_block ?_
    refine go_len (t := 0) rfl (fun hl8 => ?_)
    simp only [List.length_map, maxLen_eq] at hl8
    refine go_loop (fun p : Nat => ⟨[(0, .c (.sl (List.map cI64 a0))), (1, .clo f1 []), (7, .c (.val (.int .i64 ((a0.length : Nat) : Int)))), (8, .c (.val (.int .i64 ((p : Nat) : Int))))], [], 0⟩) (fun p : Nat => (p ≤ a0.length) ∧ slices_IndexFunc_int64_L0 a0 a1 p = o1s) (fun p : Nat => a0.length - p) 0 ⟨(by (try dsimp only); (repeat' apply And.intro) <;> first | trivial | omega | assumption | (simp; done)), hx1⟩ (Weak.canon [] [0, 1, 7, 8] (by decide) rfl trivial rfl (by simp) (by first | rfl | (simp only [NM, CELLS] <;> rfl) | simp [NM, CELLS]) rfl rfl) ?_
    rintro x5 ⟨hi9, hx1⟩
    try dsimp only at hi9 hx1 ⊢
    rw [slices_IndexFunc_int64_L0.eq_def] at hx1
    refine go_seq ?_
    refine go_regionJ hR ⟨[(0, .c (.sl (List.map cI64 a0))), (1, .clo f1 []), (7, .c (.val (.int .i64 ((a0.length : Nat) : Int)))), (8, .c (.val (.int .i64 ((x5 : Nat) : Int)))), (9, .c (.val (.bool (decide (((x5 : Nat) : Int) < ((a0.length : Nat) : Int))))))], [], 0⟩ ?_ ?_
    ·skip
     simp only [EVB, eqF, Op.operands, IntKind.bits, descF, sizeF, bytesF, zeroF, seval, reduceCtorEq, ↓reduceIte]
     exact Weak.sub' ⟨rfl, rfl, rfl, rfl, rfl, trivial⟩ trivial (Nat.le_of_ble_eq_true rfl)
    ·skip
     refine go_seq ?_
     refine go_cond (by rfl) (fun h6 => ?_) (fun h6 => ?_)
     ·have gh6 := h6
      try simp only [GN, beq_iff_eq, beq_eq_false_iff_ne, bne_iff_ne, bne_eq_false_iff_eq] at gh6
      simp only [h6, dite_true, dite_false, reduceDIte, Bool.false_eq_true] at hx1
      refine go_skip ?_
      refine go_seq ?_
      refine go_block ?_
      refine go_seq ?_
      refine go_regionJ hR ⟨[(0, .c (.sl (List.map cI64 a0))), (1, .clo f1 []), (5, .c (.val (.int .i64 ((x5 : Nat) : Int)))), (7, .c (.val (.int .i64 ((a0.length : Nat) : Int)))), (8, .c (.val (.int .i64 ((x5 : Nat) : Int))))], [], 0⟩ ?_ ?_
      ·skip
       simp only [EVB, eqF, Op.operands, IntKind.bits, descF, sizeF, bytesF, zeroF, seval, reduceCtorEq, ↓reduceIte]
       exact Weak.sub' ⟨rfl, rfl, rfl, rfl, rfl, trivial⟩ trivial (Nat.le_of_ble_eq_true rfl)
      ·skip
       refine go_seq ?_
       refine go_regionJ hR ⟨[(0, .c (.sl (List.map cI64 a0))), (1, .clo f1 []), (5, .c (.val (.int .i64 ((x5 : Nat) : Int)))), (7, .c (.val (.int .i64 ((a0.length : Nat) : Int)))), (8, .c (.val (.int .i64 ((x5 : Nat) : Int)))), (16, .c (.val (.bool (a1 (List.getD a0 x5 default)))))], [], 0⟩ ?_ ?_
       ·skip
        have bq10 : x5 < a0.length := by omega
        have q10 := map_getD cI64 a0 x5 default bq10
        simp only [q10, EVB, eqF, Op.operands, IntKind.bits, descF, sizeF, bytesF, zeroF, seval, reduceCtorEq, ↓reduceIte, CELLS]
        refine ⟨(by (repeat' apply And.intro) <;> first | trivial | rfl | exact Nat.le_of_ble_eq_true rfl | omega | (intro u hu; obtain ⟨x, _, rfl⟩ := List.mem_map.1 hu; rfl) | (intro u hu; simp only [List.mem_cons, List.not_mem_nil, or_false] at hu; subst hu; rfl) | (simp only [NM]; omega) | (simp; done)), ?_⟩
        refine CallK.freshE (f1_t (List.getD a0 x5 default)).toO rfl (by first | rfl | (simp only [NM]; done)) (by (repeat' apply And.intro) <;> first | trivial | rfl | omega | (simp only [NM]; omega)) (.inl rfl) (by exact Nat.le_of_ble_eq_true rfl) ?_
        try simp only [q10, EVB, eqF, Op.operands, IntKind.bits, descF, sizeF, bytesF, zeroF, seval, reduceCtorEq, ↓reduceIte, CELLS]
        exact Weak.sub' ⟨rfl, rfl, rfl, rfl, rfl, rfl, trivial⟩ trivial (Nat.le_of_ble_eq_true rfl)
       ·skip
        refine go_cond (by rfl) (fun h7 => ?_) (fun h7 => ?_)
        ·have gh7 := h7
         try simp only [GN, beq_iff_eq, beq_eq_false_iff_ne, bne_iff_ne, bne_eq_false_iff_eq] at gh7
         simp only [h7, dite_true, dite_false, reduceDIte, Bool.false_eq_true] at hx1
         refine go_seq ?_
         refine go_regionJ hR ⟨[(4, .c (.val (.int .i64 ((x5 : Nat) : Int))))], [], 0⟩ ?_ ?_
         ·skip
          simp only [EVB, eqF, Op.operands, IntKind.bits, descF, sizeF, bytesF, zeroF, seval, reduceCtorEq, ↓reduceIte]
          exact Weak.sub' ⟨rfl, trivial⟩ trivial (Nat.le_of_ble_eq_true rfl)
         ·skip
          subst hx1
          simp only [Sum.elim_inl] at hx0
          subst hx0
          refine go_return ttOk (fun _ h => h) rfl ?_ ?_
          ·exact (by (repeat' apply And.intro) <;> first | trivial | exact Nat.le_of_ble_eq_true rfl | omega | (simp only [NM]; omega))
          ·first | rfl | (simp only [NM, CELLS] <;> rfl)
        ·have gh7 := h7
         try simp only [GN, beq_iff_eq, beq_eq_false_iff_ne, bne_iff_ne, bne_eq_false_iff_eq] at gh7
         simp only [h7, dite_true, dite_false, reduceDIte, Bool.false_eq_true] at hx1
         refine go_skip ?_
         refine go_blk ?_
         refine go_regionJ hR ⟨[(0, .c (.sl (List.map cI64 a0))), (1, .clo f1 []), (7, .c (.val (.int .i64 ((a0.length : Nat) : Int)))), (8, .c (.val (.int .i64 ((x5 + 1 : Nat) : Int))))], [], 0⟩ ?_ ?_
         ·skip
          have w11 : IntKind.i64.wrap (((x5 : Nat) : Int) + 1) = ((x5 + 1 : Nat) : Int) := by rw [IntKind.wrap_i64]; omega
          simp only [w11, EVB, eqF, Op.operands, IntKind.bits, descF, sizeF, bytesF, zeroF, seval, reduceCtorEq, ↓reduceIte, CELLS]
          exact Weak.sub' ⟨rfl, rfl, rfl, rfl, trivial⟩ trivial (Nat.le_of_ble_eq_true rfl)
         ·skip
          exact go_fin ⟨x5 + 1, ⟨(by (try dsimp only); (repeat' apply And.intro) <;> first | trivial | omega | assumption | (simp; done)), hx1⟩, by (try dsimp only); omega, (Weak.canon [] [0, 1, 7, 8] (by decide) rfl trivial rfl (by simp) (by first | rfl | (simp only [NM, CELLS] <;> rfl) | simp [NM, CELLS]) rfl rfl)⟩
     ·have gh6 := h6
      try simp only [GN, beq_iff_eq, beq_eq_false_iff_ne, bne_iff_ne, bne_eq_false_iff_eq] at gh6
      simp only [h6, dite_true, dite_false, reduceDIte, Bool.false_eq_true] at hx1
      refine go_exit rfl ?_
      exact go_fin ⟨(), hx1.symm, (Weak.canon [] [] (by decide) rfl trivial rfl (by simp) (by first | rfl | (simp only [NM, CELLS] <;> rfl) | simp [NM, CELLS]) rfl rfl)⟩
   ·rintro o1 hp
    try dsimp only at hp
    subst hp
    simp only [Sum.elim_inr] at hx0
    refine go_seq ?_
    refine go_regionJ hR ⟨[(4, .c (.val (.int .i64 (-1))))], [], 0⟩ ?_ ?_
    ·skip
     simp only [EVB, eqF, Op.operands, IntKind.bits, descF, sizeF, bytesF, zeroF, seval, reduceCtorEq, ↓reduceIte]
     exact Weak.sub' ⟨rfl, trivial⟩ trivial (Nat.le_of_ble_eq_true rfl)
    ·skip
     subst hx0
     refine go_return ttOk (fun _ h => h) rfl ?_ ?_
     ·exact (by (repeat' apply And.intro) <;> first | trivial | exact Nat.le_of_ble_eq_true rfl | omega | (simp only [NM]; omega))
     ·first | rfl | (simp only [NM, CELLS] <;> rfl)

def slices_ContainsFunc_int64 (a0 : (List Int)) (a1 : Int → Bool) : Bool :=
  (decide ((slices_IndexFunc_int64 a0 a1) ≥ 0))
set_option maxRecDepth 10000 in
set_option maxHeartbeats 8000000 in
theorem slices_ContainsFunc_int64_t (a0 : (List Int)) (f1 : FuncId) (a1 : Int → Bool) (f1_t : ∀ (y0 : Int), FnP Try.prog f1 [.c (.val (.int .i64 y0))] (.c (.val (.bool (a1 y0))))) : FnP Try.prog 39 [.c (.sl (List.map cI64 a0)), .clo f1 []] (.c (.val (.bool (slices_ContainsFunc_int64 a0 a1)))) := by
 refine FnP.intro (tt := tt) Try.func39 rfl (by kernel_rfl) (by simp [Try.ntmps39]) fun w0 A hA => ?_
 have hR := reckB_ok eqOk ttOk
 obtain ⟨res, hx0⟩ : ∃ r, slices_ContainsFunc_int64 a0 a1 = r := ⟨_, rfl⟩
 simp only [hx0]
 unfold slices_ContainsFunc_int64 at hx0
 simp only [argT, Try.ntmps39]
 refine go_seq ?_
 refine go_regionJ hR ⟨[(0, .c (.sl (List.map cI64 a0))), (1, .clo f1 [])], [], 0⟩ ?_ ?_
 ·skip
  simp only [EVB, eqF, Op.operands, IntKind.bits, descF, sizeF, bytesF, zeroF, seval, reduceCtorEq, ↓reduceIte]
  exact Weak.sub' ⟨rfl, rfl, trivial⟩ trivial (Nat.le_of_ble_eq_true rfl)
 ·skip
  refine go_seq ?_
  refine go_regionJ hR ⟨[(4, .c (.val (.bool (decide ((slices_IndexFunc_int64 a0 a1) ≥ 0)))))], [], 0⟩ ?_ ?_
  ·skip
   simp only [EVB, eqF, Op.operands, IntKind.bits, descF, sizeF, bytesF, zeroF, seval, reduceCtorEq, ↓reduceIte]
   refine CallK.freshE (slices_IndexFunc_int64_t a0 f1 a1 f1_t).toO rfl (by first | rfl | (simp only [NM]; done)) (by (repeat' apply And.intro) <;> first | trivial | rfl | omega | (simp only [NM]; omega)) (.inl rfl) (by exact Nat.le_of_ble_eq_true rfl) ?_
   try simp only [EVB, eqF, Op.operands, IntKind.bits, descF, sizeF, bytesF, zeroF, seval, reduceCtorEq, ↓reduceIte]
   exact Weak.sub' ⟨rfl, trivial⟩ trivial (Nat.le_of_ble_eq_true rfl)
  ·skip
   subst hx0
   refine go_return ttOk (fun _ h => h) rfl ?_ ?_
   ·exact (by (repeat' apply And.intro) <;> first | trivial | exact Nat.le_of_ble_eq_true rfl | omega | (simp only [NM]; omega))
   ·first | rfl | (simp only [NM, CELLS] <;> rfl)

def coord_sameTxn (a0 : STxn) (a1 : STxn) : Bool :=
  (((((a0.Epoch == a1.Epoch) && (a0.Id == a1.Id)) && (a0.Begin == a1.Begin)) && (slices_Equal_Record a0.Records a1.Records)) && (slices_Equal_int64 a0.Vector a1.Vector))
set_option maxRecDepth 10000 in
set_option maxHeartbeats 8000000 in
theorem coord_sameTxn_t (a0 : STxn) (a1 : STxn) : FnP Try.prog 43 [.agg [.c (.val (.int .i64 a0.Epoch)), .c (.val (.int .i64 a0.Id)), .c (.val (.int .i64 a0.Begin)), .c (.sl (List.map SRecord.cells a0.Records)), .c (.sl (List.map cI64 a0.Vector))], .agg [.c (.val (.int .i64 a1.Epoch)), .c (.val (.int .i64 a1.Id)), .c (.val (.int .i64 a1.Begin)), .c (.sl (List.map SRecord.cells a1.Records)), .c (.sl (List.map cI64 a1.Vector))]] (.c (.val (.bool (coord_sameTxn a0 a1)))) := by
 refine FnP.intro (tt := tt) Try.func43 rfl (by kernel_rfl) (by simp [Try.ntmps43]) fun w0 A hA => ?_
 have hR := reckB_ok eqOk ttOk
 obtain ⟨res, hx0⟩ : ∃ r, coord_sameTxn a0 a1 = r := ⟨_, rfl⟩
 simp only [hx0]
 unfold coord_sameTxn at hx0
 simp only [argT, Try.ntmps43]
 refine go_seq ?_
 refine go_regionJ hR ⟨[(2, .ptr 0 0), (3, .ptr 1 0)], [(0, .box [.c (.val (.int .i64 a0.Epoch)), .c (.val (.int .i64 a0.Id)), .c (.val (.int .i64 a0.Begin)), .c (.sl (List.map SRecord.cells a0.Records)), .c (.sl (List.map cI64 a0.Vector))] 28), (1, .box [.c (.val (.int .i64 a1.Epoch)), .c (.val (.int .i64 a1.Id)), .c (.val (.int .i64 a1.Begin)), .c (.sl (List.map SRecord.cells a1.Records)), .c (.sl (List.map cI64 a1.Vector))] 28)], 2⟩ ?_ ?_
 ·skip
  simp only [EVB, eqF, Op.operands, IntKind.bits, descF, sizeF, bytesF, zeroF, seval, reduceCtorEq, ↓reduceIte]
  exact Weak.sub' ⟨rfl, rfl, trivial⟩ ⟨rfl, rfl, trivial⟩ (Nat.le_of_ble_eq_true rfl)
 ·skip
  refine go_seq ?_
  refine go_regionJ hR ⟨[(4, .c (.val (.bool (((((a0.Epoch == a1.Epoch) && (a0.Id == a1.Id)) && (a0.Begin == a1.Begin)) && (slices_Equal_Record a0.Records a1.Records)) && (slices_Equal_int64 a0.Vector a1.Vector)))))], [], 2⟩ ?_ ?_
  ·skip
   rcases Bool.eq_false_or_eq_true (a0.Epoch == a1.Epoch) with h1 | h1
   ·rcases Bool.eq_false_or_eq_true (a0.Id == a1.Id) with h2 | h2
    ·rcases Bool.eq_false_or_eq_true (a0.Begin == a1.Begin) with h3 | h3
     ·rcases Bool.eq_false_or_eq_true (slices_Equal_Record a0.Records a1.Records) with h4 | h4
      ·simp (maxSteps := 4000000) only [h1, h2, h3, h4, EVB, eqF, Op.operands, IntKind.bits, descF, sizeF, bytesF, zeroF, seval, reduceCtorEq, ↓reduceIte]
       refine CallK.freshE (slices_Equal_Record_t a0.Records a1.Records).toO rfl (by first | rfl | (simp only [NM]; done)) (by (repeat' apply And.intro) <;> first | trivial | rfl | omega | (simp only [NM]; omega)) (.inl rfl) (by exact Nat.le_of_ble_eq_true rfl) ?_
       try simp (maxSteps := 4000000) only [h1, h2, h3, h4, EVB, eqF, Op.operands, IntKind.bits, descF, sizeF, bytesF, zeroF, seval, reduceCtorEq, ↓reduceIte]
       refine CallK.freshE (slices_Equal_int64_t a0.Vector a1.Vector).toO rfl (by first | rfl | (simp only [NM]; done)) (by (repeat' apply And.intro) <;> first | trivial | rfl | omega | (simp only [NM]; omega)) (.inl rfl) (by exact Nat.le_of_ble_eq_true rfl) ?_
       try simp (maxSteps := 4000000) only [h1, h2, h3, h4, EVB, eqF, Op.operands, IntKind.bits, descF, sizeF, bytesF, zeroF, seval, reduceCtorEq, ↓reduceIte]
       try simp only [h1, h2, h3, h4, BM]
       exact Weak.sub' ⟨rfl, trivial⟩ trivial (Nat.le_of_ble_eq_true rfl)
      ·simp (maxSteps := 4000000) only [h1, h2, h3, h4, EVB, eqF, Op.operands, IntKind.bits, descF, sizeF, bytesF, zeroF, seval, reduceCtorEq, ↓reduceIte]
       refine CallK.freshE (slices_Equal_Record_t a0.Records a1.Records).toO rfl (by first | rfl | (simp only [NM]; done)) (by (repeat' apply And.intro) <;> first | trivial | rfl | omega | (simp only [NM]; omega)) (.inl rfl) (by exact Nat.le_of_ble_eq_true rfl) ?_
       try simp (maxSteps := 4000000) only [h1, h2, h3, h4, EVB, eqF, Op.operands, IntKind.bits, descF, sizeF, bytesF, zeroF, seval, reduceCtorEq, ↓reduceIte]
       try simp only [h1, h2, h3, h4, BM]
       exact Weak.sub' ⟨rfl, trivial⟩ trivial (Nat.le_of_ble_eq_true rfl)
     ·simp (maxSteps := 4000000) only [h1, h2, h3, EVB, eqF, Op.operands, IntKind.bits, descF, sizeF, bytesF, zeroF, seval, reduceCtorEq, ↓reduceIte]
      try simp only [h1, h2, h3, BM]
      exact Weak.sub' ⟨rfl, trivial⟩ trivial (Nat.le_of_ble_eq_true rfl)
    ·simp (maxSteps := 4000000) only [h1, h2, EVB, eqF, Op.operands, IntKind.bits, descF, sizeF, bytesF, zeroF, seval, reduceCtorEq, ↓reduceIte]
     try simp only [h1, h2, BM]
     exact Weak.sub' ⟨rfl, trivial⟩ trivial (Nat.le_of_ble_eq_true rfl)
   ·simp (maxSteps := 4000000) only [h1, EVB, eqF, Op.operands, IntKind.bits, descF, sizeF, bytesF, zeroF, seval, reduceCtorEq, ↓reduceIte]
    try simp only [h1, BM]
    exact Weak.sub' ⟨rfl, trivial⟩ trivial (Nat.le_of_ble_eq_true rfl)
  ·skip
   subst hx0
   refine go_return ttOk (fun _ h => h) rfl ?_ ?_
   ·exact (by (repeat' apply And.intro) <;> first | trivial | exact Nat.le_of_ble_eq_true rfl | omega | (simp only [NM]; omega))
   ·first | rfl | (simp only [NM, CELLS] <;> rfl)

def coord_Check_c1 (a0 : Int) : Bool :=
  (!(coord_num a0))
set_option maxRecDepth 10000 in
set_option maxHeartbeats 8000000 in
theorem coord_Check_c1_t (a0 : Int) : FnP Try.prog 40 [.c (.val (.int .i64 a0))] (.c (.val (.bool (coord_Check_c1 a0)))) := by
 refine FnP.intro (tt := tt) Try.func40 rfl (by kernel_rfl) (by simp [Try.ntmps40]) fun w0 A hA => ?_
 have hR := reckB_ok eqOk ttOk
 obtain ⟨res, hx0⟩ : ∃ r, coord_Check_c1 a0 = r := ⟨_, rfl⟩
 simp only [hx0]
 unfold coord_Check_c1 at hx0
 simp only [argT, Try.ntmps40]
 refine go_seq ?_
 refine go_regionJ hR ⟨[(0, .c (.val (.int .i64 a0)))], [], 0⟩ ?_ ?_
 ·skip
  simp only [EVB, eqF, Op.operands, IntKind.bits, descF, sizeF, bytesF, zeroF, seval, reduceCtorEq, ↓reduceIte]
  exact Weak.sub' ⟨rfl, trivial⟩ trivial (Nat.le_of_ble_eq_true rfl)
 ·skip
  refine go_seq ?_
  refine go_regionJ hR ⟨[(2, .c (.val (.bool (!(coord_num a0)))))], [], 0⟩ ?_ ?_
  ·skip
   simp only [EVB, eqF, Op.operands, IntKind.bits, descF, sizeF, bytesF, zeroF, seval, reduceCtorEq, ↓reduceIte]
   refine CallK.freshE (coord_num_t a0).toO rfl (by first | rfl | (simp only [NM]; done)) (by (repeat' apply And.intro) <;> first | trivial | rfl | omega | (simp only [NM]; omega)) (.inl rfl) (by exact Nat.le_of_ble_eq_true rfl) ?_
   try simp only [EVB, eqF, Op.operands, IntKind.bits, descF, sizeF, bytesF, zeroF, seval, reduceCtorEq, ↓reduceIte]
   exact Weak.sub' ⟨rfl, trivial⟩ trivial (Nat.le_of_ble_eq_true rfl)
  ·skip
   subst hx0
   refine go_return ttOk (fun _ h => h) rfl ?_ ?_
   ·exact (by (repeat' apply And.intro) <;> first | trivial | exact Nat.le_of_ble_eq_true rfl | omega | (simp only [NM]; omega))
   ·first | rfl | (simp only [NM, CELLS] <;> rfl)
end Go.Ab.Try
