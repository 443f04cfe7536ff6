/-
  Functions, and what they compute: printed by wg.py, a program of this work.
-/
import Derived.Test.YtipiagjhijnmhaaP0
import Derived.Test.YtipiagjhijnmhaaP1
import Derived.Test.YtipiagjhijnmhaaP2
set_option linter.unusedVariables false
set_option linter.unusedSimpArgs false
namespace Go.Ab.Try
open Go Go.Proofs Go.Ab

def manifest_pos (a0 : Int) : Bool :=
  ((decide (a0 ≥ 1)) && (decide (a0 ≤ 9007199254740992)))
set_option maxRecDepth 10000 in
set_option maxHeartbeats 8000000 in
theorem manifest_pos_t (a0 : Int) : FnP Try.prog 74 [.c (.val (.int .i64 a0))] (.c (.val (.bool (manifest_pos a0)))) := by
 refine FnP.intro (tt := tt) Try.func74 rfl (by kernel_rfl) (by simp [Try.ntmps74]) fun w0 A hA => ?_
 have hR := reckB_ok eqOk ttOk
 obtain ⟨res, hx0⟩ : ∃ r, manifest_pos a0 = r := ⟨_, rfl⟩
 simp only [hx0]
 unfold manifest_pos at hx0
 simp only [argT, Try.ntmps74]
 refine go_seq ?_
 refine go_regionJ hR ⟨[(0, .c (.val (.int .i64 a0)))], [], 0⟩ ?_ ?_
 ·skip
  simp only [EVB, eqF, Op.operands, IntKind.bits, descF, sizeF, bytesF, zeroF, seval, reduceCtorEq, ↓reduceIte]
  exact Weak.sub' ⟨rfl, trivial⟩ trivial (Nat.le_of_ble_eq_true rfl)
 ·skip
  refine go_seq ?_
  refine go_regionJ hR ⟨[(2, .c (.val (.bool ((decide (a0 ≥ 1)) && (decide (a0 ≤ 9007199254740992))))))], [], 0⟩ ?_ ?_
  ·skip
   rcases Bool.eq_false_or_eq_true (decide (a0 ≥ 1)) with h1 | h1
   ·simp only [h1, EVB, eqF, Op.operands, IntKind.bits, descF, sizeF, bytesF, zeroF, seval, reduceCtorEq, ↓reduceIte]
    try simp only [h1, BM]
    exact Weak.sub' ⟨rfl, trivial⟩ trivial (Nat.le_of_ble_eq_true rfl)
   ·simp only [h1, EVB, eqF, Op.operands, IntKind.bits, descF, sizeF, bytesF, zeroF, seval, reduceCtorEq, ↓reduceIte]
    try simp only [h1, BM]
    exact Weak.sub' ⟨rfl, trivial⟩ trivial (Nat.le_of_ble_eq_true rfl)
  ·skip
   subst hx0
   refine go_return ttOk (fun _ h => h) rfl ?_ ?_
   ·exact (by (repeat' apply And.intro) <;> first | trivial | exact Nat.le_of_ble_eq_true rfl | omega | (simp only [NM]; omega))
   ·first | rfl | (simp only [NM, CELLS] <;> rfl)

def manifest_num (a0 : Int) : Bool :=
  ((decide (a0 ≥ 0)) && (decide (a0 ≤ 9007199254740992)))
set_option maxRecDepth 10000 in
set_option maxHeartbeats 8000000 in
theorem manifest_num_t (a0 : Int) : FnP Try.prog 76 [.c (.val (.int .i64 a0))] (.c (.val (.bool (manifest_num a0)))) := by
 refine FnP.intro (tt := tt) Try.func76 rfl (by kernel_rfl) (by simp [Try.ntmps76]) fun w0 A hA => ?_
 have hR := reckB_ok eqOk ttOk
 obtain ⟨res, hx0⟩ : ∃ r, manifest_num a0 = r := ⟨_, rfl⟩
 simp only [hx0]
 unfold manifest_num at hx0
 simp only [argT, Try.ntmps76]
 refine go_seq ?_
 refine go_regionJ hR ⟨[(0, .c (.val (.int .i64 a0)))], [], 0⟩ ?_ ?_
 ·skip
  simp only [EVB, eqF, Op.operands, IntKind.bits, descF, sizeF, bytesF, zeroF, seval, reduceCtorEq, ↓reduceIte]
  exact Weak.sub' ⟨rfl, trivial⟩ trivial (Nat.le_of_ble_eq_true rfl)
 ·skip
  refine go_seq ?_
  refine go_regionJ hR ⟨[(2, .c (.val (.bool ((decide (a0 ≥ 0)) && (decide (a0 ≤ 9007199254740992))))))], [], 0⟩ ?_ ?_
  ·skip
   rcases Bool.eq_false_or_eq_true (decide (a0 ≥ 0)) with h1 | h1
   ·simp only [h1, EVB, eqF, Op.operands, IntKind.bits, descF, sizeF, bytesF, zeroF, seval, reduceCtorEq, ↓reduceIte]
    try simp only [h1, BM]
    exact Weak.sub' ⟨rfl, trivial⟩ trivial (Nat.le_of_ble_eq_true rfl)
   ·simp only [h1, EVB, eqF, Op.operands, IntKind.bits, descF, sizeF, bytesF, zeroF, seval, reduceCtorEq, ↓reduceIte]
    try simp only [h1, BM]
    exact Weak.sub' ⟨rfl, trivial⟩ trivial (Nat.le_of_ble_eq_true rfl)
  ·skip
   subst hx0
   refine go_return ttOk (fun _ h => h) rfl ?_ ?_
   ·exact (by (repeat' apply And.intro) <;> first | trivial | exact Nat.le_of_ble_eq_true rfl | omega | (simp only [NM]; omega))
   ·first | rfl | (simp only [NM, CELLS] <;> rfl)

def manifest_Check_c1 (a0 : Int) : Bool :=
  (!(manifest_num a0))
set_option maxRecDepth 10000 in
set_option maxHeartbeats 8000000 in
theorem manifest_Check_c1_t (a0 : Int) : FnP Try.prog 75 [.c (.val (.int .i64 a0))] (.c (.val (.bool (manifest_Check_c1 a0)))) := by
 refine FnP.intro (tt := tt) Try.func75 rfl (by kernel_rfl) (by simp [Try.ntmps75]) fun w0 A hA => ?_
 have hR := reckB_ok eqOk ttOk
 obtain ⟨res, hx0⟩ : ∃ r, manifest_Check_c1 a0 = r := ⟨_, rfl⟩
 simp only [hx0]
 unfold manifest_Check_c1 at hx0
 simp only [argT, Try.ntmps75]
 refine go_seq ?_
 refine go_regionJ hR ⟨[(0, .c (.val (.int .i64 a0)))], [], 0⟩ ?_ ?_
 ·skip
  simp only [EVB, eqF, Op.operands, IntKind.bits, descF, sizeF, bytesF, zeroF, seval, reduceCtorEq, ↓reduceIte]
  exact Weak.sub' ⟨rfl, trivial⟩ trivial (Nat.le_of_ble_eq_true rfl)
 ·skip
  refine go_seq ?_
  refine go_regionJ hR ⟨[(2, .c (.val (.bool (!(manifest_num a0)))))], [], 0⟩ ?_ ?_
  ·skip
   simp only [EVB, eqF, Op.operands, IntKind.bits, descF, sizeF, bytesF, zeroF, seval, reduceCtorEq, ↓reduceIte]
   refine CallK.freshE (manifest_num_t a0).toO rfl (by first | rfl | (simp only [NM]; done)) (by (repeat' apply And.intro) <;> first | trivial | rfl | omega | (simp only [NM]; omega)) (.inl rfl) (by exact Nat.le_of_ble_eq_true rfl) ?_
   try simp only [EVB, eqF, Op.operands, IntKind.bits, descF, sizeF, bytesF, zeroF, seval, reduceCtorEq, ↓reduceIte]
   exact Weak.sub' ⟨rfl, trivial⟩ trivial (Nat.le_of_ble_eq_true rfl)
  ·skip
   subst hx0
   refine go_return ttOk (fun _ h => h) rfl ?_ ?_
   ·exact (by (repeat' apply And.intro) <;> first | trivial | exact Nat.le_of_ble_eq_true rfl | omega | (simp only [NM]; omega))
   ·first | rfl | (simp only [NM, CELLS] <;> rfl)

def manifest_Check_L0 (a0 : SManifest) (x22 : Int) (x23 : Nat) : Sum Int Int :=
  (if h24 : (decide (((x23 : Nat) : Int) < ((a0.Pieces.length : Nat) : Int))) = true then (if h26 : ((decide ((List.getD a0.Pieces x23 default).Len < 1)) || (decide ((List.getD a0.Pieces x23 default).Len > 4096))) = true then (Sum.inl 170) else (manifest_Check_L0 a0 (IntKind.i64.wrap (x22 + (List.getD a0.Pieces x23 default).Len)) (x23 + 1))) else (Sum.inr x22))
termination_by a0.Pieces.length - x23
decreasing_by all_goals (try simp only [GN, beq_iff_eq, beq_eq_false_iff_ne, bne_iff_ne, bne_eq_false_iff_eq] at *) <;> omega
def manifest_Check (a0 : SManifest) : Int :=
  (bif (((((!(manifest_pos a0.Epoch)) || (!(manifest_pos a0.Id))) || (decide (((a0.Vector.length : Nat) : Int) < 1))) || (decide (((a0.Vector.length : Nat) : Int) > 4))) || (slices_ContainsFunc_int64 a0.Vector manifest_Check_c1)) then 170 else (bif ((((((!(manifest_num a0.Out)) || (decide (a0.Begin < 0))) || (decide (a0.Begin > a0.Out))) || (((a0.Records.length : Nat) : Int) != (IntKind.i64.wrap (a0.Out - a0.Begin)))) || (decide (((a0.Records.length : Nat) : Int) > 4096))) || (decide (((a0.Pieces.length : Nat) : Int) > 512))) then 170 else letIn (manifest_Check_L0 a0 0 0) fun o12s => Sum.elim (fun q => q) (fun o12 => (bif (decide (o12 > 131072)) then 170 else 0)) o12s))
set_option maxRecDepth 10000 in
set_option maxHeartbeats 8000000 in
theorem manifest_Check_t (a0 : SManifest) : FnP Try.prog 56 [.agg [.c (.val (.int .i64 a0.Epoch)), .c (.val (.int .i64 a0.Id)), .c (.sl (List.map cI64 a0.Vector)), .c (.val (.int .i64 a0.Out)), .c (.val (.int .i64 a0.Begin)), .c (.sl (List.map SRecord.cells a0.Records)), .c (.sl (List.map SPiece.cells a0.Pieces)), .c (.val (.int .u32 a0.Graph))]] (.c (.val (.int .i64 (manifest_Check a0)))) := by
 refine FnP.intro (tt := tt) Try.func56 rfl (by kernel_rfl) (by simp [Try.ntmps56]) fun w0 A hA => ?_
 have hR := reckB_ok eqOk ttOk
 obtain ⟨res, hx0⟩ : ∃ r, manifest_Check a0 = r := ⟨_, rfl⟩
 simp only [hx0]
 unfold manifest_Check at hx0
 simp only [argT, Try.ntmps56]
 refine go_seq ?_
 refine go_regionJ hR ⟨[(1, .ptr 0 0)], [(0, .box [.c (.val (.int .i64 a0.Epoch)), .c (.val (.int .i64 a0.Id)), .c (.sl (List.map cI64 a0.Vector)), .c (.val (.int .i64 a0.Out)), .c (.val (.int .i64 a0.Begin)), .c (.sl (List.map SRecord.cells a0.Records)), .c (.sl (List.map SPiece.cells a0.Pieces)), .c (.val (.int .u32 a0.Graph))] 41)], 1⟩ ?_ ?_
 ·skip
  simp only [EVB, eqF, Op.operands, IntKind.bits, descF, sizeF, bytesF, zeroF, seval, reduceCtorEq, ↓reduceIte]
  exact Weak.sub' ⟨rfl, trivial⟩ ⟨rfl, trivial⟩ (Nat.le_of_ble_eq_true rfl)
 ·skip
  refine go_seq ?_
  refine go_seq ?_
  refine go_regionJ hR ⟨[(1, .ptr 0 0), (32, .c (.val (.bool (((((!(manifest_pos a0.Epoch)) || (!(manifest_pos a0.Id))) || (decide (((a0.Vector.length : Nat) : Int) < 1))) || (decide (((a0.Vector.length : Nat) : Int) > 4))) || (slices_ContainsFunc_int64 a0.Vector manifest_Check_c1)))))], [(0, .box [.c (.val (.int .i64 a0.Epoch)), .c (.val (.int .i64 a0.Id)), .c (.sl (List.map cI64 a0.Vector)), .c (.val (.int .i64 a0.Out)), .c (.val (.int .i64 a0.Begin)), .c (.sl (List.map SRecord.cells a0.Records)), .c (.sl (List.map SPiece.cells a0.Pieces)), .c (.val (.int .u32 a0.Graph))] 41)], 1⟩ ?_ ?_
  ·skip
   rcases Bool.eq_false_or_eq_true (!(manifest_pos a0.Epoch)) with h1 | h1
   ·simp (maxSteps := 4000000) only [h1, EVB, eqF, Op.operands, IntKind.bits, descF, sizeF, bytesF, zeroF, seval, reduceCtorEq, ↓reduceIte]
    refine CallK.freshE (manifest_pos_t a0.Epoch).toO rfl (by first | rfl | (simp only [NM]; done)) (by (repeat' apply And.intro) <;> first | trivial | rfl | omega | (simp only [NM]; omega)) (.inl rfl) (by exact Nat.le_of_ble_eq_true rfl) ?_
    try simp (maxSteps := 4000000) only [h1, EVB, eqF, Op.operands, IntKind.bits, descF, sizeF, bytesF, zeroF, seval, reduceCtorEq, ↓reduceIte]
    try simp only [h1, BM]
    exact Weak.sub' ⟨rfl, rfl, trivial⟩ ⟨rfl, trivial⟩ (Nat.le_of_ble_eq_true rfl)
   ·rcases Bool.eq_false_or_eq_true (!(manifest_pos a0.Id)) with h2 | h2
    ·simp (maxSteps := 4000000) only [h1, h2, EVB, eqF, Op.operands, IntKind.bits, descF, sizeF, bytesF, zeroF, seval, reduceCtorEq, ↓reduceIte]
     refine CallK.freshE (manifest_pos_t a0.Epoch).toO rfl (by first | rfl | (simp only [NM]; done)) (by (repeat' apply And.intro) <;> first | trivial | rfl | omega | (simp only [NM]; omega)) (.inl rfl) (by exact Nat.le_of_ble_eq_true rfl) ?_
     try simp (maxSteps := 4000000) only [h1, h2, EVB, eqF, Op.operands, IntKind.bits, descF, sizeF, bytesF, zeroF, seval, reduceCtorEq, ↓reduceIte]
     refine CallK.freshE (manifest_pos_t a0.Id).toO rfl (by first | rfl | (simp only [NM]; done)) (by (repeat' apply And.intro) <;> first | trivial | rfl | omega | (simp only [NM]; omega)) (.inl rfl) (by exact Nat.le_of_ble_eq_true rfl) ?_
     try simp (maxSteps := 4000000) only [h1, h2, EVB, eqF, Op.operands, IntKind.bits, descF, sizeF, bytesF, zeroF, seval, reduceCtorEq, ↓reduceIte]
     try simp only [h1, h2, BM]
     exact Weak.sub' ⟨rfl, rfl, trivial⟩ ⟨rfl, trivial⟩ (Nat.le_of_ble_eq_true rfl)
    ·rcases Bool.eq_false_or_eq_true (decide (((a0.Vector.length : Nat) : Int) < 1)) with h3 | h3
     ·simp (maxSteps := 4000000) only [h1, h2, h3, EVB, eqF, Op.operands, IntKind.bits, descF, sizeF, bytesF, zeroF, seval, reduceCtorEq, ↓reduceIte]
      refine CallK.freshE (manifest_pos_t a0.Epoch).toO rfl (by first | rfl | (simp only [NM]; done)) (by (repeat' apply And.intro) <;> first | trivial | rfl | omega | (simp only [NM]; omega)) (.inl rfl) (by exact Nat.le_of_ble_eq_true rfl) ?_
      try simp (maxSteps := 4000000) only [h1, h2, h3, EVB, eqF, Op.operands, IntKind.bits, descF, sizeF, bytesF, zeroF, seval, reduceCtorEq, ↓reduceIte]
      refine CallK.freshE (manifest_pos_t a0.Id).toO rfl (by first | rfl | (simp only [NM]; done)) (by (repeat' apply And.intro) <;> first | trivial | rfl | omega | (simp only [NM]; omega)) (.inl rfl) (by exact Nat.le_of_ble_eq_true rfl) ?_
      try simp (maxSteps := 4000000) only [h1, h2, h3, EVB, eqF, Op.operands, IntKind.bits, descF, sizeF, bytesF, zeroF, seval, reduceCtorEq, ↓reduceIte]
      try simp only [h1, h2, h3, BM]
      exact Weak.sub' ⟨rfl, rfl, trivial⟩ ⟨rfl, trivial⟩ (Nat.le_of_ble_eq_true rfl)
     ·rcases Bool.eq_false_or_eq_true (decide (((a0.Vector.length : Nat) : Int) > 4)) with h4 | h4
      ·simp (maxSteps := 4000000) only [h1, h2, h3, h4, EVB, eqF, Op.operands, IntKind.bits, descF, sizeF, bytesF, zeroF, seval, reduceCtorEq, ↓reduceIte]
       refine CallK.freshE (manifest_pos_t a0.Epoch).toO rfl (by first | rfl | (simp only [NM]; done)) (by (repeat' apply And.intro) <;> first | trivial | rfl | omega | (simp only [NM]; omega)) (.inl rfl) (by exact Nat.le_of_ble_eq_true rfl) ?_
       try simp (maxSteps := 4000000) only [h1, h2, h3, h4, EVB, eqF, Op.operands, IntKind.bits, descF, sizeF, bytesF, zeroF, seval, reduceCtorEq, ↓reduceIte]
       refine CallK.freshE (manifest_pos_t a0.Id).toO rfl (by first | rfl | (simp only [NM]; done)) (by (repeat' apply And.intro) <;> first | trivial | rfl | omega | (simp only [NM]; omega)) (.inl rfl) (by exact Nat.le_of_ble_eq_true rfl) ?_
       try simp (maxSteps := 4000000) only [h1, h2, h3, h4, EVB, eqF, Op.operands, IntKind.bits, descF, sizeF, bytesF, zeroF, seval, reduceCtorEq, ↓reduceIte]
       try simp only [h1, h2, h3, h4, BM]
       exact Weak.sub' ⟨rfl, rfl, trivial⟩ ⟨rfl, trivial⟩ (Nat.le_of_ble_eq_true rfl)
      ·simp (maxSteps := 4000000) only [h1, h2, h3, h4, EVB, eqF, Op.operands, IntKind.bits, descF, sizeF, bytesF, zeroF, seval, reduceCtorEq, ↓reduceIte]
       refine CallK.freshE (manifest_pos_t a0.Epoch).toO rfl (by first | rfl | (simp only [NM]; done)) (by (repeat' apply And.intro) <;> first | trivial | rfl | omega | (simp only [NM]; omega)) (.inl rfl) (by exact Nat.le_of_ble_eq_true rfl) ?_
       try simp (maxSteps := 4000000) only [h1, h2, h3, h4, EVB, eqF, Op.operands, IntKind.bits, descF, sizeF, bytesF, zeroF, seval, reduceCtorEq, ↓reduceIte]
       refine CallK.freshE (manifest_pos_t a0.Id).toO rfl (by first | rfl | (simp only [NM]; done)) (by (repeat' apply And.intro) <;> first | trivial | rfl | omega | (simp only [NM]; omega)) (.inl rfl) (by exact Nat.le_of_ble_eq_true rfl) ?_
       try simp (maxSteps := 4000000) only [h1, h2, h3, h4, EVB, eqF, Op.operands, IntKind.bits, descF, sizeF, bytesF, zeroF, seval, reduceCtorEq, ↓reduceIte]
       refine CallK.freshE (slices_ContainsFunc_int64_t a0.Vector 75 manifest_Check_c1 manifest_Check_c1_t).toO rfl (by first | rfl | (simp only [NM]; done)) (by (repeat' apply And.intro) <;> first | trivial | rfl | omega | (simp only [NM]; omega)) (.inl rfl) (by exact Nat.le_of_ble_eq_true rfl) ?_
       try simp (maxSteps := 4000000) only [h1, h2, h3, h4, EVB, eqF, Op.operands, IntKind.bits, descF, sizeF, bytesF, zeroF, seval, reduceCtorEq, ↓reduceIte]
       try simp only [h1, h2, h3, h4, BM]
       exact Weak.sub' ⟨rfl, rfl, trivial⟩ ⟨rfl, trivial⟩ (Nat.le_of_ble_eq_true rfl)
  ·skip
   refine go_cond (by rfl) (fun h5 => ?_) (fun h5 => ?_)
   ·have gh5 := h5
    try simp only [GN, beq_iff_eq, beq_eq_false_iff_ne, bne_iff_ne, bne_eq_false_iff_eq] at gh5
    simp only [h5, cond_true, cond_false] at hx0
    refine go_seq ?_
    refine go_regionJ hR ⟨[(2, .c (.val (.int .i64 170)))], [], 1⟩ ?_ ?_
    ·skip
     simp only [EVB, eqF, Op.operands, IntKind.bits, descF, sizeF, bytesF, zeroF, seval, reduceCtorEq, ↓reduceIte]
     exact Weak.sub' ⟨rfl, trivial⟩ trivial (Nat.le_of_ble_eq_true rfl)
    ·skip
     subst hx0
     refine go_return ttOk (fun _ h => h) rfl ?_ ?_
     ·exact (by (repeat' apply And.intro) <;> first | trivial | exact Nat.le_of_ble_eq_true rfl | omega | (simp only [NM]; omega))
     ·first | rfl | (simp only [NM, CELLS] <;> rfl)
   ·have gh5 := h5
    try simp only [GN, beq_iff_eq, beq_eq_false_iff_ne, bne_iff_ne, bne_eq_false_iff_eq] at gh5
    simp only [h5, cond_true, cond_false] at hx0
    refine go_skip ?_
    refine go_seq ?_
    refine go_seq ?_
    refine go_regionJ hR ⟨[(1, .ptr 0 0), (71, .c (.val (.bool ((((((!(manifest_num a0.Out)) || (decide (a0.Begin < 0))) || (decide (a0.Begin > a0.Out))) || (((a0.Records.length : Nat) : Int) != (IntKind.i64.wrap (a0.Out - a0.Begin)))) || (decide (((a0.Records.length : Nat) : Int) > 4096))) || (decide (((a0.Pieces.length : Nat) : Int) > 512))))))], [(0, .box [.c (.val (.int .i64 a0.Epoch)), .c (.val (.int .i64 a0.Id)), .c (.sl (List.map cI64 a0.Vector)), .c (.val (.int .i64 a0.Out)), .c (.val (.int .i64 a0.Begin)), .c (.sl (List.map SRecord.cells a0.Records)), .c (.sl (List.map SPiece.cells a0.Pieces)), .c (.val (.int .u32 a0.Graph))] 41)], 1⟩ ?_ ?_
    ·skip
     rcases Bool.eq_false_or_eq_true (!(manifest_num a0.Out)) with h6 | h6
     ·simp (maxSteps := 4000000) only [h6, EVB, eqF, Op.operands, IntKind.bits, descF, sizeF, bytesF, zeroF, seval, reduceCtorEq, ↓reduceIte]
      refine CallK.freshE (manifest_num_t a0.Out).toO rfl (by first | rfl | (simp only [NM]; done)) (by (repeat' apply And.intro) <;> first | trivial | rfl | omega | (simp only [NM]; omega)) (.inl rfl) (by exact Nat.le_of_ble_eq_true rfl) ?_
      try simp (maxSteps := 4000000) only [h6, EVB, eqF, Op.operands, IntKind.bits, descF, sizeF, bytesF, zeroF, seval, reduceCtorEq, ↓reduceIte]
      try simp only [h6, BM]
      exact Weak.sub' ⟨rfl, rfl, trivial⟩ ⟨rfl, trivial⟩ (Nat.le_of_ble_eq_true rfl)
     ·rcases Bool.eq_false_or_eq_true (decide (a0.Begin < 0)) with h7 | h7
      ·simp (maxSteps := 4000000) only [h6, h7, EVB, eqF, Op.operands, IntKind.bits, descF, sizeF, bytesF, zeroF, seval, reduceCtorEq, ↓reduceIte]
       refine CallK.freshE (manifest_num_t a0.Out).toO rfl (by first | rfl | (simp only [NM]; done)) (by (repeat' apply And.intro) <;> first | trivial | rfl | omega | (simp only [NM]; omega)) (.inl rfl) (by exact Nat.le_of_ble_eq_true rfl) ?_
       try simp (maxSteps := 4000000) only [h6, h7, EVB, eqF, Op.operands, IntKind.bits, descF, sizeF, bytesF, zeroF, seval, reduceCtorEq, ↓reduceIte]
       try simp only [h6, h7, BM]
       exact Weak.sub' ⟨rfl, rfl, trivial⟩ ⟨rfl, trivial⟩ (Nat.le_of_ble_eq_true rfl)
      ·rcases Bool.eq_false_or_eq_true (decide (a0.Begin > a0.Out)) with h8 | h8
       ·simp (maxSteps := 4000000) only [h6, h7, h8, EVB, eqF, Op.operands, IntKind.bits, descF, sizeF, bytesF, zeroF, seval, reduceCtorEq, ↓reduceIte]
        refine CallK.freshE (manifest_num_t a0.Out).toO rfl (by first | rfl | (simp only [NM]; done)) (by (repeat' apply And.intro) <;> first | trivial | rfl | omega | (simp only [NM]; omega)) (.inl rfl) (by exact Nat.le_of_ble_eq_true rfl) ?_
        try simp (maxSteps := 4000000) only [h6, h7, h8, EVB, eqF, Op.operands, IntKind.bits, descF, sizeF, bytesF, zeroF, seval, reduceCtorEq, ↓reduceIte]
        try simp only [h6, h7, h8, BM]
        exact Weak.sub' ⟨rfl, rfl, trivial⟩ ⟨rfl, trivial⟩ (Nat.le_of_ble_eq_true rfl)
       ·rcases Bool.eq_false_or_eq_true (((a0.Records.length : Nat) : Int) != (IntKind.i64.wrap (a0.Out - a0.Begin))) with h9 | h9
        ·simp (maxSteps := 4000000) only [h6, h7, h8, h9, EVB, eqF, Op.operands, IntKind.bits, descF, sizeF, bytesF, zeroF, seval, reduceCtorEq, ↓reduceIte]
         refine CallK.freshE (manifest_num_t a0.Out).toO rfl (by first | rfl | (simp only [NM]; done)) (by (repeat' apply And.intro) <;> first | trivial | rfl | omega | (simp only [NM]; omega)) (.inl rfl) (by exact Nat.le_of_ble_eq_true rfl) ?_
         try simp (maxSteps := 4000000) only [h6, h7, h8, h9, EVB, eqF, Op.operands, IntKind.bits, descF, sizeF, bytesF, zeroF, seval, reduceCtorEq, ↓reduceIte]
         try simp only [h6, h7, h8, h9, BM]
         exact Weak.sub' ⟨rfl, rfl, trivial⟩ ⟨rfl, trivial⟩ (Nat.le_of_ble_eq_true rfl)
        ·rcases Bool.eq_false_or_eq_true (decide (((a0.Records.length : Nat) : Int) > 4096)) with h10 | h10
         ·simp (maxSteps := 4000000) only [h6, h7, h8, h9, h10, EVB, eqF, Op.operands, IntKind.bits, descF, sizeF, bytesF, zeroF, seval, reduceCtorEq, ↓reduceIte]
          refine CallK.freshE (manifest_num_t a0.Out).toO rfl (by first | rfl | (simp only [NM]; done)) (by (repeat' apply And.intro) <;> first | trivial | rfl | omega | (simp only [NM]; omega)) (.inl rfl) (by exact Nat.le_of_ble_eq_true rfl) ?_
          try simp (maxSteps := 4000000) only [h6, h7, h8, h9, h10, EVB, eqF, Op.operands, IntKind.bits, descF, sizeF, bytesF, zeroF, seval, reduceCtorEq, ↓reduceIte]
          try simp only [h6, h7, h8, h9, h10, BM]
          exact Weak.sub' ⟨rfl, rfl, trivial⟩ ⟨rfl, trivial⟩ (Nat.le_of_ble_eq_true rfl)
         ·simp (maxSteps := 4000000) only [h6, h7, h8, h9, h10, EVB, eqF, Op.operands, IntKind.bits, descF, sizeF, bytesF, zeroF, seval, reduceCtorEq, ↓reduceIte]
          refine CallK.freshE (manifest_num_t a0.Out).toO rfl (by first | rfl | (simp only [NM]; done)) (by (repeat' apply And.intro) <;> first | trivial | rfl | omega | (simp only [NM]; omega)) (.inl rfl) (by exact Nat.le_of_ble_eq_true rfl) ?_
          try simp (maxSteps := 4000000) only [h6, h7, h8, h9, h10, EVB, eqF, Op.operands, IntKind.bits, descF, sizeF, bytesF, zeroF, seval, reduceCtorEq, ↓reduceIte]
          try simp only [h6, h7, h8, h9, h10, BM]
          exact Weak.sub' ⟨rfl, rfl, trivial⟩ ⟨rfl, trivial⟩ (Nat.le_of_ble_eq_true rfl)
    ·skip
     refine go_cond (by rfl) (fun h11 => ?_) (fun h11 => ?_)
     ·have gh11 := h11
      try simp only [GN, beq_iff_eq, beq_eq_false_iff_ne, bne_iff_ne, bne_eq_false_iff_eq] at gh11
      simp only [h11, cond_true, cond_false] at hx0
      refine go_seq ?_
      refine go_regionJ hR ⟨[(2, .c (.val (.int .i64 170)))], [], 1⟩ ?_ ?_
      ·skip
       simp only [EVB, eqF, Op.operands, IntKind.bits, descF, sizeF, bytesF, zeroF, seval, reduceCtorEq, ↓reduceIte]
       exact Weak.sub' ⟨rfl, trivial⟩ trivial (Nat.le_of_ble_eq_true rfl)
      ·skip
       subst hx0
       refine go_return ttOk (fun _ h => h) rfl ?_ ?_
       ·exact (by (repeat' apply And.intro) <;> first | trivial | exact Nat.le_of_ble_eq_true rfl | omega | (simp only [NM]; omega))
       ·first | rfl | (simp only [NM, CELLS] <;> rfl)
     ·have gh11 := h11
      try simp only [GN, beq_iff_eq, beq_eq_false_iff_ne, bne_iff_ne, bne_eq_false_iff_eq] at gh11
      simp only [h11, cond_true, cond_false] at hx0
      refine go_skip ?_
      refine go_seq ?_
      refine go_regionJ hR ⟨[(1, .ptr 0 0), (3, .c (.val (.int .i64 0)))], [(0, .box [.c (.val (.int .i64 a0.Epoch)), .c (.val (.int .i64 a0.Id)), .c (.sl (List.map cI64 a0.Vector)), .c (.val (.int .i64 a0.Out)), .c (.val (.int .i64 a0.Begin)), .c (.sl (List.map SRecord.cells a0.Records)), .c (.sl (List.map SPiece.cells a0.Pieces)), .c (.val (.int .u32 a0.Graph))] 41)], 1⟩ ?_ ?_
      ·skip
       simp only [EVB, eqF, Op.operands, IntKind.bits, descF, sizeF, bytesF, zeroF, seval, reduceCtorEq, ↓reduceIte]
       exact Weak.sub' ⟨rfl, rfl, trivial⟩ ⟨rfl, trivial⟩ (Nat.le_of_ble_eq_true rfl)
      ·skip
       refine go_seq ?_
       refine go_seq ?_
       refine go_regionJ hR ⟨[(3, .c (.val (.int .i64 0))), (73, .c (.sl (List.map SPiece.cells a0.Pieces))), (74, .c (.val (.int .i64 ((a0.Pieces.length : Nat) : Int)))), (75, .c (.val (.int .i64 0)))], [], 1⟩ ?_ ?_
       ·skip
        simp only [EVB, eqF, Op.operands, IntKind.bits, descF, sizeF, bytesF, zeroF, seval, reduceCtorEq, ↓reduceIte]
        exact Weak.sub' ⟨rfl, rfl, rfl, rfl, trivial⟩ trivial (Nat.le_of_ble_eq_true rfl)
       ·skip
        obtain ⟨o12s, hx1, hx0⟩ := letIn_ex hx0
        refine go_joinE (fun p : Int => ⟨[(3, .c (.val (.int .i64 p)))], [], 0⟩) (fun p : Int => o12s = Sum.inr p) ?_ ?_
        ·refine go_block ?_
         refine go_len (t := 73) rfl (fun hl28 => ?_)
         simp only [List.length_map, maxLen_eq] at hl28
         refine go_loop (fun p : Int × Nat => ⟨[(3, .c (.val (.int .i64 p.1))), (73, .c (.sl (List.map SPiece.cells a0.Pieces))), (74, .c (.val (.int .i64 ((a0.Pieces.length : Nat) : Int)))), (75, .c (.val (.int .i64 ((p.2 : Nat) : Int))))], [], 0⟩) (fun p : Int × Nat => (p.2 ≤ a0.Pieces.length) ∧ manifest_Check_L0 a0 p.1 p.2 = o12s) (fun p : Int × Nat => a0.Pieces.length - p.2) (0, 0) ⟨(by (try dsimp only); (repeat' apply And.intro) <;> first | trivial | omega | assumption | (simp; done)), hx1⟩ (Weak.canon [] [3, 73, 74, 75] (by decide) rfl trivial rfl (by simp) (by first | rfl | (simp only [NM, CELLS] <;> rfl) | simp [NM, CELLS]) rfl rfl) ?_
         rintro ⟨x22, x23⟩ ⟨hi29, hx1⟩
         try dsimp only at hi29 hx1 ⊢
         rw [manifest_Check_L0.eq_def] at hx1
         refine go_seq ?_
         refine go_regionJ hR ⟨[(3, .c (.val (.int .i64 x22))), (73, .c (.sl (List.map SPiece.cells a0.Pieces))), (74, .c (.val (.int .i64 ((a0.Pieces.length : Nat) : Int)))), (75, .c (.val (.int .i64 ((x23 : Nat) : Int)))), (76, .c (.val (.bool (decide (((x23 : Nat) : Int) < ((a0.Pieces.length : Nat) : Int))))))], [], 0⟩ ?_ ?_
         ·skip
          simp only [EVB, eqF, Op.operands, IntKind.bits, descF, sizeF, bytesF, zeroF, seval, reduceCtorEq, ↓reduceIte]
          exact Weak.sub' ⟨rfl, rfl, rfl, rfl, rfl, trivial⟩ trivial (Nat.le_of_ble_eq_true rfl)
         ·skip
          refine go_seq ?_
          refine go_cond (by rfl) (fun h24 => ?_) (fun h24 => ?_)
          ·have gh24 := h24
           try simp only [GN, beq_iff_eq, beq_eq_false_iff_ne, bne_iff_ne, bne_eq_false_iff_eq] at gh24
           simp only [h24, dite_true, dite_false, reduceDIte, Bool.false_eq_true] at hx1
           refine go_skip ?_
           refine go_seq ?_
           refine go_block ?_
           refine go_seq ?_
           refine go_regionJ hR ⟨[(3, .c (.val (.int .i64 x22))), (5, .ptr 0 0), (73, .c (.sl (List.map SPiece.cells a0.Pieces))), (74, .c (.val (.int .i64 ((a0.Pieces.length : Nat) : Int)))), (75, .c (.val (.int .i64 ((x23 : Nat) : Int))))], [(0, .box [.c (.val (.int .i64 ((List.getD a0.Pieces x23 default).Len))), .c (.val (.int .u32 ((List.getD a0.Pieces x23 default).Sum)))] 111)], 1⟩ ?_ ?_
           ·skip
            have bq30 : x23 < a0.Pieces.length := by omega
            have q30 := map_getD SPiece.cells a0.Pieces x23 default bq30
            simp only [q30, EVB, eqF, Op.operands, IntKind.bits, descF, sizeF, bytesF, zeroF, seval, reduceCtorEq, ↓reduceIte, CELLS]
            refine ⟨(by (repeat' apply And.intro) <;> first | trivial | rfl | exact Nat.le_of_ble_eq_true rfl | omega | (intro u hu; obtain ⟨x, _, rfl⟩ := List.mem_map.1 hu; rfl) | (intro u hu; simp only [List.mem_cons, List.not_mem_nil, or_false] at hu; subst hu; rfl) | (simp only [NM]; omega) | (simp; done)), ?_⟩
            exact Weak.sub' ⟨rfl, rfl, rfl, rfl, rfl, trivial⟩ ⟨rfl, trivial⟩ (Nat.le_of_ble_eq_true rfl)
           ·skip
            refine go_seq ?_
            refine go_seq ?_
            refine go_regionJ hR ⟨[(3, .c (.val (.int .i64 x22))), (5, .ptr 0 0), (73, .c (.sl (List.map SPiece.cells a0.Pieces))), (74, .c (.val (.int .i64 ((a0.Pieces.length : Nat) : Int)))), (75, .c (.val (.int .i64 ((x23 : Nat) : Int)))), (86, .c (.val (.bool ((decide ((List.getD a0.Pieces x23 default).Len < 1)) || (decide ((List.getD a0.Pieces x23 default).Len > 4096))))))], [(0, .box [.c (.val (.int .i64 ((List.getD a0.Pieces x23 default).Len))), .c (.val (.int .u32 ((List.getD a0.Pieces x23 default).Sum)))] 111)], 1⟩ ?_ ?_
            ·skip
             rcases Bool.eq_false_or_eq_true (decide ((List.getD a0.Pieces x23 default).Len < 1)) with h25 | h25
             ·simp only [h25, EVB, eqF, Op.operands, IntKind.bits, descF, sizeF, bytesF, zeroF, seval, reduceCtorEq, ↓reduceIte]
              try simp only [h25, BM]
              exact Weak.sub' ⟨rfl, rfl, rfl, rfl, rfl, rfl, trivial⟩ ⟨rfl, trivial⟩ (Nat.le_of_ble_eq_true rfl)
             ·simp only [h25, EVB, eqF, Op.operands, IntKind.bits, descF, sizeF, bytesF, zeroF, seval, reduceCtorEq, ↓reduceIte]
              try simp only [h25, BM]
              exact Weak.sub' ⟨rfl, rfl, rfl, rfl, rfl, rfl, trivial⟩ ⟨rfl, trivial⟩ (Nat.le_of_ble_eq_true rfl)
            ·skip
             refine go_cond (by rfl) (fun h26 => ?_) (fun h26 => ?_)
             ·have gh26 := h26
              try simp only [GN, beq_iff_eq, beq_eq_false_iff_ne, bne_iff_ne, bne_eq_false_iff_eq] at gh26
              simp only [h26, dite_true, dite_false, reduceDIte, Bool.false_eq_true] at hx1
              refine go_seq ?_
              refine go_regionJ hR ⟨[(2, .c (.val (.int .i64 170)))], [], 1⟩ ?_ ?_
              ·skip
               simp only [EVB, eqF, Op.operands, IntKind.bits, descF, sizeF, bytesF, zeroF, seval, reduceCtorEq, ↓reduceIte]
               exact Weak.sub' ⟨rfl, trivial⟩ trivial (Nat.le_of_ble_eq_true rfl)
              ·skip
               subst hx1
               simp only [Sum.elim_inl] at hx0
               subst hx0
               refine go_return ttOk (fun _ h => h) rfl ?_ ?_
               ·exact (by (repeat' apply And.intro) <;> first | trivial | exact Nat.le_of_ble_eq_true rfl | omega | (simp only [NM]; omega))
               ·first | rfl | (simp only [NM, CELLS] <;> rfl)
             ·have gh26 := h26
              try simp only [GN, beq_iff_eq, beq_eq_false_iff_ne, bne_iff_ne, bne_eq_false_iff_eq] at gh26
              simp only [h26, dite_true, dite_false, reduceDIte, Bool.false_eq_true] at hx1
              refine go_skip ?_
              refine go_regionJ hR ⟨[(3, .c (.val (.int .i64 (IntKind.i64.wrap (x22 + (List.getD a0.Pieces x23 default).Len))))), (73, .c (.sl (List.map SPiece.cells a0.Pieces))), (74, .c (.val (.int .i64 ((a0.Pieces.length : Nat) : Int)))), (75, .c (.val (.int .i64 ((x23 : Nat) : Int))))], [], 1⟩ ?_ ?_
              ·skip
               simp only [EVB, eqF, Op.operands, IntKind.bits, descF, sizeF, bytesF, zeroF, seval, reduceCtorEq, ↓reduceIte]
               exact Weak.sub' ⟨rfl, rfl, rfl, rfl, trivial⟩ trivial (Nat.le_of_ble_eq_true rfl)
              ·skip
               refine go_blk ?_
               refine go_regionJ hR ⟨[(3, .c (.val (.int .i64 (IntKind.i64.wrap (x22 + (List.getD a0.Pieces x23 default).Len))))), (73, .c (.sl (List.map SPiece.cells a0.Pieces))), (74, .c (.val (.int .i64 ((a0.Pieces.length : Nat) : Int)))), (75, .c (.val (.int .i64 ((x23 + 1 : Nat) : Int))))], [], 1⟩ ?_ ?_
               ·skip
                have w31 : IntKind.i64.wrap (((x23 : Nat) : Int) + 1) = ((x23 + 1 : Nat) : Int) := by rw [IntKind.wrap_i64]; omega
                simp only [w31, EVB, eqF, Op.operands, IntKind.bits, descF, sizeF, bytesF, zeroF, seval, reduceCtorEq, ↓reduceIte, CELLS]
                exact Weak.sub' ⟨rfl, rfl, rfl, rfl, trivial⟩ trivial (Nat.le_of_ble_eq_true rfl)
               ·skip
                exact go_fin ⟨((IntKind.i64.wrap (x22 + (List.getD a0.Pieces x23 default).Len)), x23 + 1), ⟨(by (try dsimp only); (repeat' apply And.intro) <;> first | trivial | omega | assumption | (simp; done)), hx1⟩, by (try dsimp only); omega, (Weak.canon [] [3, 73, 74, 75] (by decide) rfl trivial rfl (by simp) (by first | rfl | (simp only [NM, CELLS] <;> rfl) | simp [NM, CELLS]) rfl rfl)⟩
          ·have gh24 := h24
           try simp only [GN, beq_iff_eq, beq_eq_false_iff_ne, bne_iff_ne, bne_eq_false_iff_eq] at gh24
           simp only [h24, dite_true, dite_false, reduceDIte, Bool.false_eq_true] at hx1
           refine go_exit rfl ?_
           exact go_fin ⟨x22, hx1.symm, (Weak.canon [] [3] (by decide) rfl trivial rfl (by simp) (by first | rfl | (simp only [NM, CELLS] <;> rfl) | simp [NM, CELLS]) rfl rfl)⟩
        ·rintro o12 hp
         try dsimp only at hp
         subst hp
         simp only [Sum.elim_inr] at hx0
         refine go_seq ?_
         refine go_seq ?_
         refine go_regionJ hR ⟨[(93, .c (.val (.bool (decide (o12 > 131072)))))], [], 0⟩ ?_ ?_
         ·skip
          simp only [EVB, eqF, Op.operands, IntKind.bits, descF, sizeF, bytesF, zeroF, seval, reduceCtorEq, ↓reduceIte]
          exact Weak.sub' ⟨rfl, trivial⟩ trivial (Nat.le_of_ble_eq_true rfl)
         ·skip
          refine go_cond (by rfl) (fun h27 => ?_) (fun h27 => ?_)
          ·have gh27 := h27
           try simp only [GN, beq_iff_eq, beq_eq_false_iff_ne, bne_iff_ne, bne_eq_false_iff_eq] at gh27
           simp only [h27, cond_true, cond_false] at hx0
           refine go_seq ?_
           refine go_regionJ hR ⟨[(2, .c (.val (.int .i64 170)))], [], 0⟩ ?_ ?_
           ·skip
            simp only [EVB, eqF, Op.operands, IntKind.bits, descF, sizeF, bytesF, zeroF, seval, reduceCtorEq, ↓reduceIte]
            exact Weak.sub' ⟨rfl, trivial⟩ trivial (Nat.le_of_ble_eq_true rfl)
           ·skip
            subst hx0
            refine go_return ttOk (fun _ h => h) rfl ?_ ?_
            ·exact (by (repeat' apply And.intro) <;> first | trivial | exact Nat.le_of_ble_eq_true rfl | omega | (simp only [NM]; omega))
            ·first | rfl | (simp only [NM, CELLS] <;> rfl)
          ·have gh27 := h27
           try simp only [GN, beq_iff_eq, beq_eq_false_iff_ne, bne_iff_ne, bne_eq_false_iff_eq] at gh27
           simp only [h27, cond_true, cond_false] at hx0
           refine go_skip ?_
           refine go_seq ?_
           refine go_regionJ hR ⟨[(2, .c (.val (.int .i64 0)))], [], 0⟩ ?_ ?_
           ·skip
            simp only [EVB, eqF, Op.operands, IntKind.bits, descF, sizeF, bytesF, zeroF, seval, reduceCtorEq, ↓reduceIte]
            exact Weak.sub' ⟨rfl, trivial⟩ trivial (Nat.le_of_ble_eq_true rfl)
           ·skip
            subst hx0
            refine go_return ttOk (fun _ h => h) rfl ?_ ?_
            ·exact (by (repeat' apply And.intro) <;> first | trivial | exact Nat.le_of_ble_eq_true rfl | omega | (simp only [NM]; omega))
            ·first | rfl | (simp only [NM, CELLS] <;> rfl)

def manifest_Key (a0 : SManifest) : STxnKey :=
  (STxnKey.mk a0.Epoch a0.Id)
set_option maxRecDepth 10000 in
set_option maxHeartbeats 8000000 in
theorem manifest_Key_t (a0 : SManifest) : FnP Try.prog 57 [.agg [.c (.val (.int .i64 a0.Epoch)), .c (.val (.int .i64 a0.Id)), .c (.sl (List.map cI64 a0.Vector)), .c (.val (.int .i64 a0.Out)), .c (.val (.int .i64 a0.Begin)), .c (.sl (List.map SRecord.cells a0.Records)), .c (.sl (List.map SPiece.cells a0.Pieces)), .c (.val (.int .u32 a0.Graph))]] (.agg [.c (.val (.int .i64 ((manifest_Key a0).Epoch))), .c (.val (.int .i64 ((manifest_Key a0).Id)))]) := by
 refine FnP.intro (tt := tt) Try.func57 rfl (by kernel_rfl) (by simp [Try.ntmps57]) fun w0 A hA => ?_
 have hR := reckB_ok eqOk ttOk
 obtain ⟨res, hx0⟩ : ∃ r, manifest_Key a0 = r := ⟨_, rfl⟩
 simp only [hx0]
 unfold manifest_Key at hx0
 simp only [argT, Try.ntmps57]
 refine go_seq ?_
 refine go_regionJ hR ⟨[(1, .ptr 0 0), (2, .ptr 1 0)], [(0, .box [.c (.val (.int .i64 a0.Epoch)), .c (.val (.int .i64 a0.Id)), .c (.sl (List.map cI64 a0.Vector)), .c (.val (.int .i64 a0.Out)), .c (.val (.int .i64 a0.Begin)), .c (.sl (List.map SRecord.cells a0.Records)), .c (.sl (List.map SPiece.cells a0.Pieces)), .c (.val (.int .u32 a0.Graph))] 41), (1, .box [.c (.val (.int .i64 0)), .c (.val (.int .i64 0))] 43)], 2⟩ ?_ ?_
 ·skip
  simp only [EVB, eqF, Op.operands, IntKind.bits, descF, sizeF, bytesF, zeroF, seval, reduceCtorEq, ↓reduceIte]
  exact Weak.sub' ⟨rfl, rfl, trivial⟩ ⟨rfl, rfl, trivial⟩ (Nat.le_of_ble_eq_true rfl)
 ·skip
  refine go_seq ?_
  refine go_regionJ hR ⟨[(2, .ptr 1 0)], [(1, .box [.c (.val (.int .i64 a0.Epoch)), .c (.val (.int .i64 a0.Id))] 43)], 2⟩ ?_ ?_
  ·skip
   simp only [EVB, eqF, Op.operands, IntKind.bits, descF, sizeF, bytesF, zeroF, seval, reduceCtorEq, ↓reduceIte]
   exact Weak.sub' ⟨rfl, trivial⟩ ⟨rfl, trivial⟩ (Nat.le_of_ble_eq_true rfl)
  ·skip
   subst hx0
   refine go_return ttOk (fun _ h => h) rfl ?_ ?_
   ·exact (by (repeat' apply And.intro) <;> first | trivial | exact Nat.le_of_ble_eq_true rfl | omega | (simp only [NM]; omega))
   ·first | rfl | (simp only [NM, CELLS] <;> rfl)

def manifest_Less (a0 : STxnKey) (a1 : STxnKey) : Bool :=
  (bif (a0.Epoch != a1.Epoch) then (decide (a0.Epoch < a1.Epoch)) else (decide (a0.Id < a1.Id)))
set_option maxRecDepth 10000 in
set_option maxHeartbeats 8000000 in
theorem manifest_Less_t (a0 : STxnKey) (a1 : STxnKey) : FnP Try.prog 66 [.agg [.c (.val (.int .i64 a0.Epoch)), .c (.val (.int .i64 a0.Id))], .agg [.c (.val (.int .i64 a1.Epoch)), .c (.val (.int .i64 a1.Id))]] (.c (.val (.bool (manifest_Less a0 a1)))) := by
 refine FnP.intro (tt := tt) Try.func66 rfl (by kernel_rfl) (by simp [Try.ntmps66]) fun w0 A hA => ?_
 have hR := reckB_ok eqOk ttOk
 obtain ⟨res, hx0⟩ : ∃ r, manifest_Less a0 a1 = r := ⟨_, rfl⟩
 simp only [hx0]
 unfold manifest_Less at hx0
 simp only [argT, Try.ntmps66]
 refine go_seq ?_
 refine go_regionJ hR ⟨[(2, .ptr 0 0), (3, .ptr 1 0)], [(0, .box [.c (.val (.int .i64 a0.Epoch)), .c (.val (.int .i64 a0.Id))] 43), (1, .box [.c (.val (.int .i64 a1.Epoch)), .c (.val (.int .i64 a1.Id))] 43)], 2⟩ ?_ ?_
 ·skip
  simp only [EVB, eqF, Op.operands, IntKind.bits, descF, sizeF, bytesF, zeroF, seval, reduceCtorEq, ↓reduceIte]
  exact Weak.sub' ⟨rfl, rfl, trivial⟩ ⟨rfl, rfl, trivial⟩ (Nat.le_of_ble_eq_true rfl)
 ·skip
  refine go_seq ?_
  refine go_seq ?_
  refine go_regionJ hR ⟨[(2, .ptr 0 0), (3, .ptr 1 0), (9, .c (.val (.bool (a0.Epoch != a1.Epoch))))], [(0, .box [.c (.val (.int .i64 a0.Epoch)), .c (.val (.int .i64 a0.Id))] 43), (1, .box [.c (.val (.int .i64 a1.Epoch)), .c (.val (.int .i64 a1.Id))] 43)], 2⟩ ?_ ?_
  ·skip
   simp only [EVB, eqF, Op.operands, IntKind.bits, descF, sizeF, bytesF, zeroF, seval, reduceCtorEq, ↓reduceIte]
   exact Weak.sub' ⟨rfl, rfl, rfl, trivial⟩ ⟨rfl, rfl, trivial⟩ (Nat.le_of_ble_eq_true rfl)
  ·skip
   refine go_cond (by rfl) (fun h1 => ?_) (fun h1 => ?_)
   ·have gh1 := h1
    try simp only [GN, beq_iff_eq, beq_eq_false_iff_ne, bne_iff_ne, bne_eq_false_iff_eq] at gh1
    simp only [h1, cond_true, cond_false] at hx0
    refine go_seq ?_
    refine go_regionJ hR ⟨[(4, .c (.val (.bool (decide (a0.Epoch < a1.Epoch)))))], [], 2⟩ ?_ ?_
    ·skip
     simp only [EVB, eqF, Op.operands, IntKind.bits, descF, sizeF, bytesF, zeroF, seval, reduceCtorEq, ↓reduceIte]
     exact Weak.sub' ⟨rfl, trivial⟩ trivial (Nat.le_of_ble_eq_true rfl)
    ·skip
     subst hx0
     refine go_return ttOk (fun _ h => h) rfl ?_ ?_
     ·exact (by (repeat' apply And.intro) <;> first | trivial | exact Nat.le_of_ble_eq_true rfl | omega | (simp only [NM]; omega))
     ·first | rfl | (simp only [NM, CELLS] <;> rfl)
   ·have gh1 := h1
    try simp only [GN, beq_iff_eq, beq_eq_false_iff_ne, bne_iff_ne, bne_eq_false_iff_eq] at gh1
    simp only [h1, cond_true, cond_false] at hx0
    refine go_skip ?_
    refine go_seq ?_
    refine go_regionJ hR ⟨[(4, .c (.val (.bool (decide (a0.Id < a1.Id)))))], [], 2⟩ ?_ ?_
    ·skip
     simp only [EVB, eqF, Op.operands, IntKind.bits, descF, sizeF, bytesF, zeroF, seval, reduceCtorEq, ↓reduceIte]
     exact Weak.sub' ⟨rfl, trivial⟩ trivial (Nat.le_of_ble_eq_true rfl)
    ·skip
     subst hx0
     refine go_return ttOk (fun _ h => h) rfl ?_ ?_
     ·exact (by (repeat' apply And.intro) <;> first | trivial | exact Nat.le_of_ble_eq_true rfl | omega | (simp only [NM]; omega))
     ·first | rfl | (simp only [NM, CELLS] <;> rfl)

def manifest_Txn (a0 : SManifest) (a1 : Int) : STxn :=
  letIn (slices_Clone_Record a0.Records) fun r1 => letIn (slices_Clone_int64 a0.Vector) fun r2 => (STxn.mk a1 a0.Id a0.Begin r1 r2)
set_option maxRecDepth 10000 in
set_option maxHeartbeats 8000000 in
theorem manifest_Txn_t (a0 : SManifest) (a1 : Int) (z0 : SManifest.Sz a0) : FnP Try.prog 60 [.agg [.c (.val (.int .i64 a0.Epoch)), .c (.val (.int .i64 a0.Id)), .c (.sl (List.map cI64 a0.Vector)), .c (.val (.int .i64 a0.Out)), .c (.val (.int .i64 a0.Begin)), .c (.sl (List.map SRecord.cells a0.Records)), .c (.sl (List.map SPiece.cells a0.Pieces)), .c (.val (.int .u32 a0.Graph))], .c (.val (.int .i64 a1))] (.agg [.c (.val (.int .i64 ((manifest_Txn a0 a1).Epoch))), .c (.val (.int .i64 ((manifest_Txn a0 a1).Id))), .c (.val (.int .i64 ((manifest_Txn a0 a1).Begin))), .c (.sl (List.map SRecord.cells ((manifest_Txn a0 a1).Records))), .c (.sl (List.map cI64 ((manifest_Txn a0 a1).Vector)))]) := by
 refine FnP.intro (tt := tt) Try.func60 rfl (by kernel_rfl) (by simp [Try.ntmps60]) fun w0 A hA => ?_
 have hR := reckB_ok eqOk ttOk
 obtain ⟨res, hx0⟩ : ∃ r, manifest_Txn a0 a1 = r := ⟨_, rfl⟩
 simp only [hx0]
 unfold manifest_Txn at hx0
 simp only [argT, Try.ntmps60]
 try simp only [SZD] at z0
 obtain ⟨zz3, zz4, zz5⟩ := z0
 refine go_seq ?_
 refine go_regionJ hR ⟨[(1, .c (.val (.int .i64 a1))), (2, .ptr 0 0), (4, .ptr 1 0)], [(0, .box [.c (.val (.int .i64 a0.Epoch)), .c (.val (.int .i64 a0.Id)), .c (.sl (List.map cI64 a0.Vector)), .c (.val (.int .i64 a0.Out)), .c (.val (.int .i64 a0.Begin)), .c (.sl (List.map SRecord.cells a0.Records)), .c (.sl (List.map SPiece.cells a0.Pieces)), .c (.val (.int .u32 a0.Graph))] 41), (1, .box [.c (.val (.int .i64 0)), .c (.val (.int .i64 0)), .c (.val (.int .i64 0)), .c (.val (.slice none 0 0)), .c (.val (.slice none 0 0))] 28)], 2⟩ ?_ ?_
 ·skip
  simp only [EVB, eqF, Op.operands, IntKind.bits, descF, sizeF, bytesF, zeroF, seval, reduceCtorEq, ↓reduceIte]
  exact Weak.sub' ⟨rfl, rfl, rfl, trivial⟩ ⟨rfl, rfl, trivial⟩ (Nat.le_of_ble_eq_true rfl)
 ·skip
  refine go_seq ?_
  obtain ⟨r1, hr1, hx0⟩ := letIn_ex hx0
  have Cr1 := (slices_Clone_Record_t a0.Records (by (try simp only [SZD]); (repeat' apply And.intro) <;> first | assumption | omega | simp_all))
  simp only [hr1] at Cr1
  have zr1 := slices_Clone_Record_sz a0.Records (by (try simp only [SZD]); (repeat' apply And.intro) <;> first | assumption | omega | simp_all)
  simp only [hr1, SZD] at zr1
  obtain ⟨r2, hr2, hx0⟩ := letIn_ex hx0
  have Cr2 := (slices_Clone_int64_t a0.Vector (by (try simp only [SZD]); (repeat' apply And.intro) <;> first | assumption | omega | simp_all))
  simp only [hr2] at Cr2
  have zr2 := slices_Clone_int64_sz a0.Vector (by (try simp only [SZD]); (repeat' apply And.intro) <;> first | assumption | omega | simp_all)
  simp only [hr2, SZD] at zr2
  refine go_drawJ hR rfl ⟨[(4, .ptr 1 0)], [(1, .box [.c (.val (.int .i64 a1)), .c (.val (.int .i64 a0.Id)), .c (.val (.int .i64 a0.Begin)), .c (.sl (List.map SRecord.cells r1)), .c (.sl (List.map cI64 r2))] 28)], 2⟩ ?_ ?_
  ·skip
   simp only [EVB, eqF, Op.operands, IntKind.bits, descF, sizeF, bytesF, zeroF, seval, reduceCtorEq, ↓reduceIte]
   refine CallD.fresh Cr1.toO rfl (by first | rfl | (simp only [NM]; done)) (by (repeat' apply And.intro) <;> first | trivial | rfl | omega | (simp only [NM]; omega)) (.inl rfl) ?_
   try simp only [EVB, eqF, Op.operands, IntKind.bits, descF, sizeF, bytesF, zeroF, seval, reduceCtorEq, ↓reduceIte]
   refine CallD.fresh Cr2.toO rfl (by first | rfl | (simp only [NM]; done)) (by (repeat' apply And.intro) <;> first | trivial | rfl | omega | (simp only [NM]; omega)) (.inl rfl) ?_
   try simp only [EVB, eqF, Op.operands, IntKind.bits, descF, sizeF, bytesF, zeroF, seval, reduceCtorEq, ↓reduceIte]
   refine ⟨by kernel_rfl, ?_⟩
   exact Weak.sub' ⟨rfl, trivial⟩ ⟨rfl, trivial⟩ (Nat.le_of_ble_eq_true rfl)
  ·skip
   subst hx0
   refine go_return ttOk (fun _ h => h) rfl ?_ ?_
   ·exact (by (repeat' apply And.intro) <;> first | trivial | exact Nat.le_of_ble_eq_true rfl | omega | (simp only [NM]; omega))
   ·first | rfl | (simp only [NM, CELLS] <;> rfl)
theorem manifest_Txn_sz (a0 : SManifest) (a1 : Int) (z0 : SManifest.Sz a0) : STxn.Sz (manifest_Txn a0 a1) := by
 obtain ⟨res, hx0⟩ : ∃ r, manifest_Txn a0 a1 = r := ⟨_, rfl⟩
 simp only [hx0]
 unfold manifest_Txn at hx0
 try simp only [SZD] at z0
 obtain ⟨zz8, zz9, zz10⟩ := z0
 obtain ⟨r1, hr1, hx0⟩ := letIn_ex hx0
 have zr1 := slices_Clone_Record_sz a0.Records (by (try simp only [SZD]); (repeat' apply And.intro) <;> first | assumption | omega | simp_all)
 simp only [hr1, SZD] at zr1
 obtain ⟨r2, hr2, hx0⟩ := letIn_ex hx0
 have zr2 := slices_Clone_int64_sz a0.Vector (by (try simp only [SZD]); (repeat' apply And.intro) <;> first | assumption | omega | simp_all)
 simp only [hr2, SZD] at zr2
 subst hx0
 exact (by (try simp only [SZD]); (repeat' apply And.intro) <;> first | assumption | omega | simp_all)

def sink_Above_L0 (a0 : (List Int)) (a1 : (List Int)) (x6 : Nat) : Sum Bool Unit :=
  (if h7 : (decide (((x6 : Nat) : Int) < ((a0.length : Nat) : Int))) = true then (if h8 : (decide ((List.getD a0 x6 default) < (List.getD a1 x6 default))) = true then (Sum.inl false) else (sink_Above_L0 a0 a1 (x6 + 1))) else (Sum.inr ()))
termination_by a0.length - x6
decreasing_by all_goals (try simp only [GN, beq_iff_eq, beq_eq_false_iff_ne, bne_iff_ne, bne_eq_false_iff_eq] at *) <;> omega
def sink_Above (a0 : (List Int)) (a1 : (List Int)) : Bool :=
  (bif (((a0.length : Nat) : Int) != ((a1.length : Nat) : Int)) then false else letIn (sink_Above_L0 a0 a1 0) fun o2s => Sum.elim (fun q => q) (fun o2 => true) o2s)
set_option maxRecDepth 10000 in
set_option maxHeartbeats 8000000 in
theorem sink_Above_t (a0 : (List Int)) (a1 : (List Int)) : FnP Try.prog 58 [.c (.sl (List.map cI64 a0)), .c (.sl (List.map cI64 a1))] (.c (.val (.bool (sink_Above a0 a1)))) := by
 refine FnP.intro (tt := tt) Try.func58 rfl (by kernel_rfl) (by simp [Try.ntmps58]) fun w0 A hA => ?_
 have hR := reckB_ok eqOk ttOk
 obtain ⟨res, hx0⟩ : ∃ r, sink_Above a0 a1 = r := ⟨_, rfl⟩
 simp only [hx0]
 unfold sink_Above at hx0
 simp only [argT, Try.ntmps58]
 refine go_seq ?_
 refine go_regionJ hR ⟨[(0, .c (.sl (List.map cI64 a0))), (1, .c (.sl (List.map cI64 a1)))], [], 0⟩ ?_ ?_
 ·skip
  simp only [EVB, eqF, Op.operands, IntKind.bits, descF, sizeF, bytesF, zeroF, seval, reduceCtorEq, ↓reduceIte]
  exact Weak.sub' ⟨rfl, rfl, trivial⟩ trivial (Nat.le_of_ble_eq_true rfl)
 ·skip
  refine go_seq ?_
  refine go_seq ?_
  refine go_regionJ hR ⟨[(0, .c (.sl (List.map cI64 a0))), (1, .c (.sl (List.map cI64 a1))), (10, .c (.val (.bool (((a0.length : Nat) : Int) != ((a1.length : Nat) : Int)))))], [], 0⟩ ?_ ?_
  ·skip
   simp only [EVB, eqF, Op.operands, IntKind.bits, descF, sizeF, bytesF, zeroF, seval, reduceCtorEq, ↓reduceIte]
   exact Weak.sub' ⟨rfl, rfl, rfl, trivial⟩ trivial (Nat.le_of_ble_eq_true rfl)
  ·skip
   refine go_cond (by rfl) (fun h1 => ?_) (fun h1 => ?_)
   ·have gh1 := h1
    try simp only [GN, beq_iff_eq, beq_eq_false_iff_ne, bne_iff_ne, bne_eq_false_iff_eq] at gh1
    simp only [h1, cond_true, cond_false] at hx0
    refine go_seq ?_
    refine go_regionJ hR ⟨[(4, .c (.val (.bool false)))], [], 0⟩ ?_ ?_
    ·skip
     simp only [EVB, eqF, Op.operands, IntKind.bits, descF, sizeF, bytesF, zeroF, seval, reduceCtorEq, ↓reduceIte]
     exact Weak.sub' ⟨rfl, trivial⟩ trivial (Nat.le_of_ble_eq_true rfl)
    ·skip
     subst hx0
     refine go_return ttOk (fun _ h => h) rfl ?_ ?_
     ·exact (by (repeat' apply And.intro) <;> first | trivial | exact Nat.le_of_ble_eq_true rfl | omega | (simp only [NM]; omega))
     ·first | rfl | (simp only [NM, CELLS] <;> rfl)
   ·have gh1 := h1
    try simp only [GN, beq_iff_eq, beq_eq_false_iff_ne, bne_iff_ne, bne_eq_false_iff_eq] at gh1
    simp only [h1, cond_true, cond_false] at hx0
    refine go_skip ?_
    refine go_seq ?_
    refine go_seq ?_
    refine go_regionJ hR ⟨[(0, .c (.sl (List.map cI64 a0))), (1, .c (.sl (List.map cI64 a1))), (12, .c (.val (.int .i64 ((a0.length : Nat) : Int)))), (13, .c (.val (.int .i64 0)))], [], 0⟩ ?_ ?_
    ·skip
     simp only [EVB, eqF, Op.operands, IntKind.bits, descF, sizeF, bytesF, zeroF, seval, reduceCtorEq, ↓reduceIte]
     exact Weak.sub' ⟨rfl, rfl, rfl, rfl, trivial⟩ trivial (Nat.le_of_ble_eq_true rfl)
    ·skip
     obtain ⟨o2s, hx1, hx0⟩ := letIn_ex hx0
     refine go_joinE (fun p : Unit => ⟨[], [], 0⟩) (fun p : Unit => o2s = Sum.inr p) ?_ ?_
     ·refine go_block ?_
      refine go_len (t := 0) rfl (fun hl9 => ?_)
      simp only [List.length_map, maxLen_eq] at hl9
      refine go_len (t := 1) rfl (fun hl10 => ?_)
      simp only [List.length_map, maxLen_eq] at hl10
      refine go_loop (fun p : Nat => ⟨[(0, .c (.sl (List.map cI64 a0))), (1, .c (.sl (List.map cI64 a1))), (12, .c (.val (.int .i64 ((a0.length : Nat) : Int)))), (13, .c (.val (.int .i64 ((p : Nat) : Int))))], [], 0⟩) (fun p : Nat => (p ≤ a0.length) ∧ sink_Above_L0 a0 a1 p = o2s) (fun p : Nat => a0.length - p) 0 ⟨(by (try dsimp only); (repeat' apply And.intro) <;> first | trivial | omega | assumption | (simp; done)), hx1⟩ (Weak.canon [] [0, 1, 12, 13] (by decide) rfl trivial rfl (by simp) (by first | rfl | (simp only [NM, CELLS] <;> rfl) | simp [NM, CELLS]) rfl rfl) ?_
      rintro x6 ⟨hi11, hx1⟩
      try dsimp only at hi11 hx1 ⊢
      rw [sink_Above_L0.eq_def] at hx1
      refine go_seq ?_
      refine go_regionJ hR ⟨[(0, .c (.sl (List.map cI64 a0))), (1, .c (.sl (List.map cI64 a1))), (12, .c (.val (.int .i64 ((a0.length : Nat) : Int)))), (13, .c (.val (.int .i64 ((x6 : Nat) : Int)))), (14, .c (.val (.bool (decide (((x6 : Nat) : Int) < ((a0.length : Nat) : Int))))))], [], 0⟩ ?_ ?_
      ·skip
       simp only [EVB, eqF, Op.operands, IntKind.bits, descF, sizeF, bytesF, zeroF, seval, reduceCtorEq, ↓reduceIte]
       exact Weak.sub' ⟨rfl, rfl, rfl, rfl, rfl, trivial⟩ trivial (Nat.le_of_ble_eq_true rfl)
      ·skip
       refine go_seq ?_
       refine go_cond (by rfl) (fun h7 => ?_) (fun h7 => ?_)
       ·have gh7 := h7
        try simp only [GN, beq_iff_eq, beq_eq_false_iff_ne, bne_iff_ne, bne_eq_false_iff_eq] at gh7
        simp only [h7, dite_true, dite_false, reduceDIte, Bool.false_eq_true] at hx1
        refine go_skip ?_
        refine go_seq ?_
        refine go_block ?_
        refine go_seq ?_
        refine go_regionJ hR ⟨[(0, .c (.sl (List.map cI64 a0))), (1, .c (.sl (List.map cI64 a1))), (5, .c (.val (.int .i64 ((x6 : Nat) : Int)))), (12, .c (.val (.int .i64 ((a0.length : Nat) : Int)))), (13, .c (.val (.int .i64 ((x6 : Nat) : Int))))], [], 0⟩ ?_ ?_
        ·skip
         simp only [EVB, eqF, Op.operands, IntKind.bits, descF, sizeF, bytesF, zeroF, seval, reduceCtorEq, ↓reduceIte]
         exact Weak.sub' ⟨rfl, rfl, rfl, rfl, rfl, trivial⟩ trivial (Nat.le_of_ble_eq_true rfl)
        ·skip
         refine go_seq ?_
         refine go_drawJ hR rfl ⟨[(0, .c (.sl (List.map cI64 a0))), (1, .c (.sl (List.map cI64 a1))), (12, .c (.val (.int .i64 ((a0.length : Nat) : Int)))), (13, .c (.val (.int .i64 ((x6 : Nat) : Int)))), (24, .c (.val (.bool (decide ((List.getD a0 x6 default) < (List.getD a1 x6 default))))))], [], 0⟩ ?_ ?_
         ·skip
          have bq12 : x6 < a0.length := by omega
          have q12 := map_getD cI64 a0 x6 default bq12
          have bq13 : x6 < a1.length := by omega
          have q13 := map_getD cI64 a1 x6 default bq13
          simp only [q12, q13, EVB, eqF, Op.operands, IntKind.bits, descF, sizeF, bytesF, zeroF, seval, reduceCtorEq, ↓reduceIte, CELLS]
          refine ⟨(by (repeat' apply And.intro) <;> first | trivial | rfl | exact Nat.le_of_ble_eq_true rfl | omega | (intro u hu; obtain ⟨x, _, rfl⟩ := List.mem_map.1 hu; rfl) | (intro u hu; simp only [List.mem_cons, List.not_mem_nil, or_false] at hu; subst hu; rfl) | (simp only [NM]; omega) | (simp; done)), ?_⟩
          refine ⟨(by (repeat' apply And.intro) <;> first | trivial | rfl | exact Nat.le_of_ble_eq_true rfl | omega | (intro u hu; obtain ⟨x, _, rfl⟩ := List.mem_map.1 hu; rfl) | (intro u hu; simp only [List.mem_cons, List.not_mem_nil, or_false] at hu; subst hu; rfl) | (simp only [NM]; omega) | (simp; done)), ?_⟩
          refine ⟨by kernel_rfl, ?_⟩
          exact Weak.sub' ⟨rfl, rfl, rfl, rfl, rfl, trivial⟩ trivial (Nat.le_of_ble_eq_true rfl)
         ·skip
          refine go_cond (by rfl) (fun h8 => ?_) (fun h8 => ?_)
          ·have gh8 := h8
           try simp only [GN, beq_iff_eq, beq_eq_false_iff_ne, bne_iff_ne, bne_eq_false_iff_eq] at gh8
           simp only [h8, dite_true, dite_false, reduceDIte, Bool.false_eq_true] at hx1
           refine go_seq ?_
           refine go_regionJ hR ⟨[(4, .c (.val (.bool false)))], [], 0⟩ ?_ ?_
           ·skip
            simp only [EVB, eqF, Op.operands, IntKind.bits, descF, sizeF, bytesF, zeroF, seval, reduceCtorEq, ↓reduceIte]
            exact Weak.sub' ⟨rfl, trivial⟩ trivial (Nat.le_of_ble_eq_true rfl)
           ·skip
            subst hx1
            simp only [Sum.elim_inl] at hx0
            subst hx0
            refine go_return ttOk (fun _ h => h) rfl ?_ ?_
            ·exact (by (repeat' apply And.intro) <;> first | trivial | exact Nat.le_of_ble_eq_true rfl | omega | (simp only [NM]; omega))
            ·first | rfl | (simp only [NM, CELLS] <;> rfl)
          ·have gh8 := h8
           try simp only [GN, beq_iff_eq, beq_eq_false_iff_ne, bne_iff_ne, bne_eq_false_iff_eq] at gh8
           simp only [h8, dite_true, dite_false, reduceDIte, Bool.false_eq_true] at hx1
           refine go_skip ?_
           refine go_blk ?_
           refine go_regionJ hR ⟨[(0, .c (.sl (List.map cI64 a0))), (1, .c (.sl (List.map cI64 a1))), (12, .c (.val (.int .i64 ((a0.length : Nat) : Int)))), (13, .c (.val (.int .i64 ((x6 + 1 : Nat) : Int))))], [], 0⟩ ?_ ?_
           ·skip
            have w14 : IntKind.i64.wrap (((x6 : Nat) : Int) + 1) = ((x6 + 1 : Nat) : Int) := by rw [IntKind.wrap_i64]; omega
            simp only [w14, EVB, eqF, Op.operands, IntKind.bits, descF, sizeF, bytesF, zeroF, seval, reduceCtorEq, ↓reduceIte, CELLS]
            exact Weak.sub' ⟨rfl, rfl, rfl, rfl, trivial⟩ trivial (Nat.le_of_ble_eq_true rfl)
           ·skip
            exact go_fin ⟨x6 + 1, ⟨(by (try dsimp only); (repeat' apply And.intro) <;> first | trivial | omega | assumption | (simp; done)), hx1⟩, by (try dsimp only); omega, (Weak.canon [] [0, 1, 12, 13] (by decide) rfl trivial rfl (by simp) (by first | rfl | (simp only [NM, CELLS] <;> rfl) | simp [NM, CELLS]) rfl rfl)⟩
       ·have gh7 := h7
        try simp only [GN, beq_iff_eq, beq_eq_false_iff_ne, bne_iff_ne, bne_eq_false_iff_eq] at gh7
        simp only [h7, dite_true, dite_false, reduceDIte, Bool.false_eq_true] at hx1
        refine go_exit rfl ?_
        exact go_fin ⟨(), hx1.symm, (Weak.canon [] [] (by decide) rfl trivial rfl (by simp) (by first | rfl | (simp only [NM, CELLS] <;> rfl) | simp [NM, CELLS]) rfl rfl)⟩
     ·rintro o2 hp
      try dsimp only at hp
      subst hp
      simp only [Sum.elim_inr] at hx0
      refine go_seq ?_
      refine go_regionJ hR ⟨[(4, .c (.val (.bool true)))], [], 0⟩ ?_ ?_
      ·skip
       simp only [EVB, eqF, Op.operands, IntKind.bits, descF, sizeF, bytesF, zeroF, seval, reduceCtorEq, ↓reduceIte]
       exact Weak.sub' ⟨rfl, trivial⟩ trivial (Nat.le_of_ble_eq_true rfl)
      ·skip
       subst hx0
       refine go_return ttOk (fun _ h => h) rfl ?_ ?_
       ·exact (by (repeat' apply And.intro) <;> first | trivial | exact Nat.le_of_ble_eq_true rfl | omega | (simp only [NM]; omega))
       ·first | rfl | (simp only [NM, CELLS] <;> rfl)

def coord_Published (a0 : SCoord) (a1 : SManifest) : SCoord × SDo :=
  letIn (coord_clone a0) fun r1 => (bif (((!(coord_in r1 1)) || ((manifest_Check a1) != 0)) || (!(decide ([(manifest_Key a1).Epoch, (manifest_Key a1).Id] = [(coord_key r1).Epoch, (coord_key r1).Id])))) then (r1, (SDo.mk 0 0 0 (STxn.mk 0 0 0 [] []))) else (bif ((sink_Above a1.Vector r1.Vector) && (decide (a1.Out ≥ r1.Len))) then letIn (manifest_Txn a1 r1.Epoch) fun r7 => letIn (coord_pre r1 r7) fun r8 => (r8.1, r8.2) else letIn (coord_left r1) fun r9 => (r9, (SDo.mk 5 r1.Id 0 (STxn.mk 0 0 0 [] [])))))
set_option maxRecDepth 10000 in
set_option maxHeartbeats 8000000 in
theorem coord_Published_t (a0 : SCoord) (a1 : SManifest) (z0 : SCoord.Sz a0) (z1 : SManifest.Sz a1) : FnP Try.prog 30 [.agg [.c (.val (.int .i64 a0.Phase)), .c (.val (.int .i64 a0.Epoch)), .c (.val (.int .i64 a0.Id)), .c (.val (.int .i64 a0.Len)), .c (.sl (List.map cI64 a0.Vector)), .c (.val (.int .i64 a0.Txn.Epoch)), .c (.val (.int .i64 a0.Txn.Id)), .c (.val (.int .i64 a0.Txn.Begin)), .c (.sl (List.map SRecord.cells a0.Txn.Records)), .c (.sl (List.map cI64 a0.Txn.Vector)), .c (.val (.int .i64 a0.Done)), .c (.val (.int .i64 a0.Left))], .agg [.c (.val (.int .i64 a1.Epoch)), .c (.val (.int .i64 a1.Id)), .c (.sl (List.map cI64 a1.Vector)), .c (.val (.int .i64 a1.Out)), .c (.val (.int .i64 a1.Begin)), .c (.sl (List.map SRecord.cells a1.Records)), .c (.sl (List.map SPiece.cells a1.Pieces)), .c (.val (.int .u32 a1.Graph))]] (.tup [.agg [.c (.val (.int .i64 (((coord_Published a0 a1).1).Phase))), .c (.val (.int .i64 (((coord_Published a0 a1).1).Epoch))), .c (.val (.int .i64 (((coord_Published a0 a1).1).Id))), .c (.val (.int .i64 (((coord_Published a0 a1).1).Len))), .c (.sl (List.map cI64 (((coord_Published a0 a1).1).Vector))), .c (.val (.int .i64 ((((coord_Published a0 a1).1).Txn).Epoch))), .c (.val (.int .i64 ((((coord_Published a0 a1).1).Txn).Id))), .c (.val (.int .i64 ((((coord_Published a0 a1).1).Txn).Begin))), .c (.sl (List.map SRecord.cells ((((coord_Published a0 a1).1).Txn).Records))), .c (.sl (List.map cI64 ((((coord_Published a0 a1).1).Txn).Vector))), .c (.val (.int .i64 (((coord_Published a0 a1).1).Done))), .c (.val (.int .i64 (((coord_Published a0 a1).1).Left)))], .agg [.c (.val (.int .i64 (((coord_Published a0 a1).2).Kind))), .c (.val (.int .i64 (((coord_Published a0 a1).2).Id))), .c (.val (.int .i64 (((coord_Published a0 a1).2).Begin))), .c (.val (.int .i64 ((((coord_Published a0 a1).2).Txn).Epoch))), .c (.val (.int .i64 ((((coord_Published a0 a1).2).Txn).Id))), .c (.val (.int .i64 ((((coord_Published a0 a1).2).Txn).Begin))), .c (.sl (List.map SRecord.cells ((((coord_Published a0 a1).2).Txn).Records))), .c (.sl (List.map cI64 ((((coord_Published a0 a1).2).Txn).Vector)))]]) := by
 refine FnP.intro (tt := tt) Try.func30 rfl (by kernel_rfl) (by simp [Try.ntmps30]) fun w0 A hA => ?_
 have hR := reckB_ok eqOk ttOk
 obtain ⟨res, hx0⟩ : ∃ r, coord_Published a0 a1 = r := ⟨_, rfl⟩
 simp only [hx0]
 unfold coord_Published at hx0
 simp only [argT, Try.ntmps30]
 try simp only [SZD] at z0 z1
 obtain ⟨zz10, ⟨zz11, zz12⟩⟩ := z0
 obtain ⟨zz13, zz14, zz15⟩ := z1
 refine go_seq ?_
 refine go_regionJ hR ⟨[(2, .ptr 0 0), (3, .ptr 1 0), (4, .ptr 2 0), (5, .ptr 3 0)], [(0, .box [.c (.val (.int .i64 a0.Phase)), .c (.val (.int .i64 a0.Epoch)), .c (.val (.int .i64 a0.Id)), .c (.val (.int .i64 a0.Len)), .c (.sl (List.map cI64 a0.Vector)), .c (.val (.int .i64 a0.Txn.Epoch)), .c (.val (.int .i64 a0.Txn.Id)), .c (.val (.int .i64 a0.Txn.Begin)), .c (.sl (List.map SRecord.cells a0.Txn.Records)), .c (.sl (List.map cI64 a0.Txn.Vector)), .c (.val (.int .i64 a0.Done)), .c (.val (.int .i64 a0.Left))] 30), (1, .box [.c (.val (.int .i64 a1.Epoch)), .c (.val (.int .i64 a1.Id)), .c (.sl (List.map cI64 a1.Vector)), .c (.val (.int .i64 a1.Out)), .c (.val (.int .i64 a1.Begin)), .c (.sl (List.map SRecord.cells a1.Records)), .c (.sl (List.map SPiece.cells a1.Pieces)), .c (.val (.int .u32 a1.Graph))] 41), (2, .box [.c (.val (.int .i64 0)), .c (.val (.int .i64 0)), .c (.val (.int .i64 0)), .c (.val (.int .i64 0)), .c (.val (.slice none 0 0)), .c (.val (.int .i64 0)), .c (.val (.int .i64 0)), .c (.val (.int .i64 0)), .c (.val (.slice none 0 0)), .c (.val (.slice none 0 0)), .c (.val (.int .i64 0)), .c (.val (.int .i64 0))] 30), (3, .box [.c (.val (.int .i64 0)), .c (.val (.int .i64 0)), .c (.val (.int .i64 0)), .c (.val (.int .i64 0)), .c (.val (.int .i64 0)), .c (.val (.int .i64 0)), .c (.val (.slice none 0 0)), .c (.val (.slice none 0 0))] 48)], 4⟩ ?_ ?_
 ·skip
  simp only [EVB, eqF, Op.operands, IntKind.bits, descF, sizeF, bytesF, zeroF, seval, reduceCtorEq, ↓reduceIte]
  exact Weak.sub' ⟨rfl, rfl, rfl, rfl, trivial⟩ ⟨rfl, rfl, rfl, rfl, trivial⟩ (Nat.le_of_ble_eq_true rfl)
 ·skip
  refine go_seq ?_
  obtain ⟨r1, hr1, hx0⟩ := letIn_ex hx0
  have Cr1 := (coord_clone_t a0 (by (try simp only [SZD]); (repeat' apply And.intro) <;> first | assumption | omega | simp_all))
  simp only [hr1] at Cr1
  have zr1 := coord_clone_sz a0 (by (try simp only [SZD]); (repeat' apply And.intro) <;> first | assumption | omega | simp_all)
  simp only [hr1, SZD] at zr1
  obtain ⟨zz16, ⟨zz17, zz18⟩⟩ := zr1
  refine go_regionJ hR ⟨[(2, .ptr 0 0), (3, .ptr 1 0), (4, .ptr 2 0), (5, .ptr 3 0)], [(0, .box [.c (.val (.int .i64 r1.Phase)), .c (.val (.int .i64 r1.Epoch)), .c (.val (.int .i64 r1.Id)), .c (.val (.int .i64 r1.Len)), .c (.sl (List.map cI64 r1.Vector)), .c (.val (.int .i64 r1.Txn.Epoch)), .c (.val (.int .i64 r1.Txn.Id)), .c (.val (.int .i64 r1.Txn.Begin)), .c (.sl (List.map SRecord.cells r1.Txn.Records)), .c (.sl (List.map cI64 r1.Txn.Vector)), .c (.val (.int .i64 r1.Done)), .c (.val (.int .i64 r1.Left))] 30), (1, .box [.c (.val (.int .i64 a1.Epoch)), .c (.val (.int .i64 a1.Id)), .c (.sl (List.map cI64 a1.Vector)), .c (.val (.int .i64 a1.Out)), .c (.val (.int .i64 a1.Begin)), .c (.sl (List.map SRecord.cells a1.Records)), .c (.sl (List.map SPiece.cells a1.Pieces)), .c (.val (.int .u32 a1.Graph))] 41), (2, .box [.c (.val (.int .i64 0)), .c (.val (.int .i64 0)), .c (.val (.int .i64 0)), .c (.val (.int .i64 0)), .c (.val (.slice none 0 0)), .c (.val (.int .i64 0)), .c (.val (.int .i64 0)), .c (.val (.int .i64 0)), .c (.val (.slice none 0 0)), .c (.val (.slice none 0 0)), .c (.val (.int .i64 0)), .c (.val (.int .i64 0))] 30), (3, .box [.c (.val (.int .i64 0)), .c (.val (.int .i64 0)), .c (.val (.int .i64 0)), .c (.val (.int .i64 0)), .c (.val (.int .i64 0)), .c (.val (.int .i64 0)), .c (.val (.slice none 0 0)), .c (.val (.slice none 0 0))] 48)], 4⟩ ?_ ?_
  ·skip
   simp only [EVB, eqF, Op.operands, IntKind.bits, descF, sizeF, bytesF, zeroF, seval, reduceCtorEq, ↓reduceIte]
   refine CallK.freshE Cr1.toO rfl (by first | rfl | (simp only [NM]; done)) (by (repeat' apply And.intro) <;> first | trivial | rfl | omega | (simp only [NM]; omega)) (.inl rfl) (by exact Nat.le_of_ble_eq_true rfl) ?_
   try simp only [EVB, eqF, Op.operands, IntKind.bits, descF, sizeF, bytesF, zeroF, seval, reduceCtorEq, ↓reduceIte]
   exact Weak.sub' ⟨rfl, rfl, rfl, rfl, trivial⟩ ⟨rfl, rfl, rfl, rfl, trivial⟩ (Nat.le_of_ble_eq_true rfl)
  ·skip
   refine go_seq ?_
   refine go_seq ?_
   refine go_drawJ hR rfl ⟨[(2, .ptr 0 0), (3, .ptr 1 0), (4, .ptr 2 0), (5, .ptr 3 0), (22, .c (.val (.bool (((!(coord_in r1 1)) || ((manifest_Check a1) != 0)) || (!(decide ([(manifest_Key a1).Epoch, (manifest_Key a1).Id] = [(coord_key r1).Epoch, (coord_key r1).Id])))))))], [(0, .box [.c (.val (.int .i64 r1.Phase)), .c (.val (.int .i64 r1.Epoch)), .c (.val (.int .i64 r1.Id)), .c (.val (.int .i64 r1.Len)), .c (.sl (List.map cI64 r1.Vector)), .c (.val (.int .i64 r1.Txn.Epoch)), .c (.val (.int .i64 r1.Txn.Id)), .c (.val (.int .i64 r1.Txn.Begin)), .c (.sl (List.map SRecord.cells r1.Txn.Records)), .c (.sl (List.map cI64 r1.Txn.Vector)), .c (.val (.int .i64 r1.Done)), .c (.val (.int .i64 r1.Left))] 30), (1, .box [.c (.val (.int .i64 a1.Epoch)), .c (.val (.int .i64 a1.Id)), .c (.sl (List.map cI64 a1.Vector)), .c (.val (.int .i64 a1.Out)), .c (.val (.int .i64 a1.Begin)), .c (.sl (List.map SRecord.cells a1.Records)), .c (.sl (List.map SPiece.cells a1.Pieces)), .c (.val (.int .u32 a1.Graph))] 41), (2, .box [.c (.val (.int .i64 0)), .c (.val (.int .i64 0)), .c (.val (.int .i64 0)), .c (.val (.int .i64 0)), .c (.val (.slice none 0 0)), .c (.val (.int .i64 0)), .c (.val (.int .i64 0)), .c (.val (.int .i64 0)), .c (.val (.slice none 0 0)), .c (.val (.slice none 0 0)), .c (.val (.int .i64 0)), .c (.val (.int .i64 0))] 30), (3, .box [.c (.val (.int .i64 0)), .c (.val (.int .i64 0)), .c (.val (.int .i64 0)), .c (.val (.int .i64 0)), .c (.val (.int .i64 0)), .c (.val (.int .i64 0)), .c (.val (.slice none 0 0)), .c (.val (.slice none 0 0))] 48)], 4⟩ ?_ ?_
   ·skip
    rcases Bool.eq_false_or_eq_true (!(coord_in r1 1)) with h2 | h2
    ·simp only [h2, EVB, eqF, Op.operands, IntKind.bits, descF, sizeF, bytesF, zeroF, seval, reduceCtorEq, ↓reduceIte]
     refine CallD.fresh (coord_in_t r1 1).toO rfl (by first | rfl | (simp only [NM]; done)) (by (repeat' apply And.intro) <;> first | trivial | rfl | omega | (simp only [NM]; omega)) (.inl rfl) ?_
     try simp only [h2, EVB, eqF, Op.operands, IntKind.bits, descF, sizeF, bytesF, zeroF, seval, reduceCtorEq, ↓reduceIte]
     refine ⟨by kernel_rfl, ?_⟩
     try simp only [h2, BM]
     exact Weak.sub' ⟨rfl, rfl, rfl, rfl, rfl, trivial⟩ ⟨rfl, rfl, rfl, rfl, trivial⟩ (Nat.le_of_ble_eq_true rfl)
    ·rcases Bool.eq_false_or_eq_true ((manifest_Check a1) != 0) with h3 | h3
     ·simp only [h2, h3, EVB, eqF, Op.operands, IntKind.bits, descF, sizeF, bytesF, zeroF, seval, reduceCtorEq, ↓reduceIte]
      refine CallD.fresh (coord_in_t r1 1).toO rfl (by first | rfl | (simp only [NM]; done)) (by (repeat' apply And.intro) <;> first | trivial | rfl | omega | (simp only [NM]; omega)) (.inl rfl) ?_
      try simp only [h2, h3, EVB, eqF, Op.operands, IntKind.bits, descF, sizeF, bytesF, zeroF, seval, reduceCtorEq, ↓reduceIte]
      refine CallD.fresh (manifest_Check_t a1).toO rfl (by first | rfl | (simp only [NM]; done)) (by (repeat' apply And.intro) <;> first | trivial | rfl | omega | (simp only [NM]; omega)) (.inl rfl) ?_
      try simp only [h2, h3, EVB, eqF, Op.operands, IntKind.bits, descF, sizeF, bytesF, zeroF, seval, reduceCtorEq, ↓reduceIte]
      refine ⟨by kernel_rfl, ?_⟩
      try simp only [h2, h3, BM]
      exact Weak.sub' ⟨rfl, rfl, rfl, rfl, rfl, trivial⟩ ⟨rfl, rfl, rfl, rfl, trivial⟩ (Nat.le_of_ble_eq_true rfl)
     ·simp only [h2, h3, EVB, eqF, Op.operands, IntKind.bits, descF, sizeF, bytesF, zeroF, seval, reduceCtorEq, ↓reduceIte]
      refine CallD.fresh (coord_in_t r1 1).toO rfl (by first | rfl | (simp only [NM]; done)) (by (repeat' apply And.intro) <;> first | trivial | rfl | omega | (simp only [NM]; omega)) (.inl rfl) ?_
      try simp only [h2, h3, EVB, eqF, Op.operands, IntKind.bits, descF, sizeF, bytesF, zeroF, seval, reduceCtorEq, ↓reduceIte]
      refine CallD.fresh (manifest_Check_t a1).toO rfl (by first | rfl | (simp only [NM]; done)) (by (repeat' apply And.intro) <;> first | trivial | rfl | omega | (simp only [NM]; omega)) (.inl rfl) ?_
      try simp only [h2, h3, EVB, eqF, Op.operands, IntKind.bits, descF, sizeF, bytesF, zeroF, seval, reduceCtorEq, ↓reduceIte]
      refine CallD.fresh (manifest_Key_t a1).toO rfl (by first | rfl | (simp only [NM]; done)) (by (repeat' apply And.intro) <;> first | trivial | rfl | omega | (simp only [NM]; omega)) (.inl rfl) ?_
      try simp only [h2, h3, EVB, eqF, Op.operands, IntKind.bits, descF, sizeF, bytesF, zeroF, seval, reduceCtorEq, ↓reduceIte]
      refine CallD.fresh (coord_key_t r1).toO rfl (by first | rfl | (simp only [NM]; done)) (by (repeat' apply And.intro) <;> first | trivial | rfl | omega | (simp only [NM]; omega)) (.inl rfl) ?_
      try simp only [h2, h3, EVB, eqF, Op.operands, IntKind.bits, descF, sizeF, bytesF, zeroF, seval, reduceCtorEq, ↓reduceIte]
      refine ⟨by kernel_rfl, ?_⟩
      try simp only [h2, h3, BM]
      exact Weak.sub' ⟨rfl, rfl, rfl, rfl, rfl, trivial⟩ ⟨rfl, rfl, rfl, rfl, trivial⟩ (Nat.le_of_ble_eq_true rfl)
   ·skip
    refine go_cond (by rfl) (fun h4 => ?_) (fun h4 => ?_)
    ·have gh4 := h4
     try simp only [GN, beq_iff_eq, beq_eq_false_iff_ne, bne_iff_ne, bne_eq_false_iff_eq] at gh4
     simp only [h4, cond_true, cond_false] at hx0
     refine go_seq ?_
     refine go_regionJ hR ⟨[(4, .ptr 2 0), (5, .ptr 3 0)], [(2, .box [.c (.val (.int .i64 r1.Phase)), .c (.val (.int .i64 r1.Epoch)), .c (.val (.int .i64 r1.Id)), .c (.val (.int .i64 r1.Len)), .c (.sl (List.map cI64 r1.Vector)), .c (.val (.int .i64 r1.Txn.Epoch)), .c (.val (.int .i64 r1.Txn.Id)), .c (.val (.int .i64 r1.Txn.Begin)), .c (.sl (List.map SRecord.cells r1.Txn.Records)), .c (.sl (List.map cI64 r1.Txn.Vector)), .c (.val (.int .i64 r1.Done)), .c (.val (.int .i64 r1.Left))] 30), (3, .box [.c (.val (.int .i64 0)), .c (.val (.int .i64 0)), .c (.val (.int .i64 0)), .c (.val (.int .i64 0)), .c (.val (.int .i64 0)), .c (.val (.int .i64 0)), .c (.val (.slice none 0 0)), .c (.val (.slice none 0 0))] 48)], 4⟩ ?_ ?_
     ·skip
      simp only [EVB, eqF, Op.operands, IntKind.bits, descF, sizeF, bytesF, zeroF, seval, reduceCtorEq, ↓reduceIte]
      exact Weak.sub' ⟨rfl, rfl, trivial⟩ ⟨rfl, rfl, trivial⟩ (Nat.le_of_ble_eq_true rfl)
     ·skip
      subst hx0
      refine go_return ttOk (fun _ h => h) rfl ?_ ?_
      ·exact (by (repeat' apply And.intro) <;> first | trivial | exact Nat.le_of_ble_eq_true rfl | omega | (simp only [NM]; omega))
      ·first | rfl | (simp only [NM, CELLS] <;> rfl)
    ·have gh4 := h4
     try simp only [GN, beq_iff_eq, beq_eq_false_iff_ne, bne_iff_ne, bne_eq_false_iff_eq] at gh4
     simp only [h4, cond_true, cond_false] at hx0
     refine go_skip ?_
     refine go_seq ?_
     refine go_seq ?_
     refine go_regionJ hR ⟨[(2, .ptr 0 0), (3, .ptr 1 0), (4, .ptr 2 0), (5, .ptr 3 0), (36, .c (.val (.bool ((sink_Above a1.Vector r1.Vector) && (decide (a1.Out ≥ r1.Len))))))], [(0, .box [.c (.val (.int .i64 r1.Phase)), .c (.val (.int .i64 r1.Epoch)), .c (.val (.int .i64 r1.Id)), .c (.val (.int .i64 r1.Len)), .c (.sl (List.map cI64 r1.Vector)), .c (.val (.int .i64 r1.Txn.Epoch)), .c (.val (.int .i64 r1.Txn.Id)), .c (.val (.int .i64 r1.Txn.Begin)), .c (.sl (List.map SRecord.cells r1.Txn.Records)), .c (.sl (List.map cI64 r1.Txn.Vector)), .c (.val (.int .i64 r1.Done)), .c (.val (.int .i64 r1.Left))] 30), (1, .box [.c (.val (.int .i64 a1.Epoch)), .c (.val (.int .i64 a1.Id)), .c (.sl (List.map cI64 a1.Vector)), .c (.val (.int .i64 a1.Out)), .c (.val (.int .i64 a1.Begin)), .c (.sl (List.map SRecord.cells a1.Records)), .c (.sl (List.map SPiece.cells a1.Pieces)), .c (.val (.int .u32 a1.Graph))] 41), (2, .box [.c (.val (.int .i64 0)), .c (.val (.int .i64 0)), .c (.val (.int .i64 0)), .c (.val (.int .i64 0)), .c (.val (.slice none 0 0)), .c (.val (.int .i64 0)), .c (.val (.int .i64 0)), .c (.val (.int .i64 0)), .c (.val (.slice none 0 0)), .c (.val (.slice none 0 0)), .c (.val (.int .i64 0)), .c (.val (.int .i64 0))] 30), (3, .box [.c (.val (.int .i64 0)), .c (.val (.int .i64 0)), .c (.val (.int .i64 0)), .c (.val (.int .i64 0)), .c (.val (.int .i64 0)), .c (.val (.int .i64 0)), .c (.val (.slice none 0 0)), .c (.val (.slice none 0 0))] 48)], 4⟩ ?_ ?_
     ·skip
      rcases Bool.eq_false_or_eq_true (sink_Above a1.Vector r1.Vector) with h5 | h5
      ·simp only [h5, EVB, eqF, Op.operands, IntKind.bits, descF, sizeF, bytesF, zeroF, seval, reduceCtorEq, ↓reduceIte]
       refine CallK.freshE (sink_Above_t a1.Vector r1.Vector).toO rfl (by first | rfl | (simp only [NM]; done)) (by (repeat' apply And.intro) <;> first | trivial | rfl | omega | (simp only [NM]; omega)) (.inl rfl) (by exact Nat.le_of_ble_eq_true rfl) ?_
       try simp only [h5, EVB, eqF, Op.operands, IntKind.bits, descF, sizeF, bytesF, zeroF, seval, reduceCtorEq, ↓reduceIte]
       try simp only [h5, BM]
       exact Weak.sub' ⟨rfl, rfl, rfl, rfl, rfl, trivial⟩ ⟨rfl, rfl, rfl, rfl, trivial⟩ (Nat.le_of_ble_eq_true rfl)
      ·simp only [h5, EVB, eqF, Op.operands, IntKind.bits, descF, sizeF, bytesF, zeroF, seval, reduceCtorEq, ↓reduceIte]
       refine CallK.freshE (sink_Above_t a1.Vector r1.Vector).toO rfl (by first | rfl | (simp only [NM]; done)) (by (repeat' apply And.intro) <;> first | trivial | rfl | omega | (simp only [NM]; omega)) (.inl rfl) (by exact Nat.le_of_ble_eq_true rfl) ?_
       try simp only [h5, EVB, eqF, Op.operands, IntKind.bits, descF, sizeF, bytesF, zeroF, seval, reduceCtorEq, ↓reduceIte]
       try simp only [h5, BM]
       exact Weak.sub' ⟨rfl, rfl, rfl, rfl, rfl, trivial⟩ ⟨rfl, rfl, rfl, rfl, trivial⟩ (Nat.le_of_ble_eq_true rfl)
     ·skip
      refine go_cond (by rfl) (fun h6 => ?_) (fun h6 => ?_)
      ·have gh6 := h6
       try simp only [GN, beq_iff_eq, beq_eq_false_iff_ne, bne_iff_ne, bne_eq_false_iff_eq] at gh6
       simp only [h6, cond_true, cond_false] at hx0
       refine go_seq ?_
       obtain ⟨r7, hr7, hx0⟩ := letIn_ex hx0
       have Cr7 := (manifest_Txn_t a1 r1.Epoch (by (try simp only [SZD]); (repeat' apply And.intro) <;> first | assumption | omega | simp_all))
       simp only [hr7] at Cr7
       have zr7 := manifest_Txn_sz a1 r1.Epoch (by (try simp only [SZD]); (repeat' apply And.intro) <;> first | assumption | omega | simp_all)
       simp only [hr7, SZD] at zr7
       obtain ⟨zz19, zz20⟩ := zr7
       obtain ⟨r8, hr8, hx0⟩ := letIn_ex hx0
       have Cr8 := (coord_pre_t r1 r7 (by (try simp only [SZD]); (repeat' apply And.intro) <;> first | assumption | omega | simp_all) (by (try simp only [SZD]); (repeat' apply And.intro) <;> first | assumption | omega | simp_all))
       simp only [hr8] at Cr8
       have zr8 := coord_pre_sz r1 r7 (by (try simp only [SZD]); (repeat' apply And.intro) <;> first | assumption | omega | simp_all) (by (try simp only [SZD]); (repeat' apply And.intro) <;> first | assumption | omega | simp_all)
       simp only [hr8, SZD] at zr8
       obtain ⟨⟨zz21, ⟨zz22, zz23⟩⟩, ⟨zz24, zz25⟩⟩ := zr8
       refine go_drawJ hR rfl ⟨[(4, .ptr 2 0), (5, .ptr 3 0)], [(2, .box [.c (.val (.int .i64 r8.1.Phase)), .c (.val (.int .i64 r8.1.Epoch)), .c (.val (.int .i64 r8.1.Id)), .c (.val (.int .i64 r8.1.Len)), .c (.sl (List.map cI64 r8.1.Vector)), .c (.val (.int .i64 r8.1.Txn.Epoch)), .c (.val (.int .i64 r8.1.Txn.Id)), .c (.val (.int .i64 r8.1.Txn.Begin)), .c (.sl (List.map SRecord.cells r8.1.Txn.Records)), .c (.sl (List.map cI64 r8.1.Txn.Vector)), .c (.val (.int .i64 r8.1.Done)), .c (.val (.int .i64 r8.1.Left))] 30), (3, .box [.c (.val (.int .i64 r8.2.Kind)), .c (.val (.int .i64 r8.2.Id)), .c (.val (.int .i64 r8.2.Begin)), .c (.val (.int .i64 r8.2.Txn.Epoch)), .c (.val (.int .i64 r8.2.Txn.Id)), .c (.val (.int .i64 r8.2.Txn.Begin)), .c (.sl (List.map SRecord.cells r8.2.Txn.Records)), .c (.sl (List.map cI64 r8.2.Txn.Vector))] 48)], 4⟩ ?_ ?_
       ·skip
        simp only [EVB, eqF, Op.operands, IntKind.bits, descF, sizeF, bytesF, zeroF, seval, reduceCtorEq, ↓reduceIte]
        refine CallD.fresh Cr7.toO rfl (by first | rfl | (simp only [NM]; done)) (by (repeat' apply And.intro) <;> first | trivial | rfl | omega | (simp only [NM]; omega)) (.inl rfl) ?_
        try simp only [EVB, eqF, Op.operands, IntKind.bits, descF, sizeF, bytesF, zeroF, seval, reduceCtorEq, ↓reduceIte]
        refine CallD.fresh Cr8.toO rfl (by first | rfl | (simp only [NM]; done)) (by (repeat' apply And.intro) <;> first | trivial | rfl | omega | (simp only [NM]; omega)) (.inl rfl) ?_
        try simp only [EVB, eqF, Op.operands, IntKind.bits, descF, sizeF, bytesF, zeroF, seval, reduceCtorEq, ↓reduceIte]
        refine ⟨by kernel_rfl, ?_⟩
        exact Weak.sub' ⟨rfl, rfl, trivial⟩ ⟨rfl, rfl, trivial⟩ (Nat.le_of_ble_eq_true rfl)
       ·skip
        subst hx0
        refine go_return ttOk (fun _ h => h) rfl ?_ ?_
        ·exact (by (repeat' apply And.intro) <;> first | trivial | exact Nat.le_of_ble_eq_true rfl | omega | (simp only [NM]; omega))
        ·first | rfl | (simp only [NM, CELLS] <;> rfl)
      ·have gh6 := h6
       try simp only [GN, beq_iff_eq, beq_eq_false_iff_ne, bne_iff_ne, bne_eq_false_iff_eq] at gh6
       simp only [h6, cond_true, cond_false] at hx0
       refine go_skip ?_
       refine go_seq ?_
       obtain ⟨r9, hr9, hx0⟩ := letIn_ex hx0
       have Cr9 := (coord_left_t r1)
       simp only [hr9] at Cr9
       have zr9 := coord_left_sz r1 (by (try simp only [SZD]); (repeat' apply And.intro) <;> first | assumption | omega | simp_all)
       simp only [hr9, SZD] at zr9
       obtain ⟨zz26, ⟨zz27, zz28⟩⟩ := zr9
       refine go_drawJ hR rfl ⟨[(4, .ptr 2 0), (5, .ptr 3 0)], [(2, .box [.c (.val (.int .i64 r9.Phase)), .c (.val (.int .i64 r9.Epoch)), .c (.val (.int .i64 r9.Id)), .c (.val (.int .i64 r9.Len)), .c (.sl (List.map cI64 r9.Vector)), .c (.val (.int .i64 r9.Txn.Epoch)), .c (.val (.int .i64 r9.Txn.Id)), .c (.val (.int .i64 r9.Txn.Begin)), .c (.sl (List.map SRecord.cells r9.Txn.Records)), .c (.sl (List.map cI64 r9.Txn.Vector)), .c (.val (.int .i64 r9.Done)), .c (.val (.int .i64 r9.Left))] 30), (3, .box [.c (.val (.int .i64 5)), .c (.val (.int .i64 r1.Id)), .c (.val (.int .i64 0)), .c (.val (.int .i64 0)), .c (.val (.int .i64 0)), .c (.val (.int .i64 0)), .c (.val (.slice none 0 0)), .c (.val (.slice none 0 0))] 48)], 4⟩ ?_ ?_
       ·skip
        simp only [EVB, eqF, Op.operands, IntKind.bits, descF, sizeF, bytesF, zeroF, seval, reduceCtorEq, ↓reduceIte]
        refine CallD.fresh Cr9.toO rfl (by first | rfl | (simp only [NM]; done)) (by (repeat' apply And.intro) <;> first | trivial | rfl | omega | (simp only [NM]; omega)) (.inl rfl) ?_
        try simp only [EVB, eqF, Op.operands, IntKind.bits, descF, sizeF, bytesF, zeroF, seval, reduceCtorEq, ↓reduceIte]
        refine ⟨by kernel_rfl, ?_⟩
        exact Weak.sub' ⟨rfl, rfl, trivial⟩ ⟨rfl, rfl, trivial⟩ (Nat.le_of_ble_eq_true rfl)
       ·skip
        subst hx0
        refine go_return ttOk (fun _ h => h) rfl ?_ ?_
        ·exact (by (repeat' apply And.intro) <;> first | trivial | exact Nat.le_of_ble_eq_true rfl | omega | (simp only [NM]; omega))
        ·first | rfl | (simp only [NM, CELLS] <;> rfl)
theorem coord_Published_sz (a0 : SCoord) (a1 : SManifest) (z0 : SCoord.Sz a0) (z1 : SManifest.Sz a1) : SCoord.Sz ((coord_Published a0 a1).1) ∧ SDo.Sz ((coord_Published a0 a1).2) := by
 obtain ⟨res, hx0⟩ : ∃ r, coord_Published a0 a1 = r := ⟨_, rfl⟩
 simp only [hx0]
 unfold coord_Published at hx0
 try simp only [SZD] at z0 z1
 obtain ⟨zz29, ⟨zz30, zz31⟩⟩ := z0
 obtain ⟨zz32, zz33, zz34⟩ := z1
 obtain ⟨r1, hr1, hx0⟩ := letIn_ex hx0
 have zr1 := coord_clone_sz a0 (by (try simp only [SZD]); (repeat' apply And.intro) <;> first | assumption | omega | simp_all)
 simp only [hr1, SZD] at zr1
 obtain ⟨zz35, ⟨zz36, zz37⟩⟩ := zr1
 rcases Bool.eq_false_or_eq_true (((!(coord_in r1 1)) || ((manifest_Check a1) != 0)) || (!(decide ([(manifest_Key a1).Epoch, (manifest_Key a1).Id] = [(coord_key r1).Epoch, (coord_key r1).Id])))) with h4 | h4
 ·simp only [h4, cond_true, cond_false] at hx0
  subst hx0
  exact (by (try simp only [SZD]); (repeat' apply And.intro) <;> first | assumption | omega | simp_all)
 ·simp only [h4, cond_true, cond_false] at hx0
  rcases Bool.eq_false_or_eq_true ((sink_Above a1.Vector r1.Vector) && (decide (a1.Out ≥ r1.Len))) with h6 | h6
  ·simp only [h6, cond_true, cond_false] at hx0
   obtain ⟨r7, hr7, hx0⟩ := letIn_ex hx0
   have zr7 := manifest_Txn_sz a1 r1.Epoch (by (try simp only [SZD]); (repeat' apply And.intro) <;> first | assumption | omega | simp_all)
   simp only [hr7, SZD] at zr7
   obtain ⟨zz38, zz39⟩ := zr7
   obtain ⟨r8, hr8, hx0⟩ := letIn_ex hx0
   have zr8 := coord_pre_sz r1 r7 (by (try simp only [SZD]); (repeat' apply And.intro) <;> first | assumption | omega | simp_all) (by (try simp only [SZD]); (repeat' apply And.intro) <;> first | assumption | omega | simp_all)
   simp only [hr8, SZD] at zr8
   obtain ⟨⟨zz40, ⟨zz41, zz42⟩⟩, ⟨zz43, zz44⟩⟩ := zr8
   subst hx0
   exact (by (try simp only [SZD]); (repeat' apply And.intro) <;> first | assumption | omega | simp_all)
  ·simp only [h6, cond_true, cond_false] at hx0
   obtain ⟨r9, hr9, hx0⟩ := letIn_ex hx0
   have zr9 := coord_left_sz r1 (by (try simp only [SZD]); (repeat' apply And.intro) <;> first | assumption | omega | simp_all)
   simp only [hr9, SZD] at zr9
   obtain ⟨zz45, ⟨zz46, zz47⟩⟩ := zr9
   subst hx0
   exact (by (try simp only [SZD]); (repeat' apply And.intro) <;> first | assumption | omega | simp_all)

def coord_Resume (a0 : SCoord) (a1 : SManifest) : SCoord × SDo :=
  letIn (coord_clone a0) fun r1 => (bif (((!(coord_in r1 0)) || ((manifest_Check a1) != 0)) || (!(manifest_Less (manifest_Key a1) (STxnKey.mk r1.Epoch 9007199254740992)))) then (r1, (SDo.mk 0 0 0 (STxn.mk 0 0 0 [] []))) else (bif (((!(sink_Above a1.Vector r1.Vector)) || (decide (a1.Out ≤ r1.Len))) || (decide (a1.Begin > r1.Len))) then ((SCoord.mk r1.Phase r1.Epoch (if a1.Id > r1.Id then a1.Id else r1.Id) r1.Len r1.Vector r1.Txn r1.Done r1.Left), (SDo.mk 0 0 0 (STxn.mk 0 0 0 [] []))) else (bif ((if a1.Id > r1.Id then a1.Id else r1.Id) == 9007199254740992) then (r1, (SDo.mk 0 0 0 (STxn.mk 0 0 0 [] []))) else letIn (manifest_Txn a1 r1.Epoch) fun r9 => letIn (coord_pre (SCoord.mk r1.Phase r1.Epoch (IntKind.i64.wrap ((if a1.Id > r1.Id then a1.Id else r1.Id) + 1)) r1.Len r1.Vector r1.Txn r1.Done r1.Left) (STxn.mk r9.Epoch (IntKind.i64.wrap ((if a1.Id > r1.Id then a1.Id else r1.Id) + 1)) r9.Begin r9.Records r9.Vector)) fun r10 => (r10.1, r10.2))))
set_option maxRecDepth 10000 in
set_option maxHeartbeats 8000000 in
theorem coord_Resume_t (a0 : SCoord) (a1 : SManifest) (z0 : SCoord.Sz a0) (z1 : SManifest.Sz a1) : FnP Try.prog 36 [.agg [.c (.val (.int .i64 a0.Phase)), .c (.val (.int .i64 a0.Epoch)), .c (.val (.int .i64 a0.Id)), .c (.val (.int .i64 a0.Len)), .c (.sl (List.map cI64 a0.Vector)), .c (.val (.int .i64 a0.Txn.Epoch)), .c (.val (.int .i64 a0.Txn.Id)), .c (.val (.int .i64 a0.Txn.Begin)), .c (.sl (List.map SRecord.cells a0.Txn.Records)), .c (.sl (List.map cI64 a0.Txn.Vector)), .c (.val (.int .i64 a0.Done)), .c (.val (.int .i64 a0.Left))], .agg [.c (.val (.int .i64 a1.Epoch)), .c (.val (.int .i64 a1.Id)), .c (.sl (List.map cI64 a1.Vector)), .c (.val (.int .i64 a1.Out)), .c (.val (.int .i64 a1.Begin)), .c (.sl (List.map SRecord.cells a1.Records)), .c (.sl (List.map SPiece.cells a1.Pieces)), .c (.val (.int .u32 a1.Graph))]] (.tup [.agg [.c (.val (.int .i64 (((coord_Resume a0 a1).1).Phase))), .c (.val (.int .i64 (((coord_Resume a0 a1).1).Epoch))), .c (.val (.int .i64 (((coord_Resume a0 a1).1).Id))), .c (.val (.int .i64 (((coord_Resume a0 a1).1).Len))), .c (.sl (List.map cI64 (((coord_Resume a0 a1).1).Vector))), .c (.val (.int .i64 ((((coord_Resume a0 a1).1).Txn).Epoch))), .c (.val (.int .i64 ((((coord_Resume a0 a1).1).Txn).Id))), .c (.val (.int .i64 ((((coord_Resume a0 a1).1).Txn).Begin))), .c (.sl (List.map SRecord.cells ((((coord_Resume a0 a1).1).Txn).Records))), .c (.sl (List.map cI64 ((((coord_Resume a0 a1).1).Txn).Vector))), .c (.val (.int .i64 (((coord_Resume a0 a1).1).Done))), .c (.val (.int .i64 (((coord_Resume a0 a1).1).Left)))], .agg [.c (.val (.int .i64 (((coord_Resume a0 a1).2).Kind))), .c (.val (.int .i64 (((coord_Resume a0 a1).2).Id))), .c (.val (.int .i64 (((coord_Resume a0 a1).2).Begin))), .c (.val (.int .i64 ((((coord_Resume a0 a1).2).Txn).Epoch))), .c (.val (.int .i64 ((((coord_Resume a0 a1).2).Txn).Id))), .c (.val (.int .i64 ((((coord_Resume a0 a1).2).Txn).Begin))), .c (.sl (List.map SRecord.cells ((((coord_Resume a0 a1).2).Txn).Records))), .c (.sl (List.map cI64 ((((coord_Resume a0 a1).2).Txn).Vector)))]]) := by
 refine FnP.intro (tt := tt) Try.func36 rfl (by kernel_rfl) (by simp [Try.ntmps36]) fun w0 A hA => ?_
 have hR := reckB_ok eqOk ttOk
 obtain ⟨res, hx0⟩ : ∃ r, coord_Resume a0 a1 = r := ⟨_, rfl⟩
 simp only [hx0]
 unfold coord_Resume at hx0
 simp only [argT, Try.ntmps36]
 try simp only [SZD] at z0 z1
 obtain ⟨zz11, ⟨zz12, zz13⟩⟩ := z0
 obtain ⟨zz14, zz15, zz16⟩ := z1
 refine go_seq ?_
 refine go_regionJ hR ⟨[(2, .ptr 0 0), (3, .ptr 1 0), (4, .ptr 2 0), (5, .ptr 3 0)], [(0, .box [.c (.val (.int .i64 a0.Phase)), .c (.val (.int .i64 a0.Epoch)), .c (.val (.int .i64 a0.Id)), .c (.val (.int .i64 a0.Len)), .c (.sl (List.map cI64 a0.Vector)), .c (.val (.int .i64 a0.Txn.Epoch)), .c (.val (.int .i64 a0.Txn.Id)), .c (.val (.int .i64 a0.Txn.Begin)), .c (.sl (List.map SRecord.cells a0.Txn.Records)), .c (.sl (List.map cI64 a0.Txn.Vector)), .c (.val (.int .i64 a0.Done)), .c (.val (.int .i64 a0.Left))] 30), (1, .box [.c (.val (.int .i64 a1.Epoch)), .c (.val (.int .i64 a1.Id)), .c (.sl (List.map cI64 a1.Vector)), .c (.val (.int .i64 a1.Out)), .c (.val (.int .i64 a1.Begin)), .c (.sl (List.map SRecord.cells a1.Records)), .c (.sl (List.map SPiece.cells a1.Pieces)), .c (.val (.int .u32 a1.Graph))] 41), (2, .box [.c (.val (.int .i64 0)), .c (.val (.int .i64 0)), .c (.val (.int .i64 0)), .c (.val (.int .i64 0)), .c (.val (.slice none 0 0)), .c (.val (.int .i64 0)), .c (.val (.int .i64 0)), .c (.val (.int .i64 0)), .c (.val (.slice none 0 0)), .c (.val (.slice none 0 0)), .c (.val (.int .i64 0)), .c (.val (.int .i64 0))] 30), (3, .box [.c (.val (.int .i64 0)), .c (.val (.int .i64 0)), .c (.val (.int .i64 0)), .c (.val (.int .i64 0)), .c (.val (.int .i64 0)), .c (.val (.int .i64 0)), .c (.val (.slice none 0 0)), .c (.val (.slice none 0 0))] 48)], 4⟩ ?_ ?_
 ·skip
  simp only [EVB, eqF, Op.operands, IntKind.bits, descF, sizeF, bytesF, zeroF, seval, reduceCtorEq, ↓reduceIte]
  exact Weak.sub' ⟨rfl, rfl, rfl, rfl, trivial⟩ ⟨rfl, rfl, rfl, rfl, trivial⟩ (Nat.le_of_ble_eq_true rfl)
 ·skip
  refine go_seq ?_
  obtain ⟨r1, hr1, hx0⟩ := letIn_ex hx0
  have Cr1 := (coord_clone_t a0 (by (try simp only [SZD]); (repeat' apply And.intro) <;> first | assumption | omega | simp_all))
  simp only [hr1] at Cr1
  have zr1 := coord_clone_sz a0 (by (try simp only [SZD]); (repeat' apply And.intro) <;> first | assumption | omega | simp_all)
  simp only [hr1, SZD] at zr1
  obtain ⟨zz17, ⟨zz18, zz19⟩⟩ := zr1
  refine go_regionJ hR ⟨[(2, .ptr 0 0), (3, .ptr 1 0), (4, .ptr 2 0), (5, .ptr 3 0)], [(0, .box [.c (.val (.int .i64 r1.Phase)), .c (.val (.int .i64 r1.Epoch)), .c (.val (.int .i64 r1.Id)), .c (.val (.int .i64 r1.Len)), .c (.sl (List.map cI64 r1.Vector)), .c (.val (.int .i64 r1.Txn.Epoch)), .c (.val (.int .i64 r1.Txn.Id)), .c (.val (.int .i64 r1.Txn.Begin)), .c (.sl (List.map SRecord.cells r1.Txn.Records)), .c (.sl (List.map cI64 r1.Txn.Vector)), .c (.val (.int .i64 r1.Done)), .c (.val (.int .i64 r1.Left))] 30), (1, .box [.c (.val (.int .i64 a1.Epoch)), .c (.val (.int .i64 a1.Id)), .c (.sl (List.map cI64 a1.Vector)), .c (.val (.int .i64 a1.Out)), .c (.val (.int .i64 a1.Begin)), .c (.sl (List.map SRecord.cells a1.Records)), .c (.sl (List.map SPiece.cells a1.Pieces)), .c (.val (.int .u32 a1.Graph))] 41), (2, .box [.c (.val (.int .i64 0)), .c (.val (.int .i64 0)), .c (.val (.int .i64 0)), .c (.val (.int .i64 0)), .c (.val (.slice none 0 0)), .c (.val (.int .i64 0)), .c (.val (.int .i64 0)), .c (.val (.int .i64 0)), .c (.val (.slice none 0 0)), .c (.val (.slice none 0 0)), .c (.val (.int .i64 0)), .c (.val (.int .i64 0))] 30), (3, .box [.c (.val (.int .i64 0)), .c (.val (.int .i64 0)), .c (.val (.int .i64 0)), .c (.val (.int .i64 0)), .c (.val (.int .i64 0)), .c (.val (.int .i64 0)), .c (.val (.slice none 0 0)), .c (.val (.slice none 0 0))] 48)], 4⟩ ?_ ?_
  ·skip
   simp only [EVB, eqF, Op.operands, IntKind.bits, descF, sizeF, bytesF, zeroF, seval, reduceCtorEq, ↓reduceIte]
   refine CallK.freshE Cr1.toO rfl (by first | rfl | (simp only [NM]; done)) (by (repeat' apply And.intro) <;> first | trivial | rfl | omega | (simp only [NM]; omega)) (.inl rfl) (by exact Nat.le_of_ble_eq_true rfl) ?_
   try simp only [EVB, eqF, Op.operands, IntKind.bits, descF, sizeF, bytesF, zeroF, seval, reduceCtorEq, ↓reduceIte]
   exact Weak.sub' ⟨rfl, rfl, rfl, rfl, trivial⟩ ⟨rfl, rfl, rfl, rfl, trivial⟩ (Nat.le_of_ble_eq_true rfl)
  ·skip
   refine go_seq ?_
   refine go_seq ?_
   refine go_drawJ hR rfl ⟨[(2, .ptr 0 0), (3, .ptr 1 0), (4, .ptr 2 0), (5, .ptr 3 0), (26, .c (.val (.bool (((!(coord_in r1 0)) || ((manifest_Check a1) != 0)) || (!(manifest_Less (manifest_Key a1) (STxnKey.mk r1.Epoch 9007199254740992)))))))], [(0, .box [.c (.val (.int .i64 r1.Phase)), .c (.val (.int .i64 r1.Epoch)), .c (.val (.int .i64 r1.Id)), .c (.val (.int .i64 r1.Len)), .c (.sl (List.map cI64 r1.Vector)), .c (.val (.int .i64 r1.Txn.Epoch)), .c (.val (.int .i64 r1.Txn.Id)), .c (.val (.int .i64 r1.Txn.Begin)), .c (.sl (List.map SRecord.cells r1.Txn.Records)), .c (.sl (List.map cI64 r1.Txn.Vector)), .c (.val (.int .i64 r1.Done)), .c (.val (.int .i64 r1.Left))] 30), (1, .box [.c (.val (.int .i64 a1.Epoch)), .c (.val (.int .i64 a1.Id)), .c (.sl (List.map cI64 a1.Vector)), .c (.val (.int .i64 a1.Out)), .c (.val (.int .i64 a1.Begin)), .c (.sl (List.map SRecord.cells a1.Records)), .c (.sl (List.map SPiece.cells a1.Pieces)), .c (.val (.int .u32 a1.Graph))] 41), (2, .box [.c (.val (.int .i64 0)), .c (.val (.int .i64 0)), .c (.val (.int .i64 0)), .c (.val (.int .i64 0)), .c (.val (.slice none 0 0)), .c (.val (.int .i64 0)), .c (.val (.int .i64 0)), .c (.val (.int .i64 0)), .c (.val (.slice none 0 0)), .c (.val (.slice none 0 0)), .c (.val (.int .i64 0)), .c (.val (.int .i64 0))] 30), (3, .box [.c (.val (.int .i64 0)), .c (.val (.int .i64 0)), .c (.val (.int .i64 0)), .c (.val (.int .i64 0)), .c (.val (.int .i64 0)), .c (.val (.int .i64 0)), .c (.val (.slice none 0 0)), .c (.val (.slice none 0 0))] 48)], 4⟩ ?_ ?_
   ·skip
    rcases Bool.eq_false_or_eq_true (!(coord_in r1 0)) with h2 | h2
    ·simp (maxSteps := 4000000) only [h2, EVB, eqF, Op.operands, IntKind.bits, descF, sizeF, bytesF, zeroF, seval, reduceCtorEq, ↓reduceIte]
     refine CallD.fresh (coord_in_t r1 0).toO rfl (by first | rfl | (simp only [NM]; done)) (by (repeat' apply And.intro) <;> first | trivial | rfl | omega | (simp only [NM]; omega)) (.inl rfl) ?_
     try simp (maxSteps := 4000000) only [h2, EVB, eqF, Op.operands, IntKind.bits, descF, sizeF, bytesF, zeroF, seval, reduceCtorEq, ↓reduceIte]
     refine ⟨by kernel_rfl, ?_⟩
     try simp only [h2, BM]
     exact Weak.sub' ⟨rfl, rfl, rfl, rfl, rfl, trivial⟩ ⟨rfl, rfl, rfl, rfl, trivial⟩ (Nat.le_of_ble_eq_true rfl)
    ·rcases Bool.eq_false_or_eq_true ((manifest_Check a1) != 0) with h3 | h3
     ·simp (maxSteps := 4000000) only [h2, h3, EVB, eqF, Op.operands, IntKind.bits, descF, sizeF, bytesF, zeroF, seval, reduceCtorEq, ↓reduceIte]
      refine CallD.fresh (coord_in_t r1 0).toO rfl (by first | rfl | (simp only [NM]; done)) (by (repeat' apply And.intro) <;> first | trivial | rfl | omega | (simp only [NM]; omega)) (.inl rfl) ?_
      try simp (maxSteps := 4000000) only [h2, h3, EVB, eqF, Op.operands, IntKind.bits, descF, sizeF, bytesF, zeroF, seval, reduceCtorEq, ↓reduceIte]
      refine CallD.fresh (manifest_Check_t a1).toO rfl (by first | rfl | (simp only [NM]; done)) (by (repeat' apply And.intro) <;> first | trivial | rfl | omega | (simp only [NM]; omega)) (.inl rfl) ?_
      try simp (maxSteps := 4000000) only [h2, h3, EVB, eqF, Op.operands, IntKind.bits, descF, sizeF, bytesF, zeroF, seval, reduceCtorEq, ↓reduceIte]
      refine ⟨by kernel_rfl, ?_⟩
      try simp only [h2, h3, BM]
      exact Weak.sub' ⟨rfl, rfl, rfl, rfl, rfl, trivial⟩ ⟨rfl, rfl, rfl, rfl, trivial⟩ (Nat.le_of_ble_eq_true rfl)
     ·simp (maxSteps := 4000000) only [h2, h3, EVB, eqF, Op.operands, IntKind.bits, descF, sizeF, bytesF, zeroF, seval, reduceCtorEq, ↓reduceIte]
      refine CallD.fresh (coord_in_t r1 0).toO rfl (by first | rfl | (simp only [NM]; done)) (by (repeat' apply And.intro) <;> first | trivial | rfl | omega | (simp only [NM]; omega)) (.inl rfl) ?_
      try simp (maxSteps := 4000000) only [h2, h3, EVB, eqF, Op.operands, IntKind.bits, descF, sizeF, bytesF, zeroF, seval, reduceCtorEq, ↓reduceIte]
      refine CallD.fresh (manifest_Check_t a1).toO rfl (by first | rfl | (simp only [NM]; done)) (by (repeat' apply And.intro) <;> first | trivial | rfl | omega | (simp only [NM]; omega)) (.inl rfl) ?_
      try simp (maxSteps := 4000000) only [h2, h3, EVB, eqF, Op.operands, IntKind.bits, descF, sizeF, bytesF, zeroF, seval, reduceCtorEq, ↓reduceIte]
      refine CallD.fresh (manifest_Key_t a1).toO rfl (by first | rfl | (simp only [NM]; done)) (by (repeat' apply And.intro) <;> first | trivial | rfl | omega | (simp only [NM]; omega)) (.inl rfl) ?_
      try simp (maxSteps := 4000000) only [h2, h3, EVB, eqF, Op.operands, IntKind.bits, descF, sizeF, bytesF, zeroF, seval, reduceCtorEq, ↓reduceIte]
      refine CallD.fresh (manifest_Less_t (manifest_Key a1) (STxnKey.mk r1.Epoch 9007199254740992)).toO rfl (by first | rfl | (simp only [NM]; done)) (by (repeat' apply And.intro) <;> first | trivial | rfl | omega | (simp only [NM]; omega)) (.inl rfl) ?_
      try simp (maxSteps := 4000000) only [h2, h3, EVB, eqF, Op.operands, IntKind.bits, descF, sizeF, bytesF, zeroF, seval, reduceCtorEq, ↓reduceIte]
      refine ⟨by kernel_rfl, ?_⟩
      try simp only [h2, h3, BM]
      exact Weak.sub' ⟨rfl, rfl, rfl, rfl, rfl, trivial⟩ ⟨rfl, rfl, rfl, rfl, trivial⟩ (Nat.le_of_ble_eq_true rfl)
   ·skip
    refine go_cond (by rfl) (fun h4 => ?_) (fun h4 => ?_)
    ·have gh4 := h4
     try simp only [GN, beq_iff_eq, beq_eq_false_iff_ne, bne_iff_ne, bne_eq_false_iff_eq] at gh4
     simp only [h4, cond_true, cond_false] at hx0
     refine go_seq ?_
     refine go_regionJ hR ⟨[(4, .ptr 2 0), (5, .ptr 3 0)], [(2, .box [.c (.val (.int .i64 r1.Phase)), .c (.val (.int .i64 r1.Epoch)), .c (.val (.int .i64 r1.Id)), .c (.val (.int .i64 r1.Len)), .c (.sl (List.map cI64 r1.Vector)), .c (.val (.int .i64 r1.Txn.Epoch)), .c (.val (.int .i64 r1.Txn.Id)), .c (.val (.int .i64 r1.Txn.Begin)), .c (.sl (List.map SRecord.cells r1.Txn.Records)), .c (.sl (List.map cI64 r1.Txn.Vector)), .c (.val (.int .i64 r1.Done)), .c (.val (.int .i64 r1.Left))] 30), (3, .box [.c (.val (.int .i64 0)), .c (.val (.int .i64 0)), .c (.val (.int .i64 0)), .c (.val (.int .i64 0)), .c (.val (.int .i64 0)), .c (.val (.int .i64 0)), .c (.val (.slice none 0 0)), .c (.val (.slice none 0 0))] 48)], 4⟩ ?_ ?_
     ·skip
      simp only [EVB, eqF, Op.operands, IntKind.bits, descF, sizeF, bytesF, zeroF, seval, reduceCtorEq, ↓reduceIte]
      exact Weak.sub' ⟨rfl, rfl, trivial⟩ ⟨rfl, rfl, trivial⟩ (Nat.le_of_ble_eq_true rfl)
     ·skip
      subst hx0
      refine go_return ttOk (fun _ h => h) rfl ?_ ?_
      ·exact (by (repeat' apply And.intro) <;> first | trivial | exact Nat.le_of_ble_eq_true rfl | omega | (simp only [NM]; omega))
      ·first | rfl | (simp only [NM, CELLS] <;> rfl)
    ·have gh4 := h4
     try simp only [GN, beq_iff_eq, beq_eq_false_iff_ne, bne_iff_ne, bne_eq_false_iff_eq] at gh4
     simp only [h4, cond_true, cond_false] at hx0
     refine go_skip ?_
     refine go_seq ?_
     refine go_regionJ hR ⟨[(2, .ptr 0 0), (3, .ptr 1 0), (4, .ptr 2 0), (5, .ptr 3 0), (6, .c (.val (.int .i64 (if a1.Id > r1.Id then a1.Id else r1.Id))))], [(0, .box [.c (.val (.int .i64 r1.Phase)), .c (.val (.int .i64 r1.Epoch)), .c (.val (.int .i64 r1.Id)), .c (.val (.int .i64 r1.Len)), .c (.sl (List.map cI64 r1.Vector)), .c (.val (.int .i64 r1.Txn.Epoch)), .c (.val (.int .i64 r1.Txn.Id)), .c (.val (.int .i64 r1.Txn.Begin)), .c (.sl (List.map SRecord.cells r1.Txn.Records)), .c (.sl (List.map cI64 r1.Txn.Vector)), .c (.val (.int .i64 r1.Done)), .c (.val (.int .i64 r1.Left))] 30), (1, .box [.c (.val (.int .i64 a1.Epoch)), .c (.val (.int .i64 a1.Id)), .c (.sl (List.map cI64 a1.Vector)), .c (.val (.int .i64 a1.Out)), .c (.val (.int .i64 a1.Begin)), .c (.sl (List.map SRecord.cells a1.Records)), .c (.sl (List.map SPiece.cells a1.Pieces)), .c (.val (.int .u32 a1.Graph))] 41), (2, .box [.c (.val (.int .i64 0)), .c (.val (.int .i64 0)), .c (.val (.int .i64 0)), .c (.val (.int .i64 0)), .c (.val (.slice none 0 0)), .c (.val (.int .i64 0)), .c (.val (.int .i64 0)), .c (.val (.int .i64 0)), .c (.val (.slice none 0 0)), .c (.val (.slice none 0 0)), .c (.val (.int .i64 0)), .c (.val (.int .i64 0))] 30), (3, .box [.c (.val (.int .i64 0)), .c (.val (.int .i64 0)), .c (.val (.int .i64 0)), .c (.val (.int .i64 0)), .c (.val (.int .i64 0)), .c (.val (.int .i64 0)), .c (.val (.slice none 0 0)), .c (.val (.slice none 0 0))] 48)], 4⟩ ?_ ?_
     ·skip
      simp only [EVB, eqF, Op.operands, IntKind.bits, descF, sizeF, bytesF, zeroF, seval, reduceCtorEq, ↓reduceIte]
      exact Weak.sub' ⟨rfl, rfl, rfl, rfl, rfl, trivial⟩ ⟨rfl, rfl, rfl, rfl, trivial⟩ (Nat.le_of_ble_eq_true rfl)
     ·skip
      refine go_seq ?_
      refine go_seq ?_
      refine go_regionJ hR ⟨[(2, .ptr 0 0), (3, .ptr 1 0), (4, .ptr 2 0), (5, .ptr 3 0), (6, .c (.val (.int .i64 (if a1.Id > r1.Id then a1.Id else r1.Id)))), (53, .c (.val (.bool (((!(sink_Above a1.Vector r1.Vector)) || (decide (a1.Out ≤ r1.Len))) || (decide (a1.Begin > r1.Len))))))], [(0, .box [.c (.val (.int .i64 r1.Phase)), .c (.val (.int .i64 r1.Epoch)), .c (.val (.int .i64 r1.Id)), .c (.val (.int .i64 r1.Len)), .c (.sl (List.map cI64 r1.Vector)), .c (.val (.int .i64 r1.Txn.Epoch)), .c (.val (.int .i64 r1.Txn.Id)), .c (.val (.int .i64 r1.Txn.Begin)), .c (.sl (List.map SRecord.cells r1.Txn.Records)), .c (.sl (List.map cI64 r1.Txn.Vector)), .c (.val (.int .i64 r1.Done)), .c (.val (.int .i64 r1.Left))] 30), (1, .box [.c (.val (.int .i64 a1.Epoch)), .c (.val (.int .i64 a1.Id)), .c (.sl (List.map cI64 a1.Vector)), .c (.val (.int .i64 a1.Out)), .c (.val (.int .i64 a1.Begin)), .c (.sl (List.map SRecord.cells a1.Records)), .c (.sl (List.map SPiece.cells a1.Pieces)), .c (.val (.int .u32 a1.Graph))] 41), (2, .box [.c (.val (.int .i64 0)), .c (.val (.int .i64 0)), .c (.val (.int .i64 0)), .c (.val (.int .i64 0)), .c (.val (.slice none 0 0)), .c (.val (.int .i64 0)), .c (.val (.int .i64 0)), .c (.val (.int .i64 0)), .c (.val (.slice none 0 0)), .c (.val (.slice none 0 0)), .c (.val (.int .i64 0)), .c (.val (.int .i64 0))] 30), (3, .box [.c (.val (.int .i64 0)), .c (.val (.int .i64 0)), .c (.val (.int .i64 0)), .c (.val (.int .i64 0)), .c (.val (.int .i64 0)), .c (.val (.int .i64 0)), .c (.val (.slice none 0 0)), .c (.val (.slice none 0 0))] 48)], 4⟩ ?_ ?_
      ·skip
       rcases Bool.eq_false_or_eq_true (!(sink_Above a1.Vector r1.Vector)) with h5 | h5
       ·simp (maxSteps := 4000000) only [h5, EVB, eqF, Op.operands, IntKind.bits, descF, sizeF, bytesF, zeroF, seval, reduceCtorEq, ↓reduceIte]
        refine CallK.freshE (sink_Above_t a1.Vector r1.Vector).toO rfl (by first | rfl | (simp only [NM]; done)) (by (repeat' apply And.intro) <;> first | trivial | rfl | omega | (simp only [NM]; omega)) (.inl rfl) (by exact Nat.le_of_ble_eq_true rfl) ?_
        try simp (maxSteps := 4000000) only [h5, EVB, eqF, Op.operands, IntKind.bits, descF, sizeF, bytesF, zeroF, seval, reduceCtorEq, ↓reduceIte]
        try simp only [h5, BM]
        exact Weak.sub' ⟨rfl, rfl, rfl, rfl, rfl, rfl, trivial⟩ ⟨rfl, rfl, rfl, rfl, trivial⟩ (Nat.le_of_ble_eq_true rfl)
       ·rcases Bool.eq_false_or_eq_true (decide (a1.Out ≤ r1.Len)) with h6 | h6
        ·simp (maxSteps := 4000000) only [h5, h6, EVB, eqF, Op.operands, IntKind.bits, descF, sizeF, bytesF, zeroF, seval, reduceCtorEq, ↓reduceIte]
         refine CallK.freshE (sink_Above_t a1.Vector r1.Vector).toO rfl (by first | rfl | (simp only [NM]; done)) (by (repeat' apply And.intro) <;> first | trivial | rfl | omega | (simp only [NM]; omega)) (.inl rfl) (by exact Nat.le_of_ble_eq_true rfl) ?_
         try simp (maxSteps := 4000000) only [h5, h6, EVB, eqF, Op.operands, IntKind.bits, descF, sizeF, bytesF, zeroF, seval, reduceCtorEq, ↓reduceIte]
         try simp only [h5, h6, BM]
         exact Weak.sub' ⟨rfl, rfl, rfl, rfl, rfl, rfl, trivial⟩ ⟨rfl, rfl, rfl, rfl, trivial⟩ (Nat.le_of_ble_eq_true rfl)
        ·simp (maxSteps := 4000000) only [h5, h6, EVB, eqF, Op.operands, IntKind.bits, descF, sizeF, bytesF, zeroF, seval, reduceCtorEq, ↓reduceIte]
         refine CallK.freshE (sink_Above_t a1.Vector r1.Vector).toO rfl (by first | rfl | (simp only [NM]; done)) (by (repeat' apply And.intro) <;> first | trivial | rfl | omega | (simp only [NM]; omega)) (.inl rfl) (by exact Nat.le_of_ble_eq_true rfl) ?_
         try simp (maxSteps := 4000000) only [h5, h6, EVB, eqF, Op.operands, IntKind.bits, descF, sizeF, bytesF, zeroF, seval, reduceCtorEq, ↓reduceIte]
         try simp only [h5, h6, BM]
         exact Weak.sub' ⟨rfl, rfl, rfl, rfl, rfl, rfl, trivial⟩ ⟨rfl, rfl, rfl, rfl, trivial⟩ (Nat.le_of_ble_eq_true rfl)
      ·skip
       refine go_cond (by rfl) (fun h7 => ?_) (fun h7 => ?_)
       ·have gh7 := h7
        try simp only [GN, beq_iff_eq, beq_eq_false_iff_ne, bne_iff_ne, bne_eq_false_iff_eq] at gh7
        simp only [h7, cond_true, cond_false] at hx0
        refine go_seq ?_
        refine go_regionJ hR ⟨[(2, .ptr 0 0), (4, .ptr 2 0), (5, .ptr 3 0)], [(0, .box [.c (.val (.int .i64 r1.Phase)), .c (.val (.int .i64 r1.Epoch)), .c (.val (.int .i64 (if a1.Id > r1.Id then a1.Id else r1.Id))), .c (.val (.int .i64 r1.Len)), .c (.sl (List.map cI64 r1.Vector)), .c (.val (.int .i64 r1.Txn.Epoch)), .c (.val (.int .i64 r1.Txn.Id)), .c (.val (.int .i64 r1.Txn.Begin)), .c (.sl (List.map SRecord.cells r1.Txn.Records)), .c (.sl (List.map cI64 r1.Txn.Vector)), .c (.val (.int .i64 r1.Done)), .c (.val (.int .i64 r1.Left))] 30), (2, .box [.c (.val (.int .i64 0)), .c (.val (.int .i64 0)), .c (.val (.int .i64 0)), .c (.val (.int .i64 0)), .c (.val (.slice none 0 0)), .c (.val (.int .i64 0)), .c (.val (.int .i64 0)), .c (.val (.int .i64 0)), .c (.val (.slice none 0 0)), .c (.val (.slice none 0 0)), .c (.val (.int .i64 0)), .c (.val (.int .i64 0))] 30), (3, .box [.c (.val (.int .i64 0)), .c (.val (.int .i64 0)), .c (.val (.int .i64 0)), .c (.val (.int .i64 0)), .c (.val (.int .i64 0)), .c (.val (.int .i64 0)), .c (.val (.slice none 0 0)), .c (.val (.slice none 0 0))] 48)], 4⟩ ?_ ?_
        ·skip
         simp only [EVB, eqF, Op.operands, IntKind.bits, descF, sizeF, bytesF, zeroF, seval, reduceCtorEq, ↓reduceIte]
         exact Weak.sub' ⟨rfl, rfl, rfl, trivial⟩ ⟨rfl, rfl, rfl, trivial⟩ (Nat.le_of_ble_eq_true rfl)
        ·skip
         refine go_seq ?_
         refine go_regionJ hR ⟨[(4, .ptr 2 0), (5, .ptr 3 0)], [(2, .box [.c (.val (.int .i64 r1.Phase)), .c (.val (.int .i64 r1.Epoch)), .c (.val (.int .i64 (if a1.Id > r1.Id then a1.Id else r1.Id))), .c (.val (.int .i64 r1.Len)), .c (.sl (List.map cI64 r1.Vector)), .c (.val (.int .i64 r1.Txn.Epoch)), .c (.val (.int .i64 r1.Txn.Id)), .c (.val (.int .i64 r1.Txn.Begin)), .c (.sl (List.map SRecord.cells r1.Txn.Records)), .c (.sl (List.map cI64 r1.Txn.Vector)), .c (.val (.int .i64 r1.Done)), .c (.val (.int .i64 r1.Left))] 30), (3, .box [.c (.val (.int .i64 0)), .c (.val (.int .i64 0)), .c (.val (.int .i64 0)), .c (.val (.int .i64 0)), .c (.val (.int .i64 0)), .c (.val (.int .i64 0)), .c (.val (.slice none 0 0)), .c (.val (.slice none 0 0))] 48)], 4⟩ ?_ ?_
         ·skip
          simp only [EVB, eqF, Op.operands, IntKind.bits, descF, sizeF, bytesF, zeroF, seval, reduceCtorEq, ↓reduceIte]
          exact Weak.sub' ⟨rfl, rfl, trivial⟩ ⟨rfl, rfl, trivial⟩ (Nat.le_of_ble_eq_true rfl)
         ·skip
          subst hx0
          refine go_return ttOk (fun _ h => h) rfl ?_ ?_
          ·exact (by (repeat' apply And.intro) <;> first | trivial | exact Nat.le_of_ble_eq_true rfl | omega | (simp only [NM]; omega))
          ·first | rfl | (simp only [NM, CELLS] <;> rfl)
       ·have gh7 := h7
        try simp only [GN, beq_iff_eq, beq_eq_false_iff_ne, bne_iff_ne, bne_eq_false_iff_eq] at gh7
        simp only [h7, cond_true, cond_false] at hx0
        refine go_skip ?_
        refine go_seq ?_
        refine go_seq ?_
        refine go_regionJ hR ⟨[(2, .ptr 0 0), (3, .ptr 1 0), (4, .ptr 2 0), (5, .ptr 3 0), (6, .c (.val (.int .i64 (if a1.Id > r1.Id then a1.Id else r1.Id)))), (59, .c (.val (.bool ((if a1.Id > r1.Id then a1.Id else r1.Id) == 9007199254740992))))], [(0, .box [.c (.val (.int .i64 r1.Phase)), .c (.val (.int .i64 r1.Epoch)), .c (.val (.int .i64 r1.Id)), .c (.val (.int .i64 r1.Len)), .c (.sl (List.map cI64 r1.Vector)), .c (.val (.int .i64 r1.Txn.Epoch)), .c (.val (.int .i64 r1.Txn.Id)), .c (.val (.int .i64 r1.Txn.Begin)), .c (.sl (List.map SRecord.cells r1.Txn.Records)), .c (.sl (List.map cI64 r1.Txn.Vector)), .c (.val (.int .i64 r1.Done)), .c (.val (.int .i64 r1.Left))] 30), (1, .box [.c (.val (.int .i64 a1.Epoch)), .c (.val (.int .i64 a1.Id)), .c (.sl (List.map cI64 a1.Vector)), .c (.val (.int .i64 a1.Out)), .c (.val (.int .i64 a1.Begin)), .c (.sl (List.map SRecord.cells a1.Records)), .c (.sl (List.map SPiece.cells a1.Pieces)), .c (.val (.int .u32 a1.Graph))] 41), (2, .box [.c (.val (.int .i64 0)), .c (.val (.int .i64 0)), .c (.val (.int .i64 0)), .c (.val (.int .i64 0)), .c (.val (.slice none 0 0)), .c (.val (.int .i64 0)), .c (.val (.int .i64 0)), .c (.val (.int .i64 0)), .c (.val (.slice none 0 0)), .c (.val (.slice none 0 0)), .c (.val (.int .i64 0)), .c (.val (.int .i64 0))] 30), (3, .box [.c (.val (.int .i64 0)), .c (.val (.int .i64 0)), .c (.val (.int .i64 0)), .c (.val (.int .i64 0)), .c (.val (.int .i64 0)), .c (.val (.int .i64 0)), .c (.val (.slice none 0 0)), .c (.val (.slice none 0 0))] 48)], 4⟩ ?_ ?_
        ·skip
         simp only [EVB, eqF, Op.operands, IntKind.bits, descF, sizeF, bytesF, zeroF, seval, reduceCtorEq, ↓reduceIte]
         exact Weak.sub' ⟨rfl, rfl, rfl, rfl, rfl, rfl, trivial⟩ ⟨rfl, rfl, rfl, rfl, trivial⟩ (Nat.le_of_ble_eq_true rfl)
        ·skip
         refine go_cond (by rfl) (fun h8 => ?_) (fun h8 => ?_)
         ·have gh8 := h8
          try simp only [GN, beq_iff_eq, beq_eq_false_iff_ne, bne_iff_ne, bne_eq_false_iff_eq] at gh8
          simp only [h8, cond_true, cond_false] at hx0
          refine go_seq ?_
          refine go_regionJ hR ⟨[(4, .ptr 2 0), (5, .ptr 3 0)], [(2, .box [.c (.val (.int .i64 r1.Phase)), .c (.val (.int .i64 r1.Epoch)), .c (.val (.int .i64 r1.Id)), .c (.val (.int .i64 r1.Len)), .c (.sl (List.map cI64 r1.Vector)), .c (.val (.int .i64 r1.Txn.Epoch)), .c (.val (.int .i64 r1.Txn.Id)), .c (.val (.int .i64 r1.Txn.Begin)), .c (.sl (List.map SRecord.cells r1.Txn.Records)), .c (.sl (List.map cI64 r1.Txn.Vector)), .c (.val (.int .i64 r1.Done)), .c (.val (.int .i64 r1.Left))] 30), (3, .box [.c (.val (.int .i64 0)), .c (.val (.int .i64 0)), .c (.val (.int .i64 0)), .c (.val (.int .i64 0)), .c (.val (.int .i64 0)), .c (.val (.int .i64 0)), .c (.val (.slice none 0 0)), .c (.val (.slice none 0 0))] 48)], 4⟩ ?_ ?_
          ·skip
           simp only [EVB, eqF, Op.operands, IntKind.bits, descF, sizeF, bytesF, zeroF, seval, reduceCtorEq, ↓reduceIte]
           exact Weak.sub' ⟨rfl, rfl, trivial⟩ ⟨rfl, rfl, trivial⟩ (Nat.le_of_ble_eq_true rfl)
          ·skip
           subst hx0
           refine go_return ttOk (fun _ h => h) rfl ?_ ?_
           ·exact (by (repeat' apply And.intro) <;> first | trivial | exact Nat.le_of_ble_eq_true rfl | omega | (simp only [NM]; omega))
           ·first | rfl | (simp only [NM, CELLS] <;> rfl)
         ·have gh8 := h8
          try simp only [GN, beq_iff_eq, beq_eq_false_iff_ne, bne_iff_ne, bne_eq_false_iff_eq] at gh8
          simp only [h8, cond_true, cond_false] at hx0
          refine go_skip ?_
          refine go_seq ?_
          refine go_regionJ hR ⟨[(2, .ptr 0 0), (3, .ptr 1 0), (4, .ptr 2 0), (5, .ptr 3 0)], [(0, .box [.c (.val (.int .i64 r1.Phase)), .c (.val (.int .i64 r1.Epoch)), .c (.val (.int .i64 (IntKind.i64.wrap ((if a1.Id > r1.Id then a1.Id else r1.Id) + 1)))), .c (.val (.int .i64 r1.Len)), .c (.sl (List.map cI64 r1.Vector)), .c (.val (.int .i64 r1.Txn.Epoch)), .c (.val (.int .i64 r1.Txn.Id)), .c (.val (.int .i64 r1.Txn.Begin)), .c (.sl (List.map SRecord.cells r1.Txn.Records)), .c (.sl (List.map cI64 r1.Txn.Vector)), .c (.val (.int .i64 r1.Done)), .c (.val (.int .i64 r1.Left))] 30), (1, .box [.c (.val (.int .i64 a1.Epoch)), .c (.val (.int .i64 a1.Id)), .c (.sl (List.map cI64 a1.Vector)), .c (.val (.int .i64 a1.Out)), .c (.val (.int .i64 a1.Begin)), .c (.sl (List.map SRecord.cells a1.Records)), .c (.sl (List.map SPiece.cells a1.Pieces)), .c (.val (.int .u32 a1.Graph))] 41), (2, .box [.c (.val (.int .i64 0)), .c (.val (.int .i64 0)), .c (.val (.int .i64 0)), .c (.val (.int .i64 0)), .c (.val (.slice none 0 0)), .c (.val (.int .i64 0)), .c (.val (.int .i64 0)), .c (.val (.int .i64 0)), .c (.val (.slice none 0 0)), .c (.val (.slice none 0 0)), .c (.val (.int .i64 0)), .c (.val (.int .i64 0))] 30), (3, .box [.c (.val (.int .i64 0)), .c (.val (.int .i64 0)), .c (.val (.int .i64 0)), .c (.val (.int .i64 0)), .c (.val (.int .i64 0)), .c (.val (.int .i64 0)), .c (.val (.slice none 0 0)), .c (.val (.slice none 0 0))] 48)], 4⟩ ?_ ?_
          ·skip
           simp only [EVB, eqF, Op.operands, IntKind.bits, descF, sizeF, bytesF, zeroF, seval, reduceCtorEq, ↓reduceIte]
           exact Weak.sub' ⟨rfl, rfl, rfl, rfl, trivial⟩ ⟨rfl, rfl, rfl, rfl, trivial⟩ (Nat.le_of_ble_eq_true rfl)
          ·skip
           refine go_seq ?_
           obtain ⟨r9, hr9, hx0⟩ := letIn_ex hx0
           have Cr9 := (manifest_Txn_t a1 r1.Epoch (by (try simp only [SZD]); (repeat' apply And.intro) <;> first | assumption | omega | simp_all))
           simp only [hr9] at Cr9
           have zr9 := manifest_Txn_sz a1 r1.Epoch (by (try simp only [SZD]); (repeat' apply And.intro) <;> first | assumption | omega | simp_all)
           simp only [hr9, SZD] at zr9
           obtain ⟨zz20, zz21⟩ := zr9
           refine go_regionJ hR ⟨[(2, .ptr 0 0), (4, .ptr 2 0), (5, .ptr 3 0), (7, .ptr 4 0)], [(0, .box [.c (.val (.int .i64 r1.Phase)), .c (.val (.int .i64 r1.Epoch)), .c (.val (.int .i64 (IntKind.i64.wrap ((if a1.Id > r1.Id then a1.Id else r1.Id) + 1)))), .c (.val (.int .i64 r1.Len)), .c (.sl (List.map cI64 r1.Vector)), .c (.val (.int .i64 r1.Txn.Epoch)), .c (.val (.int .i64 r1.Txn.Id)), .c (.val (.int .i64 r1.Txn.Begin)), .c (.sl (List.map SRecord.cells r1.Txn.Records)), .c (.sl (List.map cI64 r1.Txn.Vector)), .c (.val (.int .i64 r1.Done)), .c (.val (.int .i64 r1.Left))] 30), (2, .box [.c (.val (.int .i64 0)), .c (.val (.int .i64 0)), .c (.val (.int .i64 0)), .c (.val (.int .i64 0)), .c (.val (.slice none 0 0)), .c (.val (.int .i64 0)), .c (.val (.int .i64 0)), .c (.val (.int .i64 0)), .c (.val (.slice none 0 0)), .c (.val (.slice none 0 0)), .c (.val (.int .i64 0)), .c (.val (.int .i64 0))] 30), (3, .box [.c (.val (.int .i64 0)), .c (.val (.int .i64 0)), .c (.val (.int .i64 0)), .c (.val (.int .i64 0)), .c (.val (.int .i64 0)), .c (.val (.int .i64 0)), .c (.val (.slice none 0 0)), .c (.val (.slice none 0 0))] 48), (4, .box [.c (.val (.int .i64 r9.Epoch)), .c (.val (.int .i64 r9.Id)), .c (.val (.int .i64 r9.Begin)), .c (.sl (List.map SRecord.cells r9.Records)), .c (.sl (List.map cI64 r9.Vector))] 28)], 5⟩ ?_ ?_
           ·skip
            simp only [EVB, eqF, Op.operands, IntKind.bits, descF, sizeF, bytesF, zeroF, seval, reduceCtorEq, ↓reduceIte]
            refine CallK.freshE Cr9.toO rfl (by first | rfl | (simp only [NM]; done)) (by (repeat' apply And.intro) <;> first | trivial | rfl | omega | (simp only [NM]; omega)) (.inl rfl) (by exact Nat.le_of_ble_eq_true rfl) ?_
            try simp only [EVB, eqF, Op.operands, IntKind.bits, descF, sizeF, bytesF, zeroF, seval, reduceCtorEq, ↓reduceIte]
            exact Weak.sub' ⟨rfl, rfl, rfl, rfl, trivial⟩ ⟨rfl, rfl, rfl, rfl, trivial⟩ (Nat.le_of_ble_eq_true rfl)
           ·skip
            refine go_seq ?_
            refine go_regionJ hR ⟨[(2, .ptr 0 0), (4, .ptr 2 0), (5, .ptr 3 0), (7, .ptr 4 0)], [(0, .box [.c (.val (.int .i64 r1.Phase)), .c (.val (.int .i64 r1.Epoch)), .c (.val (.int .i64 (IntKind.i64.wrap ((if a1.Id > r1.Id then a1.Id else r1.Id) + 1)))), .c (.val (.int .i64 r1.Len)), .c (.sl (List.map cI64 r1.Vector)), .c (.val (.int .i64 r1.Txn.Epoch)), .c (.val (.int .i64 r1.Txn.Id)), .c (.val (.int .i64 r1.Txn.Begin)), .c (.sl (List.map SRecord.cells r1.Txn.Records)), .c (.sl (List.map cI64 r1.Txn.Vector)), .c (.val (.int .i64 r1.Done)), .c (.val (.int .i64 r1.Left))] 30), (2, .box [.c (.val (.int .i64 0)), .c (.val (.int .i64 0)), .c (.val (.int .i64 0)), .c (.val (.int .i64 0)), .c (.val (.slice none 0 0)), .c (.val (.int .i64 0)), .c (.val (.int .i64 0)), .c (.val (.int .i64 0)), .c (.val (.slice none 0 0)), .c (.val (.slice none 0 0)), .c (.val (.int .i64 0)), .c (.val (.int .i64 0))] 30), (3, .box [.c (.val (.int .i64 0)), .c (.val (.int .i64 0)), .c (.val (.int .i64 0)), .c (.val (.int .i64 0)), .c (.val (.int .i64 0)), .c (.val (.int .i64 0)), .c (.val (.slice none 0 0)), .c (.val (.slice none 0 0))] 48), (4, .box [.c (.val (.int .i64 r9.Epoch)), .c (.val (.int .i64 (IntKind.i64.wrap ((if a1.Id > r1.Id then a1.Id else r1.Id) + 1)))), .c (.val (.int .i64 r9.Begin)), .c (.sl (List.map SRecord.cells r9.Records)), .c (.sl (List.map cI64 r9.Vector))] 28)], 5⟩ ?_ ?_
            ·skip
             simp only [EVB, eqF, Op.operands, IntKind.bits, descF, sizeF, bytesF, zeroF, seval, reduceCtorEq, ↓reduceIte]
             exact Weak.sub' ⟨rfl, rfl, rfl, rfl, trivial⟩ ⟨rfl, rfl, rfl, rfl, trivial⟩ (Nat.le_of_ble_eq_true rfl)
            ·skip
             refine go_seq ?_
             obtain ⟨r10, hr10, hx0⟩ := letIn_ex hx0
             have Cr10 := (coord_pre_t (SCoord.mk r1.Phase r1.Epoch (IntKind.i64.wrap ((if a1.Id > r1.Id then a1.Id else r1.Id) + 1)) r1.Len r1.Vector r1.Txn r1.Done r1.Left) (STxn.mk r9.Epoch (IntKind.i64.wrap ((if a1.Id > r1.Id then a1.Id else r1.Id) + 1)) r9.Begin r9.Records r9.Vector) (by (try simp only [SZD]); (repeat' apply And.intro) <;> first | assumption | omega | simp_all) (by (try simp only [SZD]); (repeat' apply And.intro) <;> first | assumption | omega | simp_all))
             simp only [hr10] at Cr10
             have zr10 := coord_pre_sz (SCoord.mk r1.Phase r1.Epoch (IntKind.i64.wrap ((if a1.Id > r1.Id then a1.Id else r1.Id) + 1)) r1.Len r1.Vector r1.Txn r1.Done r1.Left) (STxn.mk r9.Epoch (IntKind.i64.wrap ((if a1.Id > r1.Id then a1.Id else r1.Id) + 1)) r9.Begin r9.Records r9.Vector) (by (try simp only [SZD]); (repeat' apply And.intro) <;> first | assumption | omega | simp_all) (by (try simp only [SZD]); (repeat' apply And.intro) <;> first | assumption | omega | simp_all)
             simp only [hr10, SZD] at zr10
             obtain ⟨⟨zz22, ⟨zz23, zz24⟩⟩, ⟨zz25, zz26⟩⟩ := zr10
             refine go_regionJ hR ⟨[(4, .ptr 2 0), (5, .ptr 3 0)], [(2, .box [.c (.val (.int .i64 r10.1.Phase)), .c (.val (.int .i64 r10.1.Epoch)), .c (.val (.int .i64 r10.1.Id)), .c (.val (.int .i64 r10.1.Len)), .c (.sl (List.map cI64 r10.1.Vector)), .c (.val (.int .i64 r10.1.Txn.Epoch)), .c (.val (.int .i64 r10.1.Txn.Id)), .c (.val (.int .i64 r10.1.Txn.Begin)), .c (.sl (List.map SRecord.cells r10.1.Txn.Records)), .c (.sl (List.map cI64 r10.1.Txn.Vector)), .c (.val (.int .i64 r10.1.Done)), .c (.val (.int .i64 r10.1.Left))] 30), (3, .box [.c (.val (.int .i64 r10.2.Kind)), .c (.val (.int .i64 r10.2.Id)), .c (.val (.int .i64 r10.2.Begin)), .c (.val (.int .i64 r10.2.Txn.Epoch)), .c (.val (.int .i64 r10.2.Txn.Id)), .c (.val (.int .i64 r10.2.Txn.Begin)), .c (.sl (List.map SRecord.cells r10.2.Txn.Records)), .c (.sl (List.map cI64 r10.2.Txn.Vector))] 48)], 5⟩ ?_ ?_
             ·skip
              simp only [EVB, eqF, Op.operands, IntKind.bits, descF, sizeF, bytesF, zeroF, seval, reduceCtorEq, ↓reduceIte]
              refine CallK.freshE Cr10.toO rfl (by first | rfl | (simp only [NM]; done)) (by (repeat' apply And.intro) <;> first | trivial | rfl | omega | (simp only [NM]; omega)) (.inl rfl) (by exact Nat.le_of_ble_eq_true rfl) ?_
              try simp only [EVB, eqF, Op.operands, IntKind.bits, descF, sizeF, bytesF, zeroF, seval, reduceCtorEq, ↓reduceIte]
              exact Weak.sub' ⟨rfl, rfl, trivial⟩ ⟨rfl, rfl, trivial⟩ (Nat.le_of_ble_eq_true rfl)
             ·skip
              subst hx0
              refine go_return ttOk (fun _ h => h) rfl ?_ ?_
              ·exact (by (repeat' apply And.intro) <;> first | trivial | exact Nat.le_of_ble_eq_true rfl | omega | (simp only [NM]; omega))
              ·first | rfl | (simp only [NM, CELLS] <;> rfl)
theorem coord_Resume_sz (a0 : SCoord) (a1 : SManifest) (z0 : SCoord.Sz a0) (z1 : SManifest.Sz a1) : SCoord.Sz ((coord_Resume a0 a1).1) ∧ SDo.Sz ((coord_Resume a0 a1).2) := by
 obtain ⟨res, hx0⟩ : ∃ r, coord_Resume a0 a1 = r := ⟨_, rfl⟩
 simp only [hx0]
 unfold coord_Resume at hx0
 try simp only [SZD] at z0 z1
 obtain ⟨zz27, ⟨zz28, zz29⟩⟩ := z0
 obtain ⟨zz30, zz31, zz32⟩ := z1
 obtain ⟨r1, hr1, hx0⟩ := letIn_ex hx0
 have zr1 := coord_clone_sz a0 (by (try simp only [SZD]); (repeat' apply And.intro) <;> first | assumption | omega | simp_all)
 simp only [hr1, SZD] at zr1
 obtain ⟨zz33, ⟨zz34, zz35⟩⟩ := zr1
 rcases Bool.eq_false_or_eq_true (((!(coord_in r1 0)) || ((manifest_Check a1) != 0)) || (!(manifest_Less (manifest_Key a1) (STxnKey.mk r1.Epoch 9007199254740992)))) with h4 | h4
 ·simp only [h4, cond_true, cond_false] at hx0
  subst hx0
  exact (by (try simp only [SZD]); (repeat' apply And.intro) <;> first | assumption | omega | simp_all)
 ·simp only [h4, cond_true, cond_false] at hx0
  rcases Bool.eq_false_or_eq_true (((!(sink_Above a1.Vector r1.Vector)) || (decide (a1.Out ≤ r1.Len))) || (decide (a1.Begin > r1.Len))) with h7 | h7
  ·simp only [h7, cond_true, cond_false] at hx0
   subst hx0
   exact (by (try simp only [SZD]); (repeat' apply And.intro) <;> first | assumption | omega | simp_all)
  ·simp only [h7, cond_true, cond_false] at hx0
   rcases Bool.eq_false_or_eq_true ((if a1.Id > r1.Id then a1.Id else r1.Id) == 9007199254740992) with h8 | h8
   ·simp only [h8, cond_true, cond_false] at hx0
    subst hx0
    exact (by (try simp only [SZD]); (repeat' apply And.intro) <;> first | assumption | omega | simp_all)
   ·simp only [h8, cond_true, cond_false] at hx0
    obtain ⟨r9, hr9, hx0⟩ := letIn_ex hx0
    have zr9 := manifest_Txn_sz a1 r1.Epoch (by (try simp only [SZD]); (repeat' apply And.intro) <;> first | assumption | omega | simp_all)
    simp only [hr9, SZD] at zr9
    obtain ⟨zz36, zz37⟩ := zr9
    obtain ⟨r10, hr10, hx0⟩ := letIn_ex hx0
    have zr10 := coord_pre_sz (SCoord.mk r1.Phase r1.Epoch (IntKind.i64.wrap ((if a1.Id > r1.Id then a1.Id else r1.Id) + 1)) r1.Len r1.Vector r1.Txn r1.Done r1.Left) (STxn.mk r9.Epoch (IntKind.i64.wrap ((if a1.Id > r1.Id then a1.Id else r1.Id) + 1)) r9.Begin r9.Records r9.Vector) (by (try simp only [SZD]); (repeat' apply And.intro) <;> first | assumption | omega | simp_all) (by (try simp only [SZD]); (repeat' apply And.intro) <;> first | assumption | omega | simp_all)
    simp only [hr10, SZD] at zr10
    obtain ⟨⟨zz38, ⟨zz39, zz40⟩⟩, ⟨zz41, zz42⟩⟩ := zr10
    subst hx0
    exact (by (try simp only [SZD]); (repeat' apply And.intro) <;> first | assumption | omega | simp_all)

def coord_knows_c1 (a0 : Int) : Bool :=
  (!(coord_num a0))
set_option maxRecDepth 10000 in
set_option maxHeartbeats 8000000 in
theorem coord_knows_c1_t (a0 : Int) : FnP Try.prog 78 [.c (.val (.int .i64 a0))] (.c (.val (.bool (coord_knows_c1 a0)))) := by
 refine FnP.intro (tt := tt) Try.func78 rfl (by kernel_rfl) (by simp [Try.ntmps78]) fun w0 A hA => ?_
 have hR := reckB_ok eqOk ttOk
 obtain ⟨res, hx0⟩ : ∃ r, coord_knows_c1 a0 = r := ⟨_, rfl⟩
 simp only [hx0]
 unfold coord_knows_c1 at hx0
 simp only [argT, Try.ntmps78]
 refine go_seq ?_
 refine go_regionJ hR ⟨[(0, .c (.val (.int .i64 a0)))], [], 0⟩ ?_ ?_
 ·skip
  simp only [EVB, eqF, Op.operands, IntKind.bits, descF, sizeF, bytesF, zeroF, seval, reduceCtorEq, ↓reduceIte]
  exact Weak.sub' ⟨rfl, trivial⟩ trivial (Nat.le_of_ble_eq_true rfl)
 ·skip
  refine go_seq ?_
  refine go_regionJ hR ⟨[(2, .c (.val (.bool (!(coord_num a0)))))], [], 0⟩ ?_ ?_
  ·skip
   simp only [EVB, eqF, Op.operands, IntKind.bits, descF, sizeF, bytesF, zeroF, seval, reduceCtorEq, ↓reduceIte]
   refine CallK.freshE (coord_num_t a0).toO rfl (by first | rfl | (simp only [NM]; done)) (by (repeat' apply And.intro) <;> first | trivial | rfl | omega | (simp only [NM]; omega)) (.inl rfl) (by exact Nat.le_of_ble_eq_true rfl) ?_
   try simp only [EVB, eqF, Op.operands, IntKind.bits, descF, sizeF, bytesF, zeroF, seval, reduceCtorEq, ↓reduceIte]
   exact Weak.sub' ⟨rfl, trivial⟩ trivial (Nat.le_of_ble_eq_true rfl)
  ·skip
   subst hx0
   refine go_return ttOk (fun _ h => h) rfl ?_ ?_
   ·exact (by (repeat' apply And.intro) <;> first | trivial | exact Nat.le_of_ble_eq_true rfl | omega | (simp only [NM]; omega))
   ·first | rfl | (simp only [NM, CELLS] <;> rfl)

def coord_knows (a0 : SCoord) (a1 : Int) (a2 : (List Int)) : SCoord :=
  (bif ((((!(coord_num a1)) || (decide (a1 < a0.Len))) || (!(sink_Above a2 a0.Vector))) || (slices_ContainsFunc_int64 a2 coord_knows_c1)) then a0 else letIn (slices_Clone_int64 a2) fun r5 => (SCoord.mk a0.Phase a0.Epoch a0.Id a1 r5 a0.Txn a0.Done a0.Left))
set_option maxRecDepth 10000 in
set_option maxHeartbeats 8000000 in
theorem coord_knows_t (a0 : SCoord) (a1 : Int) (a2 : (List Int)) (z0 : SCoord.Sz a0) (z2 : a2.length ≤ 4294967296) : FnP Try.prog 62 [.agg [.c (.val (.int .i64 a0.Phase)), .c (.val (.int .i64 a0.Epoch)), .c (.val (.int .i64 a0.Id)), .c (.val (.int .i64 a0.Len)), .c (.sl (List.map cI64 a0.Vector)), .c (.val (.int .i64 a0.Txn.Epoch)), .c (.val (.int .i64 a0.Txn.Id)), .c (.val (.int .i64 a0.Txn.Begin)), .c (.sl (List.map SRecord.cells a0.Txn.Records)), .c (.sl (List.map cI64 a0.Txn.Vector)), .c (.val (.int .i64 a0.Done)), .c (.val (.int .i64 a0.Left))], .c (.val (.int .i64 a1)), .c (.sl (List.map cI64 a2))] (.agg [.c (.val (.int .i64 ((coord_knows a0 a1 a2).Phase))), .c (.val (.int .i64 ((coord_knows a0 a1 a2).Epoch))), .c (.val (.int .i64 ((coord_knows a0 a1 a2).Id))), .c (.val (.int .i64 ((coord_knows a0 a1 a2).Len))), .c (.sl (List.map cI64 ((coord_knows a0 a1 a2).Vector))), .c (.val (.int .i64 (((coord_knows a0 a1 a2).Txn).Epoch))), .c (.val (.int .i64 (((coord_knows a0 a1 a2).Txn).Id))), .c (.val (.int .i64 (((coord_knows a0 a1 a2).Txn).Begin))), .c (.sl (List.map SRecord.cells (((coord_knows a0 a1 a2).Txn).Records))), .c (.sl (List.map cI64 (((coord_knows a0 a1 a2).Txn).Vector))), .c (.val (.int .i64 ((coord_knows a0 a1 a2).Done))), .c (.val (.int .i64 ((coord_knows a0 a1 a2).Left)))]) := by
 refine FnP.intro (tt := tt) Try.func62 rfl (by kernel_rfl) (by simp [Try.ntmps62]) fun w0 A hA => ?_
 have hR := reckB_ok eqOk ttOk
 obtain ⟨res, hx0⟩ : ∃ r, coord_knows a0 a1 a2 = r := ⟨_, rfl⟩
 simp only [hx0]
 unfold coord_knows at hx0
 simp only [argT, Try.ntmps62]
 try simp only [SZD] at z0 z2
 obtain ⟨zz6, ⟨zz7, zz8⟩⟩ := z0
 refine go_seq ?_
 refine go_regionJ hR ⟨[(1, .c (.val (.int .i64 a1))), (2, .c (.sl (List.map cI64 a2))), (3, .ptr 0 0), (6, .ptr 1 0)], [(0, .box [.c (.val (.int .i64 a0.Phase)), .c (.val (.int .i64 a0.Epoch)), .c (.val (.int .i64 a0.Id)), .c (.val (.int .i64 a0.Len)), .c (.sl (List.map cI64 a0.Vector)), .c (.val (.int .i64 a0.Txn.Epoch)), .c (.val (.int .i64 a0.Txn.Id)), .c (.val (.int .i64 a0.Txn.Begin)), .c (.sl (List.map SRecord.cells a0.Txn.Records)), .c (.sl (List.map cI64 a0.Txn.Vector)), .c (.val (.int .i64 a0.Done)), .c (.val (.int .i64 a0.Left))] 30), (1, .box [.c (.val (.int .i64 0)), .c (.val (.int .i64 0)), .c (.val (.int .i64 0)), .c (.val (.int .i64 0)), .c (.val (.slice none 0 0)), .c (.val (.int .i64 0)), .c (.val (.int .i64 0)), .c (.val (.int .i64 0)), .c (.val (.slice none 0 0)), .c (.val (.slice none 0 0)), .c (.val (.int .i64 0)), .c (.val (.int .i64 0))] 30)], 2⟩ ?_ ?_
 ·skip
  simp only [EVB, eqF, Op.operands, IntKind.bits, descF, sizeF, bytesF, zeroF, seval, reduceCtorEq, ↓reduceIte]
  exact Weak.sub' ⟨rfl, rfl, rfl, rfl, trivial⟩ ⟨rfl, rfl, trivial⟩ (Nat.le_of_ble_eq_true rfl)
 ·skip
  refine go_seq ?_
  refine go_seq ?_
  refine go_regionJ hR ⟨[(1, .c (.val (.int .i64 a1))), (2, .c (.sl (List.map cI64 a2))), (3, .ptr 0 0), (6, .ptr 1 0), (26, .c (.val (.bool ((((!(coord_num a1)) || (decide (a1 < a0.Len))) || (!(sink_Above a2 a0.Vector))) || (slices_ContainsFunc_int64 a2 coord_knows_c1)))))], [(0, .box [.c (.val (.int .i64 a0.Phase)), .c (.val (.int .i64 a0.Epoch)), .c (.val (.int .i64 a0.Id)), .c (.val (.int .i64 a0.Len)), .c (.sl (List.map cI64 a0.Vector)), .c (.val (.int .i64 a0.Txn.Epoch)), .c (.val (.int .i64 a0.Txn.Id)), .c (.val (.int .i64 a0.Txn.Begin)), .c (.sl (List.map SRecord.cells a0.Txn.Records)), .c (.sl (List.map cI64 a0.Txn.Vector)), .c (.val (.int .i64 a0.Done)), .c (.val (.int .i64 a0.Left))] 30), (1, .box [.c (.val (.int .i64 0)), .c (.val (.int .i64 0)), .c (.val (.int .i64 0)), .c (.val (.int .i64 0)), .c (.val (.slice none 0 0)), .c (.val (.int .i64 0)), .c (.val (.int .i64 0)), .c (.val (.int .i64 0)), .c (.val (.slice none 0 0)), .c (.val (.slice none 0 0)), .c (.val (.int .i64 0)), .c (.val (.int .i64 0))] 30)], 2⟩ ?_ ?_
  ·skip
   rcases Bool.eq_false_or_eq_true (!(coord_num a1)) with h1 | h1
   ·simp (maxSteps := 4000000) only [h1, EVB, eqF, Op.operands, IntKind.bits, descF, sizeF, bytesF, zeroF, seval, reduceCtorEq, ↓reduceIte]
    refine CallK.freshE (coord_num_t a1).toO rfl (by first | rfl | (simp only [NM]; done)) (by (repeat' apply And.intro) <;> first | trivial | rfl | omega | (simp only [NM]; omega)) (.inl rfl) (by exact Nat.le_of_ble_eq_true rfl) ?_
    try simp (maxSteps := 4000000) only [h1, EVB, eqF, Op.operands, IntKind.bits, descF, sizeF, bytesF, zeroF, seval, reduceCtorEq, ↓reduceIte]
    try simp only [h1, BM]
    exact Weak.sub' ⟨rfl, rfl, rfl, rfl, rfl, trivial⟩ ⟨rfl, rfl, trivial⟩ (Nat.le_of_ble_eq_true rfl)
   ·rcases Bool.eq_false_or_eq_true (decide (a1 < a0.Len)) with h2 | h2
    ·simp (maxSteps := 4000000) only [h1, h2, EVB, eqF, Op.operands, IntKind.bits, descF, sizeF, bytesF, zeroF, seval, reduceCtorEq, ↓reduceIte]
     refine CallK.freshE (coord_num_t a1).toO rfl (by first | rfl | (simp only [NM]; done)) (by (repeat' apply And.intro) <;> first | trivial | rfl | omega | (simp only [NM]; omega)) (.inl rfl) (by exact Nat.le_of_ble_eq_true rfl) ?_
     try simp (maxSteps := 4000000) only [h1, h2, EVB, eqF, Op.operands, IntKind.bits, descF, sizeF, bytesF, zeroF, seval, reduceCtorEq, ↓reduceIte]
     try simp only [h1, h2, BM]
     exact Weak.sub' ⟨rfl, rfl, rfl, rfl, rfl, trivial⟩ ⟨rfl, rfl, trivial⟩ (Nat.le_of_ble_eq_true rfl)
    ·rcases Bool.eq_false_or_eq_true (!(sink_Above a2 a0.Vector)) with h3 | h3
     ·simp (maxSteps := 4000000) only [h1, h2, h3, EVB, eqF, Op.operands, IntKind.bits, descF, sizeF, bytesF, zeroF, seval, reduceCtorEq, ↓reduceIte]
      refine CallK.freshE (coord_num_t a1).toO rfl (by first | rfl | (simp only [NM]; done)) (by (repeat' apply And.intro) <;> first | trivial | rfl | omega | (simp only [NM]; omega)) (.inl rfl) (by exact Nat.le_of_ble_eq_true rfl) ?_
      try simp (maxSteps := 4000000) only [h1, h2, h3, EVB, eqF, Op.operands, IntKind.bits, descF, sizeF, bytesF, zeroF, seval, reduceCtorEq, ↓reduceIte]
      refine CallK.freshE (sink_Above_t a2 a0.Vector).toO rfl (by first | rfl | (simp only [NM]; done)) (by (repeat' apply And.intro) <;> first | trivial | rfl | omega | (simp only [NM]; omega)) (.inl rfl) (by exact Nat.le_of_ble_eq_true rfl) ?_
      try simp (maxSteps := 4000000) only [h1, h2, h3, EVB, eqF, Op.operands, IntKind.bits, descF, sizeF, bytesF, zeroF, seval, reduceCtorEq, ↓reduceIte]
      try simp only [h1, h2, h3, BM]
      exact Weak.sub' ⟨rfl, rfl, rfl, rfl, rfl, trivial⟩ ⟨rfl, rfl, trivial⟩ (Nat.le_of_ble_eq_true rfl)
     ·simp (maxSteps := 4000000) only [h1, h2, h3, EVB, eqF, Op.operands, IntKind.bits, descF, sizeF, bytesF, zeroF, seval, reduceCtorEq, ↓reduceIte]
      refine CallK.freshE (coord_num_t a1).toO rfl (by first | rfl | (simp only [NM]; done)) (by (repeat' apply And.intro) <;> first | trivial | rfl | omega | (simp only [NM]; omega)) (.inl rfl) (by exact Nat.le_of_ble_eq_true rfl) ?_
      try simp (maxSteps := 4000000) only [h1, h2, h3, EVB, eqF, Op.operands, IntKind.bits, descF, sizeF, bytesF, zeroF, seval, reduceCtorEq, ↓reduceIte]
      refine CallK.freshE (sink_Above_t a2 a0.Vector).toO rfl (by first | rfl | (simp only [NM]; done)) (by (repeat' apply And.intro) <;> first | trivial | rfl | omega | (simp only [NM]; omega)) (.inl rfl) (by exact Nat.le_of_ble_eq_true rfl) ?_
      try simp (maxSteps := 4000000) only [h1, h2, h3, EVB, eqF, Op.operands, IntKind.bits, descF, sizeF, bytesF, zeroF, seval, reduceCtorEq, ↓reduceIte]
      refine CallK.freshE (slices_ContainsFunc_int64_t a2 78 coord_knows_c1 coord_knows_c1_t).toO rfl (by first | rfl | (simp only [NM]; done)) (by (repeat' apply And.intro) <;> first | trivial | rfl | omega | (simp only [NM]; omega)) (.inl rfl) (by exact Nat.le_of_ble_eq_true rfl) ?_
      try simp (maxSteps := 4000000) only [h1, h2, h3, EVB, eqF, Op.operands, IntKind.bits, descF, sizeF, bytesF, zeroF, seval, reduceCtorEq, ↓reduceIte]
      try simp only [h1, h2, h3, BM]
      exact Weak.sub' ⟨rfl, rfl, rfl, rfl, rfl, trivial⟩ ⟨rfl, rfl, trivial⟩ (Nat.le_of_ble_eq_true rfl)
  ·skip
   refine go_cond (by rfl) (fun h4 => ?_) (fun h4 => ?_)
   ·have gh4 := h4
    try simp only [GN, beq_iff_eq, beq_eq_false_iff_ne, bne_iff_ne, bne_eq_false_iff_eq] at gh4
    simp only [h4, cond_true, cond_false] at hx0
    refine go_seq ?_
    refine go_regionJ hR ⟨[(6, .ptr 1 0)], [(1, .box [.c (.val (.int .i64 a0.Phase)), .c (.val (.int .i64 a0.Epoch)), .c (.val (.int .i64 a0.Id)), .c (.val (.int .i64 a0.Len)), .c (.sl (List.map cI64 a0.Vector)), .c (.val (.int .i64 a0.Txn.Epoch)), .c (.val (.int .i64 a0.Txn.Id)), .c (.val (.int .i64 a0.Txn.Begin)), .c (.sl (List.map SRecord.cells a0.Txn.Records)), .c (.sl (List.map cI64 a0.Txn.Vector)), .c (.val (.int .i64 a0.Done)), .c (.val (.int .i64 a0.Left))] 30)], 2⟩ ?_ ?_
    ·skip
     simp only [EVB, eqF, Op.operands, IntKind.bits, descF, sizeF, bytesF, zeroF, seval, reduceCtorEq, ↓reduceIte]
     exact Weak.sub' ⟨rfl, trivial⟩ ⟨rfl, trivial⟩ (Nat.le_of_ble_eq_true rfl)
    ·skip
     subst hx0
     refine go_return ttOk (fun _ h => h) rfl ?_ ?_
     ·exact (by (repeat' apply And.intro) <;> first | trivial | exact Nat.le_of_ble_eq_true rfl | omega | (simp only [NM]; omega))
     ·first | rfl | (simp only [NM, CELLS] <;> rfl)
   ·have gh4 := h4
    try simp only [GN, beq_iff_eq, beq_eq_false_iff_ne, bne_iff_ne, bne_eq_false_iff_eq] at gh4
    simp only [h4, cond_true, cond_false] at hx0
    refine go_skip ?_
    refine go_seq ?_
    obtain ⟨r5, hr5, hx0⟩ := letIn_ex hx0
    have Cr5 := (slices_Clone_int64_t a2 (by (try simp only [SZD]); (repeat' apply And.intro) <;> first | assumption | omega | simp_all))
    simp only [hr5] at Cr5
    have zr5 := slices_Clone_int64_sz a2 (by (try simp only [SZD]); (repeat' apply And.intro) <;> first | assumption | omega | simp_all)
    simp only [hr5, SZD] at zr5
    refine go_regionJ hR ⟨[(3, .ptr 0 0), (6, .ptr 1 0)], [(0, .box [.c (.val (.int .i64 a0.Phase)), .c (.val (.int .i64 a0.Epoch)), .c (.val (.int .i64 a0.Id)), .c (.val (.int .i64 a1)), .c (.sl (List.map cI64 r5)), .c (.val (.int .i64 a0.Txn.Epoch)), .c (.val (.int .i64 a0.Txn.Id)), .c (.val (.int .i64 a0.Txn.Begin)), .c (.sl (List.map SRecord.cells a0.Txn.Records)), .c (.sl (List.map cI64 a0.Txn.Vector)), .c (.val (.int .i64 a0.Done)), .c (.val (.int .i64 a0.Left))] 30), (1, .box [.c (.val (.int .i64 0)), .c (.val (.int .i64 0)), .c (.val (.int .i64 0)), .c (.val (.int .i64 0)), .c (.val (.slice none 0 0)), .c (.val (.int .i64 0)), .c (.val (.int .i64 0)), .c (.val (.int .i64 0)), .c (.val (.slice none 0 0)), .c (.val (.slice none 0 0)), .c (.val (.int .i64 0)), .c (.val (.int .i64 0))] 30)], 2⟩ ?_ ?_
    ·skip
     simp only [EVB, eqF, Op.operands, IntKind.bits, descF, sizeF, bytesF, zeroF, seval, reduceCtorEq, ↓reduceIte]
     refine CallK.freshE Cr5.toO rfl (by first | rfl | (simp only [NM]; done)) (by (repeat' apply And.intro) <;> first | trivial | rfl | omega | (simp only [NM]; omega)) (.inl rfl) (by exact Nat.le_of_ble_eq_true rfl) ?_
     try simp only [EVB, eqF, Op.operands, IntKind.bits, descF, sizeF, bytesF, zeroF, seval, reduceCtorEq, ↓reduceIte]
     exact Weak.sub' ⟨rfl, rfl, trivial⟩ ⟨rfl, rfl, trivial⟩ (Nat.le_of_ble_eq_true rfl)
    ·skip
     refine go_seq ?_
     refine go_regionJ hR ⟨[(6, .ptr 1 0)], [(1, .box [.c (.val (.int .i64 a0.Phase)), .c (.val (.int .i64 a0.Epoch)), .c (.val (.int .i64 a0.Id)), .c (.val (.int .i64 a1)), .c (.sl (List.map cI64 r5)), .c (.val (.int .i64 a0.Txn.Epoch)), .c (.val (.int .i64 a0.Txn.Id)), .c (.val (.int .i64 a0.Txn.Begin)), .c (.sl (List.map SRecord.cells a0.Txn.Records)), .c (.sl (List.map cI64 a0.Txn.Vector)), .c (.val (.int .i64 a0.Done)), .c (.val (.int .i64 a0.Left))] 30)], 2⟩ ?_ ?_
     ·skip
      simp only [EVB, eqF, Op.operands, IntKind.bits, descF, sizeF, bytesF, zeroF, seval, reduceCtorEq, ↓reduceIte]
      exact Weak.sub' ⟨rfl, trivial⟩ ⟨rfl, trivial⟩ (Nat.le_of_ble_eq_true rfl)
     ·skip
      subst hx0
      refine go_return ttOk (fun _ h => h) rfl ?_ ?_
      ·exact (by (repeat' apply And.intro) <;> first | trivial | exact Nat.le_of_ble_eq_true rfl | omega | (simp only [NM]; omega))
      ·first | rfl | (simp only [NM, CELLS] <;> rfl)
theorem coord_knows_sz (a0 : SCoord) (a1 : Int) (a2 : (List Int)) (z0 : SCoord.Sz a0) (z2 : a2.length ≤ 4294967296) : SCoord.Sz (coord_knows a0 a1 a2) := by
 obtain ⟨res, hx0⟩ : ∃ r, coord_knows a0 a1 a2 = r := ⟨_, rfl⟩
 simp only [hx0]
 unfold coord_knows at hx0
 try simp only [SZD] at z0 z2
 obtain ⟨zz11, ⟨zz12, zz13⟩⟩ := z0
 rcases Bool.eq_false_or_eq_true ((((!(coord_num a1)) || (decide (a1 < a0.Len))) || (!(sink_Above a2 a0.Vector))) || (slices_ContainsFunc_int64 a2 coord_knows_c1)) with h4 | h4
 ·simp only [h4, cond_true, cond_false] at hx0
  subst hx0
  exact (by (try simp only [SZD]); (repeat' apply And.intro) <;> first | assumption | omega | simp_all)
 ·simp only [h4, cond_true, cond_false] at hx0
  obtain ⟨r5, hr5, hx0⟩ := letIn_ex hx0
  have zr5 := slices_Clone_int64_sz a2 (by (try simp only [SZD]); (repeat' apply And.intro) <;> first | assumption | omega | simp_all)
  simp only [hr5, SZD] at zr5
  subst hx0
  exact (by (try simp only [SZD]); (repeat' apply And.intro) <;> first | assumption | omega | simp_all)

def coord_Answered (a0 : SCoord) (a1 : Int) (a2 : STxnKey) (a3 : Int) (a4 : Int) (a5 : (List Int)) : SCoord × SDo :=
  letIn (coord_clone a0) fun r1 => letIn ((bif (coord_in r1 2) then 3 else (bif (coord_in r1 3) then 4 else 0))) fun o2 => (bif (((((o2 : Nat) : Int) == 0) || (a1 != ((o2 : Nat) : Int))) || (!(decide ([a2.Epoch, a2.Id] = [(coord_key r1).Epoch, (coord_key r1).Id])))) then (r1, (SDo.mk 0 0 0 (STxn.mk 0 0 0 [] []))) else (bif (a3 == 150) then ((SCoord.mk 4 r1.Epoch r1.Id r1.Len r1.Vector (STxn.mk 0 0 0 [] []) r1.Done r1.Left), (SDo.mk 6 0 0 (STxn.mk 0 0 0 [] []))) else letIn (coord_knows r1 a4 a5) fun r9 => letIn ((bif ((((o2 : Nat) : Int) == 3) && (a3 == 0)) then letIn (coord_txn r9.Txn) fun r13 => (Sum.inl ((SCoord.mk 3 r9.Epoch r9.Id r9.Len r9.Vector r9.Txn r9.Done r9.Left), (SDo.mk 4 r9.Id 0 r13))) else (bif ((((o2 : Nat) : Int) == 4) && (a3 == 0)) then (Sum.inr (0, r9.Epoch, r9.Id, r9.Len, r9.Vector, 0, 0, 0, [], [], (if 9007199254740992 < (IntKind.i64.wrap (r9.Done + 1)) then 9007199254740992 else (IntKind.i64.wrap (r9.Done + 1))), r9.Left)) else (bif ((((o2 : Nat) : Int) == 4) && (a3 == 4)) then letIn (coord_pre r9 r9.Txn) fun r18 => (Sum.inl (r18.1, r18.2)) else letIn (coord_left r9) fun r19 => (Sum.inr (r19.Phase, r19.Epoch, r19.Id, r19.Len, r19.Vector, r19.Txn.Epoch, r19.Txn.Id, r19.Txn.Begin, r19.Txn.Records, r19.Txn.Vector, r19.Done, r19.Left)))))) fun o10s => Sum.elim (fun q => q) (fun o10 => ((SCoord.mk o10.1 o10.2.1 o10.2.2.1 o10.2.2.2.1 o10.2.2.2.2.1 (STxn.mk o10.2.2.2.2.2.1 o10.2.2.2.2.2.2.1 o10.2.2.2.2.2.2.2.1 o10.2.2.2.2.2.2.2.2.1 o10.2.2.2.2.2.2.2.2.2.1) o10.2.2.2.2.2.2.2.2.2.2.1 o10.2.2.2.2.2.2.2.2.2.2.2), (SDo.mk 5 o10.2.2.1 0 (STxn.mk 0 0 0 [] [])))) o10s))
set_option maxRecDepth 10000 in
set_option maxHeartbeats 8000000 in
theorem coord_Answered_t (a0 : SCoord) (a1 : Int) (a2 : STxnKey) (a3 : Int) (a4 : Int) (a5 : (List Int)) (z0 : SCoord.Sz a0) (z5 : a5.length ≤ 4294967296) : FnP Try.prog 32 [.agg [.c (.val (.int .i64 a0.Phase)), .c (.val (.int .i64 a0.Epoch)), .c (.val (.int .i64 a0.Id)), .c (.val (.int .i64 a0.Len)), .c (.sl (List.map cI64 a0.Vector)), .c (.val (.int .i64 a0.Txn.Epoch)), .c (.val (.int .i64 a0.Txn.Id)), .c (.val (.int .i64 a0.Txn.Begin)), .c (.sl (List.map SRecord.cells a0.Txn.Records)), .c (.sl (List.map cI64 a0.Txn.Vector)), .c (.val (.int .i64 a0.Done)), .c (.val (.int .i64 a0.Left))], .c (.val (.int .i64 a1)), .agg [.c (.val (.int .i64 a2.Epoch)), .c (.val (.int .i64 a2.Id))], .c (.val (.int .i64 a3)), .c (.val (.int .i64 a4)), .c (.sl (List.map cI64 a5))] (.tup [.agg [.c (.val (.int .i64 (((coord_Answered a0 a1 a2 a3 a4 a5).1).Phase))), .c (.val (.int .i64 (((coord_Answered a0 a1 a2 a3 a4 a5).1).Epoch))), .c (.val (.int .i64 (((coord_Answered a0 a1 a2 a3 a4 a5).1).Id))), .c (.val (.int .i64 (((coord_Answered a0 a1 a2 a3 a4 a5).1).Len))), .c (.sl (List.map cI64 (((coord_Answered a0 a1 a2 a3 a4 a5).1).Vector))), .c (.val (.int .i64 ((((coord_Answered a0 a1 a2 a3 a4 a5).1).Txn).Epoch))), .c (.val (.int .i64 ((((coord_Answered a0 a1 a2 a3 a4 a5).1).Txn).Id))), .c (.val (.int .i64 ((((coord_Answered a0 a1 a2 a3 a4 a5).1).Txn).Begin))), .c (.sl (List.map SRecord.cells ((((coord_Answered a0 a1 a2 a3 a4 a5).1).Txn).Records))), .c (.sl (List.map cI64 ((((coord_Answered a0 a1 a2 a3 a4 a5).1).Txn).Vector))), .c (.val (.int .i64 (((coord_Answered a0 a1 a2 a3 a4 a5).1).Done))), .c (.val (.int .i64 (((coord_Answered a0 a1 a2 a3 a4 a5).1).Left)))], .agg [.c (.val (.int .i64 (((coord_Answered a0 a1 a2 a3 a4 a5).2).Kind))), .c (.val (.int .i64 (((coord_Answered a0 a1 a2 a3 a4 a5).2).Id))), .c (.val (.int .i64 (((coord_Answered a0 a1 a2 a3 a4 a5).2).Begin))), .c (.val (.int .i64 ((((coord_Answered a0 a1 a2 a3 a4 a5).2).Txn).Epoch))), .c (.val (.int .i64 ((((coord_Answered a0 a1 a2 a3 a4 a5).2).Txn).Id))), .c (.val (.int .i64 ((((coord_Answered a0 a1 a2 a3 a4 a5).2).Txn).Begin))), .c (.sl (List.map SRecord.cells ((((coord_Answered a0 a1 a2 a3 a4 a5).2).Txn).Records))), .c (.sl (List.map cI64 ((((coord_Answered a0 a1 a2 a3 a4 a5).2).Txn).Vector)))]]) := by
 refine FnP.intro (tt := tt) Try.func32 rfl (by kernel_rfl) (by simp [Try.ntmps32]) fun w0 A hA => ?_
 have hR := reckB_ok eqOk ttOk
 obtain ⟨res, hx0⟩ : ∃ r, coord_Answered a0 a1 a2 a3 a4 a5 = r := ⟨_, rfl⟩
 simp only [hx0]
 unfold coord_Answered at hx0
 simp only [argT, Try.ntmps32]
 try simp only [SZD] at z0 z5
 obtain ⟨zz20, ⟨zz21, zz22⟩⟩ := z0
 refine go_seq ?_
 refine go_regionJ hR ⟨[(1, .c (.val (.int .i64 a1))), (3, .c (.val (.int .i64 a3))), (4, .c (.val (.int .i64 a4))), (5, .c (.sl (List.map cI64 a5))), (6, .ptr 0 0), (8, .ptr 1 0), (12, .ptr 2 0), (13, .ptr 3 0)], [(0, .box [.c (.val (.int .i64 a0.Phase)), .c (.val (.int .i64 a0.Epoch)), .c (.val (.int .i64 a0.Id)), .c (.val (.int .i64 a0.Len)), .c (.sl (List.map cI64 a0.Vector)), .c (.val (.int .i64 a0.Txn.Epoch)), .c (.val (.int .i64 a0.Txn.Id)), .c (.val (.int .i64 a0.Txn.Begin)), .c (.sl (List.map SRecord.cells a0.Txn.Records)), .c (.sl (List.map cI64 a0.Txn.Vector)), .c (.val (.int .i64 a0.Done)), .c (.val (.int .i64 a0.Left))] 30), (1, .box [.c (.val (.int .i64 a2.Epoch)), .c (.val (.int .i64 a2.Id))] 43), (2, .box [.c (.val (.int .i64 0)), .c (.val (.int .i64 0)), .c (.val (.int .i64 0)), .c (.val (.int .i64 0)), .c (.val (.slice none 0 0)), .c (.val (.int .i64 0)), .c (.val (.int .i64 0)), .c (.val (.int .i64 0)), .c (.val (.slice none 0 0)), .c (.val (.slice none 0 0)), .c (.val (.int .i64 0)), .c (.val (.int .i64 0))] 30), (3, .box [.c (.val (.int .i64 0)), .c (.val (.int .i64 0)), .c (.val (.int .i64 0)), .c (.val (.int .i64 0)), .c (.val (.int .i64 0)), .c (.val (.int .i64 0)), .c (.val (.slice none 0 0)), .c (.val (.slice none 0 0))] 48)], 4⟩ ?_ ?_
 ·skip
  simp only [EVB, eqF, Op.operands, IntKind.bits, descF, sizeF, bytesF, zeroF, seval, reduceCtorEq, ↓reduceIte]
  exact Weak.sub' ⟨rfl, rfl, rfl, rfl, rfl, rfl, rfl, rfl, trivial⟩ ⟨rfl, rfl, rfl, rfl, trivial⟩ (Nat.le_of_ble_eq_true rfl)
 ·skip
  refine go_seq ?_
  obtain ⟨r1, hr1, hx0⟩ := letIn_ex hx0
  have Cr1 := (coord_clone_t a0 (by (try simp only [SZD]); (repeat' apply And.intro) <;> first | assumption | omega | simp_all))
  simp only [hr1] at Cr1
  have zr1 := coord_clone_sz a0 (by (try simp only [SZD]); (repeat' apply And.intro) <;> first | assumption | omega | simp_all)
  simp only [hr1, SZD] at zr1
  obtain ⟨zz24, ⟨zz25, zz26⟩⟩ := zr1
  refine go_regionJ hR ⟨[(1, .c (.val (.int .i64 a1))), (3, .c (.val (.int .i64 a3))), (4, .c (.val (.int .i64 a4))), (5, .c (.sl (List.map cI64 a5))), (6, .ptr 0 0), (8, .ptr 1 0), (12, .ptr 2 0), (13, .ptr 3 0)], [(0, .box [.c (.val (.int .i64 r1.Phase)), .c (.val (.int .i64 r1.Epoch)), .c (.val (.int .i64 r1.Id)), .c (.val (.int .i64 r1.Len)), .c (.sl (List.map cI64 r1.Vector)), .c (.val (.int .i64 r1.Txn.Epoch)), .c (.val (.int .i64 r1.Txn.Id)), .c (.val (.int .i64 r1.Txn.Begin)), .c (.sl (List.map SRecord.cells r1.Txn.Records)), .c (.sl (List.map cI64 r1.Txn.Vector)), .c (.val (.int .i64 r1.Done)), .c (.val (.int .i64 r1.Left))] 30), (1, .box [.c (.val (.int .i64 a2.Epoch)), .c (.val (.int .i64 a2.Id))] 43), (2, .box [.c (.val (.int .i64 0)), .c (.val (.int .i64 0)), .c (.val (.int .i64 0)), .c (.val (.int .i64 0)), .c (.val (.slice none 0 0)), .c (.val (.int .i64 0)), .c (.val (.int .i64 0)), .c (.val (.int .i64 0)), .c (.val (.slice none 0 0)), .c (.val (.slice none 0 0)), .c (.val (.int .i64 0)), .c (.val (.int .i64 0))] 30), (3, .box [.c (.val (.int .i64 0)), .c (.val (.int .i64 0)), .c (.val (.int .i64 0)), .c (.val (.int .i64 0)), .c (.val (.int .i64 0)), .c (.val (.int .i64 0)), .c (.val (.slice none 0 0)), .c (.val (.slice none 0 0))] 48)], 4⟩ ?_ ?_
  ·skip
   simp only [EVB, eqF, Op.operands, IntKind.bits, descF, sizeF, bytesF, zeroF, seval, reduceCtorEq, ↓reduceIte]
   refine CallK.freshE Cr1.toO rfl (by first | rfl | (simp only [NM]; done)) (by (repeat' apply And.intro) <;> first | trivial | rfl | omega | (simp only [NM]; omega)) (.inl rfl) (by exact Nat.le_of_ble_eq_true rfl) ?_
   try simp only [EVB, eqF, Op.operands, IntKind.bits, descF, sizeF, bytesF, zeroF, seval, reduceCtorEq, ↓reduceIte]
   exact Weak.sub' ⟨rfl, rfl, rfl, rfl, rfl, rfl, rfl, rfl, trivial⟩ ⟨rfl, rfl, rfl, rfl, trivial⟩ (Nat.le_of_ble_eq_true rfl)
  ·skip
   refine go_seq ?_
   refine go_regionJ hR ⟨[(1, .c (.val (.int .i64 a1))), (3, .c (.val (.int .i64 a3))), (4, .c (.val (.int .i64 a4))), (5, .c (.sl (List.map cI64 a5))), (6, .ptr 0 0), (8, .ptr 1 0), (12, .ptr 2 0), (13, .ptr 3 0), (14, .c (.val (.int .i64 0)))], [(0, .box [.c (.val (.int .i64 r1.Phase)), .c (.val (.int .i64 r1.Epoch)), .c (.val (.int .i64 r1.Id)), .c (.val (.int .i64 r1.Len)), .c (.sl (List.map cI64 r1.Vector)), .c (.val (.int .i64 r1.Txn.Epoch)), .c (.val (.int .i64 r1.Txn.Id)), .c (.val (.int .i64 r1.Txn.Begin)), .c (.sl (List.map SRecord.cells r1.Txn.Records)), .c (.sl (List.map cI64 r1.Txn.Vector)), .c (.val (.int .i64 r1.Done)), .c (.val (.int .i64 r1.Left))] 30), (1, .box [.c (.val (.int .i64 a2.Epoch)), .c (.val (.int .i64 a2.Id))] 43), (2, .box [.c (.val (.int .i64 0)), .c (.val (.int .i64 0)), .c (.val (.int .i64 0)), .c (.val (.int .i64 0)), .c (.val (.slice none 0 0)), .c (.val (.int .i64 0)), .c (.val (.int .i64 0)), .c (.val (.int .i64 0)), .c (.val (.slice none 0 0)), .c (.val (.slice none 0 0)), .c (.val (.int .i64 0)), .c (.val (.int .i64 0))] 30), (3, .box [.c (.val (.int .i64 0)), .c (.val (.int .i64 0)), .c (.val (.int .i64 0)), .c (.val (.int .i64 0)), .c (.val (.int .i64 0)), .c (.val (.int .i64 0)), .c (.val (.slice none 0 0)), .c (.val (.slice none 0 0))] 48)], 4⟩ ?_ ?_
   ·skip
    simp only [EVB, eqF, Op.operands, IntKind.bits, descF, sizeF, bytesF, zeroF, seval, reduceCtorEq, ↓reduceIte]
    exact Weak.sub' ⟨rfl, rfl, rfl, rfl, rfl, rfl, rfl, rfl, rfl, trivial⟩ ⟨rfl, rfl, rfl, rfl, trivial⟩ (Nat.le_of_ble_eq_true rfl)
   ·skip
    refine go_seq ?_
    obtain ⟨o2, hx1, hx0⟩ := letIn_ex hx0
    refine go_joinE (fun p : Nat => ⟨[(1, .c (.val (.int .i64 a1))), (3, .c (.val (.int .i64 a3))), (4, .c (.val (.int .i64 a4))), (5, .c (.sl (List.map cI64 a5))), (6, .ptr 0 0), (8, .ptr 1 0), (12, .ptr 2 0), (13, .ptr 3 0), (14, .c (.val (.int .i64 ((p : Nat) : Int))))], [(0, .box [.c (.val (.int .i64 r1.Phase)), .c (.val (.int .i64 r1.Epoch)), .c (.val (.int .i64 r1.Id)), .c (.val (.int .i64 r1.Len)), .c (.sl (List.map cI64 r1.Vector)), .c (.val (.int .i64 r1.Txn.Epoch)), .c (.val (.int .i64 r1.Txn.Id)), .c (.val (.int .i64 r1.Txn.Begin)), .c (.sl (List.map SRecord.cells r1.Txn.Records)), .c (.sl (List.map cI64 r1.Txn.Vector)), .c (.val (.int .i64 r1.Done)), .c (.val (.int .i64 r1.Left))] 30), (1, .box [.c (.val (.int .i64 a2.Epoch)), .c (.val (.int .i64 a2.Id))] 43), (2, .box [.c (.val (.int .i64 0)), .c (.val (.int .i64 0)), .c (.val (.int .i64 0)), .c (.val (.int .i64 0)), .c (.sl (List.map cI64 [])), .c (.val (.int .i64 0)), .c (.val (.int .i64 0)), .c (.val (.int .i64 0)), .c (.sl (List.map SRecord.cells [])), .c (.sl (List.map cI64 [])), .c (.val (.int .i64 0)), .c (.val (.int .i64 0))] 30), (3, .box [.c (.val (.int .i64 0)), .c (.val (.int .i64 0)), .c (.val (.int .i64 0)), .c (.val (.int .i64 0)), .c (.val (.int .i64 0)), .c (.val (.int .i64 0)), .c (.sl (List.map SRecord.cells [])), .c (.sl (List.map cI64 []))] 48)], 4⟩) (fun p : Nat => o2 = p) ?_ ?_
    ·refine go_block ?_
     refine go_seq ?_
     refine go_regionJ hR ⟨[(1, .c (.val (.int .i64 a1))), (3, .c (.val (.int .i64 a3))), (4, .c (.val (.int .i64 a4))), (5, .c (.sl (List.map cI64 a5))), (6, .ptr 0 0), (8, .ptr 1 0), (12, .ptr 2 0), (13, .ptr 3 0), (14, .c (.val (.int .i64 0))), (17, .c (.val (.bool (coord_in r1 2))))], [(0, .box [.c (.val (.int .i64 r1.Phase)), .c (.val (.int .i64 r1.Epoch)), .c (.val (.int .i64 r1.Id)), .c (.val (.int .i64 r1.Len)), .c (.sl (List.map cI64 r1.Vector)), .c (.val (.int .i64 r1.Txn.Epoch)), .c (.val (.int .i64 r1.Txn.Id)), .c (.val (.int .i64 r1.Txn.Begin)), .c (.sl (List.map SRecord.cells r1.Txn.Records)), .c (.sl (List.map cI64 r1.Txn.Vector)), .c (.val (.int .i64 r1.Done)), .c (.val (.int .i64 r1.Left))] 30), (1, .box [.c (.val (.int .i64 a2.Epoch)), .c (.val (.int .i64 a2.Id))] 43), (2, .box [.c (.val (.int .i64 0)), .c (.val (.int .i64 0)), .c (.val (.int .i64 0)), .c (.val (.int .i64 0)), .c (.val (.slice none 0 0)), .c (.val (.int .i64 0)), .c (.val (.int .i64 0)), .c (.val (.int .i64 0)), .c (.val (.slice none 0 0)), .c (.val (.slice none 0 0)), .c (.val (.int .i64 0)), .c (.val (.int .i64 0))] 30), (3, .box [.c (.val (.int .i64 0)), .c (.val (.int .i64 0)), .c (.val (.int .i64 0)), .c (.val (.int .i64 0)), .c (.val (.int .i64 0)), .c (.val (.int .i64 0)), .c (.val (.slice none 0 0)), .c (.val (.slice none 0 0))] 48)], 4⟩ ?_ ?_
     ·skip
      simp only [EVB, eqF, Op.operands, IntKind.bits, descF, sizeF, bytesF, zeroF, seval, reduceCtorEq, ↓reduceIte]
      refine CallK.freshE (coord_in_t r1 2).toO rfl (by first | rfl | (simp only [NM]; done)) (by (repeat' apply And.intro) <;> first | trivial | rfl | omega | (simp only [NM]; omega)) (.inl rfl) (by exact Nat.le_of_ble_eq_true rfl) ?_
      try simp only [EVB, eqF, Op.operands, IntKind.bits, descF, sizeF, bytesF, zeroF, seval, reduceCtorEq, ↓reduceIte]
      exact Weak.sub' ⟨rfl, rfl, rfl, rfl, rfl, rfl, rfl, rfl, rfl, rfl, trivial⟩ ⟨rfl, rfl, rfl, rfl, trivial⟩ (Nat.le_of_ble_eq_true rfl)
     ·skip
      refine go_cond (by rfl) (fun h3 => ?_) (fun h3 => ?_)
      ·have gh3 := h3
       try simp only [GN, beq_iff_eq, beq_eq_false_iff_ne, bne_iff_ne, bne_eq_false_iff_eq] at gh3
       simp only [h3, cond_true, cond_false] at hx1
       refine go_regionJ hR ⟨[(1, .c (.val (.int .i64 a1))), (3, .c (.val (.int .i64 a3))), (4, .c (.val (.int .i64 a4))), (5, .c (.sl (List.map cI64 a5))), (6, .ptr 0 0), (8, .ptr 1 0), (12, .ptr 2 0), (13, .ptr 3 0), (14, .c (.val (.int .i64 3)))], [(0, .box [.c (.val (.int .i64 r1.Phase)), .c (.val (.int .i64 r1.Epoch)), .c (.val (.int .i64 r1.Id)), .c (.val (.int .i64 r1.Len)), .c (.sl (List.map cI64 r1.Vector)), .c (.val (.int .i64 r1.Txn.Epoch)), .c (.val (.int .i64 r1.Txn.Id)), .c (.val (.int .i64 r1.Txn.Begin)), .c (.sl (List.map SRecord.cells r1.Txn.Records)), .c (.sl (List.map cI64 r1.Txn.Vector)), .c (.val (.int .i64 r1.Done)), .c (.val (.int .i64 r1.Left))] 30), (1, .box [.c (.val (.int .i64 a2.Epoch)), .c (.val (.int .i64 a2.Id))] 43), (2, .box [.c (.val (.int .i64 0)), .c (.val (.int .i64 0)), .c (.val (.int .i64 0)), .c (.val (.int .i64 0)), .c (.val (.slice none 0 0)), .c (.val (.int .i64 0)), .c (.val (.int .i64 0)), .c (.val (.int .i64 0)), .c (.val (.slice none 0 0)), .c (.val (.slice none 0 0)), .c (.val (.int .i64 0)), .c (.val (.int .i64 0))] 30), (3, .box [.c (.val (.int .i64 0)), .c (.val (.int .i64 0)), .c (.val (.int .i64 0)), .c (.val (.int .i64 0)), .c (.val (.int .i64 0)), .c (.val (.int .i64 0)), .c (.val (.slice none 0 0)), .c (.val (.slice none 0 0))] 48)], 4⟩ ?_ ?_
       ·skip
        simp only [EVB, eqF, Op.operands, IntKind.bits, descF, sizeF, bytesF, zeroF, seval, reduceCtorEq, ↓reduceIte]
        exact Weak.sub' ⟨rfl, rfl, rfl, rfl, rfl, rfl, rfl, rfl, rfl, trivial⟩ ⟨rfl, rfl, rfl, rfl, trivial⟩ (Nat.le_of_ble_eq_true rfl)
       ·skip
        refine go_blk ?_
        exact go_fin ⟨3, hx1.symm, (Weak.canon [0, 1, 2, 3] [1, 3, 4, 5, 6, 8, 12, 13, 14] (by decide) rfl (by simp) rfl (by simp) (by first | rfl | (simp only [NM, CELLS] <;> rfl) | simp [NM, CELLS]) (by first | rfl | (simp only [NM, CELLS] <;> rfl) | simp [NM, CELLS]) rfl)⟩
      ·have gh3 := h3
       try simp only [GN, beq_iff_eq, beq_eq_false_iff_ne, bne_iff_ne, bne_eq_false_iff_eq] at gh3
       simp only [h3, cond_true, cond_false] at hx1
       refine go_seq ?_
       refine go_regionJ hR ⟨[(1, .c (.val (.int .i64 a1))), (3, .c (.val (.int .i64 a3))), (4, .c (.val (.int .i64 a4))), (5, .c (.sl (List.map cI64 a5))), (6, .ptr 0 0), (8, .ptr 1 0), (12, .ptr 2 0), (13, .ptr 3 0), (14, .c (.val (.int .i64 0))), (20, .c (.val (.bool (coord_in r1 3))))], [(0, .box [.c (.val (.int .i64 r1.Phase)), .c (.val (.int .i64 r1.Epoch)), .c (.val (.int .i64 r1.Id)), .c (.val (.int .i64 r1.Len)), .c (.sl (List.map cI64 r1.Vector)), .c (.val (.int .i64 r1.Txn.Epoch)), .c (.val (.int .i64 r1.Txn.Id)), .c (.val (.int .i64 r1.Txn.Begin)), .c (.sl (List.map SRecord.cells r1.Txn.Records)), .c (.sl (List.map cI64 r1.Txn.Vector)), .c (.val (.int .i64 r1.Done)), .c (.val (.int .i64 r1.Left))] 30), (1, .box [.c (.val (.int .i64 a2.Epoch)), .c (.val (.int .i64 a2.Id))] 43), (2, .box [.c (.val (.int .i64 0)), .c (.val (.int .i64 0)), .c (.val (.int .i64 0)), .c (.val (.int .i64 0)), .c (.val (.slice none 0 0)), .c (.val (.int .i64 0)), .c (.val (.int .i64 0)), .c (.val (.int .i64 0)), .c (.val (.slice none 0 0)), .c (.val (.slice none 0 0)), .c (.val (.int .i64 0)), .c (.val (.int .i64 0))] 30), (3, .box [.c (.val (.int .i64 0)), .c (.val (.int .i64 0)), .c (.val (.int .i64 0)), .c (.val (.int .i64 0)), .c (.val (.int .i64 0)), .c (.val (.int .i64 0)), .c (.val (.slice none 0 0)), .c (.val (.slice none 0 0))] 48)], 4⟩ ?_ ?_
       ·skip
        simp only [EVB, eqF, Op.operands, IntKind.bits, descF, sizeF, bytesF, zeroF, seval, reduceCtorEq, ↓reduceIte]
        refine CallK.freshE (coord_in_t r1 3).toO rfl (by first | rfl | (simp only [NM]; done)) (by (repeat' apply And.intro) <;> first | trivial | rfl | omega | (simp only [NM]; omega)) (.inl rfl) (by exact Nat.le_of_ble_eq_true rfl) ?_
        try simp only [EVB, eqF, Op.operands, IntKind.bits, descF, sizeF, bytesF, zeroF, seval, reduceCtorEq, ↓reduceIte]
        exact Weak.sub' ⟨rfl, rfl, rfl, rfl, rfl, rfl, rfl, rfl, rfl, rfl, trivial⟩ ⟨rfl, rfl, rfl, rfl, trivial⟩ (Nat.le_of_ble_eq_true rfl)
       ·skip
        refine go_cond (by rfl) (fun h4 => ?_) (fun h4 => ?_)
        ·have gh4 := h4
         try simp only [GN, beq_iff_eq, beq_eq_false_iff_ne, bne_iff_ne, bne_eq_false_iff_eq] at gh4
         simp only [h4, cond_true, cond_false] at hx1
         refine go_regionJ hR ⟨[(1, .c (.val (.int .i64 a1))), (3, .c (.val (.int .i64 a3))), (4, .c (.val (.int .i64 a4))), (5, .c (.sl (List.map cI64 a5))), (6, .ptr 0 0), (8, .ptr 1 0), (12, .ptr 2 0), (13, .ptr 3 0), (14, .c (.val (.int .i64 4)))], [(0, .box [.c (.val (.int .i64 r1.Phase)), .c (.val (.int .i64 r1.Epoch)), .c (.val (.int .i64 r1.Id)), .c (.val (.int .i64 r1.Len)), .c (.sl (List.map cI64 r1.Vector)), .c (.val (.int .i64 r1.Txn.Epoch)), .c (.val (.int .i64 r1.Txn.Id)), .c (.val (.int .i64 r1.Txn.Begin)), .c (.sl (List.map SRecord.cells r1.Txn.Records)), .c (.sl (List.map cI64 r1.Txn.Vector)), .c (.val (.int .i64 r1.Done)), .c (.val (.int .i64 r1.Left))] 30), (1, .box [.c (.val (.int .i64 a2.Epoch)), .c (.val (.int .i64 a2.Id))] 43), (2, .box [.c (.val (.int .i64 0)), .c (.val (.int .i64 0)), .c (.val (.int .i64 0)), .c (.val (.int .i64 0)), .c (.val (.slice none 0 0)), .c (.val (.int .i64 0)), .c (.val (.int .i64 0)), .c (.val (.int .i64 0)), .c (.val (.slice none 0 0)), .c (.val (.slice none 0 0)), .c (.val (.int .i64 0)), .c (.val (.int .i64 0))] 30), (3, .box [.c (.val (.int .i64 0)), .c (.val (.int .i64 0)), .c (.val (.int .i64 0)), .c (.val (.int .i64 0)), .c (.val (.int .i64 0)), .c (.val (.int .i64 0)), .c (.val (.slice none 0 0)), .c (.val (.slice none 0 0))] 48)], 4⟩ ?_ ?_
         ·skip
          simp only [EVB, eqF, Op.operands, IntKind.bits, descF, sizeF, bytesF, zeroF, seval, reduceCtorEq, ↓reduceIte]
          exact Weak.sub' ⟨rfl, rfl, rfl, rfl, rfl, rfl, rfl, rfl, rfl, trivial⟩ ⟨rfl, rfl, rfl, rfl, trivial⟩ (Nat.le_of_ble_eq_true rfl)
         ·skip
          refine go_blk ?_
          exact go_fin ⟨4, hx1.symm, (Weak.canon [0, 1, 2, 3] [1, 3, 4, 5, 6, 8, 12, 13, 14] (by decide) rfl (by simp) rfl (by simp) (by first | rfl | (simp only [NM, CELLS] <;> rfl) | simp [NM, CELLS]) (by first | rfl | (simp only [NM, CELLS] <;> rfl) | simp [NM, CELLS]) rfl)⟩
        ·have gh4 := h4
         try simp only [GN, beq_iff_eq, beq_eq_false_iff_ne, bne_iff_ne, bne_eq_false_iff_eq] at gh4
         simp only [h4, cond_true, cond_false] at hx1
         refine go_skip ?_
         refine go_blk ?_
         exact go_fin ⟨0, hx1.symm, (Weak.canon [0, 1, 2, 3] [1, 3, 4, 5, 6, 8, 12, 13, 14] (by decide) rfl (by simp) rfl (by simp) (by first | rfl | (simp only [NM, CELLS] <;> rfl) | simp [NM, CELLS]) (by first | rfl | (simp only [NM, CELLS] <;> rfl) | simp [NM, CELLS]) rfl)⟩
    ·rintro o2_ hp
     try dsimp only at hp
     subst hp
     refine go_seq ?_
     refine go_seq ?_
     refine go_drawJ hR rfl ⟨[(3, .c (.val (.int .i64 a3))), (4, .c (.val (.int .i64 a4))), (5, .c (.sl (List.map cI64 a5))), (6, .ptr 0 0), (12, .ptr 2 0), (13, .ptr 3 0), (14, .c (.val (.int .i64 ((o2 : Nat) : Int)))), (35, .c (.val (.bool (((((o2 : Nat) : Int) == 0) || (a1 != ((o2 : Nat) : Int))) || (!(decide ([a2.Epoch, a2.Id] = [(coord_key r1).Epoch, (coord_key r1).Id])))))))], [(0, .box [.c (.val (.int .i64 r1.Phase)), .c (.val (.int .i64 r1.Epoch)), .c (.val (.int .i64 r1.Id)), .c (.val (.int .i64 r1.Len)), .c (.sl (List.map cI64 r1.Vector)), .c (.val (.int .i64 r1.Txn.Epoch)), .c (.val (.int .i64 r1.Txn.Id)), .c (.val (.int .i64 r1.Txn.Begin)), .c (.sl (List.map SRecord.cells r1.Txn.Records)), .c (.sl (List.map cI64 r1.Txn.Vector)), .c (.val (.int .i64 r1.Done)), .c (.val (.int .i64 r1.Left))] 30), (2, .box [.c (.val (.int .i64 0)), .c (.val (.int .i64 0)), .c (.val (.int .i64 0)), .c (.val (.int .i64 0)), .c (.sl (List.map cI64 [])), .c (.val (.int .i64 0)), .c (.val (.int .i64 0)), .c (.val (.int .i64 0)), .c (.sl (List.map SRecord.cells [])), .c (.sl (List.map cI64 [])), .c (.val (.int .i64 0)), .c (.val (.int .i64 0))] 30), (3, .box [.c (.val (.int .i64 0)), .c (.val (.int .i64 0)), .c (.val (.int .i64 0)), .c (.val (.int .i64 0)), .c (.val (.int .i64 0)), .c (.val (.int .i64 0)), .c (.sl (List.map SRecord.cells [])), .c (.sl (List.map cI64 []))] 48)], 4⟩ ?_ ?_
     ·skip
      rcases Bool.eq_false_or_eq_true (((o2 : Nat) : Int) == 0) with h5 | h5
      ·simp only [h5, EVB, eqF, Op.operands, IntKind.bits, descF, sizeF, bytesF, zeroF, seval, reduceCtorEq, ↓reduceIte]
       refine ⟨by kernel_rfl, ?_⟩
       try simp only [h5, BM]
       exact Weak.sub' ⟨rfl, rfl, rfl, rfl, rfl, rfl, rfl, rfl, trivial⟩ ⟨rfl, rfl, rfl, trivial⟩ (Nat.le_of_ble_eq_true rfl)
      ·rcases Bool.eq_false_or_eq_true (a1 != ((o2 : Nat) : Int)) with h6 | h6
       ·simp only [h5, h6, EVB, eqF, Op.operands, IntKind.bits, descF, sizeF, bytesF, zeroF, seval, reduceCtorEq, ↓reduceIte]
        refine ⟨by kernel_rfl, ?_⟩
        try simp only [h5, h6, BM]
        exact Weak.sub' ⟨rfl, rfl, rfl, rfl, rfl, rfl, rfl, rfl, trivial⟩ ⟨rfl, rfl, rfl, trivial⟩ (Nat.le_of_ble_eq_true rfl)
       ·simp only [h5, h6, EVB, eqF, Op.operands, IntKind.bits, descF, sizeF, bytesF, zeroF, seval, reduceCtorEq, ↓reduceIte]
        refine CallD.fresh (coord_key_t r1).toO rfl (by first | rfl | (simp only [NM]; done)) (by (repeat' apply And.intro) <;> first | trivial | rfl | omega | (simp only [NM]; omega)) (.inl rfl) ?_
        try simp only [h5, h6, EVB, eqF, Op.operands, IntKind.bits, descF, sizeF, bytesF, zeroF, seval, reduceCtorEq, ↓reduceIte]
        refine ⟨by kernel_rfl, ?_⟩
        try simp only [h5, h6, BM]
        exact Weak.sub' ⟨rfl, rfl, rfl, rfl, rfl, rfl, rfl, rfl, trivial⟩ ⟨rfl, rfl, rfl, trivial⟩ (Nat.le_of_ble_eq_true rfl)
     ·skip
      refine go_cond (by rfl) (fun h7 => ?_) (fun h7 => ?_)
      ·have gh7 := h7
       try simp only [GN, beq_iff_eq, beq_eq_false_iff_ne, bne_iff_ne, bne_eq_false_iff_eq] at gh7
       simp only [h7, cond_true, cond_false] at hx0
       refine go_seq ?_
       refine go_regionJ hR ⟨[(12, .ptr 2 0), (13, .ptr 3 0)], [(2, .box [.c (.val (.int .i64 r1.Phase)), .c (.val (.int .i64 r1.Epoch)), .c (.val (.int .i64 r1.Id)), .c (.val (.int .i64 r1.Len)), .c (.sl (List.map cI64 r1.Vector)), .c (.val (.int .i64 r1.Txn.Epoch)), .c (.val (.int .i64 r1.Txn.Id)), .c (.val (.int .i64 r1.Txn.Begin)), .c (.sl (List.map SRecord.cells r1.Txn.Records)), .c (.sl (List.map cI64 r1.Txn.Vector)), .c (.val (.int .i64 r1.Done)), .c (.val (.int .i64 r1.Left))] 30), (3, .box [.c (.val (.int .i64 0)), .c (.val (.int .i64 0)), .c (.val (.int .i64 0)), .c (.val (.int .i64 0)), .c (.val (.int .i64 0)), .c (.val (.int .i64 0)), .c (.val (.slice none 0 0)), .c (.val (.slice none 0 0))] 48)], 4⟩ ?_ ?_
       ·skip
        simp only [EVB, eqF, Op.operands, IntKind.bits, descF, sizeF, bytesF, zeroF, seval, reduceCtorEq, ↓reduceIte]
        exact Weak.sub' ⟨rfl, rfl, trivial⟩ ⟨rfl, rfl, trivial⟩ (Nat.le_of_ble_eq_true rfl)
       ·skip
        subst hx0
        refine go_return ttOk (fun _ h => h) rfl ?_ ?_
        ·exact (by (repeat' apply And.intro) <;> first | trivial | exact Nat.le_of_ble_eq_true rfl | omega | (simp only [NM]; omega))
        ·first | rfl | (simp only [NM, CELLS] <;> rfl)
      ·have gh7 := h7
       try simp only [GN, beq_iff_eq, beq_eq_false_iff_ne, bne_iff_ne, bne_eq_false_iff_eq] at gh7
       simp only [h7, cond_true, cond_false] at hx0
       refine go_skip ?_
       refine go_seq ?_
       refine go_seq ?_
       refine go_regionJ hR ⟨[(3, .c (.val (.int .i64 a3))), (4, .c (.val (.int .i64 a4))), (5, .c (.sl (List.map cI64 a5))), (6, .ptr 0 0), (12, .ptr 2 0), (13, .ptr 3 0), (14, .c (.val (.int .i64 ((o2 : Nat) : Int)))), (39, .c (.val (.bool (a3 == 150))))], [(0, .box [.c (.val (.int .i64 r1.Phase)), .c (.val (.int .i64 r1.Epoch)), .c (.val (.int .i64 r1.Id)), .c (.val (.int .i64 r1.Len)), .c (.sl (List.map cI64 r1.Vector)), .c (.val (.int .i64 r1.Txn.Epoch)), .c (.val (.int .i64 r1.Txn.Id)), .c (.val (.int .i64 r1.Txn.Begin)), .c (.sl (List.map SRecord.cells r1.Txn.Records)), .c (.sl (List.map cI64 r1.Txn.Vector)), .c (.val (.int .i64 r1.Done)), .c (.val (.int .i64 r1.Left))] 30), (2, .box [.c (.val (.int .i64 0)), .c (.val (.int .i64 0)), .c (.val (.int .i64 0)), .c (.val (.int .i64 0)), .c (.sl (List.map cI64 [])), .c (.val (.int .i64 0)), .c (.val (.int .i64 0)), .c (.val (.int .i64 0)), .c (.sl (List.map SRecord.cells [])), .c (.sl (List.map cI64 [])), .c (.val (.int .i64 0)), .c (.val (.int .i64 0))] 30), (3, .box [.c (.val (.int .i64 0)), .c (.val (.int .i64 0)), .c (.val (.int .i64 0)), .c (.val (.int .i64 0)), .c (.val (.int .i64 0)), .c (.val (.int .i64 0)), .c (.sl (List.map SRecord.cells [])), .c (.sl (List.map cI64 []))] 48)], 4⟩ ?_ ?_
       ·skip
        simp only [EVB, eqF, Op.operands, IntKind.bits, descF, sizeF, bytesF, zeroF, seval, reduceCtorEq, ↓reduceIte]
        exact Weak.sub' ⟨rfl, rfl, rfl, rfl, rfl, rfl, rfl, rfl, trivial⟩ ⟨rfl, rfl, rfl, trivial⟩ (Nat.le_of_ble_eq_true rfl)
       ·skip
        refine go_cond (by rfl) (fun h8 => ?_) (fun h8 => ?_)
        ·have gh8 := h8
         try simp only [GN, beq_iff_eq, beq_eq_false_iff_ne, bne_iff_ne, bne_eq_false_iff_eq] at gh8
         simp only [h8, cond_true, cond_false] at hx0
         refine go_seq ?_
         refine go_regionJ hR ⟨[(6, .ptr 0 0), (12, .ptr 2 0), (13, .ptr 3 0)], [(0, .box [.c (.val (.int .i64 4)), .c (.val (.int .i64 r1.Epoch)), .c (.val (.int .i64 r1.Id)), .c (.val (.int .i64 r1.Len)), .c (.sl (List.map cI64 r1.Vector)), .c (.val (.int .i64 0)), .c (.val (.int .i64 0)), .c (.val (.int .i64 0)), .c (.val (.slice none 0 0)), .c (.val (.slice none 0 0)), .c (.val (.int .i64 r1.Done)), .c (.val (.int .i64 r1.Left))] 30), (2, .box [.c (.val (.int .i64 0)), .c (.val (.int .i64 0)), .c (.val (.int .i64 0)), .c (.val (.int .i64 0)), .c (.sl (List.map cI64 [])), .c (.val (.int .i64 0)), .c (.val (.int .i64 0)), .c (.val (.int .i64 0)), .c (.sl (List.map SRecord.cells [])), .c (.sl (List.map cI64 [])), .c (.val (.int .i64 0)), .c (.val (.int .i64 0))] 30), (3, .box [.c (.val (.int .i64 0)), .c (.val (.int .i64 0)), .c (.val (.int .i64 0)), .c (.val (.int .i64 0)), .c (.val (.int .i64 0)), .c (.val (.int .i64 0)), .c (.sl (List.map SRecord.cells [])), .c (.sl (List.map cI64 []))] 48)], 4⟩ ?_ ?_
         ·skip
          simp only [EVB, eqF, Op.operands, IntKind.bits, descF, sizeF, bytesF, zeroF, seval, reduceCtorEq, ↓reduceIte]
          exact Weak.sub' ⟨rfl, rfl, rfl, trivial⟩ ⟨rfl, rfl, rfl, trivial⟩ (Nat.le_of_ble_eq_true rfl)
         ·skip
          refine go_seq ?_
          refine go_regionJ hR ⟨[(12, .ptr 2 0), (13, .ptr 3 0)], [(2, .box [.c (.val (.int .i64 4)), .c (.val (.int .i64 r1.Epoch)), .c (.val (.int .i64 r1.Id)), .c (.val (.int .i64 r1.Len)), .c (.sl (List.map cI64 r1.Vector)), .c (.val (.int .i64 0)), .c (.val (.int .i64 0)), .c (.val (.int .i64 0)), .c (.val (.slice none 0 0)), .c (.val (.slice none 0 0)), .c (.val (.int .i64 r1.Done)), .c (.val (.int .i64 r1.Left))] 30), (3, .box [.c (.val (.int .i64 6)), .c (.val (.int .i64 0)), .c (.val (.int .i64 0)), .c (.val (.int .i64 0)), .c (.val (.int .i64 0)), .c (.val (.int .i64 0)), .c (.val (.slice none 0 0)), .c (.val (.slice none 0 0))] 48)], 4⟩ ?_ ?_
          ·skip
           simp only [EVB, eqF, Op.operands, IntKind.bits, descF, sizeF, bytesF, zeroF, seval, reduceCtorEq, ↓reduceIte]
           exact Weak.sub' ⟨rfl, rfl, trivial⟩ ⟨rfl, rfl, trivial⟩ (Nat.le_of_ble_eq_true rfl)
          ·skip
           subst hx0
           refine go_return ttOk (fun _ h => h) rfl ?_ ?_
           ·exact (by (repeat' apply And.intro) <;> first | trivial | exact Nat.le_of_ble_eq_true rfl | omega | (simp only [NM]; omega))
           ·first | rfl | (simp only [NM, CELLS] <;> rfl)
        ·have gh8 := h8
         try simp only [GN, beq_iff_eq, beq_eq_false_iff_ne, bne_iff_ne, bne_eq_false_iff_eq] at gh8
         simp only [h8, cond_true, cond_false] at hx0
         refine go_skip ?_
         refine go_seq ?_
         obtain ⟨r9, hr9, hx0⟩ := letIn_ex hx0
         have Cr9 := (coord_knows_t r1 a4 a5 (by (try simp only [SZD]); (repeat' apply And.intro) <;> first | assumption | omega | simp_all) (by (try simp only [SZD]); (repeat' apply And.intro) <;> first | assumption | omega | simp_all))
         simp only [hr9] at Cr9
         have zr9 := coord_knows_sz r1 a4 a5 (by (try simp only [SZD]); (repeat' apply And.intro) <;> first | assumption | omega | simp_all) (by (try simp only [SZD]); (repeat' apply And.intro) <;> first | assumption | omega | simp_all)
         simp only [hr9, SZD] at zr9
         obtain ⟨zz27, ⟨zz28, zz29⟩⟩ := zr9
         refine go_regionJ hR ⟨[(3, .c (.val (.int .i64 a3))), (6, .ptr 0 0), (12, .ptr 2 0), (13, .ptr 3 0), (14, .c (.val (.int .i64 ((o2 : Nat) : Int))))], [(0, .box [.c (.val (.int .i64 r9.Phase)), .c (.val (.int .i64 r9.Epoch)), .c (.val (.int .i64 r9.Id)), .c (.val (.int .i64 r9.Len)), .c (.sl (List.map cI64 r9.Vector)), .c (.val (.int .i64 r9.Txn.Epoch)), .c (.val (.int .i64 r9.Txn.Id)), .c (.val (.int .i64 r9.Txn.Begin)), .c (.sl (List.map SRecord.cells r9.Txn.Records)), .c (.sl (List.map cI64 r9.Txn.Vector)), .c (.val (.int .i64 r9.Done)), .c (.val (.int .i64 r9.Left))] 30), (2, .box [.c (.val (.int .i64 0)), .c (.val (.int .i64 0)), .c (.val (.int .i64 0)), .c (.val (.int .i64 0)), .c (.sl (List.map cI64 [])), .c (.val (.int .i64 0)), .c (.val (.int .i64 0)), .c (.val (.int .i64 0)), .c (.sl (List.map SRecord.cells [])), .c (.sl (List.map cI64 [])), .c (.val (.int .i64 0)), .c (.val (.int .i64 0))] 30), (3, .box [.c (.val (.int .i64 0)), .c (.val (.int .i64 0)), .c (.val (.int .i64 0)), .c (.val (.int .i64 0)), .c (.val (.int .i64 0)), .c (.val (.int .i64 0)), .c (.sl (List.map SRecord.cells [])), .c (.sl (List.map cI64 []))] 48)], 4⟩ ?_ ?_
         ·skip
          simp only [EVB, eqF, Op.operands, IntKind.bits, descF, sizeF, bytesF, zeroF, seval, reduceCtorEq, ↓reduceIte]
          refine CallK.freshE Cr9.toO rfl (by first | rfl | (simp only [NM]; done)) (by (repeat' apply And.intro) <;> first | trivial | rfl | omega | (simp only [NM]; omega)) (.inl rfl) (by exact Nat.le_of_ble_eq_true rfl) ?_
          try simp only [EVB, eqF, Op.operands, IntKind.bits, descF, sizeF, bytesF, zeroF, seval, reduceCtorEq, ↓reduceIte]
          exact Weak.sub' ⟨rfl, rfl, rfl, rfl, rfl, trivial⟩ ⟨rfl, rfl, rfl, trivial⟩ (Nat.le_of_ble_eq_true rfl)
         ·skip
          refine go_seq ?_
          obtain ⟨o10s, hx1, hx0⟩ := letIn_ex hx0
          refine go_joinE (fun p : Int × Int × Int × Int × (List Int) × Int × Int × Int × (List SRecord) × (List Int) × Int × Int => ⟨[(6, .ptr 0 0), (12, .ptr 1 0), (13, .ptr 2 0)], [(0, .box [.c (.val (.int .i64 p.1)), .c (.val (.int .i64 p.2.1)), .c (.val (.int .i64 p.2.2.1)), .c (.val (.int .i64 p.2.2.2.1)), .c (.sl (List.map cI64 p.2.2.2.2.1)), .c (.val (.int .i64 p.2.2.2.2.2.1)), .c (.val (.int .i64 p.2.2.2.2.2.2.1)), .c (.val (.int .i64 p.2.2.2.2.2.2.2.1)), .c (.sl (List.map SRecord.cells p.2.2.2.2.2.2.2.2.1)), .c (.sl (List.map cI64 p.2.2.2.2.2.2.2.2.2.1)), .c (.val (.int .i64 p.2.2.2.2.2.2.2.2.2.2.1)), .c (.val (.int .i64 p.2.2.2.2.2.2.2.2.2.2.2))] 30), (1, .box [.c (.val (.int .i64 0)), .c (.val (.int .i64 0)), .c (.val (.int .i64 0)), .c (.val (.int .i64 0)), .c (.sl (List.map cI64 [])), .c (.val (.int .i64 0)), .c (.val (.int .i64 0)), .c (.val (.int .i64 0)), .c (.sl (List.map SRecord.cells [])), .c (.sl (List.map cI64 [])), .c (.val (.int .i64 0)), .c (.val (.int .i64 0))] 30), (2, .box [.c (.val (.int .i64 0)), .c (.val (.int .i64 0)), .c (.val (.int .i64 0)), .c (.val (.int .i64 0)), .c (.val (.int .i64 0)), .c (.val (.int .i64 0)), .c (.sl (List.map SRecord.cells [])), .c (.sl (List.map cI64 []))] 48)], 3⟩) (fun p : Int × Int × Int × Int × (List Int) × Int × Int × Int × (List SRecord) × (List Int) × Int × Int => o10s = Sum.inr p) ?_ ?_
          ·refine go_block ?_
           refine go_seq ?_
           refine go_regionJ hR ⟨[(3, .c (.val (.int .i64 a3))), (6, .ptr 0 0), (12, .ptr 2 0), (13, .ptr 3 0), (14, .c (.val (.int .i64 ((o2 : Nat) : Int)))), (51, .c (.val (.bool ((((o2 : Nat) : Int) == 3) && (a3 == 0)))))], [(0, .box [.c (.val (.int .i64 r9.Phase)), .c (.val (.int .i64 r9.Epoch)), .c (.val (.int .i64 r9.Id)), .c (.val (.int .i64 r9.Len)), .c (.sl (List.map cI64 r9.Vector)), .c (.val (.int .i64 r9.Txn.Epoch)), .c (.val (.int .i64 r9.Txn.Id)), .c (.val (.int .i64 r9.Txn.Begin)), .c (.sl (List.map SRecord.cells r9.Txn.Records)), .c (.sl (List.map cI64 r9.Txn.Vector)), .c (.val (.int .i64 r9.Done)), .c (.val (.int .i64 r9.Left))] 30), (2, .box [.c (.val (.int .i64 0)), .c (.val (.int .i64 0)), .c (.val (.int .i64 0)), .c (.val (.int .i64 0)), .c (.sl (List.map cI64 [])), .c (.val (.int .i64 0)), .c (.val (.int .i64 0)), .c (.val (.int .i64 0)), .c (.sl (List.map SRecord.cells [])), .c (.sl (List.map cI64 [])), .c (.val (.int .i64 0)), .c (.val (.int .i64 0))] 30), (3, .box [.c (.val (.int .i64 0)), .c (.val (.int .i64 0)), .c (.val (.int .i64 0)), .c (.val (.int .i64 0)), .c (.val (.int .i64 0)), .c (.val (.int .i64 0)), .c (.sl (List.map SRecord.cells [])), .c (.sl (List.map cI64 []))] 48)], 4⟩ ?_ ?_
           ·skip
            rcases Bool.eq_false_or_eq_true (((o2 : Nat) : Int) == 3) with h11 | h11
            ·simp only [h11, EVB, eqF, Op.operands, IntKind.bits, descF, sizeF, bytesF, zeroF, seval, reduceCtorEq, ↓reduceIte]
             try simp only [h11, BM]
             exact Weak.sub' ⟨rfl, rfl, rfl, rfl, rfl, rfl, trivial⟩ ⟨rfl, rfl, rfl, trivial⟩ (Nat.le_of_ble_eq_true rfl)
            ·simp only [h11, EVB, eqF, Op.operands, IntKind.bits, descF, sizeF, bytesF, zeroF, seval, reduceCtorEq, ↓reduceIte]
             try simp only [h11, BM]
             exact Weak.sub' ⟨rfl, rfl, rfl, rfl, rfl, rfl, trivial⟩ ⟨rfl, rfl, rfl, trivial⟩ (Nat.le_of_ble_eq_true rfl)
           ·skip
            refine go_cond (by rfl) (fun h12 => ?_) (fun h12 => ?_)
            ·have gh12 := h12
             try simp only [GN, beq_iff_eq, beq_eq_false_iff_ne, bne_iff_ne, bne_eq_false_iff_eq] at gh12
             simp only [h12, cond_true, cond_false] at hx1
             refine go_seq ?_
             refine go_regionJ hR ⟨[(6, .ptr 0 0), (12, .ptr 2 0), (13, .ptr 3 0)], [(0, .box [.c (.val (.int .i64 3)), .c (.val (.int .i64 r9.Epoch)), .c (.val (.int .i64 r9.Id)), .c (.val (.int .i64 r9.Len)), .c (.sl (List.map cI64 r9.Vector)), .c (.val (.int .i64 r9.Txn.Epoch)), .c (.val (.int .i64 r9.Txn.Id)), .c (.val (.int .i64 r9.Txn.Begin)), .c (.sl (List.map SRecord.cells r9.Txn.Records)), .c (.sl (List.map cI64 r9.Txn.Vector)), .c (.val (.int .i64 r9.Done)), .c (.val (.int .i64 r9.Left))] 30), (2, .box [.c (.val (.int .i64 0)), .c (.val (.int .i64 0)), .c (.val (.int .i64 0)), .c (.val (.int .i64 0)), .c (.sl (List.map cI64 [])), .c (.val (.int .i64 0)), .c (.val (.int .i64 0)), .c (.val (.int .i64 0)), .c (.sl (List.map SRecord.cells [])), .c (.sl (List.map cI64 [])), .c (.val (.int .i64 0)), .c (.val (.int .i64 0))] 30), (3, .box [.c (.val (.int .i64 0)), .c (.val (.int .i64 0)), .c (.val (.int .i64 0)), .c (.val (.int .i64 0)), .c (.val (.int .i64 0)), .c (.val (.int .i64 0)), .c (.sl (List.map SRecord.cells [])), .c (.sl (List.map cI64 []))] 48)], 4⟩ ?_ ?_
             ·skip
              simp only [EVB, eqF, Op.operands, IntKind.bits, descF, sizeF, bytesF, zeroF, seval, reduceCtorEq, ↓reduceIte]
              exact Weak.sub' ⟨rfl, rfl, rfl, trivial⟩ ⟨rfl, rfl, rfl, trivial⟩ (Nat.le_of_ble_eq_true rfl)
             ·skip
              refine go_seq ?_
              obtain ⟨r13, hr13, hx1⟩ := letIn_ex hx1
              have Cr13 := (coord_txn_t r9.Txn (by (try simp only [SZD]); (repeat' apply And.intro) <;> first | assumption | omega | simp_all))
              simp only [hr13] at Cr13
              have zr13 := coord_txn_sz r9.Txn (by (try simp only [SZD]); (repeat' apply And.intro) <;> first | assumption | omega | simp_all)
              simp only [hr13, SZD] at zr13
              obtain ⟨zz30, zz31⟩ := zr13
              refine go_drawJ hR rfl ⟨[(12, .ptr 2 0), (13, .ptr 3 0)], [(2, .box [.c (.val (.int .i64 3)), .c (.val (.int .i64 r9.Epoch)), .c (.val (.int .i64 r9.Id)), .c (.val (.int .i64 r9.Len)), .c (.sl (List.map cI64 r9.Vector)), .c (.val (.int .i64 r9.Txn.Epoch)), .c (.val (.int .i64 r9.Txn.Id)), .c (.val (.int .i64 r9.Txn.Begin)), .c (.sl (List.map SRecord.cells r9.Txn.Records)), .c (.sl (List.map cI64 r9.Txn.Vector)), .c (.val (.int .i64 r9.Done)), .c (.val (.int .i64 r9.Left))] 30), (3, .box [.c (.val (.int .i64 4)), .c (.val (.int .i64 r9.Id)), .c (.val (.int .i64 0)), .c (.val (.int .i64 r13.Epoch)), .c (.val (.int .i64 r13.Id)), .c (.val (.int .i64 r13.Begin)), .c (.sl (List.map SRecord.cells r13.Records)), .c (.sl (List.map cI64 r13.Vector))] 48)], 4⟩ ?_ ?_
              ·skip
               simp only [EVB, eqF, Op.operands, IntKind.bits, descF, sizeF, bytesF, zeroF, seval, reduceCtorEq, ↓reduceIte]
               refine CallD.fresh Cr13.toO rfl (by first | rfl | (simp only [NM]; done)) (by (repeat' apply And.intro) <;> first | trivial | rfl | omega | (simp only [NM]; omega)) (.inl rfl) ?_
               try simp only [EVB, eqF, Op.operands, IntKind.bits, descF, sizeF, bytesF, zeroF, seval, reduceCtorEq, ↓reduceIte]
               refine ⟨by kernel_rfl, ?_⟩
               exact Weak.sub' ⟨rfl, rfl, trivial⟩ ⟨rfl, rfl, trivial⟩ (Nat.le_of_ble_eq_true rfl)
              ·skip
               subst hx1
               simp only [Sum.elim_inl] at hx0
               subst hx0
               refine go_return ttOk (fun _ h => h) rfl ?_ ?_
               ·exact (by (repeat' apply And.intro) <;> first | trivial | exact Nat.le_of_ble_eq_true rfl | omega | (simp only [NM]; omega))
               ·first | rfl | (simp only [NM, CELLS] <;> rfl)
            ·have gh12 := h12
             try simp only [GN, beq_iff_eq, beq_eq_false_iff_ne, bne_iff_ne, bne_eq_false_iff_eq] at gh12
             simp only [h12, cond_true, cond_false] at hx1
             refine go_seq ?_
             refine go_regionJ hR ⟨[(3, .c (.val (.int .i64 a3))), (6, .ptr 0 0), (12, .ptr 2 0), (13, .ptr 3 0), (14, .c (.val (.int .i64 ((o2 : Nat) : Int)))), (66, .c (.val (.bool ((((o2 : Nat) : Int) == 4) && (a3 == 0)))))], [(0, .box [.c (.val (.int .i64 r9.Phase)), .c (.val (.int .i64 r9.Epoch)), .c (.val (.int .i64 r9.Id)), .c (.val (.int .i64 r9.Len)), .c (.sl (List.map cI64 r9.Vector)), .c (.val (.int .i64 r9.Txn.Epoch)), .c (.val (.int .i64 r9.Txn.Id)), .c (.val (.int .i64 r9.Txn.Begin)), .c (.sl (List.map SRecord.cells r9.Txn.Records)), .c (.sl (List.map cI64 r9.Txn.Vector)), .c (.val (.int .i64 r9.Done)), .c (.val (.int .i64 r9.Left))] 30), (2, .box [.c (.val (.int .i64 0)), .c (.val (.int .i64 0)), .c (.val (.int .i64 0)), .c (.val (.int .i64 0)), .c (.sl (List.map cI64 [])), .c (.val (.int .i64 0)), .c (.val (.int .i64 0)), .c (.val (.int .i64 0)), .c (.sl (List.map SRecord.cells [])), .c (.sl (List.map cI64 [])), .c (.val (.int .i64 0)), .c (.val (.int .i64 0))] 30), (3, .box [.c (.val (.int .i64 0)), .c (.val (.int .i64 0)), .c (.val (.int .i64 0)), .c (.val (.int .i64 0)), .c (.val (.int .i64 0)), .c (.val (.int .i64 0)), .c (.sl (List.map SRecord.cells [])), .c (.sl (List.map cI64 []))] 48)], 4⟩ ?_ ?_
             ·skip
              rcases Bool.eq_false_or_eq_true (((o2 : Nat) : Int) == 4) with h14 | h14
              ·simp only [h14, EVB, eqF, Op.operands, IntKind.bits, descF, sizeF, bytesF, zeroF, seval, reduceCtorEq, ↓reduceIte]
               try simp only [h14, BM]
               exact Weak.sub' ⟨rfl, rfl, rfl, rfl, rfl, rfl, trivial⟩ ⟨rfl, rfl, rfl, trivial⟩ (Nat.le_of_ble_eq_true rfl)
              ·simp only [h14, EVB, eqF, Op.operands, IntKind.bits, descF, sizeF, bytesF, zeroF, seval, reduceCtorEq, ↓reduceIte]
               try simp only [h14, BM]
               exact Weak.sub' ⟨rfl, rfl, rfl, rfl, rfl, rfl, trivial⟩ ⟨rfl, rfl, rfl, trivial⟩ (Nat.le_of_ble_eq_true rfl)
             ·skip
              refine go_cond (by rfl) (fun h15 => ?_) (fun h15 => ?_)
              ·have gh15 := h15
               try simp only [GN, beq_iff_eq, beq_eq_false_iff_ne, bne_iff_ne, bne_eq_false_iff_eq] at gh15
               simp only [h15, cond_true, cond_false] at hx1
               refine go_seq ?_
               refine go_regionJ hR ⟨[(6, .ptr 0 0), (12, .ptr 2 0), (13, .ptr 3 0)], [(0, .box [.c (.val (.int .i64 0)), .c (.val (.int .i64 r9.Epoch)), .c (.val (.int .i64 r9.Id)), .c (.val (.int .i64 r9.Len)), .c (.sl (List.map cI64 r9.Vector)), .c (.val (.int .i64 0)), .c (.val (.int .i64 0)), .c (.val (.int .i64 0)), .c (.val (.slice none 0 0)), .c (.val (.slice none 0 0)), .c (.val (.int .i64 r9.Done)), .c (.val (.int .i64 r9.Left))] 30), (2, .box [.c (.val (.int .i64 0)), .c (.val (.int .i64 0)), .c (.val (.int .i64 0)), .c (.val (.int .i64 0)), .c (.sl (List.map cI64 [])), .c (.val (.int .i64 0)), .c (.val (.int .i64 0)), .c (.val (.int .i64 0)), .c (.sl (List.map SRecord.cells [])), .c (.sl (List.map cI64 [])), .c (.val (.int .i64 0)), .c (.val (.int .i64 0))] 30), (3, .box [.c (.val (.int .i64 0)), .c (.val (.int .i64 0)), .c (.val (.int .i64 0)), .c (.val (.int .i64 0)), .c (.val (.int .i64 0)), .c (.val (.int .i64 0)), .c (.sl (List.map SRecord.cells [])), .c (.sl (List.map cI64 []))] 48)], 4⟩ ?_ ?_
               ·skip
                simp only [EVB, eqF, Op.operands, IntKind.bits, descF, sizeF, bytesF, zeroF, seval, reduceCtorEq, ↓reduceIte]
                exact Weak.sub' ⟨rfl, rfl, rfl, trivial⟩ ⟨rfl, rfl, rfl, trivial⟩ (Nat.le_of_ble_eq_true rfl)
               ·skip
                refine go_regionJ hR ⟨[(6, .ptr 0 0), (12, .ptr 2 0), (13, .ptr 3 0)], [(0, .box [.c (.val (.int .i64 0)), .c (.val (.int .i64 r9.Epoch)), .c (.val (.int .i64 r9.Id)), .c (.val (.int .i64 r9.Len)), .c (.sl (List.map cI64 r9.Vector)), .c (.val (.int .i64 0)), .c (.val (.int .i64 0)), .c (.val (.int .i64 0)), .c (.val (.slice none 0 0)), .c (.val (.slice none 0 0)), .c (.val (.int .i64 (if 9007199254740992 < (IntKind.i64.wrap (r9.Done + 1)) then 9007199254740992 else (IntKind.i64.wrap (r9.Done + 1))))), .c (.val (.int .i64 r9.Left))] 30), (2, .box [.c (.val (.int .i64 0)), .c (.val (.int .i64 0)), .c (.val (.int .i64 0)), .c (.val (.int .i64 0)), .c (.sl (List.map cI64 [])), .c (.val (.int .i64 0)), .c (.val (.int .i64 0)), .c (.val (.int .i64 0)), .c (.sl (List.map SRecord.cells [])), .c (.sl (List.map cI64 [])), .c (.val (.int .i64 0)), .c (.val (.int .i64 0))] 30), (3, .box [.c (.val (.int .i64 0)), .c (.val (.int .i64 0)), .c (.val (.int .i64 0)), .c (.val (.int .i64 0)), .c (.val (.int .i64 0)), .c (.val (.int .i64 0)), .c (.sl (List.map SRecord.cells [])), .c (.sl (List.map cI64 []))] 48)], 4⟩ ?_ ?_
                ·skip
                 simp only [EVB, eqF, Op.operands, IntKind.bits, descF, sizeF, bytesF, zeroF, seval, reduceCtorEq, ↓reduceIte]
                 exact Weak.sub' ⟨rfl, rfl, rfl, trivial⟩ ⟨rfl, rfl, rfl, trivial⟩ (Nat.le_of_ble_eq_true rfl)
                ·skip
                 refine go_blk ?_
                 exact go_fin ⟨(0, r9.Epoch, r9.Id, r9.Len, r9.Vector, 0, 0, 0, [], [], (if 9007199254740992 < (IntKind.i64.wrap (r9.Done + 1)) then 9007199254740992 else (IntKind.i64.wrap (r9.Done + 1))), r9.Left), hx1.symm, (Weak.canon [0, 2, 3] [6, 12, 13] (by decide) rfl (by simp) rfl (by simp) (by first | rfl | (simp only [NM, CELLS] <;> rfl) | simp [NM, CELLS]) (by first | rfl | (simp only [NM, CELLS] <;> rfl) | simp [NM, CELLS]) rfl)⟩
              ·have gh15 := h15
               try simp only [GN, beq_iff_eq, beq_eq_false_iff_ne, bne_iff_ne, bne_eq_false_iff_eq] at gh15
               simp only [h15, cond_true, cond_false] at hx1
               refine go_seq ?_
               refine go_regionJ hR ⟨[(6, .ptr 0 0), (12, .ptr 2 0), (13, .ptr 3 0), (81, .c (.val (.bool ((((o2 : Nat) : Int) == 4) && (a3 == 4)))))], [(0, .box [.c (.val (.int .i64 r9.Phase)), .c (.val (.int .i64 r9.Epoch)), .c (.val (.int .i64 r9.Id)), .c (.val (.int .i64 r9.Len)), .c (.sl (List.map cI64 r9.Vector)), .c (.val (.int .i64 r9.Txn.Epoch)), .c (.val (.int .i64 r9.Txn.Id)), .c (.val (.int .i64 r9.Txn.Begin)), .c (.sl (List.map SRecord.cells r9.Txn.Records)), .c (.sl (List.map cI64 r9.Txn.Vector)), .c (.val (.int .i64 r9.Done)), .c (.val (.int .i64 r9.Left))] 30), (2, .box [.c (.val (.int .i64 0)), .c (.val (.int .i64 0)), .c (.val (.int .i64 0)), .c (.val (.int .i64 0)), .c (.sl (List.map cI64 [])), .c (.val (.int .i64 0)), .c (.val (.int .i64 0)), .c (.val (.int .i64 0)), .c (.sl (List.map SRecord.cells [])), .c (.sl (List.map cI64 [])), .c (.val (.int .i64 0)), .c (.val (.int .i64 0))] 30), (3, .box [.c (.val (.int .i64 0)), .c (.val (.int .i64 0)), .c (.val (.int .i64 0)), .c (.val (.int .i64 0)), .c (.val (.int .i64 0)), .c (.val (.int .i64 0)), .c (.sl (List.map SRecord.cells [])), .c (.sl (List.map cI64 []))] 48)], 4⟩ ?_ ?_
               ·skip
                rcases Bool.eq_false_or_eq_true (((o2 : Nat) : Int) == 4) with h16 | h16
                ·simp only [h16, EVB, eqF, Op.operands, IntKind.bits, descF, sizeF, bytesF, zeroF, seval, reduceCtorEq, ↓reduceIte]
                 try simp only [h16, BM]
                 exact Weak.sub' ⟨rfl, rfl, rfl, rfl, trivial⟩ ⟨rfl, rfl, rfl, trivial⟩ (Nat.le_of_ble_eq_true rfl)
                ·simp only [h16, EVB, eqF, Op.operands, IntKind.bits, descF, sizeF, bytesF, zeroF, seval, reduceCtorEq, ↓reduceIte]
                 try simp only [h16, BM]
                 exact Weak.sub' ⟨rfl, rfl, rfl, rfl, trivial⟩ ⟨rfl, rfl, rfl, trivial⟩ (Nat.le_of_ble_eq_true rfl)
               ·skip
                refine go_cond (by rfl) (fun h17 => ?_) (fun h17 => ?_)
                ·have gh17 := h17
                 try simp only [GN, beq_iff_eq, beq_eq_false_iff_ne, bne_iff_ne, bne_eq_false_iff_eq] at gh17
                 simp only [h17, cond_true, cond_false] at hx1
                 refine go_seq ?_
                 obtain ⟨r18, hr18, hx1⟩ := letIn_ex hx1
                 have Cr18 := (coord_pre_t r9 r9.Txn (by (try simp only [SZD]); (repeat' apply And.intro) <;> first | assumption | omega | simp_all) (by (try simp only [SZD]); (repeat' apply And.intro) <;> first | assumption | omega | simp_all))
                 simp only [hr18] at Cr18
                 have zr18 := coord_pre_sz r9 r9.Txn (by (try simp only [SZD]); (repeat' apply And.intro) <;> first | assumption | omega | simp_all) (by (try simp only [SZD]); (repeat' apply And.intro) <;> first | assumption | omega | simp_all)
                 simp only [hr18, SZD] at zr18
                 obtain ⟨⟨zz32, ⟨zz33, zz34⟩⟩, ⟨zz35, zz36⟩⟩ := zr18
                 refine go_regionJ hR ⟨[(12, .ptr 2 0), (13, .ptr 3 0)], [(2, .box [.c (.val (.int .i64 r18.1.Phase)), .c (.val (.int .i64 r18.1.Epoch)), .c (.val (.int .i64 r18.1.Id)), .c (.val (.int .i64 r18.1.Len)), .c (.sl (List.map cI64 r18.1.Vector)), .c (.val (.int .i64 r18.1.Txn.Epoch)), .c (.val (.int .i64 r18.1.Txn.Id)), .c (.val (.int .i64 r18.1.Txn.Begin)), .c (.sl (List.map SRecord.cells r18.1.Txn.Records)), .c (.sl (List.map cI64 r18.1.Txn.Vector)), .c (.val (.int .i64 r18.1.Done)), .c (.val (.int .i64 r18.1.Left))] 30), (3, .box [.c (.val (.int .i64 r18.2.Kind)), .c (.val (.int .i64 r18.2.Id)), .c (.val (.int .i64 r18.2.Begin)), .c (.val (.int .i64 r18.2.Txn.Epoch)), .c (.val (.int .i64 r18.2.Txn.Id)), .c (.val (.int .i64 r18.2.Txn.Begin)), .c (.sl (List.map SRecord.cells r18.2.Txn.Records)), .c (.sl (List.map cI64 r18.2.Txn.Vector))] 48)], 4⟩ ?_ ?_
                 ·skip
                  simp only [EVB, eqF, Op.operands, IntKind.bits, descF, sizeF, bytesF, zeroF, seval, reduceCtorEq, ↓reduceIte]
                  refine CallK.freshE Cr18.toO rfl (by first | rfl | (simp only [NM]; done)) (by (repeat' apply And.intro) <;> first | trivial | rfl | omega | (simp only [NM]; omega)) (.inl rfl) (by exact Nat.le_of_ble_eq_true rfl) ?_
                  try simp only [EVB, eqF, Op.operands, IntKind.bits, descF, sizeF, bytesF, zeroF, seval, reduceCtorEq, ↓reduceIte]
                  exact Weak.sub' ⟨rfl, rfl, trivial⟩ ⟨rfl, rfl, trivial⟩ (Nat.le_of_ble_eq_true rfl)
                 ·skip
                  subst hx1
                  simp only [Sum.elim_inl] at hx0
                  subst hx0
                  refine go_return ttOk (fun _ h => h) rfl ?_ ?_
                  ·exact (by (repeat' apply And.intro) <;> first | trivial | exact Nat.le_of_ble_eq_true rfl | omega | (simp only [NM]; omega))
                  ·first | rfl | (simp only [NM, CELLS] <;> rfl)
                ·have gh17 := h17
                 try simp only [GN, beq_iff_eq, beq_eq_false_iff_ne, bne_iff_ne, bne_eq_false_iff_eq] at gh17
                 simp only [h17, cond_true, cond_false] at hx1
                 obtain ⟨r19, hr19, hx1⟩ := letIn_ex hx1
                 have Cr19 := (coord_left_t r9)
                 simp only [hr19] at Cr19
                 have zr19 := coord_left_sz r9 (by (try simp only [SZD]); (repeat' apply And.intro) <;> first | assumption | omega | simp_all)
                 simp only [hr19, SZD] at zr19
                 obtain ⟨zz37, ⟨zz38, zz39⟩⟩ := zr19
                 refine go_regionJ hR ⟨[(6, .ptr 0 0), (12, .ptr 2 0), (13, .ptr 3 0)], [(0, .box [.c (.val (.int .i64 r19.Phase)), .c (.val (.int .i64 r19.Epoch)), .c (.val (.int .i64 r19.Id)), .c (.val (.int .i64 r19.Len)), .c (.sl (List.map cI64 r19.Vector)), .c (.val (.int .i64 r19.Txn.Epoch)), .c (.val (.int .i64 r19.Txn.Id)), .c (.val (.int .i64 r19.Txn.Begin)), .c (.sl (List.map SRecord.cells r19.Txn.Records)), .c (.sl (List.map cI64 r19.Txn.Vector)), .c (.val (.int .i64 r19.Done)), .c (.val (.int .i64 r19.Left))] 30), (2, .box [.c (.val (.int .i64 0)), .c (.val (.int .i64 0)), .c (.val (.int .i64 0)), .c (.val (.int .i64 0)), .c (.sl (List.map cI64 [])), .c (.val (.int .i64 0)), .c (.val (.int .i64 0)), .c (.val (.int .i64 0)), .c (.sl (List.map SRecord.cells [])), .c (.sl (List.map cI64 [])), .c (.val (.int .i64 0)), .c (.val (.int .i64 0))] 30), (3, .box [.c (.val (.int .i64 0)), .c (.val (.int .i64 0)), .c (.val (.int .i64 0)), .c (.val (.int .i64 0)), .c (.val (.int .i64 0)), .c (.val (.int .i64 0)), .c (.sl (List.map SRecord.cells [])), .c (.sl (List.map cI64 []))] 48)], 4⟩ ?_ ?_
                 ·skip
                  simp only [EVB, eqF, Op.operands, IntKind.bits, descF, sizeF, bytesF, zeroF, seval, reduceCtorEq, ↓reduceIte]
                  refine CallK.freshE Cr19.toO rfl (by first | rfl | (simp only [NM]; done)) (by (repeat' apply And.intro) <;> first | trivial | rfl | omega | (simp only [NM]; omega)) (.inl rfl) (by exact Nat.le_of_ble_eq_true rfl) ?_
                  try simp only [EVB, eqF, Op.operands, IntKind.bits, descF, sizeF, bytesF, zeroF, seval, reduceCtorEq, ↓reduceIte]
                  exact Weak.sub' ⟨rfl, rfl, rfl, trivial⟩ ⟨rfl, rfl, rfl, trivial⟩ (Nat.le_of_ble_eq_true rfl)
                 ·skip
                  refine go_blk ?_
                  exact go_fin ⟨(r19.Phase, r19.Epoch, r19.Id, r19.Len, r19.Vector, r19.Txn.Epoch, r19.Txn.Id, r19.Txn.Begin, r19.Txn.Records, r19.Txn.Vector, r19.Done, r19.Left), hx1.symm, (Weak.canon [0, 2, 3] [6, 12, 13] (by decide) rfl (by simp) rfl (by simp) (by first | rfl | (simp only [NM, CELLS] <;> rfl) | simp [NM, CELLS]) (by first | rfl | (simp only [NM, CELLS] <;> rfl) | simp [NM, CELLS]) rfl)⟩
          ·rintro o10 hp
           try dsimp only at hp
           subst hp
           simp only [Sum.elim_inr] at hx0
           refine go_seq ?_
           refine go_drawJ hR rfl ⟨[(12, .ptr 1 0), (13, .ptr 2 0)], [(1, .box [.c (.val (.int .i64 o10.1)), .c (.val (.int .i64 o10.2.1)), .c (.val (.int .i64 o10.2.2.1)), .c (.val (.int .i64 o10.2.2.2.1)), .c (.sl (List.map cI64 o10.2.2.2.2.1)), .c (.val (.int .i64 o10.2.2.2.2.2.1)), .c (.val (.int .i64 o10.2.2.2.2.2.2.1)), .c (.val (.int .i64 o10.2.2.2.2.2.2.2.1)), .c (.sl (List.map SRecord.cells o10.2.2.2.2.2.2.2.2.1)), .c (.sl (List.map cI64 o10.2.2.2.2.2.2.2.2.2.1)), .c (.val (.int .i64 o10.2.2.2.2.2.2.2.2.2.2.1)), .c (.val (.int .i64 o10.2.2.2.2.2.2.2.2.2.2.2))] 30), (2, .box [.c (.val (.int .i64 5)), .c (.val (.int .i64 o10.2.2.1)), .c (.val (.int .i64 0)), .c (.val (.int .i64 0)), .c (.val (.int .i64 0)), .c (.val (.int .i64 0)), .c (.val (.slice none 0 0)), .c (.val (.slice none 0 0))] 48)], 3⟩ ?_ ?_
           ·skip
            simp only [EVB, eqF, Op.operands, IntKind.bits, descF, sizeF, bytesF, zeroF, seval, reduceCtorEq, ↓reduceIte]
            refine ⟨by kernel_rfl, ?_⟩
            exact Weak.sub' ⟨rfl, rfl, trivial⟩ ⟨rfl, rfl, trivial⟩ (Nat.le_of_ble_eq_true rfl)
           ·skip
            subst hx0
            refine go_return ttOk (fun _ h => h) rfl ?_ ?_
            ·exact (by (repeat' apply And.intro) <;> first | trivial | exact Nat.le_of_ble_eq_true rfl | omega | (simp only [NM]; omega))
            ·first | rfl | (simp only [NM, CELLS] <;> rfl)
theorem coord_Answered_sz (a0 : SCoord) (a1 : Int) (a2 : STxnKey) (a3 : Int) (a4 : Int) (a5 : (List Int)) (z0 : SCoord.Sz a0) (z5 : a5.length ≤ 4294967296) : SCoord.Sz ((coord_Answered a0 a1 a2 a3 a4 a5).1) ∧ SDo.Sz ((coord_Answered a0 a1 a2 a3 a4 a5).2) := by
 obtain ⟨res, hx0⟩ : ∃ r, coord_Answered a0 a1 a2 a3 a4 a5 = r := ⟨_, rfl⟩
 simp only [hx0]
 unfold coord_Answered at hx0
 try simp only [SZD] at z0 z5
 obtain ⟨zz40, ⟨zz41, zz42⟩⟩ := z0
 obtain ⟨r1, hr1, hx0⟩ := letIn_ex hx0
 have zr1 := coord_clone_sz a0 (by (try simp only [SZD]); (repeat' apply And.intro) <;> first | assumption | omega | simp_all)
 simp only [hr1, SZD] at zr1
 obtain ⟨zz44, ⟨zz45, zz46⟩⟩ := zr1
 obtain ⟨o2, ho2, hx0⟩ := letIn_ex hx0
 rcases Bool.eq_false_or_eq_true (((((o2 : Nat) : Int) == 0) || (a1 != ((o2 : Nat) : Int))) || (!(decide ([a2.Epoch, a2.Id] = [(coord_key r1).Epoch, (coord_key r1).Id])))) with h7 | h7
 ·simp only [h7, cond_true, cond_false] at hx0
  subst hx0
  exact (by (try simp only [SZD]); (repeat' apply And.intro) <;> first | assumption | omega | simp_all)
 ·simp only [h7, cond_true, cond_false] at hx0
  rcases Bool.eq_false_or_eq_true (a3 == 150) with h8 | h8
  ·simp only [h8, cond_true, cond_false] at hx0
   subst hx0
   exact (by (try simp only [SZD]); (repeat' apply And.intro) <;> first | assumption | omega | simp_all)
  ·simp only [h8, cond_true, cond_false] at hx0
   obtain ⟨r9, hr9, hx0⟩ := letIn_ex hx0
   have zr9 := coord_knows_sz r1 a4 a5 (by (try simp only [SZD]); (repeat' apply And.intro) <;> first | assumption | omega | simp_all) (by (try simp only [SZD]); (repeat' apply And.intro) <;> first | assumption | omega | simp_all)
   simp only [hr9, SZD] at zr9
   obtain ⟨zz47, ⟨zz48, zz49⟩⟩ := zr9
   obtain ⟨o10s, ho10s, hx0⟩ := letIn_ex hx0
   have zo10s : (∀ q, o10s = Sum.inl q → SCoord.Sz q.1 ∧ SDo.Sz q.2) ∧ (∀ p, o10s = Sum.inr p → p.2.2.2.2.1.length ≤ 4294967296 ∧ p.2.2.2.2.2.2.2.2.1.length ≤ 4294967296 ∧ p.2.2.2.2.2.2.2.2.2.1.length ≤ 4294967296) := by
    rcases Bool.eq_false_or_eq_true ((((o2 : Nat) : Int) == 3) && (a3 == 0)) with h12 | h12
    ·simp only [h12, cond_true, cond_false] at ho10s
     obtain ⟨r13, hr13, ho10s⟩ := letIn_ex ho10s
     have zr13 := coord_txn_sz r9.Txn (by (try simp only [SZD]); (repeat' apply And.intro) <;> first | assumption | omega | simp_all)
     simp only [hr13, SZD] at zr13
     obtain ⟨zz50, zz51⟩ := zr13
     subst ho10s
     exact ⟨fun q h => (by cases h; exact (by (try simp only [SZD]); (repeat' apply And.intro) <;> first | assumption | omega | simp_all)), fun p h => (by cases h)⟩
    ·simp only [h12, cond_true, cond_false] at ho10s
     rcases Bool.eq_false_or_eq_true ((((o2 : Nat) : Int) == 4) && (a3 == 0)) with h15 | h15
     ·simp only [h15, cond_true, cond_false] at ho10s
      subst ho10s
      exact ⟨fun q h => (by cases h), fun p h => (by cases h; exact (by (try simp only [SZD]); (repeat' apply And.intro) <;> first | assumption | omega | simp_all))⟩
     ·simp only [h15, cond_true, cond_false] at ho10s
      rcases Bool.eq_false_or_eq_true ((((o2 : Nat) : Int) == 4) && (a3 == 4)) with h17 | h17
      ·simp only [h17, cond_true, cond_false] at ho10s
       obtain ⟨r18, hr18, ho10s⟩ := letIn_ex ho10s
       have zr18 := coord_pre_sz r9 r9.Txn (by (try simp only [SZD]); (repeat' apply And.intro) <;> first | assumption | omega | simp_all) (by (try simp only [SZD]); (repeat' apply And.intro) <;> first | assumption | omega | simp_all)
       simp only [hr18, SZD] at zr18
       obtain ⟨⟨zz52, ⟨zz53, zz54⟩⟩, ⟨zz55, zz56⟩⟩ := zr18
       subst ho10s
       exact ⟨fun q h => (by cases h; exact (by (try simp only [SZD]); (repeat' apply And.intro) <;> first | assumption | omega | simp_all)), fun p h => (by cases h)⟩
      ·simp only [h17, cond_true, cond_false] at ho10s
       obtain ⟨r19, hr19, ho10s⟩ := letIn_ex ho10s
       have zr19 := coord_left_sz r9 (by (try simp only [SZD]); (repeat' apply And.intro) <;> first | assumption | omega | simp_all)
       simp only [hr19, SZD] at zr19
       obtain ⟨zz57, ⟨zz58, zz59⟩⟩ := zr19
       subst ho10s
       exact ⟨fun q h => (by cases h), fun p h => (by cases h; exact (by (try simp only [SZD]); (repeat' apply And.intro) <;> first | assumption | omega | simp_all))⟩
   rcases o10s with q | o10
   ·simp only [Sum.elim_inl] at hx0
    subst hx0
    exact zo10s.1 _ rfl
   ·simp only [Sum.elim_inr] at hx0
    have zo10 := zo10s.2 _ rfl
    subst hx0
    exact (by (try simp only [SZD]); (repeat' apply And.intro) <;> first | assumption | omega | simp_all)
end Go.Ab.Try
