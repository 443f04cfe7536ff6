/-
  Functions, and what they compute: printed by wg.py, a program of this work.
-/
import Derived.Test.YtpfgofnmkaljaaaMg36
set_option linter.unusedVariables false
set_option linter.unusedSimpArgs false
namespace Go.Ab.Try
open Go Go.Proofs Go.Ab
def pontoonref08_SameRecords_L0 (a0 : (List SRecord)) (a1 : (List SRecord)) (x6 : Nat) : Sum Bool Unit :=
  (if h7 : (decide (((x6 : Nat) : Int) < ((a0.length : Nat) : Int))) = true then (if h8 : (!(decide ([(List.getD a0 x6 default).Key, (List.getD a0 x6 default).Val] = [(List.getD a1 x6 default).Key, (List.getD a1 x6 default).Val]))) = true then (Sum.inl false) else (pontoonref08_SameRecords_L0 a0 a1 (x6 + 1))) else (Sum.inr ()))
termination_by a0.length - x6
decreasing_by all_goals (try simp only [GZ] at *) <;> omega
def pontoonref08_SameRecords (a0 : (List SRecord)) (a1 : (List SRecord)) : Bool :=
  (bif (((a0.length : Nat) : Int) != ((a1.length : Nat) : Int)) then false else letIn (pontoonref08_SameRecords_L0 a0 a1 0) fun o2s => Sum.elim (fun q => q) (fun o2 => true) o2s)
set_option maxRecDepth 10000 in
set_option maxHeartbeats 8000000 in
theorem pontoonref08_SameRecords_t (a0 : (List SRecord)) (a1 : (List SRecord)) : FnP Try.prog 15 [(sL SRecord.cells a0), (sL SRecord.cells a1)] ((bo (pontoonref08_SameRecords a0 a1))) := by
 refine FnP.intro (tt := tt) Try.func15 rfl (by kernel_rfl) (by simp [Try.ntmps15]) fun w0 A hA => ?_
 have hR := reckB_ok eqOk ttOk
 obtain ⟨res, hx0⟩ : ∃ r, pontoonref08_SameRecords a0 a1 = r := ⟨_, rfl⟩
 simp only [hx0]
 unfold pontoonref08_SameRecords at hx0
 simp only [argT, Try.ntmps15]
 refine go_seq ?_
 refine go_rk eqOk ttOk [] [] ⟨[(0, (sL SRecord.cells a0)), (1, (sL SRecord.cells a1))], [], 0⟩ (by kernel_rfl) trivial ?_
 refine go_seq ?_
 refine go_seq ?_
 refine go_rk eqOk ttOk [(1, .tell (iV ((a0.length : Nat) : Int))), (3, .tell (iV ((a1.length : Nat) : Int)))] [LN SRecord.cells a0, LN SRecord.cells a1] ⟨[(0, (sL SRecord.cells a0)), (1, (sL SRecord.cells a1)), (10, (bo (((a0.length : Nat) : Int) != ((a1.length : Nat) : Int))))], [], 0⟩ (by kernel_rfl) ⟨ln, ln, trivial⟩ ?_
 refine go_cond (by rfl) (fun h1 => ?_) (fun h1 => ?_)
 ·have gh1 := h1
  try simp only [GZ] at gh1
  replace hx0 := condT h1 hx0
  refine go_seq ?_
  refine go_rk eqOk ttOk [] [] ⟨[(4, (bo false))], [], 0⟩ (by kernel_rfl) trivial ?_
  subst hx0
  exact go_ret1 rfl
 ·have gh1 := h1
  try simp only [GZ] at gh1
  replace hx0 := condF h1 hx0
  refine go_skip ?_
  refine go_seq ?_
  refine go_seq ?_
  refine go_rk eqOk ttOk [] [] ⟨[(0, (sL SRecord.cells a0)), (1, (sL SRecord.cells a1)), (5, (iV 0))], [], 0⟩ (by kernel_rfl) trivial ?_
  obtain ⟨o2s, hx1, hx0⟩ := letIn_ex hx0
  refine go_joinE (fun p : Unit => ⟨[], [], 0⟩) (fun p : Unit => o2s = Sum.inr p) ?_ ?_
  ·refine go_block ?_
   refine go_len (t := 0) rfl (fun hl9 => ?_)
   simp only [List.length_map, maxLen_eq] at hl9
   refine go_len (t := 1) rfl (fun hl10 => ?_)
   simp only [List.length_map, maxLen_eq] at hl10
   refine go_loop (fun p : Nat => ⟨[(0, (sL SRecord.cells a0)), (1, (sL SRecord.cells a1)), (5, (iV ((p : Nat) : Int)))], [], 0⟩) (fun p : Nat => (p ≤ a0.length) ∧ pontoonref08_SameRecords_L0 a0 a1 p = o2s) (fun p : Nat => a0.length - p) 0 ⟨(by first | trivial | omega | ((try dsimp only) <;> (repeat' apply And.intro) <;> first | trivial | omega | assumption | (simp; done))), hx1⟩ (Weak.canon [] [0, 1, 5] (by decide) rfl trivial rfl (by simp) (by first | rfl | (simp only [NM, CELLS] <;> rfl) | (simp [NM, CELLS]; done) | (simp [NM, CELLS, AVS]; done) | (simp [NM, CELLS, AVS, numb]; done)) rfl rfl) ?_
   rintro x6 ⟨hi11, hx1⟩
   try dsimp only at hi11 hx1 ⊢
   rw [pontoonref08_SameRecords_L0.eq_def] at hx1
   refine go_seq ?_
   refine go_seq ?_
   refine go_rk eqOk ttOk [(2, .tell (iV ((a0.length : Nat) : Int)))] [LN SRecord.cells a0] ⟨[(0, (sL SRecord.cells a0)), (1, (sL SRecord.cells a1)), (5, (iV ((x6 : Nat) : Int))), (14, (bo (decide (((x6 : Nat) : Int) < ((a0.length : Nat) : Int)))))], [], 0⟩ (by kernel_rfl) ⟨ln, trivial⟩ ?_
   refine go_cond (by rfl) (fun h7 => ?_) (fun h7 => ?_)
   ·have gh7 := h7
    try simp only [GZ] at gh7
    replace hx1 := iteT h7 hx1
    refine go_skip ?_
    refine go_seq ?_
    refine go_block ?_
    refine go_seq ?_
    have bq12 : x6 < a0.length := by omega
    have bq13 : x6 < a1.length := by omega
    refine go_dk eqOk ttOk rfl [(2, .row (SRecord.cells (List.getD a0 x6 default))), (6, .row (SRecord.cells (List.getD a1 x6 default)))] [IX SRecord.cells a0 ((x6 : Nat) : Int), IX SRecord.cells a1 ((x6 : Nat) : Int)] ⟨[(0, (sL SRecord.cells a0)), (1, (sL SRecord.cells a1)), (5, (iV ((x6 : Nat) : Int))), (25, (bo (!(decide ([(List.getD a0 x6 default).Key, (List.getD a0 x6 default).Val] = [(List.getD a1 x6 default).Key, (List.getD a1 x6 default).Val])))))], [], 0⟩ (by kernel_rfl) ⟨(ixn bq12), (ixn bq13), trivial⟩ ?_
    refine go_cond (by rfl) (fun h8 => ?_) (fun h8 => ?_)
    ·have gh8 := h8
     try simp only [GZ] at gh8
     replace hx1 := iteT h8 hx1
     refine go_seq ?_
     refine go_rk eqOk ttOk [] [] ⟨[(4, (bo false))], [], 0⟩ (by kernel_rfl) trivial ?_
     subst hx1
     simp only [Sum.elim_inl] at hx0
     subst hx0
     exact go_ret1 rfl
    ·have gh8 := h8
     try simp only [GZ] at gh8
     replace hx1 := iteF h8 hx1
     refine go_skip ?_
     refine go_blk ?_
     refine go_rk eqOk ttOk [(1, .tell (iV ((x6 + 1 : Nat) : Int)))] [WR (((x6 : Nat) : Int) + 1) ((x6 + 1 : Nat) : Int)] ⟨[(0, (sL SRecord.cells a0)), (1, (sL SRecord.cells a1)), (5, (iV ((x6 + 1 : Nat) : Int)))], [], 0⟩ (by kernel_rfl) ⟨(wr (by omega) (by omega) (by omega)), trivial⟩ ?_
     exact go_fin ⟨x6 + 1, ⟨(by first | trivial | omega | ((try dsimp only) <;> (repeat' apply And.intro) <;> first | trivial | omega | assumption | (simp; done))), hx1⟩, by first | omega | (dsimp only; omega), (Weak.canon [] [0, 1, 5] (by decide) rfl trivial rfl (by simp) (by first | rfl | (simp only [NM, CELLS] <;> rfl) | (simp [NM, CELLS]; done) | (simp [NM, CELLS, AVS]; done) | (simp [NM, CELLS, AVS, numb]; done)) rfl rfl)⟩
   ·have gh7 := h7
    try simp only [GZ] at gh7
    replace hx1 := iteF h7 hx1
    refine go_exit rfl ?_
    exact go_fin ⟨(), hx1.symm, (Weak.canon [] [] (by decide) rfl trivial rfl (by simp) (by first | rfl | (simp only [NM, CELLS] <;> rfl) | (simp [NM, CELLS]; done) | (simp [NM, CELLS, AVS]; done) | (simp [NM, CELLS, AVS, numb]; done)) rfl rfl)⟩
  ·rintro o2 hp
   try dsimp only at hp
   subst hp
   simp only [Sum.elim_inr] at hx0
   refine go_seq ?_
   refine go_rk eqOk ttOk [] [] ⟨[(4, (bo true))], [], 0⟩ (by kernel_rfl) trivial ?_
   subst hx0
   exact go_ret1 rfl
def slices_Equal_int_L0 (a0 : (List Int)) (a1 : (List Int)) (x6 : Nat) : Sum Bool Unit :=
  (if h7 : (decide (((x6 : Nat) : Int) < ((a0.length : Nat) : Int))) = true then (if h8 : ((List.getD a0 x6 default) != (List.getD a1 x6 default)) = true then (Sum.inl false) else (slices_Equal_int_L0 a0 a1 (x6 + 1))) else (Sum.inr ()))
termination_by a0.length - x6
decreasing_by all_goals (try simp only [GZ] at *) <;> omega
def slices_Equal_int (a0 : (List Int)) (a1 : (List Int)) : Bool :=
  (bif (((a0.length : Nat) : Int) != ((a1.length : Nat) : Int)) then false else letIn (slices_Equal_int_L0 a0 a1 0) fun o2s => Sum.elim (fun q => q) (fun o2 => true) o2s)
set_option maxRecDepth 10000 in
set_option maxHeartbeats 8000000 in
theorem slices_Equal_int_t (a0 : (List Int)) (a1 : (List Int)) : FnP Try.prog 16 [(sL cI64 a0), (sL cI64 a1)] ((bo (slices_Equal_int a0 a1))) := by
 refine FnP.intro (tt := tt) Try.func16 rfl (by kernel_rfl) (by simp [Try.ntmps16]) fun w0 A hA => ?_
 have hR := reckB_ok eqOk ttOk
 obtain ⟨res, hx0⟩ : ∃ r, slices_Equal_int a0 a1 = r := ⟨_, rfl⟩
 simp only [hx0]
 unfold slices_Equal_int at hx0
 simp only [argT, Try.ntmps16]
 refine go_seq ?_
 refine go_rk eqOk ttOk [] [] ⟨[(0, (sL cI64 a0)), (1, (sL cI64 a1))], [], 0⟩ (by kernel_rfl) trivial ?_
 refine go_seq ?_
 refine go_seq ?_
 refine go_rk eqOk ttOk [(1, .tell (iV ((a0.length : Nat) : Int))), (3, .tell (iV ((a1.length : Nat) : Int)))] [LN cI64 a0, LN cI64 a1] ⟨[(0, (sL cI64 a0)), (1, (sL cI64 a1)), (10, (bo (((a0.length : Nat) : Int) != ((a1.length : Nat) : Int))))], [], 0⟩ (by kernel_rfl) ⟨ln, ln, trivial⟩ ?_
 refine go_cond (by rfl) (fun h1 => ?_) (fun h1 => ?_)
 ·have gh1 := h1
  try simp only [GZ] at gh1
  replace hx0 := condT h1 hx0
  refine go_seq ?_
  refine go_rk eqOk ttOk [] [] ⟨[(4, (bo false))], [], 0⟩ (by kernel_rfl) trivial ?_
  subst hx0
  exact go_ret1 rfl
 ·have gh1 := h1
  try simp only [GZ] at gh1
  replace hx0 := condF h1 hx0
  refine go_skip ?_
  refine go_seq ?_
  refine go_seq ?_
  refine go_rk eqOk ttOk [(1, .tell (iV ((a0.length : Nat) : Int)))] [LN cI64 a0] ⟨[(0, (sL cI64 a0)), (1, (sL cI64 a1)), (12, (iV ((a0.length : Nat) : Int))), (13, (iV 0))], [], 0⟩ (by kernel_rfl) ⟨ln, trivial⟩ ?_
  obtain ⟨o2s, hx1, hx0⟩ := letIn_ex hx0
  refine go_joinE (fun p : Unit => ⟨[], [], 0⟩) (fun p : Unit => o2s = Sum.inr p) ?_ ?_
  ·refine go_block ?_
   refine go_len (t := 0) rfl (fun hl9 => ?_)
   simp only [List.length_map, maxLen_eq] at hl9
   refine go_len (t := 1) rfl (fun hl10 => ?_)
   simp only [List.length_map, maxLen_eq] at hl10
   refine go_loop (fun p : Nat => ⟨[(0, (sL cI64 a0)), (1, (sL cI64 a1)), (12, (iV ((a0.length : Nat) : Int))), (13, (iV ((p : Nat) : Int)))], [], 0⟩) (fun p : Nat => (p ≤ a0.length) ∧ slices_Equal_int_L0 a0 a1 p = o2s) (fun p : Nat => a0.length - p) 0 ⟨(by first | trivial | omega | ((try dsimp only) <;> (repeat' apply And.intro) <;> first | trivial | omega | assumption | (simp; done))), hx1⟩ (Weak.canon [] [0, 1, 12, 13] (by decide) rfl trivial rfl (by simp) (by first | rfl | (simp only [NM, CELLS] <;> rfl) | (simp [NM, CELLS]; done) | (simp [NM, CELLS, AVS]; done) | (simp [NM, CELLS, AVS, numb]; done)) rfl rfl) ?_
   rintro x6 ⟨hi11, hx1⟩
   try dsimp only at hi11 hx1 ⊢
   rw [slices_Equal_int_L0.eq_def] at hx1
   refine go_seq ?_
   refine go_rk eqOk ttOk [] [] ⟨[(0, (sL cI64 a0)), (1, (sL cI64 a1)), (12, (iV ((a0.length : Nat) : Int))), (13, (iV ((x6 : Nat) : Int))), (14, (bo (decide (((x6 : Nat) : Int) < ((a0.length : Nat) : Int)))))], [], 0⟩ (by kernel_rfl) trivial ?_
   refine go_seq ?_
   refine go_cond (by rfl) (fun h7 => ?_) (fun h7 => ?_)
   ·have gh7 := h7
    try simp only [GZ] at gh7
    replace hx1 := iteT h7 hx1
    refine go_skip ?_
    refine go_seq ?_
    refine go_block ?_
    refine go_seq ?_
    refine go_rk eqOk ttOk [] [] ⟨[(0, (sL cI64 a0)), (1, (sL cI64 a1)), (5, (iV ((x6 : Nat) : Int))), (12, (iV ((a0.length : Nat) : Int))), (13, (iV ((x6 : Nat) : Int)))], [], 0⟩ (by kernel_rfl) trivial ?_
    refine go_seq ?_
    have bq12 : x6 < a0.length := by omega
    have bq13 : x6 < a1.length := by omega
    refine go_dk eqOk ttOk rfl [(2, .row (cI64 (List.getD a0 x6 default))), (6, .row (cI64 (List.getD a1 x6 default)))] [IX cI64 a0 ((x6 : Nat) : Int), IX cI64 a1 ((x6 : Nat) : Int)] ⟨[(0, (sL cI64 a0)), (1, (sL cI64 a1)), (12, (iV ((a0.length : Nat) : Int))), (13, (iV ((x6 : Nat) : Int))), (24, (bo ((List.getD a0 x6 default) != (List.getD a1 x6 default))))], [], 0⟩ (by kernel_rfl) ⟨(ixn bq12), (ixn bq13), trivial⟩ ?_
    refine go_cond (by rfl) (fun h8 => ?_) (fun h8 => ?_)
    ·have gh8 := h8
     try simp only [GZ] at gh8
     replace hx1 := iteT h8 hx1
     refine go_seq ?_
     refine go_rk eqOk ttOk [] [] ⟨[(4, (bo false))], [], 0⟩ (by kernel_rfl) trivial ?_
     subst hx1
     simp only [Sum.elim_inl] at hx0
     subst hx0
     exact go_ret1 rfl
    ·have gh8 := h8
     try simp only [GZ] at gh8
     replace hx1 := iteF h8 hx1
     refine go_skip ?_
     refine go_blk ?_
     refine go_rk eqOk ttOk [(0, .tell (iV ((x6 + 1 : Nat) : Int)))] [WR (((x6 : Nat) : Int) + 1) ((x6 + 1 : Nat) : Int)] ⟨[(0, (sL cI64 a0)), (1, (sL cI64 a1)), (12, (iV ((a0.length : Nat) : Int))), (13, (iV ((x6 + 1 : Nat) : Int)))], [], 0⟩ (by kernel_rfl) ⟨(wr (by omega) (by omega) (by omega)), trivial⟩ ?_
     exact go_fin ⟨x6 + 1, ⟨(by first | trivial | omega | ((try dsimp only) <;> (repeat' apply And.intro) <;> first | trivial | omega | assumption | (simp; done))), hx1⟩, by first | omega | (dsimp only; omega), (Weak.canon [] [0, 1, 12, 13] (by decide) rfl trivial rfl (by simp) (by first | rfl | (simp only [NM, CELLS] <;> rfl) | (simp [NM, CELLS]; done) | (simp [NM, CELLS, AVS]; done) | (simp [NM, CELLS, AVS, numb]; done)) rfl rfl)⟩
   ·have gh7 := h7
    try simp only [GZ] at gh7
    replace hx1 := iteF h7 hx1
    refine go_exit rfl ?_
    exact go_fin ⟨(), hx1.symm, (Weak.canon [] [] (by decide) rfl trivial rfl (by simp) (by first | rfl | (simp only [NM, CELLS] <;> rfl) | (simp [NM, CELLS]; done) | (simp [NM, CELLS, AVS]; done) | (simp [NM, CELLS, AVS, numb]; done)) rfl rfl)⟩
  ·rintro o2 hp
   try dsimp only at hp
   subst hp
   simp only [Sum.elim_inr] at hx0
   refine go_seq ?_
   refine go_rk eqOk ttOk [] [] ⟨[(4, (bo true))], [], 0⟩ (by kernel_rfl) trivial ?_
   subst hx0
   exact go_ret1 rfl
def slices_Clone_Record (a0 : List SRecord) : List SRecord := a0
set_option maxRecDepth 10000 in
theorem slices_Clone_Record_o (a0 : List SRecord) (hz : a0.length ≤ 4294967296) : FnO Try.prog 17 [.c (.sl (List.map SRecord.cells a0))] [.acc 2 (List.map SRecord.cells a0) 34] (.own 0 2 0 a0.length) := by
  refine FnO.intro (tt := tt) Try.func17 rfl (by kernel_rfl) (by simp [Try.ntmps17]) fun w0 A hA => ?_
  have hR := reckB_ok eqOk ttOk
  simp only [argT, Try.ntmps17]
  (repeat (first | refine go_seq ?_ | refine go_skip ?_ | refine go_blk ?_ | refine go_block ?_ | refine go_scope (fun _ _ _ h => h) ?_ | refine go_label ?_ | (refine go_region hR ?_; simp only [EV1, EV2, EV3, EV4, EV5, EV6, EV7, EV8, EV9, EV10, EV11, EV12, eqF, Op.operands, IntKind.bits, descF, sizeF, bytesF, zeroF, Nat.reduceLT, Nat.reduceLeDiff, Nat.reduceAdd, Nat.reduceSub, Nat.reduceMul, Nat.reduceBEq, Nat.reduceEqDiff, reduceCtorEq, ↓reduceIte, Int.reduceToNat, Nat.reducePow, Int.reducePow, Int.reduceLE, Int.reduceLT, Int.reduceAdd, Int.reduceSub, Int.reduceMul, Int.reduceNeg, Int.reduceBEq, Int.reduceBNe, Int.reduceEq]) | (refine go_draw hR rfl ?_; simp only [EV1, EV2, EV3, EV4, EV5, EV6, EV7, EV8, EV9, EV10, EV11, EV12, eqF, Op.operands, IntKind.bits, descF, sizeF, bytesF, zeroF, Nat.reduceLT, Nat.reduceLeDiff, Nat.reduceAdd, Nat.reduceSub, Nat.reduceMul, Nat.reduceBEq, Nat.reduceEqDiff, reduceCtorEq, ↓reduceIte, Int.reduceToNat, Nat.reducePow, Int.reducePow, Int.reduceLE, Int.reduceLT, Int.reduceAdd, Int.reduceSub, Int.reduceMul, Int.reduceNeg, Int.reduceBEq, Int.reduceBNe, Int.reduceEq]) | refine ⟨by kernel_rfl, ?_⟩ | refine ⟨by decide, ?_⟩))
  refine spec_eqnil (cx := cx0 _ _ _ _ _ _) (p := List.map SRecord.cells a0 = []) ttOk rfl rfl rfl (by exact Nat.le_of_ble_eq_true rfl) fun b hb => ?_
  (repeat (first | refine go_seq ?_ | refine go_skip ?_ | refine go_blk ?_ | refine go_block ?_ | refine go_scope (fun _ _ _ h => h) ?_ | refine go_label ?_ | (refine go_region hR ?_; simp only [EV1, EV2, EV3, EV4, EV5, EV6, EV7, EV8, EV9, EV10, EV11, EV12, eqF, Op.operands, IntKind.bits, descF, sizeF, bytesF, zeroF, Nat.reduceLT, Nat.reduceLeDiff, Nat.reduceAdd, Nat.reduceSub, Nat.reduceMul, Nat.reduceBEq, Nat.reduceEqDiff, reduceCtorEq, ↓reduceIte, Int.reduceToNat, Nat.reducePow, Int.reducePow, Int.reduceLE, Int.reduceLT, Int.reduceAdd, Int.reduceSub, Int.reduceMul, Int.reduceNeg, Int.reduceBEq, Int.reduceBNe, Int.reduceEq]) | (refine go_draw hR rfl ?_; simp only [EV1, EV2, EV3, EV4, EV5, EV6, EV7, EV8, EV9, EV10, EV11, EV12, eqF, Op.operands, IntKind.bits, descF, sizeF, bytesF, zeroF, Nat.reduceLT, Nat.reduceLeDiff, Nat.reduceAdd, Nat.reduceSub, Nat.reduceMul, Nat.reduceBEq, Nat.reduceEqDiff, reduceCtorEq, ↓reduceIte, Int.reduceToNat, Nat.reducePow, Int.reducePow, Int.reduceLE, Int.reduceLT, Int.reduceAdd, Int.reduceSub, Int.reduceMul, Int.reduceNeg, Int.reduceBEq, Int.reduceBNe, Int.reduceEq]) | refine ⟨by kernel_rfl, ?_⟩ | refine ⟨by decide, ?_⟩))
  refine go_cond rfl (fun h => ?_) (fun h => ?_)
  · (repeat (first | refine go_seq ?_ | refine go_skip ?_ | refine go_blk ?_ | refine go_block ?_ | refine go_scope (fun _ _ _ h => h) ?_ | refine go_label ?_ | (refine go_region hR ?_; simp only [EV1, EV2, EV3, EV4, EV5, EV6, EV7, EV8, EV9, EV10, EV11, EV12, eqF, Op.operands, IntKind.bits, descF, sizeF, bytesF, zeroF, Nat.reduceLT, Nat.reduceLeDiff, Nat.reduceAdd, Nat.reduceSub, Nat.reduceMul, Nat.reduceBEq, Nat.reduceEqDiff, reduceCtorEq, ↓reduceIte, Int.reduceToNat, Nat.reducePow, Int.reducePow, Int.reduceLE, Int.reduceLT, Int.reduceAdd, Int.reduceSub, Int.reduceMul, Int.reduceNeg, Int.reduceBEq, Int.reduceBNe, Int.reduceEq]) | (refine go_draw hR rfl ?_; simp only [EV1, EV2, EV3, EV4, EV5, EV6, EV7, EV8, EV9, EV10, EV11, EV12, eqF, Op.operands, IntKind.bits, descF, sizeF, bytesF, zeroF, Nat.reduceLT, Nat.reduceLeDiff, Nat.reduceAdd, Nat.reduceSub, Nat.reduceMul, Nat.reduceBEq, Nat.reduceEqDiff, reduceCtorEq, ↓reduceIte, Int.reduceToNat, Nat.reducePow, Int.reducePow, Int.reduceLE, Int.reduceLT, Int.reduceAdd, Int.reduceSub, Int.reduceMul, Int.reduceNeg, Int.reduceBEq, Int.reduceBNe, Int.reduceEq]) | refine ⟨by kernel_rfl, ?_⟩ | refine ⟨by decide, ?_⟩))
    have h0 : a0 = [] := by simpa using hb h
    subst h0
    refine go_nilOwn 2 2 34 rfl ?_
    refine go_returnO [0] (by simp) ttOk rfl ?_ rfl rfl
    simp
  · (repeat (first | refine go_seq ?_ | refine go_skip ?_ | refine go_blk ?_ | refine go_block ?_ | refine go_scope (fun _ _ _ h => h) ?_ | refine go_label ?_ | (refine go_region hR ?_; simp only [EV1, EV2, EV3, EV4, EV5, EV6, EV7, EV8, EV9, EV10, EV11, EV12, eqF, Op.operands, IntKind.bits, descF, sizeF, bytesF, zeroF, Nat.reduceLT, Nat.reduceLeDiff, Nat.reduceAdd, Nat.reduceSub, Nat.reduceMul, Nat.reduceBEq, Nat.reduceEqDiff, reduceCtorEq, ↓reduceIte, Int.reduceToNat, Nat.reducePow, Int.reducePow, Int.reduceLE, Int.reduceLT, Int.reduceAdd, Int.reduceSub, Int.reduceMul, Int.reduceNeg, Int.reduceBEq, Int.reduceBNe, Int.reduceEq]) | (refine go_draw hR rfl ?_; simp only [EV1, EV2, EV3, EV4, EV5, EV6, EV7, EV8, EV9, EV10, EV11, EV12, eqF, Op.operands, IntKind.bits, descF, sizeF, bytesF, zeroF, Nat.reduceLT, Nat.reduceLeDiff, Nat.reduceAdd, Nat.reduceSub, Nat.reduceMul, Nat.reduceBEq, Nat.reduceEqDiff, reduceCtorEq, ↓reduceIte, Int.reduceToNat, Nat.reducePow, Int.reducePow, Int.reduceLE, Int.reduceLT, Int.reduceAdd, Int.reduceSub, Int.reduceMul, Int.reduceNeg, Int.reduceBEq, Int.reduceBNe, Int.reduceEq]) | refine ⟨by kernel_rfl, ?_⟩ | refine ⟨by decide, ?_⟩))
    refine ⟨⟨fun u hu => by obtain ⟨x, _, rfl⟩ := List.mem_map.1 hu; rfl, by rw [List.length_map]; omega, by rw [List.length_map]; omega⟩, ?_⟩
    refine go_returnO [0] (by simp) ttOk rfl ?_ ?_ rfl
    · simp
    · rw [List.length_map]
theorem slices_Clone_Record_t (a0 : List SRecord) (hz : a0.length ≤ 4294967296) : FnP Try.prog 17 [.c (.sl (List.map SRecord.cells a0))] (.c (.sl (List.map SRecord.cells (slices_Clone_Record a0)))) := by
  have := (slices_Clone_Record_o a0 hz).frz rfl ⟨rfl, by rw [List.length_map]; omega⟩
  rwa [List.drop_zero, take_map_len] at this
theorem slices_Clone_Record_sz (a0 : List SRecord) (hz : a0.length ≤ 4294967296) : (slices_Clone_Record a0).length ≤ 4294967296 := hz
def pontoonlaw08_records_L0 (a0 : (List Int)) (x4 : Nat) (x5 : List SRecord) : List SRecord :=
  (if h6 : (decide (((x4 : Nat) : Int) < ((a0.length : Nat) : Int))) = true then (pontoonlaw08_records_L0 a0 (x4 + 1) (x5 ++ [(SRecord.mk 0 (List.getD a0 x4 default))])) else x5)
termination_by a0.length - x4
decreasing_by all_goals (try simp only [GZ] at *) <;> omega
def pontoonlaw08_records (a0 : (List Int)) : (List SRecord) :=
  letIn (pontoonlaw08_records_L0 a0 0 []) fun o1 => o1
set_option maxRecDepth 10000 in
set_option maxHeartbeats 8000000 in
theorem pontoonlaw08_records_t (a0 : (List Int)) (z0 : a0.length ≤ 4294967296) : FnP Try.prog 18 [(sL cI64 a0)] ((sL SRecord.cells (pontoonlaw08_records a0))) := by
 refine FnP.intro (tt := tt) Try.func18 rfl (by kernel_rfl) (by simp [Try.ntmps18]) fun w0 A hA => ?_
 have hR := reckB_ok eqOk ttOk
 obtain ⟨res, hx0⟩ : ∃ r, pontoonlaw08_records a0 = r := ⟨_, rfl⟩
 simp only [hx0]
 unfold pontoonlaw08_records at hx0
 simp only [argT, Try.ntmps18]
 try simp only [SZD] at z0
 refine go_seq ?_
 refine go_rk eqOk ttOk [] [] ⟨[(0, (sL cI64 a0))], [], 0⟩ (by kernel_rfl) trivial ?_
 refine go_seq ?_
 refine go_rk eqOk ttOk [] [] ⟨[(0, (sL cI64 a0)), (3, nS)], [], 0⟩ (by kernel_rfl) trivial ?_
 refine go_nilOwn 3 2 34 rfl ?_
 refine go_weak (s' := ⟨[(0, (sL cI64 a0)), (3, .own 0 2 0 0)], [(0, .acc 2 (List.map SRecord.cells []) 34)], 1⟩) (Weak.sub' (by repeat (first | exact trivial | refine ⟨rfl, ?_⟩)) (by repeat (first | exact trivial | refine ⟨rfl, ?_⟩)) (by exact Nat.le_of_ble_eq_true rfl)) ?_
 refine go_seq ?_
 refine go_seq ?_
 refine go_rk eqOk ttOk [(1, .tell (iV ((a0.length : Nat) : Int)))] [LN cI64 a0] ⟨[(3, .own 0 2 0 0), (6, (sL cI64 a0)), (7, (iV ((a0.length : Nat) : Int))), (8, (iV 0))], [(0, .acc 2 (List.map SRecord.cells []) 34)], 1⟩ (by kernel_rfl) ⟨ln, trivial⟩ ?_
 obtain ⟨o1, hx1, hx0⟩ := letIn_ex hx0
 refine go_joinE (fun p : List SRecord => ⟨[(3, .own 0 2 0 p.length)], [(0, .acc 2 (List.map SRecord.cells p) 34)], 1⟩) (fun p : List SRecord => o1 = p) ?_ ?_
 ·refine go_block ?_
  refine go_len (t := 6) rfl (fun hl8 => ?_)
  simp only [List.length_map, maxLen_eq] at hl8
  refine go_loop (fun p : Nat × (List SRecord) => ⟨[(3, .own 0 2 0 p.2.length), (6, (sL cI64 a0)), (7, (iV ((a0.length : Nat) : Int))), (8, (iV ((p.1 : Nat) : Int)))], [(0, .acc 2 (List.map SRecord.cells p.2) 34)], 1⟩) (fun p : Nat × (List SRecord) => (p.1 ≤ a0.length ∧ p.2.length = p.1) ∧ pontoonlaw08_records_L0 a0 p.1 p.2 = o1) (fun p : Nat × (List SRecord) => a0.length - p.1) (0, []) ⟨(by first | trivial | omega | ((try dsimp only) <;> (repeat' apply And.intro) <;> first | trivial | omega | assumption | (simp; done))), hx1⟩ (Weak.cn [0] [3, 6, 7, 8] rfl rfl rfl) ?_
  rintro ⟨x4, x5⟩ ⟨hi9, hx1⟩
  try dsimp only at hi9 hx1 ⊢
  rw [pontoonlaw08_records_L0.eq_def] at hx1
  refine go_seq ?_
  refine go_rk eqOk ttOk [] [] ⟨[(3, .own 0 2 0 x5.length), (6, (sL cI64 a0)), (7, (iV ((a0.length : Nat) : Int))), (8, (iV ((x4 : Nat) : Int))), (9, (bo (decide (((x4 : Nat) : Int) < ((a0.length : Nat) : Int)))))], [(0, .acc 2 (List.map SRecord.cells x5) 34)], 1⟩ (by kernel_rfl) trivial ?_
  refine go_seq ?_
  refine go_cond (by rfl) (fun h6 => ?_) (fun h6 => ?_)
  ·have gh6 := h6
   try simp only [GZ] at gh6
   replace hx1 := iteT h6 hx1
   refine go_skip ?_
   refine go_seq ?_
   refine go_block ?_
   refine go_seq ?_
   have bq10 : x4 < a0.length := by omega
   refine go_rk eqOk ttOk [(0, .row (cI64 (List.getD a0 x4 default)))] [IX cI64 a0 ((x4 : Nat) : Int)] ⟨[(3, .own 0 2 0 x5.length), (5, (iV (List.getD a0 x4 default))), (6, (sL cI64 a0)), (7, (iV ((a0.length : Nat) : Int))), (8, (iV ((x4 : Nat) : Int)))], [(0, .acc 2 (List.map SRecord.cells x5) 34)], 1⟩ (by kernel_rfl) ⟨(ixn bq10), trivial⟩ ?_
   refine go_rk eqOk ttOk [(4, .app (List.map SRecord.cells [(SRecord.mk 0 (List.getD a0 x4 default))]) (List.map SRecord.cells (x5 ++ [(SRecord.mk 0 (List.getD a0 x4 default))])) ((x5 ++ [(SRecord.mk 0 (List.getD a0 x4 default))]).length))] [OX SRecord.cells [(SRecord.mk 0 (List.getD a0 x4 default))] 0 1 [(SRecord.mk 0 (List.getD a0 x4 default))], AX 2 16 SRecord.cells x5 [(SRecord.mk 0 (List.getD a0 x4 default))]] ⟨[(3, .own 0 2 0 ((x5 ++ [(SRecord.mk 0 (List.getD a0 x4 default))]).length)), (6, (sL cI64 a0)), (7, (iV ((a0.length : Nat) : Int))), (8, (iV ((x4 : Nat) : Int)))], [(0, .acc 2 (List.map SRecord.cells (x5 ++ [(SRecord.mk 0 (List.getD a0 x4 default))])) 34)], 2⟩ (by kernel_rfl) ⟨ox, (ax (fun _ => rfl) (by decide) (by (try simp only [NM, List.length_take, List.length_drop]); omega)), trivial⟩ ?_
   refine go_blk ?_
   refine go_rk eqOk ttOk [(0, .tell (iV ((x4 + 1 : Nat) : Int)))] [WR (((x4 : Nat) : Int) + 1) ((x4 + 1 : Nat) : Int)] ⟨[(3, .own 0 2 0 ((x5 ++ [(SRecord.mk 0 (List.getD a0 x4 default))]).length)), (6, (sL cI64 a0)), (7, (iV ((a0.length : Nat) : Int))), (8, (iV ((x4 + 1 : Nat) : Int)))], [(0, .acc 2 (List.map SRecord.cells (x5 ++ [(SRecord.mk 0 (List.getD a0 x4 default))])) 34)], 2⟩ (by kernel_rfl) ⟨(wr (by omega) (by omega) (by omega)), trivial⟩ ?_
   exact go_fin ⟨(x4 + 1, (x5 ++ [(SRecord.mk 0 (List.getD a0 x4 default))])), ⟨⟨by (try dsimp only); omega, by simp only [List.length_append, List.length_cons, List.length_nil]; omega⟩, hx1⟩, by first | omega | (dsimp only; omega), (Weak.cn [0] [3, 6, 7, 8] rfl rfl rfl)⟩
  ·have gh6 := h6
   try simp only [GZ] at gh6
   replace hx1 := iteF h6 hx1
   refine go_exit rfl ?_
   exact go_fin ⟨x5, hx1.symm, (Weak.cn [0] [3] rfl rfl rfl)⟩
 ·rintro o1_ hp
  try dsimp only at hp
  subst hp
  refine go_seq ?_
  refine go_rk eqOk ttOk [] [] ⟨[(2, .own 0 2 0 o1.length)], [(0, .acc 2 (List.map SRecord.cells o1) 34)], 1⟩ (by kernel_rfl) trivial ?_
  subst hx0
  exact go_ret1 rfl
theorem records_L0_len (l : List Int) (i : Nat) (t : List SRecord) : (pontoonlaw08_records_L0 l i t).length = t.length + (l.length - i) := by
  rw [pontoonlaw08_records_L0.eq_def]
  by_cases h : i < l.length
  · rw [dif_pos (by simpa using h), records_L0_len l (i + 1)]
    simp only [List.length_append, List.length_cons, List.length_nil]
    omega
  · rw [dif_neg (by simpa using h)]
    omega
termination_by l.length - i
theorem records_len16 (l : List Int) : (pontoonlaw08_records l).length ≤ l.length := by
  unfold pontoonlaw08_records
  simp only [letIn]
  rw [records_L0_len]
  simp
def slices_Equal_Record_L0 (a0 : (List SRecord)) (a1 : (List SRecord)) (x6 : Nat) : Sum Bool Unit :=
  (if h7 : (decide (((x6 : Nat) : Int) < ((a0.length : Nat) : Int))) = true then (if h8 : (!(decide ([(List.getD a0 x6 default).Key, (List.getD a0 x6 default).Val] = [(List.getD a1 x6 default).Key, (List.getD a1 x6 default).Val]))) = true then (Sum.inl false) else (slices_Equal_Record_L0 a0 a1 (x6 + 1))) else (Sum.inr ()))
termination_by a0.length - x6
decreasing_by all_goals (try simp only [GZ] at *) <;> omega
def slices_Equal_Record (a0 : (List SRecord)) (a1 : (List SRecord)) : Bool :=
  (bif (((a0.length : Nat) : Int) != ((a1.length : Nat) : Int)) then false else letIn (slices_Equal_Record_L0 a0 a1 0) fun o2s => Sum.elim (fun q => q) (fun o2 => true) o2s)
set_option maxRecDepth 10000 in
set_option maxHeartbeats 8000000 in
theorem slices_Equal_Record_t (a0 : (List SRecord)) (a1 : (List SRecord)) : FnP Try.prog 23 [(sL SRecord.cells a0), (sL SRecord.cells a1)] ((bo (slices_Equal_Record a0 a1))) := by
 refine FnP.intro (tt := tt) Try.func23 rfl (by kernel_rfl) (by simp [Try.ntmps23]) fun w0 A hA => ?_
 have hR := reckB_ok eqOk ttOk
 obtain ⟨res, hx0⟩ : ∃ r, slices_Equal_Record a0 a1 = r := ⟨_, rfl⟩
 simp only [hx0]
 unfold slices_Equal_Record at hx0
 simp only [argT, Try.ntmps23]
 refine go_seq ?_
 refine go_rk eqOk ttOk [] [] ⟨[(0, (sL SRecord.cells a0)), (1, (sL SRecord.cells a1))], [], 0⟩ (by kernel_rfl) trivial ?_
 refine go_seq ?_
 refine go_seq ?_
 refine go_rk eqOk ttOk [(1, .tell (iV ((a0.length : Nat) : Int))), (3, .tell (iV ((a1.length : Nat) : Int)))] [LN SRecord.cells a0, LN SRecord.cells a1] ⟨[(0, (sL SRecord.cells a0)), (1, (sL SRecord.cells a1)), (10, (bo (((a0.length : Nat) : Int) != ((a1.length : Nat) : Int))))], [], 0⟩ (by kernel_rfl) ⟨ln, ln, trivial⟩ ?_
 refine go_cond (by rfl) (fun h1 => ?_) (fun h1 => ?_)
 ·have gh1 := h1
  try simp only [GZ] at gh1
  replace hx0 := condT h1 hx0
  refine go_seq ?_
  refine go_rk eqOk ttOk [] [] ⟨[(4, (bo false))], [], 0⟩ (by kernel_rfl) trivial ?_
  subst hx0
  exact go_ret1 rfl
 ·have gh1 := h1
  try simp only [GZ] at gh1
  replace hx0 := condF h1 hx0
  refine go_skip ?_
  refine go_seq ?_
  refine go_seq ?_
  refine go_rk eqOk ttOk [(1, .tell (iV ((a0.length : Nat) : Int)))] [LN SRecord.cells a0] ⟨[(0, (sL SRecord.cells a0)), (1, (sL SRecord.cells a1)), (12, (iV ((a0.length : Nat) : Int))), (13, (iV 0))], [], 0⟩ (by kernel_rfl) ⟨ln, trivial⟩ ?_
  obtain ⟨o2s, hx1, hx0⟩ := letIn_ex hx0
  refine go_joinE (fun p : Unit => ⟨[], [], 0⟩) (fun p : Unit => o2s = Sum.inr p) ?_ ?_
  ·refine go_block ?_
   refine go_len (t := 0) rfl (fun hl9 => ?_)
   simp only [List.length_map, maxLen_eq] at hl9
   refine go_len (t := 1) rfl (fun hl10 => ?_)
   simp only [List.length_map, maxLen_eq] at hl10
   refine go_loop (fun p : Nat => ⟨[(0, (sL SRecord.cells a0)), (1, (sL SRecord.cells a1)), (12, (iV ((a0.length : Nat) : Int))), (13, (iV ((p : Nat) : Int)))], [], 0⟩) (fun p : Nat => (p ≤ a0.length) ∧ slices_Equal_Record_L0 a0 a1 p = o2s) (fun p : Nat => a0.length - p) 0 ⟨(by first | trivial | omega | ((try dsimp only) <;> (repeat' apply And.intro) <;> first | trivial | omega | assumption | (simp; done))), hx1⟩ (Weak.canon [] [0, 1, 12, 13] (by decide) rfl trivial rfl (by simp) (by first | rfl | (simp only [NM, CELLS] <;> rfl) | (simp [NM, CELLS]; done) | (simp [NM, CELLS, AVS]; done) | (simp [NM, CELLS, AVS, numb]; done)) rfl rfl) ?_
   rintro x6 ⟨hi11, hx1⟩
   try dsimp only at hi11 hx1 ⊢
   rw [slices_Equal_Record_L0.eq_def] at hx1
   refine go_seq ?_
   refine go_rk eqOk ttOk [] [] ⟨[(0, (sL SRecord.cells a0)), (1, (sL SRecord.cells a1)), (12, (iV ((a0.length : Nat) : Int))), (13, (iV ((x6 : Nat) : Int))), (14, (bo (decide (((x6 : Nat) : Int) < ((a0.length : Nat) : Int)))))], [], 0⟩ (by kernel_rfl) trivial ?_
   refine go_seq ?_
   refine go_cond (by rfl) (fun h7 => ?_) (fun h7 => ?_)
   ·have gh7 := h7
    try simp only [GZ] at gh7
    replace hx1 := iteT h7 hx1
    refine go_skip ?_
    refine go_seq ?_
    refine go_block ?_
    refine go_seq ?_
    refine go_rk eqOk ttOk [] [] ⟨[(0, (sL SRecord.cells a0)), (1, (sL SRecord.cells a1)), (5, (iV ((x6 : Nat) : Int))), (12, (iV ((a0.length : Nat) : Int))), (13, (iV ((x6 : Nat) : Int)))], [], 0⟩ (by kernel_rfl) trivial ?_
    refine go_seq ?_
    have bq12 : x6 < a0.length := by omega
    have bq13 : x6 < a1.length := by omega
    refine go_dk eqOk ttOk rfl [(2, .row (SRecord.cells (List.getD a0 x6 default))), (6, .row (SRecord.cells (List.getD a1 x6 default)))] [IX SRecord.cells a0 ((x6 : Nat) : Int), IX SRecord.cells a1 ((x6 : Nat) : Int)] ⟨[(0, (sL SRecord.cells a0)), (1, (sL SRecord.cells a1)), (12, (iV ((a0.length : Nat) : Int))), (13, (iV ((x6 : Nat) : Int))), (24, (bo (!(decide ([(List.getD a0 x6 default).Key, (List.getD a0 x6 default).Val] = [(List.getD a1 x6 default).Key, (List.getD a1 x6 default).Val])))))], [], 0⟩ (by kernel_rfl) ⟨(ixn bq12), (ixn bq13), trivial⟩ ?_
    refine go_cond (by rfl) (fun h8 => ?_) (fun h8 => ?_)
    ·have gh8 := h8
     try simp only [GZ] at gh8
     replace hx1 := iteT h8 hx1
     refine go_seq ?_
     refine go_rk eqOk ttOk [] [] ⟨[(4, (bo false))], [], 0⟩ (by kernel_rfl) trivial ?_
     subst hx1
     simp only [Sum.elim_inl] at hx0
     subst hx0
     exact go_ret1 rfl
    ·have gh8 := h8
     try simp only [GZ] at gh8
     replace hx1 := iteF h8 hx1
     refine go_skip ?_
     refine go_blk ?_
     refine go_rk eqOk ttOk [(0, .tell (iV ((x6 + 1 : Nat) : Int)))] [WR (((x6 : Nat) : Int) + 1) ((x6 + 1 : Nat) : Int)] ⟨[(0, (sL SRecord.cells a0)), (1, (sL SRecord.cells a1)), (12, (iV ((a0.length : Nat) : Int))), (13, (iV ((x6 + 1 : Nat) : Int)))], [], 0⟩ (by kernel_rfl) ⟨(wr (by omega) (by omega) (by omega)), trivial⟩ ?_
     exact go_fin ⟨x6 + 1, ⟨(by first | trivial | omega | ((try dsimp only) <;> (repeat' apply And.intro) <;> first | trivial | omega | assumption | (simp; done))), hx1⟩, by first | omega | (dsimp only; omega), (Weak.canon [] [0, 1, 12, 13] (by decide) rfl trivial rfl (by simp) (by first | rfl | (simp only [NM, CELLS] <;> rfl) | (simp [NM, CELLS]; done) | (simp [NM, CELLS, AVS]; done) | (simp [NM, CELLS, AVS, numb]; done)) rfl rfl)⟩
   ·have gh7 := h7
    try simp only [GZ] at gh7
    replace hx1 := iteF h7 hx1
    refine go_exit rfl ?_
    exact go_fin ⟨(), hx1.symm, (Weak.canon [] [] (by decide) rfl trivial rfl (by simp) (by first | rfl | (simp only [NM, CELLS] <;> rfl) | (simp [NM, CELLS]; done) | (simp [NM, CELLS, AVS]; done) | (simp [NM, CELLS, AVS, numb]; done)) rfl rfl)⟩
  ·rintro o2 hp
   try dsimp only at hp
   subst hp
   simp only [Sum.elim_inr] at hx0
   refine go_seq ?_
   refine go_rk eqOk ttOk [] [] ⟨[(4, (bo true))], [], 0⟩ (by kernel_rfl) trivial ?_
   subst hx0
   exact go_ret1 rfl
def pontoonlaw08_merge : SGraph :=
  (SGraph.mk 2 [(SOp.mk 1 0 0 0 []), (SOp.mk 1 1 0 0 []), (SOp.mk 8 0 0 0 [(SEdge.mk 0 0), (SEdge.mk 1 0)]), (SOp.mk 9 0 0 0 [(SEdge.mk 2 0)])])
set_option maxRecDepth 10000 in
set_option maxHeartbeats 8000000 in
theorem pontoonlaw08_merge_t : FnP Try.prog 20 [] (.agg (SGraph.avs pontoonlaw08_merge)) := by
 refine FnP.intro (tt := tt) Try.func20 rfl (by kernel_rfl) (by simp [Try.ntmps20]) fun w0 A hA => ?_
 have hR := reckB_ok eqOk ttOk
 obtain ⟨res, hx0⟩ : ∃ r, pontoonlaw08_merge = r := ⟨_, rfl⟩
 simp only [hx0]
 unfold pontoonlaw08_merge at hx0
 simp only [argT, Try.ntmps20]
 refine go_seq ?_
 refine go_rk eqOk ttOk [] [] ⟨[(0, .ptr 0 0)], [(0, .box [(iV 0), nS] 41)], 1⟩ (by kernel_rfl) trivial ?_
 refine go_seq ?_
 refine go_cut ?_
 refine gl_rk eqOk ttOk 9 [] [] ⟨[(0, .ptr 0 0), (1, .agg [(iV 1), (iV 0), (iV 0), (iV 0), nS]), (2, .agg [(iV 1), (iV 1), (iV 0), (iV 0), nS]), (6, .agg [(iV 8), (iV 0), (iV 0), (iV 0), .own 1 2 0 2]), (9, .agg [(iV 9), (iV 0), (iV 0), (iV 0), .own 2 2 0 1])], [(0, .box [(iV 0), nS] 41), (1, .acc 2 (List.map SEdge.cells [(SEdge.mk 0 0), (SEdge.mk 1 0)]) 78), (2, .acc 2 (List.map SEdge.cells [(SEdge.mk 2 0)]) 78)], 3⟩ (by kernel_rfl) trivial ?_
 refine gl_weak (s' := ⟨[(0, .ptr 0 0), (1, .agg [(iV 1), (iV 0), (iV 0), (iV 0), (sL SEdge.cells [])]), (2, .agg [(iV 1), (iV 1), (iV 0), (iV 0), (sL SEdge.cells [])]), (6, .agg [(iV 8), (iV 0), (iV 0), (iV 0), (sL SEdge.cells [(SEdge.mk 0 0), (SEdge.mk 1 0)])]), (9, .agg [(iV 9), (iV 0), (iV 0), (iV 0), (sL SEdge.cells [(SEdge.mk 2 0)])])], [(0, .box [(iV 0), (sL SOp.cells [])] 41)], 1⟩) (Weak.cs [0] [0, 1, 2, 6, 9] rfl rfl rfl) ?_
 refine gl_rk eqOk ttOk 3 [] [] ⟨[(0, .ptr 0 0)], [(0, .box [(iV 2), .own 1 5 0 4] 41), (1, .acc 5 (List.map SOp.cells [(SOp.mk 1 0 0 0 []), (SOp.mk 1 1 0 0 []), (SOp.mk 8 0 0 0 [(SEdge.mk 0 0), (SEdge.mk 1 0)]), (SOp.mk 9 0 0 0 [(SEdge.mk 2 0)])]) 55)], 2⟩ (by kernel_rfl) trivial ?_
 refine gl_end rfl ?_
 subst hx0
 exact go_ret1 rfl
theorem pontoonlaw08_merge_sz : SGraph.Sz (pontoonlaw08_merge) := by
 obtain ⟨res, hx0⟩ : ∃ r, pontoonlaw08_merge = r := ⟨_, rfl⟩
 simp only [hx0]
 unfold pontoonlaw08_merge at hx0
 subst hx0
 exact (by (try simp only [SZD]); (repeat' apply And.intro) <;> first | assumption | omega | (simp only [List.length_drop, List.length_take]; omega) | simp_all)
end Go.Ab.Try
