/-
  Functions, and what they compute: printed by wg.py, a program of this work.
-/
import Derived.Test.YtpfgofnmkaljaaaMg36
set_option linter.unusedVariables false
set_option linter.unusedSimpArgs false
namespace Go.Ab.Try
open Go Go.Proofs Go.Ab
def slices_IndexFunc_Edge_L0 (a0 : (List SEdge)) (a1 : SEdge → Bool) (x5 : Nat) : Sum Int Unit :=
  (if h6 : (decide (((x5 : Nat) : Int) < ((a0.length : Nat) : Int))) = true then (if h7 : (a1 (List.getD a0 x5 default)) = true then (Sum.inl ((x5 : Nat) : Int)) else (slices_IndexFunc_Edge_L0 a0 a1 (x5 + 1))) else (Sum.inr ()))
termination_by a0.length - x5
decreasing_by all_goals (try simp only [GZ] at *) <;> omega
def slices_IndexFunc_Edge (a0 : (List SEdge)) (a1 : SEdge → Bool) : Int :=
  letIn (slices_IndexFunc_Edge_L0 a0 a1 0) fun o1s => Sum.elim (fun q => q) (fun o1 => (-1)) o1s
set_option maxRecDepth 10000 in
set_option maxHeartbeats 8000000 in
theorem slices_IndexFunc_Edge_t (a0 : (List SEdge)) (f1 : FuncId) (c1_0 : List CV) (c1_1 : List CV) (a1 : SEdge → Bool) (f1_t : ∀ (y0 : SEdge), FnP Try.prog f1 [.agg (SEdge.avs y0), .cel c1_0, .cel c1_1] ((bo (a1 y0)))) : FnP Try.prog 131 [(sL SEdge.cells a0), .clo f1 [.cel c1_0, .cel c1_1]] ((iV (slices_IndexFunc_Edge a0 a1))) := by
 refine FnP.intro (tt := tt) Try.func131 rfl (by kernel_rfl) (by simp [Try.ntmps131]) fun w0 A hA => ?_
 have hR := reckB_ok eqOk ttOk
 obtain ⟨res, hx0⟩ : ∃ r, slices_IndexFunc_Edge a0 a1 = r := ⟨_, rfl⟩
 simp only [hx0]
 unfold slices_IndexFunc_Edge at hx0
 simp only [argT, Try.ntmps131]
 refine go_seq ?_
 refine go_rk eqOk ttOk [] [] ⟨[(0, (sL SEdge.cells a0)), (1, .clo f1 [.cel c1_0, .cel c1_1])], [], 0⟩ (by kernel_rfl) trivial ?_
 refine go_seq ?_
 refine go_seq ?_
 refine go_rk eqOk ttOk [(1, .tell (iV ((a0.length : Nat) : Int)))] [LN SEdge.cells a0] ⟨[(0, (sL SEdge.cells a0)), (1, .clo f1 [.cel c1_0, .cel c1_1]), (7, (iV ((a0.length : Nat) : Int))), (8, (iV 0))], [], 0⟩ (by kernel_rfl) ⟨ln, trivial⟩ ?_
 obtain ⟨o1s, hx1, hx0⟩ := letIn_ex hx0
 refine go_joinE (fun p : Unit => ⟨[], [], 0⟩) (fun p : Unit => o1s = Sum.inr p) ?_ ?_
 ·refine go_block ?_
  refine go_len (t := 0) rfl (fun hl8 => ?_)
  simp only [List.length_map, maxLen_eq] at hl8
  refine go_loop (fun p : Nat => ⟨[(0, (sL SEdge.cells a0)), (1, .clo f1 [.cel c1_0, .cel c1_1]), (7, (iV ((a0.length : Nat) : Int))), (8, (iV ((p : Nat) : Int)))], [], 0⟩) (fun p : Nat => (p ≤ a0.length) ∧ slices_IndexFunc_Edge_L0 a0 a1 p = o1s) (fun p : Nat => a0.length - p) 0 ⟨(by first | trivial | omega | ((try dsimp only) <;> (repeat' apply And.intro) <;> first | trivial | omega | assumption | (simp; done))), hx1⟩ (Weak.canon [] [0, 1, 7, 8] (by decide) rfl trivial rfl (by simp) (by first | rfl | (simp only [NM, CELLS] <;> rfl) | (simp [NM, CELLS]; done) | (simp [NM, CELLS, AVS]; done) | (simp [NM, CELLS, AVS, numb]; done)) rfl rfl) ?_
  rintro x5 ⟨hi9, hx1⟩
  try dsimp only at hi9 hx1 ⊢
  rw [slices_IndexFunc_Edge_L0.eq_def] at hx1
  refine go_seq ?_
  refine go_rk eqOk ttOk [] [] ⟨[(0, (sL SEdge.cells a0)), (1, .clo f1 [.cel c1_0, .cel c1_1]), (7, (iV ((a0.length : Nat) : Int))), (8, (iV ((x5 : Nat) : Int))), (9, (bo (decide (((x5 : Nat) : Int) < ((a0.length : Nat) : Int)))))], [], 0⟩ (by kernel_rfl) trivial ?_
  refine go_seq ?_
  refine go_cond (by rfl) (fun h6 => ?_) (fun h6 => ?_)
  ·have gh6 := h6
   try simp only [GZ] at gh6
   replace hx1 := iteT h6 hx1
   refine go_skip ?_
   refine go_seq ?_
   refine go_block ?_
   refine go_seq ?_
   refine go_rk eqOk ttOk [] [] ⟨[(0, (sL SEdge.cells a0)), (1, .clo f1 [.cel c1_0, .cel c1_1]), (5, (iV ((x5 : Nat) : Int))), (7, (iV ((a0.length : Nat) : Int))), (8, (iV ((x5 : Nat) : Int)))], [], 0⟩ (by kernel_rfl) trivial ?_
   refine go_seq ?_
   have bq10 : x5 < a0.length := by omega
   refine go_rk eqOk ttOk [(3, .row (SEdge.cells (List.getD a0 x5 default))), (5, .fn ((f1_t (List.getD a0 x5 default))).toO)] [IX SEdge.cells a0 ((x5 : Nat) : Int), AQ ((f1_t (List.getD a0 x5 default))).toO] ⟨[(0, (sL SEdge.cells a0)), (1, .clo f1 [.cel c1_0, .cel c1_1]), (5, (iV ((x5 : Nat) : Int))), (7, (iV ((a0.length : Nat) : Int))), (8, (iV ((x5 : Nat) : Int))), (16, (bo (a1 (List.getD a0 x5 default))))], [], 0⟩ (by kernel_rfl) ⟨(ixn bq10), ⟨rfl, rfl⟩, trivial⟩ ?_
   refine go_cond (by rfl) (fun h7 => ?_) (fun h7 => ?_)
   ·have gh7 := h7
    try simp only [GZ] at gh7
    replace hx1 := iteT h7 hx1
    refine go_seq ?_
    refine go_rk eqOk ttOk [] [] ⟨[(4, (iV ((x5 : Nat) : Int)))], [], 0⟩ (by kernel_rfl) trivial ?_
    subst hx1
    simp only [Sum.elim_inl] at hx0
    subst hx0
    exact go_ret1 rfl
   ·have gh7 := h7
    try simp only [GZ] at gh7
    replace hx1 := iteF h7 hx1
    refine go_skip ?_
    refine go_blk ?_
    refine go_rk eqOk ttOk [(0, .tell (iV ((x5 + 1 : Nat) : Int)))] [WR (((x5 : Nat) : Int) + 1) ((x5 + 1 : Nat) : Int)] ⟨[(0, (sL SEdge.cells a0)), (1, .clo f1 [.cel c1_0, .cel c1_1]), (7, (iV ((a0.length : Nat) : Int))), (8, (iV ((x5 + 1 : Nat) : Int)))], [], 0⟩ (by kernel_rfl) ⟨(wr (by omega) (by omega) (by omega)), trivial⟩ ?_
    exact go_fin ⟨x5 + 1, ⟨(by first | trivial | omega | ((try dsimp only) <;> (repeat' apply And.intro) <;> first | trivial | omega | assumption | (simp; done))), hx1⟩, by first | omega | (dsimp only; omega), (Weak.canon [] [0, 1, 7, 8] (by decide) rfl trivial rfl (by simp) (by first | rfl | (simp only [NM, CELLS] <;> rfl) | (simp [NM, CELLS]; done) | (simp [NM, CELLS, AVS]; done) | (simp [NM, CELLS, AVS, numb]; done)) rfl rfl)⟩
  ·have gh6 := h6
   try simp only [GZ] at gh6
   replace hx1 := iteF h6 hx1
   refine go_exit rfl ?_
   exact go_fin ⟨(), hx1.symm, (Weak.canon [] [] (by decide) rfl trivial rfl (by simp) (by first | rfl | (simp only [NM, CELLS] <;> rfl) | (simp [NM, CELLS]; done) | (simp [NM, CELLS, AVS]; done) | (simp [NM, CELLS, AVS, numb]; done)) rfl rfl)⟩
 ·rintro o1 hp
  try dsimp only at hp
  subst hp
  simp only [Sum.elim_inr] at hx0
  refine go_seq ?_
  refine go_rk eqOk ttOk [] [] ⟨[(4, (iV (-1)))], [], 0⟩ (by kernel_rfl) trivial ?_
  subst hx0
  exact go_ret1 rfl
def slices_ContainsFunc_Edge (a0 : (List SEdge)) (a1 : SEdge → Bool) : Bool :=
  (decide ((slices_IndexFunc_Edge a0 a1) ≥ 0))
set_option maxRecDepth 10000 in
set_option maxHeartbeats 8000000 in
theorem slices_ContainsFunc_Edge_t (a0 : (List SEdge)) (f1 : FuncId) (c1_0 : List CV) (c1_1 : List CV) (a1 : SEdge → Bool) (f1_t : ∀ (y0 : SEdge), FnP Try.prog f1 [.agg (SEdge.avs y0), .cel c1_0, .cel c1_1] ((bo (a1 y0)))) : FnP Try.prog 126 [(sL SEdge.cells a0), .clo f1 [.cel c1_0, .cel c1_1]] ((bo (slices_ContainsFunc_Edge a0 a1))) := by
 refine FnP.intro (tt := tt) Try.func126 rfl (by kernel_rfl) (by simp [Try.ntmps126]) fun w0 A hA => ?_
 have hR := reckB_ok eqOk ttOk
 obtain ⟨res, hx0⟩ : ∃ r, slices_ContainsFunc_Edge a0 a1 = r := ⟨_, rfl⟩
 simp only [hx0]
 unfold slices_ContainsFunc_Edge at hx0
 simp only [argT, Try.ntmps126]
 refine go_seq ?_
 refine go_rk eqOk ttOk [] [] ⟨[(0, (sL SEdge.cells a0)), (1, .clo f1 [.cel c1_0, .cel c1_1])], [], 0⟩ (by kernel_rfl) trivial ?_
 refine go_seq ?_
 refine go_rk eqOk ttOk [(2, .lo ((slices_IndexFunc_Edge_t a0 f1 c1_0 c1_1 a1 f1_t)))] [AP ((slices_IndexFunc_Edge_t a0 f1 c1_0 c1_1 a1 f1_t))] ⟨[(4, (bo (decide ((slices_IndexFunc_Edge a0 a1) ≥ 0))))], [], 0⟩ (by kernel_rfl) ⟨⟨rfl, rfl⟩, trivial⟩ ?_
 subst hx0
 exact go_ret1 rfl
def slices_IndexFunc_int_L0 (a0 : (List Int)) (a1 : Int → Bool) (x5 : Nat) : Sum Int Unit :=
  (if h6 : (decide (((x5 : Nat) : Int) < ((a0.length : Nat) : Int))) = true then (if h7 : (a1 (List.getD a0 x5 default)) = true then (Sum.inl ((x5 : Nat) : Int)) else (slices_IndexFunc_int_L0 a0 a1 (x5 + 1))) else (Sum.inr ()))
termination_by a0.length - x5
decreasing_by all_goals (try simp only [GZ] at *) <;> omega
def slices_IndexFunc_int (a0 : (List Int)) (a1 : Int → Bool) : Int :=
  letIn (slices_IndexFunc_int_L0 a0 a1 0) fun o1s => Sum.elim (fun q => q) (fun o1 => (-1)) o1s
set_option maxRecDepth 10000 in
set_option maxHeartbeats 8000000 in
theorem slices_IndexFunc_int_t (a0 : (List Int)) (f1 : FuncId) (a1 : Int → Bool) (f1_t : ∀ (y0 : Int), FnP Try.prog f1 [(iV y0)] ((bo (a1 y0)))) : FnP Try.prog 117 [(sL cI64 a0), .clo f1 []] ((iV (slices_IndexFunc_int a0 a1))) := by
 refine FnP.intro (tt := tt) Try.func117 rfl (by kernel_rfl) (by simp [Try.ntmps117]) fun w0 A hA => ?_
 have hR := reckB_ok eqOk ttOk
 obtain ⟨res, hx0⟩ : ∃ r, slices_IndexFunc_int a0 a1 = r := ⟨_, rfl⟩
 simp only [hx0]
 unfold slices_IndexFunc_int at hx0
 simp only [argT, Try.ntmps117]
 refine go_seq ?_
 refine go_rk eqOk ttOk [] [] ⟨[(0, (sL cI64 a0)), (1, .clo f1 [])], [], 0⟩ (by kernel_rfl) trivial ?_
 refine go_seq ?_
 refine go_seq ?_
 refine go_rk eqOk ttOk [(1, .tell (iV ((a0.length : Nat) : Int)))] [LN cI64 a0] ⟨[(0, (sL cI64 a0)), (1, .clo f1 []), (7, (iV ((a0.length : Nat) : Int))), (8, (iV 0))], [], 0⟩ (by kernel_rfl) ⟨ln, trivial⟩ ?_
 obtain ⟨o1s, hx1, hx0⟩ := letIn_ex hx0
 refine go_joinE (fun p : Unit => ⟨[], [], 0⟩) (fun p : Unit => o1s = Sum.inr p) ?_ ?_
 ·refine go_block ?_
  refine go_len (t := 0) rfl (fun hl8 => ?_)
  simp only [List.length_map, maxLen_eq] at hl8
  refine go_loop (fun p : Nat => ⟨[(0, (sL cI64 a0)), (1, .clo f1 []), (7, (iV ((a0.length : Nat) : Int))), (8, (iV ((p : Nat) : Int)))], [], 0⟩) (fun p : Nat => (p ≤ a0.length) ∧ slices_IndexFunc_int_L0 a0 a1 p = o1s) (fun p : Nat => a0.length - p) 0 ⟨(by first | trivial | omega | ((try dsimp only) <;> (repeat' apply And.intro) <;> first | trivial | omega | assumption | (simp; done))), hx1⟩ (Weak.canon [] [0, 1, 7, 8] (by decide) rfl trivial rfl (by simp) (by first | rfl | (simp only [NM, CELLS] <;> rfl) | (simp [NM, CELLS]; done) | (simp [NM, CELLS, AVS]; done) | (simp [NM, CELLS, AVS, numb]; done)) rfl rfl) ?_
  rintro x5 ⟨hi9, hx1⟩
  try dsimp only at hi9 hx1 ⊢
  rw [slices_IndexFunc_int_L0.eq_def] at hx1
  refine go_seq ?_
  refine go_rk eqOk ttOk [] [] ⟨[(0, (sL cI64 a0)), (1, .clo f1 []), (7, (iV ((a0.length : Nat) : Int))), (8, (iV ((x5 : Nat) : Int))), (9, (bo (decide (((x5 : Nat) : Int) < ((a0.length : Nat) : Int)))))], [], 0⟩ (by kernel_rfl) trivial ?_
  refine go_seq ?_
  refine go_cond (by rfl) (fun h6 => ?_) (fun h6 => ?_)
  ·have gh6 := h6
   try simp only [GZ] at gh6
   replace hx1 := iteT h6 hx1
   refine go_skip ?_
   refine go_seq ?_
   refine go_block ?_
   refine go_seq ?_
   refine go_rk eqOk ttOk [] [] ⟨[(0, (sL cI64 a0)), (1, .clo f1 []), (5, (iV ((x5 : Nat) : Int))), (7, (iV ((a0.length : Nat) : Int))), (8, (iV ((x5 : Nat) : Int)))], [], 0⟩ (by kernel_rfl) trivial ?_
   refine go_seq ?_
   have bq10 : x5 < a0.length := by omega
   refine go_rk eqOk ttOk [(3, .row (cI64 (List.getD a0 x5 default))), (5, .fn ((f1_t (List.getD a0 x5 default))).toO)] [IX cI64 a0 ((x5 : Nat) : Int), AQ ((f1_t (List.getD a0 x5 default))).toO] ⟨[(0, (sL cI64 a0)), (1, .clo f1 []), (5, (iV ((x5 : Nat) : Int))), (7, (iV ((a0.length : Nat) : Int))), (8, (iV ((x5 : Nat) : Int))), (16, (bo (a1 (List.getD a0 x5 default))))], [], 0⟩ (by kernel_rfl) ⟨(ixn bq10), ⟨rfl, rfl⟩, trivial⟩ ?_
   refine go_cond (by rfl) (fun h7 => ?_) (fun h7 => ?_)
   ·have gh7 := h7
    try simp only [GZ] at gh7
    replace hx1 := iteT h7 hx1
    refine go_seq ?_
    refine go_rk eqOk ttOk [] [] ⟨[(4, (iV ((x5 : Nat) : Int)))], [], 0⟩ (by kernel_rfl) trivial ?_
    subst hx1
    simp only [Sum.elim_inl] at hx0
    subst hx0
    exact go_ret1 rfl
   ·have gh7 := h7
    try simp only [GZ] at gh7
    replace hx1 := iteF h7 hx1
    refine go_skip ?_
    refine go_blk ?_
    refine go_rk eqOk ttOk [(0, .tell (iV ((x5 + 1 : Nat) : Int)))] [WR (((x5 : Nat) : Int) + 1) ((x5 + 1 : Nat) : Int)] ⟨[(0, (sL cI64 a0)), (1, .clo f1 []), (7, (iV ((a0.length : Nat) : Int))), (8, (iV ((x5 + 1 : Nat) : Int)))], [], 0⟩ (by kernel_rfl) ⟨(wr (by omega) (by omega) (by omega)), trivial⟩ ?_
    exact go_fin ⟨x5 + 1, ⟨(by first | trivial | omega | ((try dsimp only) <;> (repeat' apply And.intro) <;> first | trivial | omega | assumption | (simp; done))), hx1⟩, by first | omega | (dsimp only; omega), (Weak.canon [] [0, 1, 7, 8] (by decide) rfl trivial rfl (by simp) (by first | rfl | (simp only [NM, CELLS] <;> rfl) | (simp [NM, CELLS]; done) | (simp [NM, CELLS, AVS]; done) | (simp [NM, CELLS, AVS, numb]; done)) rfl rfl)⟩
  ·have gh6 := h6
   try simp only [GZ] at gh6
   replace hx1 := iteF h6 hx1
   refine go_exit rfl ?_
   exact go_fin ⟨(), hx1.symm, (Weak.canon [] [] (by decide) rfl trivial rfl (by simp) (by first | rfl | (simp only [NM, CELLS] <;> rfl) | (simp [NM, CELLS]; done) | (simp [NM, CELLS, AVS]; done) | (simp [NM, CELLS, AVS, numb]; done)) rfl rfl)⟩
 ·rintro o1 hp
  try dsimp only at hp
  subst hp
  simp only [Sum.elim_inr] at hx0
  refine go_seq ?_
  refine go_rk eqOk ttOk [] [] ⟨[(4, (iV (-1)))], [], 0⟩ (by kernel_rfl) trivial ?_
  subst hx0
  exact go_ret1 rfl
def slices_ContainsFunc_int (a0 : (List Int)) (a1 : Int → Bool) : Bool :=
  (decide ((slices_IndexFunc_int a0 a1) ≥ 0))
set_option maxRecDepth 10000 in
set_option maxHeartbeats 8000000 in
theorem slices_ContainsFunc_int_t (a0 : (List Int)) (f1 : FuncId) (a1 : Int → Bool) (f1_t : ∀ (y0 : Int), FnP Try.prog f1 [(iV y0)] ((bo (a1 y0)))) : FnP Try.prog 101 [(sL cI64 a0), .clo f1 []] ((bo (slices_ContainsFunc_int a0 a1))) := by
 refine FnP.intro (tt := tt) Try.func101 rfl (by kernel_rfl) (by simp [Try.ntmps101]) fun w0 A hA => ?_
 have hR := reckB_ok eqOk ttOk
 obtain ⟨res, hx0⟩ : ∃ r, slices_ContainsFunc_int a0 a1 = r := ⟨_, rfl⟩
 simp only [hx0]
 unfold slices_ContainsFunc_int at hx0
 simp only [argT, Try.ntmps101]
 refine go_seq ?_
 refine go_rk eqOk ttOk [] [] ⟨[(0, (sL cI64 a0)), (1, .clo f1 [])], [], 0⟩ (by kernel_rfl) trivial ?_
 refine go_seq ?_
 refine go_rk eqOk ttOk [(2, .fn ((slices_IndexFunc_int_t a0 f1 a1 f1_t)).toO)] [AQ ((slices_IndexFunc_int_t a0 f1 a1 f1_t)).toO] ⟨[(4, (bo (decide ((slices_IndexFunc_int a0 a1) ≥ 0))))], [], 0⟩ (by kernel_rfl) ⟨⟨rfl, rfl⟩, trivial⟩ ?_
 subst hx0
 exact go_ret1 rfl
def slices_IndexFunc_Op_L0 (a0 : (List SOp)) (a1 : SOp → Bool) (x5 : Nat) : Sum Int Unit :=
  (if h6 : (decide (((x5 : Nat) : Int) < ((a0.length : Nat) : Int))) = true then (if h7 : (a1 (List.getD a0 x5 default)) = true then (Sum.inl ((x5 : Nat) : Int)) else (slices_IndexFunc_Op_L0 a0 a1 (x5 + 1))) else (Sum.inr ()))
termination_by a0.length - x5
decreasing_by all_goals (try simp only [GZ] at *) <;> omega
def slices_IndexFunc_Op (a0 : (List SOp)) (a1 : SOp → Bool) : Int :=
  letIn (slices_IndexFunc_Op_L0 a0 a1 0) fun o1s => Sum.elim (fun q => q) (fun o1 => (-1)) o1s
set_option maxRecDepth 10000 in
set_option maxHeartbeats 8000000 in
theorem slices_IndexFunc_Op_t (a0 : (List SOp)) (f1 : FuncId) (a1 : SOp → Bool) (f1_t : ∀ (y0 : SOp), FnP Try.prog f1 [.agg (SOp.avs y0)] ((bo (a1 y0)))) : FnP Try.prog 77 [(sL SOp.cells a0), .clo f1 []] ((iV (slices_IndexFunc_Op a0 a1))) := by
 refine FnP.intro (tt := tt) Try.func77 rfl (by kernel_rfl) (by simp [Try.ntmps77]) fun w0 A hA => ?_
 have hR := reckB_ok eqOk ttOk
 obtain ⟨res, hx0⟩ : ∃ r, slices_IndexFunc_Op a0 a1 = r := ⟨_, rfl⟩
 simp only [hx0]
 unfold slices_IndexFunc_Op at hx0
 simp only [argT, Try.ntmps77]
 refine go_seq ?_
 refine go_rk eqOk ttOk [] [] ⟨[(0, (sL SOp.cells a0)), (1, .clo f1 [])], [], 0⟩ (by kernel_rfl) trivial ?_
 refine go_seq ?_
 refine go_seq ?_
 refine go_rk eqOk ttOk [(1, .tell (iV ((a0.length : Nat) : Int)))] [LN SOp.cells a0] ⟨[(0, (sL SOp.cells a0)), (1, .clo f1 []), (7, (iV ((a0.length : Nat) : Int))), (8, (iV 0))], [], 0⟩ (by kernel_rfl) ⟨ln, trivial⟩ ?_
 obtain ⟨o1s, hx1, hx0⟩ := letIn_ex hx0
 refine go_joinE (fun p : Unit => ⟨[], [], 0⟩) (fun p : Unit => o1s = Sum.inr p) ?_ ?_
 ·refine go_block ?_
  refine go_len (t := 0) rfl (fun hl8 => ?_)
  simp only [List.length_map, maxLen_eq] at hl8
  refine go_loop (fun p : Nat => ⟨[(0, (sL SOp.cells a0)), (1, .clo f1 []), (7, (iV ((a0.length : Nat) : Int))), (8, (iV ((p : Nat) : Int)))], [], 0⟩) (fun p : Nat => (p ≤ a0.length) ∧ slices_IndexFunc_Op_L0 a0 a1 p = o1s) (fun p : Nat => a0.length - p) 0 ⟨(by first | trivial | omega | ((try dsimp only) <;> (repeat' apply And.intro) <;> first | trivial | omega | assumption | (simp; done))), hx1⟩ (Weak.canon [] [0, 1, 7, 8] (by decide) rfl trivial rfl (by simp) (by first | rfl | (simp only [NM, CELLS] <;> rfl) | (simp [NM, CELLS]; done) | (simp [NM, CELLS, AVS]; done) | (simp [NM, CELLS, AVS, numb]; done)) rfl rfl) ?_
  rintro x5 ⟨hi9, hx1⟩
  try dsimp only at hi9 hx1 ⊢
  rw [slices_IndexFunc_Op_L0.eq_def] at hx1
  refine go_seq ?_
  refine go_rk eqOk ttOk [] [] ⟨[(0, (sL SOp.cells a0)), (1, .clo f1 []), (7, (iV ((a0.length : Nat) : Int))), (8, (iV ((x5 : Nat) : Int))), (9, (bo (decide (((x5 : Nat) : Int) < ((a0.length : Nat) : Int)))))], [], 0⟩ (by kernel_rfl) trivial ?_
  refine go_seq ?_
  refine go_cond (by rfl) (fun h6 => ?_) (fun h6 => ?_)
  ·have gh6 := h6
   try simp only [GZ] at gh6
   replace hx1 := iteT h6 hx1
   refine go_skip ?_
   refine go_seq ?_
   refine go_block ?_
   refine go_seq ?_
   refine go_rk eqOk ttOk [] [] ⟨[(0, (sL SOp.cells a0)), (1, .clo f1 []), (5, (iV ((x5 : Nat) : Int))), (7, (iV ((a0.length : Nat) : Int))), (8, (iV ((x5 : Nat) : Int)))], [], 0⟩ (by kernel_rfl) trivial ?_
   refine go_seq ?_
   have bq10 : x5 < a0.length := by omega
   refine go_rk eqOk ttOk [(3, .row (SOp.cells (List.getD a0 x5 default))), (5, .fn ((f1_t (List.getD a0 x5 default))).toO)] [IX SOp.cells a0 ((x5 : Nat) : Int), AQ ((f1_t (List.getD a0 x5 default))).toO] ⟨[(0, (sL SOp.cells a0)), (1, .clo f1 []), (5, (iV ((x5 : Nat) : Int))), (7, (iV ((a0.length : Nat) : Int))), (8, (iV ((x5 : Nat) : Int))), (16, (bo (a1 (List.getD a0 x5 default))))], [], 0⟩ (by kernel_rfl) ⟨(ixn bq10), ⟨rfl, rfl⟩, trivial⟩ ?_
   refine go_cond (by rfl) (fun h7 => ?_) (fun h7 => ?_)
   ·have gh7 := h7
    try simp only [GZ] at gh7
    replace hx1 := iteT h7 hx1
    refine go_seq ?_
    refine go_rk eqOk ttOk [] [] ⟨[(4, (iV ((x5 : Nat) : Int)))], [], 0⟩ (by kernel_rfl) trivial ?_
    subst hx1
    simp only [Sum.elim_inl] at hx0
    subst hx0
    exact go_ret1 rfl
   ·have gh7 := h7
    try simp only [GZ] at gh7
    replace hx1 := iteF h7 hx1
    refine go_skip ?_
    refine go_blk ?_
    refine go_rk eqOk ttOk [(0, .tell (iV ((x5 + 1 : Nat) : Int)))] [WR (((x5 : Nat) : Int) + 1) ((x5 + 1 : Nat) : Int)] ⟨[(0, (sL SOp.cells a0)), (1, .clo f1 []), (7, (iV ((a0.length : Nat) : Int))), (8, (iV ((x5 + 1 : Nat) : Int)))], [], 0⟩ (by kernel_rfl) ⟨(wr (by omega) (by omega) (by omega)), trivial⟩ ?_
    exact go_fin ⟨x5 + 1, ⟨(by first | trivial | omega | ((try dsimp only) <;> (repeat' apply And.intro) <;> first | trivial | omega | assumption | (simp; done))), hx1⟩, by first | omega | (dsimp only; omega), (Weak.canon [] [0, 1, 7, 8] (by decide) rfl trivial rfl (by simp) (by first | rfl | (simp only [NM, CELLS] <;> rfl) | (simp [NM, CELLS]; done) | (simp [NM, CELLS, AVS]; done) | (simp [NM, CELLS, AVS, numb]; done)) rfl rfl)⟩
  ·have gh6 := h6
   try simp only [GZ] at gh6
   replace hx1 := iteF h6 hx1
   refine go_exit rfl ?_
   exact go_fin ⟨(), hx1.symm, (Weak.canon [] [] (by decide) rfl trivial rfl (by simp) (by first | rfl | (simp only [NM, CELLS] <;> rfl) | (simp [NM, CELLS]; done) | (simp [NM, CELLS, AVS]; done) | (simp [NM, CELLS, AVS, numb]; done)) rfl rfl)⟩
 ·rintro o1 hp
  try dsimp only at hp
  subst hp
  simp only [Sum.elim_inr] at hx0
  refine go_seq ?_
  refine go_rk eqOk ttOk [] [] ⟨[(4, (iV (-1)))], [], 0⟩ (by kernel_rfl) trivial ?_
  subst hx0
  exact go_ret1 rfl
def graph_Ports (a0 : SOp) : Int :=
  (bif (a0.Kind == 7) then (bif ((decide (a0.Arg ≥ 2)) && (decide (a0.Arg ≤ 4))) then a0.Arg else 0) else letIn ((bif (a0.Kind == 1) then (a0.Kind == 1) else (bif (a0.Kind == 2) then (a0.Kind == 2) else (bif (a0.Kind == 3) then (a0.Kind == 3) else (bif (a0.Kind == 4) then (a0.Kind == 4) else (bif (a0.Kind == 5) then (a0.Kind == 5) else (bif (a0.Kind == 6) then (a0.Kind == 6) else (a0.Kind == 8)))))))) fun o4 => (bif o4 then 1 else 0))
set_option maxRecDepth 10000 in
set_option maxHeartbeats 8000000 in
theorem graph_Ports_t (a0 : SOp) : FnP Try.prog 100 [.agg (SOp.avs a0)] ((iV (graph_Ports a0))) := by
 refine FnP.intro (tt := tt) Try.func100 rfl (by kernel_rfl) (by simp [Try.ntmps100]) fun w0 A hA => ?_
 have hR := reckB_ok eqOk ttOk
 obtain ⟨res, hx0⟩ : ∃ r, graph_Ports a0 = r := ⟨_, rfl⟩
 simp only [hx0]
 unfold graph_Ports at hx0
 simp only [argT, Try.ntmps100]
 refine go_seq ?_
 refine go_rk eqOk ttOk [] [] ⟨[(1, .ptr 0 0)], [(0, .box (SOp.avs a0) 55)], 1⟩ (by kernel_rfl) trivial ?_
 refine go_seq ?_
 refine go_seq ?_
 refine go_rk eqOk ttOk [] [] ⟨[(1, .ptr 0 0), (4, (iV a0.Kind))], [(0, .box (SOp.avs a0) 55)], 1⟩ (by kernel_rfl) trivial ?_
 refine go_block ?_
 refine go_seq ?_
 refine go_rk eqOk ttOk [] [] ⟨[(1, .ptr 0 0), (4, (iV a0.Kind)), (5, (bo (a0.Kind == 7)))], [(0, .box (SOp.avs a0) 55)], 1⟩ (by kernel_rfl) trivial ?_
 refine go_cond (by rfl) (fun h1 => ?_) (fun h1 => ?_)
 ·have gh1 := h1
  try simp only [GZ] at gh1
  replace hx0 := condT h1 hx0
  refine go_seq ?_
  refine go_seq ?_
  refine go_rk eqOk ttOk [] [] ⟨[(1, .ptr 0 0), (14, (bo ((decide (a0.Arg ≥ 2)) && (decide (a0.Arg ≤ 4)))))], [(0, .box (SOp.avs a0) 55)], 1⟩ (by kernel_rfl) trivial ?_
  refine go_cond (by rfl) (fun h3 => ?_) (fun h3 => ?_)
  ·have gh3 := h3
   try simp only [GZ] at gh3
   replace hx0 := condT h3 hx0
   refine go_seq ?_
   refine go_rk eqOk ttOk [] [] ⟨[(2, (iV a0.Arg))], [], 1⟩ (by kernel_rfl) trivial ?_
   subst hx0
   exact go_ret1 rfl
  ·have gh3 := h3
   try simp only [GZ] at gh3
   replace hx0 := condF h3 hx0
   refine go_skip ?_
   refine go_seq ?_
   refine go_rk eqOk ttOk [] [] ⟨[(2, (iV 0))], [], 1⟩ (by kernel_rfl) trivial ?_
   subst hx0
   exact go_ret1 rfl
 ·have gh1 := h1
  try simp only [GZ] at gh1
  replace hx0 := condF h1 hx0
  refine go_seq ?_
  refine go_seq ?_
  refine go_rk eqOk ttOk [] [] ⟨[(4, (iV a0.Kind)), (17, (bo (a0.Kind == 1)))], [], 1⟩ (by kernel_rfl) trivial ?_
  obtain ⟨o4, hx1, hx0⟩ := letIn_ex hx0
  refine go_joinE (fun p : Bool => ⟨[(17, (bo p))], [], 0⟩) (fun p : Bool => o4 = p) ?_ ?_
  ·refine go_cond (by rfl) (fun h5 => ?_) (fun h5 => ?_)
   ·have gh5 := h5
    try simp only [GZ] at gh5
    replace hx1 := condT h5 hx1
    refine go_skip ?_
    exact go_fin ⟨(a0.Kind == 1), hx1.symm, (Weak.canon [] [17] (by decide) rfl trivial rfl (by simp) (by first | rfl | (simp only [NM, CELLS] <;> rfl) | (simp [NM, CELLS]; done) | (simp [NM, CELLS, AVS]; done) | (simp [NM, CELLS, AVS, numb]; done)) rfl rfl)⟩
   ·have gh5 := h5
    try simp only [GZ] at gh5
    replace hx1 := condF h5 hx1
    refine go_seq ?_
    refine go_rk eqOk ttOk [] [] ⟨[(4, (iV a0.Kind)), (17, (bo (a0.Kind == 2)))], [], 1⟩ (by kernel_rfl) trivial ?_
    refine go_cond (by rfl) (fun h6 => ?_) (fun h6 => ?_)
    ·have gh6 := h6
     try simp only [GZ] at gh6
     replace hx1 := condT h6 hx1
     refine go_skip ?_
     exact go_fin ⟨(a0.Kind == 2), hx1.symm, (Weak.canon [] [17] (by decide) rfl trivial rfl (by simp) (by first | rfl | (simp only [NM, CELLS] <;> rfl) | (simp [NM, CELLS]; done) | (simp [NM, CELLS, AVS]; done) | (simp [NM, CELLS, AVS, numb]; done)) rfl rfl)⟩
    ·have gh6 := h6
     try simp only [GZ] at gh6
     replace hx1 := condF h6 hx1
     refine go_seq ?_
     refine go_rk eqOk ttOk [] [] ⟨[(4, (iV a0.Kind)), (17, (bo (a0.Kind == 3)))], [], 1⟩ (by kernel_rfl) trivial ?_
     refine go_cond (by rfl) (fun h7 => ?_) (fun h7 => ?_)
     ·have gh7 := h7
      try simp only [GZ] at gh7
      replace hx1 := condT h7 hx1
      refine go_skip ?_
      exact go_fin ⟨(a0.Kind == 3), hx1.symm, (Weak.canon [] [17] (by decide) rfl trivial rfl (by simp) (by first | rfl | (simp only [NM, CELLS] <;> rfl) | (simp [NM, CELLS]; done) | (simp [NM, CELLS, AVS]; done) | (simp [NM, CELLS, AVS, numb]; done)) rfl rfl)⟩
     ·have gh7 := h7
      try simp only [GZ] at gh7
      replace hx1 := condF h7 hx1
      refine go_seq ?_
      refine go_rk eqOk ttOk [] [] ⟨[(4, (iV a0.Kind)), (17, (bo (a0.Kind == 4)))], [], 1⟩ (by kernel_rfl) trivial ?_
      refine go_cond (by rfl) (fun h8 => ?_) (fun h8 => ?_)
      ·have gh8 := h8
       try simp only [GZ] at gh8
       replace hx1 := condT h8 hx1
       refine go_skip ?_
       exact go_fin ⟨(a0.Kind == 4), hx1.symm, (Weak.canon [] [17] (by decide) rfl trivial rfl (by simp) (by first | rfl | (simp only [NM, CELLS] <;> rfl) | (simp [NM, CELLS]; done) | (simp [NM, CELLS, AVS]; done) | (simp [NM, CELLS, AVS, numb]; done)) rfl rfl)⟩
      ·have gh8 := h8
       try simp only [GZ] at gh8
       replace hx1 := condF h8 hx1
       refine go_seq ?_
       refine go_rk eqOk ttOk [] [] ⟨[(4, (iV a0.Kind)), (17, (bo (a0.Kind == 5)))], [], 1⟩ (by kernel_rfl) trivial ?_
       refine go_cond (by rfl) (fun h9 => ?_) (fun h9 => ?_)
       ·have gh9 := h9
        try simp only [GZ] at gh9
        replace hx1 := condT h9 hx1
        refine go_skip ?_
        exact go_fin ⟨(a0.Kind == 5), hx1.symm, (Weak.canon [] [17] (by decide) rfl trivial rfl (by simp) (by first | rfl | (simp only [NM, CELLS] <;> rfl) | (simp [NM, CELLS]; done) | (simp [NM, CELLS, AVS]; done) | (simp [NM, CELLS, AVS, numb]; done)) rfl rfl)⟩
       ·have gh9 := h9
        try simp only [GZ] at gh9
        replace hx1 := condF h9 hx1
        refine go_seq ?_
        refine go_rk eqOk ttOk [] [] ⟨[(4, (iV a0.Kind)), (17, (bo (a0.Kind == 6)))], [], 1⟩ (by kernel_rfl) trivial ?_
        refine go_cond (by rfl) (fun h10 => ?_) (fun h10 => ?_)
        ·have gh10 := h10
         try simp only [GZ] at gh10
         replace hx1 := condT h10 hx1
         refine go_skip ?_
         exact go_fin ⟨(a0.Kind == 6), hx1.symm, (Weak.canon [] [17] (by decide) rfl trivial rfl (by simp) (by first | rfl | (simp only [NM, CELLS] <;> rfl) | (simp [NM, CELLS]; done) | (simp [NM, CELLS, AVS]; done) | (simp [NM, CELLS, AVS, numb]; done)) rfl rfl)⟩
        ·have gh10 := h10
         try simp only [GZ] at gh10
         replace hx1 := condF h10 hx1
         refine go_rk eqOk ttOk [] [] ⟨[(17, (bo (a0.Kind == 8)))], [], 1⟩ (by kernel_rfl) trivial ?_
         exact go_fin ⟨(a0.Kind == 8), hx1.symm, (Weak.canon [] [17] (by decide) rfl trivial rfl (by simp) (by first | rfl | (simp only [NM, CELLS] <;> rfl) | (simp [NM, CELLS]; done) | (simp [NM, CELLS, AVS]; done) | (simp [NM, CELLS, AVS, numb]; done)) rfl rfl)⟩
  ·rintro o4_ hp
   try dsimp only at hp
   subst hp
   refine go_cond (by rfl) (fun h11 => ?_) (fun h11 => ?_)
   ·have gh11 := h11
    try simp only [GZ] at gh11
    replace hx0 := condT h11 hx0
    refine go_seq ?_
    refine go_rk eqOk ttOk [] [] ⟨[(2, (iV 1))], [], 0⟩ (by kernel_rfl) trivial ?_
    subst hx0
    exact go_ret1 rfl
   ·have gh11 := h11
    try simp only [GZ] at gh11
    replace hx0 := condF h11 hx0
    refine go_skip ?_
    refine go_blk ?_
    refine go_seq ?_
    refine go_rk eqOk ttOk [] [] ⟨[(2, (iV 0))], [], 0⟩ (by kernel_rfl) trivial ?_
    subst hx0
    exact go_ret1 rfl
theorem graph_Ports_le (a0 : SOp) : graph_Ports a0 ≤ 4 := by
  unfold graph_Ports letIn
  simp only [Bool.cond_eq_ite, Bool.and_eq_true, decide_eq_true_eq]
  repeat' split
  all_goals first | omega | (rename_i h; exact h.2)
theorem graph_Ports_nn (a0 : SOp) : 0 ≤ graph_Ports a0 := by
  unfold graph_Ports letIn
  simp only [Bool.cond_eq_ite, Bool.and_eq_true, decide_eq_true_eq]
  repeat' split
  all_goals first | omega | (rename_i h; have := h.1; omega)
def graph_fn (a0 : SOp) (a1 : Int) : Bool :=
  ((decide (a0.Fn ≥ 1)) && (decide (a0.Fn ≤ a1)))
set_option maxRecDepth 10000 in
set_option maxHeartbeats 8000000 in
theorem graph_fn_t (a0 : SOp) (a1 : Int) : FnP Try.prog 125 [.agg (SOp.avs a0), (iV a1)] ((bo (graph_fn a0 a1))) := by
 refine FnP.intro (tt := tt) Try.func125 rfl (by kernel_rfl) (by simp [Try.ntmps125]) fun w0 A hA => ?_
 have hR := reckB_ok eqOk ttOk
 obtain ⟨res, hx0⟩ : ∃ r, graph_fn a0 a1 = r := ⟨_, rfl⟩
 simp only [hx0]
 unfold graph_fn at hx0
 simp only [argT, Try.ntmps125]
 refine go_seq ?_
 refine go_rk eqOk ttOk [] [] ⟨[(1, (iV a1)), (2, .ptr 0 0)], [(0, .box (SOp.avs a0) 55)], 1⟩ (by kernel_rfl) trivial ?_
 refine go_seq ?_
 refine go_rk eqOk ttOk [] [] ⟨[(4, (bo ((decide (a0.Fn ≥ 1)) && (decide (a0.Fn ≤ a1)))))], [], 1⟩ (by kernel_rfl) trivial ?_
 subst hx0
 exact go_ret1 rfl
def graph_fields (a0 : SOp) (a1 : Int) : Bool :=
  (bif (a0.Kind == 1) then ((((decide (a0.Part ≥ 0)) && (decide (a0.Part < a1))) && (a0.Fn == 0)) && (a0.Arg == 0)) else (bif (a0.Part != 0) then false else (bif (a0.Kind == 2) then ((graph_fn a0 4) && ((a0.Fn != 3) || (a0.Arg == 0))) else (bif (a0.Kind == 3) then ((graph_fn a0 4) && ((a0.Fn != 3) || (a0.Arg == 0))) else (bif (a0.Kind == 4) then (bif (a0.Fn == 1) then (a0.Arg == 0) else letIn ((bif (a0.Fn == 2) then (a0.Fn == 2) else (a0.Fn == 3))) fun o14 => (bif o14 then (decide (a0.Arg ≥ 1)) else (a0.Fn == 4))) else (bif (a0.Kind == 5) then ((graph_fn a0 5) && (a0.Arg == 0)) else (bif (a0.Kind == 6) then (((graph_fn a0 5) && (decide (a0.Arg ≥ 1))) && (decide (a0.Arg ≤ 64))) else (bif (a0.Kind == 7) then (((a0.Fn == 0) && (decide (a0.Arg ≥ 2))) && (decide (a0.Arg ≤ 4))) else ((a0.Fn == 0) && (a0.Arg == 0))))))))))
set_option maxRecDepth 10000 in
set_option maxHeartbeats 8000000 in
theorem graph_fields_t (a0 : SOp) (a1 : Int) : FnP Try.prog 115 [.agg (SOp.avs a0), (iV a1)] ((bo (graph_fields a0 a1))) := by
 refine FnP.intro (tt := tt) Try.func115 rfl (by kernel_rfl) (by simp [Try.ntmps115]) fun w0 A hA => ?_
 have hR := reckB_ok eqOk ttOk
 obtain ⟨res, hx0⟩ : ∃ r, graph_fields a0 a1 = r := ⟨_, rfl⟩
 simp only [hx0]
 unfold graph_fields at hx0
 simp only [argT, Try.ntmps115]
 refine go_seq ?_
 refine go_rk eqOk ttOk [] [] ⟨[(1, (iV a1)), (2, .ptr 0 0)], [(0, .box (SOp.avs a0) 55)], 1⟩ (by kernel_rfl) trivial ?_
 refine go_seq ?_
 refine go_seq ?_
 refine go_rk eqOk ttOk [] [] ⟨[(1, (iV a1)), (2, .ptr 0 0), (7, (bo (a0.Kind == 1)))], [(0, .box (SOp.avs a0) 55)], 1⟩ (by kernel_rfl) trivial ?_
 refine go_cond (by rfl) (fun h1 => ?_) (fun h1 => ?_)
 ·have gh1 := h1
  try simp only [GZ] at gh1
  replace hx0 := condT h1 hx0
  refine go_seq ?_
  refine go_rk eqOk ttOk [] [] ⟨[(4, (bo ((((decide (a0.Part ≥ 0)) && (decide (a0.Part < a1))) && (a0.Fn == 0)) && (a0.Arg == 0))))], [], 1⟩ (by kernel_rfl) trivial ?_
  subst hx0
  exact go_ret1 rfl
 ·have gh1 := h1
  try simp only [GZ] at gh1
  replace hx0 := condF h1 hx0
  refine go_skip ?_
  refine go_seq ?_
  refine go_seq ?_
  refine go_rk eqOk ttOk [] [] ⟨[(2, .ptr 0 0), (29, (bo (a0.Part != 0)))], [(0, .box (SOp.avs a0) 55)], 1⟩ (by kernel_rfl) trivial ?_
  refine go_cond (by rfl) (fun h5 => ?_) (fun h5 => ?_)
  ·have gh5 := h5
   try simp only [GZ] at gh5
   replace hx0 := condT h5 hx0
   refine go_seq ?_
   refine go_rk eqOk ttOk [] [] ⟨[(4, (bo false))], [], 1⟩ (by kernel_rfl) trivial ?_
   subst hx0
   exact go_ret1 rfl
  ·have gh5 := h5
   try simp only [GZ] at gh5
   replace hx0 := condF h5 hx0
   refine go_skip ?_
   refine go_seq ?_
   refine go_seq ?_
   refine go_rk eqOk ttOk [] [] ⟨[(2, .ptr 0 0), (31, (iV a0.Kind))], [(0, .box (SOp.avs a0) 55)], 1⟩ (by kernel_rfl) trivial ?_
   refine go_block ?_
   refine go_seq ?_
   refine go_rk eqOk ttOk [] [] ⟨[(2, .ptr 0 0), (31, (iV a0.Kind)), (32, (bo (a0.Kind == 2)))], [(0, .box (SOp.avs a0) 55)], 1⟩ (by kernel_rfl) trivial ?_
   refine go_cond (by rfl) (fun h6 => ?_) (fun h6 => ?_)
   ·have gh6 := h6
    try simp only [GZ] at gh6
    replace hx0 := condT h6 hx0
    refine go_seq ?_
    refine go_rk eqOk ttOk [(1, .fn ((graph_fn_t a0 4)).toO)] [AQ ((graph_fn_t a0 4)).toO] ⟨[(4, (bo ((graph_fn a0 4) && ((a0.Fn != 3) || (a0.Arg == 0)))))], [], 1⟩ (by kernel_rfl) ⟨⟨rfl, rfl⟩, trivial⟩ ?_
    subst hx0
    exact go_ret1 rfl
   ·have gh6 := h6
    try simp only [GZ] at gh6
    replace hx0 := condF h6 hx0
    refine go_seq ?_
    refine go_rk eqOk ttOk [] [] ⟨[(2, .ptr 0 0), (31, (iV a0.Kind)), (46, (bo (a0.Kind == 3)))], [(0, .box (SOp.avs a0) 55)], 1⟩ (by kernel_rfl) trivial ?_
    refine go_cond (by rfl) (fun h9 => ?_) (fun h9 => ?_)
    ·have gh9 := h9
     try simp only [GZ] at gh9
     replace hx0 := condT h9 hx0
     refine go_seq ?_
     refine go_rk eqOk ttOk [(1, .fn ((graph_fn_t a0 4)).toO)] [AQ ((graph_fn_t a0 4)).toO] ⟨[(4, (bo ((graph_fn a0 4) && ((a0.Fn != 3) || (a0.Arg == 0)))))], [], 1⟩ (by kernel_rfl) ⟨⟨rfl, rfl⟩, trivial⟩ ?_
     subst hx0
     exact go_ret1 rfl
    ·have gh9 := h9
     try simp only [GZ] at gh9
     replace hx0 := condF h9 hx0
     refine go_seq ?_
     refine go_rk eqOk ttOk [] [] ⟨[(2, .ptr 0 0), (31, (iV a0.Kind)), (60, (bo (a0.Kind == 4)))], [(0, .box (SOp.avs a0) 55)], 1⟩ (by kernel_rfl) trivial ?_
     refine go_cond (by rfl) (fun h12 => ?_) (fun h12 => ?_)
     ·have gh12 := h12
      try simp only [GZ] at gh12
      replace hx0 := condT h12 hx0
      refine go_seq ?_
      refine go_seq ?_
      refine go_rk eqOk ttOk [] [] ⟨[(2, .ptr 0 0), (63, (iV a0.Fn))], [(0, .box (SOp.avs a0) 55)], 1⟩ (by kernel_rfl) trivial ?_
      refine go_block ?_
      refine go_seq ?_
      refine go_rk eqOk ttOk [] [] ⟨[(2, .ptr 0 0), (63, (iV a0.Fn)), (64, (bo (a0.Fn == 1)))], [(0, .box (SOp.avs a0) 55)], 1⟩ (by kernel_rfl) trivial ?_
      refine go_cond (by rfl) (fun h13 => ?_) (fun h13 => ?_)
      ·have gh13 := h13
       try simp only [GZ] at gh13
       replace hx0 := condT h13 hx0
       refine go_seq ?_
       refine go_rk eqOk ttOk [] [] ⟨[(4, (bo (a0.Arg == 0)))], [], 1⟩ (by kernel_rfl) trivial ?_
       subst hx0
       exact go_ret1 rfl
      ·have gh13 := h13
       try simp only [GZ] at gh13
       replace hx0 := condF h13 hx0
       refine go_seq ?_
       refine go_seq ?_
       refine go_rk eqOk ttOk [] [] ⟨[(2, .ptr 0 0), (63, (iV a0.Fn)), (69, (bo (a0.Fn == 2)))], [(0, .box (SOp.avs a0) 55)], 1⟩ (by kernel_rfl) trivial ?_
       obtain ⟨o14, hx1, hx0⟩ := letIn_ex hx0
       refine go_joinE (fun p : Bool => ⟨[(2, .ptr 0 0), (69, (bo p))], [(0, .box (SOp.avs a0) 55)], 1⟩) (fun p : Bool => o14 = p) ?_ ?_
       ·refine go_cond (by rfl) (fun h15 => ?_) (fun h15 => ?_)
        ·have gh15 := h15
         try simp only [GZ] at gh15
         replace hx1 := condT h15 hx1
         refine go_skip ?_
         exact go_fin ⟨(a0.Fn == 2), hx1.symm, (Weak.cn [0] [2, 69] rfl rfl rfl)⟩
        ·have gh15 := h15
         try simp only [GZ] at gh15
         replace hx1 := condF h15 hx1
         refine go_rk eqOk ttOk [] [] ⟨[(2, .ptr 0 0), (69, (bo (a0.Fn == 3)))], [(0, .box (SOp.avs a0) 55)], 1⟩ (by kernel_rfl) trivial ?_
         exact go_fin ⟨(a0.Fn == 3), hx1.symm, (Weak.cn [0] [2, 69] rfl rfl rfl)⟩
       ·rintro o14_ hp
        try dsimp only at hp
        subst hp
        refine go_cond (by rfl) (fun h16 => ?_) (fun h16 => ?_)
        ·have gh16 := h16
         try simp only [GZ] at gh16
         replace hx0 := condT h16 hx0
         refine go_seq ?_
         refine go_rk eqOk ttOk [] [] ⟨[(4, (bo (decide (a0.Arg ≥ 1))))], [], 1⟩ (by kernel_rfl) trivial ?_
         subst hx0
         exact go_ret1 rfl
        ·have gh16 := h16
         try simp only [GZ] at gh16
         replace hx0 := condF h16 hx0
         refine go_skip ?_
         refine go_blk ?_
         refine go_seq ?_
         refine go_rk eqOk ttOk [] [] ⟨[(4, (bo (a0.Fn == 4)))], [], 1⟩ (by kernel_rfl) trivial ?_
         subst hx0
         exact go_ret1 rfl
     ·have gh12 := h12
      try simp only [GZ] at gh12
      replace hx0 := condF h12 hx0
      refine go_seq ?_
      refine go_rk eqOk ttOk [] [] ⟨[(2, .ptr 0 0), (31, (iV a0.Kind)), (78, (bo (a0.Kind == 5)))], [(0, .box (SOp.avs a0) 55)], 1⟩ (by kernel_rfl) trivial ?_
      refine go_cond (by rfl) (fun h17 => ?_) (fun h17 => ?_)
      ·have gh17 := h17
       try simp only [GZ] at gh17
       replace hx0 := condT h17 hx0
       refine go_seq ?_
       refine go_rk eqOk ttOk [(1, .fn ((graph_fn_t a0 5)).toO)] [AQ ((graph_fn_t a0 5)).toO] ⟨[(4, (bo ((graph_fn a0 5) && (a0.Arg == 0))))], [], 1⟩ (by kernel_rfl) ⟨⟨rfl, rfl⟩, trivial⟩ ?_
       subst hx0
       exact go_ret1 rfl
      ·have gh17 := h17
       try simp only [GZ] at gh17
       replace hx0 := condF h17 hx0
       refine go_seq ?_
       refine go_rk eqOk ttOk [] [] ⟨[(2, .ptr 0 0), (31, (iV a0.Kind)), (87, (bo (a0.Kind == 6)))], [(0, .box (SOp.avs a0) 55)], 1⟩ (by kernel_rfl) trivial ?_
       refine go_cond (by rfl) (fun h19 => ?_) (fun h19 => ?_)
       ·have gh19 := h19
        try simp only [GZ] at gh19
        replace hx0 := condT h19 hx0
        refine go_seq ?_
        refine go_rk eqOk ttOk [(1, .fn ((graph_fn_t a0 5)).toO)] [AQ ((graph_fn_t a0 5)).toO] ⟨[(4, (bo (((graph_fn a0 5) && (decide (a0.Arg ≥ 1))) && (decide (a0.Arg ≤ 64)))))], [], 1⟩ (by kernel_rfl) ⟨⟨rfl, rfl⟩, trivial⟩ ?_
        subst hx0
        exact go_ret1 rfl
       ·have gh19 := h19
        try simp only [GZ] at gh19
        replace hx0 := condF h19 hx0
        refine go_seq ?_
        refine go_rk eqOk ttOk [] [] ⟨[(2, .ptr 0 0), (101, (bo (a0.Kind == 7)))], [(0, .box (SOp.avs a0) 55)], 1⟩ (by kernel_rfl) trivial ?_
        refine go_cond (by rfl) (fun h22 => ?_) (fun h22 => ?_)
        ·have gh22 := h22
         try simp only [GZ] at gh22
         replace hx0 := condT h22 hx0
         refine go_seq ?_
         refine go_rk eqOk ttOk [] [] ⟨[(4, (bo (((a0.Fn == 0) && (decide (a0.Arg ≥ 2))) && (decide (a0.Arg ≤ 4)))))], [], 1⟩ (by kernel_rfl) trivial ?_
         subst hx0
         exact go_ret1 rfl
        ·have gh22 := h22
         try simp only [GZ] at gh22
         replace hx0 := condF h22 hx0
         refine go_skip ?_
         refine go_blk ?_
         refine go_seq ?_
         refine go_rk eqOk ttOk [] [] ⟨[(4, (bo ((a0.Fn == 0) && (a0.Arg == 0))))], [], 1⟩ (by kernel_rfl) trivial ?_
         subst hx0
         exact go_ret1 rfl
theorem fields_part (o : SOp) (parts : Int) (h : graph_fields o parts = true) (hk : o.Kind = 1) : 0 ≤ o.Part ∧ o.Part < parts := by
  unfold graph_fields at h
  simp only [hk, beq_self_eq_true, cond_true, Bool.and_eq_true, decide_eq_true_eq] at h
  exact ⟨h.1.1.1, h.1.1.2⟩
def graph_edges_c1 (a0 : SEdge) (a1 : Int) (a2 : SGraph) : Bool :=
  ((((decide (a0.From < 0)) || (decide (a0.From ≥ a1))) || (decide (a0.Port < 0))) || (decide (a0.Port ≥ (graph_Ports (List.getD a2.Ops (Int.toNat a0.From) default)))))
set_option maxRecDepth 10000 in
set_option maxHeartbeats 8000000 in
theorem graph_edges_c1_t (a0 : SEdge) (a1 : Int) (a2 : SGraph) (hn : a1 ≤ a2.Ops.length) (z2 : SGraph.Sz a2) : FnP Try.prog 127 [.agg (SEdge.avs a0), .cel [.val (.int .i64 a1)], .cel [.val (.int .i64 a2.Parts), .sl (List.map SOp.cells a2.Ops)]] ((bo (graph_edges_c1 a0 a1 a2))) := by
 refine FnP.intro (tt := tt) Try.func127 rfl (by kernel_rfl) (by simp [Try.ntmps127]) fun w0 A hA => ?_
 have hR := reckB_ok eqOk ttOk
 obtain ⟨res, hx0⟩ : ∃ r, graph_edges_c1 a0 a1 a2 = r := ⟨_, rfl⟩
 simp only [hx0]
 unfold graph_edges_c1 at hx0
 simp only [argT, Try.ntmps127]
 try simp only [SZD] at z2
 obtain ⟨zz4, zz5⟩ := z2
 refine go_seq ?_
 refine go_rk eqOk ttOk [] [] ⟨[(1, .cel [.val (.int .i64 a1)]), (2, .cel [.val (.int .i64 a2.Parts), .sl (List.map SOp.cells a2.Ops)]), (3, .ptr 0 0)], [(0, .box (SEdge.avs a0) 78)], 1⟩ (by kernel_rfl) trivial ?_
 refine go_seq ?_
 refine go_gk eqOk ttOk rfl [(21, .row (SOp.cells (List.getD a2.Ops (Int.toNat a0.From) default))), (23, .fn ((graph_Ports_t (List.getD a2.Ops (Int.toNat a0.From) default))).toO)] [((((decide (a0.From < 0)) || (decide (a0.From ≥ a1))) || (decide (a0.Port < 0))) = false → IX SOp.cells a2.Ops a0.From), ((((decide (a0.From < 0)) || (decide (a0.From ≥ a1))) || (decide (a0.Port < 0))) = false → AQ ((graph_Ports_t (List.getD a2.Ops (Int.toNat a0.From) default))).toO)] ⟨[(4, (bo ((((decide (a0.From < 0)) || (decide (a0.From ≥ a1))) || (decide (a0.Port < 0))) || (decide (a0.Port ≥ (graph_Ports (List.getD a2.Ops (Int.toNat a0.From) default)))))))], [], 1⟩ (by kernel_rfl) ⟨(by intro h_0; simp only [GZ] at *; exact ix (by omega) (by omega)), (fun _ => ⟨rfl, rfl⟩), trivial⟩ ?_
 subst hx0
 exact go_ret1 rfl
def graph_edges (a0 : SGraph) (a1 : Int) : Bool :=
  letIn ((bif ((List.getD a0.Ops (Int.toNat a1) default).Kind == 1) then (0, 0) else (bif ((List.getD a0.Ops (Int.toNat a1) default).Kind == 8) then (2, 4) else (1, 1)))) fun o1 => (bif ((decide (((((List.getD a0.Ops (Int.toNat a1) default).In).length : Nat) : Int) < ((o1.1 : Nat) : Int))) || (decide (((((List.getD a0.Ops (Int.toNat a1) default).In).length : Nat) : Int) > ((o1.2 : Nat) : Int)))) then false else (!(slices_ContainsFunc_Edge ((List.getD a0.Ops (Int.toNat a1) default).In) (fun y0 => graph_edges_c1 y0 a1 a0))))
set_option maxRecDepth 10000 in
set_option maxHeartbeats 8000000 in
theorem graph_edges_t (a0 : SGraph) (a1 : Int) (hn : 0 ≤ a1) (hn2 : a1 < a0.Ops.length) (z0 : SGraph.Sz a0) : FnP Try.prog 116 [.agg (SGraph.avs a0), (iV a1)] ((bo (graph_edges a0 a1))) := by
 refine FnP.intro (tt := tt) Try.func116 rfl (by kernel_rfl) (by simp [Try.ntmps116]) fun w0 A hA => ?_
 have hR := reckB_ok eqOk ttOk
 obtain ⟨res, hx0⟩ : ∃ r, graph_edges a0 a1 = r := ⟨_, rfl⟩
 simp only [hx0]
 unfold graph_edges at hx0
 simp only [argT, Try.ntmps116]
 try simp only [SZD] at z0
 obtain ⟨zz6, zz7⟩ := z0
 refine go_seq ?_
 refine go_rk eqOk ttOk [] [] ⟨[(2, .ptr 0 0), (3, .ptr 1 0)], [(0, .box (SGraph.avs a0) 41), (1, .box [(iV a1)] 3)], 2⟩ (by kernel_rfl) trivial ?_
 refine go_seq ?_
 have bq8 : (Int.toNat a1) < a0.Ops.length := by omega
 have zq8 : ((List.getD a0.Ops (Int.toNat a1) default).In).length ≤ 4294967296 := (by assumption : ∀ y ∈ a0.Ops, y.In.length ≤ 4294967296) _ (getD_mem a0.Ops (Int.toNat a1) default bq8)
 refine go_rk eqOk ttOk [(3, .row (SOp.cells (List.getD a0.Ops (Int.toNat a1) default)))] [IX SOp.cells a0.Ops a1] ⟨[(2, .ptr 0 0), (3, .ptr 1 0), (5, .ptr 2 0)], [(0, .box (SGraph.avs a0) 41), (1, .box [(iV a1)] 3), (2, .box (SOp.avs (List.getD a0.Ops (Int.toNat a1) default)) 55)], 3⟩ (by kernel_rfl) ⟨(ix (by omega) (by omega)), trivial⟩ ?_
 refine go_seq ?_
 refine go_rk eqOk ttOk [] [] ⟨[(2, .ptr 0 0), (3, .ptr 1 0), (5, .ptr 2 0), (6, (iV 1)), (7, (iV 1))], [(0, .box (SGraph.avs a0) 41), (1, .box [(iV a1)] 3), (2, .box (SOp.avs (List.getD a0.Ops (Int.toNat a1) default)) 55)], 3⟩ (by kernel_rfl) trivial ?_
 refine go_seq ?_
 refine go_seq ?_
 refine go_rk eqOk ttOk [] [] ⟨[(2, .ptr 0 0), (3, .ptr 1 0), (5, .ptr 2 0), (6, (iV 1)), (7, (iV 1)), (14, (iV ((List.getD a0.Ops (Int.toNat a1) default).Kind)))], [(0, .box (SGraph.avs a0) 41), (1, .box [(iV a1)] 3), (2, .box (SOp.avs (List.getD a0.Ops (Int.toNat a1) default)) 55)], 3⟩ (by kernel_rfl) trivial ?_
 obtain ⟨o1, hx1, hx0⟩ := letIn_ex hx0
 refine go_joinE (fun p : Nat × Nat => ⟨[(2, .ptr 0 0), (3, .ptr 1 0), (5, .ptr 2 0), (6, (iV ((p.1 : Nat) : Int))), (7, (iV ((p.2 : Nat) : Int)))], [(0, .box (SGraph.avs a0) 41), (1, .box [(iV a1)] 3), (2, .box (SOp.avs (List.getD a0.Ops (Int.toNat a1) default)) 55)], 3⟩) (fun p : Nat × Nat => o1 = p ∧ (p.1 ≤ 2 ∧ p.2 ≤ 4)) ?_ ?_
 ·refine go_block ?_
  refine go_seq ?_
  refine go_rk eqOk ttOk [] [] ⟨[(2, .ptr 0 0), (3, .ptr 1 0), (5, .ptr 2 0), (6, (iV 1)), (7, (iV 1)), (14, (iV ((List.getD a0.Ops (Int.toNat a1) default).Kind))), (15, (bo ((List.getD a0.Ops (Int.toNat a1) default).Kind == 1)))], [(0, .box (SGraph.avs a0) 41), (1, .box [(iV a1)] 3), (2, .box (SOp.avs (List.getD a0.Ops (Int.toNat a1) default)) 55)], 3⟩ (by kernel_rfl) trivial ?_
  refine go_cond (by rfl) (fun h2 => ?_) (fun h2 => ?_)
  ·have gh2 := h2
   try simp only [GZ] at gh2
   replace hx1 := condT h2 hx1
   refine go_rk eqOk ttOk [] [] ⟨[(2, .ptr 0 0), (3, .ptr 1 0), (5, .ptr 2 0), (6, (iV 0)), (7, (iV 0))], [(0, .box (SGraph.avs a0) 41), (1, .box [(iV a1)] 3), (2, .box (SOp.avs (List.getD a0.Ops (Int.toNat a1) default)) 55)], 3⟩ (by kernel_rfl) trivial ?_
   refine go_blk ?_
   exact go_fin ⟨(0, 0), ⟨hx1.symm, by first | omega | (dsimp only; omega) | (simp only [List.length_nil, List.length_set, List.length_replicate, List.length_append, List.length_take, List.length_cons]; omega)⟩, (Weak.cn [0, 1, 2] [2, 3, 5, 6, 7] rfl rfl rfl)⟩
  ·have gh2 := h2
   try simp only [GZ] at gh2
   replace hx1 := condF h2 hx1
   refine go_seq ?_
   refine go_rk eqOk ttOk [] [] ⟨[(2, .ptr 0 0), (3, .ptr 1 0), (5, .ptr 2 0), (6, (iV 1)), (7, (iV 1)), (17, (bo ((List.getD a0.Ops (Int.toNat a1) default).Kind == 8)))], [(0, .box (SGraph.avs a0) 41), (1, .box [(iV a1)] 3), (2, .box (SOp.avs (List.getD a0.Ops (Int.toNat a1) default)) 55)], 3⟩ (by kernel_rfl) trivial ?_
   refine go_cond (by rfl) (fun h3 => ?_) (fun h3 => ?_)
   ·have gh3 := h3
    try simp only [GZ] at gh3
    replace hx1 := condT h3 hx1
    refine go_rk eqOk ttOk [] [] ⟨[(2, .ptr 0 0), (3, .ptr 1 0), (5, .ptr 2 0), (6, (iV 2)), (7, (iV 4))], [(0, .box (SGraph.avs a0) 41), (1, .box [(iV a1)] 3), (2, .box (SOp.avs (List.getD a0.Ops (Int.toNat a1) default)) 55)], 3⟩ (by kernel_rfl) trivial ?_
    refine go_blk ?_
    exact go_fin ⟨(2, 4), ⟨hx1.symm, by first | omega | (dsimp only; omega) | (simp only [List.length_nil, List.length_set, List.length_replicate, List.length_append, List.length_take, List.length_cons]; omega)⟩, (Weak.cn [0, 1, 2] [2, 3, 5, 6, 7] rfl rfl rfl)⟩
   ·have gh3 := h3
    try simp only [GZ] at gh3
    replace hx1 := condF h3 hx1
    refine go_skip ?_
    refine go_blk ?_
    exact go_fin ⟨(1, 1), ⟨hx1.symm, by first | omega | (dsimp only; omega) | (simp only [List.length_nil, List.length_set, List.length_replicate, List.length_append, List.length_take, List.length_cons]; omega)⟩, (Weak.cn [0, 1, 2] [2, 3, 5, 6, 7] rfl rfl rfl)⟩
 ·rintro o1_ ⟨hp, hqo1⟩
  try dsimp only at hqo1
  try dsimp only at hp
  subst hp
  refine go_seq ?_
  refine go_seq ?_
  refine go_rk eqOk ttOk [(2, .tell (iV ((((List.getD a0.Ops (Int.toNat a1) default).In).length : Nat) : Int))), (8, .tell (iV ((((List.getD a0.Ops (Int.toNat a1) default).In).length : Nat) : Int)))] [LN SEdge.cells ((List.getD a0.Ops (Int.toNat a1) default).In), ((decide (((((List.getD a0.Ops (Int.toNat a1) default).In).length : Nat) : Int) < ((o1.1 : Nat) : Int))) = false → LN SEdge.cells ((List.getD a0.Ops (Int.toNat a1) default).In))] ⟨[(2, .ptr 0 0), (3, .ptr 1 0), (5, .ptr 2 0), (30, (bo ((decide (((((List.getD a0.Ops (Int.toNat a1) default).In).length : Nat) : Int) < ((o1.1 : Nat) : Int))) || (decide (((((List.getD a0.Ops (Int.toNat a1) default).In).length : Nat) : Int) > ((o1.2 : Nat) : Int))))))], [(0, .box (SGraph.avs a0) 41), (1, .box [(iV a1)] 3), (2, .box (SOp.avs (List.getD a0.Ops (Int.toNat a1) default)) 55)], 3⟩ (by kernel_rfl) ⟨ln, (fun _ => ln), trivial⟩ ?_
  refine go_cond (by rfl) (fun h5 => ?_) (fun h5 => ?_)
  ·have gh5 := h5
   try simp only [GZ] at gh5
   replace hx0 := condT h5 hx0
   refine go_seq ?_
   refine go_rk eqOk ttOk [] [] ⟨[(4, (bo false))], [], 3⟩ (by kernel_rfl) trivial ?_
   subst hx0
   exact go_ret1 rfl
  ·have gh5 := h5
   try simp only [GZ] at gh5
   replace hx0 := condF h5 hx0
   refine go_skip ?_
   refine go_seq ?_
   refine go_rk eqOk ttOk [(3, .lo ((slices_ContainsFunc_Edge_t ((List.getD a0.Ops (Int.toNat a1) default).In) 127 [.val (.int .i64 a1)] [.val (.int .i64 a0.Parts), .sl (List.map SOp.cells a0.Ops)] (fun y0 => graph_edges_c1 y0 a1 a0) (fun y0 => graph_edges_c1_t y0 a1 a0 (by (try simp only [SZD]); (repeat' apply And.intro) <;> first | assumption | omega | (simp only [List.length_drop, List.length_take]; omega) | simp_all) (by (try simp only [SZD]); (repeat' apply And.intro) <;> first | assumption | omega | (simp only [List.length_drop, List.length_take]; omega) | simp_all)))))] [AP ((slices_ContainsFunc_Edge_t ((List.getD a0.Ops (Int.toNat a1) default).In) 127 [.val (.int .i64 a1)] [.val (.int .i64 a0.Parts), .sl (List.map SOp.cells a0.Ops)] (fun y0 => graph_edges_c1 y0 a1 a0) (fun y0 => graph_edges_c1_t y0 a1 a0 (by (try simp only [SZD]); (repeat' apply And.intro) <;> first | assumption | omega | (simp only [List.length_drop, List.length_take]; omega) | simp_all) (by (try simp only [SZD]); (repeat' apply And.intro) <;> first | assumption | omega | (simp only [List.length_drop, List.length_take]; omega) | simp_all))))] ⟨[(4, (bo (!(slices_ContainsFunc_Edge ((List.getD a0.Ops (Int.toNat a1) default).In) (fun y0 => graph_edges_c1 y0 a1 a0)))))], [], 3⟩ (by kernel_rfl) ⟨⟨rfl, rfl⟩, trivial⟩ ?_
   subst hx0
   exact go_ret1 rfl
def graph_one_L0 (a0 : SGraph) (a1 : Int) (x9 : Nat) (x10 : List SEdge) : Sum (Int × (List SEdge)) (List SEdge) :=
  (if h11 : (decide (((x9 : Nat) : Int) < ((((List.getD a0.Ops (Int.toNat a1) default).In).length : Nat) : Int))) = true then (if h12 : (decide ((List.getD ((List.getD a0.Ops (Int.toNat a1) default).In) x9 default) ∈ x10)) = true then (Sum.inl (53, x10)) else (graph_one_L0 a0 a1 (x9 + 1) (addS x10 (List.getD ((List.getD a0.Ops (Int.toNat a1) default).In) x9 default)))) else (Sum.inr x10))
termination_by ((List.getD a0.Ops (Int.toNat a1) default).In).length - x9
decreasing_by all_goals (try simp only [GZ] at *) <;> omega
def graph_one (a0 : SGraph) (a1 : Int) (a2 : (List SEdge)) : Int × (List SEdge) :=
  (bif ((decide ((List.getD a0.Ops (Int.toNat a1) default).Kind < 1)) || (decide ((List.getD a0.Ops (Int.toNat a1) default).Kind > 9))) then (50, a2) else (bif (!(graph_fields (List.getD a0.Ops (Int.toNat a1) default) a0.Parts)) then (51, a2) else (bif (!(graph_edges a0 a1)) then (52, a2) else letIn (graph_one_L0 a0 a1 0 a2) fun o5s => Sum.elim (fun q => q) (fun o5 => (0, o5)) o5s)))
set_option maxRecDepth 10000 in
set_option maxHeartbeats 8000000 in
theorem graph_one_t (a0 : SGraph) (a1 : Int) (a2 : (List SEdge)) (hn : 0 ≤ a1) (hn2 : a1 < a0.Ops.length) (z0 : SGraph.Sz a0) : FnM Try.prog 99 [.agg (SGraph.avs a0), (iV a1), .mref 0] [.mp (List.map SEdge.mkv a2)] [0] [.mp (List.map SEdge.mkv ((graph_one a0 a1 a2).2))] ((iV ((graph_one a0 a1 a2).1))) := by
 refine FnM.intro (tt := tt) Try.func99 rfl (by kernel_rfl) (by simp [Try.ntmps99]) (Nat.le_refl _) (by intro b hb; simp at hb ⊢; omega) fun w0 M0 A hA hM pp => ?_
 have hR := reckB_ok eqOk ttOk
 obtain ⟨res, hx0⟩ : ∃ r, graph_one a0 a1 a2 = r := ⟨_, rfl⟩
 simp only [hx0]
 unfold graph_one at hx0
 simp only [argT, Try.ntmps99]
 try simp only [SZD] at z0
 obtain ⟨zz13, zz14⟩ := z0
 refine go_seq ?_
 refine go_rk eqOk ttOk [] [] ⟨[(1, (iV a1)), (2, .mref 0), (3, .ptr 2 0)], [(0, .mp (List.map SEdge.mkv a2)), (1, .fr [undef] [.pl 0 (pp 0)]), (2, .box (SGraph.avs a0) 41)], 3⟩ (by kernel_rfl) trivial ?_
 refine go_seq ?_
 have bq15 : (Int.toNat a1) < a0.Ops.length := by omega
 have zq15 : ((List.getD a0.Ops (Int.toNat a1) default).In).length ≤ 4294967296 := (by assumption : ∀ y ∈ a0.Ops, y.In.length ≤ 4294967296) _ (getD_mem a0.Ops (Int.toNat a1) default bq15)
 refine go_rk eqOk ttOk [(3, .row (SOp.cells (List.getD a0.Ops (Int.toNat a1) default)))] [IX SOp.cells a0.Ops a1] ⟨[(1, (iV a1)), (2, .mref 0), (3, .ptr 2 0), (7, .ptr 3 0)], [(0, .mp (List.map SEdge.mkv a2)), (1, .fr [undef] [.pl 0 (pp 0)]), (2, .box (SGraph.avs a0) 41), (3, .box (SOp.avs (List.getD a0.Ops (Int.toNat a1) default)) 55)], 4⟩ (by kernel_rfl) ⟨(ix (by omega) (by omega)), trivial⟩ ?_
 refine go_seq ?_
 refine go_block ?_
 refine go_seq ?_
 refine go_rk eqOk ttOk [] [] ⟨[(1, (iV a1)), (2, .mref 0), (3, .ptr 2 0), (7, .ptr 3 0), (15, (bo ((decide ((List.getD a0.Ops (Int.toNat a1) default).Kind < 1)) || (decide ((List.getD a0.Ops (Int.toNat a1) default).Kind > 9)))))], [(0, .mp (List.map SEdge.mkv a2)), (1, .fr [undef] [.pl 0 (pp 0)]), (2, .box (SGraph.avs a0) 41), (3, .box (SOp.avs (List.getD a0.Ops (Int.toNat a1) default)) 55)], 4⟩ (by kernel_rfl) trivial ?_
 refine go_cond (by rfl) (fun h2 => ?_) (fun h2 => ?_)
 ·have gh2 := h2
  try simp only [GZ] at gh2
  replace hx0 := condT h2 hx0
  refine go_seq ?_
  refine go_rk eqOk ttOk [] [] ⟨[(6, (iV 50))], [(0, .mp (List.map SEdge.mkv a2)), (1, .fr [undef] [.pl 0 (pp 0)])], 4⟩ (by kernel_rfl) trivial ?_
  subst hx0
  refine go_returnM [0] (by decide) ttOk rfl ?_ ?_ ?_ ?_
  ·exact (by (repeat' apply And.intro) <;> first | trivial | exact Nat.le_of_ble_eq_true rfl | omega | (simp only [NM]; omega) | (simp only [NM, List.length_replicate]; omega) | (simp; done))
  ·first | rfl | (simp only [NM, CELLS] <;> rfl) | (simp only [take_map_len, CELLS] <;> rfl) | (simp [sL, nS, iV, bo]; done) | (simp [sL, nS, iV, bo, AVS]; rw [List.take_of_length_le (by simp)])
  ·first | rfl | (simp only [NM, CELLS] <;> rfl) | (simp only [take_map_len, CELLS] <;> rfl) | (simp [sL, nS, iV, bo]; done) | (simp [sL, nS, iV, bo, AVS]; rw [List.take_of_length_le (by simp)])
  ·exact (by intro q hq; repeat (first | (cases hq; done) | (rcases List.mem_cons.1 hq with rfl | hq; exact ⟨rfl, 1, _, _, rfl, by repeat (first | exact List.mem_cons_self | apply List.mem_cons_of_mem)⟩)))
 ·have gh2 := h2
  try simp only [GZ] at gh2
  replace hx0 := condF h2 hx0
  refine go_seq ?_
  refine go_rk eqOk ttOk [(3, .fn ((graph_fields_t (List.getD a0.Ops (Int.toNat a1) default) a0.Parts)).toO)] [AQ ((graph_fields_t (List.getD a0.Ops (Int.toNat a1) default) a0.Parts)).toO] ⟨[(1, (iV a1)), (2, .mref 0), (3, .ptr 2 0), (7, .ptr 3 0), (24, (bo (!(graph_fields (List.getD a0.Ops (Int.toNat a1) default) a0.Parts))))], [(0, .mp (List.map SEdge.mkv a2)), (1, .fr [undef] [.pl 0 (pp 0)]), (2, .box (SGraph.avs a0) 41), (3, .box (SOp.avs (List.getD a0.Ops (Int.toNat a1) default)) 55)], 4⟩ (by kernel_rfl) ⟨⟨rfl, rfl⟩, trivial⟩ ?_
  refine go_cond (by rfl) (fun h3 => ?_) (fun h3 => ?_)
  ·have gh3 := h3
   try simp only [GZ] at gh3
   replace hx0 := condT h3 hx0
   refine go_seq ?_
   refine go_rk eqOk ttOk [] [] ⟨[(6, (iV 51))], [(0, .mp (List.map SEdge.mkv a2)), (1, .fr [undef] [.pl 0 (pp 0)])], 4⟩ (by kernel_rfl) trivial ?_
   subst hx0
   refine go_returnM [0] (by decide) ttOk rfl ?_ ?_ ?_ ?_
   ·exact (by (repeat' apply And.intro) <;> first | trivial | exact Nat.le_of_ble_eq_true rfl | omega | (simp only [NM]; omega) | (simp only [NM, List.length_replicate]; omega) | (simp; done))
   ·first | rfl | (simp only [NM, CELLS] <;> rfl) | (simp only [take_map_len, CELLS] <;> rfl) | (simp [sL, nS, iV, bo]; done) | (simp [sL, nS, iV, bo, AVS]; rw [List.take_of_length_le (by simp)])
   ·first | rfl | (simp only [NM, CELLS] <;> rfl) | (simp only [take_map_len, CELLS] <;> rfl) | (simp [sL, nS, iV, bo]; done) | (simp [sL, nS, iV, bo, AVS]; rw [List.take_of_length_le (by simp)])
   ·exact (by intro q hq; repeat (first | (cases hq; done) | (rcases List.mem_cons.1 hq with rfl | hq; exact ⟨rfl, 1, _, _, rfl, by repeat (first | exact List.mem_cons_self | apply List.mem_cons_of_mem)⟩)))
  ·have gh3 := h3
   try simp only [GZ] at gh3
   replace hx0 := condF h3 hx0
   refine go_seq ?_
   refine go_rk eqOk ttOk [(2, .fn ((graph_edges_t a0 a1 (by (try simp only [SZD]); (repeat' apply And.intro) <;> first | assumption | omega | (simp only [List.length_drop, List.length_take]; omega) | simp_all) (by (try simp only [SZD]); (repeat' apply And.intro) <;> first | assumption | omega | (simp only [List.length_drop, List.length_take]; omega) | simp_all) (by (try simp only [SZD]); (repeat' apply And.intro) <;> first | assumption | omega | (simp only [List.length_drop, List.length_take]; omega) | simp_all))).toO)] [AQ ((graph_edges_t a0 a1 (by (try simp only [SZD]); (repeat' apply And.intro) <;> first | assumption | omega | (simp only [List.length_drop, List.length_take]; omega) | simp_all) (by (try simp only [SZD]); (repeat' apply And.intro) <;> first | assumption | omega | (simp only [List.length_drop, List.length_take]; omega) | simp_all) (by (try simp only [SZD]); (repeat' apply And.intro) <;> first | assumption | omega | (simp only [List.length_drop, List.length_take]; omega) | simp_all))).toO] ⟨[(2, .mref 0), (7, .ptr 3 0), (30, (bo (!(graph_edges a0 a1))))], [(0, .mp (List.map SEdge.mkv a2)), (1, .fr [undef] [.pl 0 (pp 0)]), (3, .box (SOp.avs (List.getD a0.Ops (Int.toNat a1) default)) 55)], 4⟩ (by kernel_rfl) ⟨⟨rfl, rfl⟩, trivial⟩ ?_
   refine go_cond (by rfl) (fun h4 => ?_) (fun h4 => ?_)
   ·have gh4 := h4
    try simp only [GZ] at gh4
    replace hx0 := condT h4 hx0
    refine go_seq ?_
    refine go_rk eqOk ttOk [] [] ⟨[(6, (iV 52))], [(0, .mp (List.map SEdge.mkv a2)), (1, .fr [undef] [.pl 0 (pp 0)])], 4⟩ (by kernel_rfl) trivial ?_
    subst hx0
    refine go_returnM [0] (by decide) ttOk rfl ?_ ?_ ?_ ?_
    ·exact (by (repeat' apply And.intro) <;> first | trivial | exact Nat.le_of_ble_eq_true rfl | omega | (simp only [NM]; omega) | (simp only [NM, List.length_replicate]; omega) | (simp; done))
    ·first | rfl | (simp only [NM, CELLS] <;> rfl) | (simp only [take_map_len, CELLS] <;> rfl) | (simp [sL, nS, iV, bo]; done) | (simp [sL, nS, iV, bo, AVS]; rw [List.take_of_length_le (by simp)])
    ·first | rfl | (simp only [NM, CELLS] <;> rfl) | (simp only [take_map_len, CELLS] <;> rfl) | (simp [sL, nS, iV, bo]; done) | (simp [sL, nS, iV, bo, AVS]; rw [List.take_of_length_le (by simp)])
    ·exact (by intro q hq; repeat (first | (cases hq; done) | (rcases List.mem_cons.1 hq with rfl | hq; exact ⟨rfl, 1, _, _, rfl, by repeat (first | exact List.mem_cons_self | apply List.mem_cons_of_mem)⟩)))
   ·have gh4 := h4
    try simp only [GZ] at gh4
    replace hx0 := condF h4 hx0
    refine go_skip ?_
    refine go_blk ?_
    refine go_seq ?_
    refine go_seq ?_
    refine go_rk eqOk ttOk [(2, .tell (iV ((((List.getD a0.Ops (Int.toNat a1) default).In).length : Nat) : Int)))] [LN SEdge.cells ((List.getD a0.Ops (Int.toNat a1) default).In)] ⟨[(2, .mref 0), (36, (sL SEdge.cells ((List.getD a0.Ops (Int.toNat a1) default).In))), (37, (iV ((((List.getD a0.Ops (Int.toNat a1) default).In).length : Nat) : Int))), (38, (iV 0))], [(0, .mp (List.map SEdge.mkv a2)), (1, .fr [undef] [.pl 0 (pp 0)])], 4⟩ (by kernel_rfl) ⟨ln, trivial⟩ ?_
    obtain ⟨o5s, hx1, hx0⟩ := letIn_ex hx0
    refine go_joinE (fun p : List SEdge => ⟨[], [(0, .mp (List.map SEdge.mkv p)), (1, .fr [undef] [.pl 0 (pp 0)])], 2⟩) (fun p : List SEdge => o5s = Sum.inr p) ?_ ?_
    ·refine go_block ?_
     refine go_len (t := 36) rfl (fun hl17 => ?_)
     simp only [List.length_map, maxLen_eq] at hl17
     refine go_loop (fun p : Nat × (List SEdge) => ⟨[(2, .mref 0), (36, (sL SEdge.cells ((List.getD a0.Ops (Int.toNat a1) default).In))), (37, (iV ((((List.getD a0.Ops (Int.toNat a1) default).In).length : Nat) : Int))), (38, (iV ((p.1 : Nat) : Int)))], [(0, .mp (List.map SEdge.mkv p.2)), (1, .fr [undef] [.pl 0 (pp 0)])], 2⟩) (fun p : Nat × (List SEdge) => (p.1 ≤ ((List.getD a0.Ops (Int.toNat a1) default).In).length) ∧ graph_one_L0 a0 a1 p.1 p.2 = o5s) (fun p : Nat × (List SEdge) => ((List.getD a0.Ops (Int.toNat a1) default).In).length - p.1) (0, a2) ⟨(by first | trivial | omega | ((try dsimp only) <;> (repeat' apply And.intro) <;> first | trivial | omega | assumption | (simp; done))), hx1⟩ (Weak.cn [0, 1] [2, 36, 37, 38] rfl rfl rfl) ?_
     rintro ⟨x9, x10⟩ ⟨hi18, hx1⟩
     try dsimp only at hi18 hx1 ⊢
     rw [graph_one_L0.eq_def] at hx1
     refine go_seq ?_
     refine go_rk eqOk ttOk [] [] ⟨[(2, .mref 0), (36, (sL SEdge.cells ((List.getD a0.Ops (Int.toNat a1) default).In))), (37, (iV ((((List.getD a0.Ops (Int.toNat a1) default).In).length : Nat) : Int))), (38, (iV ((x9 : Nat) : Int))), (39, (bo (decide (((x9 : Nat) : Int) < ((((List.getD a0.Ops (Int.toNat a1) default).In).length : Nat) : Int)))))], [(0, .mp (List.map SEdge.mkv x10)), (1, .fr [undef] [.pl 0 (pp 0)])], 2⟩ (by kernel_rfl) trivial ?_
     refine go_seq ?_
     refine go_cond (by rfl) (fun h11 => ?_) (fun h11 => ?_)
     ·have gh11 := h11
      try simp only [GZ] at gh11
      replace hx1 := iteT h11 hx1
      refine go_skip ?_
      refine go_seq ?_
      refine go_block ?_
      refine go_seq ?_
      have bq19 : x9 < ((List.getD a0.Ops (Int.toNat a1) default).In).length := by omega
      refine go_rk eqOk ttOk [(0, .row (SEdge.cells (List.getD ((List.getD a0.Ops (Int.toNat a1) default).In) x9 default)))] [IX SEdge.cells ((List.getD a0.Ops (Int.toNat a1) default).In) ((x9 : Nat) : Int)] ⟨[(2, .mref 0), (9, .ptr 2 0), (36, (sL SEdge.cells ((List.getD a0.Ops (Int.toNat a1) default).In))), (37, (iV ((((List.getD a0.Ops (Int.toNat a1) default).In).length : Nat) : Int))), (38, (iV ((x9 : Nat) : Int)))], [(0, .mp (List.map SEdge.mkv x10)), (1, .fr [undef] [.pl 0 (pp 0)]), (2, .box (SEdge.avs (List.getD ((List.getD a0.Ops (Int.toNat a1) default).In) x9 default)) 78)], 3⟩ (by kernel_rfl) ⟨(ixn bq19), trivial⟩ ?_
      refine go_seq ?_
      refine go_seq ?_
      refine go_rk eqOk ttOk [(2, .mapLook (.bool (decide ((List.getD ((List.getD a0.Ops (Int.toNat a1) default).In) x9 default) ∈ x10))))] [KeyOk Try.prog 78 2, ZeroOk Try.prog 4 (.bool false), KS SEdge.mkv x10 (List.getD ((List.getD a0.Ops (Int.toNat a1) default).In) x9 default), LS SEdge.mkv x10 (List.getD ((List.getD a0.Ops (Int.toNat a1) default).In) x9 default)] ⟨[(2, .mref 0), (9, .ptr 2 0), (36, (sL SEdge.cells ((List.getD a0.Ops (Int.toNat a1) default).In))), (37, (iV ((((List.getD a0.Ops (Int.toNat a1) default).In).length : Nat) : Int))), (38, (iV ((x9 : Nat) : Int))), (44, (bo (decide ((List.getD ((List.getD a0.Ops (Int.toNat a1) default).In) x9 default) ∈ x10))))], [(0, .mp (List.map SEdge.mkv x10)), (1, .fr [undef] [.pl 0 (pp 0)]), (2, .box (SEdge.avs (List.getD ((List.getD a0.Ops (Int.toNat a1) default).In) x9 default)) 78)], 3⟩ (by kernel_rfl) ⟨keyOk78, zeroOk4, (ks SEdge.mkv (fun _ _ => rfl)), (ls SEdge.mkv (fun _ => rfl) (by intro x y h; cases x; cases y; simpa [SEdge.mkv] using h)), trivial⟩ ?_
      refine go_cond (by rfl) (fun h12 => ?_) (fun h12 => ?_)
      ·have gh12 := h12
       try simp only [GZ] at gh12
       replace hx1 := iteT h12 hx1
       refine go_seq ?_
       refine go_rk eqOk ttOk [] [] ⟨[(6, (iV 53))], [(0, .mp (List.map SEdge.mkv x10)), (1, .fr [undef] [.pl 0 (pp 0)])], 3⟩ (by kernel_rfl) trivial ?_
       subst hx1
       simp only [Sum.elim_inl] at hx0
       subst hx0
       refine go_returnM [0] (by decide) ttOk rfl ?_ ?_ ?_ ?_
       ·exact (by (repeat' apply And.intro) <;> first | trivial | exact Nat.le_of_ble_eq_true rfl | omega | (simp only [NM]; omega) | (simp only [NM, List.length_replicate]; omega) | (simp; done))
       ·first | rfl | (simp only [NM, CELLS] <;> rfl) | (simp only [take_map_len, CELLS] <;> rfl) | (simp [sL, nS, iV, bo]; done) | (simp [sL, nS, iV, bo, AVS]; rw [List.take_of_length_le (by simp)])
       ·first | rfl | (simp only [NM, CELLS] <;> rfl) | (simp only [take_map_len, CELLS] <;> rfl) | (simp [sL, nS, iV, bo]; done) | (simp [sL, nS, iV, bo, AVS]; rw [List.take_of_length_le (by simp)])
       ·exact (by intro q hq; repeat (first | (cases hq; done) | (rcases List.mem_cons.1 hq with rfl | hq; exact ⟨rfl, 1, _, _, rfl, by repeat (first | exact List.mem_cons_self | apply List.mem_cons_of_mem)⟩)))
      ·have gh12 := h12
       try simp only [GZ] at gh12
       replace hx1 := iteF h12 hx1
       refine go_skip ?_
       refine go_rk eqOk ttOk [(2, .mapPut (List.map SEdge.mkv (addS x10 (List.getD ((List.getD a0.Ops (Int.toNat a1) default).In) x9 default))))] [KeyOk Try.prog 78 2, KS SEdge.mkv x10 (List.getD ((List.getD a0.Ops (Int.toNat a1) default).In) x9 default), PS SEdge.mkv x10 (List.getD ((List.getD a0.Ops (Int.toNat a1) default).In) x9 default)] ⟨[(2, .mref 0), (36, (sL SEdge.cells ((List.getD a0.Ops (Int.toNat a1) default).In))), (37, (iV ((((List.getD a0.Ops (Int.toNat a1) default).In).length : Nat) : Int))), (38, (iV ((x9 : Nat) : Int)))], [(0, .mp (List.map SEdge.mkv (addS x10 (List.getD ((List.getD a0.Ops (Int.toNat a1) default).In) x9 default)))), (1, .fr [undef] [.pl 0 (pp 0)])], 3⟩ (by kernel_rfl) ⟨keyOk78, (ks SEdge.mkv (fun _ _ => rfl)), (ps SEdge.mkv (fun _ => rfl) (by intro x y h; cases x; cases y; simpa [SEdge.mkv] using h)), trivial⟩ ?_
       refine go_blk ?_
       refine go_rk eqOk ttOk [(0, .tell (iV ((x9 + 1 : Nat) : Int)))] [WR (((x9 : Nat) : Int) + 1) ((x9 + 1 : Nat) : Int)] ⟨[(2, .mref 0), (36, (sL SEdge.cells ((List.getD a0.Ops (Int.toNat a1) default).In))), (37, (iV ((((List.getD a0.Ops (Int.toNat a1) default).In).length : Nat) : Int))), (38, (iV ((x9 + 1 : Nat) : Int)))], [(0, .mp (List.map SEdge.mkv (addS x10 (List.getD ((List.getD a0.Ops (Int.toNat a1) default).In) x9 default)))), (1, .fr [undef] [.pl 0 (pp 0)])], 3⟩ (by kernel_rfl) ⟨(wr (by omega) (by omega) (by omega)), trivial⟩ ?_
       exact go_fin ⟨(x9 + 1, (addS x10 (List.getD ((List.getD a0.Ops (Int.toNat a1) default).In) x9 default))), ⟨(by first | trivial | omega | ((try dsimp only) <;> (repeat' apply And.intro) <;> first | trivial | omega | assumption | (simp; done))), hx1⟩, by first | omega | (dsimp only; omega), (Weak.cn [0, 1] [2, 36, 37, 38] rfl rfl rfl)⟩
     ·have gh11 := h11
      try simp only [GZ] at gh11
      replace hx1 := iteF h11 hx1
      refine go_exit rfl ?_
      exact go_fin ⟨x10, hx1.symm, (Weak.cn [0, 1] [] rfl rfl rfl)⟩
    ·rintro o5 hp
     try dsimp only at hp
     subst hp
     simp only [Sum.elim_inr] at hx0
     refine go_seq ?_
     refine go_rk eqOk ttOk [] [] ⟨[(6, (iV 0))], [(0, .mp (List.map SEdge.mkv o5)), (1, .fr [undef] [.pl 0 (pp 0)])], 2⟩ (by kernel_rfl) trivial ?_
     subst hx0
     refine go_returnM [0] (by decide) ttOk rfl ?_ ?_ ?_ ?_
     ·exact (by (repeat' apply And.intro) <;> first | trivial | exact Nat.le_of_ble_eq_true rfl | omega | (simp only [NM]; omega) | (simp only [NM, List.length_replicate]; omega) | (simp; done))
     ·first | rfl | (simp only [NM, CELLS] <;> rfl) | (simp only [take_map_len, CELLS] <;> rfl) | (simp [sL, nS, iV, bo]; done) | (simp [sL, nS, iV, bo, AVS]; rw [List.take_of_length_le (by simp)])
     ·first | rfl | (simp only [NM, CELLS] <;> rfl) | (simp only [take_map_len, CELLS] <;> rfl) | (simp [sL, nS, iV, bo]; done) | (simp [sL, nS, iV, bo, AVS]; rw [List.take_of_length_le (by simp)])
     ·exact (by intro q hq; repeat (first | (cases hq; done) | (rcases List.mem_cons.1 hq with rfl | hq; exact ⟨rfl, 1, _, _, rfl, by repeat (first | exact List.mem_cons_self | apply List.mem_cons_of_mem)⟩)))
theorem graph_one_fields (a0 : SGraph) (n : Nat) (a2 : List SEdge) (h : (graph_one a0 (n : Int) a2).1 = 0) : graph_fields (List.getD a0.Ops n default) a0.Parts = true := by
  unfold graph_one at h
  simp only [Int.toNat_natCast] at h
  cases h1 : ((decide ((List.getD a0.Ops n default).Kind < 1)) || (decide ((List.getD a0.Ops n default).Kind > 9))) with
  | true => rw [h1] at h; simp at h
  | false =>
    rw [h1] at h
    cases h2 : graph_fields (List.getD a0.Ops n default) a0.Parts with
    | true => rfl
    | false => rw [h2] at h; simp at h
def graph_Check_c1 (a0 : Int) : Bool :=
  (a0 != 1)
set_option maxRecDepth 10000 in
set_option maxHeartbeats 8000000 in
theorem graph_Check_c1_t (a0 : Int) : FnP Try.prog 102 [(iV a0)] ((bo (graph_Check_c1 a0))) := by
 refine FnP.intro (tt := tt) Try.func102 rfl (by kernel_rfl) (by simp [Try.ntmps102]) fun w0 A hA => ?_
 have hR := reckB_ok eqOk ttOk
 obtain ⟨res, hx0⟩ : ∃ r, graph_Check_c1 a0 = r := ⟨_, rfl⟩
 simp only [hx0]
 unfold graph_Check_c1 at hx0
 simp only [argT, Try.ntmps102]
 refine go_seq ?_
 refine go_rk eqOk ttOk [] [] ⟨[(0, (iV a0))], [], 0⟩ (by kernel_rfl) trivial ?_
 refine go_seq ?_
 refine go_rk eqOk ttOk [] [] ⟨[(2, (bo (a0 != 1)))], [], 0⟩ (by kernel_rfl) trivial ?_
 subst hx0
 exact go_ret1 rfl
def graph_Check_L0 (a0 : SGraph) (x9 : Nat) (x10 : List SEdge) : Sum (Int × Int) (List SEdge) :=
  (if h11 : (decide (((x9 : Nat) : Int) < ((a0.Ops.length : Nat) : Int))) = true then letIn (graph_one a0 ((x9 : Nat) : Int) x10) fun r12 => (if h13 : (r12.1 != 0) = true then (Sum.inl (((x9 : Nat) : Int), r12.1)) else (graph_Check_L0 a0 (x9 + 1) r12.2)) else (Sum.inr x10))
termination_by a0.Ops.length - x9
decreasing_by all_goals (try simp only [GZ] at *) <;> omega
def graph_Check_L2 (a0 : SGraph) (o4 : List SEdge) (x45 : Bool) (x46 : Nat) (x48 : Nat) (o51 : Nat × (List Int)) (x58 : Nat) : Nat × Nat × Bool × (List Int) :=
  (if h59 : (decide (((x58 : Nat) : Int) < (graph_Ports (List.getD a0.Ops x46 default)))) = true then (if h60 : x45 = true then (o51.1, x48, x45, o51.2) else (if h61 : (!(decide ((SEdge.mk ((x46 : Nat) : Int) ((x58 : Nat) : Int)) ∈ o4))) = true then (o51.1, x46, true, o51.2) else (graph_Check_L2 a0 o4 x45 x46 x48 o51 (x58 + 1)))) else (o51.1, x48, x45, o51.2))
termination_by (Int.toNat (graph_Ports (List.getD a0.Ops x46 default))) - x58
decreasing_by all_goals (try simp only [GZ] at *) <;> omega
def graph_Check_L1 (a0 : SGraph) (o4 : List SEdge) (x44 : Nat) (x45 : Bool) (x46 : Nat) (x47 : List Int) (x48 : Nat) : Nat × Nat × Bool × (List Int) :=
  (if h49 : (decide (((x46 : Nat) : Int) < ((a0.Ops.length : Nat) : Int))) = true then letIn (letIn ((if h52 : ((List.getD a0.Ops x46 default).Kind == 1) = true then (x44, (List.set x47 (Int.toNat ((List.getD a0.Ops x46 default).Part)) (IntKind.i64.wrap ((List.getD x47 (Int.toNat ((List.getD a0.Ops x46 default).Part)) default) + 1)))) else (if h53 : ((List.getD a0.Ops x46 default).Kind == 9) = true then (x44 + 1, x47) else (x44, x47)))) fun o51 => graph_Check_L2 a0 o4 x45 x46 x48 o51 0) fun o50 => (graph_Check_L1 a0 o4 o50.1 o50.2.2.1 (x46 + 1) o50.2.2.2 o50.2.1) else (x44, x48, x45, x47))
termination_by a0.Ops.length - x46
decreasing_by all_goals (try simp only [GZ] at *) <;> omega
def graph_Check (a0 : SGraph) : Int × Int :=
  (bif ((decide (a0.Parts < 1)) || (decide (a0.Parts > 4))) then (0, 1) else (bif (decide (((a0.Ops.length : Nat) : Int) > 24)) then (0, 3) else letIn (graph_Check_L0 a0 0 []) fun o4s => Sum.elim (fun q => q) (fun o4 => letIn (graph_Check_L1 a0 o4 0 false 0 (List.replicate (Int.toNat a0.Parts) 0) 0) fun o14 => (bif o14.2.2.1 then (((o14.2.1 : Nat) : Int), 54) else (bif (slices_ContainsFunc_int o14.2.2.2 graph_Check_c1) then (0, 55) else (bif (((o14.1 : Nat) : Int) != 1) then (0, 56) else (0, 0))))) o4s))
set_option maxRecDepth 10000 in
set_option maxHeartbeats 8000000 in
theorem graph_Check_t (a0 : SGraph) (z0 : SGraph.Sz a0) : FnP Try.prog 75 [.agg (SGraph.avs a0)] (.tup [(iV ((graph_Check a0).1)), (iV ((graph_Check a0).2))]) := by
 refine FnP.intro (tt := tt) Try.func75 rfl (by kernel_rfl) (by simp [Try.ntmps75]) fun w0 A hA => ?_
 have hR := reckB_ok eqOk ttOk
 obtain ⟨res, hx0⟩ : ∃ r, graph_Check a0 = r := ⟨_, rfl⟩
 simp only [hx0]
 unfold graph_Check at hx0
 simp only [argT, Try.ntmps75]
 try simp only [SZD] at z0
 obtain ⟨zz65, zz66⟩ := z0
 refine go_seq ?_
 refine go_rk eqOk ttOk [] [] ⟨[(1, .ptr 0 0)], [(0, .box (SGraph.avs a0) 41)], 1⟩ (by kernel_rfl) trivial ?_
 refine go_scope (fun _ _ _ h => h) ?_
 refine go_seq ?_
 refine go_block ?_
 refine go_seq ?_
 refine go_rk eqOk ttOk [] [] ⟨[(1, .ptr 0 0), (14, (bo ((decide (a0.Parts < 1)) || (decide (a0.Parts > 4)))))], [(0, .box (SGraph.avs a0) 41)], 1⟩ (by kernel_rfl) trivial ?_
 refine go_cond (by rfl) (fun h2 => ?_) (fun h2 => ?_)
 ·have gh2 := h2
  try simp only [GZ] at gh2
  replace hx0 := condT h2 hx0
  refine go_seq ?_
  refine go_rk eqOk ttOk [] [] ⟨[(2, (iV 0)), (3, (iV 1))], [], 1⟩ (by kernel_rfl) trivial ?_
  subst hx0
  exact go_ret1 rfl
 ·have gh2 := h2
  try simp only [GZ] at gh2
  replace hx0 := condF h2 hx0
  refine go_seq ?_
  refine go_rk eqOk ttOk [(2, .tell (iV ((a0.Ops.length : Nat) : Int)))] [LN SOp.cells a0.Ops] ⟨[(1, .ptr 0 0), (23, (bo (decide (((a0.Ops.length : Nat) : Int) > 24))))], [(0, .box (SGraph.avs a0) 41)], 1⟩ (by kernel_rfl) ⟨ln, trivial⟩ ?_
  refine go_cond (by rfl) (fun h3 => ?_) (fun h3 => ?_)
  ·have gh3 := h3
   try simp only [GZ] at gh3
   replace hx0 := condT h3 hx0
   refine go_seq ?_
   refine go_rk eqOk ttOk [] [] ⟨[(2, (iV 0)), (3, (iV 3))], [], 1⟩ (by kernel_rfl) trivial ?_
   subst hx0
   exact go_ret1 rfl
  ·have gh3 := h3
   try simp only [GZ] at gh3
   replace hx0 := condF h3 hx0
   refine go_skip ?_
   refine go_blk ?_
   refine go_seq ?_
   refine go_rk eqOk ttOk [(0, .mapNew)] [] ⟨[(1, .ptr 0 0), (4, .mref 1)], [(0, .box (SGraph.avs a0) 41), (1, .mp (List.map SEdge.mkv []))], 2⟩ (by kernel_rfl) trivial ?_
   refine go_seq ?_
   refine go_seq ?_
   refine go_rk eqOk ttOk [(2, .tell (iV ((a0.Ops.length : Nat) : Int)))] [LN SOp.cells a0.Ops] ⟨[(1, .ptr 0 0), (4, .mref 1), (31, (iV ((a0.Ops.length : Nat) : Int))), (32, (iV 0))], [(0, .box (SGraph.avs a0) 41), (1, .mp (List.map SEdge.mkv []))], 2⟩ (by kernel_rfl) ⟨ln, trivial⟩ ?_
   obtain ⟨o4s, hx1, hx0⟩ := letIn_ex hx0
   refine go_joinE (fun p : List SEdge => ⟨[(1, .ptr 0 0), (4, .mref 1)], [(0, .box (SGraph.avs a0) 41), (1, .mp (List.map SEdge.mkv p))], 2⟩) (fun p : List SEdge => o4s = Sum.inr p ∧ (∀ j, j < a0.Ops.length → graph_fields (List.getD a0.Ops j default) a0.Parts = true)) ?_ ?_
   ·refine go_block ?_
    refine go_lenB (b := 0) rfl 1 rfl (fun hl67 => ?_)
    simp only [List.length_map, maxLen_eq] at hl67
    refine go_loop (fun p : Nat × (List SEdge) => ⟨[(1, .ptr 0 0), (4, .mref 1), (31, (iV ((a0.Ops.length : Nat) : Int))), (32, (iV ((p.1 : Nat) : Int)))], [(0, .box (SGraph.avs a0) 41), (1, .mp (List.map SEdge.mkv p.2))], 2⟩) (fun p : Nat × (List SEdge) => (p.1 ≤ a0.Ops.length ∧ ∀ j, j < p.1 → graph_fields (List.getD a0.Ops j default) a0.Parts = true) ∧ graph_Check_L0 a0 p.1 p.2 = o4s) (fun p : Nat × (List SEdge) => a0.Ops.length - p.1) (0, []) ⟨⟨Nat.zero_le _, fun j hj => absurd hj (Nat.not_lt_zero _)⟩, hx1⟩ (Weak.cn [0, 1] [1, 4, 31, 32] rfl rfl rfl) ?_
    rintro ⟨x9, x10⟩ ⟨hi68, hx1⟩
    try dsimp only at hi68 hx1 ⊢
    rw [graph_Check_L0.eq_def] at hx1
    refine go_seq ?_
    refine go_rk eqOk ttOk [] [] ⟨[(1, .ptr 0 0), (4, .mref 1), (31, (iV ((a0.Ops.length : Nat) : Int))), (32, (iV ((x9 : Nat) : Int))), (33, (bo (decide (((x9 : Nat) : Int) < ((a0.Ops.length : Nat) : Int)))))], [(0, .box (SGraph.avs a0) 41), (1, .mp (List.map SEdge.mkv x10))], 2⟩ (by kernel_rfl) trivial ?_
    refine go_seq ?_
    refine go_cond (by rfl) (fun h11 => ?_) (fun h11 => ?_)
    ·have gh11 := h11
     try simp only [GZ] at gh11
     replace hx1 := iteT h11 hx1
     refine go_skip ?_
     refine go_seq ?_
     refine go_block ?_
     refine go_seq ?_
     refine go_rk eqOk ttOk [] [] ⟨[(1, .ptr 0 0), (4, .mref 1), (5, (iV ((x9 : Nat) : Int))), (31, (iV ((a0.Ops.length : Nat) : Int))), (32, (iV ((x9 : Nat) : Int)))], [(0, .box (SGraph.avs a0) 41), (1, .mp (List.map SEdge.mkv x10))], 2⟩ (by kernel_rfl) trivial ?_
     refine go_seq ?_
     obtain ⟨r12, hr12, hx1⟩ := letIn_ex hx1
     have Cr12 := (graph_one_t a0 ((x9 : Nat) : Int) x10 (by (try simp only [SZD]); (repeat' apply And.intro) <;> first | assumption | omega | (simp only [List.length_drop, List.length_take]; omega) | simp_all) (by (try simp only [SZD]); (repeat' apply And.intro) <;> first | assumption | omega | (simp only [List.length_drop, List.length_take]; omega) | simp_all) (by (try simp only [SZD]); (repeat' apply And.intro) <;> first | assumption | omega | (simp only [List.length_drop, List.length_take]; omega) | simp_all))
     simp only [hr12] at Cr12
     refine go_rk eqOk ttOk [(3, .mu Cr12 [1])] [AM Cr12] ⟨[(1, .ptr 0 0), (4, .mref 1), (5, (iV ((x9 : Nat) : Int))), (6, (iV r12.1)), (31, (iV ((a0.Ops.length : Nat) : Int))), (32, (iV ((x9 : Nat) : Int)))], [(0, .box (SGraph.avs a0) 41), (1, .mp (List.map SEdge.mkv r12.2))], 2⟩ (by kernel_rfl) ⟨⟨rfl, rfl, rfl⟩, trivial⟩ ?_
     refine go_seq ?_
     refine go_rk eqOk ttOk [] [] ⟨[(1, .ptr 0 0), (4, .mref 1), (5, (iV ((x9 : Nat) : Int))), (6, (iV r12.1)), (31, (iV ((a0.Ops.length : Nat) : Int))), (32, (iV ((x9 : Nat) : Int))), (40, (bo (r12.1 != 0)))], [(0, .box (SGraph.avs a0) 41), (1, .mp (List.map SEdge.mkv r12.2))], 2⟩ (by kernel_rfl) trivial ?_
     refine go_cond (by rfl) (fun h13 => ?_) (fun h13 => ?_)
     ·have gh13 := h13
      try simp only [GZ] at gh13
      replace hx1 := iteT h13 hx1
      refine go_seq ?_
      refine go_rk eqOk ttOk [] [] ⟨[(2, (iV ((x9 : Nat) : Int))), (3, (iV r12.1))], [], 2⟩ (by kernel_rfl) trivial ?_
      subst hx1
      simp only [Sum.elim_inl] at hx0
      subst hx0
      exact go_ret1 rfl
     ·have gh13 := h13
      try simp only [GZ] at gh13
      replace hx1 := iteF h13 hx1
      refine go_skip ?_
      refine go_blk ?_
      refine go_rk eqOk ttOk [(0, .tell (iV ((x9 + 1 : Nat) : Int)))] [WR (((x9 : Nat) : Int) + 1) ((x9 + 1 : Nat) : Int)] ⟨[(1, .ptr 0 0), (4, .mref 1), (31, (iV ((a0.Ops.length : Nat) : Int))), (32, (iV ((x9 + 1 : Nat) : Int)))], [(0, .box (SGraph.avs a0) 41), (1, .mp (List.map SEdge.mkv r12.2))], 2⟩ (by kernel_rfl) ⟨(wr (by omega) (by omega) (by omega)), trivial⟩ ?_
      exact go_fin ⟨(x9 + 1, r12.2), ⟨⟨by (try dsimp only); omega, fun j hj => by (rcases Nat.lt_succ_iff_lt_or_eq.1 hj with hj | rfl; exact hi68.2 j hj; exact graph_one_fields a0 _ x10 (by rw [hr12]; simpa using h13))⟩, hx1⟩, by first | omega | (dsimp only; omega), (Weak.cn [0, 1] [1, 4, 31, 32] rfl rfl rfl)⟩
    ·have gh11 := h11
     try simp only [GZ] at gh11
     replace hx1 := iteF h11 hx1
     refine go_exit rfl ?_
     exact go_fin ⟨x10, ⟨hx1.symm, fun j hj => hi68.2 j (by omega)⟩, (Weak.cn [0, 1] [1, 4] rfl rfl rfl)⟩
   ·rintro o4 ⟨hp, hqo4⟩
    try dsimp only at hqo4
    try dsimp only at hp
    subst hp
    simp only [Sum.elim_inr] at hx0
    refine go_seq ?_
    refine go_rk eqOk ttOk [(2, .mk (List.map cI64 (List.replicate (Int.toNat a0.Parts) 0)) (Int.toNat a0.Parts))] [(a0.Parts : Int) = a0.Parts, MX 8 a0.Parts cI64 0 (Int.toNat a0.Parts)] ⟨[(1, .ptr 0 0), (4, .mref 1), (7, .own 2 1 0 (Int.toNat a0.Parts))], [(0, .box (SGraph.avs a0) 41), (1, .mp (List.map SEdge.mkv o4)), (2, .acc 1 (List.map cI64 (List.replicate (Int.toNat a0.Parts) 0)) 3)], 3⟩ (by kernel_rfl) ⟨rfl, (mxi (by decide) (by omega) (by omega)), trivial⟩ ?_
    refine go_seq ?_
    refine go_rk eqOk ttOk [] [] ⟨[(1, .ptr 0 0), (4, .mref 1), (7, .own 2 1 0 (Int.toNat a0.Parts)), (8, (iV 0))], [(0, .box (SGraph.avs a0) 41), (1, .mp (List.map SEdge.mkv o4)), (2, .acc 1 (List.map cI64 (List.replicate (Int.toNat a0.Parts) 0)) 3)], 3⟩ (by kernel_rfl) trivial ?_
    refine go_seq ?_
    refine go_rk eqOk ttOk [] [] ⟨[(1, .ptr 0 0), (4, .mref 1), (7, .own 2 1 0 (Int.toNat a0.Parts)), (8, (iV 0)), (9, (iV 0)), (10, (bo false))], [(0, .box (SGraph.avs a0) 41), (1, .mp (List.map SEdge.mkv o4)), (2, .acc 1 (List.map cI64 (List.replicate (Int.toNat a0.Parts) 0)) 3)], 3⟩ (by kernel_rfl) trivial ?_
    refine go_seq ?_
    refine go_label ?_
    refine go_seq ?_
    refine go_seq ?_
    refine go_rk eqOk ttOk [(2, .tell (iV ((a0.Ops.length : Nat) : Int)))] [LN SOp.cells a0.Ops] ⟨[(4, .mref 1), (7, .own 2 1 0 (Int.toNat a0.Parts)), (8, (iV 0)), (9, (iV 0)), (10, (bo false)), (48, (sL SOp.cells a0.Ops)), (49, (iV ((a0.Ops.length : Nat) : Int))), (50, (iV 0))], [(1, .mp (List.map SEdge.mkv o4)), (2, .acc 1 (List.map cI64 (List.replicate (Int.toNat a0.Parts) 0)) 3)], 3⟩ (by kernel_rfl) ⟨ln, trivial⟩ ?_
    obtain ⟨o14, hx1, hx0⟩ := letIn_ex hx0
    refine go_joinE (fun p : Nat × Nat × Bool × (List Int) => ⟨[(7, .own 0 1 0 p.2.2.2.length), (8, (iV ((p.1 : Nat) : Int))), (9, (iV ((p.2.1 : Nat) : Int))), (10, (bo p.2.2.1))], [(0, .acc 1 (List.map cI64 p.2.2.2) 3)], 1⟩) (fun p : Nat × Nat × Bool × (List Int) => o14 = p) ?_ ?_
    ·refine go_block ?_
     refine go_len (t := 48) rfl (fun hl69 => ?_)
     simp only [List.length_map, maxLen_eq] at hl69
     refine go_loop (fun p : Nat × Bool × Nat × (List Int) × Nat => ⟨[(4, .mref 0), (7, .own 1 1 0 p.2.2.2.1.length), (8, (iV ((p.1 : Nat) : Int))), (9, (iV ((p.2.2.2.2 : Nat) : Int))), (10, (bo p.2.1)), (48, (sL SOp.cells a0.Ops)), (49, (iV ((a0.Ops.length : Nat) : Int))), (50, (iV ((p.2.2.1 : Nat) : Int)))], [(0, .mp (List.map SEdge.mkv o4)), (1, .acc 1 (List.map cI64 p.2.2.2.1) 3)], 2⟩) (fun p : Nat × Bool × Nat × (List Int) × Nat => (p.2.2.1 ≤ a0.Ops.length ∧ p.1 ≤ p.2.2.1 ∧ p.2.2.2.1.length = Int.toNat a0.Parts) ∧ graph_Check_L1 a0 o4 p.1 p.2.1 p.2.2.1 p.2.2.2.1 p.2.2.2.2 = o14) (fun p : Nat × Bool × Nat × (List Int) × Nat => a0.Ops.length - p.2.2.1) (0, false, 0, (List.replicate (Int.toNat a0.Parts) 0), 0) ⟨(by first | trivial | omega | ((try dsimp only) <;> (repeat' apply And.intro) <;> first | trivial | omega | assumption | (simp; done))), hx1⟩ (Weak.cn [1, 2] [4, 7, 8, 9, 10, 48, 49, 50] rfl rfl rfl) ?_
     rintro ⟨x44, x45, x46, x47, x48⟩ ⟨hi70, hx1⟩
     try dsimp only at hi70 hx1 ⊢
     rw [graph_Check_L1.eq_def] at hx1
     have hF : x46 < a0.Ops.length → (List.getD a0.Ops x46 default).Kind = 1 → 0 ≤ (List.getD a0.Ops x46 default).Part ∧ (List.getD a0.Ops x46 default).Part < a0.Parts := fun h1 h2 => fields_part _ _ (hqo4 _ h1) h2
     refine go_seq ?_
     refine go_rk eqOk ttOk [] [] ⟨[(4, .mref 0), (7, .own 1 1 0 x47.length), (8, (iV ((x44 : Nat) : Int))), (9, (iV ((x48 : Nat) : Int))), (10, (bo x45)), (48, (sL SOp.cells a0.Ops)), (49, (iV ((a0.Ops.length : Nat) : Int))), (50, (iV ((x46 : Nat) : Int))), (51, (bo (decide (((x46 : Nat) : Int) < ((a0.Ops.length : Nat) : Int)))))], [(0, .mp (List.map SEdge.mkv o4)), (1, .acc 1 (List.map cI64 x47) 3)], 2⟩ (by kernel_rfl) trivial ?_
     refine go_seq ?_
     refine go_cond (by rfl) (fun h49 => ?_) (fun h49 => ?_)
     ·have gh49 := h49
      try simp only [GZ] at gh49
      replace hx1 := iteT h49 hx1
      refine go_skip ?_
      refine go_seq ?_
      obtain ⟨o50, hx2, hx1⟩ := letIn_ex hx1
      refine go_joinE (fun p : Nat × Nat × Bool × (List Int) => ⟨[(4, .mref 0), (7, .own 1 1 0 p.2.2.2.length), (8, (iV ((p.1 : Nat) : Int))), (9, (iV ((p.2.1 : Nat) : Int))), (10, (bo p.2.2.1)), (48, (sL SOp.cells a0.Ops)), (49, (iV ((a0.Ops.length : Nat) : Int))), (50, (iV ((x46 : Nat) : Int)))], [(0, .mp (List.map SEdge.mkv o4)), (1, .acc 1 (List.map cI64 p.2.2.2) 3)], 2⟩) (fun p : Nat × Nat × Bool × (List Int) => o50 = p ∧ (p.1 ≤ x44 + 1 ∧ p.2.2.2.length = Int.toNat a0.Parts)) ?_ ?_
      ·refine go_block ?_
       refine go_seq ?_
       have bq71 : x46 < a0.Ops.length := by omega
       have zq71 : ((List.getD a0.Ops x46 default).In).length ≤ 4294967296 := (by assumption : ∀ y ∈ a0.Ops, y.In.length ≤ 4294967296) _ (getD_mem a0.Ops x46 default bq71)
       refine go_rk eqOk ttOk [(1, .row (SOp.cells (List.getD a0.Ops x46 default)))] [IX SOp.cells a0.Ops ((x46 : Nat) : Int)] ⟨[(4, .mref 0), (7, .own 1 1 0 x47.length), (8, (iV ((x44 : Nat) : Int))), (9, (iV ((x48 : Nat) : Int))), (10, (bo x45)), (11, (iV ((x46 : Nat) : Int))), (12, .ptr 2 0), (48, (sL SOp.cells a0.Ops)), (49, (iV ((a0.Ops.length : Nat) : Int))), (50, (iV ((x46 : Nat) : Int)))], [(0, .mp (List.map SEdge.mkv o4)), (1, .acc 1 (List.map cI64 x47) 3), (2, .box (SOp.avs (List.getD a0.Ops x46 default)) 55)], 3⟩ (by kernel_rfl) ⟨(ixn bq71), trivial⟩ ?_
       refine go_seq ?_
       refine go_seq ?_
       refine go_rk eqOk ttOk [] [] ⟨[(4, .mref 0), (7, .own 1 1 0 x47.length), (8, (iV ((x44 : Nat) : Int))), (9, (iV ((x48 : Nat) : Int))), (10, (bo x45)), (11, (iV ((x46 : Nat) : Int))), (12, .ptr 2 0), (48, (sL SOp.cells a0.Ops)), (49, (iV ((a0.Ops.length : Nat) : Int))), (50, (iV ((x46 : Nat) : Int))), (56, (iV ((List.getD a0.Ops x46 default).Kind)))], [(0, .mp (List.map SEdge.mkv o4)), (1, .acc 1 (List.map cI64 x47) 3), (2, .box (SOp.avs (List.getD a0.Ops x46 default)) 55)], 3⟩ (by kernel_rfl) trivial ?_
       obtain ⟨o51, hx3, hx2⟩ := letIn_ex hx2
       refine go_joinE (fun p : Nat × (List Int) => ⟨[(4, .mref 0), (7, .own 1 1 0 p.2.length), (8, (iV ((p.1 : Nat) : Int))), (9, (iV ((x48 : Nat) : Int))), (10, (bo x45)), (11, (iV ((x46 : Nat) : Int))), (12, .ptr 2 0), (48, (sL SOp.cells a0.Ops)), (49, (iV ((a0.Ops.length : Nat) : Int))), (50, (iV ((x46 : Nat) : Int)))], [(0, .mp (List.map SEdge.mkv o4)), (1, .acc 1 (List.map cI64 p.2) 3), (2, .box (SOp.avs (List.getD a0.Ops x46 default)) 55)], 3⟩) (fun p : Nat × (List Int) => o51 = p ∧ (p.1 ≤ x44 + 1 ∧ p.2.length = Int.toNat a0.Parts)) ?_ ?_
       ·refine go_block ?_
        refine go_seq ?_
        refine go_rk eqOk ttOk [] [] ⟨[(4, .mref 0), (7, .own 1 1 0 x47.length), (8, (iV ((x44 : Nat) : Int))), (9, (iV ((x48 : Nat) : Int))), (10, (bo x45)), (11, (iV ((x46 : Nat) : Int))), (12, .ptr 2 0), (48, (sL SOp.cells a0.Ops)), (49, (iV ((a0.Ops.length : Nat) : Int))), (50, (iV ((x46 : Nat) : Int))), (56, (iV ((List.getD a0.Ops x46 default).Kind))), (57, (bo ((List.getD a0.Ops x46 default).Kind == 1)))], [(0, .mp (List.map SEdge.mkv o4)), (1, .acc 1 (List.map cI64 x47) 3), (2, .box (SOp.avs (List.getD a0.Ops x46 default)) 55)], 3⟩ (by kernel_rfl) trivial ?_
        refine go_cond (by rfl) (fun h52 => ?_) (fun h52 => ?_)
        ·have gh52 := h52
         try simp only [GZ] at gh52
         replace hx3 := iteT h52 hx3
         refine go_rk eqOk ttOk [(3, .at), (4, .row (cI64 (List.getD x47 (Int.toNat ((List.getD a0.Ops x46 default).Part)) default))), (6, .at), (7, .put (cI64 (List.getD x47 (Int.toNat ((List.getD a0.Ops x46 default).Part)) default)) (List.map cI64 (List.set x47 (Int.toNat ((List.getD a0.Ops x46 default).Part)) (IntKind.i64.wrap ((List.getD x47 (Int.toNat ((List.getD a0.Ops x46 default).Part)) default) + 1)))))] [IxO ((List.getD a0.Ops x46 default).Part) x47.length, RX cI64 x47 (Int.toNat ((List.getD a0.Ops x46 default).Part)), IxO ((List.getD a0.Ops x46 default).Part) x47.length, RX cI64 x47 (Int.toNat ((List.getD a0.Ops x46 default).Part)), PX cI64 x47 (Int.toNat ((List.getD a0.Ops x46 default).Part)) (cI64 (IntKind.i64.wrap ((List.getD x47 (Int.toNat ((List.getD a0.Ops x46 default).Part)) default) + 1))) (IntKind.i64.wrap ((List.getD x47 (Int.toNat ((List.getD a0.Ops x46 default).Part)) default) + 1))] ⟨[(4, .mref 0), (7, .own 1 1 0 x47.length), (8, (iV ((x44 : Nat) : Int))), (9, (iV ((x48 : Nat) : Int))), (10, (bo x45)), (11, (iV ((x46 : Nat) : Int))), (12, .ptr 2 0), (48, (sL SOp.cells a0.Ops)), (49, (iV ((a0.Ops.length : Nat) : Int))), (50, (iV ((x46 : Nat) : Int)))], [(0, .mp (List.map SEdge.mkv o4)), (1, .acc 1 (List.map cI64 (List.set x47 (Int.toNat ((List.getD a0.Ops x46 default).Part)) (IntKind.i64.wrap ((List.getD x47 (Int.toNat ((List.getD a0.Ops x46 default).Part)) default) + 1)))) 3), (2, .box (SOp.avs (List.getD a0.Ops x46 default)) 55)], 3⟩ (by kernel_rfl) ⟨(ixoI (by omega) (by (try simp only [NM, List.length_set, List.length_replicate]); omega)), (rx (by (try simp only [NM, List.length_set, List.length_replicate]); omega)), (ixoI (by omega) (by (try simp only [NM, List.length_set, List.length_replicate]); omega)), (rx (by (try simp only [NM, List.length_set, List.length_replicate]); omega)), px, trivial⟩ ?_
         refine go_blk ?_
         exact go_fin ⟨(x44, (List.set x47 (Int.toNat ((List.getD a0.Ops x46 default).Part)) (IntKind.i64.wrap ((List.getD x47 (Int.toNat ((List.getD a0.Ops x46 default).Part)) default) + 1)))), ⟨hx3.symm, by first | omega | (dsimp only; omega) | (simp only [List.length_nil, List.length_set, List.length_replicate, List.length_append, List.length_take, List.length_cons]; omega)⟩, (Weak.cn [0, 1, 2] [4, 7, 8, 9, 10, 11, 12, 48, 49, 50] rfl rfl rfl)⟩
        ·have gh52 := h52
         try simp only [GZ] at gh52
         replace hx3 := iteF h52 hx3
         refine go_seq ?_
         refine go_rk eqOk ttOk [] [] ⟨[(4, .mref 0), (7, .own 1 1 0 x47.length), (8, (iV ((x44 : Nat) : Int))), (9, (iV ((x48 : Nat) : Int))), (10, (bo x45)), (11, (iV ((x46 : Nat) : Int))), (12, .ptr 2 0), (48, (sL SOp.cells a0.Ops)), (49, (iV ((a0.Ops.length : Nat) : Int))), (50, (iV ((x46 : Nat) : Int))), (66, (bo ((List.getD a0.Ops x46 default).Kind == 9)))], [(0, .mp (List.map SEdge.mkv o4)), (1, .acc 1 (List.map cI64 x47) 3), (2, .box (SOp.avs (List.getD a0.Ops x46 default)) 55)], 3⟩ (by kernel_rfl) trivial ?_
         refine go_cond (by rfl) (fun h53 => ?_) (fun h53 => ?_)
         ·have gh53 := h53
          try simp only [GZ] at gh53
          replace hx3 := iteT h53 hx3
          refine go_rk eqOk ttOk [(1, .tell (iV ((x44 + 1 : Nat) : Int)))] [WR (((x44 : Nat) : Int) + 1) ((x44 + 1 : Nat) : Int)] ⟨[(4, .mref 0), (7, .own 1 1 0 x47.length), (8, (iV ((x44 + 1 : Nat) : Int))), (9, (iV ((x48 : Nat) : Int))), (10, (bo x45)), (11, (iV ((x46 : Nat) : Int))), (12, .ptr 2 0), (48, (sL SOp.cells a0.Ops)), (49, (iV ((a0.Ops.length : Nat) : Int))), (50, (iV ((x46 : Nat) : Int)))], [(0, .mp (List.map SEdge.mkv o4)), (1, .acc 1 (List.map cI64 x47) 3), (2, .box (SOp.avs (List.getD a0.Ops x46 default)) 55)], 3⟩ (by kernel_rfl) ⟨(wr (by omega) (by omega) (by omega)), trivial⟩ ?_
          refine go_blk ?_
          exact go_fin ⟨(x44 + 1, x47), ⟨hx3.symm, by first | omega | (dsimp only; omega) | (simp only [List.length_nil, List.length_set, List.length_replicate, List.length_append, List.length_take, List.length_cons]; omega)⟩, (Weak.cn [0, 1, 2] [4, 7, 8, 9, 10, 11, 12, 48, 49, 50] rfl rfl rfl)⟩
         ·have gh53 := h53
          try simp only [GZ] at gh53
          replace hx3 := iteF h53 hx3
          refine go_skip ?_
          refine go_blk ?_
          exact go_fin ⟨(x44, x47), ⟨hx3.symm, by first | omega | (dsimp only; omega) | (simp only [List.length_nil, List.length_set, List.length_replicate, List.length_append, List.length_take, List.length_cons]; omega)⟩, (Weak.cn [0, 1, 2] [4, 7, 8, 9, 10, 11, 12, 48, 49, 50] rfl rfl rfl)⟩
       ·rintro o51_ ⟨hp, hqo51⟩
        try dsimp only at hqo51
        try dsimp only at hp
        subst hp
        refine go_seq ?_
        refine go_rk eqOk ttOk [(1, .fn ((graph_Ports_t (List.getD a0.Ops x46 default))).toO)] [AQ ((graph_Ports_t (List.getD a0.Ops x46 default))).toO] ⟨[(4, .mref 0), (7, .own 1 1 0 o51.2.length), (8, (iV ((o51.1 : Nat) : Int))), (9, (iV ((x48 : Nat) : Int))), (10, (bo x45)), (11, (iV ((x46 : Nat) : Int))), (48, (sL SOp.cells a0.Ops)), (49, (iV ((a0.Ops.length : Nat) : Int))), (50, (iV ((x46 : Nat) : Int))), (71, (iV (graph_Ports (List.getD a0.Ops x46 default)))), (72, (iV 0))], [(0, .mp (List.map SEdge.mkv o4)), (1, .acc 1 (List.map cI64 o51.2) 3)], 3⟩ (by kernel_rfl) ⟨⟨rfl, rfl⟩, trivial⟩ ?_
        refine go_block ?_
        refine go_loop (fun p : Nat => ⟨[(4, .mref 0), (7, .own 1 1 0 o51.2.length), (8, (iV ((o51.1 : Nat) : Int))), (9, (iV ((x48 : Nat) : Int))), (10, (bo x45)), (11, (iV ((x46 : Nat) : Int))), (48, (sL SOp.cells a0.Ops)), (49, (iV ((a0.Ops.length : Nat) : Int))), (50, (iV ((x46 : Nat) : Int))), (71, (iV (graph_Ports (List.getD a0.Ops x46 default)))), (72, (iV ((p : Nat) : Int)))], [(0, .mp (List.map SEdge.mkv o4)), (1, .acc 1 (List.map cI64 o51.2) 3)], 2⟩) (fun p : Nat => (True) ∧ graph_Check_L2 a0 o4 x45 x46 x48 o51 p = o50) (fun p : Nat => (Int.toNat (graph_Ports (List.getD a0.Ops x46 default))) - p) 0 ⟨(by first | trivial | omega | ((try dsimp only) <;> (repeat' apply And.intro) <;> first | trivial | omega | assumption | (simp; done))), hx2⟩ (Weak.cn [0, 1] [4, 7, 8, 9, 10, 11, 48, 49, 50, 71, 72] rfl rfl rfl) ?_
        rintro x58 ⟨hi73, hx2⟩
        try dsimp only at hi73 hx2 ⊢
        rw [graph_Check_L2.eq_def] at hx2
        have hP := graph_Ports_le (List.getD a0.Ops x46 default)
        refine go_seq ?_
        refine go_rk eqOk ttOk [] [] ⟨[(4, .mref 0), (7, .own 1 1 0 o51.2.length), (8, (iV ((o51.1 : Nat) : Int))), (9, (iV ((x48 : Nat) : Int))), (10, (bo x45)), (11, (iV ((x46 : Nat) : Int))), (48, (sL SOp.cells a0.Ops)), (49, (iV ((a0.Ops.length : Nat) : Int))), (50, (iV ((x46 : Nat) : Int))), (71, (iV (graph_Ports (List.getD a0.Ops x46 default)))), (72, (iV ((x58 : Nat) : Int))), (73, (bo (decide (((x58 : Nat) : Int) < (graph_Ports (List.getD a0.Ops x46 default))))))], [(0, .mp (List.map SEdge.mkv o4)), (1, .acc 1 (List.map cI64 o51.2) 3)], 2⟩ (by kernel_rfl) trivial ?_
        refine go_seq ?_
        refine go_cond (by rfl) (fun h59 => ?_) (fun h59 => ?_)
        ·have gh59 := h59
         try simp only [GZ] at gh59
         replace hx2 := iteT h59 hx2
         refine go_skip ?_
         refine go_seq ?_
         refine go_block ?_
         refine go_seq ?_
         refine go_rk eqOk ttOk [] [] ⟨[(4, .mref 0), (7, .own 1 1 0 o51.2.length), (8, (iV ((o51.1 : Nat) : Int))), (9, (iV ((x48 : Nat) : Int))), (10, (bo x45)), (11, (iV ((x46 : Nat) : Int))), (13, (iV ((x58 : Nat) : Int))), (48, (sL SOp.cells a0.Ops)), (49, (iV ((a0.Ops.length : Nat) : Int))), (50, (iV ((x46 : Nat) : Int))), (71, (iV (graph_Ports (List.getD a0.Ops x46 default)))), (72, (iV ((x58 : Nat) : Int)))], [(0, .mp (List.map SEdge.mkv o4)), (1, .acc 1 (List.map cI64 o51.2) 3)], 2⟩ (by kernel_rfl) trivial ?_
         refine go_seq ?_
         refine go_seq ?_
         refine go_rk eqOk ttOk [] [] ⟨[(4, .mref 0), (7, .own 1 1 0 o51.2.length), (8, (iV ((o51.1 : Nat) : Int))), (9, (iV ((x48 : Nat) : Int))), (10, (bo x45)), (11, (iV ((x46 : Nat) : Int))), (13, (iV ((x58 : Nat) : Int))), (48, (sL SOp.cells a0.Ops)), (49, (iV ((a0.Ops.length : Nat) : Int))), (50, (iV ((x46 : Nat) : Int))), (71, (iV (graph_Ports (List.getD a0.Ops x46 default)))), (72, (iV ((x58 : Nat) : Int))), (75, (bo x45))], [(0, .mp (List.map SEdge.mkv o4)), (1, .acc 1 (List.map cI64 o51.2) 3)], 2⟩ (by kernel_rfl) trivial ?_
         refine go_cond (by rfl) (fun h60 => ?_) (fun h60 => ?_)
         ·have gh60 := h60
          try simp only [GZ] at gh60
          replace hx2 := iteT h60 hx2
          refine go_exit rfl ?_
          exact go_fin ⟨(o51.1, x48, x45, o51.2), ⟨hx2.symm, by first | omega | (dsimp only; omega) | (simp only [List.length_nil, List.length_set, List.length_replicate, List.length_append, List.length_take, List.length_cons]; omega)⟩, (Weak.cn [0, 1] [4, 7, 8, 9, 10, 48, 49, 50] rfl rfl rfl)⟩
         ·have gh60 := h60
          try simp only [GZ] at gh60
          replace hx2 := iteF h60 hx2
          refine go_skip ?_
          refine go_seq ?_
          refine go_rk eqOk ttOk [(4, .mapLook (.bool (decide ((SEdge.mk ((x46 : Nat) : Int) ((x58 : Nat) : Int)) ∈ o4))))] [KeyOk Try.prog 78 2, ZeroOk Try.prog 4 (.bool false), KS SEdge.mkv o4 (SEdge.mk ((x46 : Nat) : Int) ((x58 : Nat) : Int)), LS SEdge.mkv o4 (SEdge.mk ((x46 : Nat) : Int) ((x58 : Nat) : Int))] ⟨[(4, .mref 0), (7, .own 1 1 0 o51.2.length), (8, (iV ((o51.1 : Nat) : Int))), (9, (iV ((x48 : Nat) : Int))), (10, (bo x45)), (11, (iV ((x46 : Nat) : Int))), (48, (sL SOp.cells a0.Ops)), (49, (iV ((a0.Ops.length : Nat) : Int))), (50, (iV ((x46 : Nat) : Int))), (71, (iV (graph_Ports (List.getD a0.Ops x46 default)))), (72, (iV ((x58 : Nat) : Int))), (81, (bo (!(decide ((SEdge.mk ((x46 : Nat) : Int) ((x58 : Nat) : Int)) ∈ o4)))))], [(0, .mp (List.map SEdge.mkv o4)), (1, .acc 1 (List.map cI64 o51.2) 3)], 2⟩ (by kernel_rfl) ⟨keyOk78, zeroOk4, (ks SEdge.mkv (fun _ _ => rfl)), (ls SEdge.mkv (fun _ => rfl) (by intro x y h; cases x; cases y; simpa [SEdge.mkv] using h)), trivial⟩ ?_
          refine go_cond (by rfl) (fun h61 => ?_) (fun h61 => ?_)
          ·have gh61 := h61
           try simp only [GZ] at gh61
           replace hx2 := iteT h61 hx2
           refine go_seq ?_
           refine go_rk eqOk ttOk [] [] ⟨[(4, .mref 0), (7, .own 1 1 0 o51.2.length), (8, (iV ((o51.1 : Nat) : Int))), (9, (iV ((x46 : Nat) : Int))), (10, (bo true)), (48, (sL SOp.cells a0.Ops)), (49, (iV ((a0.Ops.length : Nat) : Int))), (50, (iV ((x46 : Nat) : Int)))], [(0, .mp (List.map SEdge.mkv o4)), (1, .acc 1 (List.map cI64 o51.2) 3)], 2⟩ (by kernel_rfl) trivial ?_
           refine go_exit rfl ?_
           exact go_fin ⟨(o51.1, x46, true, o51.2), ⟨hx2.symm, by first | omega | (dsimp only; omega) | (simp only [List.length_nil, List.length_set, List.length_replicate, List.length_append, List.length_take, List.length_cons]; omega)⟩, (Weak.cn [0, 1] [4, 7, 8, 9, 10, 48, 49, 50] rfl rfl rfl)⟩
          ·have gh61 := h61
           try simp only [GZ] at gh61
           replace hx2 := iteF h61 hx2
           refine go_skip ?_
           refine go_blk ?_
           refine go_rk eqOk ttOk [(0, .tell (iV ((x58 + 1 : Nat) : Int)))] [WR (((x58 : Nat) : Int) + 1) ((x58 + 1 : Nat) : Int)] ⟨[(4, .mref 0), (7, .own 1 1 0 o51.2.length), (8, (iV ((o51.1 : Nat) : Int))), (9, (iV ((x48 : Nat) : Int))), (10, (bo x45)), (11, (iV ((x46 : Nat) : Int))), (48, (sL SOp.cells a0.Ops)), (49, (iV ((a0.Ops.length : Nat) : Int))), (50, (iV ((x46 : Nat) : Int))), (71, (iV (graph_Ports (List.getD a0.Ops x46 default)))), (72, (iV ((x58 + 1 : Nat) : Int)))], [(0, .mp (List.map SEdge.mkv o4)), (1, .acc 1 (List.map cI64 o51.2) 3)], 2⟩ (by kernel_rfl) ⟨(wr (by omega) (by omega) (by omega)), trivial⟩ ?_
           exact go_fin ⟨x58 + 1, ⟨(by first | trivial | omega | ((try dsimp only) <;> (repeat' apply And.intro) <;> first | trivial | omega | assumption | (simp; done))), hx2⟩, by first | omega | (dsimp only; omega), (Weak.cn [0, 1] [4, 7, 8, 9, 10, 11, 48, 49, 50, 71, 72] rfl rfl rfl)⟩
        ·have gh59 := h59
         try simp only [GZ] at gh59
         replace hx2 := iteF h59 hx2
         refine go_exit rfl ?_
         refine go_blk ?_
         exact go_fin ⟨(o51.1, x48, x45, o51.2), ⟨hx2.symm, by first | omega | (dsimp only; omega) | (simp only [List.length_nil, List.length_set, List.length_replicate, List.length_append, List.length_take, List.length_cons]; omega)⟩, (Weak.cn [0, 1] [4, 7, 8, 9, 10, 48, 49, 50] rfl rfl rfl)⟩
      ·rintro o50_ ⟨hp, hqo50⟩
       try dsimp only at hqo50
       try dsimp only at hp
       subst hp
       refine go_rk eqOk ttOk [(0, .tell (iV ((x46 + 1 : Nat) : Int)))] [WR (((x46 : Nat) : Int) + 1) ((x46 + 1 : Nat) : Int)] ⟨[(4, .mref 0), (7, .own 1 1 0 o50.2.2.2.length), (8, (iV ((o50.1 : Nat) : Int))), (9, (iV ((o50.2.1 : Nat) : Int))), (10, (bo o50.2.2.1)), (48, (sL SOp.cells a0.Ops)), (49, (iV ((a0.Ops.length : Nat) : Int))), (50, (iV ((x46 + 1 : Nat) : Int)))], [(0, .mp (List.map SEdge.mkv o4)), (1, .acc 1 (List.map cI64 o50.2.2.2) 3)], 2⟩ (by kernel_rfl) ⟨(wr (by omega) (by omega) (by omega)), trivial⟩ ?_
       exact go_fin ⟨(o50.1, o50.2.2.1, x46 + 1, o50.2.2.2, o50.2.1), ⟨(by first | trivial | omega | ((try dsimp only) <;> (repeat' apply And.intro) <;> first | trivial | omega | assumption | (simp; done))), hx1⟩, by first | omega | (dsimp only; omega), (Weak.cn [0, 1] [4, 7, 8, 9, 10, 48, 49, 50] rfl rfl rfl)⟩
     ·have gh49 := h49
      try simp only [GZ] at gh49
      replace hx1 := iteF h49 hx1
      refine go_exit rfl ?_
      exact go_fin ⟨(x44, x48, x45, x47), hx1.symm, (Weak.cn [1] [7, 8, 9, 10] rfl rfl rfl)⟩
    ·rintro o14_ hp
     try dsimp only at hp
     subst hp
     refine go_seq ?_
     refine go_block ?_
     refine go_seq ?_
     refine go_rk eqOk ttOk [] [] ⟨[(7, .own 0 1 0 o14.2.2.2.length), (8, (iV ((o14.1 : Nat) : Int))), (9, (iV ((o14.2.1 : Nat) : Int))), (85, (bo o14.2.2.1))], [(0, .acc 1 (List.map cI64 o14.2.2.2) 3)], 1⟩ (by kernel_rfl) trivial ?_
     refine go_cond (by rfl) (fun h62 => ?_) (fun h62 => ?_)
     ·have gh62 := h62
      try simp only [GZ] at gh62
      replace hx0 := condT h62 hx0
      refine go_seq ?_
      refine go_rk eqOk ttOk [] [] ⟨[(2, (iV ((o14.2.1 : Nat) : Int))), (3, (iV 54))], [], 1⟩ (by kernel_rfl) trivial ?_
      subst hx0
      exact go_ret1 rfl
     ·have gh62 := h62
      try simp only [GZ] at gh62
      replace hx0 := condF h62 hx0
      refine go_seq ?_
      refine go_rk eqOk ttOk [(1, .fn ((slices_ContainsFunc_int_t o14.2.2.2 102 graph_Check_c1 graph_Check_c1_t)).toO [List.map cI64 o14.2.2.2])] [OX cI64 o14.2.2.2 0 o14.2.2.2.length o14.2.2.2, AQ ((slices_ContainsFunc_int_t o14.2.2.2 102 graph_Check_c1 graph_Check_c1_t)).toO] ⟨[(8, (iV ((o14.1 : Nat) : Int))), (88, (bo (slices_ContainsFunc_int o14.2.2.2 graph_Check_c1)))], [], 1⟩ (by kernel_rfl) ⟨ox, ⟨rfl, rfl⟩, trivial⟩ ?_
      refine go_cond (by rfl) (fun h63 => ?_) (fun h63 => ?_)
      ·have gh63 := h63
       try simp only [GZ] at gh63
       replace hx0 := condT h63 hx0
       refine go_seq ?_
       refine go_rk eqOk ttOk [] [] ⟨[(2, (iV 0)), (3, (iV 55))], [], 1⟩ (by kernel_rfl) trivial ?_
       subst hx0
       exact go_ret1 rfl
      ·have gh63 := h63
       try simp only [GZ] at gh63
       replace hx0 := condF h63 hx0
       refine go_seq ?_
       refine go_rk eqOk ttOk [] [] ⟨[(91, (bo (((o14.1 : Nat) : Int) != 1)))], [], 1⟩ (by kernel_rfl) trivial ?_
       refine go_cond (by rfl) (fun h64 => ?_) (fun h64 => ?_)
       ·have gh64 := h64
        try simp only [GZ] at gh64
        replace hx0 := condT h64 hx0
        refine go_seq ?_
        refine go_rk eqOk ttOk [] [] ⟨[(2, (iV 0)), (3, (iV 56))], [], 1⟩ (by kernel_rfl) trivial ?_
        subst hx0
        exact go_ret1 rfl
       ·have gh64 := h64
        try simp only [GZ] at gh64
        replace hx0 := condF h64 hx0
        refine go_skip ?_
        refine go_blk ?_
        refine go_seq ?_
        refine go_rk eqOk ttOk [] [] ⟨[(2, (iV 0)), (3, (iV 0))], [], 1⟩ (by kernel_rfl) trivial ?_
        subst hx0
        exact go_ret1 rfl
def graph_Sink_c1 (a0 : SOp) : Bool :=
  (a0.Kind == 9)
set_option maxRecDepth 10000 in
set_option maxHeartbeats 8000000 in
theorem graph_Sink_c1_t (a0 : SOp) : FnP Try.prog 78 [.agg (SOp.avs a0)] ((bo (graph_Sink_c1 a0))) := by
 refine FnP.intro (tt := tt) Try.func78 rfl (by kernel_rfl) (by simp [Try.ntmps78]) fun w0 A hA => ?_
 have hR := reckB_ok eqOk ttOk
 obtain ⟨res, hx0⟩ : ∃ r, graph_Sink_c1 a0 = r := ⟨_, rfl⟩
 simp only [hx0]
 unfold graph_Sink_c1 at hx0
 simp only [argT, Try.ntmps78]
 refine go_seq ?_
 refine go_rk eqOk ttOk [] [] ⟨[(1, .ptr 0 0)], [(0, .box (SOp.avs a0) 55)], 1⟩ (by kernel_rfl) trivial ?_
 refine go_seq ?_
 refine go_rk eqOk ttOk [] [] ⟨[(2, (bo (a0.Kind == 9)))], [], 1⟩ (by kernel_rfl) trivial ?_
 subst hx0
 exact go_ret1 rfl
def graph_Sink (a0 : SGraph) : Int × Bool :=
  ((if 0 > (slices_IndexFunc_Op a0.Ops graph_Sink_c1) then 0 else (slices_IndexFunc_Op a0.Ops graph_Sink_c1)), (decide ((slices_IndexFunc_Op a0.Ops graph_Sink_c1) ≥ 0)))
set_option maxRecDepth 10000 in
set_option maxHeartbeats 8000000 in
theorem graph_Sink_t (a0 : SGraph) : FnP Try.prog 56 [.agg (SGraph.avs a0)] (.tup [(iV ((graph_Sink a0).1)), (bo ((graph_Sink a0).2))]) := by
 refine FnP.intro (tt := tt) Try.func56 rfl (by kernel_rfl) (by simp [Try.ntmps56]) fun w0 A hA => ?_
 have hR := reckB_ok eqOk ttOk
 obtain ⟨res, hx0⟩ : ∃ r, graph_Sink a0 = r := ⟨_, rfl⟩
 simp only [hx0]
 unfold graph_Sink at hx0
 simp only [argT, Try.ntmps56]
 refine go_seq ?_
 refine go_rk eqOk ttOk [] [] ⟨[(1, .ptr 0 0)], [(0, .box (SGraph.avs a0) 41)], 1⟩ (by kernel_rfl) trivial ?_
 refine go_seq ?_
 refine go_rk eqOk ttOk [(2, .fn ((slices_IndexFunc_Op_t a0.Ops 78 graph_Sink_c1 graph_Sink_c1_t)).toO)] [AQ ((slices_IndexFunc_Op_t a0.Ops 78 graph_Sink_c1 graph_Sink_c1_t)).toO] ⟨[(4, (iV (slices_IndexFunc_Op a0.Ops graph_Sink_c1)))], [], 1⟩ (by kernel_rfl) ⟨⟨rfl, rfl⟩, trivial⟩ ?_
 refine go_seq ?_
 refine go_rk eqOk ttOk [] [] ⟨[(2, (iV (if 0 > (slices_IndexFunc_Op a0.Ops graph_Sink_c1) then 0 else (slices_IndexFunc_Op a0.Ops graph_Sink_c1)))), (3, (bo (decide ((slices_IndexFunc_Op a0.Ops graph_Sink_c1) ≥ 0))))], [], 1⟩ (by kernel_rfl) trivial ?_
 subst hx0
 exact go_ret1 rfl
end Go.Ab.Try
