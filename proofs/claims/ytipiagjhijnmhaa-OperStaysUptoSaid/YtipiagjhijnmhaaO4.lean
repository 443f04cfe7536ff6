/-
  Functions, and what they compute: printed by wg.py, a program of this work.
-/
import Derived.Test.YtipiagjhijnmhaaO0
import Derived.Test.YtipiagjhijnmhaaZ3
set_option linter.unusedVariables false
set_option linter.unusedSimpArgs false
namespace Go.Ab.Try
open Go Go.Proofs Go.Ab

def pontoonref05_Ports (a0 : SOp) : Int :=
  (bif (((a0.Kind == 7) && (decide (a0.Arg ≥ 2))) && (decide (a0.Arg ≤ 4))) then a0.Arg else (bif ((((a0.Kind == 7) || (a0.Kind == 9)) || (decide (a0.Kind < 1))) || (decide (a0.Kind > 9))) then 0 else 1))
set_option maxRecDepth 10000 in
set_option maxHeartbeats 8000000 in
theorem pontoonref05_Ports_t (a0 : SOp) : FnP Try.prog 27 [.agg (SOp.avs a0)] ((iV (pontoonref05_Ports a0))) := by
 refine FnP.intro (tt := tt) Try.func27 rfl (by kernel_rfl) (by simp [Try.ntmps27]) fun w0 A hA => ?_
 have hR := reckB_ok eqOk ttOk
 obtain ⟨res, hx0⟩ : ∃ r, pontoonref05_Ports a0 = r := ⟨_, rfl⟩
 simp only [hx0]
 unfold pontoonref05_Ports at hx0
 simp only [argT, Try.ntmps27]
 refine go_seq ?_
 refine go_rk eqOk ttOk [] [] ⟨[(1, .ptr 0 0)], [(0, .box (SOp.avs a0) 57)], 1⟩ (by kernel_rfl) trivial ?_
 refine go_seq ?_
 refine go_block ?_
 refine go_seq ?_
 refine go_rk eqOk ttOk [] [] ⟨[(1, .ptr 0 0), (3, (bo (((a0.Kind == 7) && (decide (a0.Arg ≥ 2))) && (decide (a0.Arg ≤ 4)))))], [(0, .box (SOp.avs a0) 57)], 1⟩ (by kernel_rfl) trivial ?_
 refine go_cond (by rfl) (fun h3 => ?_) (fun h3 => ?_)
 ·have gh3 := h3
  try simp only [GN, beq_iff_eq, beq_eq_false_iff_ne, bne_iff_ne, bne_eq_false_iff_eq] at gh3
  simp only [h3, cond_true, cond_false] at hx0
  refine go_seq ?_
  refine go_rk eqOk ttOk [] [] ⟨[(2, (iV a0.Arg))], [], 1⟩ (by kernel_rfl) trivial ?_
  subst hx0
  refine go_return ttOk (fun _ h => h) rfl ?_ ?_
  ·exact (by (repeat' apply And.intro) <;> first | trivial | exact Nat.le_of_ble_eq_true rfl | omega | (simp only [NM]; omega))
  ·first | rfl | (simp only [NM, CELLS] <;> rfl)
 ·have gh3 := h3
  try simp only [GN, beq_iff_eq, beq_eq_false_iff_ne, bne_iff_ne, bne_eq_false_iff_eq] at gh3
  simp only [h3, cond_true, cond_false] at hx0
  refine go_seq ?_
  refine go_rk eqOk ttOk [] [] ⟨[(19, (bo ((((a0.Kind == 7) || (a0.Kind == 9)) || (decide (a0.Kind < 1))) || (decide (a0.Kind > 9)))))], [], 1⟩ (by kernel_rfl) trivial ?_
  refine go_cond (by rfl) (fun h7 => ?_) (fun h7 => ?_)
  ·have gh7 := h7
   try simp only [GN, beq_iff_eq, beq_eq_false_iff_ne, bne_iff_ne, bne_eq_false_iff_eq] at gh7
   simp only [h7, cond_true, cond_false] at hx0
   refine go_seq ?_
   refine go_rk eqOk ttOk [] [] ⟨[(2, (iV 0))], [], 1⟩ (by kernel_rfl) trivial ?_
   subst hx0
   refine go_return ttOk (fun _ h => h) rfl ?_ ?_
   ·exact (by (repeat' apply And.intro) <;> first | trivial | exact Nat.le_of_ble_eq_true rfl | omega | (simp only [NM]; omega))
   ·first | rfl | (simp only [NM, CELLS] <;> rfl)
  ·have gh7 := h7
   try simp only [GN, beq_iff_eq, beq_eq_false_iff_ne, bne_iff_ne, bne_eq_false_iff_eq] at gh7
   simp only [h7, cond_true, cond_false] at hx0
   refine go_skip ?_
   refine go_blk ?_
   refine go_seq ?_
   refine go_rk eqOk ttOk [] [] ⟨[(2, (iV 1))], [], 1⟩ (by kernel_rfl) trivial ?_
   subst hx0
   refine go_return ttOk (fun _ h => h) rfl ?_ ?_
   ·exact (by (repeat' apply And.intro) <;> first | trivial | exact Nat.le_of_ble_eq_true rfl | omega | (simp only [NM]; omega))
   ·first | rfl | (simp only [NM, CELLS] <;> rfl)
theorem pontoonref05_Ports_le (a0 : SOp) : pontoonref05_Ports a0 ≤ 4 := by
  unfold pontoonref05_Ports
  simp only [Bool.cond_eq_ite, Bool.and_eq_true, decide_eq_true_eq]
  split
  · rename_i h; exact h.2
  · split <;> omega

def pontoonref05_fields (a0 : SOp) (a1 : Int) : Bool :=
  (bif ((a0.Kind != 1) && (a0.Part != 0)) then false else (bif (a0.Kind == 1) then ((((decide (a0.Part ≥ 0)) && (decide (a0.Part < a1))) && (a0.Fn == 0)) && (a0.Arg == 0)) else (bif (a0.Kind == 2) then (((decide (a0.Fn ≥ 1)) && (decide (a0.Fn ≤ 4))) && ((a0.Fn != 3) || (a0.Arg == 0))) else (bif (a0.Kind == 3) then (((decide (a0.Fn ≥ 1)) && (decide (a0.Fn ≤ 4))) && ((a0.Fn != 3) || (a0.Arg == 0))) else (bif (a0.Kind == 4) then (bif ((a0.Fn == 2) || (a0.Fn == 3)) then (decide (a0.Arg ≥ 1)) else ((a0.Fn == 4) || ((a0.Fn == 1) && (a0.Arg == 0)))) else (bif (a0.Kind == 5) then (((decide (a0.Fn ≥ 1)) && (decide (a0.Fn ≤ 5))) && (a0.Arg == 0)) else (bif (a0.Kind == 6) then ((((decide (a0.Fn ≥ 1)) && (decide (a0.Fn ≤ 5))) && (decide (a0.Arg ≥ 1))) && (decide (a0.Arg ≤ 64))) else (bif (a0.Kind == 7) then (((a0.Fn == 0) && (decide (a0.Arg ≥ 2))) && (decide (a0.Arg ≤ 4))) else ((a0.Fn == 0) && (a0.Arg == 0))))))))))
set_option maxRecDepth 10000 in
set_option maxHeartbeats 8000000 in
theorem pontoonref05_fields_t (a0 : SOp) (a1 : Int) : FnP Try.prog 46 [.agg (SOp.avs a0), (iV a1)] ((bo (pontoonref05_fields a0 a1))) := by
 refine FnP.intro (tt := tt) Try.func46 rfl (by kernel_rfl) (by simp [Try.ntmps46]) fun w0 A hA => ?_
 have hR := reckB_ok eqOk ttOk
 obtain ⟨res, hx0⟩ : ∃ r, pontoonref05_fields a0 a1 = r := ⟨_, rfl⟩
 simp only [hx0]
 unfold pontoonref05_fields at hx0
 simp only [argT, Try.ntmps46]
 refine go_seq ?_
 refine go_rk eqOk ttOk [] [] ⟨[(1, (iV a1)), (2, .ptr 0 0)], [(0, .box (SOp.avs a0) 57)], 1⟩ (by kernel_rfl) trivial ?_
 refine go_seq ?_
 refine go_seq ?_
 refine go_rk eqOk ttOk [] [] ⟨[(1, (iV a1)), (2, .ptr 0 0), (12, (bo ((a0.Kind != 1) && (a0.Part != 0))))], [(0, .box (SOp.avs a0) 57)], 1⟩ (by kernel_rfl) trivial ?_
 refine go_cond (by rfl) (fun h2 => ?_) (fun h2 => ?_)
 ·have gh2 := h2
  try simp only [GN, beq_iff_eq, beq_eq_false_iff_ne, bne_iff_ne, bne_eq_false_iff_eq] at gh2
  simp only [h2, cond_true, cond_false] at hx0
  refine go_seq ?_
  refine go_rk eqOk ttOk [] [] ⟨[(4, (bo false))], [], 1⟩ (by kernel_rfl) trivial ?_
  subst hx0
  refine go_return ttOk (fun _ h => h) rfl ?_ ?_
  ·exact (by (repeat' apply And.intro) <;> first | trivial | exact Nat.le_of_ble_eq_true rfl | omega | (simp only [NM]; omega))
  ·first | rfl | (simp only [NM, CELLS] <;> rfl)
 ·have gh2 := h2
  try simp only [GN, beq_iff_eq, beq_eq_false_iff_ne, bne_iff_ne, bne_eq_false_iff_eq] at gh2
  simp only [h2, cond_true, cond_false] at hx0
  refine go_skip ?_
  refine go_seq ?_
  refine go_rk eqOk ttOk [] [] ⟨[(1, (iV a1)), (2, .ptr 0 0), (14, (iV a0.Kind))], [(0, .box (SOp.avs a0) 57)], 1⟩ (by kernel_rfl) trivial ?_
  refine go_block ?_
  refine go_seq ?_
  refine go_rk eqOk ttOk [] [] ⟨[(1, (iV a1)), (2, .ptr 0 0), (14, (iV a0.Kind)), (23, (bo (a0.Kind == 1)))], [(0, .box (SOp.avs a0) 57)], 1⟩ (by kernel_rfl) trivial ?_
  refine go_cond (by rfl) (fun h3 => ?_) (fun h3 => ?_)
  ·have gh3 := h3
   try simp only [GN, beq_iff_eq, beq_eq_false_iff_ne, bne_iff_ne, bne_eq_false_iff_eq] at gh3
   simp only [h3, cond_true, cond_false] at hx0
   refine go_seq ?_
   refine go_rk eqOk ttOk [] [] ⟨[(4, (bo ((((decide (a0.Part ≥ 0)) && (decide (a0.Part < a1))) && (a0.Fn == 0)) && (a0.Arg == 0))))], [], 1⟩ (by kernel_rfl) trivial ?_
   subst hx0
   refine go_return ttOk (fun _ h => h) rfl ?_ ?_
   ·exact (by (repeat' apply And.intro) <;> first | trivial | exact Nat.le_of_ble_eq_true rfl | omega | (simp only [NM]; omega))
   ·first | rfl | (simp only [NM, CELLS] <;> rfl)
  ·have gh3 := h3
   try simp only [GN, beq_iff_eq, beq_eq_false_iff_ne, bne_iff_ne, bne_eq_false_iff_eq] at gh3
   simp only [h3, cond_true, cond_false] at hx0
   refine go_seq ?_
   refine go_rk eqOk ttOk [] [] ⟨[(2, .ptr 0 0), (14, (iV a0.Kind)), (44, (bo (a0.Kind == 2)))], [(0, .box (SOp.avs a0) 57)], 1⟩ (by kernel_rfl) trivial ?_
   refine go_cond (by rfl) (fun h7 => ?_) (fun h7 => ?_)
   ·have gh7 := h7
    try simp only [GN, beq_iff_eq, beq_eq_false_iff_ne, bne_iff_ne, bne_eq_false_iff_eq] at gh7
    simp only [h7, cond_true, cond_false] at hx0
    refine go_seq ?_
    refine go_rk eqOk ttOk [] [] ⟨[(4, (bo (((decide (a0.Fn ≥ 1)) && (decide (a0.Fn ≤ 4))) && ((a0.Fn != 3) || (a0.Arg == 0)))))], [], 1⟩ (by kernel_rfl) trivial ?_
    subst hx0
    refine go_return ttOk (fun _ h => h) rfl ?_ ?_
    ·exact (by (repeat' apply And.intro) <;> first | trivial | exact Nat.le_of_ble_eq_true rfl | omega | (simp only [NM]; omega))
    ·first | rfl | (simp only [NM, CELLS] <;> rfl)
   ·have gh7 := h7
    try simp only [GN, beq_iff_eq, beq_eq_false_iff_ne, bne_iff_ne, bne_eq_false_iff_eq] at gh7
    simp only [h7, cond_true, cond_false] at hx0
    refine go_seq ?_
    refine go_rk eqOk ttOk [] [] ⟨[(2, .ptr 0 0), (14, (iV a0.Kind)), (64, (bo (a0.Kind == 3)))], [(0, .box (SOp.avs a0) 57)], 1⟩ (by kernel_rfl) trivial ?_
    refine go_cond (by rfl) (fun h11 => ?_) (fun h11 => ?_)
    ·have gh11 := h11
     try simp only [GN, beq_iff_eq, beq_eq_false_iff_ne, bne_iff_ne, bne_eq_false_iff_eq] at gh11
     simp only [h11, cond_true, cond_false] at hx0
     refine go_seq ?_
     refine go_rk eqOk ttOk [] [] ⟨[(4, (bo (((decide (a0.Fn ≥ 1)) && (decide (a0.Fn ≤ 4))) && ((a0.Fn != 3) || (a0.Arg == 0)))))], [], 1⟩ (by kernel_rfl) trivial ?_
     subst hx0
     refine go_return ttOk (fun _ h => h) rfl ?_ ?_
     ·exact (by (repeat' apply And.intro) <;> first | trivial | exact Nat.le_of_ble_eq_true rfl | omega | (simp only [NM]; omega))
     ·first | rfl | (simp only [NM, CELLS] <;> rfl)
    ·have gh11 := h11
     try simp only [GN, beq_iff_eq, beq_eq_false_iff_ne, bne_iff_ne, bne_eq_false_iff_eq] at gh11
     simp only [h11, cond_true, cond_false] at hx0
     refine go_seq ?_
     refine go_rk eqOk ttOk [] [] ⟨[(2, .ptr 0 0), (14, (iV a0.Kind)), (84, (bo (a0.Kind == 4)))], [(0, .box (SOp.avs a0) 57)], 1⟩ (by kernel_rfl) trivial ?_
     refine go_cond (by rfl) (fun h15 => ?_) (fun h15 => ?_)
     ·have gh15 := h15
      try simp only [GN, beq_iff_eq, beq_eq_false_iff_ne, bne_iff_ne, bne_eq_false_iff_eq] at gh15
      simp only [h15, cond_true, cond_false] at hx0
      refine go_seq ?_
      refine go_seq ?_
      refine go_rk eqOk ttOk [] [] ⟨[(2, .ptr 0 0), (93, (bo ((a0.Fn == 2) || (a0.Fn == 3))))], [(0, .box (SOp.avs a0) 57)], 1⟩ (by kernel_rfl) trivial ?_
      refine go_cond (by rfl) (fun h17 => ?_) (fun h17 => ?_)
      ·have gh17 := h17
       try simp only [GN, beq_iff_eq, beq_eq_false_iff_ne, bne_iff_ne, bne_eq_false_iff_eq] at gh17
       simp only [h17, cond_true, cond_false] at hx0
       refine go_seq ?_
       refine go_rk eqOk ttOk [] [] ⟨[(4, (bo (decide (a0.Arg ≥ 1))))], [], 1⟩ (by kernel_rfl) trivial ?_
       subst hx0
       refine go_return ttOk (fun _ h => h) rfl ?_ ?_
       ·exact (by (repeat' apply And.intro) <;> first | trivial | exact Nat.le_of_ble_eq_true rfl | omega | (simp only [NM]; omega))
       ·first | rfl | (simp only [NM, CELLS] <;> rfl)
      ·have gh17 := h17
       try simp only [GN, beq_iff_eq, beq_eq_false_iff_ne, bne_iff_ne, bne_eq_false_iff_eq] at gh17
       simp only [h17, cond_true, cond_false] at hx0
       refine go_skip ?_
       refine go_seq ?_
       refine go_rk eqOk ttOk [] [] ⟨[(4, (bo ((a0.Fn == 4) || ((a0.Fn == 1) && (a0.Arg == 0)))))], [], 1⟩ (by kernel_rfl) trivial ?_
       subst hx0
       refine go_return ttOk (fun _ h => h) rfl ?_ ?_
       ·exact (by (repeat' apply And.intro) <;> first | trivial | exact Nat.le_of_ble_eq_true rfl | omega | (simp only [NM]; omega))
       ·first | rfl | (simp only [NM, CELLS] <;> rfl)
     ·have gh15 := h15
      try simp only [GN, beq_iff_eq, beq_eq_false_iff_ne, bne_iff_ne, bne_eq_false_iff_eq] at gh15
      simp only [h15, cond_true, cond_false] at hx0
      refine go_seq ?_
      refine go_rk eqOk ttOk [] [] ⟨[(2, .ptr 0 0), (14, (iV a0.Kind)), (110, (bo (a0.Kind == 5)))], [(0, .box (SOp.avs a0) 57)], 1⟩ (by kernel_rfl) trivial ?_
      refine go_cond (by rfl) (fun h20 => ?_) (fun h20 => ?_)
      ·have gh20 := h20
       try simp only [GN, beq_iff_eq, beq_eq_false_iff_ne, bne_iff_ne, bne_eq_false_iff_eq] at gh20
       simp only [h20, cond_true, cond_false] at hx0
       refine go_seq ?_
       refine go_rk eqOk ttOk [] [] ⟨[(4, (bo (((decide (a0.Fn ≥ 1)) && (decide (a0.Fn ≤ 5))) && (a0.Arg == 0))))], [], 1⟩ (by kernel_rfl) trivial ?_
       subst hx0
       refine go_return ttOk (fun _ h => h) rfl ?_ ?_
       ·exact (by (repeat' apply And.intro) <;> first | trivial | exact Nat.le_of_ble_eq_true rfl | omega | (simp only [NM]; omega))
       ·first | rfl | (simp only [NM, CELLS] <;> rfl)
      ·have gh20 := h20
       try simp only [GN, beq_iff_eq, beq_eq_false_iff_ne, bne_iff_ne, bne_eq_false_iff_eq] at gh20
       simp only [h20, cond_true, cond_false] at hx0
       refine go_seq ?_
       refine go_rk eqOk ttOk [] [] ⟨[(2, .ptr 0 0), (14, (iV a0.Kind)), (125, (bo (a0.Kind == 6)))], [(0, .box (SOp.avs a0) 57)], 1⟩ (by kernel_rfl) trivial ?_
       refine go_cond (by rfl) (fun h23 => ?_) (fun h23 => ?_)
       ·have gh23 := h23
        try simp only [GN, beq_iff_eq, beq_eq_false_iff_ne, bne_iff_ne, bne_eq_false_iff_eq] at gh23
        simp only [h23, cond_true, cond_false] at hx0
        refine go_seq ?_
        refine go_rk eqOk ttOk [] [] ⟨[(4, (bo ((((decide (a0.Fn ≥ 1)) && (decide (a0.Fn ≤ 5))) && (decide (a0.Arg ≥ 1))) && (decide (a0.Arg ≤ 64)))))], [], 1⟩ (by kernel_rfl) trivial ?_
        subst hx0
        refine go_return ttOk (fun _ h => h) rfl ?_ ?_
        ·exact (by (repeat' apply And.intro) <;> first | trivial | exact Nat.le_of_ble_eq_true rfl | omega | (simp only [NM]; omega))
        ·first | rfl | (simp only [NM, CELLS] <;> rfl)
       ·have gh23 := h23
        try simp only [GN, beq_iff_eq, beq_eq_false_iff_ne, bne_iff_ne, bne_eq_false_iff_eq] at gh23
        simp only [h23, cond_true, cond_false] at hx0
        refine go_seq ?_
        refine go_rk eqOk ttOk [] [] ⟨[(2, .ptr 0 0), (145, (bo (a0.Kind == 7)))], [(0, .box (SOp.avs a0) 57)], 1⟩ (by kernel_rfl) trivial ?_
        refine go_cond (by rfl) (fun h27 => ?_) (fun h27 => ?_)
        ·have gh27 := h27
         try simp only [GN, beq_iff_eq, beq_eq_false_iff_ne, bne_iff_ne, bne_eq_false_iff_eq] at gh27
         simp only [h27, cond_true, cond_false] at hx0
         refine go_seq ?_
         refine go_rk eqOk ttOk [] [] ⟨[(4, (bo (((a0.Fn == 0) && (decide (a0.Arg ≥ 2))) && (decide (a0.Arg ≤ 4)))))], [], 1⟩ (by kernel_rfl) trivial ?_
         subst hx0
         refine go_return ttOk (fun _ h => h) rfl ?_ ?_
         ·exact (by (repeat' apply And.intro) <;> first | trivial | exact Nat.le_of_ble_eq_true rfl | omega | (simp only [NM]; omega))
         ·first | rfl | (simp only [NM, CELLS] <;> rfl)
        ·have gh27 := h27
         try simp only [GN, beq_iff_eq, beq_eq_false_iff_ne, bne_iff_ne, bne_eq_false_iff_eq] at gh27
         simp only [h27, cond_true, cond_false] at hx0
         refine go_seq ?_
         refine go_rk eqOk ttOk [] [] ⟨[(4, (bo ((a0.Fn == 0) && (a0.Arg == 0))))], [], 1⟩ (by kernel_rfl) trivial ?_
         subst hx0
         refine go_return ttOk (fun _ h => h) rfl ?_ ?_
         ·exact (by (repeat' apply And.intro) <;> first | trivial | exact Nat.le_of_ble_eq_true rfl | omega | (simp only [NM]; omega))
         ·first | rfl | (simp only [NM, CELLS] <;> rfl)

def pontoonref05_inputs_L0 (a0 : SGraph) (a1 : Int) (x14 : Nat) : Sum Bool Unit :=
  (if h15 : (decide (((x14 : Nat) : Int) < ((((List.getD a0.Ops (Int.toNat a1) default).In).length : Nat) : Int))) = true then (if h19 : ((((decide ((List.getD ((List.getD a0.Ops (Int.toNat a1) default).In) x14 default).From < 0)) || (decide ((List.getD ((List.getD a0.Ops (Int.toNat a1) default).In) x14 default).From ≥ a1))) || (decide ((List.getD ((List.getD a0.Ops (Int.toNat a1) default).In) x14 default).Port < 0))) || (decide ((List.getD ((List.getD a0.Ops (Int.toNat a1) default).In) x14 default).Port ≥ (pontoonref05_Ports (List.getD a0.Ops (Int.toNat ((List.getD ((List.getD a0.Ops (Int.toNat a1) default).In) x14 default).From)) default))))) = true then (Sum.inl false) else (pontoonref05_inputs_L0 a0 a1 (x14 + 1))) else (Sum.inr ()))
termination_by ((List.getD a0.Ops (Int.toNat a1) default).In).length - x14
decreasing_by all_goals (try simp only [GN, beq_iff_eq, beq_eq_false_iff_ne, bne_iff_ne, bne_eq_false_iff_eq] at *) <;> omega
def pontoonref05_inputs (a0 : SGraph) (a1 : Int) : Bool :=
  letIn ((bif ((List.getD a0.Ops (Int.toNat a1) default).Kind == 1) then (0, 0) else (1, 1))) fun o1 => letIn ((bif ((List.getD a0.Ops (Int.toNat a1) default).Kind == 8) then (2, 4) else (o1.1, o1.2))) fun o3 => (bif ((decide (((((List.getD a0.Ops (Int.toNat a1) default).In).length : Nat) : Int) < ((o3.1 : Nat) : Int))) || (decide (((((List.getD a0.Ops (Int.toNat a1) default).In).length : Nat) : Int) > ((o3.2 : Nat) : Int)))) then false else letIn (pontoonref05_inputs_L0 a0 a1 0) fun o7s => Sum.elim (fun q => q) (fun o7 => true) o7s)
set_option maxRecDepth 10000 in
set_option maxHeartbeats 8000000 in
theorem pontoonref05_inputs_t (a0 : SGraph) (a1 : Int) (hn : 0 ≤ a1) (hn2 : a1 < a0.Ops.length) (z0 : SGraph.Sz a0) : FnP Try.prog 47 [.agg (SGraph.avs a0), (iV a1)] ((bo (pontoonref05_inputs a0 a1))) := by
 refine FnP.intro (tt := tt) Try.func47 rfl (by kernel_rfl) (by simp [Try.ntmps47]) fun w0 A hA => ?_
 have hR := reckB_ok eqOk ttOk
 obtain ⟨res, hx0⟩ : ∃ r, pontoonref05_inputs a0 a1 = r := ⟨_, rfl⟩
 simp only [hx0]
 unfold pontoonref05_inputs at hx0
 simp only [argT, Try.ntmps47]
 try simp only [SZD] at z0
 obtain ⟨zz20, zz21⟩ := z0
 refine go_seq ?_
 refine go_rk eqOk ttOk [] [] ⟨[(1, (iV a1)), (2, .ptr 0 0)], [(0, .box (SGraph.avs a0) 76)], 1⟩ (by kernel_rfl) trivial ?_
 refine go_seq ?_
 have bq22 : (Int.toNat a1) < a0.Ops.length := by omega
 have zq22 : ((List.getD a0.Ops (Int.toNat a1) default).In).length ≤ 4294967296 := (by assumption : ∀ y ∈ a0.Ops, y.In.length ≤ 4294967296) _ (getD_mem a0.Ops (Int.toNat a1) default bq22)
 refine go_rk eqOk ttOk [(3, .row (SOp.cells (List.getD a0.Ops (Int.toNat a1) default)))] [IX SOp.cells a0.Ops a1] ⟨[(1, (iV a1)), (2, .ptr 0 0), (5, .ptr 1 0)], [(0, .box (SGraph.avs a0) 76), (1, .box (SOp.avs (List.getD a0.Ops (Int.toNat a1) default)) 57)], 2⟩ (by kernel_rfl) ⟨(ix (by omega) (by omega)), trivial⟩ ?_
 refine go_seq ?_
 refine go_rk eqOk ttOk [] [] ⟨[(1, (iV a1)), (2, .ptr 0 0), (5, .ptr 1 0), (6, (iV 1)), (7, (iV 1))], [(0, .box (SGraph.avs a0) 76), (1, .box (SOp.avs (List.getD a0.Ops (Int.toNat a1) default)) 57)], 2⟩ (by kernel_rfl) trivial ?_
 refine go_seq ?_
 refine go_seq ?_
 refine go_rk eqOk ttOk [] [] ⟨[(1, (iV a1)), (2, .ptr 0 0), (5, .ptr 1 0), (6, (iV 1)), (7, (iV 1)), (17, (bo ((List.getD a0.Ops (Int.toNat a1) default).Kind == 1)))], [(0, .box (SGraph.avs a0) 76), (1, .box (SOp.avs (List.getD a0.Ops (Int.toNat a1) default)) 57)], 2⟩ (by kernel_rfl) trivial ?_
 obtain ⟨o1, hx1, hx0⟩ := letIn_ex hx0
 refine go_joinE (fun p : Nat × Nat => ⟨[(1, (iV a1)), (2, .ptr 0 0), (5, .ptr 1 0), (6, (iV ((p.1 : Nat) : Int))), (7, (iV ((p.2 : Nat) : Int)))], [(0, .box (SGraph.avs a0) 76), (1, .box (SOp.avs (List.getD a0.Ops (Int.toNat a1) default)) 57)], 2⟩) (fun p : Nat × Nat => o1 = p ∧ (p.1 ≤ 1 ∧ p.2 ≤ 1)) ?_ ?_
 ·refine go_cond (by rfl) (fun h2 => ?_) (fun h2 => ?_)
  ·have gh2 := h2
   try simp only [GN, beq_iff_eq, beq_eq_false_iff_ne, bne_iff_ne, bne_eq_false_iff_eq] at gh2
   simp only [h2, cond_true, cond_false] at hx1
   refine go_rk eqOk ttOk [] [] ⟨[(1, (iV a1)), (2, .ptr 0 0), (5, .ptr 1 0), (6, (iV 0)), (7, (iV 0))], [(0, .box (SGraph.avs a0) 76), (1, .box (SOp.avs (List.getD a0.Ops (Int.toNat a1) default)) 57)], 2⟩ (by kernel_rfl) trivial ?_
   exact go_fin ⟨(0, 0), ⟨hx1.symm, by first | omega | (dsimp only; omega)⟩, (Weak.canon [0, 1] [1, 2, 5, 6, 7] (by decide) rfl (by simp) rfl (by simp) (by first | rfl | (simp only [NM, CELLS] <;> rfl) | simp [NM, CELLS]) (by first | rfl | (simp only [NM, CELLS] <;> rfl) | simp [NM, CELLS]) rfl)⟩
  ·have gh2 := h2
   try simp only [GN, beq_iff_eq, beq_eq_false_iff_ne, bne_iff_ne, bne_eq_false_iff_eq] at gh2
   simp only [h2, cond_true, cond_false] at hx1
   refine go_skip ?_
   exact go_fin ⟨(1, 1), ⟨hx1.symm, by first | omega | (dsimp only; omega)⟩, (Weak.canon [0, 1] [1, 2, 5, 6, 7] (by decide) rfl (by simp) rfl (by simp) (by first | rfl | (simp only [NM, CELLS] <;> rfl) | simp [NM, CELLS]) (by first | rfl | (simp only [NM, CELLS] <;> rfl) | simp [NM, CELLS]) rfl)⟩
 ·rintro o1_ ⟨hp, hqo1⟩
  try dsimp only at hqo1
  try dsimp only at hp
  subst hp
  refine go_seq ?_
  refine go_seq ?_
  refine go_rk eqOk ttOk [] [] ⟨[(1, (iV a1)), (2, .ptr 0 0), (5, .ptr 1 0), (6, (iV ((o1.1 : Nat) : Int))), (7, (iV ((o1.2 : Nat) : Int))), (20, (bo ((List.getD a0.Ops (Int.toNat a1) default).Kind == 8)))], [(0, .box (SGraph.avs a0) 76), (1, .box (SOp.avs (List.getD a0.Ops (Int.toNat a1) default)) 57)], 2⟩ (by kernel_rfl) trivial ?_
  obtain ⟨o3, hx1, hx0⟩ := letIn_ex hx0
  refine go_joinE (fun p : Nat × Nat => ⟨[(1, (iV a1)), (2, .ptr 0 0), (5, .ptr 1 0), (6, (iV ((p.1 : Nat) : Int))), (7, (iV ((p.2 : Nat) : Int)))], [(0, .box (SGraph.avs a0) 76), (1, .box (SOp.avs (List.getD a0.Ops (Int.toNat a1) default)) 57)], 2⟩) (fun p : Nat × Nat => o3 = p) ?_ ?_
  ·refine go_cond (by rfl) (fun h4 => ?_) (fun h4 => ?_)
   ·have gh4 := h4
    try simp only [GN, beq_iff_eq, beq_eq_false_iff_ne, bne_iff_ne, bne_eq_false_iff_eq] at gh4
    simp only [h4, cond_true, cond_false] at hx1
    refine go_rk eqOk ttOk [] [] ⟨[(1, (iV a1)), (2, .ptr 0 0), (5, .ptr 1 0), (6, (iV 2)), (7, (iV 4))], [(0, .box (SGraph.avs a0) 76), (1, .box (SOp.avs (List.getD a0.Ops (Int.toNat a1) default)) 57)], 2⟩ (by kernel_rfl) trivial ?_
    exact go_fin ⟨(2, 4), hx1.symm, (Weak.canon [0, 1] [1, 2, 5, 6, 7] (by decide) rfl (by simp) rfl (by simp) (by first | rfl | (simp only [NM, CELLS] <;> rfl) | simp [NM, CELLS]) (by first | rfl | (simp only [NM, CELLS] <;> rfl) | simp [NM, CELLS]) rfl)⟩
   ·have gh4 := h4
    try simp only [GN, beq_iff_eq, beq_eq_false_iff_ne, bne_iff_ne, bne_eq_false_iff_eq] at gh4
    simp only [h4, cond_true, cond_false] at hx1
    refine go_skip ?_
    exact go_fin ⟨(o1.1, o1.2), hx1.symm, (Weak.canon [0, 1] [1, 2, 5, 6, 7] (by decide) rfl (by simp) rfl (by simp) (by first | rfl | (simp only [NM, CELLS] <;> rfl) | simp [NM, CELLS]) (by first | rfl | (simp only [NM, CELLS] <;> rfl) | simp [NM, CELLS]) rfl)⟩
  ·rintro o3_ hp
   try dsimp only at hp
   subst hp
   refine go_seq ?_
   refine go_seq ?_
   refine go_rk eqOk ttOk [(2, .tell (iV ((((List.getD a0.Ops (Int.toNat a1) default).In).length : Nat) : Int))), (8, .tell (iV ((((List.getD a0.Ops (Int.toNat a1) default).In).length : Nat) : Int)))] [LN SEdge.cells ((List.getD a0.Ops (Int.toNat a1) default).In), ((decide (((((List.getD a0.Ops (Int.toNat a1) default).In).length : Nat) : Int) < ((o3.1 : Nat) : Int))) = false → LN SEdge.cells ((List.getD a0.Ops (Int.toNat a1) default).In))] ⟨[(1, (iV a1)), (2, .ptr 0 0), (5, .ptr 1 0), (32, (bo ((decide (((((List.getD a0.Ops (Int.toNat a1) default).In).length : Nat) : Int) < ((o3.1 : Nat) : Int))) || (decide (((((List.getD a0.Ops (Int.toNat a1) default).In).length : Nat) : Int) > ((o3.2 : Nat) : Int))))))], [(0, .box (SGraph.avs a0) 76), (1, .box (SOp.avs (List.getD a0.Ops (Int.toNat a1) default)) 57)], 2⟩ (by kernel_rfl) ⟨ln, (fun _ => ln), trivial⟩ ?_
   refine go_cond (by rfl) (fun h6 => ?_) (fun h6 => ?_)
   ·have gh6 := h6
    try simp only [GN, beq_iff_eq, beq_eq_false_iff_ne, bne_iff_ne, bne_eq_false_iff_eq] at gh6
    simp only [h6, cond_true, cond_false] at hx0
    refine go_seq ?_
    refine go_rk eqOk ttOk [] [] ⟨[(4, (bo false))], [], 2⟩ (by kernel_rfl) trivial ?_
    subst hx0
    refine go_return ttOk (fun _ h => h) rfl ?_ ?_
    ·exact (by (repeat' apply And.intro) <;> first | trivial | exact Nat.le_of_ble_eq_true rfl | omega | (simp only [NM]; omega))
    ·first | rfl | (simp only [NM, CELLS] <;> rfl)
   ·have gh6 := h6
    try simp only [GN, beq_iff_eq, beq_eq_false_iff_ne, bne_iff_ne, bne_eq_false_iff_eq] at gh6
    simp only [h6, cond_true, cond_false] at hx0
    refine go_skip ?_
    refine go_seq ?_
    refine go_seq ?_
    refine go_rk eqOk ttOk [] [] ⟨[(1, (iV a1)), (2, .ptr 0 0), (5, .ptr 1 0), (8, (iV 0))], [(0, .box (SGraph.avs a0) 76), (1, .box (SOp.avs (List.getD a0.Ops (Int.toNat a1) default)) 57)], 2⟩ (by kernel_rfl) trivial ?_
    obtain ⟨o7s, hx1, hx0⟩ := letIn_ex hx0
    refine go_joinE (fun p : Unit => ⟨[], [], 0⟩) (fun p : Unit => o7s = Sum.inr p) ?_ ?_
    ·refine go_block ?_
     refine go_lenB (b := 1) rfl 4 rfl (fun hl24 => ?_)
     simp only [List.length_map, maxLen_eq] at hl24
     refine go_loop (fun p : Nat => ⟨[(1, (iV a1)), (2, .ptr 0 0), (5, .ptr 1 0), (8, (iV ((p : Nat) : Int)))], [(0, .box (SGraph.avs a0) 76), (1, .box (SOp.avs (List.getD a0.Ops (Int.toNat a1) default)) 57)], 2⟩) (fun p : Nat => (p ≤ ((List.getD a0.Ops (Int.toNat a1) default).In).length) ∧ pontoonref05_inputs_L0 a0 a1 p = o7s) (fun p : Nat => ((List.getD a0.Ops (Int.toNat a1) default).In).length - p) 0 ⟨(by first | trivial | omega | ((try dsimp only) <;> (repeat' apply And.intro) <;> first | trivial | omega | assumption | (simp; done))), hx1⟩ (Weak.canon [0, 1] [1, 2, 5, 8] (by decide) rfl (by simp) rfl (by simp) (by first | rfl | (simp only [NM, CELLS] <;> rfl) | simp [NM, CELLS]) (by first | rfl | (simp only [NM, CELLS] <;> rfl) | simp [NM, CELLS]) rfl) ?_
     rintro x14 ⟨hi25, hx1⟩
     try dsimp only at hi25 hx1 ⊢
     rw [pontoonref05_inputs_L0.eq_def] at hx1
     refine go_seq ?_
     refine go_seq ?_
     refine go_rk eqOk ttOk [(3, .tell (iV ((((List.getD a0.Ops (Int.toNat a1) default).In).length : Nat) : Int)))] [LN SEdge.cells ((List.getD a0.Ops (Int.toNat a1) default).In)] ⟨[(1, (iV a1)), (2, .ptr 0 0), (5, .ptr 1 0), (8, (iV ((x14 : Nat) : Int))), (37, (bo (decide (((x14 : Nat) : Int) < ((((List.getD a0.Ops (Int.toNat a1) default).In).length : Nat) : Int)))))], [(0, .box (SGraph.avs a0) 76), (1, .box (SOp.avs (List.getD a0.Ops (Int.toNat a1) default)) 57)], 2⟩ (by kernel_rfl) ⟨ln, trivial⟩ ?_
     refine go_cond (by rfl) (fun h15 => ?_) (fun h15 => ?_)
     ·have gh15 := h15
      try simp only [GN, beq_iff_eq, beq_eq_false_iff_ne, bne_iff_ne, bne_eq_false_iff_eq] at gh15
      simp only [h15, dite_true, dite_false, reduceDIte, Bool.false_eq_true] at hx1
      refine go_skip ?_
      refine go_seq ?_
      refine go_block ?_
      refine go_seq ?_
      have bq26 : x14 < ((List.getD a0.Ops (Int.toNat a1) default).In).length := by omega
      refine go_rk eqOk ttOk [(3, .row (SEdge.cells (List.getD ((List.getD a0.Ops (Int.toNat a1) default).In) x14 default)))] [IX SEdge.cells ((List.getD a0.Ops (Int.toNat a1) default).In) ((x14 : Nat) : Int)] ⟨[(1, (iV a1)), (2, .ptr 0 0), (5, .ptr 1 0), (8, (iV ((x14 : Nat) : Int))), (9, .ptr 2 0)], [(0, .box (SGraph.avs a0) 76), (1, .box (SOp.avs (List.getD a0.Ops (Int.toNat a1) default)) 57), (2, .box (SEdge.avs (List.getD ((List.getD a0.Ops (Int.toNat a1) default).In) x14 default)) 96)], 3⟩ (by kernel_rfl) ⟨(ixn bq26), trivial⟩ ?_
      refine go_seq ?_
      refine go_drawJ hR rfl ⟨[(1, (iV a1)), (2, .ptr 0 0), (5, .ptr 1 0), (8, (iV ((x14 : Nat) : Int))), (70, (bo ((((decide ((List.getD ((List.getD a0.Ops (Int.toNat a1) default).In) x14 default).From < 0)) || (decide ((List.getD ((List.getD a0.Ops (Int.toNat a1) default).In) x14 default).From ≥ a1))) || (decide ((List.getD ((List.getD a0.Ops (Int.toNat a1) default).In) x14 default).Port < 0))) || (decide ((List.getD ((List.getD a0.Ops (Int.toNat a1) default).In) x14 default).Port ≥ (pontoonref05_Ports (List.getD a0.Ops (Int.toNat ((List.getD ((List.getD a0.Ops (Int.toNat a1) default).In) x14 default).From)) default)))))))], [(0, .box (SGraph.avs a0) 76), (1, .box (SOp.avs (List.getD a0.Ops (Int.toNat a1) default)) 57)], 3⟩ ?_ ?_
      ·skip
       rcases Bool.eq_false_or_eq_true (decide ((List.getD ((List.getD a0.Ops (Int.toNat a1) default).In) x14 default).From < 0)) with h16 | h16
       ·simp (maxSteps := 4000000) only [h16, AVS, bits_i64, EVB, eqF, Op.operands, IntKind.bits, descF, sizeF, bytesF, zeroF, seval, reduceCtorEq, ↓reduceIte]
        refine ⟨by kernel_rfl, ?_⟩
        try simp only [h16, BM]
        exact Weak.sub' ⟨rfl, rfl, rfl, rfl, rfl, trivial⟩ ⟨rfl, rfl, trivial⟩ (Nat.le_of_ble_eq_true rfl)
       ·have gh16 := h16
        try simp only [GN, beq_iff_eq, beq_eq_false_iff_ne, bne_iff_ne, bne_eq_false_iff_eq] at gh16
        rcases Bool.eq_false_or_eq_true (decide ((List.getD ((List.getD a0.Ops (Int.toNat a1) default).In) x14 default).From ≥ a1)) with h17 | h17
        ·simp (maxSteps := 4000000) only [h16, h17, AVS, bits_i64, EVB, eqF, Op.operands, IntKind.bits, descF, sizeF, bytesF, zeroF, seval, reduceCtorEq, ↓reduceIte]
         refine ⟨by kernel_rfl, ?_⟩
         try simp only [h16, h17, BM]
         exact Weak.sub' ⟨rfl, rfl, rfl, rfl, rfl, trivial⟩ ⟨rfl, rfl, trivial⟩ (Nat.le_of_ble_eq_true rfl)
        ·have gh17 := h17
         try simp only [GN, beq_iff_eq, beq_eq_false_iff_ne, bne_iff_ne, bne_eq_false_iff_eq] at gh17
         rcases Bool.eq_false_or_eq_true (decide ((List.getD ((List.getD a0.Ops (Int.toNat a1) default).In) x14 default).Port < 0)) with h18 | h18
         ·simp (maxSteps := 4000000) only [h16, h17, h18, AVS, bits_i64, EVB, eqF, Op.operands, IntKind.bits, descF, sizeF, bytesF, zeroF, seval, reduceCtorEq, ↓reduceIte]
          refine ⟨by kernel_rfl, ?_⟩
          try simp only [h16, h17, h18, BM]
          exact Weak.sub' ⟨rfl, rfl, rfl, rfl, rfl, trivial⟩ ⟨rfl, rfl, trivial⟩ (Nat.le_of_ble_eq_true rfl)
         ·have gh18 := h18
          try simp only [GN, beq_iff_eq, beq_eq_false_iff_ne, bne_iff_ne, bne_eq_false_iff_eq] at gh18
          have bq27 : (Int.toNat ((List.getD ((List.getD a0.Ops (Int.toNat a1) default).In) x14 default).From)) < a0.Ops.length := by omega
          have q27 := map_getD SOp.cells a0.Ops (Int.toNat ((List.getD ((List.getD a0.Ops (Int.toNat a1) default).In) x14 default).From)) default bq27
          have zq27 : ((List.getD a0.Ops (Int.toNat ((List.getD ((List.getD a0.Ops (Int.toNat a1) default).In) x14 default).From)) default).In).length ≤ 4294967296 := (by assumption : ∀ y ∈ a0.Ops, y.In.length ≤ 4294967296) _ (getD_mem a0.Ops (Int.toNat ((List.getD ((List.getD a0.Ops (Int.toNat a1) default).In) x14 default).From)) default bq27)
          simp (maxSteps := 4000000) only [h16, h17, h18, q27, AVS, bits_i64, EVB, eqF, Op.operands, IntKind.bits, descF, sizeF, bytesF, zeroF, seval, reduceCtorEq, ↓reduceIte, CELLS]
          refine ⟨(by (repeat' apply And.intro) <;> first | trivial | rfl | exact Nat.le_of_ble_eq_true rfl | omega | (intro u hu; obtain ⟨x, _, rfl⟩ := List.mem_map.1 hu; rfl) | (intro u hu; simp only [List.mem_cons, List.not_mem_nil, or_false] at hu; subst hu; rfl) | (simp only [NM]; omega) | (simp; done)), ?_⟩
          refine CallD.fresh (pontoonref05_Ports_t (List.getD a0.Ops (Int.toNat ((List.getD ((List.getD a0.Ops (Int.toNat a1) default).In) x14 default).From)) default)).toO rfl (by first | rfl | (simp only [NM]; done)) (by (repeat' apply And.intro) <;> first | trivial | rfl | omega | (simp only [NM]; omega)) (.inl rfl) ?_
          try simp (maxSteps := 4000000) only [h16, h17, h18, q27, AVS, bits_i64, EVB, eqF, Op.operands, IntKind.bits, descF, sizeF, bytesF, zeroF, seval, reduceCtorEq, ↓reduceIte, CELLS]
          refine ⟨by kernel_rfl, ?_⟩
          try simp only [h16, h17, h18, BM]
          exact Weak.sub' ⟨rfl, rfl, rfl, rfl, rfl, trivial⟩ ⟨rfl, rfl, trivial⟩ (Nat.le_of_ble_eq_true rfl)
      ·skip
       refine go_cond (by rfl) (fun h19 => ?_) (fun h19 => ?_)
       ·have gh19 := h19
        try simp only [GN, beq_iff_eq, beq_eq_false_iff_ne, bne_iff_ne, bne_eq_false_iff_eq] at gh19
        simp only [h19, dite_true, dite_false, reduceDIte, Bool.false_eq_true] at hx1
        refine go_seq ?_
        refine go_rk eqOk ttOk [] [] ⟨[(4, (bo false))], [], 3⟩ (by kernel_rfl) trivial ?_
        subst hx1
        simp only [Sum.elim_inl] at hx0
        subst hx0
        refine go_return ttOk (fun _ h => h) rfl ?_ ?_
        ·exact (by (repeat' apply And.intro) <;> first | trivial | exact Nat.le_of_ble_eq_true rfl | omega | (simp only [NM]; omega))
        ·first | rfl | (simp only [NM, CELLS] <;> rfl)
       ·have gh19 := h19
        try simp only [GN, beq_iff_eq, beq_eq_false_iff_ne, bne_iff_ne, bne_eq_false_iff_eq] at gh19
        simp only [h19, dite_true, dite_false, reduceDIte, Bool.false_eq_true] at hx1
        refine go_skip ?_
        refine go_blk ?_
        refine go_rk eqOk ttOk [(1, .tell (iV ((x14 + 1 : Nat) : Int)))] [WR (((x14 : Nat) : Int) + 1) ((x14 + 1 : Nat) : Int)] ⟨[(1, (iV a1)), (2, .ptr 0 0), (5, .ptr 1 0), (8, (iV ((x14 + 1 : Nat) : Int)))], [(0, .box (SGraph.avs a0) 76), (1, .box (SOp.avs (List.getD a0.Ops (Int.toNat a1) default)) 57)], 3⟩ (by kernel_rfl) ⟨(wr (by omega) (by omega) (by omega)), trivial⟩ ?_
        exact go_fin ⟨x14 + 1, ⟨(by first | trivial | omega | ((try dsimp only) <;> (repeat' apply And.intro) <;> first | trivial | omega | assumption | (simp; done))), hx1⟩, by first | omega | (dsimp only; omega), (Weak.canon [0, 1] [1, 2, 5, 8] (by decide) rfl (by simp) rfl (by simp) (by first | rfl | (simp only [NM, CELLS] <;> rfl) | simp [NM, CELLS]) (by first | rfl | (simp only [NM, CELLS] <;> rfl) | simp [NM, CELLS]) rfl)⟩
     ·have gh15 := h15
      try simp only [GN, beq_iff_eq, beq_eq_false_iff_ne, bne_iff_ne, bne_eq_false_iff_eq] at gh15
      simp only [h15, dite_true, dite_false, reduceDIte, Bool.false_eq_true] at hx1
      refine go_exit rfl ?_
      exact go_fin ⟨(), hx1.symm, (Weak.canon [] [] (by decide) rfl trivial rfl (by simp) (by first | rfl | (simp only [NM, CELLS] <;> rfl) | simp [NM, CELLS]) rfl rfl)⟩
    ·rintro o7 hp
     try dsimp only at hp
     subst hp
     simp only [Sum.elim_inr] at hx0
     refine go_seq ?_
     refine go_rk eqOk ttOk [] [] ⟨[(4, (bo true))], [], 0⟩ (by kernel_rfl) trivial ?_
     subst hx0
     refine go_return ttOk (fun _ h => h) rfl ?_ ?_
     ·exact (by (repeat' apply And.intro) <;> first | trivial | exact Nat.le_of_ble_eq_true rfl | omega | (simp only [NM]; omega))
     ·first | rfl | (simp only [NM, CELLS] <;> rfl)

def pontoonref05_many_L1 (a0 : SGraph) (a2 : SEdge) (x15 : Nat) (x22 : Nat) (x23 : Nat) : Nat :=
  (if h24 : (decide (((x23 : Nat) : Int) < ((((List.getD a0.Ops x15 default).In).length : Nat) : Int))) = true then letIn ((if h26 : (decide ([(List.getD ((List.getD a0.Ops x15 default).In) x23 default).From, (List.getD ((List.getD a0.Ops x15 default).In) x23 default).Port] = [a2.From, a2.Port])) = true then x22 + 1 else x22)) fun o25 => (pontoonref05_many_L1 a0 a2 x15 o25 (x23 + 1)) else x22)
termination_by ((List.getD a0.Ops x15 default).In).length - x23
decreasing_by all_goals (try simp only [GN, beq_iff_eq, beq_eq_false_iff_ne, bne_iff_ne, bne_eq_false_iff_eq] at *) <;> omega
def pontoonref05_many_L0 (a0 : SGraph) (a1 : Int) (a2 : SEdge) (x14 : Nat) (x15 : Nat) : Nat :=
  (if h16 : (decide (((x15 : Nat) : Int) < a1)) = true then letIn (pontoonref05_many_L1 a0 a2 x15 x14 0) fun o17 => (pontoonref05_many_L0 a0 a1 a2 o17 (x15 + 1)) else x14)
termination_by (Int.toNat a1) - x15
decreasing_by all_goals (try simp only [GN, beq_iff_eq, beq_eq_false_iff_ne, bne_iff_ne, bne_eq_false_iff_eq] at *) <;> omega
def pontoonref05_many (a0 : SGraph) (a1 : Int) (a2 : SEdge) : Int :=
  letIn (pontoonref05_many_L0 a0 a1 a2 0 0) fun o1 => ((o1 : Nat) : Int)
set_option maxRecDepth 10000 in
set_option maxHeartbeats 8000000 in
theorem pontoonref05_many_t (a0 : SGraph) (a1 : Int) (a2 : SEdge) (hn : 0 ≤ a1) (hn2 : a1 ≤ a0.Ops.length) (hl : a0.Ops.length ≤ 24) (z0 : SGraph.Sz a0) : FnP Try.prog 48 [.agg (SGraph.avs a0), (iV a1), .agg (SEdge.avs a2)] ((iV (pontoonref05_many a0 a1 a2))) := by
 refine FnP.intro (tt := tt) Try.func48 rfl (by kernel_rfl) (by simp [Try.ntmps48]) fun w0 A hA => ?_
 have hR := reckB_ok eqOk ttOk
 obtain ⟨res, hx0⟩ : ∃ r, pontoonref05_many a0 a1 a2 = r := ⟨_, rfl⟩
 simp only [hx0]
 unfold pontoonref05_many at hx0
 simp only [argT, Try.ntmps48]
 try simp only [SZD] at z0
 obtain ⟨zz27, zz28⟩ := z0
 refine go_seq ?_
 refine go_rk eqOk ttOk [] [] ⟨[(1, (iV a1)), (3, .ptr 0 0), (5, .ptr 1 0)], [(0, .box (SGraph.avs a0) 76), (1, .box (SEdge.avs a2) 96)], 2⟩ (by kernel_rfl) trivial ?_
 refine go_seq ?_
 refine go_rk eqOk ttOk [] [] ⟨[(1, (iV a1)), (3, .ptr 0 0), (5, .ptr 1 0), (7, (iV 0))], [(0, .box (SGraph.avs a0) 76), (1, .box (SEdge.avs a2) 96)], 2⟩ (by kernel_rfl) trivial ?_
 refine go_seq ?_
 refine go_seq ?_
 refine go_rk eqOk ttOk [] [] ⟨[(1, (iV a1)), (3, .ptr 0 0), (5, .ptr 1 0), (7, (iV 0)), (8, (iV 0))], [(0, .box (SGraph.avs a0) 76), (1, .box (SEdge.avs a2) 96)], 2⟩ (by kernel_rfl) trivial ?_
 obtain ⟨o1, hx1, hx0⟩ := letIn_ex hx0
 refine go_joinE (fun p : Nat => ⟨[(7, (iV ((p : Nat) : Int)))], [], 0⟩) (fun p : Nat => o1 = p) ?_ ?_
 ·refine go_block ?_
  refine go_loop (fun p : Nat × Nat => ⟨[(1, (iV a1)), (3, .ptr 0 0), (5, .ptr 1 0), (7, (iV ((p.1 : Nat) : Int))), (8, (iV ((p.2 : Nat) : Int)))], [(0, .box (SGraph.avs a0) 76), (1, .box (SEdge.avs a2) 96)], 2⟩) (fun p : Nat × Nat => (p.1 ≤ 4294967296 * p.2) ∧ pontoonref05_many_L0 a0 a1 a2 p.1 p.2 = o1) (fun p : Nat × Nat => (Int.toNat a1) - p.2) (0, 0) ⟨(by first | trivial | omega | ((try dsimp only) <;> (repeat' apply And.intro) <;> first | trivial | omega | assumption | (simp; done))), hx1⟩ (Weak.canon [0, 1] [1, 3, 5, 7, 8] (by decide) rfl (by simp) rfl (by simp) (by first | rfl | (simp only [NM, CELLS] <;> rfl) | simp [NM, CELLS]) (by first | rfl | (simp only [NM, CELLS] <;> rfl) | simp [NM, CELLS]) rfl) ?_
  rintro ⟨x14, x15⟩ ⟨hi29, hx1⟩
  try dsimp only at hi29 hx1 ⊢
  rw [pontoonref05_many_L0.eq_def] at hx1
  refine go_seq ?_
  refine go_seq ?_
  refine go_rk eqOk ttOk [] [] ⟨[(1, (iV a1)), (3, .ptr 0 0), (5, .ptr 1 0), (7, (iV ((x14 : Nat) : Int))), (8, (iV ((x15 : Nat) : Int))), (12, (bo (decide (((x15 : Nat) : Int) < a1))))], [(0, .box (SGraph.avs a0) 76), (1, .box (SEdge.avs a2) 96)], 2⟩ (by kernel_rfl) trivial ?_
  refine go_cond (by rfl) (fun h16 => ?_) (fun h16 => ?_)
  ·have gh16 := h16
   try simp only [GN, beq_iff_eq, beq_eq_false_iff_ne, bne_iff_ne, bne_eq_false_iff_eq] at gh16
   simp only [h16, dite_true, dite_false, reduceDIte, Bool.false_eq_true] at hx1
   refine go_skip ?_
   refine go_seq ?_
   obtain ⟨o17, hx2, hx1⟩ := letIn_ex hx1
   refine go_joinE (fun p : Nat => ⟨[(1, (iV a1)), (3, .ptr 0 0), (5, .ptr 1 0), (7, (iV ((p : Nat) : Int))), (8, (iV ((x15 : Nat) : Int)))], [(0, .box (SGraph.avs a0) 76), (1, .box (SEdge.avs a2) 96)], 2⟩) (fun p : Nat => o17 = p ∧ (p ≤ 4294967296 * x15 + 4294967296)) ?_ ?_
   ·refine go_block ?_
    refine go_seq ?_
    refine go_rk eqOk ttOk [] [] ⟨[(1, (iV a1)), (3, .ptr 0 0), (5, .ptr 1 0), (7, (iV ((x14 : Nat) : Int))), (8, (iV ((x15 : Nat) : Int))), (9, (iV 0))], [(0, .box (SGraph.avs a0) 76), (1, .box (SEdge.avs a2) 96)], 2⟩ (by kernel_rfl) trivial ?_
    refine go_block ?_
    refine go_loop (fun p : Nat × Nat => ⟨[(1, (iV a1)), (3, .ptr 0 0), (5, .ptr 1 0), (7, (iV ((p.1 : Nat) : Int))), (8, (iV ((x15 : Nat) : Int))), (9, (iV ((p.2 : Nat) : Int)))], [(0, .box (SGraph.avs a0) 76), (1, .box (SEdge.avs a2) 96)], 2⟩) (fun p : Nat × Nat => (p.2 ≤ ((List.getD a0.Ops x15 default).In).length ∧ p.1 ≤ 4294967296 * x15 + p.2) ∧ pontoonref05_many_L1 a0 a2 x15 p.1 p.2 = o17) (fun p : Nat × Nat => ((List.getD a0.Ops x15 default).In).length - p.2) (x14, 0) ⟨(by first | trivial | omega | ((try dsimp only) <;> (repeat' apply And.intro) <;> first | trivial | omega | assumption | (simp; done))), hx2⟩ (Weak.canon [0, 1] [1, 3, 5, 7, 8, 9] (by decide) rfl (by simp) rfl (by simp) (by first | rfl | (simp only [NM, CELLS] <;> rfl) | simp [NM, CELLS]) (by first | rfl | (simp only [NM, CELLS] <;> rfl) | simp [NM, CELLS]) rfl) ?_
    rintro ⟨x22, x23⟩ ⟨hi30, hx2⟩
    try dsimp only at hi30 hx2 ⊢
    rw [pontoonref05_many_L1.eq_def] at hx2
    refine go_seq ?_
    refine go_seq ?_
    have bq31 : x15 < a0.Ops.length := by omega
    have zq31 : ((List.getD a0.Ops x15 default).In).length ≤ 4294967296 := (by assumption : ∀ y ∈ a0.Ops, y.In.length ≤ 4294967296) _ (getD_mem a0.Ops x15 default bq31)
    refine go_rk eqOk ttOk [(4, .row (SOp.cells (List.getD a0.Ops x15 default))), (7, .tell (iV ((((List.getD a0.Ops x15 default).In).length : Nat) : Int)))] [IX SOp.cells a0.Ops ((x15 : Nat) : Int), LN SEdge.cells ((List.getD a0.Ops x15 default).In)] ⟨[(1, (iV a1)), (3, .ptr 0 0), (5, .ptr 1 0), (7, (iV ((x22 : Nat) : Int))), (8, (iV ((x15 : Nat) : Int))), (9, (iV ((x23 : Nat) : Int))), (23, (bo (decide (((x23 : Nat) : Int) < ((((List.getD a0.Ops x15 default).In).length : Nat) : Int)))))], [(0, .box (SGraph.avs a0) 76), (1, .box (SEdge.avs a2) 96)], 2⟩ (by kernel_rfl) ⟨(ixn bq31), ln, trivial⟩ ?_
    refine go_cond (by rfl) (fun h24 => ?_) (fun h24 => ?_)
    ·have gh24 := h24
     try simp only [GN, beq_iff_eq, beq_eq_false_iff_ne, bne_iff_ne, bne_eq_false_iff_eq] at gh24
     simp only [h24, dite_true, dite_false, reduceDIte, Bool.false_eq_true] at hx2
     refine go_skip ?_
     refine go_seq ?_
     obtain ⟨o25, hx3, hx2⟩ := letIn_ex hx2
     refine go_joinE (fun p : Nat => ⟨[(1, (iV a1)), (3, .ptr 0 0), (5, .ptr 1 0), (7, (iV ((p : Nat) : Int))), (8, (iV ((x15 : Nat) : Int))), (9, (iV ((x23 : Nat) : Int)))], [(0, .box (SGraph.avs a0) 76), (1, .box (SEdge.avs a2) 96)], 2⟩) (fun p : Nat => o25 = p ∧ (x22 ≤ p ∧ p ≤ x22 + 1)) ?_ ?_
     ·refine go_block ?_
      refine go_seq ?_
      have bq33 : x15 < a0.Ops.length := by omega
      have zq33 : ((List.getD a0.Ops x15 default).In).length ≤ 4294967296 := (by assumption : ∀ y ∈ a0.Ops, y.In.length ≤ 4294967296) _ (getD_mem a0.Ops x15 default bq33)
      have bq35 : x23 < ((List.getD a0.Ops x15 default).In).length := by omega
      refine go_dk eqOk ttOk rfl [(3, .row (SOp.cells (List.getD a0.Ops x15 default))), (7, .row (SEdge.cells (List.getD ((List.getD a0.Ops x15 default).In) x23 default)))] [IX SOp.cells a0.Ops ((x15 : Nat) : Int), IX SEdge.cells ((List.getD a0.Ops x15 default).In) ((x23 : Nat) : Int)] ⟨[(1, (iV a1)), (3, .ptr 0 0), (5, .ptr 1 0), (7, (iV ((x22 : Nat) : Int))), (8, (iV ((x15 : Nat) : Int))), (9, (iV ((x23 : Nat) : Int))), (36, (bo (decide ([(List.getD ((List.getD a0.Ops x15 default).In) x23 default).From, (List.getD ((List.getD a0.Ops x15 default).In) x23 default).Port] = [a2.From, a2.Port]))))], [(0, .box (SGraph.avs a0) 76), (1, .box (SEdge.avs a2) 96)], 2⟩ (by kernel_rfl) ⟨(ixn bq33), (ixn bq35), trivial⟩ ?_
      refine go_cond (by rfl) (fun h26 => ?_) (fun h26 => ?_)
      ·have gh26 := h26
       try simp only [GN, beq_iff_eq, beq_eq_false_iff_ne, bne_iff_ne, bne_eq_false_iff_eq] at gh26
       simp only [h26, dite_true, dite_false, reduceDIte, Bool.false_eq_true] at hx3
       refine go_rk eqOk ttOk [(1, .tell (iV ((x22 + 1 : Nat) : Int)))] [WR (((x22 : Nat) : Int) + 1) ((x22 + 1 : Nat) : Int)] ⟨[(1, (iV a1)), (3, .ptr 0 0), (5, .ptr 1 0), (7, (iV ((x22 + 1 : Nat) : Int))), (8, (iV ((x15 : Nat) : Int))), (9, (iV ((x23 : Nat) : Int)))], [(0, .box (SGraph.avs a0) 76), (1, .box (SEdge.avs a2) 96)], 2⟩ (by kernel_rfl) ⟨(wr (by omega) (by omega) (by omega)), trivial⟩ ?_
       refine go_blk ?_
       exact go_fin ⟨x22 + 1, ⟨hx3.symm, by first | omega | (dsimp only; omega)⟩, (Weak.canon [0, 1] [1, 3, 5, 7, 8, 9] (by decide) rfl (by simp) rfl (by simp) (by first | rfl | (simp only [NM, CELLS] <;> rfl) | simp [NM, CELLS]) (by first | rfl | (simp only [NM, CELLS] <;> rfl) | simp [NM, CELLS]) rfl)⟩
      ·have gh26 := h26
       try simp only [GN, beq_iff_eq, beq_eq_false_iff_ne, bne_iff_ne, bne_eq_false_iff_eq] at gh26
       simp only [h26, dite_true, dite_false, reduceDIte, Bool.false_eq_true] at hx3
       refine go_skip ?_
       refine go_blk ?_
       exact go_fin ⟨x22, ⟨hx3.symm, by first | omega | (dsimp only; omega)⟩, (Weak.canon [0, 1] [1, 3, 5, 7, 8, 9] (by decide) rfl (by simp) rfl (by simp) (by first | rfl | (simp only [NM, CELLS] <;> rfl) | simp [NM, CELLS]) (by first | rfl | (simp only [NM, CELLS] <;> rfl) | simp [NM, CELLS]) rfl)⟩
     ·rintro o25_ ⟨hp, hqo25⟩
      try dsimp only at hqo25
      try dsimp only at hp
      subst hp
      refine go_rk eqOk ttOk [(1, .tell (iV ((x23 + 1 : Nat) : Int)))] [WR (((x23 : Nat) : Int) + 1) ((x23 + 1 : Nat) : Int)] ⟨[(1, (iV a1)), (3, .ptr 0 0), (5, .ptr 1 0), (7, (iV ((o25 : Nat) : Int))), (8, (iV ((x15 : Nat) : Int))), (9, (iV ((x23 + 1 : Nat) : Int)))], [(0, .box (SGraph.avs a0) 76), (1, .box (SEdge.avs a2) 96)], 2⟩ (by kernel_rfl) ⟨(wr (by omega) (by omega) (by omega)), trivial⟩ ?_
      exact go_fin ⟨(o25, x23 + 1), ⟨(by first | trivial | omega | ((try dsimp only) <;> (repeat' apply And.intro) <;> first | trivial | omega | assumption | (simp; done))), hx2⟩, by first | omega | (dsimp only; omega), (Weak.canon [0, 1] [1, 3, 5, 7, 8, 9] (by decide) rfl (by simp) rfl (by simp) (by first | rfl | (simp only [NM, CELLS] <;> rfl) | simp [NM, CELLS]) (by first | rfl | (simp only [NM, CELLS] <;> rfl) | simp [NM, CELLS]) rfl)⟩
    ·have gh24 := h24
     try simp only [GN, beq_iff_eq, beq_eq_false_iff_ne, bne_iff_ne, bne_eq_false_iff_eq] at gh24
     simp only [h24, dite_true, dite_false, reduceDIte, Bool.false_eq_true] at hx2
     refine go_exit rfl ?_
     refine go_blk ?_
     exact go_fin ⟨x22, ⟨hx2.symm, by first | omega | (dsimp only; omega)⟩, (Weak.canon [0, 1] [1, 3, 5, 7, 8] (by decide) rfl (by simp) rfl (by simp) (by first | rfl | (simp only [NM, CELLS] <;> rfl) | simp [NM, CELLS]) (by first | rfl | (simp only [NM, CELLS] <;> rfl) | simp [NM, CELLS]) rfl)⟩
   ·rintro o17_ ⟨hp, hqo17⟩
    try dsimp only at hqo17
    try dsimp only at hp
    subst hp
    refine go_rk eqOk ttOk [(1, .tell (iV ((x15 + 1 : Nat) : Int)))] [WR (((x15 : Nat) : Int) + 1) ((x15 + 1 : Nat) : Int)] ⟨[(1, (iV a1)), (3, .ptr 0 0), (5, .ptr 1 0), (7, (iV ((o17 : Nat) : Int))), (8, (iV ((x15 + 1 : Nat) : Int)))], [(0, .box (SGraph.avs a0) 76), (1, .box (SEdge.avs a2) 96)], 2⟩ (by kernel_rfl) ⟨(wr (by omega) (by omega) (by omega)), trivial⟩ ?_
    exact go_fin ⟨(o17, x15 + 1), ⟨(by first | trivial | omega | ((try dsimp only) <;> (repeat' apply And.intro) <;> first | trivial | omega | assumption | (simp; done))), hx1⟩, by first | omega | (dsimp only; omega), (Weak.canon [0, 1] [1, 3, 5, 7, 8] (by decide) rfl (by simp) rfl (by simp) (by first | rfl | (simp only [NM, CELLS] <;> rfl) | simp [NM, CELLS]) (by first | rfl | (simp only [NM, CELLS] <;> rfl) | simp [NM, CELLS]) rfl)⟩
  ·have gh16 := h16
   try simp only [GN, beq_iff_eq, beq_eq_false_iff_ne, bne_iff_ne, bne_eq_false_iff_eq] at gh16
   simp only [h16, dite_true, dite_false, reduceDIte, Bool.false_eq_true] at hx1
   refine go_exit rfl ?_
   exact go_fin ⟨x14, hx1.symm, (Weak.canon [] [7] (by decide) rfl trivial rfl (by simp) (by first | rfl | (simp only [NM, CELLS] <;> rfl) | simp [NM, CELLS]) rfl rfl)⟩
 ·rintro o1_ hp
  try dsimp only at hp
  subst hp
  refine go_seq ?_
  refine go_rk eqOk ttOk [] [] ⟨[(6, (iV ((o1 : Nat) : Int)))], [], 0⟩ (by kernel_rfl) trivial ?_
  subst hx0
  refine go_return ttOk (fun _ h => h) rfl ?_ ?_
  ·exact (by (repeat' apply And.intro) <;> first | trivial | exact Nat.le_of_ble_eq_true rfl | omega | (simp only [NM]; omega))
  ·first | rfl | (simp only [NM, CELLS] <;> rfl)

def pontoonref05_Check_L1 (a0 : SGraph) (x18 : Nat) (x28 : Nat) : Sum (Int × Int) Unit :=
  (if h29 : (decide (((x28 : Nat) : Int) < ((((List.getD a0.Ops x18 default).In).length : Nat) : Int))) = true then (if h30 : (decide ((pontoonref05_many a0 ((x18 + 1 : Nat) : Int) (List.getD ((List.getD a0.Ops x18 default).In) x28 default)) > 1)) = true then (Sum.inl (((x18 : Nat) : Int), 53)) else (pontoonref05_Check_L1 a0 x18 (x28 + 1))) else (Sum.inr ()))
termination_by ((List.getD a0.Ops x18 default).In).length - x28
decreasing_by all_goals (try simp only [GN, beq_iff_eq, beq_eq_false_iff_ne, bne_iff_ne, bne_eq_false_iff_eq] at *) <;> omega
def pontoonref05_Check_L0 (a0 : SGraph) (x18 : Nat) : Sum (Int × Int) Unit :=
  (if h19 : (decide (((x18 : Nat) : Int) < ((a0.Ops.length : Nat) : Int))) = true then letIn ((if h22 : ((decide ((List.getD a0.Ops x18 default).Kind < 1)) || (decide ((List.getD a0.Ops x18 default).Kind > 9))) = true then (Sum.inl (((x18 : Nat) : Int), 50)) else (if h23 : (!(pontoonref05_fields (List.getD a0.Ops x18 default) a0.Parts)) = true then (Sum.inl (((x18 : Nat) : Int), 51)) else (if h24 : (!(pontoonref05_inputs a0 ((x18 : Nat) : Int))) = true then (Sum.inl (((x18 : Nat) : Int), 52)) else pontoonref05_Check_L1 a0 x18 0)))) fun o20s => Sum.elim (fun q => Sum.inl q) (fun o20 => (pontoonref05_Check_L0 a0 (x18 + 1))) o20s else (Sum.inr ()))
termination_by a0.Ops.length - x18
decreasing_by all_goals (try simp only [GN, beq_iff_eq, beq_eq_false_iff_ne, bne_iff_ne, bne_eq_false_iff_eq] at *) <;> omega
def pontoonref05_Check_L3 (a0 : SGraph) (x41 : Nat) (x47 : Nat) : Sum (Int × Int) Unit :=
  (if h48 : (decide (((x47 : Nat) : Int) < (pontoonref05_Ports (List.getD a0.Ops x41 default)))) = true then (if h49 : ((pontoonref05_many a0 ((a0.Ops.length : Nat) : Int) (SEdge.mk ((x41 : Nat) : Int) ((x47 : Nat) : Int))) == 0) = true then (Sum.inl (((x41 : Nat) : Int), 54)) else (pontoonref05_Check_L3 a0 x41 (x47 + 1))) else (Sum.inr ()))
termination_by (Int.toNat (pontoonref05_Ports (List.getD a0.Ops x41 default))) - x47
decreasing_by all_goals (try simp only [GN, beq_iff_eq, beq_eq_false_iff_ne, bne_iff_ne, bne_eq_false_iff_eq] at *) <;> omega
def pontoonref05_Check_L2 (a0 : SGraph) (x41 : Nat) : Sum (Int × Int) Unit :=
  (if h42 : (decide (((x41 : Nat) : Int) < ((a0.Ops.length : Nat) : Int))) = true then letIn (pontoonref05_Check_L3 a0 x41 0) fun o43s => Sum.elim (fun q => Sum.inl q) (fun o43 => (pontoonref05_Check_L2 a0 (x41 + 1))) o43s else (Sum.inr ()))
termination_by a0.Ops.length - x41
decreasing_by all_goals (try simp only [GN, beq_iff_eq, beq_eq_false_iff_ne, bne_iff_ne, bne_eq_false_iff_eq] at *) <;> omega
def pontoonref05_Check_L5 (a0 : SGraph) (x73 : Nat) (x85 : Nat) (x86 : Nat) (x87 : Nat) : Nat × Nat :=
  (if h88 : (decide (((x87 : Nat) : Int) < ((a0.Ops.length : Nat) : Int))) = true then letIn (letIn ((if h92 : (((List.getD a0.Ops x87 default).Kind == 1) && ((List.getD a0.Ops x87 default).Part == ((x73 : Nat) : Int))) = true then x86 + 1 else x86)) fun o91 => (if h94 : ((((x73 : Nat) : Int) == 0) && ((List.getD a0.Ops x87 default).Kind == 9)) = true then (x85 + 1, o91) else (x85, o91))) fun o89 => (pontoonref05_Check_L5 a0 x73 o89.1 o89.2 (x87 + 1)) else (x85, x86))
termination_by a0.Ops.length - x87
decreasing_by all_goals (try simp only [GN, beq_iff_eq, beq_eq_false_iff_ne, bne_iff_ne, bne_eq_false_iff_eq] at *) <;> omega
def pontoonref05_Check_L4 (a0 : SGraph) (x72 : Nat) (x73 : Nat) : Sum (Int × Int) Nat :=
  (if h74 : (decide (((x73 : Nat) : Int) < a0.Parts)) = true then letIn (letIn (pontoonref05_Check_L5 a0 x73 x72 0 0) fun o76 => (if h95 : (((o76.2 : Nat) : Int) != 1) = true then (Sum.inl (0, 55)) else (Sum.inr o76.1))) fun o75s => Sum.elim (fun q => Sum.inl q) (fun o75 => (pontoonref05_Check_L4 a0 o75 (x73 + 1))) o75s else (Sum.inr x72))
termination_by (Int.toNat a0.Parts) - x73
decreasing_by all_goals (try simp only [GN, beq_iff_eq, beq_eq_false_iff_ne, bne_iff_ne, bne_eq_false_iff_eq] at *) <;> omega
def pontoonref05_Check (a0 : SGraph) : Int × Int :=
  (bif ((decide (a0.Parts < 1)) || (decide (a0.Parts > 4))) then (0, 1) else (bif (decide (((a0.Ops.length : Nat) : Int) > 24)) then (0, 3) else letIn (pontoonref05_Check_L0 a0 0) fun o4s => Sum.elim (fun q => q) (fun o4 => letIn (pontoonref05_Check_L2 a0 0) fun o31s => Sum.elim (fun q => q) (fun o31 => letIn (pontoonref05_Check_L4 a0 0 0) fun o50s => Sum.elim (fun q => q) (fun o50 => (bif (((o50 : Nat) : Int) != 1) then (0, 56) else (0, 0))) o50s) o31s) o4s))
set_option maxRecDepth 10000 in
set_option maxHeartbeats 8000000 in
theorem pontoonref05_Check_t (a0 : SGraph) (z0 : SGraph.Sz a0) : FnP Try.prog 24 [.agg (SGraph.avs a0)] (.tup [(iV ((pontoonref05_Check a0).1)), (iV ((pontoonref05_Check a0).2))]) := by
 refine FnP.intro (tt := tt) Try.func24 rfl (by kernel_rfl) (by simp [Try.ntmps24]) fun w0 A hA => ?_
 have hR := reckB_ok eqOk ttOk
 obtain ⟨res, hx0⟩ : ∃ r, pontoonref05_Check a0 = r := ⟨_, rfl⟩
 simp only [hx0]
 unfold pontoonref05_Check at hx0
 simp only [argT, Try.ntmps24]
 try simp only [SZD] at z0
 obtain ⟨zz97, zz98⟩ := z0
 refine go_seq ?_
 refine go_rk eqOk ttOk [] [] ⟨[(1, .ptr 0 0)], [(0, .box (SGraph.avs a0) 76)], 1⟩ (by kernel_rfl) trivial ?_
 refine go_seq ?_
 refine go_seq ?_
 refine go_rk eqOk ttOk [] [] ⟨[(1, .ptr 0 0), (20, (bo ((decide (a0.Parts < 1)) || (decide (a0.Parts > 4)))))], [(0, .box (SGraph.avs a0) 76)], 1⟩ (by kernel_rfl) trivial ?_
 refine go_cond (by rfl) (fun h2 => ?_) (fun h2 => ?_)
 ·have gh2 := h2
  try simp only [GN, beq_iff_eq, beq_eq_false_iff_ne, bne_iff_ne, bne_eq_false_iff_eq] at gh2
  simp only [h2, cond_true, cond_false] at hx0
  refine go_seq ?_
  refine go_rk eqOk ttOk [] [] ⟨[(2, (iV 0)), (3, (iV 1))], [], 1⟩ (by kernel_rfl) trivial ?_
  subst hx0
  refine go_return ttOk (fun _ h => h) rfl ?_ ?_
  ·exact (by (repeat' apply And.intro) <;> first | trivial | exact Nat.le_of_ble_eq_true rfl | omega | (simp only [NM]; omega))
  ·first | rfl | (simp only [NM, CELLS] <;> rfl)
 ·have gh2 := h2
  try simp only [GN, beq_iff_eq, beq_eq_false_iff_ne, bne_iff_ne, bne_eq_false_iff_eq] at gh2
  simp only [h2, cond_true, cond_false] at hx0
  refine go_skip ?_
  refine go_seq ?_
  refine go_seq ?_
  refine go_rk eqOk ttOk [(2, .tell (iV ((a0.Ops.length : Nat) : Int)))] [LN SOp.cells a0.Ops] ⟨[(1, .ptr 0 0), (24, (bo (decide (((a0.Ops.length : Nat) : Int) > 24))))], [(0, .box (SGraph.avs a0) 76)], 1⟩ (by kernel_rfl) ⟨ln, trivial⟩ ?_
  refine go_cond (by rfl) (fun h3 => ?_) (fun h3 => ?_)
  ·have gh3 := h3
   try simp only [GN, beq_iff_eq, beq_eq_false_iff_ne, bne_iff_ne, bne_eq_false_iff_eq] at gh3
   simp only [h3, cond_true, cond_false] at hx0
   refine go_seq ?_
   refine go_rk eqOk ttOk [] [] ⟨[(2, (iV 0)), (3, (iV 3))], [], 1⟩ (by kernel_rfl) trivial ?_
   subst hx0
   refine go_return ttOk (fun _ h => h) rfl ?_ ?_
   ·exact (by (repeat' apply And.intro) <;> first | trivial | exact Nat.le_of_ble_eq_true rfl | omega | (simp only [NM]; omega))
   ·first | rfl | (simp only [NM, CELLS] <;> rfl)
  ·have gh3 := h3
   try simp only [GN, beq_iff_eq, beq_eq_false_iff_ne, bne_iff_ne, bne_eq_false_iff_eq] at gh3
   simp only [h3, cond_true, cond_false] at hx0
   refine go_skip ?_
   refine go_seq ?_
   refine go_seq ?_
   refine go_rk eqOk ttOk [] [] ⟨[(1, .ptr 0 0), (4, (iV 0))], [(0, .box (SGraph.avs a0) 76)], 1⟩ (by kernel_rfl) trivial ?_
   obtain ⟨o4s, hx1, hx0⟩ := letIn_ex hx0
   refine go_joinE (fun p : Unit => ⟨[(1, .ptr 0 0)], [(0, .box (SGraph.avs a0) 76)], 1⟩) (fun p : Unit => o4s = Sum.inr p) ?_ ?_
   ·refine go_block ?_
    refine go_lenB (b := 0) rfl 1 rfl (fun hl99 => ?_)
    simp only [List.length_map, maxLen_eq] at hl99
    refine go_loop (fun p : Nat => ⟨[(1, .ptr 0 0), (4, (iV ((p : Nat) : Int)))], [(0, .box (SGraph.avs a0) 76)], 1⟩) (fun p : Nat => (p ≤ a0.Ops.length) ∧ pontoonref05_Check_L0 a0 p = o4s) (fun p : Nat => a0.Ops.length - p) 0 ⟨(by first | trivial | omega | ((try dsimp only) <;> (repeat' apply And.intro) <;> first | trivial | omega | assumption | (simp; done))), hx1⟩ (Weak.canon [0] [1, 4] (by decide) rfl (by simp) rfl (by simp) (by first | rfl | (simp only [NM, CELLS] <;> rfl) | simp [NM, CELLS]) (by first | rfl | (simp only [NM, CELLS] <;> rfl) | simp [NM, CELLS]) rfl) ?_
    rintro x18 ⟨hi100, hx1⟩
    try dsimp only at hi100 hx1 ⊢
    rw [pontoonref05_Check_L0.eq_def] at hx1
    refine go_seq ?_
    refine go_seq ?_
    refine go_rk eqOk ttOk [(3, .tell (iV ((a0.Ops.length : Nat) : Int)))] [LN SOp.cells a0.Ops] ⟨[(1, .ptr 0 0), (4, (iV ((x18 : Nat) : Int))), (29, (bo (decide (((x18 : Nat) : Int) < ((a0.Ops.length : Nat) : Int)))))], [(0, .box (SGraph.avs a0) 76)], 1⟩ (by kernel_rfl) ⟨ln, trivial⟩ ?_
    refine go_cond (by rfl) (fun h19 => ?_) (fun h19 => ?_)
    ·have gh19 := h19
     try simp only [GN, beq_iff_eq, beq_eq_false_iff_ne, bne_iff_ne, bne_eq_false_iff_eq] at gh19
     simp only [h19, dite_true, dite_false, reduceDIte, Bool.false_eq_true] at hx1
     refine go_skip ?_
     refine go_seq ?_
     obtain ⟨o20s, hx2, hx1⟩ := letIn_ex hx1
     refine go_joinE (fun p : Unit => ⟨[(1, .ptr 0 0), (4, (iV ((x18 : Nat) : Int)))], [(0, .box (SGraph.avs a0) 76)], 1⟩) (fun p : Unit => o20s = Sum.inr p) ?_ ?_
     ·refine go_block ?_
      refine go_seq ?_
      have bq101 : x18 < a0.Ops.length := by omega
      have zq101 : ((List.getD a0.Ops x18 default).In).length ≤ 4294967296 := (by assumption : ∀ y ∈ a0.Ops, y.In.length ≤ 4294967296) _ (getD_mem a0.Ops x18 default bq101)
      refine go_rk eqOk ttOk [(3, .row (SOp.cells (List.getD a0.Ops x18 default)))] [IX SOp.cells a0.Ops ((x18 : Nat) : Int)] ⟨[(1, .ptr 0 0), (4, (iV ((x18 : Nat) : Int))), (5, .ptr 1 0)], [(0, .box (SGraph.avs a0) 76), (1, .box (SOp.avs (List.getD a0.Ops x18 default)) 57)], 2⟩ (by kernel_rfl) ⟨(ixn bq101), trivial⟩ ?_
      refine go_seq ?_
      refine go_seq ?_
      refine go_rk eqOk ttOk [] [] ⟨[(1, .ptr 0 0), (4, (iV ((x18 : Nat) : Int))), (5, .ptr 1 0), (44, (bo ((decide ((List.getD a0.Ops x18 default).Kind < 1)) || (decide ((List.getD a0.Ops x18 default).Kind > 9)))))], [(0, .box (SGraph.avs a0) 76), (1, .box (SOp.avs (List.getD a0.Ops x18 default)) 57)], 2⟩ (by kernel_rfl) trivial ?_
      refine go_cond (by rfl) (fun h22 => ?_) (fun h22 => ?_)
      ·have gh22 := h22
       try simp only [GN, beq_iff_eq, beq_eq_false_iff_ne, bne_iff_ne, bne_eq_false_iff_eq] at gh22
       simp only [h22, dite_true, dite_false, reduceDIte, Bool.false_eq_true] at hx2
       refine go_seq ?_
       refine go_rk eqOk ttOk [] [] ⟨[(2, (iV ((x18 : Nat) : Int))), (3, (iV 50))], [], 2⟩ (by kernel_rfl) trivial ?_
       subst hx2
       simp only [Sum.elim_inl] at hx1
       subst hx1
       simp only [Sum.elim_inl] at hx0
       subst hx0
       refine go_return ttOk (fun _ h => h) rfl ?_ ?_
       ·exact (by (repeat' apply And.intro) <;> first | trivial | exact Nat.le_of_ble_eq_true rfl | omega | (simp only [NM]; omega))
       ·first | rfl | (simp only [NM, CELLS] <;> rfl)
      ·have gh22 := h22
       try simp only [GN, beq_iff_eq, beq_eq_false_iff_ne, bne_iff_ne, bne_eq_false_iff_eq] at gh22
       simp only [h22, dite_true, dite_false, reduceDIte, Bool.false_eq_true] at hx2
       refine go_skip ?_
       refine go_seq ?_
       refine go_seq ?_
       refine go_rk eqOk ttOk [(3, .fn ((pontoonref05_fields_t (List.getD a0.Ops x18 default) a0.Parts)).toO)] [AQ ((pontoonref05_fields_t (List.getD a0.Ops x18 default) a0.Parts)).toO] ⟨[(1, .ptr 0 0), (4, (iV ((x18 : Nat) : Int))), (5, .ptr 1 0), (50, (bo (!(pontoonref05_fields (List.getD a0.Ops x18 default) a0.Parts))))], [(0, .box (SGraph.avs a0) 76), (1, .box (SOp.avs (List.getD a0.Ops x18 default)) 57)], 2⟩ (by kernel_rfl) ⟨rfl, trivial⟩ ?_
       refine go_cond (by rfl) (fun h23 => ?_) (fun h23 => ?_)
       ·have gh23 := h23
        try simp only [GN, beq_iff_eq, beq_eq_false_iff_ne, bne_iff_ne, bne_eq_false_iff_eq] at gh23
        simp only [h23, dite_true, dite_false, reduceDIte, Bool.false_eq_true] at hx2
        refine go_seq ?_
        refine go_rk eqOk ttOk [] [] ⟨[(2, (iV ((x18 : Nat) : Int))), (3, (iV 51))], [], 2⟩ (by kernel_rfl) trivial ?_
        subst hx2
        simp only [Sum.elim_inl] at hx1
        subst hx1
        simp only [Sum.elim_inl] at hx0
        subst hx0
        refine go_return ttOk (fun _ h => h) rfl ?_ ?_
        ·exact (by (repeat' apply And.intro) <;> first | trivial | exact Nat.le_of_ble_eq_true rfl | omega | (simp only [NM]; omega))
        ·first | rfl | (simp only [NM, CELLS] <;> rfl)
       ·have gh23 := h23
        try simp only [GN, beq_iff_eq, beq_eq_false_iff_ne, bne_iff_ne, bne_eq_false_iff_eq] at gh23
        simp only [h23, dite_true, dite_false, reduceDIte, Bool.false_eq_true] at hx2
        refine go_skip ?_
        refine go_seq ?_
        refine go_seq ?_
        refine go_rk eqOk ttOk [(2, .fn ((pontoonref05_inputs_t a0 ((x18 : Nat) : Int) (by (try simp only [SZD]); (repeat' apply And.intro) <;> first | assumption | omega | simp_all) (by (try simp only [SZD]); (repeat' apply And.intro) <;> first | assumption | omega | simp_all) (by (try simp only [SZD]); (repeat' apply And.intro) <;> first | assumption | omega | simp_all))).toO)] [AQ ((pontoonref05_inputs_t a0 ((x18 : Nat) : Int) (by (try simp only [SZD]); (repeat' apply And.intro) <;> first | assumption | omega | simp_all) (by (try simp only [SZD]); (repeat' apply And.intro) <;> first | assumption | omega | simp_all) (by (try simp only [SZD]); (repeat' apply And.intro) <;> first | assumption | omega | simp_all))).toO] ⟨[(1, .ptr 0 0), (4, (iV ((x18 : Nat) : Int))), (5, .ptr 1 0), (55, (bo (!(pontoonref05_inputs a0 ((x18 : Nat) : Int)))))], [(0, .box (SGraph.avs a0) 76), (1, .box (SOp.avs (List.getD a0.Ops x18 default)) 57)], 2⟩ (by kernel_rfl) ⟨rfl, trivial⟩ ?_
        refine go_cond (by rfl) (fun h24 => ?_) (fun h24 => ?_)
        ·have gh24 := h24
         try simp only [GN, beq_iff_eq, beq_eq_false_iff_ne, bne_iff_ne, bne_eq_false_iff_eq] at gh24
         simp only [h24, dite_true, dite_false, reduceDIte, Bool.false_eq_true] at hx2
         refine go_seq ?_
         refine go_rk eqOk ttOk [] [] ⟨[(2, (iV ((x18 : Nat) : Int))), (3, (iV 52))], [], 2⟩ (by kernel_rfl) trivial ?_
         subst hx2
         simp only [Sum.elim_inl] at hx1
         subst hx1
         simp only [Sum.elim_inl] at hx0
         subst hx0
         refine go_return ttOk (fun _ h => h) rfl ?_ ?_
         ·exact (by (repeat' apply And.intro) <;> first | trivial | exact Nat.le_of_ble_eq_true rfl | omega | (simp only [NM]; omega))
         ·first | rfl | (simp only [NM, CELLS] <;> rfl)
        ·have gh24 := h24
         try simp only [GN, beq_iff_eq, beq_eq_false_iff_ne, bne_iff_ne, bne_eq_false_iff_eq] at gh24
         simp only [h24, dite_true, dite_false, reduceDIte, Bool.false_eq_true] at hx2
         refine go_skip ?_
         refine go_seq ?_
         refine go_rk eqOk ttOk [] [] ⟨[(1, .ptr 0 0), (4, (iV ((x18 : Nat) : Int))), (5, .ptr 1 0), (6, (iV 0))], [(0, .box (SGraph.avs a0) 76), (1, .box (SOp.avs (List.getD a0.Ops x18 default)) 57)], 2⟩ (by kernel_rfl) trivial ?_
         refine go_block ?_
         refine go_lenB (b := 1) rfl 4 rfl (fun hl103 => ?_)
         simp only [List.length_map, maxLen_eq] at hl103
         refine go_loop (fun p : Nat => ⟨[(1, .ptr 0 0), (4, (iV ((x18 : Nat) : Int))), (5, .ptr 1 0), (6, (iV ((p : Nat) : Int)))], [(0, .box (SGraph.avs a0) 76), (1, .box (SOp.avs (List.getD a0.Ops x18 default)) 57)], 2⟩) (fun p : Nat => (p ≤ ((List.getD a0.Ops x18 default).In).length) ∧ pontoonref05_Check_L1 a0 x18 p = o20s) (fun p : Nat => ((List.getD a0.Ops x18 default).In).length - p) 0 ⟨(by first | trivial | omega | ((try dsimp only) <;> (repeat' apply And.intro) <;> first | trivial | omega | assumption | (simp; done))), hx2⟩ (Weak.canon [0, 1] [1, 4, 5, 6] (by decide) rfl (by simp) rfl (by simp) (by first | rfl | (simp only [NM, CELLS] <;> rfl) | simp [NM, CELLS]) (by first | rfl | (simp only [NM, CELLS] <;> rfl) | simp [NM, CELLS]) rfl) ?_
         rintro x28 ⟨hi104, hx2⟩
         try dsimp only at hi104 hx2 ⊢
         rw [pontoonref05_Check_L1.eq_def] at hx2
         refine go_seq ?_
         refine go_seq ?_
         refine go_rk eqOk ttOk [(3, .tell (iV ((((List.getD a0.Ops x18 default).In).length : Nat) : Int)))] [LN SEdge.cells ((List.getD a0.Ops x18 default).In)] ⟨[(1, .ptr 0 0), (4, (iV ((x18 : Nat) : Int))), (5, .ptr 1 0), (6, (iV ((x28 : Nat) : Int))), (61, (bo (decide (((x28 : Nat) : Int) < ((((List.getD a0.Ops x18 default).In).length : Nat) : Int)))))], [(0, .box (SGraph.avs a0) 76), (1, .box (SOp.avs (List.getD a0.Ops x18 default)) 57)], 2⟩ (by kernel_rfl) ⟨ln, trivial⟩ ?_
         refine go_cond (by rfl) (fun h29 => ?_) (fun h29 => ?_)
         ·have gh29 := h29
          try simp only [GN, beq_iff_eq, beq_eq_false_iff_ne, bne_iff_ne, bne_eq_false_iff_eq] at gh29
          simp only [h29, dite_true, dite_false, reduceDIte, Bool.false_eq_true] at hx2
          refine go_skip ?_
          refine go_seq ?_
          refine go_block ?_
          refine go_seq ?_
          have bq105 : x28 < ((List.getD a0.Ops x18 default).In).length := by omega
          refine go_dk eqOk ttOk rfl [(2, .tell (iV ((x18 + 1 : Nat) : Int))), (6, .row (SEdge.cells (List.getD ((List.getD a0.Ops x18 default).In) x28 default))), (8, .fn ((pontoonref05_many_t a0 ((x18 + 1 : Nat) : Int) (List.getD ((List.getD a0.Ops x18 default).In) x28 default) (by (try simp only [SZD]); (repeat' apply And.intro) <;> first | assumption | omega | simp_all) (by (try simp only [SZD]); (repeat' apply And.intro) <;> first | assumption | omega | simp_all) (by (try simp only [SZD]); (repeat' apply And.intro) <;> first | assumption | omega | simp_all) (by (try simp only [SZD]); (repeat' apply And.intro) <;> first | assumption | omega | simp_all))).toO)] [WR (((x18 : Nat) : Int) + 1) ((x18 + 1 : Nat) : Int), IX SEdge.cells ((List.getD a0.Ops x18 default).In) ((x28 : Nat) : Int), AQ ((pontoonref05_many_t a0 ((x18 + 1 : Nat) : Int) (List.getD ((List.getD a0.Ops x18 default).In) x28 default) (by (try simp only [SZD]); (repeat' apply And.intro) <;> first | assumption | omega | simp_all) (by (try simp only [SZD]); (repeat' apply And.intro) <;> first | assumption | omega | simp_all) (by (try simp only [SZD]); (repeat' apply And.intro) <;> first | assumption | omega | simp_all) (by (try simp only [SZD]); (repeat' apply And.intro) <;> first | assumption | omega | simp_all))).toO] ⟨[(1, .ptr 0 0), (4, (iV ((x18 : Nat) : Int))), (5, .ptr 1 0), (6, (iV ((x28 : Nat) : Int))), (73, (bo (decide ((pontoonref05_many a0 ((x18 + 1 : Nat) : Int) (List.getD ((List.getD a0.Ops x18 default).In) x28 default)) > 1))))], [(0, .box (SGraph.avs a0) 76), (1, .box (SOp.avs (List.getD a0.Ops x18 default)) 57)], 2⟩ (by kernel_rfl) ⟨(wr (by omega) (by omega) (by omega)), (ixn bq105), rfl, trivial⟩ ?_
          refine go_cond (by rfl) (fun h30 => ?_) (fun h30 => ?_)
          ·have gh30 := h30
           try simp only [GN, beq_iff_eq, beq_eq_false_iff_ne, bne_iff_ne, bne_eq_false_iff_eq] at gh30
           simp only [h30, dite_true, dite_false, reduceDIte, Bool.false_eq_true] at hx2
           refine go_seq ?_
           refine go_rk eqOk ttOk [] [] ⟨[(2, (iV ((x18 : Nat) : Int))), (3, (iV 53))], [], 2⟩ (by kernel_rfl) trivial ?_
           subst hx2
           simp only [Sum.elim_inl] at hx1
           subst hx1
           simp only [Sum.elim_inl] at hx0
           subst hx0
           refine go_return ttOk (fun _ h => h) rfl ?_ ?_
           ·exact (by (repeat' apply And.intro) <;> first | trivial | exact Nat.le_of_ble_eq_true rfl | omega | (simp only [NM]; omega))
           ·first | rfl | (simp only [NM, CELLS] <;> rfl)
          ·have gh30 := h30
           try simp only [GN, beq_iff_eq, beq_eq_false_iff_ne, bne_iff_ne, bne_eq_false_iff_eq] at gh30
           simp only [h30, dite_true, dite_false, reduceDIte, Bool.false_eq_true] at hx2
           refine go_skip ?_
           refine go_blk ?_
           refine go_rk eqOk ttOk [(1, .tell (iV ((x28 + 1 : Nat) : Int)))] [WR (((x28 : Nat) : Int) + 1) ((x28 + 1 : Nat) : Int)] ⟨[(1, .ptr 0 0), (4, (iV ((x18 : Nat) : Int))), (5, .ptr 1 0), (6, (iV ((x28 + 1 : Nat) : Int)))], [(0, .box (SGraph.avs a0) 76), (1, .box (SOp.avs (List.getD a0.Ops x18 default)) 57)], 2⟩ (by kernel_rfl) ⟨(wr (by omega) (by omega) (by omega)), trivial⟩ ?_
           exact go_fin ⟨x28 + 1, ⟨(by first | trivial | omega | ((try dsimp only) <;> (repeat' apply And.intro) <;> first | trivial | omega | assumption | (simp; done))), hx2⟩, by first | omega | (dsimp only; omega), (Weak.canon [0, 1] [1, 4, 5, 6] (by decide) rfl (by simp) rfl (by simp) (by first | rfl | (simp only [NM, CELLS] <;> rfl) | simp [NM, CELLS]) (by first | rfl | (simp only [NM, CELLS] <;> rfl) | simp [NM, CELLS]) rfl)⟩
         ·have gh29 := h29
          try simp only [GN, beq_iff_eq, beq_eq_false_iff_ne, bne_iff_ne, bne_eq_false_iff_eq] at gh29
          simp only [h29, dite_true, dite_false, reduceDIte, Bool.false_eq_true] at hx2
          refine go_exit rfl ?_
          refine go_blk ?_
          exact go_fin ⟨(), hx2.symm, (Weak.canon [0] [1, 4] (by decide) rfl (by simp) rfl (by simp) (by first | rfl | (simp only [NM, CELLS] <;> rfl) | simp [NM, CELLS]) (by first | rfl | (simp only [NM, CELLS] <;> rfl) | simp [NM, CELLS]) rfl)⟩
     ·rintro o20 hp
      try dsimp only at hp
      subst hp
      simp only [Sum.elim_inr] at hx1
      refine go_rk eqOk ttOk [(1, .tell (iV ((x18 + 1 : Nat) : Int)))] [WR (((x18 : Nat) : Int) + 1) ((x18 + 1 : Nat) : Int)] ⟨[(1, .ptr 0 0), (4, (iV ((x18 + 1 : Nat) : Int)))], [(0, .box (SGraph.avs a0) 76)], 1⟩ (by kernel_rfl) ⟨(wr (by omega) (by omega) (by omega)), trivial⟩ ?_
      exact go_fin ⟨x18 + 1, ⟨(by first | trivial | omega | ((try dsimp only) <;> (repeat' apply And.intro) <;> first | trivial | omega | assumption | (simp; done))), hx1⟩, by first | omega | (dsimp only; omega), (Weak.canon [0] [1, 4] (by decide) rfl (by simp) rfl (by simp) (by first | rfl | (simp only [NM, CELLS] <;> rfl) | simp [NM, CELLS]) (by first | rfl | (simp only [NM, CELLS] <;> rfl) | simp [NM, CELLS]) rfl)⟩
    ·have gh19 := h19
     try simp only [GN, beq_iff_eq, beq_eq_false_iff_ne, bne_iff_ne, bne_eq_false_iff_eq] at gh19
     simp only [h19, dite_true, dite_false, reduceDIte, Bool.false_eq_true] at hx1
     refine go_exit rfl ?_
     exact go_fin ⟨(), hx1.symm, (Weak.canon [0] [1] (by decide) rfl (by simp) rfl (by simp) (by first | rfl | (simp only [NM, CELLS] <;> rfl) | simp [NM, CELLS]) (by first | rfl | (simp only [NM, CELLS] <;> rfl) | simp [NM, CELLS]) rfl)⟩
   ·rintro o4 hp
    try dsimp only at hp
    subst hp
    simp only [Sum.elim_inr] at hx0
    refine go_seq ?_
    refine go_seq ?_
    refine go_rk eqOk ttOk [] [] ⟨[(1, .ptr 0 0), (7, (iV 0))], [(0, .box (SGraph.avs a0) 76)], 1⟩ (by kernel_rfl) trivial ?_
    obtain ⟨o31s, hx1, hx0⟩ := letIn_ex hx0
    refine go_joinE (fun p : Unit => ⟨[(1, .ptr 0 0)], [(0, .box (SGraph.avs a0) 76)], 1⟩) (fun p : Unit => o31s = Sum.inr p) ?_ ?_
    ·refine go_block ?_
     refine go_lenB (b := 0) rfl 1 rfl (fun hl106 => ?_)
     simp only [List.length_map, maxLen_eq] at hl106
     refine go_loop (fun p : Nat => ⟨[(1, .ptr 0 0), (7, (iV ((p : Nat) : Int)))], [(0, .box (SGraph.avs a0) 76)], 1⟩) (fun p : Nat => (p ≤ a0.Ops.length) ∧ pontoonref05_Check_L2 a0 p = o31s) (fun p : Nat => a0.Ops.length - p) 0 ⟨(by first | trivial | omega | ((try dsimp only) <;> (repeat' apply And.intro) <;> first | trivial | omega | assumption | (simp; done))), hx1⟩ (Weak.canon [0] [1, 7] (by decide) rfl (by simp) rfl (by simp) (by first | rfl | (simp only [NM, CELLS] <;> rfl) | simp [NM, CELLS]) (by first | rfl | (simp only [NM, CELLS] <;> rfl) | simp [NM, CELLS]) rfl) ?_
     rintro x41 ⟨hi107, hx1⟩
     try dsimp only at hi107 hx1 ⊢
     rw [pontoonref05_Check_L2.eq_def] at hx1
     refine go_seq ?_
     refine go_seq ?_
     refine go_rk eqOk ttOk [(3, .tell (iV ((a0.Ops.length : Nat) : Int)))] [LN SOp.cells a0.Ops] ⟨[(1, .ptr 0 0), (7, (iV ((x41 : Nat) : Int))), (79, (bo (decide (((x41 : Nat) : Int) < ((a0.Ops.length : Nat) : Int)))))], [(0, .box (SGraph.avs a0) 76)], 1⟩ (by kernel_rfl) ⟨ln, trivial⟩ ?_
     refine go_cond (by rfl) (fun h42 => ?_) (fun h42 => ?_)
     ·have gh42 := h42
      try simp only [GN, beq_iff_eq, beq_eq_false_iff_ne, bne_iff_ne, bne_eq_false_iff_eq] at gh42
      simp only [h42, dite_true, dite_false, reduceDIte, Bool.false_eq_true] at hx1
      refine go_skip ?_
      refine go_seq ?_
      obtain ⟨o43s, hx2, hx1⟩ := letIn_ex hx1
      refine go_joinE (fun p : Unit => ⟨[(1, .ptr 0 0), (7, (iV ((x41 : Nat) : Int)))], [(0, .box (SGraph.avs a0) 76)], 1⟩) (fun p : Unit => o43s = Sum.inr p) ?_ ?_
      ·refine go_block ?_
       refine go_seq ?_
       refine go_rk eqOk ttOk [] [] ⟨[(1, .ptr 0 0), (7, (iV ((x41 : Nat) : Int))), (8, (iV 0))], [(0, .box (SGraph.avs a0) 76)], 1⟩ (by kernel_rfl) trivial ?_
       refine go_block ?_
       refine go_loop (fun p : Nat => ⟨[(1, .ptr 0 0), (7, (iV ((x41 : Nat) : Int))), (8, (iV ((p : Nat) : Int)))], [(0, .box (SGraph.avs a0) 76)], 1⟩) (fun p : Nat => (True) ∧ pontoonref05_Check_L3 a0 x41 p = o43s) (fun p : Nat => (Int.toNat (pontoonref05_Ports (List.getD a0.Ops x41 default))) - p) 0 ⟨(by first | trivial | omega | ((try dsimp only) <;> (repeat' apply And.intro) <;> first | trivial | omega | assumption | (simp; done))), hx2⟩ (Weak.canon [0] [1, 7, 8] (by decide) rfl (by simp) rfl (by simp) (by first | rfl | (simp only [NM, CELLS] <;> rfl) | simp [NM, CELLS]) (by first | rfl | (simp only [NM, CELLS] <;> rfl) | simp [NM, CELLS]) rfl) ?_
       rintro x47 ⟨hi108, hx2⟩
       try dsimp only at hi108 hx2 ⊢
       rw [pontoonref05_Check_L3.eq_def] at hx2
       have hP := pontoonref05_Ports_le (List.getD a0.Ops x41 default)
       refine go_seq ?_
       refine go_seq ?_
       have bq109 : x41 < a0.Ops.length := by omega
       have zq109 : ((List.getD a0.Ops x41 default).In).length ≤ 4294967296 := (by assumption : ∀ y ∈ a0.Ops, y.In.length ≤ 4294967296) _ (getD_mem a0.Ops x41 default bq109)
       refine go_rk eqOk ttOk [(4, .row (SOp.cells (List.getD a0.Ops x41 default))), (6, .fn ((pontoonref05_Ports_t (List.getD a0.Ops x41 default))).toO)] [IX SOp.cells a0.Ops ((x41 : Nat) : Int), AQ ((pontoonref05_Ports_t (List.getD a0.Ops x41 default))).toO] ⟨[(1, .ptr 0 0), (7, (iV ((x41 : Nat) : Int))), (8, (iV ((x47 : Nat) : Int))), (89, (bo (decide (((x47 : Nat) : Int) < (pontoonref05_Ports (List.getD a0.Ops x41 default))))))], [(0, .box (SGraph.avs a0) 76)], 1⟩ (by kernel_rfl) ⟨(ixn bq109), rfl, trivial⟩ ?_
       refine go_cond (by rfl) (fun h48 => ?_) (fun h48 => ?_)
       ·have gh48 := h48
        try simp only [GN, beq_iff_eq, beq_eq_false_iff_ne, bne_iff_ne, bne_eq_false_iff_eq] at gh48
        simp only [h48, dite_true, dite_false, reduceDIte, Bool.false_eq_true] at hx2
        refine go_skip ?_
        refine go_seq ?_
        refine go_block ?_
        refine go_seq ?_
        refine go_rk eqOk ttOk [(3, .tell (iV ((a0.Ops.length : Nat) : Int))), (7, .fn ((pontoonref05_many_t a0 ((a0.Ops.length : Nat) : Int) (SEdge.mk ((x41 : Nat) : Int) ((x47 : Nat) : Int)) (by (try simp only [SZD]); (repeat' apply And.intro) <;> first | assumption | omega | simp_all) (by (try simp only [SZD]); (repeat' apply And.intro) <;> first | assumption | omega | simp_all) (by (try simp only [SZD]); (repeat' apply And.intro) <;> first | assumption | omega | simp_all) (by (try simp only [SZD]); (repeat' apply And.intro) <;> first | assumption | omega | simp_all))).toO)] [LN SOp.cells a0.Ops, AQ ((pontoonref05_many_t a0 ((a0.Ops.length : Nat) : Int) (SEdge.mk ((x41 : Nat) : Int) ((x47 : Nat) : Int)) (by (try simp only [SZD]); (repeat' apply And.intro) <;> first | assumption | omega | simp_all) (by (try simp only [SZD]); (repeat' apply And.intro) <;> first | assumption | omega | simp_all) (by (try simp only [SZD]); (repeat' apply And.intro) <;> first | assumption | omega | simp_all) (by (try simp only [SZD]); (repeat' apply And.intro) <;> first | assumption | omega | simp_all))).toO] ⟨[(1, .ptr 0 0), (7, (iV ((x41 : Nat) : Int))), (8, (iV ((x47 : Nat) : Int))), (100, (bo ((pontoonref05_many a0 ((a0.Ops.length : Nat) : Int) (SEdge.mk ((x41 : Nat) : Int) ((x47 : Nat) : Int))) == 0)))], [(0, .box (SGraph.avs a0) 76)], 1⟩ (by kernel_rfl) ⟨ln, rfl, trivial⟩ ?_
        refine go_cond (by rfl) (fun h49 => ?_) (fun h49 => ?_)
        ·have gh49 := h49
         try simp only [GN, beq_iff_eq, beq_eq_false_iff_ne, bne_iff_ne, bne_eq_false_iff_eq] at gh49
         simp only [h49, dite_true, dite_false, reduceDIte, Bool.false_eq_true] at hx2
         refine go_seq ?_
         refine go_rk eqOk ttOk [] [] ⟨[(2, (iV ((x41 : Nat) : Int))), (3, (iV 54))], [], 1⟩ (by kernel_rfl) trivial ?_
         subst hx2
         simp only [Sum.elim_inl] at hx1
         subst hx1
         simp only [Sum.elim_inl] at hx0
         subst hx0
         refine go_return ttOk (fun _ h => h) rfl ?_ ?_
         ·exact (by (repeat' apply And.intro) <;> first | trivial | exact Nat.le_of_ble_eq_true rfl | omega | (simp only [NM]; omega))
         ·first | rfl | (simp only [NM, CELLS] <;> rfl)
        ·have gh49 := h49
         try simp only [GN, beq_iff_eq, beq_eq_false_iff_ne, bne_iff_ne, bne_eq_false_iff_eq] at gh49
         simp only [h49, dite_true, dite_false, reduceDIte, Bool.false_eq_true] at hx2
         refine go_skip ?_
         refine go_blk ?_
         refine go_rk eqOk ttOk [(1, .tell (iV ((x47 + 1 : Nat) : Int)))] [WR (((x47 : Nat) : Int) + 1) ((x47 + 1 : Nat) : Int)] ⟨[(1, .ptr 0 0), (7, (iV ((x41 : Nat) : Int))), (8, (iV ((x47 + 1 : Nat) : Int)))], [(0, .box (SGraph.avs a0) 76)], 1⟩ (by kernel_rfl) ⟨(wr (by omega) (by omega) (by omega)), trivial⟩ ?_
         exact go_fin ⟨x47 + 1, ⟨(by first | trivial | omega | ((try dsimp only) <;> (repeat' apply And.intro) <;> first | trivial | omega | assumption | (simp; done))), hx2⟩, by first | omega | (dsimp only; omega), (Weak.canon [0] [1, 7, 8] (by decide) rfl (by simp) rfl (by simp) (by first | rfl | (simp only [NM, CELLS] <;> rfl) | simp [NM, CELLS]) (by first | rfl | (simp only [NM, CELLS] <;> rfl) | simp [NM, CELLS]) rfl)⟩
       ·have gh48 := h48
        try simp only [GN, beq_iff_eq, beq_eq_false_iff_ne, bne_iff_ne, bne_eq_false_iff_eq] at gh48
        simp only [h48, dite_true, dite_false, reduceDIte, Bool.false_eq_true] at hx2
        refine go_exit rfl ?_
        refine go_blk ?_
        exact go_fin ⟨(), hx2.symm, (Weak.canon [0] [1, 7] (by decide) rfl (by simp) rfl (by simp) (by first | rfl | (simp only [NM, CELLS] <;> rfl) | simp [NM, CELLS]) (by first | rfl | (simp only [NM, CELLS] <;> rfl) | simp [NM, CELLS]) rfl)⟩
      ·rintro o43 hp
       try dsimp only at hp
       subst hp
       simp only [Sum.elim_inr] at hx1
       refine go_rk eqOk ttOk [(1, .tell (iV ((x41 + 1 : Nat) : Int)))] [WR (((x41 : Nat) : Int) + 1) ((x41 + 1 : Nat) : Int)] ⟨[(1, .ptr 0 0), (7, (iV ((x41 + 1 : Nat) : Int)))], [(0, .box (SGraph.avs a0) 76)], 1⟩ (by kernel_rfl) ⟨(wr (by omega) (by omega) (by omega)), trivial⟩ ?_
       exact go_fin ⟨x41 + 1, ⟨(by first | trivial | omega | ((try dsimp only) <;> (repeat' apply And.intro) <;> first | trivial | omega | assumption | (simp; done))), hx1⟩, by first | omega | (dsimp only; omega), (Weak.canon [0] [1, 7] (by decide) rfl (by simp) rfl (by simp) (by first | rfl | (simp only [NM, CELLS] <;> rfl) | simp [NM, CELLS]) (by first | rfl | (simp only [NM, CELLS] <;> rfl) | simp [NM, CELLS]) rfl)⟩
     ·have gh42 := h42
      try simp only [GN, beq_iff_eq, beq_eq_false_iff_ne, bne_iff_ne, bne_eq_false_iff_eq] at gh42
      simp only [h42, dite_true, dite_false, reduceDIte, Bool.false_eq_true] at hx1
      refine go_exit rfl ?_
      exact go_fin ⟨(), hx1.symm, (Weak.canon [0] [1] (by decide) rfl (by simp) rfl (by simp) (by first | rfl | (simp only [NM, CELLS] <;> rfl) | simp [NM, CELLS]) (by first | rfl | (simp only [NM, CELLS] <;> rfl) | simp [NM, CELLS]) rfl)⟩
    ·rintro o31 hp
     try dsimp only at hp
     subst hp
     simp only [Sum.elim_inr] at hx0
     refine go_seq ?_
     refine go_rk eqOk ttOk [] [] ⟨[(1, .ptr 0 0), (9, (iV 0))], [(0, .box (SGraph.avs a0) 76)], 1⟩ (by kernel_rfl) trivial ?_
     refine go_seq ?_
     refine go_seq ?_
     refine go_rk eqOk ttOk [] [] ⟨[(1, .ptr 0 0), (9, (iV 0)), (10, (iV 0))], [(0, .box (SGraph.avs a0) 76)], 1⟩ (by kernel_rfl) trivial ?_
     obtain ⟨o50s, hx1, hx0⟩ := letIn_ex hx0
     refine go_joinE (fun p : Nat => ⟨[(9, (iV ((p : Nat) : Int)))], [], 0⟩) (fun p : Nat => o50s = Sum.inr p) ?_ ?_
     ·refine go_block ?_
      refine go_lenB (b := 0) rfl 1 rfl (fun hl111 => ?_)
      simp only [List.length_map, maxLen_eq] at hl111
      refine go_loop (fun p : Nat × Nat => ⟨[(1, .ptr 0 0), (9, (iV ((p.1 : Nat) : Int))), (10, (iV ((p.2 : Nat) : Int)))], [(0, .box (SGraph.avs a0) 76)], 1⟩) (fun p : Nat × Nat => (p.1 ≤ 24 * p.2) ∧ pontoonref05_Check_L4 a0 p.1 p.2 = o50s) (fun p : Nat × Nat => (Int.toNat a0.Parts) - p.2) (0, 0) ⟨(by first | trivial | omega | ((try dsimp only) <;> (repeat' apply And.intro) <;> first | trivial | omega | assumption | (simp; done))), hx1⟩ (Weak.canon [0] [1, 9, 10] (by decide) rfl (by simp) rfl (by simp) (by first | rfl | (simp only [NM, CELLS] <;> rfl) | simp [NM, CELLS]) (by first | rfl | (simp only [NM, CELLS] <;> rfl) | simp [NM, CELLS]) rfl) ?_
      rintro ⟨x72, x73⟩ ⟨hi112, hx1⟩
      try dsimp only at hi112 hx1 ⊢
      rw [pontoonref05_Check_L4.eq_def] at hx1
      refine go_seq ?_
      refine go_seq ?_
      refine go_rk eqOk ttOk [] [] ⟨[(1, .ptr 0 0), (9, (iV ((x72 : Nat) : Int))), (10, (iV ((x73 : Nat) : Int))), (105, (bo (decide (((x73 : Nat) : Int) < a0.Parts))))], [(0, .box (SGraph.avs a0) 76)], 1⟩ (by kernel_rfl) trivial ?_
      refine go_cond (by rfl) (fun h74 => ?_) (fun h74 => ?_)
      ·have gh74 := h74
       try simp only [GN, beq_iff_eq, beq_eq_false_iff_ne, bne_iff_ne, bne_eq_false_iff_eq] at gh74
       simp only [h74, dite_true, dite_false, reduceDIte, Bool.false_eq_true] at hx1
       refine go_skip ?_
       refine go_seq ?_
       obtain ⟨o75s, hx2, hx1⟩ := letIn_ex hx1
       refine go_joinE (fun p : Nat => ⟨[(1, .ptr 0 0), (9, (iV ((p : Nat) : Int))), (10, (iV ((x73 : Nat) : Int)))], [(0, .box (SGraph.avs a0) 76)], 1⟩) (fun p : Nat => o75s = Sum.inr p ∧ (p ≤ x72 + 24)) ?_ ?_
       ·refine go_block ?_
        refine go_seq ?_
        refine go_rk eqOk ttOk [] [] ⟨[(1, .ptr 0 0), (9, (iV ((x72 : Nat) : Int))), (10, (iV ((x73 : Nat) : Int))), (11, (iV 0))], [(0, .box (SGraph.avs a0) 76)], 1⟩ (by kernel_rfl) trivial ?_
        refine go_seq ?_
        refine go_seq ?_
        refine go_rk eqOk ttOk [] [] ⟨[(1, .ptr 0 0), (9, (iV ((x72 : Nat) : Int))), (10, (iV ((x73 : Nat) : Int))), (11, (iV 0)), (12, (iV 0))], [(0, .box (SGraph.avs a0) 76)], 1⟩ (by kernel_rfl) trivial ?_
        obtain ⟨o76, hx3, hx2⟩ := letIn_ex hx2
        refine go_joinE (fun p : Nat × Nat => ⟨[(1, .ptr 0 0), (9, (iV ((p.1 : Nat) : Int))), (10, (iV ((x73 : Nat) : Int))), (11, (iV ((p.2 : Nat) : Int)))], [(0, .box (SGraph.avs a0) 76)], 1⟩) (fun p : Nat × Nat => o76 = p ∧ (p.1 ≤ x72 + 24 ∧ p.2 ≤ 24)) ?_ ?_
        ·refine go_block ?_
         refine go_loop (fun p : Nat × Nat × Nat => ⟨[(1, .ptr 0 0), (9, (iV ((p.1 : Nat) : Int))), (10, (iV ((x73 : Nat) : Int))), (11, (iV ((p.2.1 : Nat) : Int))), (12, (iV ((p.2.2 : Nat) : Int)))], [(0, .box (SGraph.avs a0) 76)], 1⟩) (fun p : Nat × Nat × Nat => (p.2.2 ≤ a0.Ops.length ∧ p.1 ≤ x72 + p.2.2 ∧ p.2.1 ≤ p.2.2) ∧ pontoonref05_Check_L5 a0 x73 p.1 p.2.1 p.2.2 = o76) (fun p : Nat × Nat × Nat => a0.Ops.length - p.2.2) (x72, 0, 0) ⟨(by first | trivial | omega | ((try dsimp only) <;> (repeat' apply And.intro) <;> first | trivial | omega | assumption | (simp; done))), hx3⟩ (Weak.canon [0] [1, 9, 10, 11, 12] (by decide) rfl (by simp) rfl (by simp) (by first | rfl | (simp only [NM, CELLS] <;> rfl) | simp [NM, CELLS]) (by first | rfl | (simp only [NM, CELLS] <;> rfl) | simp [NM, CELLS]) rfl) ?_
         rintro ⟨x85, x86, x87⟩ ⟨hi113, hx3⟩
         try dsimp only at hi113 hx3 ⊢
         rw [pontoonref05_Check_L5.eq_def] at hx3
         refine go_seq ?_
         refine go_seq ?_
         refine go_rk eqOk ttOk [(3, .tell (iV ((a0.Ops.length : Nat) : Int)))] [LN SOp.cells a0.Ops] ⟨[(1, .ptr 0 0), (9, (iV ((x85 : Nat) : Int))), (10, (iV ((x73 : Nat) : Int))), (11, (iV ((x86 : Nat) : Int))), (12, (iV ((x87 : Nat) : Int))), (112, (bo (decide (((x87 : Nat) : Int) < ((a0.Ops.length : Nat) : Int)))))], [(0, .box (SGraph.avs a0) 76)], 1⟩ (by kernel_rfl) ⟨ln, trivial⟩ ?_
         refine go_cond (by rfl) (fun h88 => ?_) (fun h88 => ?_)
         ·have gh88 := h88
          try simp only [GN, beq_iff_eq, beq_eq_false_iff_ne, bne_iff_ne, bne_eq_false_iff_eq] at gh88
          simp only [h88, dite_true, dite_false, reduceDIte, Bool.false_eq_true] at hx3
          refine go_skip ?_
          refine go_seq ?_
          obtain ⟨o89, hx4, hx3⟩ := letIn_ex hx3
          refine go_joinE (fun p : Nat × Nat => ⟨[(1, .ptr 0 0), (9, (iV ((p.1 : Nat) : Int))), (10, (iV ((x73 : Nat) : Int))), (11, (iV ((p.2 : Nat) : Int))), (12, (iV ((x87 : Nat) : Int)))], [(0, .box (SGraph.avs a0) 76)], 1⟩) (fun p : Nat × Nat => o89 = p ∧ (x85 ≤ p.1 ∧ p.1 ≤ x85 + 1 ∧ p.2 ≤ x86 + 1)) ?_ ?_
          ·refine go_block ?_
           refine go_seq ?_
           refine go_seq ?_
           have bq114 : x87 < a0.Ops.length := by omega
           have zq114 : ((List.getD a0.Ops x87 default).In).length ≤ 4294967296 := (by assumption : ∀ y ∈ a0.Ops, y.In.length ≤ 4294967296) _ (getD_mem a0.Ops x87 default bq114)
           refine go_rk eqOk ttOk [(3, .row (SOp.cells (List.getD a0.Ops x87 default))), (11, .row (SOp.cells (List.getD a0.Ops x87 default)))] [IX SOp.cells a0.Ops ((x87 : Nat) : Int), (((List.getD a0.Ops x87 default).Kind == 1) = true → IX SOp.cells a0.Ops ((x87 : Nat) : Int))] ⟨[(1, .ptr 0 0), (9, (iV ((x85 : Nat) : Int))), (10, (iV ((x73 : Nat) : Int))), (11, (iV ((x86 : Nat) : Int))), (12, (iV ((x87 : Nat) : Int))), (131, (bo (((List.getD a0.Ops x87 default).Kind == 1) && ((List.getD a0.Ops x87 default).Part == ((x73 : Nat) : Int)))))], [(0, .box (SGraph.avs a0) 76)], 1⟩ (by kernel_rfl) ⟨(ixn bq114), (by intro h_0; simp only [GN, beq_iff_eq, beq_eq_false_iff_ne, bne_iff_ne, bne_eq_false_iff_eq] at *; exact ixn (by omega)), trivial⟩ ?_
           obtain ⟨o91, hx5, hx4⟩ := letIn_ex hx4
           refine go_joinE (fun p : Nat => ⟨[(1, .ptr 0 0), (9, (iV ((x85 : Nat) : Int))), (10, (iV ((x73 : Nat) : Int))), (11, (iV ((p : Nat) : Int))), (12, (iV ((x87 : Nat) : Int)))], [(0, .box (SGraph.avs a0) 76)], 1⟩) (fun p : Nat => o91 = p ∧ (x86 ≤ p ∧ p ≤ x86 + 1)) ?_ ?_
           ·refine go_cond (by rfl) (fun h92 => ?_) (fun h92 => ?_)
            ·have gh92 := h92
             try simp only [GN, beq_iff_eq, beq_eq_false_iff_ne, bne_iff_ne, bne_eq_false_iff_eq] at gh92
             simp only [h92, dite_true, dite_false, reduceDIte, Bool.false_eq_true] at hx5
             refine go_rk eqOk ttOk [(1, .tell (iV ((x86 + 1 : Nat) : Int)))] [WR (((x86 : Nat) : Int) + 1) ((x86 + 1 : Nat) : Int)] ⟨[(1, .ptr 0 0), (9, (iV ((x85 : Nat) : Int))), (10, (iV ((x73 : Nat) : Int))), (11, (iV ((x86 + 1 : Nat) : Int))), (12, (iV ((x87 : Nat) : Int)))], [(0, .box (SGraph.avs a0) 76)], 1⟩ (by kernel_rfl) ⟨(wr (by omega) (by omega) (by omega)), trivial⟩ ?_
             exact go_fin ⟨x86 + 1, ⟨hx5.symm, by first | omega | (dsimp only; omega)⟩, (Weak.canon [0] [1, 9, 10, 11, 12] (by decide) rfl (by simp) rfl (by simp) (by first | rfl | (simp only [NM, CELLS] <;> rfl) | simp [NM, CELLS]) (by first | rfl | (simp only [NM, CELLS] <;> rfl) | simp [NM, CELLS]) rfl)⟩
            ·have gh92 := h92
             try simp only [GN, beq_iff_eq, beq_eq_false_iff_ne, bne_iff_ne, bne_eq_false_iff_eq] at gh92
             simp only [h92, dite_true, dite_false, reduceDIte, Bool.false_eq_true] at hx5
             refine go_skip ?_
             exact go_fin ⟨x86, ⟨hx5.symm, by first | omega | (dsimp only; omega)⟩, (Weak.canon [0] [1, 9, 10, 11, 12] (by decide) rfl (by simp) rfl (by simp) (by first | rfl | (simp only [NM, CELLS] <;> rfl) | simp [NM, CELLS]) (by first | rfl | (simp only [NM, CELLS] <;> rfl) | simp [NM, CELLS]) rfl)⟩
           ·rintro o91_ ⟨hp, hqo91⟩
            try dsimp only at hqo91
            try dsimp only at hp
            subst hp
            refine go_seq ?_
            refine go_rk eqOk ttOk [(6, .row (SOp.cells (List.getD a0.Ops x87 default)))] [((((x73 : Nat) : Int) == 0) = true → IX SOp.cells a0.Ops ((x87 : Nat) : Int))] ⟨[(1, .ptr 0 0), (9, (iV ((x85 : Nat) : Int))), (10, (iV ((x73 : Nat) : Int))), (11, (iV ((o91 : Nat) : Int))), (12, (iV ((x87 : Nat) : Int))), (144, (bo ((((x73 : Nat) : Int) == 0) && ((List.getD a0.Ops x87 default).Kind == 9))))], [(0, .box (SGraph.avs a0) 76)], 1⟩ (by kernel_rfl) ⟨(by intro h_0; simp only [GN, beq_iff_eq, beq_eq_false_iff_ne, bne_iff_ne, bne_eq_false_iff_eq] at *; exact ixn (by omega)), trivial⟩ ?_
            refine go_cond (by rfl) (fun h94 => ?_) (fun h94 => ?_)
            ·have gh94 := h94
             try simp only [GN, beq_iff_eq, beq_eq_false_iff_ne, bne_iff_ne, bne_eq_false_iff_eq] at gh94
             simp only [h94, dite_true, dite_false, reduceDIte, Bool.false_eq_true] at hx4
             refine go_rk eqOk ttOk [(1, .tell (iV ((x85 + 1 : Nat) : Int)))] [WR (((x85 : Nat) : Int) + 1) ((x85 + 1 : Nat) : Int)] ⟨[(1, .ptr 0 0), (9, (iV ((x85 + 1 : Nat) : Int))), (10, (iV ((x73 : Nat) : Int))), (11, (iV ((o91 : Nat) : Int))), (12, (iV ((x87 : Nat) : Int)))], [(0, .box (SGraph.avs a0) 76)], 1⟩ (by kernel_rfl) ⟨(wr (by omega) (by omega) (by omega)), trivial⟩ ?_
             refine go_blk ?_
             exact go_fin ⟨(x85 + 1, o91), ⟨hx4.symm, by first | omega | (dsimp only; omega)⟩, (Weak.canon [0] [1, 9, 10, 11, 12] (by decide) rfl (by simp) rfl (by simp) (by first | rfl | (simp only [NM, CELLS] <;> rfl) | simp [NM, CELLS]) (by first | rfl | (simp only [NM, CELLS] <;> rfl) | simp [NM, CELLS]) rfl)⟩
            ·have gh94 := h94
             try simp only [GN, beq_iff_eq, beq_eq_false_iff_ne, bne_iff_ne, bne_eq_false_iff_eq] at gh94
             simp only [h94, dite_true, dite_false, reduceDIte, Bool.false_eq_true] at hx4
             refine go_skip ?_
             refine go_blk ?_
             exact go_fin ⟨(x85, o91), ⟨hx4.symm, by first | omega | (dsimp only; omega)⟩, (Weak.canon [0] [1, 9, 10, 11, 12] (by decide) rfl (by simp) rfl (by simp) (by first | rfl | (simp only [NM, CELLS] <;> rfl) | simp [NM, CELLS]) (by first | rfl | (simp only [NM, CELLS] <;> rfl) | simp [NM, CELLS]) rfl)⟩
          ·rintro o89_ ⟨hp, hqo89⟩
           try dsimp only at hqo89
           try dsimp only at hp
           subst hp
           refine go_rk eqOk ttOk [(1, .tell (iV ((x87 + 1 : Nat) : Int)))] [WR (((x87 : Nat) : Int) + 1) ((x87 + 1 : Nat) : Int)] ⟨[(1, .ptr 0 0), (9, (iV ((o89.1 : Nat) : Int))), (10, (iV ((x73 : Nat) : Int))), (11, (iV ((o89.2 : Nat) : Int))), (12, (iV ((x87 + 1 : Nat) : Int)))], [(0, .box (SGraph.avs a0) 76)], 1⟩ (by kernel_rfl) ⟨(wr (by omega) (by omega) (by omega)), trivial⟩ ?_
           exact go_fin ⟨(o89.1, o89.2, x87 + 1), ⟨(by first | trivial | omega | ((try dsimp only) <;> (repeat' apply And.intro) <;> first | trivial | omega | assumption | (simp; done))), hx3⟩, by first | omega | (dsimp only; omega), (Weak.canon [0] [1, 9, 10, 11, 12] (by decide) rfl (by simp) rfl (by simp) (by first | rfl | (simp only [NM, CELLS] <;> rfl) | simp [NM, CELLS]) (by first | rfl | (simp only [NM, CELLS] <;> rfl) | simp [NM, CELLS]) rfl)⟩
         ·have gh88 := h88
          try simp only [GN, beq_iff_eq, beq_eq_false_iff_ne, bne_iff_ne, bne_eq_false_iff_eq] at gh88
          simp only [h88, dite_true, dite_false, reduceDIte, Bool.false_eq_true] at hx3
          refine go_exit rfl ?_
          exact go_fin ⟨(x85, x86), ⟨hx3.symm, by first | omega | (dsimp only; omega)⟩, (Weak.canon [0] [1, 9, 10, 11] (by decide) rfl (by simp) rfl (by simp) (by first | rfl | (simp only [NM, CELLS] <;> rfl) | simp [NM, CELLS]) (by first | rfl | (simp only [NM, CELLS] <;> rfl) | simp [NM, CELLS]) rfl)⟩
        ·rintro o76_ ⟨hp, hqo76⟩
         try dsimp only at hqo76
         try dsimp only at hp
         subst hp
         refine go_seq ?_
         refine go_rk eqOk ttOk [] [] ⟨[(1, .ptr 0 0), (9, (iV ((o76.1 : Nat) : Int))), (10, (iV ((x73 : Nat) : Int))), (148, (bo (((o76.2 : Nat) : Int) != 1)))], [(0, .box (SGraph.avs a0) 76)], 1⟩ (by kernel_rfl) trivial ?_
         refine go_cond (by rfl) (fun h95 => ?_) (fun h95 => ?_)
         ·have gh95 := h95
          try simp only [GN, beq_iff_eq, beq_eq_false_iff_ne, bne_iff_ne, bne_eq_false_iff_eq] at gh95
          simp only [h95, dite_true, dite_false, reduceDIte, Bool.false_eq_true] at hx2
          refine go_seq ?_
          refine go_rk eqOk ttOk [] [] ⟨[(2, (iV 0)), (3, (iV 55))], [], 1⟩ (by kernel_rfl) trivial ?_
          subst hx2
          simp only [Sum.elim_inl] at hx1
          subst hx1
          simp only [Sum.elim_inl] at hx0
          subst hx0
          refine go_return ttOk (fun _ h => h) rfl ?_ ?_
          ·exact (by (repeat' apply And.intro) <;> first | trivial | exact Nat.le_of_ble_eq_true rfl | omega | (simp only [NM]; omega))
          ·first | rfl | (simp only [NM, CELLS] <;> rfl)
         ·have gh95 := h95
          try simp only [GN, beq_iff_eq, beq_eq_false_iff_ne, bne_iff_ne, bne_eq_false_iff_eq] at gh95
          simp only [h95, dite_true, dite_false, reduceDIte, Bool.false_eq_true] at hx2
          refine go_skip ?_
          refine go_blk ?_
          exact go_fin ⟨o76.1, ⟨hx2.symm, by first | omega | (dsimp only; omega)⟩, (Weak.canon [0] [1, 9, 10] (by decide) rfl (by simp) rfl (by simp) (by first | rfl | (simp only [NM, CELLS] <;> rfl) | simp [NM, CELLS]) (by first | rfl | (simp only [NM, CELLS] <;> rfl) | simp [NM, CELLS]) rfl)⟩
       ·rintro o75 ⟨hp, hqo75⟩
        try dsimp only at hqo75
        try dsimp only at hp
        subst hp
        simp only [Sum.elim_inr] at hx1
        refine go_rk eqOk ttOk [(1, .tell (iV ((x73 + 1 : Nat) : Int)))] [WR (((x73 : Nat) : Int) + 1) ((x73 + 1 : Nat) : Int)] ⟨[(1, .ptr 0 0), (9, (iV ((o75 : Nat) : Int))), (10, (iV ((x73 + 1 : Nat) : Int)))], [(0, .box (SGraph.avs a0) 76)], 1⟩ (by kernel_rfl) ⟨(wr (by omega) (by omega) (by omega)), trivial⟩ ?_
        exact go_fin ⟨(o75, x73 + 1), ⟨(by first | trivial | omega | ((try dsimp only) <;> (repeat' apply And.intro) <;> first | trivial | omega | assumption | (simp; done))), hx1⟩, by first | omega | (dsimp only; omega), (Weak.canon [0] [1, 9, 10] (by decide) rfl (by simp) rfl (by simp) (by first | rfl | (simp only [NM, CELLS] <;> rfl) | simp [NM, CELLS]) (by first | rfl | (simp only [NM, CELLS] <;> rfl) | simp [NM, CELLS]) rfl)⟩
      ·have gh74 := h74
       try simp only [GN, beq_iff_eq, beq_eq_false_iff_ne, bne_iff_ne, bne_eq_false_iff_eq] at gh74
       simp only [h74, dite_true, dite_false, reduceDIte, Bool.false_eq_true] at hx1
       refine go_exit rfl ?_
       exact go_fin ⟨x72, hx1.symm, (Weak.canon [] [9] (by decide) rfl trivial rfl (by simp) (by first | rfl | (simp only [NM, CELLS] <;> rfl) | simp [NM, CELLS]) rfl rfl)⟩
     ·rintro o50 hp
      try dsimp only at hp
      subst hp
      simp only [Sum.elim_inr] at hx0
      refine go_seq ?_
      refine go_seq ?_
      refine go_rk eqOk ttOk [] [] ⟨[(150, (bo (((o50 : Nat) : Int) != 1)))], [], 0⟩ (by kernel_rfl) trivial ?_
      refine go_cond (by rfl) (fun h96 => ?_) (fun h96 => ?_)
      ·have gh96 := h96
       try simp only [GN, beq_iff_eq, beq_eq_false_iff_ne, bne_iff_ne, bne_eq_false_iff_eq] at gh96
       simp only [h96, cond_true, cond_false] at hx0
       refine go_seq ?_
       refine go_rk eqOk ttOk [] [] ⟨[(2, (iV 0)), (3, (iV 56))], [], 0⟩ (by kernel_rfl) trivial ?_
       subst hx0
       refine go_return ttOk (fun _ h => h) rfl ?_ ?_
       ·exact (by (repeat' apply And.intro) <;> first | trivial | exact Nat.le_of_ble_eq_true rfl | omega | (simp only [NM]; omega))
       ·first | rfl | (simp only [NM, CELLS] <;> rfl)
      ·have gh96 := h96
       try simp only [GN, beq_iff_eq, beq_eq_false_iff_ne, bne_iff_ne, bne_eq_false_iff_eq] at gh96
       simp only [h96, cond_true, cond_false] at hx0
       refine go_skip ?_
       refine go_seq ?_
       refine go_rk eqOk ttOk [] [] ⟨[(2, (iV 0)), (3, (iV 0))], [], 0⟩ (by kernel_rfl) trivial ?_
       subst hx0
       refine go_return ttOk (fun _ h => h) rfl ?_ ?_
       ·exact (by (repeat' apply And.intro) <;> first | trivial | exact Nat.le_of_ble_eq_true rfl | omega | (simp only [NM]; omega))
       ·first | rfl | (simp only [NM, CELLS] <;> rfl)
end Go.Ab.Try
