/-
  Functions, and what they compute: printed by wg.py, a program of this work.
-/
import Derived.Test.YtpfgofnmkaljaaaMg36
import Derived.Test.YtpfgofnmkaljaaaMg41
import Derived.Test.YtpfgofnmkaljaaaMg43
set_option linter.unusedVariables false
set_option linter.unusedSimpArgs false
namespace Go.Ab.Try
open Go Go.Proofs Go.Ab
def oper_Step (a0 : SOp) (a1 : SOpState) (a2 : SRecord) : SOpState × (List SPut) :=
  letIn ((bif (a0.Kind == 2) then (a0.Kind == 2) else (a0.Kind == 4))) fun o1 => (bif o1 then letIn (oper_Clone a1) fun r4 => letIn (oper_Value a0 a2) fun r5 => (r4, [(SPut.mk 0 r5)]) else (bif (a0.Kind == 3) then (bif (!(oper_Holds a0 a2)) then letIn (oper_Clone a1) fun r8 => (r8, []) else letIn (oper_Clone a1) fun r9 => (r9, [(SPut.mk 0 a2)])) else letIn ((bif (a0.Kind == 1) then (a0.Kind == 1) else (a0.Kind == 8))) fun o10 => (bif o10 then letIn (oper_Clone a1) fun r13 => (r13, [(SPut.mk 0 a2)]) else (bif (a0.Kind == 7) then letIn (oper_Clone a1) fun r15 => (r15, [(SPut.mk (oper_rest a2.Key a0.Arg) a2)]) else letIn ((bif (a0.Kind == 5) then (a0.Kind == 5) else (a0.Kind == 6))) fun o16 => (bif o16 then letIn (oper_fold a0 a1 a2) fun r19 => (r19.1, r19.2) else letIn (oper_Clone a1) fun r20 => (r20, []))))))
set_option maxRecDepth 10000 in
set_option maxHeartbeats 8000000 in
theorem oper_Step_t (a0 : SOp) (a1 : SOpState) (a2 : SRecord) (hk : a1.Keys.length ≤ 1000000000) (z0 : SOp.Sz a0) (z1 : SOpState.Sz a1) : FnP Try.prog 91 [.agg (SOp.avs a0), .agg (SOpState.avs a1), .agg (SRecord.avs a2)] (.tup [.agg (SOpState.avs ((oper_Step a0 a1 a2).1)), (sL SPut.cells ((oper_Step a0 a1 a2).2))]) := by
 refine FnP.intro (tt := tt) Try.func91 rfl (by kernel_rfl) (by simp [Try.ntmps91]) fun w0 A hA => ?_
 have hR := reckB_ok eqOk ttOk
 obtain ⟨res, hx0⟩ : ∃ r, oper_Step a0 a1 a2 = r := ⟨_, rfl⟩
 simp only [hx0]
 unfold oper_Step at hx0
 simp only [argT, Try.ntmps91]
 try simp only [SZD] at z0 z1
 refine go_seq ?_
 refine go_rk eqOk ttOk [] [] ⟨[(3, .ptr 0 0), (4, .ptr 1 0), (5, .ptr 2 0), (6, .ptr 3 0)], [(0, .box (SOp.avs a0) 55), (1, .box (SOpState.avs a1) 48), (2, .box (SRecord.avs a2) 34), (3, .box [nS, (iV 0)] 48)], 4⟩ (by kernel_rfl) trivial ?_
 refine go_seq ?_
 refine go_seq ?_
 refine go_rk eqOk ttOk [] [] ⟨[(3, .ptr 0 0), (4, .ptr 1 0), (5, .ptr 2 0), (6, .ptr 3 0), (9, (iV a0.Kind))], [(0, .box (SOp.avs a0) 55), (1, .box (SOpState.avs a1) 48), (2, .box (SRecord.avs a2) 34), (3, .box [nS, (iV 0)] 48)], 4⟩ (by kernel_rfl) trivial ?_
 refine go_block ?_
 refine go_seq ?_
 refine go_seq ?_
 refine go_rk eqOk ttOk [] [] ⟨[(3, .ptr 0 0), (4, .ptr 1 0), (5, .ptr 2 0), (6, .ptr 3 0), (9, (iV a0.Kind)), (10, (bo (a0.Kind == 2)))], [(0, .box (SOp.avs a0) 55), (1, .box (SOpState.avs a1) 48), (2, .box (SRecord.avs a2) 34), (3, .box [nS, (iV 0)] 48)], 4⟩ (by kernel_rfl) trivial ?_
 obtain ⟨o1, hx1, hx0⟩ := letIn_ex hx0
 refine go_joinE (fun p : Bool => ⟨[(3, .ptr 0 0), (4, .ptr 1 0), (5, .ptr 2 0), (6, .ptr 3 0), (9, (iV a0.Kind)), (10, (bo p))], [(0, .box (SOp.avs a0) 55), (1, .box (SOpState.avs a1) 48), (2, .box (SRecord.avs a2) 34), (3, .box [(sL SKeyState.cells []), (iV 0)] 48)], 4⟩) (fun p : Bool => o1 = p) ?_ ?_
 ·refine go_cond (by rfl) (fun h2 => ?_) (fun h2 => ?_)
  ·have gh2 := h2
   try simp only [GZ] at gh2
   replace hx1 := condT h2 hx1
   refine go_skip ?_
   exact go_fin ⟨(a0.Kind == 2), hx1.symm, (Weak.cn [0, 1, 2, 3] [3, 4, 5, 6, 9, 10] rfl rfl rfl)⟩
  ·have gh2 := h2
   try simp only [GZ] at gh2
   replace hx1 := condF h2 hx1
   refine go_rk eqOk ttOk [] [] ⟨[(3, .ptr 0 0), (4, .ptr 1 0), (5, .ptr 2 0), (6, .ptr 3 0), (9, (iV a0.Kind)), (10, (bo (a0.Kind == 4)))], [(0, .box (SOp.avs a0) 55), (1, .box (SOpState.avs a1) 48), (2, .box (SRecord.avs a2) 34), (3, .box [nS, (iV 0)] 48)], 4⟩ (by kernel_rfl) trivial ?_
   exact go_fin ⟨(a0.Kind == 4), hx1.symm, (Weak.cn [0, 1, 2, 3] [3, 4, 5, 6, 9, 10] rfl rfl rfl)⟩
 ·rintro o1_ hp
  try dsimp only at hp
  subst hp
  refine go_cond (by rfl) (fun h3 => ?_) (fun h3 => ?_)
  ·have gh3 := h3
   try simp only [GZ] at gh3
   replace hx0 := condT h3 hx0
   refine go_seq ?_
   obtain ⟨r4, hr4, hx0⟩ := letIn_ex hx0
   have Cr4 := (oper_Clone_t a1 (by (try simp only [SZD]); (repeat' apply And.intro) <;> first | assumption | omega | (simp only [List.length_drop, List.length_take]; omega) | simp_all))
   simp only [hr4] at Cr4
   have zr4 := oper_Clone_sz a1 (by (try simp only [SZD]); (repeat' apply And.intro) <;> first | assumption | omega | (simp only [List.length_drop, List.length_take]; omega) | simp_all)
   simp only [hr4, SZD] at zr4
   obtain ⟨r5, hr5, hx0⟩ := letIn_ex hx0
   have Cr5 := (oper_Value_t a0 a2)
   simp only [hr5] at Cr5
   refine go_dk eqOk ttOk rfl [(1, .fn Cr4.toO), (4, .fn Cr5.toO)] [AQ Cr4.toO, AQ Cr5.toO] ⟨[(6, .ptr 3 0), (7, .own 4 3 0 1)], [(3, .box (SOpState.avs r4) 48), (4, .acc 3 (List.map SPut.cells [(SPut.mk 0 r5)]) 167)], 5⟩ (by kernel_rfl) ⟨⟨rfl, rfl⟩, ⟨rfl, rfl⟩, trivial⟩ ?_
   subst hx0
   exact go_ret1 rfl
  ·have gh3 := h3
   try simp only [GZ] at gh3
   replace hx0 := condF h3 hx0
   refine go_seq ?_
   refine go_rk eqOk ttOk [] [] ⟨[(3, .ptr 0 0), (4, .ptr 1 0), (5, .ptr 2 0), (6, .ptr 3 0), (9, (iV a0.Kind)), (20, (bo (a0.Kind == 3)))], [(0, .box (SOp.avs a0) 55), (1, .box (SOpState.avs a1) 48), (2, .box (SRecord.avs a2) 34), (3, .box [(sL SKeyState.cells []), (iV 0)] 48)], 4⟩ (by kernel_rfl) trivial ?_
   refine go_cond (by rfl) (fun h6 => ?_) (fun h6 => ?_)
   ·have gh6 := h6
    try simp only [GZ] at gh6
    replace hx0 := condT h6 hx0
    refine go_seq ?_
    refine go_seq ?_
    refine go_rk eqOk ttOk [(2, .fn ((oper_Holds_t a0 a2)).toO)] [AQ ((oper_Holds_t a0 a2)).toO] ⟨[(4, .ptr 1 0), (5, .ptr 2 0), (6, .ptr 3 0), (25, (bo (!(oper_Holds a0 a2))))], [(1, .box (SOpState.avs a1) 48), (2, .box (SRecord.avs a2) 34), (3, .box [(sL SKeyState.cells []), (iV 0)] 48)], 4⟩ (by kernel_rfl) ⟨⟨rfl, rfl⟩, trivial⟩ ?_
    refine go_cond (by rfl) (fun h7 => ?_) (fun h7 => ?_)
    ·have gh7 := h7
     try simp only [GZ] at gh7
     replace hx0 := condT h7 hx0
     refine go_seq ?_
     obtain ⟨r8, hr8, hx0⟩ := letIn_ex hx0
     have Cr8 := (oper_Clone_t a1 (by (try simp only [SZD]); (repeat' apply And.intro) <;> first | assumption | omega | (simp only [List.length_drop, List.length_take]; omega) | simp_all))
     simp only [hr8] at Cr8
     have zr8 := oper_Clone_sz a1 (by (try simp only [SZD]); (repeat' apply And.intro) <;> first | assumption | omega | (simp only [List.length_drop, List.length_take]; omega) | simp_all)
     simp only [hr8, SZD] at zr8
     refine go_rk eqOk ttOk [(1, .fn Cr8.toO)] [AQ Cr8.toO] ⟨[(6, .ptr 3 0), (7, nS)], [(3, .box (SOpState.avs r8) 48)], 4⟩ (by kernel_rfl) ⟨⟨rfl, rfl⟩, trivial⟩ ?_
     subst hx0
     exact go_ret1 rfl
    ·have gh7 := h7
     try simp only [GZ] at gh7
     replace hx0 := condF h7 hx0
     refine go_skip ?_
     refine go_seq ?_
     obtain ⟨r9, hr9, hx0⟩ := letIn_ex hx0
     have Cr9 := (oper_Clone_t a1 (by (try simp only [SZD]); (repeat' apply And.intro) <;> first | assumption | omega | (simp only [List.length_drop, List.length_take]; omega) | simp_all))
     simp only [hr9] at Cr9
     have zr9 := oper_Clone_sz a1 (by (try simp only [SZD]); (repeat' apply And.intro) <;> first | assumption | omega | (simp only [List.length_drop, List.length_take]; omega) | simp_all)
     simp only [hr9, SZD] at zr9
     refine go_dk eqOk ttOk rfl [(1, .fn Cr9.toO)] [AQ Cr9.toO] ⟨[(6, .ptr 3 0), (7, .own 4 3 0 1)], [(3, .box (SOpState.avs r9) 48), (4, .acc 3 (List.map SPut.cells [(SPut.mk 0 a2)]) 167)], 5⟩ (by kernel_rfl) ⟨⟨rfl, rfl⟩, trivial⟩ ?_
     subst hx0
     exact go_ret1 rfl
   ·have gh6 := h6
    try simp only [GZ] at gh6
    replace hx0 := condF h6 hx0
    refine go_seq ?_
    refine go_seq ?_
    refine go_rk eqOk ttOk [] [] ⟨[(3, .ptr 0 0), (4, .ptr 1 0), (5, .ptr 2 0), (6, .ptr 3 0), (9, (iV a0.Kind)), (33, (bo (a0.Kind == 1)))], [(0, .box (SOp.avs a0) 55), (1, .box (SOpState.avs a1) 48), (2, .box (SRecord.avs a2) 34), (3, .box [(sL SKeyState.cells []), (iV 0)] 48)], 4⟩ (by kernel_rfl) trivial ?_
    obtain ⟨o10, hx1, hx0⟩ := letIn_ex hx0
    refine go_joinE (fun p : Bool => ⟨[(3, .ptr 0 0), (4, .ptr 1 0), (5, .ptr 2 0), (6, .ptr 3 0), (9, (iV a0.Kind)), (33, (bo p))], [(0, .box (SOp.avs a0) 55), (1, .box (SOpState.avs a1) 48), (2, .box (SRecord.avs a2) 34), (3, .box [(sL SKeyState.cells []), (iV 0)] 48)], 4⟩) (fun p : Bool => o10 = p) ?_ ?_
    ·refine go_cond (by rfl) (fun h11 => ?_) (fun h11 => ?_)
     ·have gh11 := h11
      try simp only [GZ] at gh11
      replace hx1 := condT h11 hx1
      refine go_skip ?_
      exact go_fin ⟨(a0.Kind == 1), hx1.symm, (Weak.cn [0, 1, 2, 3] [3, 4, 5, 6, 9, 33] rfl rfl rfl)⟩
     ·have gh11 := h11
      try simp only [GZ] at gh11
      replace hx1 := condF h11 hx1
      refine go_rk eqOk ttOk [] [] ⟨[(3, .ptr 0 0), (4, .ptr 1 0), (5, .ptr 2 0), (6, .ptr 3 0), (9, (iV a0.Kind)), (33, (bo (a0.Kind == 8)))], [(0, .box (SOp.avs a0) 55), (1, .box (SOpState.avs a1) 48), (2, .box (SRecord.avs a2) 34), (3, .box [(sL SKeyState.cells []), (iV 0)] 48)], 4⟩ (by kernel_rfl) trivial ?_
      exact go_fin ⟨(a0.Kind == 8), hx1.symm, (Weak.cn [0, 1, 2, 3] [3, 4, 5, 6, 9, 33] rfl rfl rfl)⟩
    ·rintro o10_ hp
     try dsimp only at hp
     subst hp
     refine go_cond (by rfl) (fun h12 => ?_) (fun h12 => ?_)
     ·have gh12 := h12
      try simp only [GZ] at gh12
      replace hx0 := condT h12 hx0
      refine go_seq ?_
      obtain ⟨r13, hr13, hx0⟩ := letIn_ex hx0
      have Cr13 := (oper_Clone_t a1 (by (try simp only [SZD]); (repeat' apply And.intro) <;> first | assumption | omega | (simp only [List.length_drop, List.length_take]; omega) | simp_all))
      simp only [hr13] at Cr13
      have zr13 := oper_Clone_sz a1 (by (try simp only [SZD]); (repeat' apply And.intro) <;> first | assumption | omega | (simp only [List.length_drop, List.length_take]; omega) | simp_all)
      simp only [hr13, SZD] at zr13
      refine go_dk eqOk ttOk rfl [(1, .fn Cr13.toO)] [AQ Cr13.toO] ⟨[(6, .ptr 3 0), (7, .own 4 3 0 1)], [(3, .box (SOpState.avs r13) 48), (4, .acc 3 (List.map SPut.cells [(SPut.mk 0 a2)]) 167)], 5⟩ (by kernel_rfl) ⟨⟨rfl, rfl⟩, trivial⟩ ?_
      subst hx0
      exact go_ret1 rfl
     ·have gh12 := h12
      try simp only [GZ] at gh12
      replace hx0 := condF h12 hx0
      refine go_seq ?_
      refine go_rk eqOk ttOk [] [] ⟨[(3, .ptr 0 0), (4, .ptr 1 0), (5, .ptr 2 0), (6, .ptr 3 0), (9, (iV a0.Kind)), (41, (bo (a0.Kind == 7)))], [(0, .box (SOp.avs a0) 55), (1, .box (SOpState.avs a1) 48), (2, .box (SRecord.avs a2) 34), (3, .box [(sL SKeyState.cells []), (iV 0)] 48)], 4⟩ (by kernel_rfl) trivial ?_
      refine go_cond (by rfl) (fun h14 => ?_) (fun h14 => ?_)
      ·have gh14 := h14
       try simp only [GZ] at gh14
       replace hx0 := condT h14 hx0
       refine go_seq ?_
       obtain ⟨r15, hr15, hx0⟩ := letIn_ex hx0
       have Cr15 := (oper_Clone_t a1 (by (try simp only [SZD]); (repeat' apply And.intro) <;> first | assumption | omega | (simp only [List.length_drop, List.length_take]; omega) | simp_all))
       simp only [hr15] at Cr15
       have zr15 := oper_Clone_sz a1 (by (try simp only [SZD]); (repeat' apply And.intro) <;> first | assumption | omega | (simp only [List.length_drop, List.length_take]; omega) | simp_all)
       simp only [hr15, SZD] at zr15
       refine go_dk eqOk ttOk rfl [(1, .fn Cr15.toO), (6, .fn ((oper_rest_t a2.Key a0.Arg)).toO)] [AQ Cr15.toO, AQ ((oper_rest_t a2.Key a0.Arg)).toO] ⟨[(6, .ptr 3 0), (7, .own 4 3 0 1)], [(3, .box (SOpState.avs r15) 48), (4, .acc 3 (List.map SPut.cells [(SPut.mk (oper_rest a2.Key a0.Arg) a2)]) 167)], 5⟩ (by kernel_rfl) ⟨⟨rfl, rfl⟩, ⟨rfl, rfl⟩, trivial⟩ ?_
       subst hx0
       exact go_ret1 rfl
      ·have gh14 := h14
       try simp only [GZ] at gh14
       replace hx0 := condF h14 hx0
       refine go_seq ?_
       refine go_seq ?_
       refine go_rk eqOk ttOk [] [] ⟨[(3, .ptr 0 0), (4, .ptr 1 0), (5, .ptr 2 0), (6, .ptr 3 0), (9, (iV a0.Kind)), (53, (bo (a0.Kind == 5)))], [(0, .box (SOp.avs a0) 55), (1, .box (SOpState.avs a1) 48), (2, .box (SRecord.avs a2) 34), (3, .box [(sL SKeyState.cells []), (iV 0)] 48)], 4⟩ (by kernel_rfl) trivial ?_
       obtain ⟨o16, hx1, hx0⟩ := letIn_ex hx0
       refine go_joinE (fun p : Bool => ⟨[(3, .ptr 0 0), (4, .ptr 1 0), (5, .ptr 2 0), (6, .ptr 3 0), (53, (bo p))], [(0, .box (SOp.avs a0) 55), (1, .box (SOpState.avs a1) 48), (2, .box (SRecord.avs a2) 34), (3, .box [(sL SKeyState.cells []), (iV 0)] 48)], 4⟩) (fun p : Bool => o16 = p) ?_ ?_
       ·refine go_cond (by rfl) (fun h17 => ?_) (fun h17 => ?_)
        ·have gh17 := h17
         try simp only [GZ] at gh17
         replace hx1 := condT h17 hx1
         refine go_skip ?_
         exact go_fin ⟨(a0.Kind == 5), hx1.symm, (Weak.cn [0, 1, 2, 3] [3, 4, 5, 6, 53] rfl rfl rfl)⟩
        ·have gh17 := h17
         try simp only [GZ] at gh17
         replace hx1 := condF h17 hx1
         refine go_rk eqOk ttOk [] [] ⟨[(3, .ptr 0 0), (4, .ptr 1 0), (5, .ptr 2 0), (6, .ptr 3 0), (53, (bo (a0.Kind == 6)))], [(0, .box (SOp.avs a0) 55), (1, .box (SOpState.avs a1) 48), (2, .box (SRecord.avs a2) 34), (3, .box [(sL SKeyState.cells []), (iV 0)] 48)], 4⟩ (by kernel_rfl) trivial ?_
         exact go_fin ⟨(a0.Kind == 6), hx1.symm, (Weak.cn [0, 1, 2, 3] [3, 4, 5, 6, 53] rfl rfl rfl)⟩
       ·rintro o16_ hp
        try dsimp only at hp
        subst hp
        refine go_cond (by rfl) (fun h18 => ?_) (fun h18 => ?_)
        ·have gh18 := h18
         try simp only [GZ] at gh18
         replace hx0 := condT h18 hx0
         refine go_seq ?_
         obtain ⟨r19, hr19, hx0⟩ := letIn_ex hx0
         have Cr19 := (oper_fold_t a0 a1 a2 (by (try simp only [SZD]); (repeat' apply And.intro) <;> first | assumption | omega | (simp only [List.length_drop, List.length_take]; omega) | simp_all) (by (try simp only [SZD]); (repeat' apply And.intro) <;> first | assumption | omega | (simp only [List.length_drop, List.length_take]; omega) | simp_all))
         simp only [hr19] at Cr19
         refine go_rk eqOk ttOk [(3, .fn Cr19.toO)] [AQ Cr19.toO] ⟨[(6, .ptr 3 0), (7, (sL SPut.cells r19.2))], [(3, .box (SOpState.avs r19.1) 48)], 4⟩ (by kernel_rfl) ⟨⟨rfl, rfl⟩, trivial⟩ ?_
         subst hx0
         exact go_ret1 rfl
        ·have gh18 := h18
         try simp only [GZ] at gh18
         replace hx0 := condF h18 hx0
         refine go_skip ?_
         refine go_blk ?_
         refine go_seq ?_
         obtain ⟨r20, hr20, hx0⟩ := letIn_ex hx0
         have Cr20 := (oper_Clone_t a1 (by (try simp only [SZD]); (repeat' apply And.intro) <;> first | assumption | omega | (simp only [List.length_drop, List.length_take]; omega) | simp_all))
         simp only [hr20] at Cr20
         have zr20 := oper_Clone_sz a1 (by (try simp only [SZD]); (repeat' apply And.intro) <;> first | assumption | omega | (simp only [List.length_drop, List.length_take]; omega) | simp_all)
         simp only [hr20, SZD] at zr20
         refine go_rk eqOk ttOk [(1, .fn Cr20.toO)] [AQ Cr20.toO] ⟨[(6, .ptr 3 0), (7, nS)], [(3, .box (SOpState.avs r20) 48)], 4⟩ (by kernel_rfl) ⟨⟨rfl, rfl⟩, trivial⟩ ?_
         subst hx0
         exact go_ret1 rfl
theorem clone_id (a : SOpState) : oper_Clone a = a := rfl
theorem oper_Step_sz (a0 : SOp) (a1 : SOpState) (a2 : SRecord) : (oper_Step a0 a1 a2).1.Keys.length ≤ a1.Keys.length + 1 ∧ (oper_Step a0 a1 a2).2.length ≤ 1 := by
 have hf := oper_fold_sz a0 a1 a2
 simp only [oper_Step, letIn, clone_id, Bool.cond_eq_ite]
 repeat' split
 all_goals first | exact hf | exact ⟨Nat.le_succ _, Nat.le_refl _⟩ | exact ⟨Nat.le_succ _, Nat.zero_le _⟩
theorem oper_Clone_len (a : SOpState) : (oper_Clone a).Keys.length ≤ a.Keys.length := Nat.le_refl _
def oper_All_L0 (a0 : SOp) (a2 : (List SRecord)) (x6 : Nat) (x7 : List SKeyState) (x8 : Int) (x9 : List SPut) : (List SKeyState) × Int × (List SPut) :=
  (if h10 : (decide (((x6 : Nat) : Int) < ((a2.length : Nat) : Int))) = true then letIn (oper_Step a0 (SOpState.mk x7 x8) (List.getD a2 x6 default)) fun r11 => (oper_All_L0 a0 a2 (x6 + 1) r11.1.Keys r11.1.Turn (x9 ++ r11.2)) else (x7, x8, x9))
termination_by a2.length - x6
decreasing_by all_goals (try simp only [GZ] at *) <;> omega
def oper_All (a0 : SOp) (a1 : SOpState) (a2 : (List SRecord)) : SOpState × (List SPut) :=
  letIn (oper_Clone a1) fun r1 => letIn (oper_All_L0 a0 a2 0 r1.Keys r1.Turn []) fun o2 => ((SOpState.mk o2.1 o2.2.1), o2.2.2)
set_option maxRecDepth 10000 in
set_option maxHeartbeats 8000000 in
theorem oper_All_t (a0 : SOp) (a1 : SOpState) (a2 : (List SRecord)) (hk : a1.Keys.length ≤ 500000000) (hl : a2.length ≤ 500000000) (z0 : SOp.Sz a0) (z1 : SOpState.Sz a1) (z2 : a2.length ≤ 4294967296) : FnP Try.prog 103 [.agg (SOp.avs a0), .agg (SOpState.avs a1), (sL SRecord.cells a2)] (.tup [.agg (SOpState.avs ((oper_All a0 a1 a2).1)), (sL SPut.cells ((oper_All a0 a1 a2).2))]) := by
 refine FnP.intro (tt := tt) Try.func103 rfl (by kernel_rfl) (by simp [Try.ntmps103]) fun w0 A hA => ?_
 have hR := reckB_ok eqOk ttOk
 obtain ⟨res, hx0⟩ : ∃ r, oper_All a0 a1 a2 = r := ⟨_, rfl⟩
 simp only [hx0]
 unfold oper_All at hx0
 simp only [argT, Try.ntmps103]
 try simp only [SZD] at z0 z1 z2
 refine go_seq ?_
 refine go_rk eqOk ttOk [] [] ⟨[(2, (sL SRecord.cells a2)), (3, .ptr 0 0), (4, .ptr 1 0), (6, .ptr 2 0)], [(0, .box (SOp.avs a0) 55), (1, .box (SOpState.avs a1) 48), (2, .box [nS, (iV 0)] 48)], 3⟩ (by kernel_rfl) trivial ?_
 refine go_seq ?_
 obtain ⟨r1, hr1, hx0⟩ := letIn_ex hx0
 have Cr1 := (oper_Clone_t a1 (by (try simp only [SZD]); (repeat' apply And.intro) <;> first | assumption | omega | (simp only [List.length_drop, List.length_take]; omega) | simp_all))
 simp only [hr1] at Cr1
 have zr1 := oper_Clone_sz a1 (by (try simp only [SZD]); (repeat' apply And.intro) <;> first | assumption | omega | (simp only [List.length_drop, List.length_take]; omega) | simp_all)
 simp only [hr1, SZD] at zr1
 have fr1 := oper_Clone_len a1
 try simp only [hr1, List.length_cons, List.length_nil] at fr1
 refine go_rk eqOk ttOk [(1, .fn Cr1.toO)] [AQ Cr1.toO] ⟨[(2, (sL SRecord.cells a2)), (3, .ptr 0 0), (4, .ptr 1 0), (6, .ptr 2 0)], [(0, .box (SOp.avs a0) 55), (1, .box (SOpState.avs r1) 48), (2, .box [nS, (iV 0)] 48)], 3⟩ (by kernel_rfl) ⟨⟨rfl, rfl⟩, trivial⟩ ?_
 refine go_seq ?_
 refine go_rk eqOk ttOk [] [] ⟨[(2, (sL SRecord.cells a2)), (3, .ptr 0 0), (4, .ptr 1 0), (6, .ptr 2 0), (8, nS)], [(0, .box (SOp.avs a0) 55), (1, .box (SOpState.avs r1) 48), (2, .box [nS, (iV 0)] 48)], 3⟩ (by kernel_rfl) trivial ?_
 refine go_nilOwn 8 3 167 rfl ?_
 refine go_weak (s' := ⟨[(2, (sL SRecord.cells a2)), (3, .ptr 0 0), (4, .ptr 1 0), (6, .ptr 2 0), (8, .own 3 3 0 0)], [(0, .box (SOp.avs a0) 55), (1, .box (SOpState.avs r1) 48), (2, .box [nS, (iV 0)] 48), (3, .acc 3 (List.map SPut.cells []) 167)], 4⟩) (Weak.sub' (by repeat (first | exact trivial | refine ⟨rfl, ?_⟩)) (by repeat (first | exact trivial | refine ⟨rfl, ?_⟩)) (by exact Nat.le_of_ble_eq_true rfl)) ?_
 refine go_seq ?_
 refine go_seq ?_
 refine go_rk eqOk ttOk [(1, .tell (iV ((a2.length : Nat) : Int)))] [LN SRecord.cells a2] ⟨[(3, .ptr 0 0), (4, .ptr 1 0), (6, .ptr 2 0), (8, .own 3 3 0 0), (14, (sL SRecord.cells a2)), (15, (iV ((a2.length : Nat) : Int))), (16, (iV 0))], [(0, .box (SOp.avs a0) 55), (1, .box (SOpState.avs r1) 48), (2, .box [nS, (iV 0)] 48), (3, .acc 3 (List.map SPut.cells []) 167)], 4⟩ (by kernel_rfl) ⟨ln, trivial⟩ ?_
 obtain ⟨o2, hx1, hx0⟩ := letIn_ex hx0
 refine go_joinE (fun p : (List SKeyState) × Int × (List SPut) => ⟨[(4, .ptr 0 0), (6, .ptr 1 0), (8, .own 2 3 0 p.2.2.length)], [(0, .box [(sL SKeyState.cells p.1), (iV p.2.1)] 48), (1, .box [(sL SKeyState.cells []), (iV 0)] 48), (2, .acc 3 (List.map SPut.cells p.2.2) 167)], 3⟩) (fun p : (List SKeyState) × Int × (List SPut) => o2 = p ∧ (p.1.length ≤ a1.Keys.length + a2.length ∧ p.2.2.length ≤ a2.length)) ?_ ?_
 ·refine go_block ?_
  refine go_len (t := 14) rfl (fun hl16 => ?_)
  simp only [List.length_map, maxLen_eq] at hl16
  refine go_loop (fun p : Nat × (List SKeyState) × Int × (List SPut) => ⟨[(3, .ptr 0 0), (4, .ptr 1 0), (6, .ptr 2 0), (8, .own 3 3 0 p.2.2.2.length), (14, (sL SRecord.cells a2)), (15, (iV ((a2.length : Nat) : Int))), (16, (iV ((p.1 : Nat) : Int)))], [(0, .box (SOp.avs a0) 55), (1, .box [(sL SKeyState.cells p.2.1), (iV p.2.2.1)] 48), (2, .box [(sL SKeyState.cells []), (iV 0)] 48), (3, .acc 3 (List.map SPut.cells p.2.2.2) 167)], 4⟩) (fun p : Nat × (List SKeyState) × Int × (List SPut) => (p.1 ≤ a2.length ∧ p.2.1.length ≤ a1.Keys.length + p.1 ∧ p.2.2.2.length ≤ p.1) ∧ oper_All_L0 a0 a2 p.1 p.2.1 p.2.2.1 p.2.2.2 = o2) (fun p : Nat × (List SKeyState) × Int × (List SPut) => a2.length - p.1) (0, r1.Keys, r1.Turn, []) ⟨(by first | trivial | omega | ((try dsimp only) <;> (repeat' apply And.intro) <;> first | trivial | omega | assumption | (simp; done))), hx1⟩ (Weak.cn [0, 1, 2, 3] [3, 4, 6, 8, 14, 15, 16] rfl rfl rfl) ?_
  rintro ⟨x6, x7, x8, x9⟩ ⟨hi17, hx1⟩
  try dsimp only at hi17 hx1 ⊢
  rw [oper_All_L0.eq_def] at hx1
  refine go_seq ?_
  refine go_rk eqOk ttOk [] [] ⟨[(3, .ptr 0 0), (4, .ptr 1 0), (6, .ptr 2 0), (8, .own 3 3 0 x9.length), (14, (sL SRecord.cells a2)), (15, (iV ((a2.length : Nat) : Int))), (16, (iV ((x6 : Nat) : Int))), (17, (bo (decide (((x6 : Nat) : Int) < ((a2.length : Nat) : Int)))))], [(0, .box (SOp.avs a0) 55), (1, .box [(sL SKeyState.cells x7), (iV x8)] 48), (2, .box [(sL SKeyState.cells []), (iV 0)] 48), (3, .acc 3 (List.map SPut.cells x9) 167)], 4⟩ (by kernel_rfl) trivial ?_
  refine go_seq ?_
  refine go_cond (by rfl) (fun h10 => ?_) (fun h10 => ?_)
  ·have gh10 := h10
   try simp only [GZ] at gh10
   replace hx1 := iteT h10 hx1
   refine go_skip ?_
   refine go_seq ?_
   refine go_block ?_
   refine go_seq ?_
   have bq18 : x6 < a2.length := by omega
   refine go_rk eqOk ttOk [(0, .row (SRecord.cells (List.getD a2 x6 default)))] [IX SRecord.cells a2 ((x6 : Nat) : Int)] ⟨[(3, .ptr 0 0), (4, .ptr 1 0), (6, .ptr 2 0), (8, .own 3 3 0 x9.length), (10, .ptr 4 0), (14, (sL SRecord.cells a2)), (15, (iV ((a2.length : Nat) : Int))), (16, (iV ((x6 : Nat) : Int)))], [(0, .box (SOp.avs a0) 55), (1, .box [(sL SKeyState.cells x7), (iV x8)] 48), (2, .box [(sL SKeyState.cells []), (iV 0)] 48), (3, .acc 3 (List.map SPut.cells x9) 167), (4, .box (SRecord.avs (List.getD a2 x6 default)) 34)], 5⟩ (by kernel_rfl) ⟨(ixn bq18), trivial⟩ ?_
   refine go_seq ?_
   refine go_rk eqOk ttOk [] [] ⟨[(3, .ptr 0 0), (4, .ptr 1 0), (6, .ptr 2 0), (8, .own 3 3 0 x9.length), (10, .ptr 4 0), (14, (sL SRecord.cells a2)), (15, (iV ((a2.length : Nat) : Int))), (16, (iV ((x6 : Nat) : Int)))], [(0, .box (SOp.avs a0) 55), (1, .box [(sL SKeyState.cells x7), (iV x8)] 48), (2, .box [(sL SKeyState.cells []), (iV 0)] 48), (3, .acc 3 (List.map SPut.cells x9) 167), (4, .box (SRecord.avs (List.getD a2 x6 default)) 34)], 5⟩ (by kernel_rfl) trivial ?_
   refine go_seq ?_
   obtain ⟨r11, hr11, hx1⟩ := letIn_ex hx1
   have Cr11 := (oper_Step_t a0 (SOpState.mk x7 x8) (List.getD a2 x6 default) (by (try simp only [SZD]); (repeat' apply And.intro) <;> first | assumption | omega | (simp only [List.length_drop, List.length_take]; omega) | simp_all) (by (try simp only [SZD]); (repeat' apply And.intro) <;> first | assumption | omega | (simp only [List.length_drop, List.length_take]; omega) | simp_all) (by (try simp only [SZD]); (repeat' apply And.intro) <;> first | assumption | omega | (simp only [List.length_drop, List.length_take]; omega) | simp_all))
   simp only [hr11] at Cr11
   have fr11 := oper_Step_sz a0 (SOpState.mk x7 x8) (List.getD a2 x6 default)
   try simp only [hr11, List.length_cons, List.length_nil] at fr11
   refine go_rk eqOk ttOk [(3, .fn Cr11.toO)] [AQ Cr11.toO] ⟨[(3, .ptr 0 0), (4, .ptr 1 0), (6, .ptr 2 0), (8, .own 3 3 0 x9.length), (11, (sL SPut.cells r11.2)), (14, (sL SRecord.cells a2)), (15, (iV ((a2.length : Nat) : Int))), (16, (iV ((x6 : Nat) : Int)))], [(0, .box (SOp.avs a0) 55), (1, .box (SOpState.avs r11.1) 48), (2, .box [(sL SKeyState.cells []), (iV 0)] 48), (3, .acc 3 (List.map SPut.cells x9) 167)], 5⟩ (by kernel_rfl) ⟨⟨rfl, rfl⟩, trivial⟩ ?_
   refine go_rk eqOk ttOk [(2, .app [] (List.map SPut.cells (x9 ++ r11.2)) ((x9 ++ r11.2).length))] [AX 3 24 SPut.cells x9 r11.2] ⟨[(3, .ptr 0 0), (4, .ptr 1 0), (6, .ptr 2 0), (8, .own 3 3 0 ((x9 ++ r11.2).length)), (14, (sL SRecord.cells a2)), (15, (iV ((a2.length : Nat) : Int))), (16, (iV ((x6 : Nat) : Int)))], [(0, .box (SOp.avs a0) 55), (1, .box (SOpState.avs r11.1) 48), (2, .box [(sL SKeyState.cells []), (iV 0)] 48), (3, .acc 3 (List.map SPut.cells (x9 ++ r11.2)) 167)], 5⟩ (by kernel_rfl) ⟨(ax (fun _ => rfl) (by decide) (by (try simp only [NM, List.length_take, List.length_drop]); omega)), trivial⟩ ?_
   refine go_blk ?_
   refine go_rk eqOk ttOk [(0, .tell (iV ((x6 + 1 : Nat) : Int)))] [WR (((x6 : Nat) : Int) + 1) ((x6 + 1 : Nat) : Int)] ⟨[(3, .ptr 0 0), (4, .ptr 1 0), (6, .ptr 2 0), (8, .own 3 3 0 ((x9 ++ r11.2).length)), (14, (sL SRecord.cells a2)), (15, (iV ((a2.length : Nat) : Int))), (16, (iV ((x6 + 1 : Nat) : Int)))], [(0, .box (SOp.avs a0) 55), (1, .box (SOpState.avs r11.1) 48), (2, .box [(sL SKeyState.cells []), (iV 0)] 48), (3, .acc 3 (List.map SPut.cells (x9 ++ r11.2)) 167)], 5⟩ (by kernel_rfl) ⟨(wr (by omega) (by omega) (by omega)), trivial⟩ ?_
   exact go_fin ⟨(x6 + 1, r11.1.Keys, r11.1.Turn, (x9 ++ r11.2)), ⟨⟨by (try dsimp only); omega, by (try dsimp only); omega, by (try dsimp only); simp only [List.length_append]; omega⟩, hx1⟩, by first | omega | (dsimp only; omega), (Weak.cn [0, 1, 2, 3] [3, 4, 6, 8, 14, 15, 16] rfl rfl rfl)⟩
  ·have gh10 := h10
   try simp only [GZ] at gh10
   replace hx1 := iteF h10 hx1
   refine go_exit rfl ?_
   exact go_fin ⟨(x7, x8, x9), ⟨hx1.symm, by first | omega | (dsimp only; omega) | (simp only [List.length_nil, List.length_set, List.length_replicate, List.length_append, List.length_take, List.length_cons]; omega)⟩, (Weak.cn [1, 2, 3] [4, 6, 8] rfl rfl rfl)⟩
 ·rintro o2_ ⟨hp, hqo2⟩
  try dsimp only at hqo2
  try dsimp only at hp
  subst hp
  refine go_seq ?_
  refine go_rk eqOk ttOk [] [] ⟨[(6, .ptr 1 0), (7, .own 2 3 0 o2.2.2.length)], [(1, .box [(sL SKeyState.cells o2.1), (iV o2.2.1)] 48), (2, .acc 3 (List.map SPut.cells o2.2.2) 167)], 3⟩ (by kernel_rfl) trivial ?_
  subst hx0
  exact go_ret1 rfl
end Go.Ab.Try
