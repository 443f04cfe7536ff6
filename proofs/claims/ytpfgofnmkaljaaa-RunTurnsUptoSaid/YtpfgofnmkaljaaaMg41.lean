/-
  Functions, and what they compute: printed by wg.py, a program of this work.
-/
import Derived.Test.YtpfgofnmkaljaaaMg36
set_option linter.unusedVariables false
set_option linter.unusedSimpArgs false
namespace Go.Ab.Try
open Go Go.Proofs Go.Ab
def oper_rest (a0 : Int) (a1 : Int) : Int :=
  (bif (decide (a1 < 1)) then 0 else letIn ((bif (decide ((Int.tmod a0 a1) < 0)) then (IntKind.i64.wrap ((Int.tmod a0 a1) + a1)) else (Int.tmod a0 a1))) fun o2 => o2)
set_option maxRecDepth 10000 in
set_option maxHeartbeats 8000000 in
theorem oper_rest_t (a0 : Int) (a1 : Int) : FnP Try.prog 107 [(iV a0), (iV a1)] ((iV (oper_rest a0 a1))) := by
 refine FnP.intro (tt := tt) Try.func107 rfl (by kernel_rfl) (by simp [Try.ntmps107]) fun w0 A hA => ?_
 have hR := reckB_ok eqOk ttOk
 obtain ⟨res, hx0⟩ : ∃ r, oper_rest a0 a1 = r := ⟨_, rfl⟩
 simp only [hx0]
 unfold oper_rest at hx0
 simp only [argT, Try.ntmps107]
 refine go_seq ?_
 refine go_rk eqOk ttOk [] [] ⟨[(0, (iV a0)), (1, (iV a1))], [], 0⟩ (by kernel_rfl) trivial ?_
 refine go_seq ?_
 refine go_seq ?_
 refine go_rk eqOk ttOk [] [] ⟨[(0, (iV a0)), (1, (iV a1)), (6, (bo (decide (a1 < 1))))], [], 0⟩ (by kernel_rfl) trivial ?_
 refine go_cond (by rfl) (fun h1 => ?_) (fun h1 => ?_)
 ·have gh1 := h1
  try simp only [GZ] at gh1
  replace hx0 := condT h1 hx0
  refine go_seq ?_
  refine go_rk eqOk ttOk [] [] ⟨[(4, (iV 0))], [], 0⟩ (by kernel_rfl) trivial ?_
  subst hx0
  exact go_ret1 rfl
 ·have gh1 := h1
  try simp only [GZ] at gh1
  replace hx0 := condF h1 hx0
  refine go_skip ?_
  refine go_seq ?_
  refine go_rk eqOk ttOk [] [DV a1] ⟨[(0, (iV (Int.tmod a0 a1))), (1, (iV a1))], [], 0⟩ (by kernel_rfl) ⟨(dv (by first | decide | omega)), trivial⟩ ?_
  refine go_seq ?_
  refine go_seq ?_
  refine go_rk eqOk ttOk [] [] ⟨[(0, (iV (Int.tmod a0 a1))), (1, (iV a1)), (11, (bo (decide ((Int.tmod a0 a1) < 0))))], [], 0⟩ (by kernel_rfl) trivial ?_
  obtain ⟨o2, hx1, hx0⟩ := letIn_ex hx0
  refine go_joinE (fun p : Int => ⟨[(0, (iV p))], [], 0⟩) (fun p : Int => o2 = p) ?_ ?_
  ·refine go_cond (by rfl) (fun h3 => ?_) (fun h3 => ?_)
   ·have gh3 := h3
    try simp only [GZ] at gh3
    replace hx1 := condT h3 hx1
    refine go_rk eqOk ttOk [] [] ⟨[(0, (iV (IntKind.i64.wrap ((Int.tmod a0 a1) + a1))))], [], 0⟩ (by kernel_rfl) trivial ?_
    exact go_fin ⟨(IntKind.i64.wrap ((Int.tmod a0 a1) + a1)), hx1.symm, (Weak.canon [] [0] (by decide) rfl trivial rfl (by simp) (by first | rfl | (simp only [NM, CELLS] <;> rfl) | (simp [NM, CELLS]; done) | (simp [NM, CELLS, AVS]; done) | (simp [NM, CELLS, AVS, numb]; done)) rfl rfl)⟩
   ·have gh3 := h3
    try simp only [GZ] at gh3
    replace hx1 := condF h3 hx1
    refine go_skip ?_
    exact go_fin ⟨(Int.tmod a0 a1), hx1.symm, (Weak.canon [] [0] (by decide) rfl trivial rfl (by simp) (by first | rfl | (simp only [NM, CELLS] <;> rfl) | (simp [NM, CELLS]; done) | (simp [NM, CELLS, AVS]; done) | (simp [NM, CELLS, AVS, numb]; done)) rfl rfl)⟩
  ·rintro o2_ hp
   try dsimp only at hp
   subst hp
   refine go_seq ?_
   refine go_rk eqOk ttOk [] [] ⟨[(4, (iV o2))], [], 0⟩ (by kernel_rfl) trivial ?_
   subst hx0
   exact go_ret1 rfl
def oper_Value (a0 : SOp) (a1 : SRecord) : SRecord :=
  letIn ((bif (a0.Kind == 2) then (bif (a0.Fn == 1) then (a1.Key, (IntKind.i64.wrap (a1.Val + a0.Arg))) else (bif (a0.Fn == 2) then (a1.Key, (IntKind.i64.wrap (a1.Val * a0.Arg))) else (bif (a0.Fn == 3) then (a1.Key, (IntKind.i64.wrap (0 - a1.Val))) else (bif (a0.Fn == 4) then (a1.Key, (xorI a1.Val a0.Arg)) else (a1.Key, a1.Val))))) else (bif (a0.Kind == 4) then (bif (a0.Fn == 2) then ((oper_rest a1.Key a0.Arg), a1.Val) else (bif (a0.Fn == 3) then ((oper_rest a1.Val a0.Arg), a1.Val) else (bif (a0.Fn == 4) then (a0.Arg, a1.Val) else (a1.Key, a1.Val)))) else (a1.Key, a1.Val)))) fun o1 => (SRecord.mk o1.1 o1.2)
set_option maxRecDepth 10000 in
set_option maxHeartbeats 8000000 in
theorem oper_Value_t (a0 : SOp) (a1 : SRecord) : FnP Try.prog 105 [.agg (SOp.avs a0), .agg (SRecord.avs a1)] (.agg (SRecord.avs (oper_Value a0 a1))) := by
 refine FnP.intro (tt := tt) Try.func105 rfl (by kernel_rfl) (by simp [Try.ntmps105]) fun w0 A hA => ?_
 have hR := reckB_ok eqOk ttOk
 obtain ⟨res, hx0⟩ : ∃ r, oper_Value a0 a1 = r := ⟨_, rfl⟩
 simp only [hx0]
 unfold oper_Value at hx0
 simp only [argT, Try.ntmps105]
 refine go_seq ?_
 refine go_rk eqOk ttOk [] [] ⟨[(2, .ptr 0 0), (3, .ptr 1 0), (4, .ptr 2 0)], [(0, .box (SOp.avs a0) 55), (1, .box (SRecord.avs a1) 34), (2, .box [(iV 0), (iV 0)] 34)], 3⟩ (by kernel_rfl) trivial ?_
 refine go_seq ?_
 refine go_seq ?_
 refine go_rk eqOk ttOk [] [] ⟨[(2, .ptr 0 0), (3, .ptr 1 0), (4, .ptr 2 0), (6, (iV a0.Kind))], [(0, .box (SOp.avs a0) 55), (1, .box (SRecord.avs a1) 34), (2, .box [(iV 0), (iV 0)] 34)], 3⟩ (by kernel_rfl) trivial ?_
 obtain ⟨o1, hx1, hx0⟩ := letIn_ex hx0
 refine go_joinE (fun p : Int × Int => ⟨[(3, .ptr 0 0), (4, .ptr 1 0)], [(0, .box [(iV p.1), (iV p.2)] 34), (1, .box [(iV 0), (iV 0)] 34)], 2⟩) (fun p : Int × Int => o1 = p) ?_ ?_
 ·refine go_block ?_
  refine go_seq ?_
  refine go_rk eqOk ttOk [] [] ⟨[(2, .ptr 0 0), (3, .ptr 1 0), (4, .ptr 2 0), (6, (iV a0.Kind)), (7, (bo (a0.Kind == 2)))], [(0, .box (SOp.avs a0) 55), (1, .box (SRecord.avs a1) 34), (2, .box [(iV 0), (iV 0)] 34)], 3⟩ (by kernel_rfl) trivial ?_
  refine go_cond (by rfl) (fun h2 => ?_) (fun h2 => ?_)
  ·have gh2 := h2
   try simp only [GZ] at gh2
   replace hx1 := condT h2 hx1
   refine go_seq ?_
   refine go_rk eqOk ttOk [] [] ⟨[(2, .ptr 0 0), (3, .ptr 1 0), (4, .ptr 2 0), (10, (iV a0.Fn))], [(0, .box (SOp.avs a0) 55), (1, .box (SRecord.avs a1) 34), (2, .box [(iV 0), (iV 0)] 34)], 3⟩ (by kernel_rfl) trivial ?_
   refine go_block ?_
   refine go_seq ?_
   refine go_rk eqOk ttOk [] [] ⟨[(2, .ptr 0 0), (3, .ptr 1 0), (4, .ptr 2 0), (10, (iV a0.Fn)), (11, (bo (a0.Fn == 1)))], [(0, .box (SOp.avs a0) 55), (1, .box (SRecord.avs a1) 34), (2, .box [(iV 0), (iV 0)] 34)], 3⟩ (by kernel_rfl) trivial ?_
   refine go_cond (by rfl) (fun h3 => ?_) (fun h3 => ?_)
   ·have gh3 := h3
    try simp only [GZ] at gh3
    replace hx1 := condT h3 hx1
    refine go_rk eqOk ttOk [] [] ⟨[(3, .ptr 1 0), (4, .ptr 2 0)], [(1, .box [(iV a1.Key), (iV (IntKind.i64.wrap (a1.Val + a0.Arg)))] 34), (2, .box [(iV 0), (iV 0)] 34)], 3⟩ (by kernel_rfl) trivial ?_
    refine go_blk ?_
    refine go_blk ?_
    exact go_fin ⟨(a1.Key, (IntKind.i64.wrap (a1.Val + a0.Arg))), hx1.symm, (Weak.cn [1, 2] [3, 4] rfl rfl rfl)⟩
   ·have gh3 := h3
    try simp only [GZ] at gh3
    replace hx1 := condF h3 hx1
    refine go_seq ?_
    refine go_rk eqOk ttOk [] [] ⟨[(2, .ptr 0 0), (3, .ptr 1 0), (4, .ptr 2 0), (10, (iV a0.Fn)), (19, (bo (a0.Fn == 2)))], [(0, .box (SOp.avs a0) 55), (1, .box (SRecord.avs a1) 34), (2, .box [(iV 0), (iV 0)] 34)], 3⟩ (by kernel_rfl) trivial ?_
    refine go_cond (by rfl) (fun h4 => ?_) (fun h4 => ?_)
    ·have gh4 := h4
     try simp only [GZ] at gh4
     replace hx1 := condT h4 hx1
     refine go_rk eqOk ttOk [] [] ⟨[(3, .ptr 1 0), (4, .ptr 2 0)], [(1, .box [(iV a1.Key), (iV (IntKind.i64.wrap (a1.Val * a0.Arg)))] 34), (2, .box [(iV 0), (iV 0)] 34)], 3⟩ (by kernel_rfl) trivial ?_
     refine go_blk ?_
     refine go_blk ?_
     exact go_fin ⟨(a1.Key, (IntKind.i64.wrap (a1.Val * a0.Arg))), hx1.symm, (Weak.cn [1, 2] [3, 4] rfl rfl rfl)⟩
    ·have gh4 := h4
     try simp only [GZ] at gh4
     replace hx1 := condF h4 hx1
     refine go_seq ?_
     refine go_rk eqOk ttOk [] [] ⟨[(2, .ptr 0 0), (3, .ptr 1 0), (4, .ptr 2 0), (10, (iV a0.Fn)), (27, (bo (a0.Fn == 3)))], [(0, .box (SOp.avs a0) 55), (1, .box (SRecord.avs a1) 34), (2, .box [(iV 0), (iV 0)] 34)], 3⟩ (by kernel_rfl) trivial ?_
     refine go_cond (by rfl) (fun h5 => ?_) (fun h5 => ?_)
     ·have gh5 := h5
      try simp only [GZ] at gh5
      replace hx1 := condT h5 hx1
      refine go_rk eqOk ttOk [] [] ⟨[(3, .ptr 1 0), (4, .ptr 2 0)], [(1, .box [(iV a1.Key), (iV (IntKind.i64.wrap (0 - a1.Val)))] 34), (2, .box [(iV 0), (iV 0)] 34)], 3⟩ (by kernel_rfl) trivial ?_
      refine go_blk ?_
      refine go_blk ?_
      exact go_fin ⟨(a1.Key, (IntKind.i64.wrap (0 - a1.Val))), hx1.symm, (Weak.cn [1, 2] [3, 4] rfl rfl rfl)⟩
     ·have gh5 := h5
      try simp only [GZ] at gh5
      replace hx1 := condF h5 hx1
      refine go_seq ?_
      refine go_rk eqOk ttOk [] [] ⟨[(2, .ptr 0 0), (3, .ptr 1 0), (4, .ptr 2 0), (33, (bo (a0.Fn == 4)))], [(0, .box (SOp.avs a0) 55), (1, .box (SRecord.avs a1) 34), (2, .box [(iV 0), (iV 0)] 34)], 3⟩ (by kernel_rfl) trivial ?_
      refine go_cond (by rfl) (fun h6 => ?_) (fun h6 => ?_)
      ·have gh6 := h6
       try simp only [GZ] at gh6
       replace hx1 := condT h6 hx1
       refine go_rk eqOk ttOk [] [] ⟨[(3, .ptr 1 0), (4, .ptr 2 0)], [(1, .box [(iV a1.Key), (iV (xorI a1.Val a0.Arg))] 34), (2, .box [(iV 0), (iV 0)] 34)], 3⟩ (by kernel_rfl) trivial ?_
       refine go_blk ?_
       refine go_blk ?_
       exact go_fin ⟨(a1.Key, (xorI a1.Val a0.Arg)), hx1.symm, (Weak.cn [1, 2] [3, 4] rfl rfl rfl)⟩
      ·have gh6 := h6
       try simp only [GZ] at gh6
       replace hx1 := condF h6 hx1
       refine go_skip ?_
       refine go_blk ?_
       refine go_blk ?_
       exact go_fin ⟨(a1.Key, a1.Val), hx1.symm, (Weak.cn [1, 2] [3, 4] rfl rfl rfl)⟩
  ·have gh2 := h2
   try simp only [GZ] at gh2
   replace hx1 := condF h2 hx1
   refine go_seq ?_
   refine go_rk eqOk ttOk [] [] ⟨[(2, .ptr 0 0), (3, .ptr 1 0), (4, .ptr 2 0), (41, (bo (a0.Kind == 4)))], [(0, .box (SOp.avs a0) 55), (1, .box (SRecord.avs a1) 34), (2, .box [(iV 0), (iV 0)] 34)], 3⟩ (by kernel_rfl) trivial ?_
   refine go_cond (by rfl) (fun h7 => ?_) (fun h7 => ?_)
   ·have gh7 := h7
    try simp only [GZ] at gh7
    replace hx1 := condT h7 hx1
    refine go_seq ?_
    refine go_rk eqOk ttOk [] [] ⟨[(2, .ptr 0 0), (3, .ptr 1 0), (4, .ptr 2 0), (44, (iV a0.Fn))], [(0, .box (SOp.avs a0) 55), (1, .box (SRecord.avs a1) 34), (2, .box [(iV 0), (iV 0)] 34)], 3⟩ (by kernel_rfl) trivial ?_
    refine go_block ?_
    refine go_seq ?_
    refine go_rk eqOk ttOk [] [] ⟨[(2, .ptr 0 0), (3, .ptr 1 0), (4, .ptr 2 0), (44, (iV a0.Fn)), (45, (bo (a0.Fn == 2)))], [(0, .box (SOp.avs a0) 55), (1, .box (SRecord.avs a1) 34), (2, .box [(iV 0), (iV 0)] 34)], 3⟩ (by kernel_rfl) trivial ?_
    refine go_cond (by rfl) (fun h8 => ?_) (fun h8 => ?_)
    ·have gh8 := h8
     try simp only [GZ] at gh8
     replace hx1 := condT h8 hx1
     refine go_rk eqOk ttOk [(4, .fn ((oper_rest_t a1.Key a0.Arg)).toO)] [AQ ((oper_rest_t a1.Key a0.Arg)).toO] ⟨[(3, .ptr 1 0), (4, .ptr 2 0)], [(1, .box [(iV (oper_rest a1.Key a0.Arg)), (iV a1.Val)] 34), (2, .box [(iV 0), (iV 0)] 34)], 3⟩ (by kernel_rfl) ⟨⟨rfl, rfl⟩, trivial⟩ ?_
     refine go_blk ?_
     refine go_blk ?_
     exact go_fin ⟨((oper_rest a1.Key a0.Arg), a1.Val), hx1.symm, (Weak.cn [1, 2] [3, 4] rfl rfl rfl)⟩
    ·have gh8 := h8
     try simp only [GZ] at gh8
     replace hx1 := condF h8 hx1
     refine go_seq ?_
     refine go_rk eqOk ttOk [] [] ⟨[(2, .ptr 0 0), (3, .ptr 1 0), (4, .ptr 2 0), (44, (iV a0.Fn)), (53, (bo (a0.Fn == 3)))], [(0, .box (SOp.avs a0) 55), (1, .box (SRecord.avs a1) 34), (2, .box [(iV 0), (iV 0)] 34)], 3⟩ (by kernel_rfl) trivial ?_
     refine go_cond (by rfl) (fun h9 => ?_) (fun h9 => ?_)
     ·have gh9 := h9
      try simp only [GZ] at gh9
      replace hx1 := condT h9 hx1
      refine go_rk eqOk ttOk [(4, .fn ((oper_rest_t a1.Val a0.Arg)).toO)] [AQ ((oper_rest_t a1.Val a0.Arg)).toO] ⟨[(3, .ptr 1 0), (4, .ptr 2 0)], [(1, .box [(iV (oper_rest a1.Val a0.Arg)), (iV a1.Val)] 34), (2, .box [(iV 0), (iV 0)] 34)], 3⟩ (by kernel_rfl) ⟨⟨rfl, rfl⟩, trivial⟩ ?_
      refine go_blk ?_
      refine go_blk ?_
      exact go_fin ⟨((oper_rest a1.Val a0.Arg), a1.Val), hx1.symm, (Weak.cn [1, 2] [3, 4] rfl rfl rfl)⟩
     ·have gh9 := h9
      try simp only [GZ] at gh9
      replace hx1 := condF h9 hx1
      refine go_seq ?_
      refine go_rk eqOk ttOk [] [] ⟨[(2, .ptr 0 0), (3, .ptr 1 0), (4, .ptr 2 0), (61, (bo (a0.Fn == 4)))], [(0, .box (SOp.avs a0) 55), (1, .box (SRecord.avs a1) 34), (2, .box [(iV 0), (iV 0)] 34)], 3⟩ (by kernel_rfl) trivial ?_
      refine go_cond (by rfl) (fun h10 => ?_) (fun h10 => ?_)
      ·have gh10 := h10
       try simp only [GZ] at gh10
       replace hx1 := condT h10 hx1
       refine go_rk eqOk ttOk [] [] ⟨[(3, .ptr 1 0), (4, .ptr 2 0)], [(1, .box [(iV a0.Arg), (iV a1.Val)] 34), (2, .box [(iV 0), (iV 0)] 34)], 3⟩ (by kernel_rfl) trivial ?_
       refine go_blk ?_
       refine go_blk ?_
       exact go_fin ⟨(a0.Arg, a1.Val), hx1.symm, (Weak.cn [1, 2] [3, 4] rfl rfl rfl)⟩
      ·have gh10 := h10
       try simp only [GZ] at gh10
       replace hx1 := condF h10 hx1
       refine go_skip ?_
       refine go_blk ?_
       refine go_blk ?_
       exact go_fin ⟨(a1.Key, a1.Val), hx1.symm, (Weak.cn [1, 2] [3, 4] rfl rfl rfl)⟩
   ·have gh7 := h7
    try simp only [GZ] at gh7
    replace hx1 := condF h7 hx1
    refine go_skip ?_
    refine go_blk ?_
    exact go_fin ⟨(a1.Key, a1.Val), hx1.symm, (Weak.cn [1, 2] [3, 4] rfl rfl rfl)⟩
 ·rintro o1_ hp
  try dsimp only at hp
  subst hp
  refine go_seq ?_
  refine go_rk eqOk ttOk [] [] ⟨[(4, .ptr 1 0)], [(1, .box [(iV o1.1), (iV o1.2)] 34)], 2⟩ (by kernel_rfl) trivial ?_
  subst hx0
  exact go_ret1 rfl
def oper_Holds (a0 : SOp) (a1 : SRecord) : Bool :=
  (bif (a0.Kind != 3) then true else (bif (a0.Fn == 1) then (decide (a1.Val < a0.Arg)) else (bif (a0.Fn == 2) then (a1.Val == a0.Arg) else (bif (a0.Fn == 3) then ((andI a1.Val 1) == 1) else (bif (a0.Fn == 4) then ((andI a1.Val a0.Arg) != 0) else false)))))
set_option maxRecDepth 10000 in
set_option maxHeartbeats 8000000 in
theorem oper_Holds_t (a0 : SOp) (a1 : SRecord) : FnP Try.prog 106 [.agg (SOp.avs a0), .agg (SRecord.avs a1)] ((bo (oper_Holds a0 a1))) := by
 refine FnP.intro (tt := tt) Try.func106 rfl (by kernel_rfl) (by simp [Try.ntmps106]) fun w0 A hA => ?_
 have hR := reckB_ok eqOk ttOk
 obtain ⟨res, hx0⟩ : ∃ r, oper_Holds a0 a1 = r := ⟨_, rfl⟩
 simp only [hx0]
 unfold oper_Holds at hx0
 simp only [argT, Try.ntmps106]
 refine go_seq ?_
 refine go_rk eqOk ttOk [] [] ⟨[(2, .ptr 0 0), (3, .ptr 1 0)], [(0, .box (SOp.avs a0) 55), (1, .box (SRecord.avs a1) 34)], 2⟩ (by kernel_rfl) trivial ?_
 refine go_seq ?_
 refine go_seq ?_
 refine go_rk eqOk ttOk [] [] ⟨[(2, .ptr 0 0), (3, .ptr 1 0), (7, (bo (a0.Kind != 3)))], [(0, .box (SOp.avs a0) 55), (1, .box (SRecord.avs a1) 34)], 2⟩ (by kernel_rfl) trivial ?_
 refine go_cond (by rfl) (fun h1 => ?_) (fun h1 => ?_)
 ·have gh1 := h1
  try simp only [GZ] at gh1
  replace hx0 := condT h1 hx0
  refine go_seq ?_
  refine go_rk eqOk ttOk [] [] ⟨[(4, (bo true))], [], 2⟩ (by kernel_rfl) trivial ?_
  subst hx0
  exact go_ret1 rfl
 ·have gh1 := h1
  try simp only [GZ] at gh1
  replace hx0 := condF h1 hx0
  refine go_skip ?_
  refine go_seq ?_
  refine go_seq ?_
  refine go_rk eqOk ttOk [] [] ⟨[(2, .ptr 0 0), (3, .ptr 1 0), (9, (iV a0.Fn))], [(0, .box (SOp.avs a0) 55), (1, .box (SRecord.avs a1) 34)], 2⟩ (by kernel_rfl) trivial ?_
  refine go_block ?_
  refine go_seq ?_
  refine go_rk eqOk ttOk [] [] ⟨[(2, .ptr 0 0), (3, .ptr 1 0), (9, (iV a0.Fn)), (10, (bo (a0.Fn == 1)))], [(0, .box (SOp.avs a0) 55), (1, .box (SRecord.avs a1) 34)], 2⟩ (by kernel_rfl) trivial ?_
  refine go_cond (by rfl) (fun h2 => ?_) (fun h2 => ?_)
  ·have gh2 := h2
   try simp only [GZ] at gh2
   replace hx0 := condT h2 hx0
   refine go_seq ?_
   refine go_rk eqOk ttOk [] [] ⟨[(4, (bo (decide (a1.Val < a0.Arg))))], [], 2⟩ (by kernel_rfl) trivial ?_
   subst hx0
   exact go_ret1 rfl
  ·have gh2 := h2
   try simp only [GZ] at gh2
   replace hx0 := condF h2 hx0
   refine go_seq ?_
   refine go_rk eqOk ttOk [] [] ⟨[(2, .ptr 0 0), (3, .ptr 1 0), (9, (iV a0.Fn)), (17, (bo (a0.Fn == 2)))], [(0, .box (SOp.avs a0) 55), (1, .box (SRecord.avs a1) 34)], 2⟩ (by kernel_rfl) trivial ?_
   refine go_cond (by rfl) (fun h3 => ?_) (fun h3 => ?_)
   ·have gh3 := h3
    try simp only [GZ] at gh3
    replace hx0 := condT h3 hx0
    refine go_seq ?_
    refine go_rk eqOk ttOk [] [] ⟨[(4, (bo (a1.Val == a0.Arg)))], [], 2⟩ (by kernel_rfl) trivial ?_
    subst hx0
    exact go_ret1 rfl
   ·have gh3 := h3
    try simp only [GZ] at gh3
    replace hx0 := condF h3 hx0
    refine go_seq ?_
    refine go_rk eqOk ttOk [] [] ⟨[(2, .ptr 0 0), (3, .ptr 1 0), (9, (iV a0.Fn)), (24, (bo (a0.Fn == 3)))], [(0, .box (SOp.avs a0) 55), (1, .box (SRecord.avs a1) 34)], 2⟩ (by kernel_rfl) trivial ?_
    refine go_cond (by rfl) (fun h4 => ?_) (fun h4 => ?_)
    ·have gh4 := h4
     try simp only [GZ] at gh4
     replace hx0 := condT h4 hx0
     refine go_seq ?_
     refine go_rk eqOk ttOk [] [] ⟨[(4, (bo ((andI a1.Val 1) == 1)))], [], 2⟩ (by kernel_rfl) trivial ?_
     subst hx0
     exact go_ret1 rfl
    ·have gh4 := h4
     try simp only [GZ] at gh4
     replace hx0 := condF h4 hx0
     refine go_seq ?_
     refine go_rk eqOk ttOk [] [] ⟨[(2, .ptr 0 0), (3, .ptr 1 0), (30, (bo (a0.Fn == 4)))], [(0, .box (SOp.avs a0) 55), (1, .box (SRecord.avs a1) 34)], 2⟩ (by kernel_rfl) trivial ?_
     refine go_cond (by rfl) (fun h5 => ?_) (fun h5 => ?_)
     ·have gh5 := h5
      try simp only [GZ] at gh5
      replace hx0 := condT h5 hx0
      refine go_seq ?_
      refine go_rk eqOk ttOk [] [] ⟨[(4, (bo ((andI a1.Val a0.Arg) != 0)))], [], 2⟩ (by kernel_rfl) trivial ?_
      subst hx0
      exact go_ret1 rfl
     ·have gh5 := h5
      try simp only [GZ] at gh5
      replace hx0 := condF h5 hx0
      refine go_skip ?_
      refine go_blk ?_
      refine go_seq ?_
      refine go_rk eqOk ttOk [] [] ⟨[(4, (bo false))], [], 2⟩ (by kernel_rfl) trivial ?_
      subst hx0
      exact go_ret1 rfl
def oper_Acc (a0 : Int) (a1 : SKeyState) (a2 : Int) : Int :=
  (bif (decide (a1.Count < 1)) then (bif (a0 == 2) then 1 else a2) else (bif (a0 == 1) then (IntKind.i64.wrap (a1.Acc + a2)) else (bif (a0 == 2) then (IntKind.i64.wrap (a1.Acc + 1)) else (bif (a0 == 3) then (if a2 > a1.Acc then a2 else a1.Acc) else (bif (a0 == 4) then (if a2 < a1.Acc then a2 else a1.Acc) else a2)))))
set_option maxRecDepth 10000 in
set_option maxHeartbeats 8000000 in
theorem oper_Acc_t (a0 : Int) (a1 : SKeyState) (a2 : Int) : FnP Try.prog 118 [(iV a0), .agg (SKeyState.avs a1), (iV a2)] ((iV (oper_Acc a0 a1 a2))) := by
 refine FnP.intro (tt := tt) Try.func118 rfl (by kernel_rfl) (by simp [Try.ntmps118]) fun w0 A hA => ?_
 have hR := reckB_ok eqOk ttOk
 obtain ⟨res, hx0⟩ : ∃ r, oper_Acc a0 a1 a2 = r := ⟨_, rfl⟩
 simp only [hx0]
 unfold oper_Acc at hx0
 simp only [argT, Try.ntmps118]
 refine go_seq ?_
 refine go_rk eqOk ttOk [] [] ⟨[(0, (iV a0)), (2, (iV a2)), (4, .ptr 0 0)], [(0, .box (SKeyState.avs a1) 171)], 1⟩ (by kernel_rfl) trivial ?_
 refine go_seq ?_
 refine go_seq ?_
 refine go_rk eqOk ttOk [] [] ⟨[(0, (iV a0)), (2, (iV a2)), (4, .ptr 0 0), (9, (bo (decide (a1.Count < 1))))], [(0, .box (SKeyState.avs a1) 171)], 1⟩ (by kernel_rfl) trivial ?_
 refine go_cond (by rfl) (fun h1 => ?_) (fun h1 => ?_)
 ·have gh1 := h1
  try simp only [GZ] at gh1
  replace hx0 := condT h1 hx0
  refine go_seq ?_
  refine go_seq ?_
  refine go_rk eqOk ttOk [] [] ⟨[(2, (iV a2)), (11, (bo (a0 == 2)))], [], 1⟩ (by kernel_rfl) trivial ?_
  refine go_cond (by rfl) (fun h2 => ?_) (fun h2 => ?_)
  ·have gh2 := h2
   try simp only [GZ] at gh2
   replace hx0 := condT h2 hx0
   refine go_seq ?_
   refine go_rk eqOk ttOk [] [] ⟨[(6, (iV 1))], [], 1⟩ (by kernel_rfl) trivial ?_
   subst hx0
   exact go_ret1 rfl
  ·have gh2 := h2
   try simp only [GZ] at gh2
   replace hx0 := condF h2 hx0
   refine go_skip ?_
   refine go_seq ?_
   refine go_rk eqOk ttOk [] [] ⟨[(6, (iV a2))], [], 1⟩ (by kernel_rfl) trivial ?_
   subst hx0
   exact go_ret1 rfl
 ·have gh1 := h1
  try simp only [GZ] at gh1
  replace hx0 := condF h1 hx0
  refine go_skip ?_
  refine go_seq ?_
  refine go_seq ?_
  refine go_rk eqOk ttOk [] [] ⟨[(2, (iV a2)), (4, .ptr 0 0), (13, (iV a0))], [(0, .box (SKeyState.avs a1) 171)], 1⟩ (by kernel_rfl) trivial ?_
  refine go_block ?_
  refine go_seq ?_
  refine go_rk eqOk ttOk [] [] ⟨[(2, (iV a2)), (4, .ptr 0 0), (13, (iV a0)), (14, (bo (a0 == 1)))], [(0, .box (SKeyState.avs a1) 171)], 1⟩ (by kernel_rfl) trivial ?_
  refine go_cond (by rfl) (fun h3 => ?_) (fun h3 => ?_)
  ·have gh3 := h3
   try simp only [GZ] at gh3
   replace hx0 := condT h3 hx0
   refine go_seq ?_
   refine go_rk eqOk ttOk [] [] ⟨[(6, (iV (IntKind.i64.wrap (a1.Acc + a2))))], [], 1⟩ (by kernel_rfl) trivial ?_
   subst hx0
   exact go_ret1 rfl
  ·have gh3 := h3
   try simp only [GZ] at gh3
   replace hx0 := condF h3 hx0
   refine go_seq ?_
   refine go_rk eqOk ttOk [] [] ⟨[(2, (iV a2)), (4, .ptr 0 0), (13, (iV a0)), (20, (bo (a0 == 2)))], [(0, .box (SKeyState.avs a1) 171)], 1⟩ (by kernel_rfl) trivial ?_
   refine go_cond (by rfl) (fun h4 => ?_) (fun h4 => ?_)
   ·have gh4 := h4
    try simp only [GZ] at gh4
    replace hx0 := condT h4 hx0
    refine go_seq ?_
    refine go_rk eqOk ttOk [] [] ⟨[(6, (iV (IntKind.i64.wrap (a1.Acc + 1))))], [], 1⟩ (by kernel_rfl) trivial ?_
    subst hx0
    exact go_ret1 rfl
   ·have gh4 := h4
    try simp only [GZ] at gh4
    replace hx0 := condF h4 hx0
    refine go_seq ?_
    refine go_rk eqOk ttOk [] [] ⟨[(2, (iV a2)), (4, .ptr 0 0), (13, (iV a0)), (25, (bo (a0 == 3)))], [(0, .box (SKeyState.avs a1) 171)], 1⟩ (by kernel_rfl) trivial ?_
    refine go_cond (by rfl) (fun h5 => ?_) (fun h5 => ?_)
    ·have gh5 := h5
     try simp only [GZ] at gh5
     replace hx0 := condT h5 hx0
     refine go_seq ?_
     refine go_rk eqOk ttOk [] [] ⟨[(6, (iV (if a2 > a1.Acc then a2 else a1.Acc)))], [], 1⟩ (by kernel_rfl) trivial ?_
     subst hx0
     exact go_ret1 rfl
    ·have gh5 := h5
     try simp only [GZ] at gh5
     replace hx0 := condF h5 hx0
     refine go_seq ?_
     refine go_rk eqOk ttOk [] [] ⟨[(2, (iV a2)), (4, .ptr 0 0), (31, (bo (a0 == 4)))], [(0, .box (SKeyState.avs a1) 171)], 1⟩ (by kernel_rfl) trivial ?_
     refine go_cond (by rfl) (fun h6 => ?_) (fun h6 => ?_)
     ·have gh6 := h6
      try simp only [GZ] at gh6
      replace hx0 := condT h6 hx0
      refine go_seq ?_
      refine go_rk eqOk ttOk [] [] ⟨[(6, (iV (if a2 < a1.Acc then a2 else a1.Acc)))], [], 1⟩ (by kernel_rfl) trivial ?_
      subst hx0
      exact go_ret1 rfl
     ·have gh6 := h6
      try simp only [GZ] at gh6
      replace hx0 := condF h6 hx0
      refine go_skip ?_
      refine go_blk ?_
      refine go_seq ?_
      refine go_rk eqOk ttOk [] [] ⟨[(6, (iV a2))], [], 1⟩ (by kernel_rfl) trivial ?_
      subst hx0
      exact go_ret1 rfl
def slices_Clone_KeyState (a0 : List SKeyState) : List SKeyState := a0
set_option maxRecDepth 10000 in
theorem slices_Clone_KeyState_o (a0 : List SKeyState) (hz : a0.length ≤ 4294967296) : FnO Try.prog 110 [.c (.sl (List.map SKeyState.cells a0))] [.acc 3 (List.map SKeyState.cells a0) 171] (.own 0 3 0 a0.length) := by
  refine FnO.intro (tt := tt) Try.func110 rfl (by kernel_rfl) (by simp [Try.ntmps110]) fun w0 A hA => ?_
  have hR := reckB_ok eqOk ttOk
  simp only [argT, Try.ntmps110]
  (repeat (first | refine go_seq ?_ | refine go_skip ?_ | refine go_blk ?_ | refine go_block ?_ | refine go_scope (fun _ _ _ h => h) ?_ | refine go_label ?_ | (refine go_region hR ?_; simp only [EV1, EV2, EV3, EV4, EV5, EV6, EV7, EV8, EV9, EV10, EV11, EV12, eqF, Op.operands, IntKind.bits, descF, sizeF, bytesF, zeroF, Nat.reduceLT, Nat.reduceLeDiff, Nat.reduceAdd, Nat.reduceSub, Nat.reduceMul, Nat.reduceBEq, Nat.reduceEqDiff, reduceCtorEq, ↓reduceIte, Int.reduceToNat, Nat.reducePow, Int.reducePow, Int.reduceLE, Int.reduceLT, Int.reduceAdd, Int.reduceSub, Int.reduceMul, Int.reduceNeg, Int.reduceBEq, Int.reduceBNe, Int.reduceEq]) | (refine go_draw hR rfl ?_; simp only [EV1, EV2, EV3, EV4, EV5, EV6, EV7, EV8, EV9, EV10, EV11, EV12, eqF, Op.operands, IntKind.bits, descF, sizeF, bytesF, zeroF, Nat.reduceLT, Nat.reduceLeDiff, Nat.reduceAdd, Nat.reduceSub, Nat.reduceMul, Nat.reduceBEq, Nat.reduceEqDiff, reduceCtorEq, ↓reduceIte, Int.reduceToNat, Nat.reducePow, Int.reducePow, Int.reduceLE, Int.reduceLT, Int.reduceAdd, Int.reduceSub, Int.reduceMul, Int.reduceNeg, Int.reduceBEq, Int.reduceBNe, Int.reduceEq]) | refine ⟨by kernel_rfl, ?_⟩ | refine ⟨by decide, ?_⟩))
  refine spec_eqnil (cx := cx0 _ _ _ _ _ _) (p := List.map SKeyState.cells a0 = []) ttOk rfl rfl rfl (by exact Nat.le_of_ble_eq_true rfl) fun b hb => ?_
  (repeat (first | refine go_seq ?_ | refine go_skip ?_ | refine go_blk ?_ | refine go_block ?_ | refine go_scope (fun _ _ _ h => h) ?_ | refine go_label ?_ | (refine go_region hR ?_; simp only [EV1, EV2, EV3, EV4, EV5, EV6, EV7, EV8, EV9, EV10, EV11, EV12, eqF, Op.operands, IntKind.bits, descF, sizeF, bytesF, zeroF, Nat.reduceLT, Nat.reduceLeDiff, Nat.reduceAdd, Nat.reduceSub, Nat.reduceMul, Nat.reduceBEq, Nat.reduceEqDiff, reduceCtorEq, ↓reduceIte, Int.reduceToNat, Nat.reducePow, Int.reducePow, Int.reduceLE, Int.reduceLT, Int.reduceAdd, Int.reduceSub, Int.reduceMul, Int.reduceNeg, Int.reduceBEq, Int.reduceBNe, Int.reduceEq]) | (refine go_draw hR rfl ?_; simp only [EV1, EV2, EV3, EV4, EV5, EV6, EV7, EV8, EV9, EV10, EV11, EV12, eqF, Op.operands, IntKind.bits, descF, sizeF, bytesF, zeroF, Nat.reduceLT, Nat.reduceLeDiff, Nat.reduceAdd, Nat.reduceSub, Nat.reduceMul, Nat.reduceBEq, Nat.reduceEqDiff, reduceCtorEq, ↓reduceIte, Int.reduceToNat, Nat.reducePow, Int.reducePow, Int.reduceLE, Int.reduceLT, Int.reduceAdd, Int.reduceSub, Int.reduceMul, Int.reduceNeg, Int.reduceBEq, Int.reduceBNe, Int.reduceEq]) | refine ⟨by kernel_rfl, ?_⟩ | refine ⟨by decide, ?_⟩))
  refine go_cond rfl (fun h => ?_) (fun h => ?_)
  · (repeat (first | refine go_seq ?_ | refine go_skip ?_ | refine go_blk ?_ | refine go_block ?_ | refine go_scope (fun _ _ _ h => h) ?_ | refine go_label ?_ | (refine go_region hR ?_; simp only [EV1, EV2, EV3, EV4, EV5, EV6, EV7, EV8, EV9, EV10, EV11, EV12, eqF, Op.operands, IntKind.bits, descF, sizeF, bytesF, zeroF, Nat.reduceLT, Nat.reduceLeDiff, Nat.reduceAdd, Nat.reduceSub, Nat.reduceMul, Nat.reduceBEq, Nat.reduceEqDiff, reduceCtorEq, ↓reduceIte, Int.reduceToNat, Nat.reducePow, Int.reducePow, Int.reduceLE, Int.reduceLT, Int.reduceAdd, Int.reduceSub, Int.reduceMul, Int.reduceNeg, Int.reduceBEq, Int.reduceBNe, Int.reduceEq]) | (refine go_draw hR rfl ?_; simp only [EV1, EV2, EV3, EV4, EV5, EV6, EV7, EV8, EV9, EV10, EV11, EV12, eqF, Op.operands, IntKind.bits, descF, sizeF, bytesF, zeroF, Nat.reduceLT, Nat.reduceLeDiff, Nat.reduceAdd, Nat.reduceSub, Nat.reduceMul, Nat.reduceBEq, Nat.reduceEqDiff, reduceCtorEq, ↓reduceIte, Int.reduceToNat, Nat.reducePow, Int.reducePow, Int.reduceLE, Int.reduceLT, Int.reduceAdd, Int.reduceSub, Int.reduceMul, Int.reduceNeg, Int.reduceBEq, Int.reduceBNe, Int.reduceEq]) | refine ⟨by kernel_rfl, ?_⟩ | refine ⟨by decide, ?_⟩))
    have h0 : a0 = [] := by simpa using hb h
    subst h0
    refine go_nilOwn 2 3 171 rfl ?_
    refine go_returnO [0] (by simp) ttOk rfl ?_ rfl rfl
    simp
  · (repeat (first | refine go_seq ?_ | refine go_skip ?_ | refine go_blk ?_ | refine go_block ?_ | refine go_scope (fun _ _ _ h => h) ?_ | refine go_label ?_ | (refine go_region hR ?_; simp only [EV1, EV2, EV3, EV4, EV5, EV6, EV7, EV8, EV9, EV10, EV11, EV12, eqF, Op.operands, IntKind.bits, descF, sizeF, bytesF, zeroF, Nat.reduceLT, Nat.reduceLeDiff, Nat.reduceAdd, Nat.reduceSub, Nat.reduceMul, Nat.reduceBEq, Nat.reduceEqDiff, reduceCtorEq, ↓reduceIte, Int.reduceToNat, Nat.reducePow, Int.reducePow, Int.reduceLE, Int.reduceLT, Int.reduceAdd, Int.reduceSub, Int.reduceMul, Int.reduceNeg, Int.reduceBEq, Int.reduceBNe, Int.reduceEq]) | (refine go_draw hR rfl ?_; simp only [EV1, EV2, EV3, EV4, EV5, EV6, EV7, EV8, EV9, EV10, EV11, EV12, eqF, Op.operands, IntKind.bits, descF, sizeF, bytesF, zeroF, Nat.reduceLT, Nat.reduceLeDiff, Nat.reduceAdd, Nat.reduceSub, Nat.reduceMul, Nat.reduceBEq, Nat.reduceEqDiff, reduceCtorEq, ↓reduceIte, Int.reduceToNat, Nat.reducePow, Int.reducePow, Int.reduceLE, Int.reduceLT, Int.reduceAdd, Int.reduceSub, Int.reduceMul, Int.reduceNeg, Int.reduceBEq, Int.reduceBNe, Int.reduceEq]) | refine ⟨by kernel_rfl, ?_⟩ | refine ⟨by decide, ?_⟩))
    refine ⟨⟨fun u hu => by obtain ⟨x, _, rfl⟩ := List.mem_map.1 hu; rfl, by rw [List.length_map]; omega, by rw [List.length_map]; omega⟩, ?_⟩
    refine go_returnO [0] (by simp) ttOk rfl ?_ ?_ rfl
    · simp
    · rw [List.length_map]
theorem slices_Clone_KeyState_t (a0 : List SKeyState) (hz : a0.length ≤ 4294967296) : FnP Try.prog 110 [.c (.sl (List.map SKeyState.cells a0))] (.c (.sl (List.map SKeyState.cells (slices_Clone_KeyState a0)))) := by
  have := (slices_Clone_KeyState_o a0 hz).frz rfl ⟨rfl, by rw [List.length_map]; omega⟩
  rwa [List.drop_zero, take_map_len] at this
theorem slices_Clone_KeyState_sz (a0 : List SKeyState) (hz : a0.length ≤ 4294967296) : (slices_Clone_KeyState a0).length ≤ 4294967296 := hz
def oper_Clone (a0 : SOpState) : SOpState :=
  letIn (slices_Clone_KeyState a0.Keys) fun r1 => (SOpState.mk r1 a0.Turn)
set_option maxRecDepth 10000 in
set_option maxHeartbeats 8000000 in
theorem oper_Clone_t (a0 : SOpState) (z0 : SOpState.Sz a0) : FnP Try.prog 94 [.agg (SOpState.avs a0)] (.agg (SOpState.avs (oper_Clone a0))) := by
 refine FnP.intro (tt := tt) Try.func94 rfl (by kernel_rfl) (by simp [Try.ntmps94]) fun w0 A hA => ?_
 have hR := reckB_ok eqOk ttOk
 obtain ⟨res, hx0⟩ : ∃ r, oper_Clone a0 = r := ⟨_, rfl⟩
 simp only [hx0]
 unfold oper_Clone at hx0
 simp only [argT, Try.ntmps94]
 try simp only [SZD] at z0
 refine go_seq ?_
 refine go_rk eqOk ttOk [] [] ⟨[(1, .ptr 0 0), (2, .ptr 1 0)], [(0, .box (SOpState.avs a0) 48), (1, .box [nS, (iV 0)] 48)], 2⟩ (by kernel_rfl) trivial ?_
 refine go_seq ?_
 obtain ⟨r1, hr1, hx0⟩ := letIn_ex hx0
 have Cr1 := (slices_Clone_KeyState_t a0.Keys (by (try simp only [SZD]); (repeat' apply And.intro) <;> first | assumption | omega | (simp only [List.length_drop, List.length_take]; omega) | simp_all))
 simp only [hr1] at Cr1
 have zr1 := slices_Clone_KeyState_sz a0.Keys (by (try simp only [SZD]); (repeat' apply And.intro) <;> first | assumption | omega | (simp only [List.length_drop, List.length_take]; omega) | simp_all)
 simp only [hr1, SZD] at zr1
 refine go_rk eqOk ttOk [(2, .fn Cr1.toO)] [AQ Cr1.toO] ⟨[(1, .ptr 0 0), (2, .ptr 1 0)], [(0, .box [(sL SKeyState.cells r1), (iV a0.Turn)] 48), (1, .box [nS, (iV 0)] 48)], 2⟩ (by kernel_rfl) ⟨⟨rfl, rfl⟩, trivial⟩ ?_
 refine go_seq ?_
 refine go_rk eqOk ttOk [] [] ⟨[(2, .ptr 1 0)], [(1, .box [(sL SKeyState.cells r1), (iV a0.Turn)] 48)], 2⟩ (by kernel_rfl) trivial ?_
 subst hx0
 exact go_ret1 rfl
theorem oper_Clone_sz (a0 : SOpState) (z0 : SOpState.Sz a0) : SOpState.Sz (oper_Clone a0) := by
 obtain ⟨res, hx0⟩ : ∃ r, oper_Clone a0 = r := ⟨_, rfl⟩
 simp only [hx0]
 unfold oper_Clone at hx0
 try simp only [SZD] at z0
 obtain ⟨r1, hr1, hx0⟩ := letIn_ex hx0
 have zr1 := slices_Clone_KeyState_sz a0.Keys (by (try simp only [SZD]); (repeat' apply And.intro) <;> first | assumption | omega | (simp only [List.length_drop, List.length_take]; omega) | simp_all)
 simp only [hr1, SZD] at zr1
 subst hx0
 exact (by (try simp only [SZD]); (repeat' apply And.intro) <;> first | assumption | omega | (simp only [List.length_drop, List.length_take]; omega) | simp_all)
end Go.Ab.Try
