/-
  Functions, and what they compute: printed by wg.py, a program of this work.
-/
import Derived.Test.YtpfgofnmkaljaaaMg36
import Derived.Test.YtpfgofnmkaljaaaMg37
import Derived.Test.YtpfgofnmkaljaaaMg39
import Derived.Test.YtpfgofnmkaljaaaMg40
import Derived.Test.YtpfgofnmkaljaaaMg44
import Derived.Test.YtpfgofnmkaljaaaMg45
import Derived.Test.YtpfgofnmkaljaaaMg46
set_option linter.unusedVariables false
set_option linter.unusedSimpArgs false
namespace Go.Ab.Try
open Go Go.Proofs Go.Ab
def run_one_L0 (a0 : SOp) (a1 : (List (List SRecord))) (r4 : (List SRecord) × Int × (List Int)) (x8 : Nat) (x9 : List (List SRecord)) : (List SKeyState) × (List SKeyState) × Int × (List (List SRecord)) × (List (List SRecord)) :=
  (if h10 : (decide (((x8 : Nat) : Int) < ((a1.length : Nat) : Int))) = true then letIn (slices_Clone_Record (List.drop (Int.toNat (List.getD r4.2.2 x8 default)) (List.getD a1 x8 default))) fun r11 => (run_one_L0 a0 a1 r4 (x8 + 1) (x9 ++ [r11])) else ([], [], r4.2.1, x9, (List.set (List.replicate (Int.toNat (graph_Ports a0)) []) 0 r4.1)))
termination_by a1.length - x8
decreasing_by all_goals (try simp only [GZ] at *) <;> omega
def run_one_L1 (r12 : SOpState × (List SPut)) (x15 : Nat) (x16 : List (List SRecord)) : (List SKeyState) × (List SKeyState) × Int × (List (List SRecord)) × (List (List SRecord)) :=
  (if h17 : (decide (((x15 : Nat) : Int) < ((r12.2.length : Nat) : Int))) = true then (run_one_L1 r12 (x15 + 1) (List.set x16 (Int.toNat ((List.getD r12.2 x15 default).Port)) ((List.getD x16 (Int.toNat ((List.getD r12.2 x15 default).Port)) default) ++ [((List.getD r12.2 x15 default).Record)]))) else ([], r12.1.Keys, r12.1.Turn, [], x16))
termination_by r12.2.length - x15
decreasing_by all_goals (try simp only [GZ] at *) <;> omega
def run_one (a0 : SOp) (a1 : (List (List SRecord))) : Srun_made :=
  letIn ((bif (a0.Kind == 1) then ([], [], 0, [], (List.set (List.replicate (Int.toNat (graph_Ports a0)) []) 0 (List.getD a1 0 default))) else (bif (a0.Kind == 8) then letIn (run_Turns 0 a1) fun r4 => run_one_L0 a0 a1 r4 0 [] else letIn (oper_All a0 (SOpState.mk [] 0) (List.getD a1 0 default)) fun r12 => run_one_L1 r12 0 (List.replicate (Int.toNat (graph_Ports a0)) [])))) fun o1 => (Srun_made.mk o1.2.2.2.2 (STaskState.mk (SOpState.mk o1.2.1 o1.2.2.1) o1.2.2.2.1))
set_option maxRecDepth 10000 in
set_option maxHeartbeats 8000000 in
theorem run_one_t (a0 : SOp) (a1 : (List (List SRecord))) (hn : 0 < a1.length) (hs : tot a1 ≤ 25165824) (hp : ∀ p ∈ (oper_All a0 (SOpState.mk [] 0) (List.getD a1 0 default)).2, 0 ≤ p.Port ∧ p.Port < graph_Ports a0) (hb : a0.Kind = 1 ∨ a0.Kind = 8 → 0 < graph_Ports a0) (z0 : SOp.Sz a0) (z1 : (a1.length ≤ 4294967296 ∧ ∀ y ∈ a1, y.length ≤ 4294967296)) : FnP Try.prog 76 [.agg (SOp.avs a0), (sL cSl_SRecord_cells a1)] (.agg (Srun_made.avs (run_one a0 a1))) := by
 refine FnP.intro (tt := tt) Try.func76 rfl (by kernel_rfl) (by simp [Try.ntmps76]) fun w0 A hA => ?_
 have hR := reckB_ok eqOk ttOk
 obtain ⟨res, hx0⟩ : ∃ r, run_one a0 a1 = r := ⟨_, rfl⟩
 simp only [hx0]
 unfold run_one at hx0
 simp only [argT, Try.ntmps76]
 try simp only [SZD] at z0 z1
 obtain ⟨zz19, zz20⟩ := z1
 have hq := graph_Ports_le a0
 have hq0 := graph_Ports_nn a0
 have hT := run_Turns_in a1 hs hn (by first | exact zz20.1 | omega)
 have hT0 := tot_getD a1 0
 refine go_seq ?_
 refine go_rk eqOk ttOk [] [] ⟨[(1, (sL cSl_SRecord_cells a1)), (2, .ptr 0 0), (4, .ptr 1 0)], [(0, .box (SOp.avs a0) 55), (1, .box [nS, nS, (iV 0), nS] 130)], 2⟩ (by kernel_rfl) trivial ?_
 refine go_seq ?_
 refine go_rk eqOk ttOk [(1, .fn ((graph_Ports_t a0)).toO), (2, .mkA 2 34 (List.map tSl_SRecord_cells (List.replicate (Int.toNat (graph_Ports a0)) [])) (Int.toNat (graph_Ports a0)))] [AQ ((graph_Ports_t a0)).toO, ((graph_Ports a0) : Int) = (graph_Ports a0), 0 ≤ ((graph_Ports a0) : Int) ∧ ((graph_Ports a0) : Int) ≤ 9223372036854775807 ∧ ((24 : Nat) : Int) * ((graph_Ports a0) : Int) ≤ 281474976710656, List.replicate (Int.toNat (graph_Ports a0)) [TV.own 2 [] 34] = List.map tSl_SRecord_cells (List.replicate (Int.toNat (graph_Ports a0)) []), Int.toNat (graph_Ports a0) = (Int.toNat (graph_Ports a0))] ⟨[(1, (sL cSl_SRecord_cells a1)), (2, .ptr 0 0), (4, .ptr 1 0), (5, .ptr 3 0)], [(0, .box (SOp.avs a0) 55), (1, .box [nS, nS, (iV 0), nS] 130), (2, .arr 1 (List.map tSl_SRecord_cells (List.replicate (Int.toNat (graph_Ports a0)) [])) 23 none), (3, .box [.own 2 1 0 (Int.toNat (graph_Ports a0)), nS, (iV 0), nS] 130)], 4⟩ (by kernel_rfl) ⟨⟨rfl, rfl⟩, rfl, (by refine ⟨?_, ?_, ?_⟩ <;> omega), (mtv (by first | rfl | omega) rfl), (by first | rfl | omega), trivial⟩ ?_
 refine go_seq ?_
 refine go_seq ?_
 refine go_rk eqOk ttOk [] [] ⟨[(1, (sL cSl_SRecord_cells a1)), (2, .ptr 0 0), (4, .ptr 1 0), (5, .ptr 3 0), (20, (iV a0.Kind))], [(0, .box (SOp.avs a0) 55), (1, .box [nS, nS, (iV 0), nS] 130), (2, .arr 1 (List.map tSl_SRecord_cells (List.replicate (Int.toNat (graph_Ports a0)) [])) 23 none), (3, .box [.own 2 1 0 (Int.toNat (graph_Ports a0)), nS, (iV 0), nS] 130)], 4⟩ (by kernel_rfl) trivial ?_
 obtain ⟨o1, hx1, hx0⟩ := letIn_ex hx0
 refine go_joinE (fun p : (List SKeyState) × (List SKeyState) × Int × (List (List SRecord)) × (List (List SRecord)) => ⟨[(4, .ptr 0 0), (5, .ptr 1 0)], [(0, .box [(sL cSl_SRecord_cells []), (sL SKeyState.cells p.1), (iV 0), (sL cSl_SRecord_cells [])] 130), (1, .box [.own 2 1 0 p.2.2.2.2.length, (sL SKeyState.cells p.2.1), (iV p.2.2.1), (sL cSl_SRecord_cells p.2.2.2.1)] 130), (2, .acc 1 (List.map cSl_SRecord_cells p.2.2.2.2) 23)], 3⟩) (fun p : (List SKeyState) × (List SKeyState) × Int × (List (List SRecord)) × (List (List SRecord)) => o1 = p) ?_ ?_
 ·refine go_block ?_
  refine go_seq ?_
  refine go_rk eqOk ttOk [] [] ⟨[(1, (sL cSl_SRecord_cells a1)), (2, .ptr 0 0), (4, .ptr 1 0), (5, .ptr 3 0), (20, (iV a0.Kind)), (55, (bo (a0.Kind == 1)))], [(0, .box (SOp.avs a0) 55), (1, .box [nS, nS, (iV 0), nS] 130), (2, .arr 1 (List.map tSl_SRecord_cells (List.replicate (Int.toNat (graph_Ports a0)) [])) 23 none), (3, .box [.own 2 1 0 (Int.toNat (graph_Ports a0)), nS, (iV 0), nS] 130)], 4⟩ (by kernel_rfl) trivial ?_
  refine go_cond (by rfl) (fun h2 => ?_) (fun h2 => ?_)
  ·have gh2 := h2
   try simp only [GZ] at gh2
   replace hx1 := condT h2 hx1
   refine go_arrAccE 2 (List.map cSl_SRecord_cells (List.replicate (Int.toNat (graph_Ports a0)) [])) rfl (etv fun _ => rfl) ?_
   have bq21 : 0 < a1.length := by omega
   have zq21 : (List.getD a1 0 default).length ≤ 4294967296 := (by assumption : ∀ y ∈ a1, y.length ≤ 4294967296) _ (getD_mem a1 0 default bq21)
   refine go_dk eqOk ttOk rfl [(3, .row (cSl_SRecord_cells (List.getD a1 0 default))), (5, .at), (6, .put (cSl_SRecord_cells (List.getD (List.replicate (Int.toNat (graph_Ports a0)) []) 0 default)) (List.map cSl_SRecord_cells (List.set (List.replicate (Int.toNat (graph_Ports a0)) []) 0 (List.getD a1 0 default))))] [IX cSl_SRecord_cells a1 0, IxO 0 (Int.toNat (graph_Ports a0)), RX cSl_SRecord_cells (List.replicate (Int.toNat (graph_Ports a0)) []) 0, PX cSl_SRecord_cells (List.replicate (Int.toNat (graph_Ports a0)) []) 0 (cSl_SRecord_cells (List.getD a1 0 default)) (List.getD a1 0 default)] ⟨[(4, .ptr 1 0), (5, .ptr 3 0)], [(1, .box [nS, nS, (iV 0), nS] 130), (2, .acc 1 (List.map cSl_SRecord_cells (List.set (List.replicate (Int.toNat (graph_Ports a0)) []) 0 (List.getD a1 0 default))) 23), (3, .box [.own 2 1 0 (Int.toNat (graph_Ports a0)), nS, (iV 0), nS] 130)], 4⟩ (by kernel_rfl) ⟨(ixn bq21), (ixo (by (try simp only [NM, List.length_set, List.length_replicate]); omega)), (rx (by (try simp only [NM, List.length_set, List.length_replicate]); omega)), px, trivial⟩ ?_
   refine go_blk ?_
   exact go_fin ⟨([], [], 0, [], (List.set (List.replicate (Int.toNat (graph_Ports a0)) []) 0 (List.getD a1 0 default))), hx1.symm, (Weak.cn [1, 3, 2] [4, 5] rfl rfl rfl)⟩
  ·have gh2 := h2
   try simp only [GZ] at gh2
   replace hx1 := condF h2 hx1
   refine go_seq ?_
   refine go_rk eqOk ttOk [] [] ⟨[(1, (sL cSl_SRecord_cells a1)), (2, .ptr 0 0), (4, .ptr 1 0), (5, .ptr 3 0), (63, (bo (a0.Kind == 8)))], [(0, .box (SOp.avs a0) 55), (1, .box [nS, nS, (iV 0), nS] 130), (2, .arr 1 (List.map tSl_SRecord_cells (List.replicate (Int.toNat (graph_Ports a0)) [])) 23 none), (3, .box [.own 2 1 0 (Int.toNat (graph_Ports a0)), nS, (iV 0), nS] 130)], 4⟩ (by kernel_rfl) trivial ?_
   refine go_cond (by rfl) (fun h3 => ?_) (fun h3 => ?_)
   ·have gh3 := h3
    try simp only [GZ] at gh3
    replace hx1 := condT h3 hx1
    refine go_seq ?_
    obtain ⟨r4, hr4, hx1⟩ := letIn_ex hx1
    have Cr4 := (run_Turns_t 0 a1 (by (try simp only [SZD]); (repeat' apply And.intro) <;> first | assumption | omega | (simp only [List.length_drop, List.length_take]; omega) | simp_all) (by (try simp only [SZD]); (repeat' apply And.intro) <;> first | assumption | omega | (simp only [List.length_drop, List.length_take]; omega) | simp_all))
    simp only [hr4] at Cr4
    refine go_rk eqOk ttOk [(1, .fn Cr4.toO)] [AQ Cr4.toO] ⟨[(1, (sL cSl_SRecord_cells a1)), (4, .ptr 1 0), (5, .ptr 3 0), (6, (sL SRecord.cells r4.1)), (7, (iV r4.2.1)), (8, (sL cI64 r4.2.2))], [(1, .box [nS, nS, (iV 0), nS] 130), (2, .arr 1 (List.map tSl_SRecord_cells (List.replicate (Int.toNat (graph_Ports a0)) [])) 23 none), (3, .box [.own 2 1 0 (Int.toNat (graph_Ports a0)), nS, (iV 0), nS] 130)], 4⟩ (by kernel_rfl) ⟨⟨rfl, rfl⟩, trivial⟩ ?_
    refine go_seq ?_
    refine go_arrAccE 2 (List.map cSl_SRecord_cells (List.replicate (Int.toNat (graph_Ports a0)) [])) rfl (etv fun _ => rfl) ?_
    refine go_rk eqOk ttOk [(3, .at), (4, .put (cSl_SRecord_cells (List.getD (List.replicate (Int.toNat (graph_Ports a0)) []) 0 default)) (List.map cSl_SRecord_cells (List.set (List.replicate (Int.toNat (graph_Ports a0)) []) 0 r4.1)))] [IxO 0 (Int.toNat (graph_Ports a0)), RX cSl_SRecord_cells (List.replicate (Int.toNat (graph_Ports a0)) []) 0, PX cSl_SRecord_cells (List.replicate (Int.toNat (graph_Ports a0)) []) 0 (cSl_SRecord_cells r4.1) r4.1] ⟨[(1, (sL cSl_SRecord_cells a1)), (4, .ptr 1 0), (5, .ptr 3 0), (7, (iV r4.2.1)), (8, (sL cI64 r4.2.2))], [(1, .box [nS, nS, (iV 0), nS] 130), (2, .acc 1 (List.map cSl_SRecord_cells (List.set (List.replicate (Int.toNat (graph_Ports a0)) []) 0 r4.1)) 23), (3, .box [.own 2 1 0 (Int.toNat (graph_Ports a0)), nS, (iV 0), nS] 130)], 4⟩ (by kernel_rfl) ⟨(ixo (by (try simp only [NM, List.length_set, List.length_replicate]); omega)), (rx (by (try simp only [NM, List.length_set, List.length_replicate]); omega)), px, trivial⟩ ?_
    refine go_seq ?_
    refine go_rk eqOk ttOk [] [] ⟨[(1, (sL cSl_SRecord_cells a1)), (4, .ptr 1 0), (5, .ptr 3 0), (8, (sL cI64 r4.2.2))], [(1, .box [nS, nS, (iV 0), nS] 130), (2, .acc 1 (List.map cSl_SRecord_cells (List.set (List.replicate (Int.toNat (graph_Ports a0)) []) 0 r4.1)) 23), (3, .box [.own 2 1 0 (Int.toNat (graph_Ports a0)), nS, (iV r4.2.1), nS] 130)], 4⟩ (by kernel_rfl) trivial ?_
    refine go_seq ?_
    refine go_rk eqOk ttOk [(1, .tell (iV ((a1.length : Nat) : Int)))] [LN cSl_SRecord_cells a1] ⟨[(4, .ptr 1 0), (5, .ptr 3 0), (8, (sL cI64 r4.2.2)), (79, (sL cSl_SRecord_cells a1)), (80, (iV ((a1.length : Nat) : Int))), (81, (iV 0))], [(1, .box [nS, nS, (iV 0), nS] 130), (2, .acc 1 (List.map cSl_SRecord_cells (List.set (List.replicate (Int.toNat (graph_Ports a0)) []) 0 r4.1)) 23), (3, .box [.own 2 1 0 (Int.toNat (graph_Ports a0)), nS, (iV r4.2.1), nS] 130)], 4⟩ (by kernel_rfl) ⟨ln, trivial⟩ ?_
    refine go_block ?_
    refine go_nilCell 1 0 1 23 rfl rfl ?_
    refine go_nilCell 1 3 1 23 rfl rfl ?_
    refine go_nilCell 3 3 1 23 rfl rfl ?_
    refine go_len (t := 79) rfl (fun hl23 => ?_)
    simp only [List.length_map, maxLen_eq] at hl23
    refine go_loop (fun p : Nat × (List (List SRecord)) => ⟨[(4, .ptr 0 0), (5, .ptr 3 0), (8, (sL cI64 r4.2.2)), (79, (sL cSl_SRecord_cells a1)), (80, (iV ((a1.length : Nat) : Int))), (81, (iV ((p.1 : Nat) : Int)))], [(0, .box [.own 1 1 0 0, (sL SKeyState.cells []), (iV 0), .own 2 1 0 0] 130), (1, .acc 1 (List.map cSl_SRecord_cells []) 23), (2, .acc 1 (List.map cSl_SRecord_cells []) 23), (3, .box [.own 4 1 0 ((List.set (List.replicate (Int.toNat (graph_Ports a0)) []) 0 r4.1).length), (sL SKeyState.cells []), (iV r4.2.1), .own 5 1 0 p.2.length] 130), (4, .acc 1 (List.map cSl_SRecord_cells (List.set (List.replicate (Int.toNat (graph_Ports a0)) []) 0 r4.1)) 23), (5, .acc 1 (List.map cSl_SRecord_cells p.2) 23)], 6⟩) (fun p : Nat × (List (List SRecord)) => (p.1 ≤ a1.length ∧ p.2.length = p.1) ∧ run_one_L0 a0 a1 r4 p.1 p.2 = o1) (fun p : Nat × (List (List SRecord)) => a1.length - p.1) (0, []) ⟨(by first | trivial | omega | ((try dsimp only) <;> (repeat' apply And.intro) <;> first | trivial | omega | assumption | (simp; done))), hx1⟩ (Weak.cn [1, 4, 5, 3, 2, 6] [4, 5, 8, 79, 80, 81] rfl rfl rfl) ?_
    rintro ⟨x8, x9⟩ ⟨hi24, hx1⟩
    try dsimp only at hi24 hx1 ⊢
    rw [run_one_L0.eq_def] at hx1
    have hT1 : x8 < a1.length → (r4.2.2).length = a1.length ∧ 0 ≤ List.getD r4.2.2 x8 default ∧ List.getD r4.2.2 x8 default ≤ ((List.getD a1 x8 default).length : Int) := fun h => ⟨(hr4 ▸ hT).len, ((hr4 ▸ hT).each _ h).1, ((hr4 ▸ hT).each _ h).2⟩
    have hT2 := tot_getD a1 x8
    refine go_seq ?_
    refine go_rk eqOk ttOk [] [] ⟨[(4, .ptr 0 0), (5, .ptr 3 0), (8, (sL cI64 r4.2.2)), (79, (sL cSl_SRecord_cells a1)), (80, (iV ((a1.length : Nat) : Int))), (81, (iV ((x8 : Nat) : Int))), (82, (bo (decide (((x8 : Nat) : Int) < ((a1.length : Nat) : Int)))))], [(0, .box [.own 1 1 0 0, (sL SKeyState.cells []), (iV 0), .own 2 1 0 0] 130), (1, .acc 1 (List.map cSl_SRecord_cells []) 23), (2, .acc 1 (List.map cSl_SRecord_cells []) 23), (3, .box [.own 4 1 0 ((List.set (List.replicate (Int.toNat (graph_Ports a0)) []) 0 r4.1).length), (sL SKeyState.cells []), (iV r4.2.1), .own 5 1 0 x9.length] 130), (4, .acc 1 (List.map cSl_SRecord_cells (List.set (List.replicate (Int.toNat (graph_Ports a0)) []) 0 r4.1)) 23), (5, .acc 1 (List.map cSl_SRecord_cells x9) 23)], 6⟩ (by kernel_rfl) trivial ?_
    refine go_seq ?_
    refine go_cond (by rfl) (fun h10 => ?_) (fun h10 => ?_)
    ·have gh10 := h10
     try simp only [GZ] at gh10
     replace hx1 := iteT h10 hx1
     refine go_skip ?_
     refine go_seq ?_
     refine go_block ?_
     refine go_seq ?_
     have bq25 : x8 < a1.length := by omega
     have zq25 : (List.getD a1 x8 default).length ≤ 4294967296 := (by assumption : ∀ y ∈ a1, y.length ≤ 4294967296) _ (getD_mem a1 x8 default bq25)
     refine go_rk eqOk ttOk [(1, .row (cSl_SRecord_cells (List.getD a1 x8 default)))] [IX cSl_SRecord_cells a1 ((x8 : Nat) : Int)] ⟨[(4, .ptr 0 0), (5, .ptr 3 0), (8, (sL cI64 r4.2.2)), (9, (iV ((x8 : Nat) : Int))), (10, (sL SRecord.cells (List.getD a1 x8 default))), (79, (sL cSl_SRecord_cells a1)), (80, (iV ((a1.length : Nat) : Int))), (81, (iV ((x8 : Nat) : Int)))], [(0, .box [.own 1 1 0 0, (sL SKeyState.cells []), (iV 0), .own 2 1 0 0] 130), (1, .acc 1 (List.map cSl_SRecord_cells []) 23), (2, .acc 1 (List.map cSl_SRecord_cells []) 23), (3, .box [.own 4 1 0 ((List.set (List.replicate (Int.toNat (graph_Ports a0)) []) 0 r4.1).length), (sL SKeyState.cells []), (iV r4.2.1), .own 5 1 0 x9.length] 130), (4, .acc 1 (List.map cSl_SRecord_cells (List.set (List.replicate (Int.toNat (graph_Ports a0)) []) 0 r4.1)) 23), (5, .acc 1 (List.map cSl_SRecord_cells x9) 23)], 6⟩ (by kernel_rfl) ⟨(ixn bq25), trivial⟩ ?_
     obtain ⟨r11, hr11, hx1⟩ := letIn_ex hx1
     have Cr11 := (slices_Clone_Record_t (List.drop (Int.toNat (List.getD r4.2.2 x8 default)) (List.getD a1 x8 default)) (by (try simp only [SZD]); (repeat' apply And.intro) <;> first | assumption | omega | (simp only [List.length_drop, List.length_take]; omega) | simp_all))
     simp only [hr11] at Cr11
     have zr11 := slices_Clone_Record_sz (List.drop (Int.toNat (List.getD r4.2.2 x8 default)) (List.getD a1 x8 default)) (by (try simp only [SZD]); (repeat' apply And.intro) <;> first | assumption | omega | (simp only [List.length_drop, List.length_take]; omega) | simp_all)
     simp only [hr11, SZD] at zr11
     have bq28 : x8 < r4.2.2.length := by omega
     refine go_dk eqOk ttOk rfl [(6, .row (cI64 (List.getD r4.2.2 x8 default))), (8, .cut (List.map SRecord.cells (List.drop (Int.toNat (List.getD r4.2.2 x8 default)) (List.getD a1 x8 default)))), (9, .fn Cr11.toO), (11, .app (List.map cSl_SRecord_cells [r11]) (List.map cSl_SRecord_cells (x9 ++ [r11])) ((x9 ++ [r11]).length))] [IX cI64 r4.2.2 ((x8 : Nat) : Int), SX (0 ≤ ((List.getD r4.2.2 x8 default) : Int)) True (Int.toNat (List.getD r4.2.2 x8 default)) ((List.map SRecord.cells (List.getD a1 x8 default)).length) 2 SRecord.cells (List.getD a1 x8 default) (List.drop (Int.toNat (List.getD r4.2.2 x8 default)) (List.getD a1 x8 default)), AQ Cr11.toO, OX cSl_SRecord_cells [r11] 0 1 [r11], AX 1 24 cSl_SRecord_cells x9 [r11]] ⟨[(4, .ptr 0 0), (5, .ptr 3 0), (8, (sL cI64 r4.2.2)), (79, (sL cSl_SRecord_cells a1)), (80, (iV ((a1.length : Nat) : Int))), (81, (iV ((x8 : Nat) : Int)))], [(0, .box [.own 1 1 0 0, (sL SKeyState.cells []), (iV 0), .own 2 1 0 0] 130), (1, .acc 1 (List.map cSl_SRecord_cells []) 23), (2, .acc 1 (List.map cSl_SRecord_cells []) 23), (3, .box [.own 4 1 0 ((List.set (List.replicate (Int.toNat (graph_Ports a0)) []) 0 r4.1).length), (sL SKeyState.cells []), (iV r4.2.1), .own 5 1 0 ((x9 ++ [r11]).length)] 130), (4, .acc 1 (List.map cSl_SRecord_cells (List.set (List.replicate (Int.toNat (graph_Ports a0)) []) 0 r4.1)) 23), (5, .acc 1 (List.map cSl_SRecord_cells (x9 ++ [r11])) 23)], 7⟩ (by kernel_rfl) ⟨(ixn bq28), (sx (by first | trivial | omega) (by first | trivial | omega) (by (try simp only [NM]); omega) (by (try simp only [NM]); omega) (fun _ => rfl) (by first | rfl | (simp only [NM, List.drop_zero, Nat.sub_zero] <;> rfl) | (simp; done) | (rw [List.take_of_length_le (by simp only [NM, List.length_drop]; omega)]))), ⟨rfl, rfl⟩, ox, (ax (fun _ => rfl) (by decide) (by (try simp only [NM, List.length_take, List.length_drop]); omega)), trivial⟩ ?_
     refine go_blk ?_
     refine go_rk eqOk ttOk [(0, .tell (iV ((x8 + 1 : Nat) : Int)))] [WR (((x8 : Nat) : Int) + 1) ((x8 + 1 : Nat) : Int)] ⟨[(4, .ptr 0 0), (5, .ptr 3 0), (8, (sL cI64 r4.2.2)), (79, (sL cSl_SRecord_cells a1)), (80, (iV ((a1.length : Nat) : Int))), (81, (iV ((x8 + 1 : Nat) : Int)))], [(0, .box [.own 1 1 0 0, (sL SKeyState.cells []), (iV 0), .own 2 1 0 0] 130), (1, .acc 1 (List.map cSl_SRecord_cells []) 23), (2, .acc 1 (List.map cSl_SRecord_cells []) 23), (3, .box [.own 4 1 0 ((List.set (List.replicate (Int.toNat (graph_Ports a0)) []) 0 r4.1).length), (sL SKeyState.cells []), (iV r4.2.1), .own 5 1 0 ((x9 ++ [r11]).length)] 130), (4, .acc 1 (List.map cSl_SRecord_cells (List.set (List.replicate (Int.toNat (graph_Ports a0)) []) 0 r4.1)) 23), (5, .acc 1 (List.map cSl_SRecord_cells (x9 ++ [r11])) 23)], 7⟩ (by kernel_rfl) ⟨(wr (by omega) (by omega) (by omega)), trivial⟩ ?_
     exact go_fin ⟨(x8 + 1, (x9 ++ [r11])), ⟨⟨by (try dsimp only); omega, by simp only [List.length_append, List.length_cons, List.length_nil]; omega⟩, hx1⟩, by first | omega | (dsimp only; omega), (Weak.cn [0, 1, 2, 3, 4, 5] [4, 5, 8, 79, 80, 81] rfl rfl rfl)⟩
    ·have gh10 := h10
     try simp only [GZ] at gh10
     replace hx1 := iteF h10 hx1
     refine go_exit rfl ?_
     refine go_blk ?_
     exact go_fin ⟨([], [], r4.2.1, x9, (List.set (List.replicate (Int.toNat (graph_Ports a0)) []) 0 r4.1)), hx1.symm, (Weak.cs [0, 3, 4] [4, 5] rfl rfl rfl)⟩
   ·have gh3 := h3
    try simp only [GZ] at gh3
    replace hx1 := condF h3 hx1
    refine go_seq ?_
    obtain ⟨r12, hr12, hx1⟩ := letIn_ex hx1
    have Cr12 := (oper_All_t a0 (SOpState.mk [] 0) (List.getD a1 0 default) (by (try simp only [SZD]); (repeat' apply And.intro) <;> first | assumption | omega | (simp only [List.length_drop, List.length_take]; omega) | simp_all) (by (try simp only [SZD]); (repeat' apply And.intro) <;> first | assumption | omega | (simp only [List.length_drop, List.length_take]; omega) | simp_all) (by (try simp only [SZD]); (repeat' apply And.intro) <;> first | assumption | omega | (simp only [List.length_drop, List.length_take]; omega) | simp_all) (by (try simp only [SZD]); (repeat' apply And.intro) <;> first | assumption | omega | (simp only [List.length_drop, List.length_take]; omega) | simp_all) (by (try simp only [SZD]); (repeat' apply And.intro) <;> first | assumption | omega | (simp only [List.length_drop, List.length_take]; omega) | simp_all))
    simp only [hr12] at Cr12
    have bq29 : 0 < a1.length := by omega
    have zq29 : (List.getD a1 0 default).length ≤ 4294967296 := (by assumption : ∀ y ∈ a1, y.length ≤ 4294967296) _ (getD_mem a1 0 default bq29)
    refine go_dk eqOk ttOk rfl [(3, .row (cSl_SRecord_cells (List.getD a1 0 default))), (5, .fn Cr12.toO)] [IX cSl_SRecord_cells a1 0, AQ Cr12.toO] ⟨[(4, .ptr 1 0), (5, .ptr 3 0), (11, .ptr 4 0), (12, (sL SPut.cells r12.2))], [(1, .box [nS, nS, (iV 0), nS] 130), (2, .arr 1 (List.map tSl_SRecord_cells (List.replicate (Int.toNat (graph_Ports a0)) [])) 23 none), (3, .box [.own 2 1 0 (Int.toNat (graph_Ports a0)), nS, (iV 0), nS] 130), (4, .box (SOpState.avs r12.1) 48)], 5⟩ (by kernel_rfl) ⟨(ixn bq29), ⟨rfl, rfl⟩, trivial⟩ ?_
    refine go_seq ?_
    refine go_rk eqOk ttOk [] [] ⟨[(4, .ptr 1 0), (5, .ptr 3 0), (12, (sL SPut.cells r12.2))], [(1, .box [nS, nS, (iV 0), nS] 130), (2, .arr 1 (List.map tSl_SRecord_cells (List.replicate (Int.toNat (graph_Ports a0)) [])) 23 none), (3, .box [.own 2 1 0 (Int.toNat (graph_Ports a0)), (sL SKeyState.cells r12.1.Keys), (iV r12.1.Turn), nS] 130)], 5⟩ (by kernel_rfl) trivial ?_
    refine go_seq ?_
    refine go_rk eqOk ttOk [(1, .tell (iV ((r12.2.length : Nat) : Int)))] [LN SPut.cells r12.2] ⟨[(4, .ptr 1 0), (5, .ptr 3 0), (33, (sL SPut.cells r12.2)), (34, (iV ((r12.2.length : Nat) : Int))), (35, (iV 0))], [(1, .box [nS, nS, (iV 0), nS] 130), (2, .arr 1 (List.map tSl_SRecord_cells (List.replicate (Int.toNat (graph_Ports a0)) [])) 23 none), (3, .box [.own 2 1 0 (Int.toNat (graph_Ports a0)), (sL SKeyState.cells r12.1.Keys), (iV r12.1.Turn), nS] 130)], 5⟩ (by kernel_rfl) ⟨ln, trivial⟩ ?_
    refine go_block ?_
    refine go_len (t := 33) rfl (fun hl31 => ?_)
    simp only [List.length_map, maxLen_eq] at hl31
    refine go_loop (fun p : Nat × (List (List SRecord)) => ⟨[(4, .ptr 0 0), (5, .ptr 1 0), (33, (sL SPut.cells r12.2)), (34, (iV ((r12.2.length : Nat) : Int))), (35, (iV ((p.1 : Nat) : Int)))], [(0, .box [(sL cSl_SRecord_cells []), (sL SKeyState.cells []), (iV 0), (sL cSl_SRecord_cells [])] 130), (1, .box [.own 2 1 0 p.2.length, (sL SKeyState.cells r12.1.Keys), (iV r12.1.Turn), (sL cSl_SRecord_cells [])] 130), (2, .arr 1 (List.map tSl_SRecord_cells p.2) 23 none)], 3⟩) (fun p : Nat × (List (List SRecord)) => (p.1 ≤ r12.2.length ∧ p.2.length = Int.toNat (graph_Ports a0) ∧ ∀ i, (List.getD p.2 i default).length ≤ p.1) ∧ run_one_L1 r12 p.1 p.2 = o1) (fun p : Nat × (List (List SRecord)) => r12.2.length - p.1) (0, (List.replicate (Int.toNat (graph_Ports a0)) [])) ⟨⟨Nat.zero_le _, List.length_replicate, fun i => by rw [rep_getD]; omega⟩, hx1⟩ (Weak.cn [1, 3, 2] [4, 5, 33, 34, 35] rfl rfl rfl) ?_
    rintro ⟨x15, x16⟩ ⟨hi32, hx1⟩
    try dsimp only at hi32 hx1 ⊢
    rw [run_one_L1.eq_def] at hx1
    have hI1 := hi32.2.1
    have hI2 := hi32.2.2
    have hI3 := hI2 (Int.toNat ((List.getD r12.2 x15 default).Port))
    have hL : r12.2.length ≤ (List.getD a1 0 default).length := hr12 ▸ oper_puts_len _ _ _
    have hP : x15 < r12.2.length → 0 ≤ (List.getD r12.2 x15 default).Port ∧ (List.getD r12.2 x15 default).Port < graph_Ports a0 := fun h => (hr12 ▸ hp) _ (getD_mem _ _ _ h)
    refine go_seq ?_
    refine go_rk eqOk ttOk [] [] ⟨[(4, .ptr 0 0), (5, .ptr 1 0), (33, (sL SPut.cells r12.2)), (34, (iV ((r12.2.length : Nat) : Int))), (35, (iV ((x15 : Nat) : Int))), (36, (bo (decide (((x15 : Nat) : Int) < ((r12.2.length : Nat) : Int)))))], [(0, .box [(sL cSl_SRecord_cells []), (sL SKeyState.cells []), (iV 0), (sL cSl_SRecord_cells [])] 130), (1, .box [.own 2 1 0 x16.length, (sL SKeyState.cells r12.1.Keys), (iV r12.1.Turn), (sL cSl_SRecord_cells [])] 130), (2, .arr 1 (List.map tSl_SRecord_cells x16) 23 none)], 3⟩ (by kernel_rfl) trivial ?_
    refine go_seq ?_
    refine go_cond (by rfl) (fun h17 => ?_) (fun h17 => ?_)
    ·have gh17 := h17
     try simp only [GZ] at gh17
     replace hx1 := iteT h17 hx1
     refine go_skip ?_
     refine go_seq ?_
     refine go_block ?_
     refine go_seq ?_
     have bq33 : x15 < r12.2.length := by omega
     refine go_rk eqOk ttOk [(0, .row (SPut.cells (List.getD r12.2 x15 default)))] [IX SPut.cells r12.2 ((x15 : Nat) : Int)] ⟨[(4, .ptr 0 0), (5, .ptr 1 0), (14, .ptr 3 0), (33, (sL SPut.cells r12.2)), (34, (iV ((r12.2.length : Nat) : Int))), (35, (iV ((x15 : Nat) : Int)))], [(0, .box [(sL cSl_SRecord_cells []), (sL SKeyState.cells []), (iV 0), (sL cSl_SRecord_cells [])] 130), (1, .box [.own 2 1 0 x16.length, (sL SKeyState.cells r12.1.Keys), (iV r12.1.Turn), (sL cSl_SRecord_cells [])] 130), (2, .arr 1 (List.map tSl_SRecord_cells x16) 23 none), (3, .box (SPut.avs (List.getD r12.2 x15 default)) 167)], 4⟩ (by kernel_rfl) ⟨(ixn bq33), trivial⟩ ?_
     refine go_focusE 2 (Int.toNat ((List.getD r12.2 x15 default).Port)) (tSl_SRecord_cells (List.getD x16 (Int.toNat ((List.getD r12.2 x15 default).Port)) default)) [.own 4 2 0 ((List.getD x16 (Int.toNat ((List.getD r12.2 x15 default).Port)) default).length)] rfl (ftv (by (try simp only [NM, List.length_set, List.length_replicate]); omega)) (by simp only [tSl_SRecord_cells, openA, openAV, List.length_map]) ?_
     refine go_weak (s' := ⟨[(4, .ptr 0 0), (5, .ptr 1 0), (14, .ptr 3 0), (33, (sL SPut.cells r12.2)), (34, (iV ((r12.2.length : Nat) : Int))), (35, (iV ((x15 : Nat) : Int)))], [(0, .box [(sL cSl_SRecord_cells []), (sL SKeyState.cells []), (iV 0), (sL cSl_SRecord_cells [])] 130), (1, .box [.own 2 1 0 x16.length, (sL SKeyState.cells r12.1.Keys), (iV r12.1.Turn), (sL cSl_SRecord_cells [])] 130), (2, .arr 1 (List.map tSl_SRecord_cells x16) 23 (some ((Int.toNat ((List.getD r12.2 x15 default).Port)), [.own 4 2 0 ((List.getD x16 (Int.toNat ((List.getD r12.2 x15 default).Port)) default).length)]))), (3, .box (SPut.avs (List.getD r12.2 x15 default)) 167), (4, .acc 2 (List.map SRecord.cells (List.getD x16 (Int.toNat ((List.getD r12.2 x15 default).Port)) default)) 34)], 5⟩) (Weak.sub' (by repeat (first | exact trivial | refine ⟨rfl, ?_⟩)) (by repeat (first | exact trivial | refine ⟨rfl, ?_⟩)) (by exact Nat.le_of_ble_eq_true rfl)) ?_
     refine go_dk eqOk ttOk rfl [(8, .at), (9, .ldA), (13, .app (List.map SRecord.cells [((List.getD r12.2 x15 default).Record)]) (List.map SRecord.cells ((List.getD x16 (Int.toNat ((List.getD r12.2 x15 default).Port)) default) ++ [((List.getD r12.2 x15 default).Record)])) (((List.getD x16 (Int.toNat ((List.getD r12.2 x15 default).Port)) default) ++ [((List.getD r12.2 x15 default).Record)]).length)), (14, .at), (15, .stA)] [IxO ((List.getD r12.2 x15 default).Port) x16.length, ((Int.toNat ((List.getD r12.2 x15 default).Port)) : Nat) = (Int.toNat ((List.getD r12.2 x15 default).Port)), OX SRecord.cells [((List.getD r12.2 x15 default).Record)] 0 1 [((List.getD r12.2 x15 default).Record)], AX 2 16 SRecord.cells (List.getD x16 (Int.toNat ((List.getD r12.2 x15 default).Port)) default) [((List.getD r12.2 x15 default).Record)], IxO ((List.getD r12.2 x15 default).Port) x16.length, ((Int.toNat ((List.getD r12.2 x15 default).Port)) : Nat) = (Int.toNat ((List.getD r12.2 x15 default).Port))] ⟨[(4, .ptr 0 0), (5, .ptr 1 0), (33, (sL SPut.cells r12.2)), (34, (iV ((r12.2.length : Nat) : Int))), (35, (iV ((x15 : Nat) : Int)))], [(0, .box [(sL cSl_SRecord_cells []), (sL SKeyState.cells []), (iV 0), (sL cSl_SRecord_cells [])] 130), (1, .box [.own 2 1 0 x16.length, (sL SKeyState.cells r12.1.Keys), (iV r12.1.Turn), (sL cSl_SRecord_cells [])] 130), (2, .arr 1 (List.map tSl_SRecord_cells x16) 23 (some ((Int.toNat ((List.getD r12.2 x15 default).Port)), [.own 4 2 0 (((List.getD x16 (Int.toNat ((List.getD r12.2 x15 default).Port)) default) ++ [((List.getD r12.2 x15 default).Record)]).length)]))), (4, .acc 2 (List.map SRecord.cells ((List.getD x16 (Int.toNat ((List.getD r12.2 x15 default).Port)) default) ++ [((List.getD r12.2 x15 default).Record)])) 34)], 6⟩ (by kernel_rfl) ⟨(ixoI (by omega) (by (try simp only [NM, List.length_set, List.length_replicate]); omega)), rfl, ox, (ax (fun _ => rfl) (by decide) (by (try simp only [NM, List.length_take, List.length_drop]); omega)), (ixoI (by omega) (by (try simp only [NM, List.length_set, List.length_replicate]); omega)), rfl, trivial⟩ ?_
     refine go_unfocusE 2 (tSl_SRecord_cells ((List.getD x16 (Int.toNat ((List.getD r12.2 x15 default).Port)) default) ++ [((List.getD r12.2 x15 default).Record)])) (List.map tSl_SRecord_cells (List.set x16 (Int.toNat ((List.getD r12.2 x15 default).Port)) ((List.getD x16 (Int.toNat ((List.getD r12.2 x15 default).Port)) default) ++ [((List.getD r12.2 x15 default).Record)]))) rfl rfl ⟨⟨rfl, rfl, by simp only [List.length_map]⟩, trivial⟩ ⟨.refl _, trivial⟩ (by decide) ptv ?_
     refine go_weak (s' := ⟨[(4, .ptr 0 0), (5, .ptr 1 0), (33, (sL SPut.cells r12.2)), (34, (iV ((r12.2.length : Nat) : Int))), (35, (iV ((x15 : Nat) : Int)))], [(0, .box [(sL cSl_SRecord_cells []), (sL SKeyState.cells []), (iV 0), (sL cSl_SRecord_cells [])] 130), (1, .box [.own 2 1 0 x16.length, (sL SKeyState.cells r12.1.Keys), (iV r12.1.Turn), (sL cSl_SRecord_cells [])] 130), (2, .arr 1 (List.map tSl_SRecord_cells (List.set x16 (Int.toNat ((List.getD r12.2 x15 default).Port)) ((List.getD x16 (Int.toNat ((List.getD r12.2 x15 default).Port)) default) ++ [((List.getD r12.2 x15 default).Record)]))) 23 none)], 6⟩) (Weak.sub' (by repeat (first | exact trivial | refine ⟨rfl, ?_⟩)) (by repeat (first | exact trivial | refine ⟨rfl, ?_⟩)) (by exact Nat.le_of_ble_eq_true rfl)) ?_
     refine go_blk ?_
     refine go_rk eqOk ttOk [(0, .tell (iV ((x15 + 1 : Nat) : Int)))] [WR (((x15 : Nat) : Int) + 1) ((x15 + 1 : Nat) : Int)] ⟨[(4, .ptr 0 0), (5, .ptr 1 0), (33, (sL SPut.cells r12.2)), (34, (iV ((r12.2.length : Nat) : Int))), (35, (iV ((x15 + 1 : Nat) : Int)))], [(0, .box [(sL cSl_SRecord_cells []), (sL SKeyState.cells []), (iV 0), (sL cSl_SRecord_cells [])] 130), (1, .box [.own 2 1 0 x16.length, (sL SKeyState.cells r12.1.Keys), (iV r12.1.Turn), (sL cSl_SRecord_cells [])] 130), (2, .arr 1 (List.map tSl_SRecord_cells (List.set x16 (Int.toNat ((List.getD r12.2 x15 default).Port)) ((List.getD x16 (Int.toNat ((List.getD r12.2 x15 default).Port)) default) ++ [((List.getD r12.2 x15 default).Record)]))) 23 none)], 6⟩ (by kernel_rfl) ⟨(wr (by omega) (by omega) (by omega)), trivial⟩ ?_
     exact go_fin ⟨(x15 + 1, (List.set x16 (Int.toNat ((List.getD r12.2 x15 default).Port)) ((List.getD x16 (Int.toNat ((List.getD r12.2 x15 default).Port)) default) ++ [((List.getD r12.2 x15 default).Record)]))), ⟨⟨by (try dsimp only); omega, by rw [List.length_set]; exact hI1, fun i => by have := set_getDl x16 (Int.toNat ((List.getD r12.2 x15 default).Port)) i (List.getD x16 (Int.toNat ((List.getD r12.2 x15 default).Port)) default ++ [((List.getD r12.2 x15 default).Record)]); have := hI2 i; have := hI2 (Int.toNat ((List.getD r12.2 x15 default).Port)); simp only [List.length_append, List.length_cons, List.length_nil] at *; omega⟩, hx1⟩, by first | omega | (dsimp only; omega), (Weak.cn [0, 1, 2] [4, 5, 33, 34, 35] rfl rfl rfl)⟩
    ·have gh17 := h17
     try simp only [GZ] at gh17
     replace hx1 := iteF h17 hx1
     refine go_exit rfl ?_
     refine go_blk ?_
     refine go_arrAccE 2 (List.map cSl_SRecord_cells x16) rfl (etv fun _ => rfl) ?_
     exact go_fin ⟨([], r12.1.Keys, r12.1.Turn, [], x16), hx1.symm, (Weak.cn [0, 1, 2] [4, 5] rfl rfl rfl)⟩
 ·rintro o1_ hp
  try dsimp only at hp
  subst hp
  refine go_seq ?_
  refine go_rk eqOk ttOk [] [] ⟨[(4, .ptr 0 0)], [(0, .box [.own 2 1 0 o1.2.2.2.2.length, (sL SKeyState.cells o1.2.1), (iV o1.2.2.1), (sL cSl_SRecord_cells o1.2.2.2.1)] 130), (2, .acc 1 (List.map cSl_SRecord_cells o1.2.2.2.2) 23)], 3⟩ (by kernel_rfl) trivial ?_
  subst hx0
  exact go_ret1 rfl
end Go.Ab.Try
