/-
  Functions, and what they compute: printed by wg.py, a program of this work.
-/
import Derived.Test.YtipiagjhijnmhaaO0
import Derived.Test.YtipiagjhijnmhaaO1
import Derived.Test.YtipiagjhijnmhaaO2
import Derived.Test.YtipiagjhijnmhaaO4
set_option linter.unusedVariables false
set_option linter.unusedSimpArgs false
namespace Go.Ab.Try
open Go Go.Proofs Go.Ab

def pontoonlaw07_OperStays_L2 (a0 : SGraph) (x40 : Nat) (r64 : SOpState × (List SPut)) (x71 : Nat) : Sum Bool Unit :=
  (if h72 : (decide (((x71 : Nat) : Int) < ((r64.2.length : Nat) : Int))) = true then (if h74 : ((decide ((List.getD r64.2 x71 default).Port < 0)) || (decide ((List.getD r64.2 x71 default).Port ≥ (pontoonref05_Ports (List.getD a0.Ops x40 default))))) = true then (Sum.inl false) else (pontoonlaw07_OperStays_L2 a0 x40 r64 (x71 + 1))) else (Sum.inr ()))
termination_by r64.2.length - x71
decreasing_by all_goals (try simp only [GN, beq_iff_eq, beq_eq_false_iff_ne, bne_iff_ne, bne_eq_false_iff_eq] at *) <;> omega
def pontoonlaw07_OperStays_L1 (a0 : SGraph) (a1 : (List SRecord)) (x40 : Nat) (x59 : Nat) (x60 : List SKeyState) (x61 : Int) : Sum Bool Unit :=
  (if h62 : (decide (((x59 : Nat) : Int) < ((a1.length : Nat) : Int))) = true then letIn (letIn (oper_Step (List.getD a0.Ops x40 default) (SOpState.mk x60 x61) (List.getD a1 x59 default)) fun r64 => (if h65 : ((oper_Check (List.getD a0.Ops x40 default) r64.1) != 0) = true then (Sum.inl false) else letIn (pontoonlaw07_OperStays_L2 a0 x40 r64 0) fun o66s => Sum.elim (fun q => Sum.inl q) (fun o66 => (Sum.inr (r64.1.Keys, r64.1.Turn))) o66s)) fun o63s => Sum.elim (fun q => Sum.inl q) (fun o63 => (pontoonlaw07_OperStays_L1 a0 a1 x40 (x59 + 1) o63.1 o63.2)) o63s else (Sum.inr ()))
termination_by a1.length - x59
decreasing_by all_goals (try simp only [GN, beq_iff_eq, beq_eq_false_iff_ne, bne_iff_ne, bne_eq_false_iff_eq] at *) <;> omega
def pontoonlaw07_OperStays_L0 (a0 : SGraph) (a1 : (List SRecord)) (a2 : SOpState) (x40 : Nat) : Sum Bool Unit :=
  (if h41 : (decide (((x40 : Nat) : Int) < ((a0.Ops.length : Nat) : Int))) = true then letIn (letIn ((if h44 : ((oper_Check (List.getD a0.Ops x40 default) a2) == 0) = true then (a2.Keys, a2.Turn) else ([], 0))) fun o43 => pontoonlaw07_OperStays_L1 a0 a1 x40 0 o43.1 o43.2) fun o42s => Sum.elim (fun q => Sum.inl q) (fun o42 => (pontoonlaw07_OperStays_L0 a0 a1 a2 (x40 + 1))) o42s else (Sum.inr ()))
termination_by a0.Ops.length - x40
decreasing_by all_goals (try simp only [GN, beq_iff_eq, beq_eq_false_iff_ne, bne_iff_ne, bne_eq_false_iff_eq] at *) <;> omega
def pontoonlaw07_OperStays (a0 : SGraph) (a1 : (List SRecord)) (a2 : SOpState) : Bool :=
  (bif (!pontoonlaw07_live) then false else letIn (pontoonref05_Check a0) fun r2 => (bif (r2.2 != 0) then true else letIn (pontoonlaw07_OperStays_L0 a0 a1 a2 0) fun o4s => Sum.elim (fun q => q) (fun o4 => true) o4s))
set_option maxRecDepth 10000 in
set_option maxHeartbeats 8000000 in
theorem pontoonlaw07_OperStays_t (a0 : SGraph) (a1 : (List SRecord)) (a2 : SOpState) (hk : a2.Keys.length ≤ 100000000) (hl : a1.length ≤ 100000000) (z0 : SGraph.Sz a0) (z1 : a1.length ≤ 4294967296) (z2 : SOpState.Sz a2) : FnP Try.prog 9 [.agg (SGraph.avs a0), (sL SRecord.cells a1), .agg (SOpState.avs a2)] ((bo (pontoonlaw07_OperStays a0 a1 a2))) := by
 refine FnP.intro (tt := tt) Try.func9 rfl (by kernel_rfl) (by simp [Try.ntmps9]) fun w0 A hA => ?_
 have hR := reckB_ok eqOk ttOk
 obtain ⟨res, hx0⟩ : ∃ r, pontoonlaw07_OperStays a0 a1 a2 = r := ⟨_, rfl⟩
 simp only [hx0]
 unfold pontoonlaw07_OperStays at hx0
 simp only [argT, Try.ntmps9]
 try simp only [SZD] at z0 z1 z2
 obtain ⟨zz75, zz76⟩ := z0
 refine go_seq ?_
 refine go_rk eqOk ttOk [] [] ⟨[(1, (sL SRecord.cells a1)), (3, .ptr 0 0), (5, .ptr 1 0)], [(0, .box (SGraph.avs a0) 76), (1, .box (SOpState.avs a2) 60)], 2⟩ (by kernel_rfl) trivial ?_
 refine go_seq ?_
 refine go_seq ?_
 refine go_rk eqOk ttOk [(0, .fn (pontoonlaw07_live_t).toO)] [AQ (pontoonlaw07_live_t).toO] ⟨[(1, (sL SRecord.cells a1)), (3, .ptr 0 0), (5, .ptr 1 0), (19, (bo (!pontoonlaw07_live)))], [(0, .box (SGraph.avs a0) 76), (1, .box (SOpState.avs a2) 60)], 2⟩ (by kernel_rfl) ⟨rfl, trivial⟩ ?_
 refine go_cond (by rfl) (fun h1 => ?_) (fun h1 => ?_)
 ·have gh1 := h1
  try simp only [GN, beq_iff_eq, beq_eq_false_iff_ne, bne_iff_ne, bne_eq_false_iff_eq] at gh1
  simp only [h1, cond_true, cond_false] at hx0
  refine go_seq ?_
  refine go_rk eqOk ttOk [] [] ⟨[(6, (bo false))], [], 2⟩ (by kernel_rfl) trivial ?_
  subst hx0
  refine go_return ttOk (fun _ h => h) rfl ?_ ?_
  ·exact (by (repeat' apply And.intro) <;> first | trivial | exact Nat.le_of_ble_eq_true rfl | omega | (simp only [NM]; omega))
  ·first | rfl | (simp only [NM, CELLS] <;> rfl)
 ·have gh1 := h1
  try simp only [GN, beq_iff_eq, beq_eq_false_iff_ne, bne_iff_ne, bne_eq_false_iff_eq] at gh1
  simp only [h1, cond_true, cond_false] at hx0
  refine go_skip ?_
  refine go_seq ?_
  refine go_seq ?_
  obtain ⟨r2, hr2, hx0⟩ := letIn_ex hx0
  have Cr2 := (pontoonref05_Check_t a0 (by (try simp only [SZD]); (repeat' apply And.intro) <;> first | assumption | omega | simp_all))
  simp only [hr2] at Cr2
  refine go_rk eqOk ttOk [(1, .fn Cr2.toO)] [AQ Cr2.toO] ⟨[(1, (sL SRecord.cells a1)), (3, .ptr 0 0), (5, .ptr 1 0), (8, (iV r2.2))], [(0, .box (SGraph.avs a0) 76), (1, .box (SOpState.avs a2) 60)], 2⟩ (by kernel_rfl) ⟨rfl, trivial⟩ ?_
  refine go_seq ?_
  refine go_rk eqOk ttOk [] [] ⟨[(1, (sL SRecord.cells a1)), (3, .ptr 0 0), (5, .ptr 1 0), (26, (bo (r2.2 != 0)))], [(0, .box (SGraph.avs a0) 76), (1, .box (SOpState.avs a2) 60)], 2⟩ (by kernel_rfl) trivial ?_
  refine go_cond (by rfl) (fun h3 => ?_) (fun h3 => ?_)
  ·have gh3 := h3
   try simp only [GN, beq_iff_eq, beq_eq_false_iff_ne, bne_iff_ne, bne_eq_false_iff_eq] at gh3
   simp only [h3, cond_true, cond_false] at hx0
   refine go_seq ?_
   refine go_rk eqOk ttOk [] [] ⟨[(6, (bo true))], [], 2⟩ (by kernel_rfl) trivial ?_
   subst hx0
   refine go_return ttOk (fun _ h => h) rfl ?_ ?_
   ·exact (by (repeat' apply And.intro) <;> first | trivial | exact Nat.le_of_ble_eq_true rfl | omega | (simp only [NM]; omega))
   ·first | rfl | (simp only [NM, CELLS] <;> rfl)
  ·have gh3 := h3
   try simp only [GN, beq_iff_eq, beq_eq_false_iff_ne, bne_iff_ne, bne_eq_false_iff_eq] at gh3
   simp only [h3, cond_true, cond_false] at hx0
   refine go_skip ?_
   refine go_seq ?_
   refine go_seq ?_
   refine go_rk eqOk ttOk [(2, .tell (iV ((a0.Ops.length : Nat) : Int)))] [LN SOp.cells a0.Ops] ⟨[(1, (sL SRecord.cells a1)), (5, .ptr 1 0), (28, (sL SOp.cells a0.Ops)), (29, (iV ((a0.Ops.length : Nat) : Int))), (30, (iV 0))], [(1, .box (SOpState.avs a2) 60)], 2⟩ (by kernel_rfl) ⟨ln, trivial⟩ ?_
   obtain ⟨o4s, hx1, hx0⟩ := letIn_ex hx0
   refine go_joinE (fun p : Unit => ⟨[], [], 0⟩) (fun p : Unit => o4s = Sum.inr p) ?_ ?_
   ·refine go_block ?_
    refine go_len (t := 28) rfl (fun hl79 => ?_)
    simp only [List.length_map, maxLen_eq] at hl79
    refine go_loop (fun p : Nat => ⟨[(1, (sL SRecord.cells a1)), (5, .ptr 0 0), (28, (sL SOp.cells a0.Ops)), (29, (iV ((a0.Ops.length : Nat) : Int))), (30, (iV ((p : Nat) : Int)))], [(0, .box (SOpState.avs a2) 60)], 1⟩) (fun p : Nat => (p ≤ a0.Ops.length) ∧ pontoonlaw07_OperStays_L0 a0 a1 a2 p = o4s) (fun p : Nat => a0.Ops.length - p) 0 ⟨(by first | trivial | omega | ((try dsimp only) <;> (repeat' apply And.intro) <;> first | trivial | omega | assumption | (simp; done))), hx1⟩ (Weak.canon [1] [1, 5, 28, 29, 30] (by decide) rfl (by simp) rfl (by simp) (by first | rfl | (simp only [NM, CELLS] <;> rfl) | simp [NM, CELLS]) (by first | rfl | (simp only [NM, CELLS] <;> rfl) | simp [NM, CELLS]) rfl) ?_
    rintro x40 ⟨hi80, hx1⟩
    try dsimp only at hi80 hx1 ⊢
    rw [pontoonlaw07_OperStays_L0.eq_def] at hx1
    refine go_seq ?_
    refine go_rk eqOk ttOk [] [] ⟨[(1, (sL SRecord.cells a1)), (5, .ptr 0 0), (28, (sL SOp.cells a0.Ops)), (29, (iV ((a0.Ops.length : Nat) : Int))), (30, (iV ((x40 : Nat) : Int))), (31, (bo (decide (((x40 : Nat) : Int) < ((a0.Ops.length : Nat) : Int)))))], [(0, .box (SOpState.avs a2) 60)], 1⟩ (by kernel_rfl) trivial ?_
    refine go_seq ?_
    refine go_cond (by rfl) (fun h41 => ?_) (fun h41 => ?_)
    ·have gh41 := h41
     try simp only [GN, beq_iff_eq, beq_eq_false_iff_ne, bne_iff_ne, bne_eq_false_iff_eq] at gh41
     simp only [h41, dite_true, dite_false, reduceDIte, Bool.false_eq_true] at hx1
     refine go_skip ?_
     refine go_seq ?_
     obtain ⟨o42s, hx2, hx1⟩ := letIn_ex hx1
     refine go_joinE (fun p : Unit => ⟨[(1, (sL SRecord.cells a1)), (5, .ptr 0 0), (28, (sL SOp.cells a0.Ops)), (29, (iV ((a0.Ops.length : Nat) : Int))), (30, (iV ((x40 : Nat) : Int)))], [(0, .box (SOpState.avs a2) 60)], 1⟩) (fun p : Unit => o42s = Sum.inr p) ?_ ?_
     ·refine go_block ?_
      refine go_seq ?_
      have bq81 : x40 < a0.Ops.length := by omega
      have zq81 : ((List.getD a0.Ops x40 default).In).length ≤ 4294967296 := (by assumption : ∀ y ∈ a0.Ops, y.In.length ≤ 4294967296) _ (getD_mem a0.Ops x40 default bq81)
      refine go_rk eqOk ttOk [(0, .row (SOp.cells (List.getD a0.Ops x40 default)))] [IX SOp.cells a0.Ops ((x40 : Nat) : Int)] ⟨[(1, (sL SRecord.cells a1)), (5, .ptr 0 0), (10, .ptr 1 0), (28, (sL SOp.cells a0.Ops)), (29, (iV ((a0.Ops.length : Nat) : Int))), (30, (iV ((x40 : Nat) : Int)))], [(0, .box (SOpState.avs a2) 60), (1, .box (SOp.avs (List.getD a0.Ops x40 default)) 57)], 2⟩ (by kernel_rfl) ⟨(ixn bq81), trivial⟩ ?_
      refine go_seq ?_
      refine go_rk eqOk ttOk [] [] ⟨[(1, (sL SRecord.cells a1)), (5, .ptr 0 0), (10, .ptr 1 0), (11, .ptr 2 0), (28, (sL SOp.cells a0.Ops)), (29, (iV ((a0.Ops.length : Nat) : Int))), (30, (iV ((x40 : Nat) : Int)))], [(0, .box (SOpState.avs a2) 60), (1, .box (SOp.avs (List.getD a0.Ops x40 default)) 57), (2, .box [nS, (iV 0)] 60)], 3⟩ (by kernel_rfl) trivial ?_
      refine go_seq ?_
      refine go_seq ?_
      refine go_rk eqOk ttOk [(2, .fn ((oper_Check_t (List.getD a0.Ops x40 default) a2 (by (try simp only [SZD]); (repeat' apply And.intro) <;> first | assumption | omega | simp_all) (by (try simp only [SZD]); (repeat' apply And.intro) <;> first | assumption | omega | simp_all))).toO)] [AQ ((oper_Check_t (List.getD a0.Ops x40 default) a2 (by (try simp only [SZD]); (repeat' apply And.intro) <;> first | assumption | omega | simp_all) (by (try simp only [SZD]); (repeat' apply And.intro) <;> first | assumption | omega | simp_all))).toO] ⟨[(1, (sL SRecord.cells a1)), (5, .ptr 0 0), (10, .ptr 1 0), (11, .ptr 2 0), (28, (sL SOp.cells a0.Ops)), (29, (iV ((a0.Ops.length : Nat) : Int))), (30, (iV ((x40 : Nat) : Int))), (38, (bo ((oper_Check (List.getD a0.Ops x40 default) a2) == 0)))], [(0, .box (SOpState.avs a2) 60), (1, .box (SOp.avs (List.getD a0.Ops x40 default)) 57), (2, .box [nS, (iV 0)] 60)], 3⟩ (by kernel_rfl) ⟨rfl, trivial⟩ ?_
      obtain ⟨o43, hx3, hx2⟩ := letIn_ex hx2
      refine go_joinE (fun p : (List SKeyState) × Int => ⟨[(1, (sL SRecord.cells a1)), (5, .ptr 0 0), (10, .ptr 1 0), (11, .ptr 2 0), (28, (sL SOp.cells a0.Ops)), (29, (iV ((a0.Ops.length : Nat) : Int))), (30, (iV ((x40 : Nat) : Int)))], [(0, .box (SOpState.avs a2) 60), (1, .box (SOp.avs (List.getD a0.Ops x40 default)) 57), (2, .box [(sL SKeyState.cells p.1), (iV p.2)] 60)], 3⟩) (fun p : (List SKeyState) × Int => o43 = p ∧ (p.1.length ≤ a2.Keys.length)) ?_ ?_
      ·refine go_cond (by rfl) (fun h44 => ?_) (fun h44 => ?_)
       ·have gh44 := h44
        try simp only [GN, beq_iff_eq, beq_eq_false_iff_ne, bne_iff_ne, bne_eq_false_iff_eq] at gh44
        simp only [h44, dite_true, dite_false, reduceDIte, Bool.false_eq_true] at hx3
        refine go_rk eqOk ttOk [] [] ⟨[(1, (sL SRecord.cells a1)), (5, .ptr 0 0), (10, .ptr 1 0), (11, .ptr 2 0), (28, (sL SOp.cells a0.Ops)), (29, (iV ((a0.Ops.length : Nat) : Int))), (30, (iV ((x40 : Nat) : Int)))], [(0, .box (SOpState.avs a2) 60), (1, .box (SOp.avs (List.getD a0.Ops x40 default)) 57), (2, .box (SOpState.avs a2) 60)], 3⟩ (by kernel_rfl) trivial ?_
        exact go_fin ⟨(a2.Keys, a2.Turn), ⟨hx3.symm, by first | omega | (dsimp only; omega) | (simp only [List.length_nil]; omega)⟩, (Weak.canon [0, 1, 2] [1, 5, 10, 11, 28, 29, 30] (by decide) rfl (by simp) rfl (by simp) (by first | rfl | (simp only [NM, CELLS] <;> rfl) | simp [NM, CELLS]) (by first | rfl | (simp only [NM, CELLS] <;> rfl) | simp [NM, CELLS]) rfl)⟩
       ·have gh44 := h44
        try simp only [GN, beq_iff_eq, beq_eq_false_iff_ne, bne_iff_ne, bne_eq_false_iff_eq] at gh44
        simp only [h44, dite_true, dite_false, reduceDIte, Bool.false_eq_true] at hx3
        refine go_skip ?_
        exact go_fin ⟨([], 0), ⟨hx3.symm, by first | omega | (dsimp only; omega) | (simp only [List.length_nil]; omega)⟩, (Weak.canon [0, 1, 2] [1, 5, 10, 11, 28, 29, 30] (by decide) rfl (by simp) rfl (by simp) (by first | rfl | (simp only [NM, CELLS] <;> rfl) | simp [NM, CELLS]) (by first | rfl | (simp only [NM, CELLS] <;> rfl) | simp [NM, CELLS]) rfl)⟩
      ·rintro o43_ ⟨hp, hqo43⟩
       try dsimp only at hqo43
       try dsimp only at hp
       subst hp
       refine go_seq ?_
       refine go_rk eqOk ttOk [(1, .tell (iV ((a1.length : Nat) : Int)))] [LN SRecord.cells a1] ⟨[(1, (sL SRecord.cells a1)), (5, .ptr 0 0), (10, .ptr 1 0), (11, .ptr 2 0), (28, (sL SOp.cells a0.Ops)), (29, (iV ((a0.Ops.length : Nat) : Int))), (30, (iV ((x40 : Nat) : Int))), (40, (sL SRecord.cells a1)), (41, (iV ((a1.length : Nat) : Int))), (42, (iV 0))], [(0, .box (SOpState.avs a2) 60), (1, .box (SOp.avs (List.getD a0.Ops x40 default)) 57), (2, .box [(sL SKeyState.cells o43.1), (iV o43.2)] 60)], 3⟩ (by kernel_rfl) ⟨ln, trivial⟩ ?_
       refine go_block ?_
       refine go_len (t := 1) rfl (fun hl83 => ?_)
       simp only [List.length_map, maxLen_eq] at hl83
       refine go_loop (fun p : Nat × (List SKeyState) × Int => ⟨[(1, (sL SRecord.cells a1)), (5, .ptr 0 0), (10, .ptr 1 0), (11, .ptr 2 0), (28, (sL SOp.cells a0.Ops)), (29, (iV ((a0.Ops.length : Nat) : Int))), (30, (iV ((x40 : Nat) : Int))), (40, (sL SRecord.cells a1)), (41, (iV ((a1.length : Nat) : Int))), (42, (iV ((p.1 : Nat) : Int)))], [(0, .box (SOpState.avs a2) 60), (1, .box (SOp.avs (List.getD a0.Ops x40 default)) 57), (2, .box [(sL SKeyState.cells p.2.1), (iV p.2.2)] 60)], 3⟩) (fun p : Nat × (List SKeyState) × Int => (p.1 ≤ a1.length ∧ p.2.1.length ≤ a2.Keys.length + p.1) ∧ pontoonlaw07_OperStays_L1 a0 a1 x40 p.1 p.2.1 p.2.2 = o42s) (fun p : Nat × (List SKeyState) × Int => a1.length - p.1) (0, o43.1, o43.2) ⟨(by first | trivial | omega | ((try dsimp only) <;> (repeat' apply And.intro) <;> first | trivial | omega | assumption | (simp; done))), hx2⟩ (Weak.canon [0, 1, 2] [1, 5, 10, 11, 28, 29, 30, 40, 41, 42] (by decide) rfl (by simp) rfl (by simp) (by first | rfl | (simp only [NM, CELLS] <;> rfl) | simp [NM, CELLS]) (by first | rfl | (simp only [NM, CELLS] <;> rfl) | simp [NM, CELLS]) rfl) ?_
       rintro ⟨x59, x60, x61⟩ ⟨hi84, hx2⟩
       try dsimp only at hi84 hx2 ⊢
       rw [pontoonlaw07_OperStays_L1.eq_def] at hx2
       refine go_seq ?_
       refine go_rk eqOk ttOk [] [] ⟨[(1, (sL SRecord.cells a1)), (5, .ptr 0 0), (10, .ptr 1 0), (11, .ptr 2 0), (28, (sL SOp.cells a0.Ops)), (29, (iV ((a0.Ops.length : Nat) : Int))), (30, (iV ((x40 : Nat) : Int))), (40, (sL SRecord.cells a1)), (41, (iV ((a1.length : Nat) : Int))), (42, (iV ((x59 : Nat) : Int))), (43, (bo (decide (((x59 : Nat) : Int) < ((a1.length : Nat) : Int)))))], [(0, .box (SOpState.avs a2) 60), (1, .box (SOp.avs (List.getD a0.Ops x40 default)) 57), (2, .box [(sL SKeyState.cells x60), (iV x61)] 60)], 3⟩ (by kernel_rfl) trivial ?_
       refine go_seq ?_
       refine go_cond (by rfl) (fun h62 => ?_) (fun h62 => ?_)
       ·have gh62 := h62
        try simp only [GN, beq_iff_eq, beq_eq_false_iff_ne, bne_iff_ne, bne_eq_false_iff_eq] at gh62
        simp only [h62, dite_true, dite_false, reduceDIte, Bool.false_eq_true] at hx2
        refine go_skip ?_
        refine go_seq ?_
        obtain ⟨o63s, hx3, hx2⟩ := letIn_ex hx2
        refine go_joinE (fun p : (List SKeyState) × Int => ⟨[(1, (sL SRecord.cells a1)), (5, .ptr 0 0), (10, .ptr 1 0), (11, .ptr 2 0), (28, (sL SOp.cells a0.Ops)), (29, (iV ((a0.Ops.length : Nat) : Int))), (30, (iV ((x40 : Nat) : Int))), (40, (sL SRecord.cells a1)), (41, (iV ((a1.length : Nat) : Int))), (42, (iV ((x59 : Nat) : Int)))], [(0, .box (SOpState.avs a2) 60), (1, .box (SOp.avs (List.getD a0.Ops x40 default)) 57), (2, .box [(sL SKeyState.cells p.1), (iV p.2)] 60)], 3⟩) (fun p : (List SKeyState) × Int => o63s = Sum.inr p ∧ (p.1.length ≤ a2.Keys.length + x59 + 1)) ?_ ?_
        ·refine go_block ?_
         refine go_seq ?_
         have bq85 : x59 < a1.length := by omega
         refine go_rk eqOk ttOk [(0, .row (SRecord.cells (List.getD a1 x59 default)))] [IX SRecord.cells a1 ((x59 : Nat) : Int)] ⟨[(1, (sL SRecord.cells a1)), (5, .ptr 0 0), (10, .ptr 1 0), (11, .ptr 2 0), (13, .ptr 3 0), (28, (sL SOp.cells a0.Ops)), (29, (iV ((a0.Ops.length : Nat) : Int))), (30, (iV ((x40 : Nat) : Int))), (40, (sL SRecord.cells a1)), (41, (iV ((a1.length : Nat) : Int))), (42, (iV ((x59 : Nat) : Int)))], [(0, .box (SOpState.avs a2) 60), (1, .box (SOp.avs (List.getD a0.Ops x40 default)) 57), (2, .box [(sL SKeyState.cells x60), (iV x61)] 60), (3, .box (SRecord.avs (List.getD a1 x59 default)) 68)], 4⟩ (by kernel_rfl) ⟨(ixn bq85), trivial⟩ ?_
         refine go_seq ?_
         obtain ⟨r64, hr64, hx3⟩ := letIn_ex hx3
         have Cr64 := (oper_Step_t (List.getD a0.Ops x40 default) (SOpState.mk x60 x61) (List.getD a1 x59 default) (by (try simp only [SZD]); (repeat' apply And.intro) <;> first | assumption | omega | simp_all) (by (try simp only [SZD]); (repeat' apply And.intro) <;> first | assumption | omega | simp_all))
         simp only [hr64] at Cr64
         have fr64 := oper_Step_sz (List.getD a0.Ops x40 default) (SOpState.mk x60 x61) (List.getD a1 x59 default)
         simp only [hr64] at fr64
         refine go_rk eqOk ttOk [(3, .fn Cr64.toO)] [AQ Cr64.toO] ⟨[(1, (sL SRecord.cells a1)), (5, .ptr 0 0), (10, .ptr 1 0), (11, .ptr 2 0), (14, .ptr 4 0), (15, (sL SPut.cells r64.2)), (28, (sL SOp.cells a0.Ops)), (29, (iV ((a0.Ops.length : Nat) : Int))), (30, (iV ((x40 : Nat) : Int))), (40, (sL SRecord.cells a1)), (41, (iV ((a1.length : Nat) : Int))), (42, (iV ((x59 : Nat) : Int)))], [(0, .box (SOpState.avs a2) 60), (1, .box (SOp.avs (List.getD a0.Ops x40 default)) 57), (2, .box [(sL SKeyState.cells x60), (iV x61)] 60), (4, .box (SOpState.avs r64.1) 60)], 5⟩ (by kernel_rfl) ⟨rfl, trivial⟩ ?_
         refine go_seq ?_
         refine go_seq ?_
         refine go_rk eqOk ttOk [(2, .fn ((oper_Check_t (List.getD a0.Ops x40 default) r64.1 (by (try simp only [SZD]); (repeat' apply And.intro) <;> first | assumption | omega | simp_all) (by (try simp only [SZD]); (repeat' apply And.intro) <;> first | assumption | omega | simp_all))).toO)] [AQ ((oper_Check_t (List.getD a0.Ops x40 default) r64.1 (by (try simp only [SZD]); (repeat' apply And.intro) <;> first | assumption | omega | simp_all) (by (try simp only [SZD]); (repeat' apply And.intro) <;> first | assumption | omega | simp_all))).toO] ⟨[(1, (sL SRecord.cells a1)), (5, .ptr 0 0), (10, .ptr 1 0), (11, .ptr 2 0), (14, .ptr 4 0), (15, (sL SPut.cells r64.2)), (28, (sL SOp.cells a0.Ops)), (29, (iV ((a0.Ops.length : Nat) : Int))), (30, (iV ((x40 : Nat) : Int))), (40, (sL SRecord.cells a1)), (41, (iV ((a1.length : Nat) : Int))), (42, (iV ((x59 : Nat) : Int))), (56, (bo ((oper_Check (List.getD a0.Ops x40 default) r64.1) != 0)))], [(0, .box (SOpState.avs a2) 60), (1, .box (SOp.avs (List.getD a0.Ops x40 default)) 57), (2, .box [(sL SKeyState.cells x60), (iV x61)] 60), (4, .box (SOpState.avs r64.1) 60)], 5⟩ (by kernel_rfl) ⟨rfl, trivial⟩ ?_
         refine go_cond (by rfl) (fun h65 => ?_) (fun h65 => ?_)
         ·have gh65 := h65
          try simp only [GN, beq_iff_eq, beq_eq_false_iff_ne, bne_iff_ne, bne_eq_false_iff_eq] at gh65
          simp only [h65, dite_true, dite_false, reduceDIte, Bool.false_eq_true] at hx3
          refine go_seq ?_
          refine go_rk eqOk ttOk [] [] ⟨[(6, (bo false))], [], 5⟩ (by kernel_rfl) trivial ?_
          subst hx3
          simp only [Sum.elim_inl] at hx2
          subst hx2
          simp only [Sum.elim_inl] at hx1
          subst hx1
          simp only [Sum.elim_inl] at hx0
          subst hx0
          refine go_return ttOk (fun _ h => h) rfl ?_ ?_
          ·exact (by (repeat' apply And.intro) <;> first | trivial | exact Nat.le_of_ble_eq_true rfl | omega | (simp only [NM]; omega))
          ·first | rfl | (simp only [NM, CELLS] <;> rfl)
         ·have gh65 := h65
          try simp only [GN, beq_iff_eq, beq_eq_false_iff_ne, bne_iff_ne, bne_eq_false_iff_eq] at gh65
          simp only [h65, dite_true, dite_false, reduceDIte, Bool.false_eq_true] at hx3
          refine go_skip ?_
          refine go_seq ?_
          refine go_seq ?_
          refine go_rk eqOk ttOk [(1, .tell (iV ((r64.2.length : Nat) : Int)))] [LN SPut.cells r64.2] ⟨[(1, (sL SRecord.cells a1)), (5, .ptr 0 0), (10, .ptr 1 0), (11, .ptr 2 0), (14, .ptr 4 0), (28, (sL SOp.cells a0.Ops)), (29, (iV ((a0.Ops.length : Nat) : Int))), (30, (iV ((x40 : Nat) : Int))), (40, (sL SRecord.cells a1)), (41, (iV ((a1.length : Nat) : Int))), (42, (iV ((x59 : Nat) : Int))), (57, (sL SPut.cells r64.2)), (58, (iV ((r64.2.length : Nat) : Int))), (59, (iV 0))], [(0, .box (SOpState.avs a2) 60), (1, .box (SOp.avs (List.getD a0.Ops x40 default)) 57), (2, .box [(sL SKeyState.cells x60), (iV x61)] 60), (4, .box (SOpState.avs r64.1) 60)], 5⟩ (by kernel_rfl) ⟨ln, trivial⟩ ?_
          obtain ⟨o66s, hx4, hx3⟩ := letIn_ex hx3
          refine go_joinE (fun p : Unit => ⟨[(1, (sL SRecord.cells a1)), (5, .ptr 0 0), (10, .ptr 1 0), (11, .ptr 2 0), (14, .ptr 3 0), (28, (sL SOp.cells a0.Ops)), (29, (iV ((a0.Ops.length : Nat) : Int))), (30, (iV ((x40 : Nat) : Int))), (40, (sL SRecord.cells a1)), (41, (iV ((a1.length : Nat) : Int))), (42, (iV ((x59 : Nat) : Int)))], [(0, .box (SOpState.avs a2) 60), (1, .box (SOp.avs (List.getD a0.Ops x40 default)) 57), (2, .box [(sL SKeyState.cells x60), (iV x61)] 60), (3, .box (SOpState.avs r64.1) 60)], 4⟩) (fun p : Unit => o66s = Sum.inr p) ?_ ?_
          ·refine go_block ?_
           refine go_len (t := 57) rfl (fun hl86 => ?_)
           simp only [List.length_map, maxLen_eq] at hl86
           refine go_loop (fun p : Nat => ⟨[(1, (sL SRecord.cells a1)), (5, .ptr 0 0), (10, .ptr 1 0), (11, .ptr 2 0), (14, .ptr 3 0), (28, (sL SOp.cells a0.Ops)), (29, (iV ((a0.Ops.length : Nat) : Int))), (30, (iV ((x40 : Nat) : Int))), (40, (sL SRecord.cells a1)), (41, (iV ((a1.length : Nat) : Int))), (42, (iV ((x59 : Nat) : Int))), (57, (sL SPut.cells r64.2)), (58, (iV ((r64.2.length : Nat) : Int))), (59, (iV ((p : Nat) : Int)))], [(0, .box (SOpState.avs a2) 60), (1, .box (SOp.avs (List.getD a0.Ops x40 default)) 57), (2, .box [(sL SKeyState.cells x60), (iV x61)] 60), (3, .box (SOpState.avs r64.1) 60)], 4⟩) (fun p : Nat => (p ≤ r64.2.length) ∧ pontoonlaw07_OperStays_L2 a0 x40 r64 p = o66s) (fun p : Nat => r64.2.length - p) 0 ⟨(by first | trivial | omega | ((try dsimp only) <;> (repeat' apply And.intro) <;> first | trivial | omega | assumption | (simp; done))), hx4⟩ (Weak.canon [0, 1, 2, 4] [1, 5, 10, 11, 14, 28, 29, 30, 40, 41, 42, 57, 58, 59] (by decide) rfl (by simp) rfl (by simp) (by first | rfl | (simp only [NM, CELLS] <;> rfl) | simp [NM, CELLS]) (by first | rfl | (simp only [NM, CELLS] <;> rfl) | simp [NM, CELLS]) rfl) ?_
           rintro x71 ⟨hi87, hx4⟩
           try dsimp only at hi87 hx4 ⊢
           rw [pontoonlaw07_OperStays_L2.eq_def] at hx4
           refine go_seq ?_
           refine go_rk eqOk ttOk [] [] ⟨[(1, (sL SRecord.cells a1)), (5, .ptr 0 0), (10, .ptr 1 0), (11, .ptr 2 0), (14, .ptr 3 0), (28, (sL SOp.cells a0.Ops)), (29, (iV ((a0.Ops.length : Nat) : Int))), (30, (iV ((x40 : Nat) : Int))), (40, (sL SRecord.cells a1)), (41, (iV ((a1.length : Nat) : Int))), (42, (iV ((x59 : Nat) : Int))), (57, (sL SPut.cells r64.2)), (58, (iV ((r64.2.length : Nat) : Int))), (59, (iV ((x71 : Nat) : Int))), (60, (bo (decide (((x71 : Nat) : Int) < ((r64.2.length : Nat) : Int)))))], [(0, .box (SOpState.avs a2) 60), (1, .box (SOp.avs (List.getD a0.Ops x40 default)) 57), (2, .box [(sL SKeyState.cells x60), (iV x61)] 60), (3, .box (SOpState.avs r64.1) 60)], 4⟩ (by kernel_rfl) trivial ?_
           refine go_seq ?_
           refine go_cond (by rfl) (fun h72 => ?_) (fun h72 => ?_)
           ·have gh72 := h72
            try simp only [GN, beq_iff_eq, beq_eq_false_iff_ne, bne_iff_ne, bne_eq_false_iff_eq] at gh72
            simp only [h72, dite_true, dite_false, reduceDIte, Bool.false_eq_true] at hx4
            refine go_skip ?_
            refine go_seq ?_
            refine go_block ?_
            refine go_seq ?_
            have bq88 : x71 < r64.2.length := by omega
            refine go_rk eqOk ttOk [(0, .row (SPut.cells (List.getD r64.2 x71 default)))] [IX SPut.cells r64.2 ((x71 : Nat) : Int)] ⟨[(1, (sL SRecord.cells a1)), (5, .ptr 0 0), (10, .ptr 1 0), (11, .ptr 2 0), (14, .ptr 3 0), (17, .ptr 4 0), (28, (sL SOp.cells a0.Ops)), (29, (iV ((a0.Ops.length : Nat) : Int))), (30, (iV ((x40 : Nat) : Int))), (40, (sL SRecord.cells a1)), (41, (iV ((a1.length : Nat) : Int))), (42, (iV ((x59 : Nat) : Int))), (57, (sL SPut.cells r64.2)), (58, (iV ((r64.2.length : Nat) : Int))), (59, (iV ((x71 : Nat) : Int)))], [(0, .box (SOpState.avs a2) 60), (1, .box (SOp.avs (List.getD a0.Ops x40 default)) 57), (2, .box [(sL SKeyState.cells x60), (iV x61)] 60), (3, .box (SOpState.avs r64.1) 60), (4, .box (SPut.avs (List.getD r64.2 x71 default)) 70)], 5⟩ (by kernel_rfl) ⟨(ixn bq88), trivial⟩ ?_
            refine go_seq ?_
            refine go_drawJ hR rfl ⟨[(1, (sL SRecord.cells a1)), (5, .ptr 0 0), (10, .ptr 1 0), (11, .ptr 2 0), (14, .ptr 3 0), (28, (sL SOp.cells a0.Ops)), (29, (iV ((a0.Ops.length : Nat) : Int))), (30, (iV ((x40 : Nat) : Int))), (40, (sL SRecord.cells a1)), (41, (iV ((a1.length : Nat) : Int))), (42, (iV ((x59 : Nat) : Int))), (57, (sL SPut.cells r64.2)), (58, (iV ((r64.2.length : Nat) : Int))), (59, (iV ((x71 : Nat) : Int))), (72, (bo ((decide ((List.getD r64.2 x71 default).Port < 0)) || (decide ((List.getD r64.2 x71 default).Port ≥ (pontoonref05_Ports (List.getD a0.Ops x40 default)))))))], [(0, .box (SOpState.avs a2) 60), (1, .box (SOp.avs (List.getD a0.Ops x40 default)) 57), (2, .box [(sL SKeyState.cells x60), (iV x61)] 60), (3, .box (SOpState.avs r64.1) 60)], 5⟩ ?_ ?_
            ·skip
             rcases Bool.eq_false_or_eq_true (decide ((List.getD r64.2 x71 default).Port < 0)) with h73 | h73
             ·simp only [h73, AVS, bits_i64, EVB, eqF, Op.operands, IntKind.bits, descF, sizeF, bytesF, zeroF, seval, reduceCtorEq, ↓reduceIte]
              refine ⟨by kernel_rfl, ?_⟩
              try simp only [h73, BM]
              exact Weak.sub' ⟨rfl, rfl, rfl, rfl, rfl, rfl, rfl, rfl, rfl, rfl, rfl, rfl, rfl, rfl, rfl, trivial⟩ ⟨rfl, rfl, rfl, rfl, trivial⟩ (Nat.le_of_ble_eq_true rfl)
             ·simp only [h73, AVS, bits_i64, EVB, eqF, Op.operands, IntKind.bits, descF, sizeF, bytesF, zeroF, seval, reduceCtorEq, ↓reduceIte]
              refine CallD.fresh (pontoonref05_Ports_t (List.getD a0.Ops x40 default)).toO rfl (by first | rfl | (simp only [NM]; done)) (by (repeat' apply And.intro) <;> first | trivial | rfl | omega | (simp only [NM]; omega)) (.inl rfl) ?_
              try simp only [h73, AVS, bits_i64, EVB, eqF, Op.operands, IntKind.bits, descF, sizeF, bytesF, zeroF, seval, reduceCtorEq, ↓reduceIte]
              refine ⟨by kernel_rfl, ?_⟩
              try simp only [h73, BM]
              exact Weak.sub' ⟨rfl, rfl, rfl, rfl, rfl, rfl, rfl, rfl, rfl, rfl, rfl, rfl, rfl, rfl, rfl, trivial⟩ ⟨rfl, rfl, rfl, rfl, trivial⟩ (Nat.le_of_ble_eq_true rfl)
            ·skip
             refine go_cond (by rfl) (fun h74 => ?_) (fun h74 => ?_)
             ·have gh74 := h74
              try simp only [GN, beq_iff_eq, beq_eq_false_iff_ne, bne_iff_ne, bne_eq_false_iff_eq] at gh74
              simp only [h74, dite_true, dite_false, reduceDIte, Bool.false_eq_true] at hx4
              refine go_seq ?_
              refine go_rk eqOk ttOk [] [] ⟨[(6, (bo false))], [], 5⟩ (by kernel_rfl) trivial ?_
              subst hx4
              simp only [Sum.elim_inl] at hx3
              subst hx3
              simp only [Sum.elim_inl] at hx2
              subst hx2
              simp only [Sum.elim_inl] at hx1
              subst hx1
              simp only [Sum.elim_inl] at hx0
              subst hx0
              refine go_return ttOk (fun _ h => h) rfl ?_ ?_
              ·exact (by (repeat' apply And.intro) <;> first | trivial | exact Nat.le_of_ble_eq_true rfl | omega | (simp only [NM]; omega))
              ·first | rfl | (simp only [NM, CELLS] <;> rfl)
             ·have gh74 := h74
              try simp only [GN, beq_iff_eq, beq_eq_false_iff_ne, bne_iff_ne, bne_eq_false_iff_eq] at gh74
              simp only [h74, dite_true, dite_false, reduceDIte, Bool.false_eq_true] at hx4
              refine go_skip ?_
              refine go_blk ?_
              refine go_rk eqOk ttOk [(0, .tell (iV ((x71 + 1 : Nat) : Int)))] [WR (((x71 : Nat) : Int) + 1) ((x71 + 1 : Nat) : Int)] ⟨[(1, (sL SRecord.cells a1)), (5, .ptr 0 0), (10, .ptr 1 0), (11, .ptr 2 0), (14, .ptr 3 0), (28, (sL SOp.cells a0.Ops)), (29, (iV ((a0.Ops.length : Nat) : Int))), (30, (iV ((x40 : Nat) : Int))), (40, (sL SRecord.cells a1)), (41, (iV ((a1.length : Nat) : Int))), (42, (iV ((x59 : Nat) : Int))), (57, (sL SPut.cells r64.2)), (58, (iV ((r64.2.length : Nat) : Int))), (59, (iV ((x71 + 1 : Nat) : Int)))], [(0, .box (SOpState.avs a2) 60), (1, .box (SOp.avs (List.getD a0.Ops x40 default)) 57), (2, .box [(sL SKeyState.cells x60), (iV x61)] 60), (3, .box (SOpState.avs r64.1) 60)], 5⟩ (by kernel_rfl) ⟨(wr (by omega) (by omega) (by omega)), trivial⟩ ?_
              exact go_fin ⟨x71 + 1, ⟨(by first | trivial | omega | ((try dsimp only) <;> (repeat' apply And.intro) <;> first | trivial | omega | assumption | (simp; done))), hx4⟩, by first | omega | (dsimp only; omega), (Weak.canon [0, 1, 2, 3] [1, 5, 10, 11, 14, 28, 29, 30, 40, 41, 42, 57, 58, 59] (by decide) rfl (by simp) rfl (by simp) (by first | rfl | (simp only [NM, CELLS] <;> rfl) | simp [NM, CELLS]) (by first | rfl | (simp only [NM, CELLS] <;> rfl) | simp [NM, CELLS]) rfl)⟩
           ·have gh72 := h72
            try simp only [GN, beq_iff_eq, beq_eq_false_iff_ne, bne_iff_ne, bne_eq_false_iff_eq] at gh72
            simp only [h72, dite_true, dite_false, reduceDIte, Bool.false_eq_true] at hx4
            refine go_exit rfl ?_
            exact go_fin ⟨(), hx4.symm, (Weak.canon [0, 1, 2, 3] [1, 5, 10, 11, 14, 28, 29, 30, 40, 41, 42] (by decide) rfl (by simp) rfl (by simp) (by first | rfl | (simp only [NM, CELLS] <;> rfl) | simp [NM, CELLS]) (by first | rfl | (simp only [NM, CELLS] <;> rfl) | simp [NM, CELLS]) rfl)⟩
          ·rintro o66 hp
           try dsimp only at hp
           subst hp
           simp only [Sum.elim_inr] at hx3
           refine go_rk eqOk ttOk [] [] ⟨[(1, (sL SRecord.cells a1)), (5, .ptr 0 0), (10, .ptr 1 0), (11, .ptr 2 0), (28, (sL SOp.cells a0.Ops)), (29, (iV ((a0.Ops.length : Nat) : Int))), (30, (iV ((x40 : Nat) : Int))), (40, (sL SRecord.cells a1)), (41, (iV ((a1.length : Nat) : Int))), (42, (iV ((x59 : Nat) : Int)))], [(0, .box (SOpState.avs a2) 60), (1, .box (SOp.avs (List.getD a0.Ops x40 default)) 57), (2, .box (SOpState.avs r64.1) 60)], 4⟩ (by kernel_rfl) trivial ?_
           refine go_blk ?_
           exact go_fin ⟨(r64.1.Keys, r64.1.Turn), ⟨hx3.symm, by first | omega | (dsimp only; omega) | (simp only [List.length_nil]; omega)⟩, (Weak.canon [0, 1, 2] [1, 5, 10, 11, 28, 29, 30, 40, 41, 42] (by decide) rfl (by simp) rfl (by simp) (by first | rfl | (simp only [NM, CELLS] <;> rfl) | simp [NM, CELLS]) (by first | rfl | (simp only [NM, CELLS] <;> rfl) | simp [NM, CELLS]) rfl)⟩
        ·rintro o63 ⟨hp, hqo63⟩
         try dsimp only at hqo63
         try dsimp only at hp
         subst hp
         simp only [Sum.elim_inr] at hx2
         refine go_rk eqOk ttOk [(0, .tell (iV ((x59 + 1 : Nat) : Int)))] [WR (((x59 : Nat) : Int) + 1) ((x59 + 1 : Nat) : Int)] ⟨[(1, (sL SRecord.cells a1)), (5, .ptr 0 0), (10, .ptr 1 0), (11, .ptr 2 0), (28, (sL SOp.cells a0.Ops)), (29, (iV ((a0.Ops.length : Nat) : Int))), (30, (iV ((x40 : Nat) : Int))), (40, (sL SRecord.cells a1)), (41, (iV ((a1.length : Nat) : Int))), (42, (iV ((x59 + 1 : Nat) : Int)))], [(0, .box (SOpState.avs a2) 60), (1, .box (SOp.avs (List.getD a0.Ops x40 default)) 57), (2, .box [(sL SKeyState.cells o63.1), (iV o63.2)] 60)], 3⟩ (by kernel_rfl) ⟨(wr (by omega) (by omega) (by omega)), trivial⟩ ?_
         exact go_fin ⟨(x59 + 1, o63.1, o63.2), ⟨(by first | trivial | omega | ((try dsimp only) <;> (repeat' apply And.intro) <;> first | trivial | omega | assumption | (simp; done))), hx2⟩, by first | omega | (dsimp only; omega), (Weak.canon [0, 1, 2] [1, 5, 10, 11, 28, 29, 30, 40, 41, 42] (by decide) rfl (by simp) rfl (by simp) (by first | rfl | (simp only [NM, CELLS] <;> rfl) | simp [NM, CELLS]) (by first | rfl | (simp only [NM, CELLS] <;> rfl) | simp [NM, CELLS]) rfl)⟩
       ·have gh62 := h62
        try simp only [GN, beq_iff_eq, beq_eq_false_iff_ne, bne_iff_ne, bne_eq_false_iff_eq] at gh62
        simp only [h62, dite_true, dite_false, reduceDIte, Bool.false_eq_true] at hx2
        refine go_exit rfl ?_
        refine go_blk ?_
        exact go_fin ⟨(), hx2.symm, (Weak.canon [0] [1, 5, 28, 29, 30] (by decide) rfl (by simp) rfl (by simp) (by first | rfl | (simp only [NM, CELLS] <;> rfl) | simp [NM, CELLS]) (by first | rfl | (simp only [NM, CELLS] <;> rfl) | simp [NM, CELLS]) rfl)⟩
     ·rintro o42 hp
      try dsimp only at hp
      subst hp
      simp only [Sum.elim_inr] at hx1
      refine go_rk eqOk ttOk [(0, .tell (iV ((x40 + 1 : Nat) : Int)))] [WR (((x40 : Nat) : Int) + 1) ((x40 + 1 : Nat) : Int)] ⟨[(1, (sL SRecord.cells a1)), (5, .ptr 0 0), (28, (sL SOp.cells a0.Ops)), (29, (iV ((a0.Ops.length : Nat) : Int))), (30, (iV ((x40 + 1 : Nat) : Int)))], [(0, .box (SOpState.avs a2) 60)], 1⟩ (by kernel_rfl) ⟨(wr (by omega) (by omega) (by omega)), trivial⟩ ?_
      exact go_fin ⟨x40 + 1, ⟨(by first | trivial | omega | ((try dsimp only) <;> (repeat' apply And.intro) <;> first | trivial | omega | assumption | (simp; done))), hx1⟩, by first | omega | (dsimp only; omega), (Weak.canon [0] [1, 5, 28, 29, 30] (by decide) rfl (by simp) rfl (by simp) (by first | rfl | (simp only [NM, CELLS] <;> rfl) | simp [NM, CELLS]) (by first | rfl | (simp only [NM, CELLS] <;> rfl) | simp [NM, CELLS]) rfl)⟩
    ·have gh41 := h41
     try simp only [GN, beq_iff_eq, beq_eq_false_iff_ne, bne_iff_ne, bne_eq_false_iff_eq] at gh41
     simp only [h41, dite_true, dite_false, reduceDIte, Bool.false_eq_true] at hx1
     refine go_exit rfl ?_
     exact go_fin ⟨(), hx1.symm, (Weak.canon [] [] (by decide) rfl trivial rfl (by simp) (by first | rfl | (simp only [NM, CELLS] <;> rfl) | simp [NM, CELLS]) rfl rfl)⟩
   ·rintro o4 hp
    try dsimp only at hp
    subst hp
    simp only [Sum.elim_inr] at hx0
    refine go_seq ?_
    refine go_rk eqOk ttOk [] [] ⟨[(6, (bo true))], [], 0⟩ (by kernel_rfl) trivial ?_
    subst hx0
    refine go_return ttOk (fun _ h => h) rfl ?_ ?_
    ·exact (by (repeat' apply And.intro) <;> first | trivial | exact Nat.le_of_ble_eq_true rfl | omega | (simp only [NM]; omega))
    ·first | rfl | (simp only [NM, CELLS] <;> rfl)
end Go.Ab.Try
