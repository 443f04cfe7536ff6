/-
  Functions, and what they compute: printed by wg.py, a program of this work.
-/
import Derived.Test.YtpfgofnmkaljaaaMg36
import Derived.Test.YtpfgofnmkaljaaaMg37
import Derived.Test.YtpfgofnmkaljaaaMg39
import Derived.Test.YtpfgofnmkaljaaaMg40
import Derived.Test.YtpfgofnmkaljaaaMg47
import Derived.Test.YtpfgofnmkaljaaaMg51
set_option linter.unusedVariables false
set_option linter.unusedSimpArgs false
namespace Go.Ab.Try
open Go Go.Proofs Go.Ab
def run_all_L1 (a0 : SGraph) (x17 : Nat) (x18 : List Srun_made) (x26 : Nat) (x27 : List (List SRecord)) : List (List SRecord) :=
  (if h28 : (decide (((x26 : Nat) : Int) < ((((List.getD a0.Ops x17 default).In).length : Nat) : Int))) = true then (run_all_L1 a0 x17 x18 (x26 + 1) (x27 ++ [(List.getD ((List.getD x18 (Int.toNat ((List.getD ((List.getD a0.Ops x17 default).In) x26 default).From)) default).ports_) (Int.toNat ((List.getD ((List.getD a0.Ops x17 default).In) x26 default).Port)) default)])) else x27)
termination_by ((List.getD a0.Ops x17 default).In).length - x26
decreasing_by all_goals (try simp only [GZ] at *) <;> omega
def run_all_L0 (a0 : SGraph) (a1 : (List (List SRecord))) (x17 : Nat) (x18 : List Srun_made) : List Srun_made :=
  (if h19 : (decide (((x17 : Nat) : Int) < ((a0.Ops.length : Nat) : Int))) = true then letIn (letIn ((if h22 : ((List.getD a0.Ops x17 default).Kind == 1) = true then [(List.getD a1 (Int.toNat ((List.getD a0.Ops x17 default).Part)) default)] else [])) fun o21 => letIn (run_all_L1 a0 x17 x18 0 o21) fun o23 => letIn (run_one (List.getD a0.Ops x17 default) o23) fun r29 => (x18 ++ [r29])) fun o20 => (run_all_L0 a0 a1 (x17 + 1) o20) else x18)
termination_by a0.Ops.length - x17
decreasing_by all_goals (try simp only [GZ] at *) <;> omega
def run_all (a0 : SGraph) (a1 : (List (List SRecord))) : (List Srun_made) × Int :=
  letIn (graph_Check a0) fun r1 => (bif (r1.2 != 0) then ([], r1.2) else (bif (((a1.length : Nat) : Int) != a0.Parts) then ([], 1) else letIn (run_all_L0 a0 a1 0 []) fun o4 => (o4, 0)))
theorem getD_ports (xs : List Srun_made) (k : Nat) : List.getD (xs.map (·.ports_)) k default = (List.getD xs k default).ports_ := by
  simp only [List.getD_eq_getElem?_getD, List.getElem?_map]
  cases xs[k]? <;> rfl
theorem runAll_L1_eq (g : SGraph) (n : Nat) (xs : List Srun_made) (i : Nat) (t : List (List SRecord)) : run_all_L1 g n xs i t = t ++ (((g.Ops.getD n default).In).drop i).map (outAt (xs.map (·.ports_))) := by
  rw [run_all_L1.eq_def]
  by_cases h : i < ((g.Ops.getD n default).In).length
  · rw [dif_pos (by simpa using h), runAll_L1_eq g n xs (i + 1), dropD _ i h, List.map_cons]
    simp only [outAt, getD_ports, List.append_assoc, List.cons_append, List.nil_append]
  · rw [dif_neg (by simpa using h), List.drop_eq_nil_of_le (by omega)]
    simp
termination_by ((g.Ops.getD n default).In).length - i
decreasing_by all_goals (simp only [List.getD_eq_getElem?_getD] at *; omega)
theorem runAll_ins {g : SGraph} (hg : GOk g) (a1 : List (List SRecord)) {n : Nat} (hn : n < g.Ops.length) (xs : List Srun_made) :
    run_all_L1 g n xs 0 (if h22 : ((List.getD g.Ops n default).Kind == 1) = true then [(List.getD a1 (Int.toNat ((List.getD g.Ops n default).Part)) default)] else []) = insOf g a1 n (xs.map (·.ports_)) := by
  rw [runAll_L1_eq, List.drop_zero]
  unfold insOf
  by_cases h : (List.getD g.Ops n default).Kind = 1
  · rw [dif_pos (by simpa using h), if_pos h, (hg.edges n hn).src h]
    rfl
  · rw [dif_neg (by simpa using h), if_neg h, List.nil_append]
theorem runAll_body {g : SGraph} (hg : GOk g) (a1 : List (List SRecord)) {n : Nat} (hn : n < g.Ops.length) (xs : List Srun_made) :
    (letIn ((if h22 : ((List.getD g.Ops n default).Kind == 1) = true then [(List.getD a1 (Int.toNat ((List.getD g.Ops n default).Part)) default)] else [])) fun o21 => letIn (run_all_L1 g n xs 0 o21) fun o23 => letIn (run_one (List.getD g.Ops n default) o23) fun r29 => (xs ++ [r29])) =
      xs ++ [run_one (List.getD g.Ops n default) (insOf g a1 n (xs.map (·.ports_)))] := by
  simp only [letIn]
  rw [runAll_ins hg a1 hn]
theorem runAll_one {g : SGraph} (hg : GOk g) {a1 : List (List SRecord)} (hs : tot a1 ≤ 1048576) {n : Nat} (hn : n < g.Ops.length) {outs : List (List (List SRecord))} (h : RIn g (tot a1) n outs) :
    run_one (List.getD g.Ops n default) (insOf g a1 n outs) = Srun_made.mk (pontoonref08_one (List.getD g.Ops n default) (insOf g a1 n outs)).1 (pontoonref08_one (List.getD g.Ops n default) (insOf g a1 n outs)).2 := by
  have h1 := ins_tot hg hn h
  have h2 := ins_len hg hn a1 outs
  exact one_eq _ _ (ins_pos hg hn a1 outs) (by omega) (by omega)
theorem runAll_in {g : SGraph} (hg : GOk g) {a1 : List (List SRecord)} (hs : tot a1 ≤ 1048576) {n : Nat} (hn : n < g.Ops.length) {xs : List Srun_made} (h : RIn g (tot a1) n (xs.map (·.ports_))) :
    RIn g (tot a1) (n + 1) ((xs ++ [run_one (List.getD g.Ops n default) (insOf g a1 n (xs.map (·.ports_)))]).map (·.ports_)) := by
  rw [List.map_append, runAll_one hg hs hn h]
  exact RIn.one hg hn hs h
set_option maxRecDepth 10000 in
set_option maxHeartbeats 8000000 in
theorem run_all_t (a0 : SGraph) (a1 : (List (List SRecord))) (hs : tot a1 ≤ 1048576) (z0 : SGraph.Sz a0) (z1 : (a1.length ≤ 4294967296 ∧ ∀ y ∈ a1, y.length ≤ 4294967296)) : FnP Try.prog 55 [.agg (SGraph.avs a0), (sL cSl_SRecord_cells a1)] (.tup [(sL Srun_made.cells ((run_all a0 a1).1)), (iV ((run_all a0 a1).2))]) := by
 refine FnP.intro (tt := tt) Try.func55 rfl (by kernel_rfl) (by simp [Try.ntmps55]) fun w0 A hA => ?_
 have hR := reckB_ok eqOk ttOk
 obtain ⟨res, hx0⟩ : ∃ r, run_all a0 a1 = r := ⟨_, rfl⟩
 simp only [hx0]
 unfold run_all at hx0
 simp only [argT, Try.ntmps55]
 try simp only [SZD] at z0 z1
 obtain ⟨zz30, zz31⟩ := z0
 obtain ⟨zz32, zz33⟩ := z1
 refine go_seq ?_
 refine go_rk eqOk ttOk [] [] ⟨[(1, (sL cSl_SRecord_cells a1)), (2, .ptr 0 0)], [(0, .box (SGraph.avs a0) 41)], 1⟩ (by kernel_rfl) trivial ?_
 refine go_seq ?_
 refine go_seq ?_
 obtain ⟨r1, hr1, hx0⟩ := letIn_ex hx0
 have Cr1 := (graph_Check_t a0 (by (try simp only [SZD]); (repeat' apply And.intro) <;> first | assumption | omega | (simp only [List.length_drop, List.length_take]; omega) | simp_all))
 simp only [hr1] at Cr1
 refine go_rk eqOk ttOk [(1, .fn Cr1.toO)] [AQ Cr1.toO] ⟨[(1, (sL cSl_SRecord_cells a1)), (2, .ptr 0 0), (7, (iV r1.2))], [(0, .box (SGraph.avs a0) 41)], 1⟩ (by kernel_rfl) ⟨⟨rfl, rfl⟩, trivial⟩ ?_
 refine go_seq ?_
 refine go_rk eqOk ttOk [] [] ⟨[(1, (sL cSl_SRecord_cells a1)), (2, .ptr 0 0), (7, (iV r1.2)), (20, (bo (r1.2 != 0)))], [(0, .box (SGraph.avs a0) 41)], 1⟩ (by kernel_rfl) trivial ?_
 refine go_cond (by rfl) (fun h2 => ?_) (fun h2 => ?_)
 ·have gh2 := h2
  try simp only [GZ] at gh2
  replace hx0 := condT h2 hx0
  refine go_seq ?_
  refine go_rk eqOk ttOk [] [] ⟨[(4, nS), (5, (iV r1.2))], [], 1⟩ (by kernel_rfl) trivial ?_
  subst hx0
  exact go_ret1 rfl
 ·have gh2 := h2
  try simp only [GZ] at gh2
  replace hx0 := condF h2 hx0
  refine go_skip ?_
  refine go_seq ?_
  refine go_seq ?_
  refine go_rk eqOk ttOk [(1, .tell (iV ((a1.length : Nat) : Int)))] [LN cSl_SRecord_cells a1] ⟨[(1, (sL cSl_SRecord_cells a1)), (2, .ptr 0 0), (26, (bo (((a1.length : Nat) : Int) != a0.Parts)))], [(0, .box (SGraph.avs a0) 41)], 1⟩ (by kernel_rfl) ⟨ln, trivial⟩ ?_
  refine go_cond (by rfl) (fun h3 => ?_) (fun h3 => ?_)
  ·have gh3 := h3
   try simp only [GZ] at gh3
   replace hx0 := condT h3 hx0
   refine go_seq ?_
   refine go_rk eqOk ttOk [] [] ⟨[(4, nS), (5, (iV 1))], [], 1⟩ (by kernel_rfl) trivial ?_
   subst hx0
   exact go_ret1 rfl
  ·have gh3 := h3
   try simp only [GZ] at gh3
   replace hx0 := condF h3 hx0
   refine go_skip ?_
   refine go_seq ?_
   refine go_rk eqOk ttOk [] [] ⟨[(1, (sL cSl_SRecord_cells a1)), (2, .ptr 0 0), (8, nS)], [(0, .box (SGraph.avs a0) 41)], 1⟩ (by kernel_rfl) trivial ?_
   refine go_nilOwn 8 4 130 rfl ?_
   refine go_weak (s' := ⟨[(1, (sL cSl_SRecord_cells a1)), (2, .ptr 0 0), (8, .own 1 4 0 0)], [(0, .box (SGraph.avs a0) 41), (1, .acc 4 (List.map Srun_made.cells []) 130)], 2⟩) (Weak.sub' (by repeat (first | exact trivial | refine ⟨rfl, ?_⟩)) (by repeat (first | exact trivial | refine ⟨rfl, ?_⟩)) (by exact Nat.le_of_ble_eq_true rfl)) ?_
   refine go_seq ?_
   refine go_seq ?_
   refine go_rk eqOk ttOk [(2, .tell (iV ((a0.Ops.length : Nat) : Int)))] [LN SOp.cells a0.Ops] ⟨[(1, (sL cSl_SRecord_cells a1)), (8, .own 1 4 0 0), (28, (sL SOp.cells a0.Ops)), (29, (iV ((a0.Ops.length : Nat) : Int))), (30, (iV 0))], [(1, .acc 4 (List.map Srun_made.cells []) 130)], 2⟩ (by kernel_rfl) ⟨ln, trivial⟩ ?_
   obtain ⟨o4, hx1, hx0⟩ := letIn_ex hx0
   refine go_joinE (fun p : List Srun_made => ⟨[(8, .own 0 4 0 p.length)], [(0, .acc 4 (List.map Srun_made.cells p) 130)], 1⟩) (fun p : List Srun_made => o4 = p) ?_ ?_
   ·refine go_block ?_
    refine go_len (t := 1) rfl (fun hl34 => ?_)
    simp only [List.length_map, maxLen_eq] at hl34
    refine go_len (t := 28) rfl (fun hl35 => ?_)
    simp only [List.length_map, maxLen_eq] at hl35
    refine go_loop (fun p : Nat × (List Srun_made) => ⟨[(1, (sL cSl_SRecord_cells a1)), (8, .own 0 4 0 p.2.length), (28, (sL SOp.cells a0.Ops)), (29, (iV ((a0.Ops.length : Nat) : Int))), (30, (iV ((p.1 : Nat) : Int)))], [(0, .acc 4 (List.map Srun_made.cells p.2) 130)], 1⟩) (fun p : Nat × (List Srun_made) => (p.1 ≤ a0.Ops.length ∧ RIn a0 (tot a1) p.1 (p.2.map (fun q => q.ports_))) ∧ run_all_L0 a0 a1 p.1 p.2 = o4) (fun p : Nat × (List Srun_made) => a0.Ops.length - p.1) (0, []) ⟨⟨Nat.zero_le _, RIn.start⟩, hx1⟩ (Weak.cn [1] [1, 8, 28, 29, 30] rfl rfl rfl) ?_
    rintro ⟨x17, x18⟩ ⟨hi36, hx1⟩
    try dsimp only at hi36 hx1 ⊢
    rw [run_all_L0.eq_def] at hx1
    have hRI := hi36.2
    have hRL : x18.length = x17 := by have := hRI.len; rwa [List.length_map] at this
    have hg := gok_of a0 (by rw [hr1]; simpa using (by assumption : (r1.2 != 0) = false))
    have hF : x17 < a0.Ops.length → (List.getD a0.Ops x17 default).Kind = 1 → 0 ≤ (List.getD a0.Ops x17 default).Part ∧ (List.getD a0.Ops x17 default).Part < a0.Parts := fun h1 h2 => fields_part _ _ (hg.fields _ h1) h2
    refine go_seq ?_
    refine go_rk eqOk ttOk [] [] ⟨[(1, (sL cSl_SRecord_cells a1)), (8, .own 0 4 0 x18.length), (28, (sL SOp.cells a0.Ops)), (29, (iV ((a0.Ops.length : Nat) : Int))), (30, (iV ((x17 : Nat) : Int))), (31, (bo (decide (((x17 : Nat) : Int) < ((a0.Ops.length : Nat) : Int)))))], [(0, .acc 4 (List.map Srun_made.cells x18) 130)], 1⟩ (by kernel_rfl) trivial ?_
    refine go_seq ?_
    refine go_cond (by rfl) (fun h19 => ?_) (fun h19 => ?_)
    ·have gh19 := h19
     try simp only [GZ] at gh19
     replace hx1 := iteT h19 hx1
     refine go_skip ?_
     refine go_seq ?_
     obtain ⟨o20, hx2, hx1⟩ := letIn_ex hx1
     refine go_joinE (fun p : List Srun_made => ⟨[(1, (sL cSl_SRecord_cells a1)), (8, .own 0 4 0 p.length), (28, (sL SOp.cells a0.Ops)), (29, (iV ((a0.Ops.length : Nat) : Int))), (30, (iV ((x17 : Nat) : Int)))], [(0, .acc 4 (List.map Srun_made.cells p) 130)], 1⟩) (fun p : List Srun_made => o20 = p) ?_ ?_
     ·refine go_block ?_
      refine go_seq ?_
      have bq37 : x17 < a0.Ops.length := by omega
      have zq37 : ((List.getD a0.Ops x17 default).In).length ≤ 4294967296 := (by assumption : ∀ y ∈ a0.Ops, y.In.length ≤ 4294967296) _ (getD_mem a0.Ops x17 default bq37)
      refine go_rk eqOk ttOk [(0, .row (SOp.cells (List.getD a0.Ops x17 default)))] [IX SOp.cells a0.Ops ((x17 : Nat) : Int)] ⟨[(1, (sL cSl_SRecord_cells a1)), (8, .own 0 4 0 x18.length), (10, .ptr 1 0), (28, (sL SOp.cells a0.Ops)), (29, (iV ((a0.Ops.length : Nat) : Int))), (30, (iV ((x17 : Nat) : Int)))], [(0, .acc 4 (List.map Srun_made.cells x18) 130), (1, .box (SOp.avs (List.getD a0.Ops x17 default)) 55)], 2⟩ (by kernel_rfl) ⟨(ixn bq37), trivial⟩ ?_
      refine go_seq ?_
      refine go_rk eqOk ttOk [] [] ⟨[(1, (sL cSl_SRecord_cells a1)), (8, .own 0 4 0 x18.length), (10, .ptr 1 0), (11, .own 2 1 0 0), (28, (sL SOp.cells a0.Ops)), (29, (iV ((a0.Ops.length : Nat) : Int))), (30, (iV ((x17 : Nat) : Int)))], [(0, .acc 4 (List.map Srun_made.cells x18) 130), (1, .box (SOp.avs (List.getD a0.Ops x17 default)) 55), (2, .acc 1 (List.map cSl_SRecord_cells []) 23)], 3⟩ (by kernel_rfl) trivial ?_
      refine go_seq ?_
      refine go_seq ?_
      refine go_rk eqOk ttOk [] [] ⟨[(1, (sL cSl_SRecord_cells a1)), (8, .own 0 4 0 x18.length), (10, .ptr 1 0), (11, .own 2 1 0 0), (28, (sL SOp.cells a0.Ops)), (29, (iV ((a0.Ops.length : Nat) : Int))), (30, (iV ((x17 : Nat) : Int))), (37, (bo ((List.getD a0.Ops x17 default).Kind == 1)))], [(0, .acc 4 (List.map Srun_made.cells x18) 130), (1, .box (SOp.avs (List.getD a0.Ops x17 default)) 55), (2, .acc 1 (List.map cSl_SRecord_cells []) 23)], 3⟩ (by kernel_rfl) trivial ?_
      obtain ⟨o21, hx3, hx2⟩ := letIn_ex hx2
      refine go_joinE (fun p : List (List SRecord) => ⟨[(1, (sL cSl_SRecord_cells a1)), (8, .own 0 4 0 x18.length), (10, .ptr 1 0), (11, .own 2 1 0 p.length), (28, (sL SOp.cells a0.Ops)), (29, (iV ((a0.Ops.length : Nat) : Int))), (30, (iV ((x17 : Nat) : Int)))], [(0, .acc 4 (List.map Srun_made.cells x18) 130), (1, .box (SOp.avs (List.getD a0.Ops x17 default)) 55), (2, .acc 1 (List.map cSl_SRecord_cells p) 23)], 3⟩) (fun p : List (List SRecord) => o21 = p) ?_ ?_
      ·refine go_cond (by rfl) (fun h22 => ?_) (fun h22 => ?_)
       ·have gh22 := h22
        try simp only [GZ] at gh22
        replace hx3 := iteT h22 hx3
        have bq39 : (Int.toNat ((List.getD a0.Ops x17 default).Part)) < a1.length := by omega
        have zq39 : (List.getD a1 (Int.toNat ((List.getD a0.Ops x17 default).Part)) default).length ≤ 4294967296 := (by assumption : ∀ y ∈ a1, y.length ≤ 4294967296) _ (getD_mem a1 (Int.toNat ((List.getD a0.Ops x17 default).Part)) default bq39)
        refine go_rk eqOk ttOk [(4, .row (cSl_SRecord_cells (List.getD a1 (Int.toNat ((List.getD a0.Ops x17 default).Part)) default))), (7, .app (List.map cSl_SRecord_cells [(List.getD a1 (Int.toNat ((List.getD a0.Ops x17 default).Part)) default)]) (List.map cSl_SRecord_cells [(List.getD a1 (Int.toNat ((List.getD a0.Ops x17 default).Part)) default)]) ([(List.getD a1 (Int.toNat ((List.getD a0.Ops x17 default).Part)) default)].length))] [IX cSl_SRecord_cells a1 ((List.getD a0.Ops x17 default).Part), OX cSl_SRecord_cells [(List.getD a1 (Int.toNat ((List.getD a0.Ops x17 default).Part)) default)] 0 1 [(List.getD a1 (Int.toNat ((List.getD a0.Ops x17 default).Part)) default)], AX 1 24 cSl_SRecord_cells ([] : List (List SRecord)) [(List.getD a1 (Int.toNat ((List.getD a0.Ops x17 default).Part)) default)]] ⟨[(1, (sL cSl_SRecord_cells a1)), (8, .own 0 4 0 x18.length), (10, .ptr 1 0), (11, .own 2 1 0 ([(List.getD a1 (Int.toNat ((List.getD a0.Ops x17 default).Part)) default)].length)), (28, (sL SOp.cells a0.Ops)), (29, (iV ((a0.Ops.length : Nat) : Int))), (30, (iV ((x17 : Nat) : Int)))], [(0, .acc 4 (List.map Srun_made.cells x18) 130), (1, .box (SOp.avs (List.getD a0.Ops x17 default)) 55), (2, .acc 1 (List.map cSl_SRecord_cells [(List.getD a1 (Int.toNat ((List.getD a0.Ops x17 default).Part)) default)]) 23)], 4⟩ (by kernel_rfl) ⟨(ix (by omega) (by omega)), ox, (ax (fun _ => rfl) (by decide) (by (try simp only [NM, List.length_take, List.length_drop]); omega)), trivial⟩ ?_
        exact go_fin ⟨[(List.getD a1 (Int.toNat ((List.getD a0.Ops x17 default).Part)) default)], hx3.symm, (Weak.cn [0, 1, 2] [1, 8, 10, 11, 28, 29, 30] rfl rfl rfl)⟩
       ·have gh22 := h22
        try simp only [GZ] at gh22
        replace hx3 := iteF h22 hx3
        refine go_skip ?_
        exact go_fin ⟨[], hx3.symm, (Weak.cn [0, 1, 2] [1, 8, 10, 11, 28, 29, 30] rfl rfl rfl)⟩
      ·rintro o21_ hp
       try dsimp only at hp
       subst hp
       have e21 := hx3
       have f21 : o21.length ≤ 1 := by rw [← hx3]; split <;> simp
       refine go_seq ?_
       refine go_seq ?_
       refine go_rk eqOk ttOk [(2, .tell (iV ((((List.getD a0.Ops x17 default).In).length : Nat) : Int)))] [LN SEdge.cells ((List.getD a0.Ops x17 default).In)] ⟨[(1, (sL cSl_SRecord_cells a1)), (8, .own 0 4 0 x18.length), (10, .ptr 1 0), (11, .own 2 1 0 o21.length), (28, (sL SOp.cells a0.Ops)), (29, (iV ((a0.Ops.length : Nat) : Int))), (30, (iV ((x17 : Nat) : Int))), (47, (sL SEdge.cells ((List.getD a0.Ops x17 default).In))), (48, (iV ((((List.getD a0.Ops x17 default).In).length : Nat) : Int))), (49, (iV 0))], [(0, .acc 4 (List.map Srun_made.cells x18) 130), (1, .box (SOp.avs (List.getD a0.Ops x17 default)) 55), (2, .acc 1 (List.map cSl_SRecord_cells o21) 23)], 3⟩ (by kernel_rfl) ⟨ln, trivial⟩ ?_
       obtain ⟨o23, hx3, hx2⟩ := letIn_ex hx2
       refine go_joinE (fun p : List (List SRecord) => ⟨[(1, (sL cSl_SRecord_cells a1)), (8, .own 0 4 0 x18.length), (10, .ptr 1 0), (11, .own 2 1 0 p.length), (28, (sL SOp.cells a0.Ops)), (29, (iV ((a0.Ops.length : Nat) : Int))), (30, (iV ((x17 : Nat) : Int)))], [(0, .acc 4 (List.map Srun_made.cells x18) 130), (1, .box (SOp.avs (List.getD a0.Ops x17 default)) 55), (2, .acc 1 (List.map cSl_SRecord_cells p) 23)], 3⟩) (fun p : List (List SRecord) => o23 = p) ?_ ?_
       ·refine go_block ?_
        refine go_len (t := 47) rfl (fun hl41 => ?_)
        simp only [List.length_map, maxLen_eq] at hl41
        refine go_loop (fun p : Nat × (List (List SRecord)) => ⟨[(1, (sL cSl_SRecord_cells a1)), (8, .own 0 4 0 x18.length), (10, .ptr 1 0), (11, .own 2 1 0 p.2.length), (28, (sL SOp.cells a0.Ops)), (29, (iV ((a0.Ops.length : Nat) : Int))), (30, (iV ((x17 : Nat) : Int))), (47, (sL SEdge.cells ((List.getD a0.Ops x17 default).In))), (48, (iV ((((List.getD a0.Ops x17 default).In).length : Nat) : Int))), (49, (iV ((p.1 : Nat) : Int)))], [(0, .acc 4 (List.map Srun_made.cells x18) 130), (1, .box (SOp.avs (List.getD a0.Ops x17 default)) 55), (2, .acc 1 (List.map cSl_SRecord_cells p.2) 23)], 3⟩) (fun p : Nat × (List (List SRecord)) => (p.1 ≤ ((List.getD a0.Ops x17 default).In).length ∧ p.2.length ≤ p.1 + 1) ∧ run_all_L1 a0 x17 x18 p.1 p.2 = o23) (fun p : Nat × (List (List SRecord)) => ((List.getD a0.Ops x17 default).In).length - p.1) (0, o21) ⟨⟨Nat.zero_le _, by (try dsimp only); omega⟩, hx3⟩ (Weak.cn [0, 1, 2] [1, 8, 10, 11, 28, 29, 30, 47, 48, 49] rfl rfl rfl) ?_
        rintro ⟨x26, x27⟩ ⟨hi42, hx3⟩
        try dsimp only at hi42 hx3 ⊢
        rw [run_all_L1.eq_def] at hx3
        have hE : x26 < ((List.getD a0.Ops x17 default).In).length → 0 ≤ ((List.getD ((List.getD a0.Ops x17 default).In) x26 default)).From ∧ ((List.getD ((List.getD a0.Ops x17 default).In) x26 default)).From < (x17 : Int) ∧ 0 ≤ ((List.getD ((List.getD a0.Ops x17 default).In) x26 default)).Port ∧ Int.toNat (((List.getD ((List.getD a0.Ops x17 default).In) x26 default)).Port) < (List.getD x18 (Int.toNat (((List.getD ((List.getD a0.Ops x17 default).In) x26 default)).From)) default).ports_.length := fun h => by (have := hRI.edge hg (by omega) (getD_mem _ _ default h); rwa [getD_ports] at this)
        have hE2 : ∀ y ∈ (List.getD x18 (Int.toNat (((List.getD ((List.getD a0.Ops x17 default).In) x26 default)).From)) default).ports_, y.length ≤ 4294967296 := by (have := hRI.sizes hs (Int.toNat (((List.getD ((List.getD a0.Ops x17 default).In) x26 default)).From)); rwa [getD_ports] at this)
        refine go_seq ?_
        refine go_rk eqOk ttOk [] [] ⟨[(1, (sL cSl_SRecord_cells a1)), (8, .own 0 4 0 x18.length), (10, .ptr 1 0), (11, .own 2 1 0 x27.length), (28, (sL SOp.cells a0.Ops)), (29, (iV ((a0.Ops.length : Nat) : Int))), (30, (iV ((x17 : Nat) : Int))), (47, (sL SEdge.cells ((List.getD a0.Ops x17 default).In))), (48, (iV ((((List.getD a0.Ops x17 default).In).length : Nat) : Int))), (49, (iV ((x26 : Nat) : Int))), (50, (bo (decide (((x26 : Nat) : Int) < ((((List.getD a0.Ops x17 default).In).length : Nat) : Int)))))], [(0, .acc 4 (List.map Srun_made.cells x18) 130), (1, .box (SOp.avs (List.getD a0.Ops x17 default)) 55), (2, .acc 1 (List.map cSl_SRecord_cells x27) 23)], 3⟩ (by kernel_rfl) trivial ?_
        refine go_seq ?_
        refine go_cond (by rfl) (fun h28 => ?_) (fun h28 => ?_)
        ·have gh28 := h28
         try simp only [GZ] at gh28
         replace hx3 := iteT h28 hx3
         refine go_skip ?_
         refine go_seq ?_
         refine go_block ?_
         refine go_seq ?_
         have bq43 : x26 < ((List.getD a0.Ops x17 default).In).length := by omega
         refine go_rk eqOk ttOk [(0, .row (SEdge.cells (List.getD ((List.getD a0.Ops x17 default).In) x26 default)))] [IX SEdge.cells ((List.getD a0.Ops x17 default).In) ((x26 : Nat) : Int)] ⟨[(1, (sL cSl_SRecord_cells a1)), (8, .own 0 4 0 x18.length), (10, .ptr 1 0), (11, .own 2 1 0 x27.length), (13, .ptr 3 0), (28, (sL SOp.cells a0.Ops)), (29, (iV ((a0.Ops.length : Nat) : Int))), (30, (iV ((x17 : Nat) : Int))), (47, (sL SEdge.cells ((List.getD a0.Ops x17 default).In))), (48, (iV ((((List.getD a0.Ops x17 default).In).length : Nat) : Int))), (49, (iV ((x26 : Nat) : Int)))], [(0, .acc 4 (List.map Srun_made.cells x18) 130), (1, .box (SOp.avs (List.getD a0.Ops x17 default)) 55), (2, .acc 1 (List.map cSl_SRecord_cells x27) 23), (3, .box (SEdge.avs (List.getD ((List.getD a0.Ops x17 default).In) x26 default)) 78)], 4⟩ (by kernel_rfl) ⟨(ixn bq43), trivial⟩ ?_
         have bq44 : (Int.toNat ((List.getD ((List.getD a0.Ops x17 default).In) x26 default).Port)) < ((List.getD x18 (Int.toNat ((List.getD ((List.getD a0.Ops x17 default).In) x26 default).From)) default).ports_).length := by omega
         have zq44 : (List.getD ((List.getD x18 (Int.toNat ((List.getD ((List.getD a0.Ops x17 default).In) x26 default).From)) default).ports_) (Int.toNat ((List.getD ((List.getD a0.Ops x17 default).In) x26 default).Port)) default).length ≤ 4294967296 := (by assumption : ∀ y ∈ (List.getD x18 (Int.toNat ((List.getD ((List.getD a0.Ops x17 default).In) x26 default).From)) default).ports_, y.length ≤ 4294967296) _ (getD_mem ((List.getD x18 (Int.toNat ((List.getD ((List.getD a0.Ops x17 default).In) x26 default).From)) default).ports_) (Int.toNat ((List.getD ((List.getD a0.Ops x17 default).In) x26 default).Port)) default bq44)
         refine go_dk eqOk ttOk rfl [(4, .at), (6, .row (Srun_made.cells (List.getD x18 (Int.toNat ((List.getD ((List.getD a0.Ops x17 default).In) x26 default).From)) default))), (9, .row (cSl_SRecord_cells (List.getD ((List.getD x18 (Int.toNat ((List.getD ((List.getD a0.Ops x17 default).In) x26 default).From)) default).ports_) (Int.toNat ((List.getD ((List.getD a0.Ops x17 default).In) x26 default).Port)) default))), (12, .app (List.map cSl_SRecord_cells [(List.getD ((List.getD x18 (Int.toNat ((List.getD ((List.getD a0.Ops x17 default).In) x26 default).From)) default).ports_) (Int.toNat ((List.getD ((List.getD a0.Ops x17 default).In) x26 default).Port)) default)]) (List.map cSl_SRecord_cells (x27 ++ [(List.getD ((List.getD x18 (Int.toNat ((List.getD ((List.getD a0.Ops x17 default).In) x26 default).From)) default).ports_) (Int.toNat ((List.getD ((List.getD a0.Ops x17 default).In) x26 default).Port)) default)])) ((x27 ++ [(List.getD ((List.getD x18 (Int.toNat ((List.getD ((List.getD a0.Ops x17 default).In) x26 default).From)) default).ports_) (Int.toNat ((List.getD ((List.getD a0.Ops x17 default).In) x26 default).Port)) default)]).length))] [IxO ((List.getD ((List.getD a0.Ops x17 default).In) x26 default).From) x18.length, RX Srun_made.cells x18 (Int.toNat ((List.getD ((List.getD a0.Ops x17 default).In) x26 default).From)), IX cSl_SRecord_cells ((List.getD x18 (Int.toNat ((List.getD ((List.getD a0.Ops x17 default).In) x26 default).From)) default).ports_) ((List.getD ((List.getD a0.Ops x17 default).In) x26 default).Port), OX cSl_SRecord_cells [(List.getD ((List.getD x18 (Int.toNat ((List.getD ((List.getD a0.Ops x17 default).In) x26 default).From)) default).ports_) (Int.toNat ((List.getD ((List.getD a0.Ops x17 default).In) x26 default).Port)) default)] 0 1 [(List.getD ((List.getD x18 (Int.toNat ((List.getD ((List.getD a0.Ops x17 default).In) x26 default).From)) default).ports_) (Int.toNat ((List.getD ((List.getD a0.Ops x17 default).In) x26 default).Port)) default)], AX 1 24 cSl_SRecord_cells x27 [(List.getD ((List.getD x18 (Int.toNat ((List.getD ((List.getD a0.Ops x17 default).In) x26 default).From)) default).ports_) (Int.toNat ((List.getD ((List.getD a0.Ops x17 default).In) x26 default).Port)) default)]] ⟨[(1, (sL cSl_SRecord_cells a1)), (8, .own 0 4 0 x18.length), (10, .ptr 1 0), (11, .own 2 1 0 ((x27 ++ [(List.getD ((List.getD x18 (Int.toNat ((List.getD ((List.getD a0.Ops x17 default).In) x26 default).From)) default).ports_) (Int.toNat ((List.getD ((List.getD a0.Ops x17 default).In) x26 default).Port)) default)]).length)), (28, (sL SOp.cells a0.Ops)), (29, (iV ((a0.Ops.length : Nat) : Int))), (30, (iV ((x17 : Nat) : Int))), (47, (sL SEdge.cells ((List.getD a0.Ops x17 default).In))), (48, (iV ((((List.getD a0.Ops x17 default).In).length : Nat) : Int))), (49, (iV ((x26 : Nat) : Int)))], [(0, .acc 4 (List.map Srun_made.cells x18) 130), (1, .box (SOp.avs (List.getD a0.Ops x17 default)) 55), (2, .acc 1 (List.map cSl_SRecord_cells (x27 ++ [(List.getD ((List.getD x18 (Int.toNat ((List.getD ((List.getD a0.Ops x17 default).In) x26 default).From)) default).ports_) (Int.toNat ((List.getD ((List.getD a0.Ops x17 default).In) x26 default).Port)) default)])) 23)], 5⟩ (by kernel_rfl) ⟨(ixoI (by omega) (by (try simp only [NM, List.length_set, List.length_replicate]); omega)), (rx (by (try simp only [NM, List.length_set, List.length_replicate]); omega)), (ix (by omega) (by omega)), ox, (ax (fun _ => rfl) (by decide) (by (try simp only [NM, List.length_take, List.length_drop]); omega)), trivial⟩ ?_
         refine go_blk ?_
         refine go_rk eqOk ttOk [(0, .tell (iV ((x26 + 1 : Nat) : Int)))] [WR (((x26 : Nat) : Int) + 1) ((x26 + 1 : Nat) : Int)] ⟨[(1, (sL cSl_SRecord_cells a1)), (8, .own 0 4 0 x18.length), (10, .ptr 1 0), (11, .own 2 1 0 ((x27 ++ [(List.getD ((List.getD x18 (Int.toNat ((List.getD ((List.getD a0.Ops x17 default).In) x26 default).From)) default).ports_) (Int.toNat ((List.getD ((List.getD a0.Ops x17 default).In) x26 default).Port)) default)]).length)), (28, (sL SOp.cells a0.Ops)), (29, (iV ((a0.Ops.length : Nat) : Int))), (30, (iV ((x17 : Nat) : Int))), (47, (sL SEdge.cells ((List.getD a0.Ops x17 default).In))), (48, (iV ((((List.getD a0.Ops x17 default).In).length : Nat) : Int))), (49, (iV ((x26 + 1 : Nat) : Int)))], [(0, .acc 4 (List.map Srun_made.cells x18) 130), (1, .box (SOp.avs (List.getD a0.Ops x17 default)) 55), (2, .acc 1 (List.map cSl_SRecord_cells (x27 ++ [(List.getD ((List.getD x18 (Int.toNat ((List.getD ((List.getD a0.Ops x17 default).In) x26 default).From)) default).ports_) (Int.toNat ((List.getD ((List.getD a0.Ops x17 default).In) x26 default).Port)) default)])) 23)], 5⟩ (by kernel_rfl) ⟨(wr (by omega) (by omega) (by omega)), trivial⟩ ?_
         exact go_fin ⟨(x26 + 1, (x27 ++ [(List.getD ((List.getD x18 (Int.toNat ((List.getD ((List.getD a0.Ops x17 default).In) x26 default).From)) default).ports_) (Int.toNat ((List.getD ((List.getD a0.Ops x17 default).In) x26 default).Port)) default)])), ⟨⟨by (try dsimp only); omega, by simp only [List.length_append, List.length_cons, List.length_nil]; omega⟩, hx3⟩, by first | omega | (dsimp only; omega), (Weak.cn [0, 1, 2] [1, 8, 10, 11, 28, 29, 30, 47, 48, 49] rfl rfl rfl)⟩
        ·have gh28 := h28
         try simp only [GZ] at gh28
         replace hx3 := iteF h28 hx3
         refine go_exit rfl ?_
         exact go_fin ⟨x27, hx3.symm, (Weak.cn [0, 1, 2] [1, 8, 10, 11, 28, 29, 30] rfl rfl rfl)⟩
       ·rintro o23_ hp
        try dsimp only at hp
        subst hp
        have bO : x17 < a0.Ops.length := by omega
        have f23 : o23 = insOf a0 a1 x17 (x18.map (·.ports_)) := by rw [← hx3, ← e21]; exact runAll_ins hg a1 bO x18
        have f1 : 0 < o23.length := f23 ▸ ins_pos hg bO a1 _
        have f2 : tot o23 ≤ 25165824 := by rw [f23]; exact Nat.le_trans (ins_tot hg bO hRI) (by omega)
        have f3 : o23.length ≤ 4 := by rw [f23]; exact ins_len hg bO a1 _
        have f4 : ∀ y ∈ o23, y.length ≤ 4294967296 := fun y hy => by have := insL hy; omega
        have f5 := all_port _ _ (hg.fields _ bO) (SOpState.mk [] 0) (List.getD o23 0 default)
        have f6 : (List.getD a0.Ops x17 default).Kind = 1 ∨ (List.getD a0.Ops x17 default).Kind = 8 → 0 < graph_Ports (List.getD a0.Ops x17 default) := fun h => by rw [ports1 _ h]; decide
        obtain ⟨r29, hr29, hx2⟩ := letIn_ex hx2
        have Cr29 := (run_one_t (List.getD a0.Ops x17 default) o23 (by (try simp only [SZD]); (repeat' apply And.intro) <;> first | assumption | omega | (simp only [List.length_drop, List.length_take]; omega) | simp_all) (by (try simp only [SZD]); (repeat' apply And.intro) <;> first | assumption | omega | (simp only [List.length_drop, List.length_take]; omega) | simp_all) (by (try simp only [SZD]); (repeat' apply And.intro) <;> first | assumption | omega | (simp only [List.length_drop, List.length_take]; omega) | simp_all) (by (try simp only [SZD]); (repeat' apply And.intro) <;> first | assumption | omega | (simp only [List.length_drop, List.length_take]; omega) | simp_all) (by (try simp only [SZD]); (repeat' apply And.intro) <;> first | assumption | omega | (simp only [List.length_drop, List.length_take]; omega) | simp_all) (by (try simp only [SZD]); (repeat' apply And.intro) <;> first | assumption | omega | (simp only [List.length_drop, List.length_take]; omega) | simp_all))
        simp only [hr29] at Cr29
        refine go_regionJ hR ⟨[(1, (sL cSl_SRecord_cells a1)), (8, .own 0 4 0 ((x18 ++ [r29]).length)), (28, (sL SOp.cells a0.Ops)), (29, (iV ((a0.Ops.length : Nat) : Int))), (30, (iV ((x17 : Nat) : Int)))], [(0, .acc 4 (List.map Srun_made.cells (x18 ++ [r29])) 130)], 4⟩ ?_ ?_
        ·skip
         simp only [AVS, EVB, eqF, Op.operands, IntKind.bits, descF, sizeF, bytesF, zeroF, seval, reduceCtorEq, ↓reduceIte]
         refine CallK.close 2 rfl rfl (by (repeat' apply And.intro) <;> first | trivial | rfl | exact Nat.le_of_ble_eq_true rfl | omega | (intro u hu; obtain ⟨x, _, rfl⟩ := List.mem_map.1 hu; rfl) | (intro u hu; simp only [List.mem_cons, List.not_mem_nil, or_false] at hu; subst hu; rfl) | (simp only [NM]; omega) | (simp; done)) ?_
         refine CallK.freshE Cr29.toO rfl (by first | rfl | (simp only [NM]; done) | (simp only [AVS, NM]; done)) (by (repeat' apply And.intro) <;> first | trivial | rfl | omega | (simp only [NM]; omega)) (.inl rfl) (by exact Nat.le_of_ble_eq_true rfl) ?_
         try simp only [AVS, EVB, eqF, Op.operands, IntKind.bits, descF, sizeF, bytesF, zeroF, seval, reduceCtorEq, ↓reduceIte]
         refine ⟨(by (repeat' apply And.intro) <;> first | trivial | rfl | exact Nat.le_of_ble_eq_true rfl | omega | (intro u hu; obtain ⟨x, _, rfl⟩ := List.mem_map.1 hu; rfl) | (intro u hu; simp only [List.mem_cons, List.not_mem_nil, or_false] at hu; subst hu; rfl) | (simp only [NM]; omega) | (simp; done)), ?_⟩
         refine ⟨(by (repeat' apply And.intro) <;> first | trivial | rfl | exact Nat.le_of_ble_eq_true rfl | omega | (intro u hu; obtain ⟨x, _, rfl⟩ := List.mem_map.1 hu; rfl) | (intro u hu; simp only [List.mem_cons, List.not_mem_nil, or_false] at hu; subst hu; rfl) | (simp only [NM]; omega) | (simp; done)), ?_⟩
         try simp only [BM, NM, CELLS]
         exact Weak.sub' ⟨rfl, rfl, rfl, rfl, rfl, trivial⟩ ⟨rfl, trivial⟩ (Nat.le_of_ble_eq_true rfl)
        ·skip
         refine go_blk ?_
         exact go_fin ⟨(x18 ++ [r29]), hx2.symm, (Weak.cn [0] [1, 8, 28, 29, 30] rfl rfl rfl)⟩
     ·rintro o20_ hp
      try dsimp only at hp
      subst hp
      have f20 := (hx2).symm.trans (runAll_body hg a1 (by omega) x18)
      refine go_rk eqOk ttOk [(0, .tell (iV ((x17 + 1 : Nat) : Int)))] [WR (((x17 : Nat) : Int) + 1) ((x17 + 1 : Nat) : Int)] ⟨[(1, (sL cSl_SRecord_cells a1)), (8, .own 0 4 0 o20.length), (28, (sL SOp.cells a0.Ops)), (29, (iV ((a0.Ops.length : Nat) : Int))), (30, (iV ((x17 + 1 : Nat) : Int)))], [(0, .acc 4 (List.map Srun_made.cells o20) 130)], 1⟩ (by kernel_rfl) ⟨(wr (by omega) (by omega) (by omega)), trivial⟩ ?_
      exact go_fin ⟨(x17 + 1, o20), ⟨⟨by (try dsimp only); omega, by dsimp only; rw [f20]; exact runAll_in hg hs (by omega) hRI⟩, hx1⟩, by first | omega | (dsimp only; omega), (Weak.cn [0] [1, 8, 28, 29, 30] rfl rfl rfl)⟩
    ·have gh19 := h19
     try simp only [GZ] at gh19
     replace hx1 := iteF h19 hx1
     refine go_exit rfl ?_
     exact go_fin ⟨x18, hx1.symm, (Weak.cn [0] [8] rfl rfl rfl)⟩
   ·rintro o4_ hp
    try dsimp only at hp
    subst hp
    refine go_seq ?_
    refine go_rk eqOk ttOk [] [] ⟨[(4, .own 0 4 0 o4.length), (5, (iV 0))], [(0, .acc 4 (List.map Srun_made.cells o4) 130)], 1⟩ (by kernel_rfl) trivial ?_
    subst hx0
    exact go_ret1 rfl
theorem runAll_L0_eq {g : SGraph} (hg : GOk g) {a1 : List (List SRecord)} (hs : tot a1 ≤ 1048576) (i : Nat) (xs : List Srun_made) (hi : i ≤ g.Ops.length) (h : RIn g (tot a1) i (xs.map (·.ports_))) :
    pontoonref08_All_L0 g a1 i (xs.map (·.ports_)) (xs.map (·.state_)) = ((run_all_L0 g a1 i xs).map (·.ports_), (run_all_L0 g a1 i xs).map (·.state_)) := by
  rw [pontoonref08_All_L0.eq_def, run_all_L0.eq_def]
  by_cases hlt : i < g.Ops.length
  · have c : (decide (((i : Nat) : Int) < ((g.Ops.length : Nat) : Int))) = true := decide_eq_true (by omega)
    rw [dif_pos c, dif_pos c, refAll_body, runAll_body hg a1 hlt xs]
    have e := runAll_one hg hs hlt h
    have ih := runAll_L0_eq hg hs (i + 1) (xs ++ [run_one (List.getD g.Ops i default) (insOf g a1 i (xs.map (·.ports_)))]) hlt (runAll_in hg hs hlt h)
    simp only [letIn]
    rw [← ih, List.map_append, List.map_append, e]
    rfl
  · have c : ¬ (decide (((i : Nat) : Int) < ((g.Ops.length : Nat) : Int))) = true := by simpa using hlt
    rw [dif_neg c, dif_neg c]
termination_by g.Ops.length - i
theorem refcheck_run (g : SGraph) (l : List (List SRecord)) : run_all g l = bif pontoonref08_check g l != 0 then ([], pontoonref08_check g l) else (run_all_L0 g l 0 [], 0) := by
  unfold pontoonref08_check run_all
  rw [← check_eq]
  simp only [letIn]
  cases c : ((graph_Check g).2 != 0) with
  | true => simp only [cond_true, c]
  | false =>
    simp only [cond_false]
    cases c2 : (((l.length : Nat) : Int) != g.Parts) <;> rfl
theorem run_all_ok {g : SGraph} {l : List (List SRecord)} (hs : tot l ≤ 1048576) (h : (pontoonref08_check g l != 0) = false) :
    (run_all g l).2 = 0 ∧ (run_all g l).1.map (·.ports_) = (pontoonref08_All g l).1 ∧ (run_all g l).1.map (·.state_) = (pontoonref08_All g l).2 := by
  obtain ⟨hg, hp⟩ := refcheck_ok h
  have e := runAll_L0_eq hg hs 0 [] (Nat.zero_le _) RIn.start
  rw [refcheck_run, h, cond_false]
  have e2 : pontoonref08_All g l = pontoonref08_All_L0 g l 0 [] [] := rfl
  rw [e2]
  simp only [List.map_nil] at e
  rw [e]
  exact ⟨rfl, rfl, rfl⟩
theorem run_all_bad {g : SGraph} {l : List (List SRecord)} (h : (pontoonref08_check g l != 0) = true) : run_all g l = ([], pontoonref08_check g l) := by
  rw [refcheck_run, h, cond_true]
theorem run_all_len (g : SGraph) (l : List (List SRecord)) (hs : tot l ≤ 1048576) : (run_all g l).1.length ≤ 24 := by
  cases h : (pontoonref08_check g l != 0) with
  | true => rw [run_all_bad h]; exact Nat.zero_le _
  | false =>
    obtain ⟨hg, hp⟩ := refcheck_ok h
    obtain ⟨h1, h2, h3⟩ := run_all_ok hs h
    have h4 := (refAll_in hg hs).1.len
    rw [← h2, List.length_map] at h4
    rw [h4]
    exact hg.len
theorem run_all_ports (g : SGraph) (l : List (List SRecord)) (hs : tot l ≤ 1048576) (k : Nat) : (List.getD (run_all g l).1 k default).ports_.length ≤ 4 ∧ ∀ p, (List.getD ((List.getD (run_all g l).1 k default).ports_) p default).length ≤ 4294967296 := by
  cases h : (pontoonref08_check g l != 0) with
  | true =>
    rw [run_all_bad h]
    exact ⟨Nat.zero_le _, fun p => Nat.zero_le _⟩
  | false =>
    obtain ⟨hg, hp⟩ := refcheck_ok h
    obtain ⟨h1, h2, h3⟩ := run_all_ok hs h
    have h4 := (refAll_in hg hs).1
    rw [← h2] at h4
    by_cases hk : k < g.Ops.length
    · have h5 := h4.each k hk
      have h6 := h4.small k hk
      rw [getD_ports] at h5 h6
      have h7 := graph_Ports_le (g.Ops.getD k default)
      refine ⟨by omega, fun p => ?_⟩
      have := tot_getD (List.getD (run_all g l).1 k default).ports_ p
      omega
    · have hl := h4.len
      rw [List.length_map] at hl
      rw [List.getD_eq_getElem?_getD, List.getElem?_eq_none (by omega)]
      exact ⟨Nat.zero_le _, fun p => Nat.zero_le _⟩
theorem run_all_chk {g : SGraph} {l : List (List SRecord)} (h : ((run_all g l).2 != 0) = false) : (pontoonref08_check g l != 0) = false := by
  cases c : (pontoonref08_check g l != 0) with
  | false => rfl
  | true => rw [run_all_bad c, c] at h; cases h
theorem run_sink_ok {g : SGraph} {l : List (List SRecord)} (hs : tot l ≤ 1048576) (h : ((run_all g l).2 != 0) = false) :
    (0 ≤ (graph_Sink g).1 ∧ Int.toNat (graph_Sink g).1 < g.Ops.length ∧ 0 < ((g.Ops.getD (Int.toNat (graph_Sink g).1) default).In).length ∧ 0 ≤ (((g.Ops.getD (Int.toNat (graph_Sink g).1) default).In).getD 0 default).From ∧
      Int.toNat (((g.Ops.getD (Int.toNat (graph_Sink g).1) default).In).getD 0 default).From < (run_all g l).1.length ∧ 0 ≤ (((g.Ops.getD (Int.toNat (graph_Sink g).1) default).In).getD 0 default).Port ∧
      Int.toNat (((g.Ops.getD (Int.toNat (graph_Sink g).1) default).In).getD 0 default).Port < ((List.getD (run_all g l).1 (Int.toNat (((g.Ops.getD (Int.toNat (graph_Sink g).1) default).In).getD 0 default).From) default).ports_).length) := by
  have c := run_all_chk h
  obtain ⟨hg, hp⟩ := refcheck_ok c
  obtain ⟨h1, h2, h3⟩ := run_all_ok hs c
  have h4 := (refAll_in hg hs).1
  rw [← h2] at h4
  have h5 := h4.sink hg hs
  obtain ⟨k, e1, e2, _⟩ := sink_ok hg
  rw [e1, ← e2, getD_ports, List.length_map] at h5
  exact h5
set_option maxRecDepth 10000 in
theorem slices_Values_Record_t (l : List SRecord) : FnO Try.prog 57 [(sL SRecord.cells l)] [.box [(sL SRecord.cells l)] 23] (.clo 79 [.ptr 0 0]) := by
  refine FnO.intro (tt := tt) Try.func57 rfl (by kernel_rfl) (by simp [Try.ntmps57]) fun w0 A hA => ?_
  have hR := reckB_ok eqOk ttOk
  simp only [argT, Try.ntmps57, sL]
  (repeat (first | refine go_seq ?_ | refine go_skip ?_ | refine go_blk ?_ | refine go_block ?_ | refine go_scope (fun _ _ _ h => h) ?_ | refine go_label ?_ | (refine go_region hR ?_; simp only [EV1, EV2, EV3, EV4, EV5, EV6, EV7, EV8, EV9, EV10, EV11, EV12, eqF, Op.operands, IntKind.bits, descF, sizeF, bytesF, zeroF, Nat.reduceLT, Nat.reduceLeDiff, Nat.reduceAdd, Nat.reduceSub, Nat.reduceMul, Nat.reduceBEq, Nat.reduceEqDiff, reduceCtorEq, ↓reduceIte, Int.reduceToNat, Nat.reducePow, Int.reducePow, Int.reduceLE, Int.reduceLT, Int.reduceAdd, Int.reduceSub, Int.reduceMul, Int.reduceNeg, Int.reduceBEq, Int.reduceBNe, Int.reduceEq]) | (refine go_draw hR rfl ?_; simp only [EV1, EV2, EV3, EV4, EV5, EV6, EV7, EV8, EV9, EV10, EV11, EV12, eqF, Op.operands, IntKind.bits, descF, sizeF, bytesF, zeroF, Nat.reduceLT, Nat.reduceLeDiff, Nat.reduceAdd, Nat.reduceSub, Nat.reduceMul, Nat.reduceBEq, Nat.reduceEqDiff, reduceCtorEq, ↓reduceIte, Int.reduceToNat, Nat.reducePow, Int.reducePow, Int.reduceLE, Int.reduceLT, Int.reduceAdd, Int.reduceSub, Int.reduceMul, Int.reduceNeg, Int.reduceBEq, Int.reduceBNe, Int.reduceEq]) | refine ⟨by kernel_rfl, ?_⟩ | refine ⟨by decide, ?_⟩))
  refine go_returnO [0] (by decide) ttOk rfl ?_ rfl rfl
  exact (by (repeat' apply And.intro) <;> first | trivial | rfl | exact Nat.le_of_ble_eq_true rfl)
def run_Run (a0 : SGraph) (a1 : (List (List SRecord))) : (List SRecord) × Int :=
  letIn (run_all a0 a1) fun r1 => (bif (r1.2 != 0) then ([], r1.2) else letIn (graph_Sink a0) fun r3 => ((List.getD ((List.getD r1.1 (Int.toNat ((List.getD ((List.getD a0.Ops (Int.toNat r3.1) default).In) 0 default).From)) default).ports_) (Int.toNat ((List.getD ((List.getD a0.Ops (Int.toNat r3.1) default).In) 0 default).Port)) default), 0))
set_option maxRecDepth 10000 in
set_option maxHeartbeats 8000000 in
theorem run_Run_t (a0 : SGraph) (a1 : (List (List SRecord))) (hs : tot a1 ≤ 1048576) (z0 : SGraph.Sz a0) (z1 : (a1.length ≤ 4294967296 ∧ ∀ y ∈ a1, y.length ≤ 4294967296)) : FnP Try.prog 19 [.agg (SGraph.avs a0), (sL cSl_SRecord_cells a1)] (.tup [(sL SRecord.cells ((run_Run a0 a1).1)), (iV ((run_Run a0 a1).2))]) := by
 refine FnP.intro (tt := tt) Try.func19 rfl (by kernel_rfl) (by simp [Try.ntmps19]) fun w0 A hA => ?_
 have hR := reckB_ok eqOk ttOk
 obtain ⟨res, hx0⟩ : ∃ r, run_Run a0 a1 = r := ⟨_, rfl⟩
 simp only [hx0]
 unfold run_Run at hx0
 simp only [argT, Try.ntmps19]
 try simp only [SZD] at z0 z1
 obtain ⟨zz4, zz5⟩ := z0
 obtain ⟨zz6, zz7⟩ := z1
 refine go_seq ?_
 refine go_rk eqOk ttOk [] [] ⟨[(1, (sL cSl_SRecord_cells a1)), (2, .ptr 0 0)], [(0, .box (SGraph.avs a0) 41)], 1⟩ (by kernel_rfl) trivial ?_
 refine go_seq ?_
 obtain ⟨r1, hr1, hx0⟩ := letIn_ex hx0
 have Cr1 := (run_all_t a0 a1 (by (try simp only [SZD]); (repeat' apply And.intro) <;> first | assumption | omega | (simp only [List.length_drop, List.length_take]; omega) | simp_all) (by (try simp only [SZD]); (repeat' apply And.intro) <;> first | assumption | omega | (simp only [List.length_drop, List.length_take]; omega) | simp_all) (by (try simp only [SZD]); (repeat' apply And.intro) <;> first | assumption | omega | (simp only [List.length_drop, List.length_take]; omega) | simp_all))
 simp only [hr1] at Cr1
 have fr1 := run_all_len a0 a1 hs
 try simp only [hr1, List.length_cons, List.length_nil] at fr1
 refine go_rk eqOk ttOk [(2, .fn Cr1.toO)] [AQ Cr1.toO] ⟨[(2, .ptr 0 0), (6, (sL Srun_made.cells r1.1)), (7, (iV r1.2))], [(0, .box (SGraph.avs a0) 41)], 1⟩ (by kernel_rfl) ⟨⟨rfl, rfl⟩, trivial⟩ ?_
 refine go_seq ?_
 refine go_seq ?_
 refine go_rk eqOk ttOk [] [] ⟨[(2, .ptr 0 0), (6, (sL Srun_made.cells r1.1)), (7, (iV r1.2)), (20, (bo (r1.2 != 0)))], [(0, .box (SGraph.avs a0) 41)], 1⟩ (by kernel_rfl) trivial ?_
 refine go_cond (by rfl) (fun h2 => ?_) (fun h2 => ?_)
 ·have gh2 := h2
  try simp only [GZ] at gh2
  replace hx0 := condT h2 hx0
  refine go_seq ?_
  refine go_rk eqOk ttOk [] [] ⟨[(4, nS), (5, (iV r1.2))], [], 1⟩ (by kernel_rfl) trivial ?_
  subst hx0
  exact go_ret1 rfl
 ·have gh2 := h2
  try simp only [GZ] at gh2
  replace hx0 := condF h2 hx0
  refine go_skip ?_
  refine go_seq ?_
  obtain ⟨r3, hr3, hx0⟩ := letIn_ex hx0
  have Cr3 := (graph_Sink_t a0)
  simp only [hr3] at Cr3
  have fr3 := (hr1 ▸ run_sink_ok hs (by rw [hr1]; assumption))
  try simp only [hr3, List.length_cons, List.length_nil] at fr3
  refine go_rk eqOk ttOk [(1, .fn Cr3.toO)] [AQ Cr3.toO] ⟨[(2, .ptr 0 0), (6, (sL Srun_made.cells r1.1)), (8, (iV r3.1))], [(0, .box (SGraph.avs a0) 41)], 1⟩ (by kernel_rfl) ⟨⟨rfl, rfl⟩, trivial⟩ ?_
  refine go_seq ?_
  have bq8 : (Int.toNat r3.1) < a0.Ops.length := by omega
  have bq9 : 0 < ((List.getD a0.Ops (Int.toNat r3.1) default).In).length := by omega
  refine go_rk eqOk ttOk [(3, .row (SOp.cells (List.getD a0.Ops (Int.toNat r3.1) default))), (6, .row (SEdge.cells (List.getD ((List.getD a0.Ops (Int.toNat r3.1) default).In) 0 default)))] [IX SOp.cells a0.Ops r3.1, IX SEdge.cells ((List.getD a0.Ops (Int.toNat r3.1) default).In) 0] ⟨[(6, (sL Srun_made.cells r1.1)), (10, .ptr 1 0)], [(1, .box (SEdge.avs (List.getD ((List.getD a0.Ops (Int.toNat r3.1) default).In) 0 default)) 78)], 2⟩ (by kernel_rfl) ⟨(ix (by omega) (by omega)), (ixn bq9), trivial⟩ ?_
  refine go_seq ?_
  refine go_rk eqOk ttOk [] [] ⟨[(6, (sL Srun_made.cells r1.1)), (10, .ptr 1 0), (11, .ptr 2 0)], [(1, .box (SEdge.avs (List.getD ((List.getD a0.Ops (Int.toNat r3.1) default).In) 0 default)) 78), (2, .box [nS] 23)], 3⟩ (by kernel_rfl) trivial ?_
  refine go_seq ?_
  refine go_seq ?_
  have bq10 : (Int.toNat ((List.getD ((List.getD a0.Ops (Int.toNat r3.1) default).In) 0 default).From)) < r1.1.length := by omega
  have bq11 : (Int.toNat ((List.getD ((List.getD a0.Ops (Int.toNat r3.1) default).In) 0 default).Port)) < ((List.getD r1.1 (Int.toNat ((List.getD ((List.getD a0.Ops (Int.toNat r3.1) default).In) 0 default).From)) default).ports_).length := by omega
  refine go_dk eqOk ttOk rfl [(3, .row (Srun_made.cells (List.getD r1.1 (Int.toNat ((List.getD ((List.getD a0.Ops (Int.toNat r3.1) default).In) 0 default).From)) default))), (8, .row (cSl_SRecord_cells (List.getD ((List.getD r1.1 (Int.toNat ((List.getD ((List.getD a0.Ops (Int.toNat r3.1) default).In) 0 default).From)) default).ports_) (Int.toNat ((List.getD ((List.getD a0.Ops (Int.toNat r3.1) default).In) 0 default).Port)) default))), (10, .fn (slices_Values_Record_t (List.getD ((List.getD r1.1 (Int.toNat ((List.getD ((List.getD a0.Ops (Int.toNat r3.1) default).In) 0 default).From)) default).ports_) (Int.toNat ((List.getD ((List.getD a0.Ops (Int.toNat r3.1) default).In) 0 default).Port)) default)))] [IX Srun_made.cells r1.1 ((List.getD ((List.getD a0.Ops (Int.toNat r3.1) default).In) 0 default).From), IX cSl_SRecord_cells ((List.getD r1.1 (Int.toNat ((List.getD ((List.getD a0.Ops (Int.toNat r3.1) default).In) 0 default).From)) default).ports_) ((List.getD ((List.getD a0.Ops (Int.toNat r3.1) default).In) 0 default).Port), AQ (slices_Values_Record_t (List.getD ((List.getD r1.1 (Int.toNat ((List.getD ((List.getD a0.Ops (Int.toNat r3.1) default).In) 0 default).From)) default).ports_) (Int.toNat ((List.getD ((List.getD a0.Ops (Int.toNat r3.1) default).In) 0 default).Port)) default))] ⟨[(11, .ptr 2 0), (45, .clo 79 [.ptr 3 0])], [(2, .box [nS] 23), (3, .box [(sL SRecord.cells (List.getD ((List.getD r1.1 (Int.toNat ((List.getD ((List.getD a0.Ops (Int.toNat r3.1) default).In) 0 default).From)) default).ports_) (Int.toNat ((List.getD ((List.getD a0.Ops (Int.toNat r3.1) default).In) 0 default).Port)) default))] 23)], 4⟩ (by kernel_rfl) ⟨(ix (by omega) (by omega)), (ix (by omega) (by omega)), ⟨rfl, rfl⟩, trivial⟩ ?_
  refine go_block ?_
  refine go_nilCell 2 0 2 34 rfl rfl ?_
  refine go_weak (s' := ⟨[(11, .ptr 0 0), (45, .clo 79 [.ptr 2 0])], [(0, .box [.own 1 2 0 0] 23), (1, .acc 2 (List.map SRecord.cells []) 34), (2, .box [(sL SRecord.cells (List.getD ((List.getD r1.1 (Int.toNat ((List.getD ((List.getD a0.Ops (Int.toNat r3.1) default).In) 0 default).From)) default).ports_) (Int.toNat ((List.getD ((List.getD a0.Ops (Int.toNat r3.1) default).In) 0 default).Port)) default))] 23)], 3⟩) (Weak.cn [2, 4, 3] [11, 45] rfl rfl rfl) ?_
  have hRL : (List.getD ((List.getD r1.1 (Int.toNat ((List.getD ((List.getD a0.Ops (Int.toNat r3.1) default).In) 0 default).From)) default).ports_) (Int.toNat ((List.getD ((List.getD a0.Ops (Int.toNat r3.1) default).In) 0 default).Port)) default).length ≤ 4294967296 := by (have := run_all_ports a0 a1 hs; rw [hr1] at this; exact (this _).2 _)
  refine go_range rfl (by rfl) [11] Try.func79 rfl (by kernel_rfl) (by simp [Try.ntmps79]) (fun pend s' => pend = none ∧ Weak (cx0 Try.prog tt 52 w0 A hA) s' ⟨[(11, .ptr 0 0)], [(0, .box [.own 1 2 0 ((List.getD ((List.getD r1.1 (Int.toNat ((List.getD ((List.getD a0.Ops (Int.toNat r3.1) default).In) 0 default).From)) default).ports_) (Int.toNat ((List.getD ((List.getD a0.Ops (Int.toNat r3.1) default).In) 0 default).Port)) default).length)] 23), (1, .acc 2 (List.map SRecord.cells (List.getD ((List.getD r1.1 (Int.toNat ((List.getD ((List.getD a0.Ops (Int.toNat r3.1) default).In) 0 default).From)) default).ports_) (Int.toNat ((List.getD ((List.getD a0.Ops (Int.toNat r3.1) default).In) 0 default).Port)) default)) 34)], 5⟩) (fun a l1 D self asg bod hasg hbod ha => ?_) ?_
  ·(repeat (first | refine go_seq ?_ | refine go_skip ?_ | refine go_blk ?_ | refine go_block ?_ | refine go_scope (fun _ _ _ h => h) ?_ | refine go_label ?_))
   refine go_rk eqOk ttOk [(1, .tell (iV (((List.getD ((List.getD r1.1 (Int.toNat ((List.getD ((List.getD a0.Ops (Int.toNat r3.1) default).In) 0 default).From)) default).ports_) (Int.toNat ((List.getD ((List.getD a0.Ops (Int.toNat r3.1) default).In) 0 default).Port)) default).length : Nat) : Int)))] [LN SRecord.cells (List.getD ((List.getD r1.1 (Int.toNat ((List.getD ((List.getD a0.Ops (Int.toNat r3.1) default).In) 0 default).From)) default).ports_) (Int.toNat ((List.getD ((List.getD a0.Ops (Int.toNat r3.1) default).In) 0 default).Port)) default)] ⟨[(0, yieldV l1), (5, (sL SRecord.cells (List.getD ((List.getD r1.1 (Int.toNat ((List.getD ((List.getD a0.Ops (Int.toNat r3.1) default).In) 0 default).From)) default).ports_) (Int.toNat ((List.getD ((List.getD a0.Ops (Int.toNat r3.1) default).In) 0 default).Port)) default))), (6, (iV (((List.getD ((List.getD r1.1 (Int.toNat ((List.getD ((List.getD a0.Ops (Int.toNat r3.1) default).In) 0 default).From)) default).ports_) (Int.toNat ((List.getD ((List.getD a0.Ops (Int.toNat r3.1) default).In) 0 default).Port)) default).length : Nat) : Int))), (7, (iV ((0 : Nat) : Int)))], [(4, .fr (arrT a [11]) [.ptr 0 0]), (3, .lp l1 (recOf self a.tmps #[46] asg bod D .ready none)), (0, .box [.own 1 2 0 ((List.take 0 (List.getD ((List.getD r1.1 (Int.toNat ((List.getD ((List.getD a0.Ops (Int.toNat r3.1) default).In) 0 default).From)) default).ports_) (Int.toNat ((List.getD ((List.getD a0.Ops (Int.toNat r3.1) default).In) 0 default).Port)) default)).length)] 23), (1, .acc 2 (List.map SRecord.cells (List.take 0 (List.getD ((List.getD r1.1 (Int.toNat ((List.getD ((List.getD a0.Ops (Int.toNat r3.1) default).In) 0 default).From)) default).ports_) (Int.toNat ((List.getD ((List.getD a0.Ops (Int.toNat r3.1) default).In) 0 default).Port)) default))) 34), (2, .box [(sL SRecord.cells (List.getD ((List.getD r1.1 (Int.toNat ((List.getD ((List.getD a0.Ops (Int.toNat r3.1) default).In) 0 default).From)) default).ports_) (Int.toNat ((List.getD ((List.getD a0.Ops (Int.toNat r3.1) default).In) 0 default).Port)) default))] 23)], 5⟩ (by kernel_rfl) ⟨ln, trivial⟩ ?_
   (repeat (first | refine go_seq ?_ | refine go_skip ?_ | refine go_blk ?_ | refine go_block ?_ | refine go_scope (fun _ _ _ h => h) ?_ | refine go_label ?_))
   refine go_loop (fun p : Nat => ⟨[(0, yieldV l1), (5, (sL SRecord.cells (List.getD ((List.getD r1.1 (Int.toNat ((List.getD ((List.getD a0.Ops (Int.toNat r3.1) default).In) 0 default).From)) default).ports_) (Int.toNat ((List.getD ((List.getD a0.Ops (Int.toNat r3.1) default).In) 0 default).Port)) default))), (6, (iV (((List.getD ((List.getD r1.1 (Int.toNat ((List.getD ((List.getD a0.Ops (Int.toNat r3.1) default).In) 0 default).From)) default).ports_) (Int.toNat ((List.getD ((List.getD a0.Ops (Int.toNat r3.1) default).In) 0 default).Port)) default).length : Nat) : Int))), (7, (iV ((p : Nat) : Int)))], [(4, .fr (arrT a [11]) [.ptr 0 0]), (3, .lp l1 (recOf self a.tmps #[46] asg bod D .ready none)), (0, .box [.own 1 2 0 ((List.take p (List.getD ((List.getD r1.1 (Int.toNat ((List.getD ((List.getD a0.Ops (Int.toNat r3.1) default).In) 0 default).From)) default).ports_) (Int.toNat ((List.getD ((List.getD a0.Ops (Int.toNat r3.1) default).In) 0 default).Port)) default)).length)] 23), (1, .acc 2 (List.map SRecord.cells (List.take p (List.getD ((List.getD r1.1 (Int.toNat ((List.getD ((List.getD a0.Ops (Int.toNat r3.1) default).In) 0 default).From)) default).ports_) (Int.toNat ((List.getD ((List.getD a0.Ops (Int.toNat r3.1) default).In) 0 default).Port)) default))) 34), (2, .box [(sL SRecord.cells (List.getD ((List.getD r1.1 (Int.toNat ((List.getD ((List.getD a0.Ops (Int.toNat r3.1) default).In) 0 default).From)) default).ports_) (Int.toNat ((List.getD ((List.getD a0.Ops (Int.toNat r3.1) default).In) 0 default).Port)) default))] 23)], 5⟩) (fun p : Nat => p ≤ (List.getD ((List.getD r1.1 (Int.toNat ((List.getD ((List.getD a0.Ops (Int.toNat r3.1) default).In) 0 default).From)) default).ports_) (Int.toNat ((List.getD ((List.getD a0.Ops (Int.toNat r3.1) default).In) 0 default).Port)) default).length) (fun p : Nat => (List.getD ((List.getD r1.1 (Int.toNat ((List.getD ((List.getD a0.Ops (Int.toNat r3.1) default).In) 0 default).From)) default).ports_) (Int.toNat ((List.getD ((List.getD a0.Ops (Int.toNat r3.1) default).In) 0 default).Port)) default).length - p) 0 (Nat.zero_le _) (Weak.refl _ _) ?_
   rintro p hp
   (repeat (first | refine go_seq ?_ | refine go_skip ?_ | refine go_blk ?_ | refine go_block ?_ | refine go_scope (fun _ _ _ h => h) ?_ | refine go_label ?_))
   refine go_rk eqOk ttOk [] [] ⟨[(0, yieldV l1), (5, (sL SRecord.cells (List.getD ((List.getD r1.1 (Int.toNat ((List.getD ((List.getD a0.Ops (Int.toNat r3.1) default).In) 0 default).From)) default).ports_) (Int.toNat ((List.getD ((List.getD a0.Ops (Int.toNat r3.1) default).In) 0 default).Port)) default))), (6, (iV (((List.getD ((List.getD r1.1 (Int.toNat ((List.getD ((List.getD a0.Ops (Int.toNat r3.1) default).In) 0 default).From)) default).ports_) (Int.toNat ((List.getD ((List.getD a0.Ops (Int.toNat r3.1) default).In) 0 default).Port)) default).length : Nat) : Int))), (7, (iV ((p : Nat) : Int))), (8, (bo (decide (((p : Nat) : Int) < (((List.getD ((List.getD r1.1 (Int.toNat ((List.getD ((List.getD a0.Ops (Int.toNat r3.1) default).In) 0 default).From)) default).ports_) (Int.toNat ((List.getD ((List.getD a0.Ops (Int.toNat r3.1) default).In) 0 default).Port)) default).length : Nat) : Int)))))], [(4, .fr (arrT a [11]) [.ptr 0 0]), (3, .lp l1 (recOf self a.tmps #[46] asg bod D .ready none)), (0, .box [.own 1 2 0 ((List.take p (List.getD ((List.getD r1.1 (Int.toNat ((List.getD ((List.getD a0.Ops (Int.toNat r3.1) default).In) 0 default).From)) default).ports_) (Int.toNat ((List.getD ((List.getD a0.Ops (Int.toNat r3.1) default).In) 0 default).Port)) default)).length)] 23), (1, .acc 2 (List.map SRecord.cells (List.take p (List.getD ((List.getD r1.1 (Int.toNat ((List.getD ((List.getD a0.Ops (Int.toNat r3.1) default).In) 0 default).From)) default).ports_) (Int.toNat ((List.getD ((List.getD a0.Ops (Int.toNat r3.1) default).In) 0 default).Port)) default))) 34), (2, .box [(sL SRecord.cells (List.getD ((List.getD r1.1 (Int.toNat ((List.getD ((List.getD a0.Ops (Int.toNat r3.1) default).In) 0 default).From)) default).ports_) (Int.toNat ((List.getD ((List.getD a0.Ops (Int.toNat r3.1) default).In) 0 default).Port)) default))] 23)], 5⟩ (by kernel_rfl) trivial ?_
   (repeat (first | refine go_seq ?_ | refine go_skip ?_ | refine go_blk ?_ | refine go_block ?_ | refine go_scope (fun _ _ _ h => h) ?_ | refine go_label ?_))
   refine go_cond (by rfl) (fun h => ?_) (fun h => ?_)
   ·have hlt : p < (List.getD ((List.getD r1.1 (Int.toNat ((List.getD ((List.getD a0.Ops (Int.toNat r3.1) default).In) 0 default).From)) default).ports_) (Int.toNat ((List.getD ((List.getD a0.Ops (Int.toNat r3.1) default).In) 0 default).Port)) default).length := by (have := of_decide_eq_true h; omega)
    (repeat (first | refine go_seq ?_ | refine go_skip ?_ | refine go_blk ?_ | refine go_block ?_ | refine go_scope (fun _ _ _ h => h) ?_ | refine go_label ?_))
    refine go_rk eqOk ttOk [(0, .row (SRecord.cells (List.getD (List.getD ((List.getD r1.1 (Int.toNat ((List.getD ((List.getD a0.Ops (Int.toNat r3.1) default).In) 0 default).From)) default).ports_) (Int.toNat ((List.getD ((List.getD a0.Ops (Int.toNat r3.1) default).In) 0 default).Port)) default) p default)))] [IX SRecord.cells (List.getD ((List.getD r1.1 (Int.toNat ((List.getD ((List.getD a0.Ops (Int.toNat r3.1) default).In) 0 default).From)) default).ports_) (Int.toNat ((List.getD ((List.getD a0.Ops (Int.toNat r3.1) default).In) 0 default).Port)) default) ((p : Nat) : Int)] ⟨[(0, yieldV l1), (4, .ptr 5 0), (5, (sL SRecord.cells (List.getD ((List.getD r1.1 (Int.toNat ((List.getD ((List.getD a0.Ops (Int.toNat r3.1) default).In) 0 default).From)) default).ports_) (Int.toNat ((List.getD ((List.getD a0.Ops (Int.toNat r3.1) default).In) 0 default).Port)) default))), (6, (iV (((List.getD ((List.getD r1.1 (Int.toNat ((List.getD ((List.getD a0.Ops (Int.toNat r3.1) default).In) 0 default).From)) default).ports_) (Int.toNat ((List.getD ((List.getD a0.Ops (Int.toNat r3.1) default).In) 0 default).Port)) default).length : Nat) : Int))), (7, (iV ((p : Nat) : Int)))], [(5, .box (SRecord.avs (List.getD (List.getD ((List.getD r1.1 (Int.toNat ((List.getD ((List.getD a0.Ops (Int.toNat r3.1) default).In) 0 default).From)) default).ports_) (Int.toNat ((List.getD ((List.getD a0.Ops (Int.toNat r3.1) default).In) 0 default).Port)) default) p default)) 34), (4, .fr (arrT a [11]) [.ptr 0 0]), (3, .lp l1 (recOf self a.tmps #[46] asg bod D .ready none)), (0, .box [.own 1 2 0 ((List.take p (List.getD ((List.getD r1.1 (Int.toNat ((List.getD ((List.getD a0.Ops (Int.toNat r3.1) default).In) 0 default).From)) default).ports_) (Int.toNat ((List.getD ((List.getD a0.Ops (Int.toNat r3.1) default).In) 0 default).Port)) default)).length)] 23), (1, .acc 2 (List.map SRecord.cells (List.take p (List.getD ((List.getD r1.1 (Int.toNat ((List.getD ((List.getD a0.Ops (Int.toNat r3.1) default).In) 0 default).From)) default).ports_) (Int.toNat ((List.getD ((List.getD a0.Ops (Int.toNat r3.1) default).In) 0 default).Port)) default))) 34), (2, .box [(sL SRecord.cells (List.getD ((List.getD r1.1 (Int.toNat ((List.getD ((List.getD a0.Ops (Int.toNat r3.1) default).In) 0 default).From)) default).ports_) (Int.toNat ((List.getD ((List.getD a0.Ops (Int.toNat r3.1) default).In) 0 default).Port)) default))] 23)], 6⟩ (by kernel_rfl) ⟨ixn hlt, trivial⟩ ?_
    (repeat (first | refine go_seq ?_ | refine go_skip ?_ | refine go_blk ?_ | refine go_block ?_ | refine go_scope (fun _ _ _ h => h) ?_ | refine go_label ?_))
    refine go_region hR ?_
    simp only [AVS, EVB, eqF, Op.operands, IntKind.bits, descF, sizeF, bytesF, zeroF, seval, reduceCtorEq, ↓reduceIte]
    (repeat (first | refine ⟨by kernel_rfl, ?_⟩ | refine ⟨by decide, ?_⟩ | refine ⟨trivial, ?_⟩))
    refine spec_yield 3 4 [5, 6, 7, 0] [11] hasg hbod ha rfl rfl rfl rfl rfl (by simp [cx0_n]) fun a3 ha3 => ?_
    (repeat (first | refine go_seq ?_ | refine go_skip ?_ | refine go_blk ?_ | refine go_block ?_ | refine go_scope (fun _ _ _ h => h) ?_ | refine go_label ?_))
    refine go_rk eqOk ttOk [] [] ⟨[(12, .ptr 7 0), (11, .ptr 0 0)], [(7, .box (SRecord.avs (List.getD (List.getD ((List.getD r1.1 (Int.toNat ((List.getD ((List.getD a0.Ops (Int.toNat r3.1) default).In) 0 default).From)) default).ports_) (Int.toNat ((List.getD ((List.getD a0.Ops (Int.toNat r3.1) default).In) 0 default).Port)) default) p default)) 34), (6, .fr (arrT a3 [5, 6, 7, 0]) [(sL SRecord.cells (List.getD ((List.getD r1.1 (Int.toNat ((List.getD ((List.getD a0.Ops (Int.toNat r3.1) default).In) 0 default).From)) default).ports_) (Int.toNat ((List.getD ((List.getD a0.Ops (Int.toNat r3.1) default).In) 0 default).Port)) default)), (iV (((List.getD ((List.getD r1.1 (Int.toNat ((List.getD ((List.getD a0.Ops (Int.toNat r3.1) default).In) 0 default).From)) default).ports_) (Int.toNat ((List.getD ((List.getD a0.Ops (Int.toNat r3.1) default).In) 0 default).Port)) default).length : Nat) : Int)), (iV ((p : Nat) : Int)), yieldV l1]), (4, .fr (arrT a [11]) [.ptr 0 0]), (3, .lp l1 (recOf self a.tmps #[46] asg bod D .ready none)), (0, .box [.own 1 2 0 ((List.take p (List.getD ((List.getD r1.1 (Int.toNat ((List.getD ((List.getD a0.Ops (Int.toNat r3.1) default).In) 0 default).From)) default).ports_) (Int.toNat ((List.getD ((List.getD a0.Ops (Int.toNat r3.1) default).In) 0 default).Port)) default)).length)] 23), (1, .acc 2 (List.map SRecord.cells (List.take p (List.getD ((List.getD r1.1 (Int.toNat ((List.getD ((List.getD a0.Ops (Int.toNat r3.1) default).In) 0 default).From)) default).ports_) (Int.toNat ((List.getD ((List.getD a0.Ops (Int.toNat r3.1) default).In) 0 default).Port)) default))) 34), (2, .box [(sL SRecord.cells (List.getD ((List.getD r1.1 (Int.toNat ((List.getD ((List.getD a0.Ops (Int.toNat r3.1) default).In) 0 default).From)) default).ports_) (Int.toNat ((List.getD ((List.getD a0.Ops (Int.toNat r3.1) default).In) 0 default).Port)) default))] 23)], 8⟩ (by kernel_rfl) trivial ?_
    refine go_fin ?_
    refine ⟨_, rfl, rfl, ?_⟩
    (repeat (first | refine go_seq ?_ | refine go_skip ?_ | refine go_blk ?_ | refine go_block ?_ | refine go_scope (fun _ _ _ h => h) ?_ | refine go_label ?_))
    have eT : (List.take p (List.getD ((List.getD r1.1 (Int.toNat ((List.getD ((List.getD a0.Ops (Int.toNat r3.1) default).In) 0 default).From)) default).ports_) (Int.toNat ((List.getD ((List.getD a0.Ops (Int.toNat r3.1) default).In) 0 default).Port)) default)) ++ [(List.getD (List.getD ((List.getD r1.1 (Int.toNat ((List.getD ((List.getD a0.Ops (Int.toNat r3.1) default).In) 0 default).From)) default).ports_) (Int.toNat ((List.getD ((List.getD a0.Ops (Int.toNat r3.1) default).In) 0 default).Port)) default) p default)] = (List.take (p + 1) (List.getD ((List.getD r1.1 (Int.toNat ((List.getD ((List.getD a0.Ops (Int.toNat r3.1) default).In) 0 default).From)) default).ports_) (Int.toNat ((List.getD ((List.getD a0.Ops (Int.toNat r3.1) default).In) 0 default).Port)) default)) := take_snoc _ _ hlt
    have hA : AppC 2 16 (List.map SRecord.cells (List.take p (List.getD ((List.getD r1.1 (Int.toNat ((List.getD ((List.getD a0.Ops (Int.toNat r3.1) default).In) 0 default).From)) default).ports_) (Int.toNat ((List.getD ((List.getD a0.Ops (Int.toNat r3.1) default).In) 0 default).Port)) default))) (List.map SRecord.cells [(List.getD (List.getD ((List.getD r1.1 (Int.toNat ((List.getD ((List.getD a0.Ops (Int.toNat r3.1) default).In) 0 default).From)) default).ports_) (Int.toNat ((List.getD ((List.getD a0.Ops (Int.toNat r3.1) default).In) 0 default).Port)) default) p default)]) (List.map SRecord.cells (List.take (p + 1) (List.getD ((List.getD r1.1 (Int.toNat ((List.getD ((List.getD a0.Ops (Int.toNat r3.1) default).In) 0 default).From)) default).ports_) (Int.toNat ((List.getD ((List.getD a0.Ops (Int.toNat r3.1) default).In) 0 default).Port)) default))) (List.take p (List.getD ((List.getD r1.1 (Int.toNat ((List.getD ((List.getD a0.Ops (Int.toNat r3.1) default).In) 0 default).From)) default).ports_) (Int.toNat ((List.getD ((List.getD a0.Ops (Int.toNat r3.1) default).In) 0 default).Port)) default)).length (List.take (p + 1) (List.getD ((List.getD r1.1 (Int.toNat ((List.getD ((List.getD a0.Ops (Int.toNat r3.1) default).In) 0 default).From)) default).ports_) (Int.toNat ((List.getD ((List.getD a0.Ops (Int.toNat r3.1) default).In) 0 default).Port)) default)).length := by (have h := ax (k := 2) (by_ := 16) (f := SRecord.cells) (l := (List.take p (List.getD ((List.getD r1.1 (Int.toNat ((List.getD ((List.getD a0.Ops (Int.toNat r3.1) default).In) 0 default).From)) default).ports_) (Int.toNat ((List.getD ((List.getD a0.Ops (Int.toNat r3.1) default).In) 0 default).Port)) default))) (m := [(List.getD (List.getD ((List.getD r1.1 (Int.toNat ((List.getD ((List.getD a0.Ops (Int.toNat r3.1) default).In) 0 default).From)) default).ports_) (Int.toNat ((List.getD ((List.getD a0.Ops (Int.toNat r3.1) default).In) 0 default).Port)) default) p default)]) (fun _ => rfl) (by decide) (by rw [List.length_take]; simp only [List.length_cons, List.length_nil]; omega); unfold AX at h; rw [eT] at h; exact h)
    refine go_rk eqOk ttOk [(3, .app (List.map SRecord.cells [(List.getD (List.getD ((List.getD r1.1 (Int.toNat ((List.getD ((List.getD a0.Ops (Int.toNat r3.1) default).In) 0 default).From)) default).ports_) (Int.toNat ((List.getD ((List.getD a0.Ops (Int.toNat r3.1) default).In) 0 default).Port)) default) p default)]) (List.map SRecord.cells (List.take (p + 1) (List.getD ((List.getD r1.1 (Int.toNat ((List.getD ((List.getD a0.Ops (Int.toNat r3.1) default).In) 0 default).From)) default).ports_) (Int.toNat ((List.getD ((List.getD a0.Ops (Int.toNat r3.1) default).In) 0 default).Port)) default))) (List.take (p + 1) (List.getD ((List.getD r1.1 (Int.toNat ((List.getD ((List.getD a0.Ops (Int.toNat r3.1) default).In) 0 default).From)) default).ports_) (Int.toNat ((List.getD ((List.getD a0.Ops (Int.toNat r3.1) default).In) 0 default).Port)) default)).length)] [OX SRecord.cells [(List.getD (List.getD ((List.getD r1.1 (Int.toNat ((List.getD ((List.getD a0.Ops (Int.toNat r3.1) default).In) 0 default).From)) default).ports_) (Int.toNat ((List.getD ((List.getD a0.Ops (Int.toNat r3.1) default).In) 0 default).Port)) default) p default)] 0 1 [(List.getD (List.getD ((List.getD r1.1 (Int.toNat ((List.getD ((List.getD a0.Ops (Int.toNat r3.1) default).In) 0 default).From)) default).ports_) (Int.toNat ((List.getD ((List.getD a0.Ops (Int.toNat r3.1) default).In) 0 default).Port)) default) p default)], AppC 2 16 (List.map SRecord.cells (List.take p (List.getD ((List.getD r1.1 (Int.toNat ((List.getD ((List.getD a0.Ops (Int.toNat r3.1) default).In) 0 default).From)) default).ports_) (Int.toNat ((List.getD ((List.getD a0.Ops (Int.toNat r3.1) default).In) 0 default).Port)) default))) (List.map SRecord.cells [(List.getD (List.getD ((List.getD r1.1 (Int.toNat ((List.getD ((List.getD a0.Ops (Int.toNat r3.1) default).In) 0 default).From)) default).ports_) (Int.toNat ((List.getD ((List.getD a0.Ops (Int.toNat r3.1) default).In) 0 default).Port)) default) p default)]) (List.map SRecord.cells (List.take (p + 1) (List.getD ((List.getD r1.1 (Int.toNat ((List.getD ((List.getD a0.Ops (Int.toNat r3.1) default).In) 0 default).From)) default).ports_) (Int.toNat ((List.getD ((List.getD a0.Ops (Int.toNat r3.1) default).In) 0 default).Port)) default))) (List.take p (List.getD ((List.getD r1.1 (Int.toNat ((List.getD ((List.getD a0.Ops (Int.toNat r3.1) default).In) 0 default).From)) default).ports_) (Int.toNat ((List.getD ((List.getD a0.Ops (Int.toNat r3.1) default).In) 0 default).Port)) default)).length (List.take (p + 1) (List.getD ((List.getD r1.1 (Int.toNat ((List.getD ((List.getD a0.Ops (Int.toNat r3.1) default).In) 0 default).From)) default).ports_) (Int.toNat ((List.getD ((List.getD a0.Ops (Int.toNat r3.1) default).In) 0 default).Port)) default)).length] ⟨[(11, .ptr 0 0)], [(6, .fr (arrT a3 [5, 6, 7, 0]) [(sL SRecord.cells (List.getD ((List.getD r1.1 (Int.toNat ((List.getD ((List.getD a0.Ops (Int.toNat r3.1) default).In) 0 default).From)) default).ports_) (Int.toNat ((List.getD ((List.getD a0.Ops (Int.toNat r3.1) default).In) 0 default).Port)) default)), (iV (((List.getD ((List.getD r1.1 (Int.toNat ((List.getD ((List.getD a0.Ops (Int.toNat r3.1) default).In) 0 default).From)) default).ports_) (Int.toNat ((List.getD ((List.getD a0.Ops (Int.toNat r3.1) default).In) 0 default).Port)) default).length : Nat) : Int)), (iV ((p : Nat) : Int)), yieldV l1]), (4, .fr (arrT a [11]) [.ptr 0 0]), (3, .lp l1 (recOf self a.tmps #[46] asg bod D .busy none)), (0, .box [.own 1 2 0 ((List.take (p + 1) (List.getD ((List.getD r1.1 (Int.toNat ((List.getD ((List.getD a0.Ops (Int.toNat r3.1) default).In) 0 default).From)) default).ports_) (Int.toNat ((List.getD ((List.getD a0.Ops (Int.toNat r3.1) default).In) 0 default).Port)) default)).length)] 23), (1, .acc 2 (List.map SRecord.cells (List.take (p + 1) (List.getD ((List.getD r1.1 (Int.toNat ((List.getD ((List.getD a0.Ops (Int.toNat r3.1) default).In) 0 default).From)) default).ports_) (Int.toNat ((List.getD ((List.getD a0.Ops (Int.toNat r3.1) default).In) 0 default).Port)) default))) 34), (2, .box [(sL SRecord.cells (List.getD ((List.getD r1.1 (Int.toNat ((List.getD ((List.getD a0.Ops (Int.toNat r3.1) default).In) 0 default).From)) default).ports_) (Int.toNat ((List.getD ((List.getD a0.Ops (Int.toNat r3.1) default).In) 0 default).Port)) default))] 23)], 9⟩ (by kernel_rfl) ⟨ox, hA, trivial⟩ ?_
    refine go_rndEnd [5, 6, 7, 0] 6 3 ha3 rfl rfl (by exact Nat.le_of_ble_eq_true rfl) ?_
    simp only [AVS, EVB, eqF, Op.operands, IntKind.bits, descF, sizeF, bytesF, zeroF, seval, reduceCtorEq, ↓reduceIte]
    (repeat (first | refine ⟨by kernel_rfl, ?_⟩ | refine ⟨by decide, ?_⟩ | refine ⟨trivial, ?_⟩))
    (repeat (first | refine go_seq ?_ | refine go_skip ?_ | refine go_blk ?_ | refine go_block ?_ | refine go_scope (fun _ _ _ h => h) ?_ | refine go_label ?_))
    refine go_cond (by rfl) (fun hc => absurd hc (by simp)) (fun hc => ?_)
    (repeat (first | refine go_seq ?_ | refine go_skip ?_ | refine go_blk ?_ | refine go_block ?_ | refine go_scope (fun _ _ _ h => h) ?_ | refine go_label ?_))
    refine go_rk eqOk ttOk [(0, .tell (iV ((p + 1 : Nat) : Int)))] [WR (((p : Nat) : Int) + 1) ((p + 1 : Nat) : Int)] ⟨[(0, yieldV l1), (5, (sL SRecord.cells (List.getD ((List.getD r1.1 (Int.toNat ((List.getD ((List.getD a0.Ops (Int.toNat r3.1) default).In) 0 default).From)) default).ports_) (Int.toNat ((List.getD ((List.getD a0.Ops (Int.toNat r3.1) default).In) 0 default).Port)) default))), (6, (iV (((List.getD ((List.getD r1.1 (Int.toNat ((List.getD ((List.getD a0.Ops (Int.toNat r3.1) default).In) 0 default).From)) default).ports_) (Int.toNat ((List.getD ((List.getD a0.Ops (Int.toNat r3.1) default).In) 0 default).Port)) default).length : Nat) : Int))), (7, (iV (((p + 1) : Nat) : Int)))], [(4, .fr (arrT a [11]) [.ptr 0 0]), (3, .lp l1 (recOf self a.tmps #[46] asg bod D .ready none)), (0, .box [.own 1 2 0 ((List.take (p + 1) (List.getD ((List.getD r1.1 (Int.toNat ((List.getD ((List.getD a0.Ops (Int.toNat r3.1) default).In) 0 default).From)) default).ports_) (Int.toNat ((List.getD ((List.getD a0.Ops (Int.toNat r3.1) default).In) 0 default).Port)) default)).length)] 23), (1, .acc 2 (List.map SRecord.cells (List.take (p + 1) (List.getD ((List.getD r1.1 (Int.toNat ((List.getD ((List.getD a0.Ops (Int.toNat r3.1) default).In) 0 default).From)) default).ports_) (Int.toNat ((List.getD ((List.getD a0.Ops (Int.toNat r3.1) default).In) 0 default).Port)) default))) 34), (2, .box [(sL SRecord.cells (List.getD ((List.getD r1.1 (Int.toNat ((List.getD ((List.getD a0.Ops (Int.toNat r3.1) default).In) 0 default).From)) default).ports_) (Int.toNat ((List.getD ((List.getD a0.Ops (Int.toNat r3.1) default).In) 0 default).Port)) default))] 23)], 9⟩ (by kernel_rfl) ⟨wr (by omega) (by omega) (by omega), trivial⟩ ?_
    exact go_fin ⟨p + 1, hlt, by (try dsimp only); omega, (Weak.forget' (by repeat (first | exact trivial | refine ⟨rfl, ?_⟩)) (by repeat (first | exact trivial | refine ⟨rfl, ?_⟩)) rfl)⟩
   ·have hge : ¬ p < (List.getD ((List.getD r1.1 (Int.toNat ((List.getD ((List.getD a0.Ops (Int.toNat r3.1) default).In) 0 default).From)) default).ports_) (Int.toNat ((List.getD ((List.getD a0.Ops (Int.toNat r3.1) default).In) 0 default).Port)) default).length := by (have := of_decide_eq_false h; omega)
    have eL : (List.take p (List.getD ((List.getD r1.1 (Int.toNat ((List.getD ((List.getD a0.Ops (Int.toNat r3.1) default).In) 0 default).From)) default).ports_) (Int.toNat ((List.getD ((List.getD a0.Ops (Int.toNat r3.1) default).In) 0 default).Port)) default)) = (List.getD ((List.getD r1.1 (Int.toNat ((List.getD ((List.getD a0.Ops (Int.toNat r3.1) default).In) 0 default).From)) default).ports_) (Int.toNat ((List.getD ((List.getD a0.Ops (Int.toNat r3.1) default).In) 0 default).Port)) default) := List.take_of_length_le (by omega)
    refine go_exit rfl ?_
    (repeat (first | refine go_seq ?_ | refine go_skip ?_ | refine go_blk ?_ | refine go_block ?_ | refine go_scope (fun _ _ _ h => h) ?_ | refine go_label ?_))
    refine go_endR ha ttOk [11] 4 3 rfl (by (repeat' apply And.intro) <;> first | trivial | rfl) rfl rfl (by intro h; cases h) ⟨rfl, ?_⟩
    rw [eL]
    exact (Weak.forget' (by repeat (first | exact trivial | refine ⟨rfl, ?_⟩)) (by repeat (first | exact trivial | refine ⟨rfl, ?_⟩)) rfl)
  ·rintro pend s' ⟨rfl, hw⟩
   refine go_weak hw ?_
   refine go_blk ?_
   refine go_seq ?_
   refine go_rk eqOk ttOk [] [] ⟨[(4, .own 1 2 0 ((List.getD ((List.getD r1.1 (Int.toNat ((List.getD ((List.getD a0.Ops (Int.toNat r3.1) default).In) 0 default).From)) default).ports_) (Int.toNat ((List.getD ((List.getD a0.Ops (Int.toNat r3.1) default).In) 0 default).Port)) default).length)), (5, (iV 0))], [(1, .acc 2 (List.map SRecord.cells (List.getD ((List.getD r1.1 (Int.toNat ((List.getD ((List.getD a0.Ops (Int.toNat r3.1) default).In) 0 default).From)) default).ports_) (Int.toNat ((List.getD ((List.getD a0.Ops (Int.toNat r3.1) default).In) 0 default).Port)) default)) 34)], 5⟩ (by kernel_rfl) trivial ?_
   subst hx0
   exact go_ret1 rfl
def run_States_L0 (r1 : (List Srun_made) × Int) (x5 : Nat) (x6 : List STaskState) : List STaskState :=
  (if h7 : (decide (((x5 : Nat) : Int) < ((r1.1.length : Nat) : Int))) = true then (run_States_L0 r1 (x5 + 1) (x6 ++ [(STaskState.mk (((List.getD r1.1 x5 default).state_).State) (((List.getD r1.1 x5 default).state_).Buffers))])) else x6)
termination_by r1.1.length - x5
decreasing_by all_goals (try simp only [GZ] at *) <;> omega
def run_States (a0 : SGraph) (a1 : (List (List SRecord))) : (List STaskState) × Int :=
  letIn (run_all a0 a1) fun r1 => letIn (run_States_L0 r1 0 []) fun o2 => (o2, r1.2)
set_option maxRecDepth 10000 in
set_option maxHeartbeats 8000000 in
theorem run_States_t (a0 : SGraph) (a1 : (List (List SRecord))) (hs : tot a1 ≤ 1048576) (z0 : SGraph.Sz a0) (z1 : (a1.length ≤ 4294967296 ∧ ∀ y ∈ a1, y.length ≤ 4294967296)) : FnP Try.prog 21 [.agg (SGraph.avs a0), (sL cSl_SRecord_cells a1)] (.tup [(sL STaskState.cells ((run_States a0 a1).1)), (iV ((run_States a0 a1).2))]) := by
 refine FnP.intro (tt := tt) Try.func21 rfl (by kernel_rfl) (by simp [Try.ntmps21]) fun w0 A hA => ?_
 have hR := reckB_ok eqOk ttOk
 obtain ⟨res, hx0⟩ : ∃ r, run_States a0 a1 = r := ⟨_, rfl⟩
 simp only [hx0]
 unfold run_States at hx0
 simp only [argT, Try.ntmps21]
 try simp only [SZD] at z0 z1
 obtain ⟨zz8, zz9⟩ := z0
 obtain ⟨zz10, zz11⟩ := z1
 refine go_seq ?_
 refine go_rk eqOk ttOk [] [] ⟨[(1, (sL cSl_SRecord_cells a1)), (2, .ptr 0 0)], [(0, .box (SGraph.avs a0) 41)], 1⟩ (by kernel_rfl) trivial ?_
 refine go_seq ?_
 obtain ⟨r1, hr1, hx0⟩ := letIn_ex hx0
 have Cr1 := (run_all_t a0 a1 (by (try simp only [SZD]); (repeat' apply And.intro) <;> first | assumption | omega | (simp only [List.length_drop, List.length_take]; omega) | simp_all) (by (try simp only [SZD]); (repeat' apply And.intro) <;> first | assumption | omega | (simp only [List.length_drop, List.length_take]; omega) | simp_all) (by (try simp only [SZD]); (repeat' apply And.intro) <;> first | assumption | omega | (simp only [List.length_drop, List.length_take]; omega) | simp_all))
 simp only [hr1] at Cr1
 have fr1 := run_all_len a0 a1 hs
 try simp only [hr1, List.length_cons, List.length_nil] at fr1
 refine go_rk eqOk ttOk [(2, .fn Cr1.toO)] [AQ Cr1.toO] ⟨[(6, (sL Srun_made.cells r1.1)), (7, (iV r1.2))], [], 1⟩ (by kernel_rfl) ⟨⟨rfl, rfl⟩, trivial⟩ ?_
 refine go_seq ?_
 refine go_rk eqOk ttOk [] [] ⟨[(6, (sL Srun_made.cells r1.1)), (7, (iV r1.2)), (8, nS)], [], 1⟩ (by kernel_rfl) trivial ?_
 refine go_nilOwn 8 3 50 rfl ?_
 refine go_weak (s' := ⟨[(6, (sL Srun_made.cells r1.1)), (7, (iV r1.2)), (8, .own 1 3 0 0)], [(1, .acc 3 (List.map STaskState.cells []) 50)], 2⟩) (Weak.sub' (by repeat (first | exact trivial | refine ⟨rfl, ?_⟩)) (by repeat (first | exact trivial | refine ⟨rfl, ?_⟩)) (by exact Nat.le_of_ble_eq_true rfl)) ?_
 refine go_seq ?_
 refine go_seq ?_
 refine go_rk eqOk ttOk [(1, .tell (iV ((r1.1.length : Nat) : Int)))] [LN Srun_made.cells r1.1] ⟨[(7, (iV r1.2)), (8, .own 1 3 0 0), (17, (sL Srun_made.cells r1.1)), (18, (iV ((r1.1.length : Nat) : Int))), (19, (iV 0))], [(1, .acc 3 (List.map STaskState.cells []) 50)], 2⟩ (by kernel_rfl) ⟨ln, trivial⟩ ?_
 obtain ⟨o2, hx1, hx0⟩ := letIn_ex hx0
 refine go_joinE (fun p : List STaskState => ⟨[(7, (iV r1.2)), (8, .own 0 3 0 p.length)], [(0, .acc 3 (List.map STaskState.cells p) 50)], 1⟩) (fun p : List STaskState => o2 = p) ?_ ?_
 ·refine go_block ?_
  refine go_len (t := 17) rfl (fun hl12 => ?_)
  simp only [List.length_map, maxLen_eq] at hl12
  refine go_loop (fun p : Nat × (List STaskState) => ⟨[(7, (iV r1.2)), (8, .own 0 3 0 p.2.length), (17, (sL Srun_made.cells r1.1)), (18, (iV ((r1.1.length : Nat) : Int))), (19, (iV ((p.1 : Nat) : Int)))], [(0, .acc 3 (List.map STaskState.cells p.2) 50)], 1⟩) (fun p : Nat × (List STaskState) => (p.1 ≤ r1.1.length ∧ p.2.length = p.1) ∧ run_States_L0 r1 p.1 p.2 = o2) (fun p : Nat × (List STaskState) => r1.1.length - p.1) (0, []) ⟨(by first | trivial | omega | ((try dsimp only) <;> (repeat' apply And.intro) <;> first | trivial | omega | assumption | (simp; done))), hx1⟩ (Weak.cn [1] [7, 8, 17, 18, 19] rfl rfl rfl) ?_
  rintro ⟨x5, x6⟩ ⟨hi13, hx1⟩
  try dsimp only at hi13 hx1 ⊢
  rw [run_States_L0.eq_def] at hx1
  refine go_seq ?_
  refine go_rk eqOk ttOk [] [] ⟨[(7, (iV r1.2)), (8, .own 0 3 0 x6.length), (17, (sL Srun_made.cells r1.1)), (18, (iV ((r1.1.length : Nat) : Int))), (19, (iV ((x5 : Nat) : Int))), (20, (bo (decide (((x5 : Nat) : Int) < ((r1.1.length : Nat) : Int)))))], [(0, .acc 3 (List.map STaskState.cells x6) 50)], 1⟩ (by kernel_rfl) trivial ?_
  refine go_seq ?_
  refine go_cond (by rfl) (fun h7 => ?_) (fun h7 => ?_)
  ·have gh7 := h7
   try simp only [GZ] at gh7
   replace hx1 := iteT h7 hx1
   refine go_skip ?_
   refine go_seq ?_
   refine go_block ?_
   refine go_seq ?_
   have bq14 : x5 < r1.1.length := by omega
   refine go_rk eqOk ttOk [(0, .row (Srun_made.cells (List.getD r1.1 x5 default)))] [IX Srun_made.cells r1.1 ((x5 : Nat) : Int)] ⟨[(7, (iV r1.2)), (8, .own 0 3 0 x6.length), (10, .ptr 1 0), (17, (sL Srun_made.cells r1.1)), (18, (iV ((r1.1.length : Nat) : Int))), (19, (iV ((x5 : Nat) : Int)))], [(0, .acc 3 (List.map STaskState.cells x6) 50), (1, .box (Srun_made.avs (List.getD r1.1 x5 default)) 130)], 2⟩ (by kernel_rfl) ⟨(ixn bq14), trivial⟩ ?_
   refine go_rk eqOk ttOk [(4, .app (List.map STaskState.cells [(STaskState.mk (((List.getD r1.1 x5 default).state_).State) (((List.getD r1.1 x5 default).state_).Buffers))]) (List.map STaskState.cells (x6 ++ [(STaskState.mk (((List.getD r1.1 x5 default).state_).State) (((List.getD r1.1 x5 default).state_).Buffers))])) ((x6 ++ [(STaskState.mk (((List.getD r1.1 x5 default).state_).State) (((List.getD r1.1 x5 default).state_).Buffers))]).length))] [OX STaskState.cells [(STaskState.mk (((List.getD r1.1 x5 default).state_).State) (((List.getD r1.1 x5 default).state_).Buffers))] 0 1 [(STaskState.mk (((List.getD r1.1 x5 default).state_).State) (((List.getD r1.1 x5 default).state_).Buffers))], AX 3 56 STaskState.cells x6 [(STaskState.mk (((List.getD r1.1 x5 default).state_).State) (((List.getD r1.1 x5 default).state_).Buffers))]] ⟨[(7, (iV r1.2)), (8, .own 0 3 0 ((x6 ++ [(STaskState.mk (((List.getD r1.1 x5 default).state_).State) (((List.getD r1.1 x5 default).state_).Buffers))]).length)), (17, (sL Srun_made.cells r1.1)), (18, (iV ((r1.1.length : Nat) : Int))), (19, (iV ((x5 : Nat) : Int)))], [(0, .acc 3 (List.map STaskState.cells (x6 ++ [(STaskState.mk (((List.getD r1.1 x5 default).state_).State) (((List.getD r1.1 x5 default).state_).Buffers))])) 50)], 3⟩ (by kernel_rfl) ⟨ox, (ax (fun _ => rfl) (by decide) (by (try simp only [NM, List.length_take, List.length_drop]); omega)), trivial⟩ ?_
   refine go_blk ?_
   refine go_rk eqOk ttOk [(0, .tell (iV ((x5 + 1 : Nat) : Int)))] [WR (((x5 : Nat) : Int) + 1) ((x5 + 1 : Nat) : Int)] ⟨[(7, (iV r1.2)), (8, .own 0 3 0 ((x6 ++ [(STaskState.mk (((List.getD r1.1 x5 default).state_).State) (((List.getD r1.1 x5 default).state_).Buffers))]).length)), (17, (sL Srun_made.cells r1.1)), (18, (iV ((r1.1.length : Nat) : Int))), (19, (iV ((x5 + 1 : Nat) : Int)))], [(0, .acc 3 (List.map STaskState.cells (x6 ++ [(STaskState.mk (((List.getD r1.1 x5 default).state_).State) (((List.getD r1.1 x5 default).state_).Buffers))])) 50)], 3⟩ (by kernel_rfl) ⟨(wr (by omega) (by omega) (by omega)), trivial⟩ ?_
   exact go_fin ⟨(x5 + 1, (x6 ++ [(STaskState.mk (((List.getD r1.1 x5 default).state_).State) (((List.getD r1.1 x5 default).state_).Buffers))])), ⟨⟨by (try dsimp only); omega, by simp only [List.length_append, List.length_cons, List.length_nil]; omega⟩, hx1⟩, by first | omega | (dsimp only; omega), (Weak.cn [0] [7, 8, 17, 18, 19] rfl rfl rfl)⟩
  ·have gh7 := h7
   try simp only [GZ] at gh7
   replace hx1 := iteF h7 hx1
   refine go_exit rfl ?_
   exact go_fin ⟨x6, hx1.symm, (Weak.cn [0] [7, 8] rfl rfl rfl)⟩
 ·rintro o2_ hp
  try dsimp only at hp
  subst hp
  refine go_seq ?_
  refine go_rk eqOk ttOk [] [] ⟨[(4, .own 0 3 0 o2.length), (5, (iV r1.2))], [(0, .acc 3 (List.map STaskState.cells o2) 50)], 1⟩ (by kernel_rfl) trivial ?_
  subst hx0
  exact go_ret1 rfl
def pontoonlaw08_begun : Bool :=
  letIn pontoonlaw08_merge fun r1 => letIn (pontoonlaw08_records [1, 2, 3]) fun r2 => letIn (pontoonlaw08_records [9]) fun r3 => letIn (run_Run r1 [r2, r3]) fun r4 => letIn pontoonlaw08_merge fun r5 => letIn (pontoonlaw08_records [1, 2, 3]) fun r6 => letIn (pontoonlaw08_records [9]) fun r7 => letIn (run_States r5 [r6, r7]) fun r8 => (((((((r4.2 == 0) && (slices_Equal_Record r4.1 (pontoonlaw08_records [1, 9, 2]))) && (r8.2 == 0)) && (((r8.1.length : Nat) : Int) == 4)) && (((List.getD r8.1 2 default).State).Turn == 1)) && (((((List.getD r8.1 2 default).Buffers).length : Nat) : Int) == 2)) && ((((List.getD ((List.getD r8.1 2 default).Buffers) 0 default).length : Nat) : Int) == 1))
set_option maxRecDepth 10000 in
set_option maxHeartbeats 8000000 in
theorem pontoonlaw08_begun_t : FnP Try.prog 14 [] ((bo pontoonlaw08_begun)) := by
 refine FnP.intro (tt := tt) Try.func14 rfl (by kernel_rfl) (by simp [Try.ntmps14]) fun w0 A hA => ?_
 have hR := reckB_ok eqOk ttOk
 obtain ⟨res, hx0⟩ : ∃ r, pontoonlaw08_begun = r := ⟨_, rfl⟩
 simp only [hx0]
 unfold pontoonlaw08_begun at hx0
 simp only [argT, Try.ntmps14]
 refine go_seq ?_
 refine go_rk eqOk ttOk [] [] ⟨[], [], 0⟩ (by kernel_rfl) trivial ?_
 refine go_seq ?_
 obtain ⟨r1, hr1, hx0⟩ := letIn_ex hx0
 have Cr1 := pontoonlaw08_merge_t
 simp only [hr1] at Cr1
 have zr1 := pontoonlaw08_merge_sz
 simp only [hr1, SZD] at zr1
 obtain ⟨zz15, zz16⟩ := zr1
 obtain ⟨r2, hr2, hx0⟩ := letIn_ex hx0
 have Cr2 := (pontoonlaw08_records_t [1, 2, 3] (by (try simp only [SZD]); (repeat' apply And.intro) <;> first | assumption | omega | (simp only [List.length_drop, List.length_take]; omega) | simp_all))
 simp only [hr2] at Cr2
 have fr2 := records_len16 [1, 2, 3]
 try simp only [hr2, List.length_cons, List.length_nil] at fr2
 obtain ⟨r3, hr3, hx0⟩ := letIn_ex hx0
 have Cr3 := (pontoonlaw08_records_t [9] (by (try simp only [SZD]); (repeat' apply And.intro) <;> first | assumption | omega | (simp only [List.length_drop, List.length_take]; omega) | simp_all))
 simp only [hr3] at Cr3
 have fr3 := records_len16 [9]
 try simp only [hr3, List.length_cons, List.length_nil] at fr3
 obtain ⟨r4, hr4, hx0⟩ := letIn_ex hx0
 have Cr4 := (run_Run_t r1 [r2, r3] (by simp only [tot, List.map_cons, List.map_nil, List.sum_cons, List.sum_nil]; omega) (by (try simp only [SZD]); (repeat' apply And.intro) <;> first | assumption | omega | (simp only [List.length_drop, List.length_take]; omega) | simp_all) ⟨by (simp only [List.length_cons, List.length_nil]; omega), fun y hy => by (simp only [List.mem_cons, List.not_mem_nil, or_false] at hy; rcases hy with rfl | rfl <;> omega)⟩)
 simp only [hr4] at Cr4
 refine go_regionJ hR ⟨[(1, (sL SRecord.cells r4.1)), (2, (iV r4.2))], [], 3⟩ ?_ ?_
 ·skip
  simp only [AVS, EVB, eqF, Op.operands, IntKind.bits, descF, sizeF, bytesF, zeroF, seval, reduceCtorEq, ↓reduceIte]
  refine CallK.freshE Cr1.toO rfl (by first | rfl | (simp only [NM]; done) | (simp only [AVS, NM]; done)) (by (repeat' apply And.intro) <;> first | trivial | rfl | omega | (simp only [NM]; omega)) (.inl rfl) (by exact Nat.le_of_ble_eq_true rfl) ?_
  try simp only [AVS, EVB, eqF, Op.operands, IntKind.bits, descF, sizeF, bytesF, zeroF, seval, reduceCtorEq, ↓reduceIte]
  refine ⟨(by (repeat' apply And.intro) <;> first | trivial | rfl | exact Nat.le_of_ble_eq_true rfl | omega | (intro u hu; obtain ⟨x, _, rfl⟩ := List.mem_map.1 hu; rfl) | (intro u hu; simp only [List.mem_cons, List.not_mem_nil, or_false] at hu; subst hu; rfl) | (simp only [NM]; omega) | (simp; done)), ?_⟩
  refine CallK.close 0 rfl rfl (by (repeat' apply And.intro) <;> first | trivial | rfl | exact Nat.le_of_ble_eq_true rfl | omega | (intro u hu; obtain ⟨x, _, rfl⟩ := List.mem_map.1 hu; rfl) | (intro u hu; simp only [List.mem_cons, List.not_mem_nil, or_false] at hu; subst hu; rfl) | (simp only [NM]; omega) | (simp; done)) ?_
  refine CallK.freshE Cr2.toO rfl (by first | rfl | (simp only [NM]; done) | (simp only [AVS, NM]; done)) (by (repeat' apply And.intro) <;> first | trivial | rfl | omega | (simp only [NM]; omega)) (.inl rfl) (by exact Nat.le_of_ble_eq_true rfl) ?_
  try simp only [AVS, EVB, eqF, Op.operands, IntKind.bits, descF, sizeF, bytesF, zeroF, seval, reduceCtorEq, ↓reduceIte]
  refine ⟨(by (repeat' apply And.intro) <;> first | trivial | rfl | exact Nat.le_of_ble_eq_true rfl | omega | (intro u hu; obtain ⟨x, _, rfl⟩ := List.mem_map.1 hu; rfl) | (intro u hu; simp only [List.mem_cons, List.not_mem_nil, or_false] at hu; subst hu; rfl) | (simp only [NM]; omega) | (simp; done)), ?_⟩
  refine CallK.close 1 rfl rfl (by (repeat' apply And.intro) <;> first | trivial | rfl | exact Nat.le_of_ble_eq_true rfl | omega | (intro u hu; obtain ⟨x, _, rfl⟩ := List.mem_map.1 hu; rfl) | (intro u hu; simp only [List.mem_cons, List.not_mem_nil, or_false] at hu; subst hu; rfl) | (simp only [NM]; omega) | (simp; done)) ?_
  refine CallK.freshE Cr3.toO rfl (by first | rfl | (simp only [NM]; done) | (simp only [AVS, NM]; done)) (by (repeat' apply And.intro) <;> first | trivial | rfl | omega | (simp only [NM]; omega)) (.inl rfl) (by exact Nat.le_of_ble_eq_true rfl) ?_
  try simp only [AVS, EVB, eqF, Op.operands, IntKind.bits, descF, sizeF, bytesF, zeroF, seval, reduceCtorEq, ↓reduceIte]
  refine ⟨(by (repeat' apply And.intro) <;> first | trivial | rfl | exact Nat.le_of_ble_eq_true rfl | omega | (intro u hu; obtain ⟨x, _, rfl⟩ := List.mem_map.1 hu; rfl) | (intro u hu; simp only [List.mem_cons, List.not_mem_nil, or_false] at hu; subst hu; rfl) | (simp only [NM]; omega) | (simp; done)), ?_⟩
  refine CallK.close 2 rfl rfl (by (repeat' apply And.intro) <;> first | trivial | rfl | exact Nat.le_of_ble_eq_true rfl | omega | (intro u hu; obtain ⟨x, _, rfl⟩ := List.mem_map.1 hu; rfl) | (intro u hu; simp only [List.mem_cons, List.not_mem_nil, or_false] at hu; subst hu; rfl) | (simp only [NM]; omega) | (simp; done)) ?_
  refine CallK.freshE Cr4.toO rfl (by first | rfl | (simp only [NM]; done) | (simp only [AVS, NM]; done)) (by (repeat' apply And.intro) <;> first | trivial | rfl | omega | (simp only [NM]; omega)) (.inl rfl) (by exact Nat.le_of_ble_eq_true rfl) ?_
  try simp only [AVS, EVB, eqF, Op.operands, IntKind.bits, descF, sizeF, bytesF, zeroF, seval, reduceCtorEq, ↓reduceIte]
  try simp only [BM, NM, CELLS]
  exact Weak.sub' ⟨rfl, rfl, trivial⟩ trivial (Nat.le_of_ble_eq_true rfl)
 ·skip
  refine go_seq ?_
  obtain ⟨r5, hr5, hx0⟩ := letIn_ex hx0
  have Cr5 := pontoonlaw08_merge_t
  simp only [hr5] at Cr5
  have zr5 := pontoonlaw08_merge_sz
  simp only [hr5, SZD] at zr5
  obtain ⟨zz17, zz18⟩ := zr5
  obtain ⟨r6, hr6, hx0⟩ := letIn_ex hx0
  have Cr6 := (pontoonlaw08_records_t [1, 2, 3] (by (try simp only [SZD]); (repeat' apply And.intro) <;> first | assumption | omega | (simp only [List.length_drop, List.length_take]; omega) | simp_all))
  simp only [hr6] at Cr6
  have fr6 := records_len16 [1, 2, 3]
  try simp only [hr6, List.length_cons, List.length_nil] at fr6
  obtain ⟨r7, hr7, hx0⟩ := letIn_ex hx0
  have Cr7 := (pontoonlaw08_records_t [9] (by (try simp only [SZD]); (repeat' apply And.intro) <;> first | assumption | omega | (simp only [List.length_drop, List.length_take]; omega) | simp_all))
  simp only [hr7] at Cr7
  have fr7 := records_len16 [9]
  try simp only [hr7, List.length_cons, List.length_nil] at fr7
  obtain ⟨r8, hr8, hx0⟩ := letIn_ex hx0
  have Cr8 := (run_States_t r5 [r6, r7] (by simp only [tot, List.map_cons, List.map_nil, List.sum_cons, List.sum_nil]; omega) (by (try simp only [SZD]); (repeat' apply And.intro) <;> first | assumption | omega | (simp only [List.length_drop, List.length_take]; omega) | simp_all) ⟨by (simp only [List.length_cons, List.length_nil]; omega), fun y hy => by (simp only [List.mem_cons, List.not_mem_nil, or_false] at hy; rcases hy with rfl | rfl <;> omega)⟩)
  simp only [hr8] at Cr8
  refine go_regionJ hR ⟨[(1, (sL SRecord.cells r4.1)), (2, (iV r4.2)), (3, (sL STaskState.cells r8.1)), (4, (iV r8.2))], [], 6⟩ ?_ ?_
  ·skip
   simp only [AVS, EVB, eqF, Op.operands, IntKind.bits, descF, sizeF, bytesF, zeroF, seval, reduceCtorEq, ↓reduceIte]
   refine CallK.freshE Cr5.toO rfl (by first | rfl | (simp only [NM]; done) | (simp only [AVS, NM]; done)) (by (repeat' apply And.intro) <;> first | trivial | rfl | omega | (simp only [NM]; omega)) (.inl rfl) (by exact Nat.le_of_ble_eq_true rfl) ?_
   try simp only [AVS, EVB, eqF, Op.operands, IntKind.bits, descF, sizeF, bytesF, zeroF, seval, reduceCtorEq, ↓reduceIte]
   refine ⟨(by (repeat' apply And.intro) <;> first | trivial | rfl | exact Nat.le_of_ble_eq_true rfl | omega | (intro u hu; obtain ⟨x, _, rfl⟩ := List.mem_map.1 hu; rfl) | (intro u hu; simp only [List.mem_cons, List.not_mem_nil, or_false] at hu; subst hu; rfl) | (simp only [NM]; omega) | (simp; done)), ?_⟩
   refine CallK.close 3 rfl rfl (by (repeat' apply And.intro) <;> first | trivial | rfl | exact Nat.le_of_ble_eq_true rfl | omega | (intro u hu; obtain ⟨x, _, rfl⟩ := List.mem_map.1 hu; rfl) | (intro u hu; simp only [List.mem_cons, List.not_mem_nil, or_false] at hu; subst hu; rfl) | (simp only [NM]; omega) | (simp; done)) ?_
   refine CallK.freshE Cr6.toO rfl (by first | rfl | (simp only [NM]; done) | (simp only [AVS, NM]; done)) (by (repeat' apply And.intro) <;> first | trivial | rfl | omega | (simp only [NM]; omega)) (.inl rfl) (by exact Nat.le_of_ble_eq_true rfl) ?_
   try simp only [AVS, EVB, eqF, Op.operands, IntKind.bits, descF, sizeF, bytesF, zeroF, seval, reduceCtorEq, ↓reduceIte]
   refine ⟨(by (repeat' apply And.intro) <;> first | trivial | rfl | exact Nat.le_of_ble_eq_true rfl | omega | (intro u hu; obtain ⟨x, _, rfl⟩ := List.mem_map.1 hu; rfl) | (intro u hu; simp only [List.mem_cons, List.not_mem_nil, or_false] at hu; subst hu; rfl) | (simp only [NM]; omega) | (simp; done)), ?_⟩
   refine CallK.close 4 rfl rfl (by (repeat' apply And.intro) <;> first | trivial | rfl | exact Nat.le_of_ble_eq_true rfl | omega | (intro u hu; obtain ⟨x, _, rfl⟩ := List.mem_map.1 hu; rfl) | (intro u hu; simp only [List.mem_cons, List.not_mem_nil, or_false] at hu; subst hu; rfl) | (simp only [NM]; omega) | (simp; done)) ?_
   refine CallK.freshE Cr7.toO rfl (by first | rfl | (simp only [NM]; done) | (simp only [AVS, NM]; done)) (by (repeat' apply And.intro) <;> first | trivial | rfl | omega | (simp only [NM]; omega)) (.inl rfl) (by exact Nat.le_of_ble_eq_true rfl) ?_
   try simp only [AVS, EVB, eqF, Op.operands, IntKind.bits, descF, sizeF, bytesF, zeroF, seval, reduceCtorEq, ↓reduceIte]
   refine ⟨(by (repeat' apply And.intro) <;> first | trivial | rfl | exact Nat.le_of_ble_eq_true rfl | omega | (intro u hu; obtain ⟨x, _, rfl⟩ := List.mem_map.1 hu; rfl) | (intro u hu; simp only [List.mem_cons, List.not_mem_nil, or_false] at hu; subst hu; rfl) | (simp only [NM]; omega) | (simp; done)), ?_⟩
   refine CallK.close 5 rfl rfl (by (repeat' apply And.intro) <;> first | trivial | rfl | exact Nat.le_of_ble_eq_true rfl | omega | (intro u hu; obtain ⟨x, _, rfl⟩ := List.mem_map.1 hu; rfl) | (intro u hu; simp only [List.mem_cons, List.not_mem_nil, or_false] at hu; subst hu; rfl) | (simp only [NM]; omega) | (simp; done)) ?_
   refine CallK.freshE Cr8.toO rfl (by first | rfl | (simp only [NM]; done) | (simp only [AVS, NM]; done)) (by (repeat' apply And.intro) <;> first | trivial | rfl | omega | (simp only [NM]; omega)) (.inl rfl) (by exact Nat.le_of_ble_eq_true rfl) ?_
   try simp only [AVS, EVB, eqF, Op.operands, IntKind.bits, descF, sizeF, bytesF, zeroF, seval, reduceCtorEq, ↓reduceIte]
   try simp only [BM, NM, CELLS]
   exact Weak.sub' ⟨rfl, rfl, rfl, rfl, trivial⟩ trivial (Nat.le_of_ble_eq_true rfl)
  ·skip
   refine go_seq ?_
   refine go_rk eqOk ttOk [(4, .bsC), (5, .fn ((pontoonlaw08_records_t [1, 9, 2] (by (try simp only [SZD]); (repeat' apply And.intro) <;> first | assumption | omega | (simp only [List.length_drop, List.length_take]; omega) | simp_all))).toO), (6, .fn ((slices_Equal_Record_t r4.1 (pontoonlaw08_records [1, 9, 2]))).toO), (14, .tell (iV ((r8.1.length : Nat) : Int))), (19, .row (STaskState.cells (List.getD r8.1 2 default))), (27, .row (STaskState.cells (List.getD r8.1 2 default))), (30, .tell (iV ((((List.getD r8.1 2 default).Buffers).length : Nat) : Int))), (35, .row (STaskState.cells (List.getD r8.1 2 default))), (38, .row (cSl_SRecord_cells (List.getD ((List.getD r8.1 2 default).Buffers) 0 default))), (40, .tell (iV (((List.getD ((List.getD r8.1 2 default).Buffers) 0 default).length : Nat) : Int)))] [((r4.2 == 0) = true → AQ ((pontoonlaw08_records_t [1, 9, 2] (by (try simp only [SZD]); (repeat' apply And.intro) <;> first | assumption | omega | (simp only [List.length_drop, List.length_take]; omega) | simp_all))).toO), ((r4.2 == 0) = true → AQ ((slices_Equal_Record_t r4.1 (pontoonlaw08_records [1, 9, 2]))).toO), ((((r4.2 == 0) && (slices_Equal_Record r4.1 (pontoonlaw08_records [1, 9, 2]))) && (r8.2 == 0)) = true → LN STaskState.cells r8.1), (((((r4.2 == 0) && (slices_Equal_Record r4.1 (pontoonlaw08_records [1, 9, 2]))) && (r8.2 == 0)) && (((r8.1.length : Nat) : Int) == 4)) = true → IX STaskState.cells r8.1 2), ((((((r4.2 == 0) && (slices_Equal_Record r4.1 (pontoonlaw08_records [1, 9, 2]))) && (r8.2 == 0)) && (((r8.1.length : Nat) : Int) == 4)) && (((List.getD r8.1 2 default).State).Turn == 1)) = true → IX STaskState.cells r8.1 2), ((((((r4.2 == 0) && (slices_Equal_Record r4.1 (pontoonlaw08_records [1, 9, 2]))) && (r8.2 == 0)) && (((r8.1.length : Nat) : Int) == 4)) && (((List.getD r8.1 2 default).State).Turn == 1)) = true → LN cSl_SRecord_cells ((List.getD r8.1 2 default).Buffers)), (((((((r4.2 == 0) && (slices_Equal_Record r4.1 (pontoonlaw08_records [1, 9, 2]))) && (r8.2 == 0)) && (((r8.1.length : Nat) : Int) == 4)) && (((List.getD r8.1 2 default).State).Turn == 1)) && (((((List.getD r8.1 2 default).Buffers).length : Nat) : Int) == 2)) = true → IX STaskState.cells r8.1 2), (((((((r4.2 == 0) && (slices_Equal_Record r4.1 (pontoonlaw08_records [1, 9, 2]))) && (r8.2 == 0)) && (((r8.1.length : Nat) : Int) == 4)) && (((List.getD r8.1 2 default).State).Turn == 1)) && (((((List.getD r8.1 2 default).Buffers).length : Nat) : Int) == 2)) = true → IX cSl_SRecord_cells ((List.getD r8.1 2 default).Buffers) 0), (((((((r4.2 == 0) && (slices_Equal_Record r4.1 (pontoonlaw08_records [1, 9, 2]))) && (r8.2 == 0)) && (((r8.1.length : Nat) : Int) == 4)) && (((List.getD r8.1 2 default).State).Turn == 1)) && (((((List.getD r8.1 2 default).Buffers).length : Nat) : Int) == 2)) = true → LN SRecord.cells (List.getD ((List.getD r8.1 2 default).Buffers) 0 default))] ⟨[(0, (bo (((((((r4.2 == 0) && (slices_Equal_Record r4.1 (pontoonlaw08_records [1, 9, 2]))) && (r8.2 == 0)) && (((r8.1.length : Nat) : Int) == 4)) && (((List.getD r8.1 2 default).State).Turn == 1)) && (((((List.getD r8.1 2 default).Buffers).length : Nat) : Int) == 2)) && ((((List.getD ((List.getD r8.1 2 default).Buffers) 0 default).length : Nat) : Int) == 1))))], [], 6⟩ (by kernel_rfl) ⟨(fun _ => ⟨rfl, rfl⟩), (fun _ => ⟨rfl, rfl⟩), (fun _ => ln), (by intro h_0; simp only [GZ] at *; exact ix (by omega) (by omega)), (by intro h_0; simp only [GZ] at *; exact ix (by omega) (by omega)), (fun _ => ln), (by intro h_0; simp only [GZ] at *; exact ix (by omega) (by omega)), (by intro h_0; simp only [GZ] at *; exact ix (by omega) (by omega)), (fun _ => ln), trivial⟩ ?_
   subst hx0
   exact go_ret1 rfl
def pontoonlaw08_RunTurns (a0 : Int) (a1 : (List (List SRecord))) : Bool :=
  letIn (run_Turns a0 a1) fun r1 => letIn (pontoonref08_Turns a0 a1) fun r2 => (((pontoonlaw08_begun && (pontoonref08_SameRecords r1.1 r2.1)) && (r1.2.1 == r2.2.1)) && (slices_Equal_int r1.2.2 r2.2.2))
set_option maxRecDepth 10000 in
set_option maxHeartbeats 8000000 in
theorem pontoonlaw08_RunTurns_t (a0 : Int) (a1 : (List (List SRecord))) (hs : tot a1 ≤ 1048576) (z1 : (a1.length ≤ 4294967296 ∧ ∀ y ∈ a1, y.length ≤ 4294967296)) : FnP Try.prog 3 [(iV a0), (sL cSl_SRecord_cells a1)] ((bo (pontoonlaw08_RunTurns a0 a1))) := by
 refine FnP.intro (tt := tt) Try.func3 rfl (by kernel_rfl) (by simp [Try.ntmps3]) fun w0 A hA => ?_
 have hR := reckB_ok eqOk ttOk
 obtain ⟨res, hx0⟩ : ∃ r, pontoonlaw08_RunTurns a0 a1 = r := ⟨_, rfl⟩
 simp only [hx0]
 unfold pontoonlaw08_RunTurns at hx0
 simp only [argT, Try.ntmps3]
 try simp only [SZD] at z1
 obtain ⟨zz6, zz7⟩ := z1
 refine go_seq ?_
 refine go_rk eqOk ttOk [] [] ⟨[(0, (iV a0)), (1, (sL cSl_SRecord_cells a1))], [], 0⟩ (by kernel_rfl) trivial ?_
 refine go_seq ?_
 obtain ⟨r1, hr1, hx0⟩ := letIn_ex hx0
 have Cr1 := (run_Turns_t a0 a1 (by (try simp only [SZD]); (repeat' apply And.intro) <;> first | assumption | omega | (simp only [List.length_drop, List.length_take]; omega) | simp_all) (by (try simp only [SZD]); (repeat' apply And.intro) <;> first | assumption | omega | (simp only [List.length_drop, List.length_take]; omega) | simp_all))
 simp only [hr1] at Cr1
 refine go_rk eqOk ttOk [(2, .fn Cr1.toO)] [AQ Cr1.toO] ⟨[(0, (iV a0)), (1, (sL cSl_SRecord_cells a1)), (5, (sL SRecord.cells r1.1)), (6, (iV r1.2.1)), (7, (sL cI64 r1.2.2))], [], 0⟩ (by kernel_rfl) ⟨⟨rfl, rfl⟩, trivial⟩ ?_
 refine go_seq ?_
 obtain ⟨r2, hr2, hx0⟩ := letIn_ex hx0
 have Cr2 := (pontoonref08_Turns_t a0 a1 (by (try simp only [SZD]); (repeat' apply And.intro) <;> first | assumption | omega | (simp only [List.length_drop, List.length_take]; omega) | simp_all) (by (try simp only [SZD]); (repeat' apply And.intro) <;> first | assumption | omega | (simp only [List.length_drop, List.length_take]; omega) | simp_all))
 simp only [hr2] at Cr2
 refine go_rk eqOk ttOk [(2, .fn Cr2.toO)] [AQ Cr2.toO] ⟨[(5, (sL SRecord.cells r1.1)), (6, (iV r1.2.1)), (7, (sL cI64 r1.2.2)), (8, (sL SRecord.cells r2.1)), (9, (iV r2.2.1)), (10, (sL cI64 r2.2.2))], [], 0⟩ (by kernel_rfl) ⟨⟨rfl, rfl⟩, trivial⟩ ?_
 refine go_seq ?_
 refine go_rk eqOk ttOk [(0, .fn (pontoonlaw08_begun_t).toO), (4, .fn ((pontoonref08_SameRecords_t r1.1 r2.1)).toO), (14, .fn ((slices_Equal_int_t r1.2.2 r2.2.2)).toO)] [AQ (pontoonlaw08_begun_t).toO, (pontoonlaw08_begun = true → AQ ((pontoonref08_SameRecords_t r1.1 r2.1)).toO), (((pontoonlaw08_begun && (pontoonref08_SameRecords r1.1 r2.1)) && (r1.2.1 == r2.2.1)) = true → AQ ((slices_Equal_int_t r1.2.2 r2.2.2)).toO)] ⟨[(4, (bo (((pontoonlaw08_begun && (pontoonref08_SameRecords r1.1 r2.1)) && (r1.2.1 == r2.2.1)) && (slices_Equal_int r1.2.2 r2.2.2))))], [], 0⟩ (by kernel_rfl) ⟨⟨rfl, rfl⟩, (fun _ => ⟨rfl, rfl⟩), (fun _ => ⟨rfl, rfl⟩), trivial⟩ ?_
 subst hx0
 exact go_ret1 rfl
end Go.Ab.Try
