/-
  Functions, and what they compute: printed by wg.py, a program of this work.
-/
import Derived.Test.YtpfgofnmkaljaaaMg36
import Derived.Test.YtpfgofnmkaljaaaMg38
set_option linter.unusedVariables false
set_option linter.unusedSimpArgs false
namespace Go.Ab.Try
open Go Go.Proofs Go.Ab
def run_Turns_L0 (a1 : (List (List SRecord))) (x6 : Int) (x7 : List Int) (x8 : List SRecord) (x10 : Nat) : Int × (List Int) × (List SRecord) :=
  (if hx10 : 0 < x10 then (if h9 : (decide ((List.getD x7 (Int.toNat x6) default) ≥ (((List.getD a1 (Int.toNat x6) default).length : Nat) : Int))) = true then (x6, x7, x8) else (run_Turns_L0 a1 (Int.tmod (IntKind.i64.wrap (x6 + 1)) ((a1.length : Nat) : Int)) (List.set x7 (Int.toNat x6) (IntKind.i64.wrap ((List.getD x7 (Int.toNat x6) default) + 1))) (x8 ++ [(List.getD (List.getD a1 (Int.toNat x6) default) (Int.toNat (List.getD x7 (Int.toNat x6) default)) default)]) (x10 - 1))) else default)
termination_by x10
decreasing_by all_goals (try simp only [GZ] at *) <;> omega
def run_Turns (a0 : Int) (a1 : (List (List SRecord))) : (List SRecord) × Int × (List Int) :=
  (bif ((decide (a0 < 0)) || (decide (a0 ≥ ((a1.length : Nat) : Int)))) then ([], a0, (List.replicate a1.length 0)) else letIn (run_Turns_L0 a1 a0 (List.replicate a1.length 0) [] (tot a1 + 1)) fun o3 => (o3.2.2, o3.1, o3.2.1))
set_option maxRecDepth 10000 in
set_option maxHeartbeats 8000000 in
theorem run_Turns_t (a0 : Int) (a1 : (List (List SRecord))) (hs : tot a1 ≤ 25165824) (z1 : (a1.length ≤ 4294967296 ∧ ∀ y ∈ a1, y.length ≤ 4294967296)) : FnP Try.prog 12 [(iV a0), (sL cSl_SRecord_cells a1)] (.tup [(sL SRecord.cells ((run_Turns a0 a1).1)), (iV ((run_Turns a0 a1).2.1)), (sL cI64 ((run_Turns a0 a1).2.2))]) := by
 refine FnP.intro (tt := tt) Try.func12 rfl (by kernel_rfl) (by simp [Try.ntmps12]) fun w0 A hA => ?_
 have hR := reckB_ok eqOk ttOk
 obtain ⟨res, hx0⟩ : ∃ r, run_Turns a0 a1 = r := ⟨_, rfl⟩
 simp only [hx0]
 unfold run_Turns at hx0
 simp only [argT, Try.ntmps12]
 try simp only [SZD] at z1
 obtain ⟨zz11, zz12⟩ := z1
 refine go_seq ?_
 refine go_rk eqOk ttOk [] [] ⟨[(0, (iV a0)), (1, (sL cSl_SRecord_cells a1))], [], 0⟩ (by kernel_rfl) trivial ?_
 refine go_scope (fun _ _ _ h => h) ?_
 refine go_seq ?_
 refine go_rk eqOk ttOk [(1, .tell (iV ((a1.length : Nat) : Int))), (2, .mk (List.map cI64 (List.replicate a1.length 0)) a1.length)] [LN cSl_SRecord_cells a1, (((a1.length : Nat) : Int) : Int) = ((a1.length : Nat) : Int), MX 8 ((a1.length : Nat) : Int) cI64 0 a1.length] ⟨[(0, (iV a0)), (1, (sL cSl_SRecord_cells a1)), (7, .own 0 1 0 a1.length)], [(0, .acc 1 (List.map cI64 (List.replicate a1.length 0)) 3)], 1⟩ (by kernel_rfl) ⟨ln, rfl, (mx (by decide) (by (try simp only [NM]); omega)), trivial⟩ ?_
 refine go_seq ?_
 refine go_seq ?_
 refine go_rk eqOk ttOk [(5, .tell (iV ((a1.length : Nat) : Int)))] [((decide (a0 < 0)) = false → LN cSl_SRecord_cells a1)] ⟨[(0, (iV a0)), (1, (sL cSl_SRecord_cells a1)), (7, .own 0 1 0 a1.length), (19, (bo ((decide (a0 < 0)) || (decide (a0 ≥ ((a1.length : Nat) : Int))))))], [(0, .acc 1 (List.map cI64 (List.replicate a1.length 0)) 3)], 1⟩ (by kernel_rfl) ⟨(fun _ => ln), trivial⟩ ?_
 refine go_cond (by rfl) (fun h2 => ?_) (fun h2 => ?_)
 ·have gh2 := h2
  try simp only [GZ] at gh2
  replace hx0 := condT h2 hx0
  refine go_seq ?_
  refine go_rk eqOk ttOk [] [] ⟨[(4, nS), (5, (iV a0)), (6, .own 0 1 0 a1.length)], [(0, .acc 1 (List.map cI64 (List.replicate a1.length 0)) 3)], 1⟩ (by kernel_rfl) trivial ?_
  subst hx0
  exact go_ret1 rfl
 ·have gh2 := h2
  try simp only [GZ] at gh2
  replace hx0 := condF h2 hx0
  refine go_skip ?_
  refine go_seq ?_
  refine go_rk eqOk ttOk [] [] ⟨[(0, (iV a0)), (1, (sL cSl_SRecord_cells a1)), (7, .own 0 1 0 a1.length), (8, nS)], [(0, .acc 1 (List.map cI64 (List.replicate a1.length 0)) 3)], 1⟩ (by kernel_rfl) trivial ?_
  refine go_nilOwn 8 2 34 rfl ?_
  refine go_weak (s' := ⟨[(0, (iV a0)), (1, (sL cSl_SRecord_cells a1)), (7, .own 0 1 0 a1.length), (8, .own 1 2 0 0)], [(0, .acc 1 (List.map cI64 (List.replicate a1.length 0)) 3), (1, .acc 2 (List.map SRecord.cells []) 34)], 2⟩) (Weak.sub' (by repeat (first | exact trivial | refine ⟨rfl, ?_⟩)) (by repeat (first | exact trivial | refine ⟨rfl, ?_⟩)) (by exact Nat.le_of_ble_eq_true rfl)) ?_
  refine go_seq ?_
  refine go_label ?_
  refine go_seq ?_
  obtain ⟨o3, hx1, hx0⟩ := letIn_ex hx0
  refine go_joinE (fun p : Int × (List Int) × (List SRecord) => ⟨[(0, (iV p.1)), (7, .own 0 1 0 p.2.1.length), (8, .own 1 2 0 p.2.2.length)], [(0, .acc 1 (List.map cI64 p.2.1) 3), (1, .acc 2 (List.map SRecord.cells p.2.2) 34)], 2⟩) (fun p : Int × (List Int) × (List SRecord) => o3 = p) ?_ ?_
  ·refine go_block ?_
   refine go_len (t := 1) rfl (fun hl13 => ?_)
   simp only [List.length_map, maxLen_eq] at hl13
   refine go_loop (fun p : Int × (List Int) × (List SRecord) × Nat => ⟨[(0, (iV p.1)), (1, (sL cSl_SRecord_cells a1)), (7, .own 0 1 0 p.2.1.length), (8, .own 1 2 0 p.2.2.1.length)], [(0, .acc 1 (List.map cI64 p.2.1) 3), (1, .acc 2 (List.map SRecord.cells p.2.2.1) 34)], 2⟩) (fun p : Int × (List Int) × (List SRecord) × Nat => (TIn a1 p.1 p.2.1 p.2.2.1 ∧ 0 < p.2.2.2 ∧ tot a1 < p.2.2.2 + p.2.2.1.length) ∧ run_Turns_L0 a1 p.1 p.2.1 p.2.2.1 p.2.2.2 = o3) (fun p : Int × (List Int) × (List SRecord) × Nat => p.2.2.2) (a0, (List.replicate a1.length 0), [], tot a1 + 1) ⟨⟨TIn.start (by omega) (by omega), Nat.succ_pos _, by simp only [List.length_nil]; omega⟩, hx1⟩ (Weak.cn [0, 1] [0, 1, 7, 8] rfl rfl rfl) ?_
   rintro ⟨x6, x7, x8, x10⟩ ⟨hi14, hx1⟩
   try dsimp only at hi14 hx1 ⊢
   rw [run_Turns_L0.eq_def] at hx1
   have hA := hi14.1.lo
   have hB := hi14.1.hi
   have hC := hi14.1.len
   have hD := hi14.1.at'
   have hE := hi14.1.lt
   have hF := hi14.1.bound
   have hG := hi14.2.1
   have hH := hi14.2.2
   have hI := hi14.1.next (by omega)
   rw [dif_pos (show 0 < x10 by omega)] at hx1
   refine go_block ?_
   refine go_seq ?_
   refine go_seq ?_
   have bq15 : (Int.toNat x6) < a1.length := by omega
   have zq15 : (List.getD a1 (Int.toNat x6) default).length ≤ 4294967296 := (by assumption : ∀ y ∈ a1, y.length ≤ 4294967296) _ (getD_mem a1 (Int.toNat x6) default bq15)
   refine go_dk eqOk ttOk rfl [(2, .at), (3, .row (cI64 (List.getD x7 (Int.toNat x6) default))), (6, .row (cSl_SRecord_cells (List.getD a1 (Int.toNat x6) default))), (8, .tell (iV (((List.getD a1 (Int.toNat x6) default).length : Nat) : Int)))] [IxO x6 x7.length, RX cI64 x7 (Int.toNat x6), IX cSl_SRecord_cells a1 x6, LN SRecord.cells (List.getD a1 (Int.toNat x6) default)] ⟨[(0, (iV x6)), (1, (sL cSl_SRecord_cells a1)), (7, .own 0 1 0 x7.length), (8, .own 1 2 0 x8.length), (31, (bo (decide ((List.getD x7 (Int.toNat x6) default) ≥ (((List.getD a1 (Int.toNat x6) default).length : Nat) : Int)))))], [(0, .acc 1 (List.map cI64 x7) 3), (1, .acc 2 (List.map SRecord.cells x8) 34)], 2⟩ (by kernel_rfl) ⟨(ixoI (by omega) (by (try simp only [NM, List.length_set, List.length_replicate]); omega)), (rx (by (try simp only [NM, List.length_set, List.length_replicate]); omega)), (ix (by omega) (by omega)), ln, trivial⟩ ?_
   refine go_cond (by rfl) (fun h9 => ?_) (fun h9 => ?_)
   ·have gh9 := h9
    try simp only [GZ] at gh9
    replace hx1 := iteT h9 hx1
    refine go_exit rfl ?_
    exact go_fin ⟨(x6, x7, x8), hx1.symm, (Weak.cn [0, 1] [0, 7, 8] rfl rfl rfl)⟩
   ·have gh9 := h9
    try simp only [GZ] at gh9
    replace hx1 := iteF h9 hx1
    refine go_skip ?_
    refine go_seq ?_
    have bq17 : (Int.toNat x6) < a1.length := by omega
    have zq17 : (List.getD a1 (Int.toNat x6) default).length ≤ 4294967296 := (by assumption : ∀ y ∈ a1, y.length ≤ 4294967296) _ (getD_mem a1 (Int.toNat x6) default bq17)
    have bq19 : (Int.toNat (List.getD x7 (Int.toNat x6) default)) < (List.getD a1 (Int.toNat x6) default).length := by omega
    refine go_dk eqOk ttOk rfl [(3, .row (cSl_SRecord_cells (List.getD a1 (Int.toNat x6) default))), (7, .at), (8, .row (cI64 (List.getD x7 (Int.toNat x6) default))), (9, .row (SRecord.cells (List.getD (List.getD a1 (Int.toNat x6) default) (Int.toNat (List.getD x7 (Int.toNat x6) default)) default))), (12, .app (List.map SRecord.cells [(List.getD (List.getD a1 (Int.toNat x6) default) (Int.toNat (List.getD x7 (Int.toNat x6) default)) default)]) (List.map SRecord.cells (x8 ++ [(List.getD (List.getD a1 (Int.toNat x6) default) (Int.toNat (List.getD x7 (Int.toNat x6) default)) default)])) ((x8 ++ [(List.getD (List.getD a1 (Int.toNat x6) default) (Int.toNat (List.getD x7 (Int.toNat x6) default)) default)]).length))] [IX cSl_SRecord_cells a1 x6, IxO x6 x7.length, RX cI64 x7 (Int.toNat x6), IX SRecord.cells (List.getD a1 (Int.toNat x6) default) (List.getD x7 (Int.toNat x6) default), OX SRecord.cells [(List.getD (List.getD a1 (Int.toNat x6) default) (Int.toNat (List.getD x7 (Int.toNat x6) default)) default)] 0 1 [(List.getD (List.getD a1 (Int.toNat x6) default) (Int.toNat (List.getD x7 (Int.toNat x6) default)) default)], AX 2 16 SRecord.cells x8 [(List.getD (List.getD a1 (Int.toNat x6) default) (Int.toNat (List.getD x7 (Int.toNat x6) default)) default)]] ⟨[(0, (iV x6)), (1, (sL cSl_SRecord_cells a1)), (7, .own 0 1 0 x7.length), (8, .own 1 2 0 ((x8 ++ [(List.getD (List.getD a1 (Int.toNat x6) default) (Int.toNat (List.getD x7 (Int.toNat x6) default)) default)]).length))], [(0, .acc 1 (List.map cI64 x7) 3), (1, .acc 2 (List.map SRecord.cells (x8 ++ [(List.getD (List.getD a1 (Int.toNat x6) default) (Int.toNat (List.getD x7 (Int.toNat x6) default)) default)])) 34)], 3⟩ (by kernel_rfl) ⟨(ix (by omega) (by omega)), (ixoI (by omega) (by (try simp only [NM, List.length_set, List.length_replicate]); omega)), (rx (by (try simp only [NM, List.length_set, List.length_replicate]); omega)), (ix (by omega) (by omega)), ox, (ax (fun _ => rfl) (by decide) (by (try simp only [NM, List.length_take, List.length_drop]); omega)), trivial⟩ ?_
    refine go_seq ?_
    refine go_rk eqOk ttOk [(2, .at), (3, .row (cI64 (List.getD x7 (Int.toNat x6) default))), (5, .at), (6, .put (cI64 (List.getD x7 (Int.toNat x6) default)) (List.map cI64 (List.set x7 (Int.toNat x6) (IntKind.i64.wrap ((List.getD x7 (Int.toNat x6) default) + 1)))))] [IxO x6 x7.length, RX cI64 x7 (Int.toNat x6), IxO x6 x7.length, RX cI64 x7 (Int.toNat x6), PX cI64 x7 (Int.toNat x6) (cI64 (IntKind.i64.wrap ((List.getD x7 (Int.toNat x6) default) + 1))) (IntKind.i64.wrap ((List.getD x7 (Int.toNat x6) default) + 1))] ⟨[(0, (iV x6)), (1, (sL cSl_SRecord_cells a1)), (7, .own 0 1 0 x7.length), (8, .own 1 2 0 ((x8 ++ [(List.getD (List.getD a1 (Int.toNat x6) default) (Int.toNat (List.getD x7 (Int.toNat x6) default)) default)]).length))], [(0, .acc 1 (List.map cI64 (List.set x7 (Int.toNat x6) (IntKind.i64.wrap ((List.getD x7 (Int.toNat x6) default) + 1)))) 3), (1, .acc 2 (List.map SRecord.cells (x8 ++ [(List.getD (List.getD a1 (Int.toNat x6) default) (Int.toNat (List.getD x7 (Int.toNat x6) default)) default)])) 34)], 3⟩ (by kernel_rfl) ⟨(ixoI (by omega) (by (try simp only [NM, List.length_set, List.length_replicate]); omega)), (rx (by (try simp only [NM, List.length_set, List.length_replicate]); omega)), (ixoI (by omega) (by (try simp only [NM, List.length_set, List.length_replicate]); omega)), (rx (by (try simp only [NM, List.length_set, List.length_replicate]); omega)), px, trivial⟩ ?_
    refine go_rk eqOk ttOk [(3, .tell (iV ((a1.length : Nat) : Int)))] [LN cSl_SRecord_cells a1, DV ((a1.length : Nat) : Int)] ⟨[(0, (iV (Int.tmod (IntKind.i64.wrap (x6 + 1)) ((a1.length : Nat) : Int)))), (1, (sL cSl_SRecord_cells a1)), (7, .own 0 1 0 x7.length), (8, .own 1 2 0 ((x8 ++ [(List.getD (List.getD a1 (Int.toNat x6) default) (Int.toNat (List.getD x7 (Int.toNat x6) default)) default)]).length))], [(0, .acc 1 (List.map cI64 (List.set x7 (Int.toNat x6) (IntKind.i64.wrap ((List.getD x7 (Int.toNat x6) default) + 1)))) 3), (1, .acc 2 (List.map SRecord.cells (x8 ++ [(List.getD (List.getD a1 (Int.toNat x6) default) (Int.toNat (List.getD x7 (Int.toNat x6) default)) default)])) 34)], 3⟩ (by kernel_rfl) ⟨ln, (dv (by first | decide | omega)), trivial⟩ ?_
    refine go_blk ?_
    exact go_fin ⟨((Int.tmod (IntKind.i64.wrap (x6 + 1)) ((a1.length : Nat) : Int)), (List.set x7 (Int.toNat x6) (IntKind.i64.wrap ((List.getD x7 (Int.toNat x6) default) + 1))), (x8 ++ [(List.getD (List.getD a1 (Int.toNat x6) default) (Int.toNat (List.getD x7 (Int.toNat x6) default)) default)]), (x10 - 1)), ⟨⟨hi14.1.step rfl (by omega) (wrap1 (by omega) (by omega)) hI, by dsimp only; omega, by simp only [List.length_append, List.length_cons, List.length_nil]; omega⟩, hx1⟩, by first | omega | (dsimp only; omega), (Weak.cn [0, 1] [0, 1, 7, 8] rfl rfl rfl)⟩
  ·rintro o3_ hp
   try dsimp only at hp
   subst hp
   refine go_seq ?_
   refine go_rk eqOk ttOk [] [] ⟨[(4, .own 1 2 0 o3.2.2.length), (5, (iV o3.1)), (6, .own 0 1 0 o3.2.1.length)], [(0, .acc 1 (List.map cI64 o3.2.1) 3), (1, .acc 2 (List.map SRecord.cells o3.2.2) 34)], 2⟩ (by kernel_rfl) trivial ?_
   subst hx0
   exact go_ret1 rfl
def pontoonref08_Turns_L0 (a1 : (List (List SRecord))) (x4 : Nat) (x5 : List Int) : List Int :=
  (if h6 : (decide (((x4 : Nat) : Int) < ((a1.length : Nat) : Int))) = true then (pontoonref08_Turns_L0 a1 (x4 + 1) (x5 ++ [0])) else x5)
termination_by a1.length - x4
decreasing_by all_goals (try simp only [GZ] at *) <;> omega
def pontoonref08_Turns_L1 (a1 : (List (List SRecord))) (x13 : Int) (x14 : List SRecord) (x15 : List Int) (x20 : Nat) : Int × (List SRecord) × (List Int) :=
  (if hx20 : 0 < x20 then (if h18 : (((decide (x13 ≥ 0)) && (decide (x13 < ((a1.length : Nat) : Int)))) && (decide ((List.getD x15 (Int.toNat x13) default) < (((List.getD a1 (Int.toNat x13) default).length : Nat) : Int)))) = true then (if h19 : ((IntKind.i64.wrap (x13 + 1)) == ((a1.length : Nat) : Int)) = true then (pontoonref08_Turns_L1 a1 0 (x14 ++ [(List.getD (List.getD a1 (Int.toNat x13) default) (Int.toNat (List.getD x15 (Int.toNat x13) default)) default)]) (List.set x15 (Int.toNat x13) (IntKind.i64.wrap ((List.getD x15 (Int.toNat x13) default) + 1))) (x20 - 1)) else (pontoonref08_Turns_L1 a1 (IntKind.i64.wrap (x13 + 1)) (x14 ++ [(List.getD (List.getD a1 (Int.toNat x13) default) (Int.toNat (List.getD x15 (Int.toNat x13) default)) default)]) (List.set x15 (Int.toNat x13) (IntKind.i64.wrap ((List.getD x15 (Int.toNat x13) default) + 1))) (x20 - 1))) else (x13, x14, x15)) else default)
termination_by x20
decreasing_by all_goals (try simp only [GZ] at *) <;> omega
def pontoonref08_Turns (a0 : Int) (a1 : (List (List SRecord))) : (List SRecord) × Int × (List Int) :=
  letIn (pontoonref08_Turns_L0 a1 0 []) fun o1 => letIn (pontoonref08_Turns_L1 a1 a0 [] o1 (tot a1 + 1)) fun o7 => (o7.2.1, o7.1, o7.2.2)
set_option maxRecDepth 10000 in
set_option maxHeartbeats 8000000 in
theorem pontoonref08_Turns_t (a0 : Int) (a1 : (List (List SRecord))) (hs : tot a1 ≤ 25165824) (z1 : (a1.length ≤ 4294967296 ∧ ∀ y ∈ a1, y.length ≤ 4294967296)) : FnP Try.prog 13 [(iV a0), (sL cSl_SRecord_cells a1)] (.tup [(sL SRecord.cells ((pontoonref08_Turns a0 a1).1)), (iV ((pontoonref08_Turns a0 a1).2.1)), (sL cI64 ((pontoonref08_Turns a0 a1).2.2))]) := by
 refine FnP.intro (tt := tt) Try.func13 rfl (by kernel_rfl) (by simp [Try.ntmps13]) fun w0 A hA => ?_
 have hR := reckB_ok eqOk ttOk
 obtain ⟨res, hx0⟩ : ∃ r, pontoonref08_Turns a0 a1 = r := ⟨_, rfl⟩
 simp only [hx0]
 unfold pontoonref08_Turns at hx0
 simp only [argT, Try.ntmps13]
 try simp only [SZD] at z1
 obtain ⟨zz21, zz22⟩ := z1
 refine go_seq ?_
 refine go_rk eqOk ttOk [] [] ⟨[(0, (iV a0)), (1, (sL cSl_SRecord_cells a1))], [], 0⟩ (by kernel_rfl) trivial ?_
 refine go_seq ?_
 refine go_rk eqOk ttOk [] [] ⟨[(0, (iV a0)), (1, (sL cSl_SRecord_cells a1)), (7, nS)], [], 0⟩ (by kernel_rfl) trivial ?_
 refine go_nilOwn 7 2 34 rfl ?_
 refine go_weak (s' := ⟨[(0, (iV a0)), (1, (sL cSl_SRecord_cells a1)), (7, .own 0 2 0 0)], [(0, .acc 2 (List.map SRecord.cells []) 34)], 1⟩) (Weak.sub' (by repeat (first | exact trivial | refine ⟨rfl, ?_⟩)) (by repeat (first | exact trivial | refine ⟨rfl, ?_⟩)) (by exact Nat.le_of_ble_eq_true rfl)) ?_
 refine go_seq ?_
 refine go_rk eqOk ttOk [] [] ⟨[(0, (iV a0)), (1, (sL cSl_SRecord_cells a1)), (7, .own 0 2 0 0), (8, nS)], [(0, .acc 2 (List.map SRecord.cells []) 34)], 1⟩ (by kernel_rfl) trivial ?_
 refine go_nilOwn 8 1 3 rfl ?_
 refine go_weak (s' := ⟨[(0, (iV a0)), (1, (sL cSl_SRecord_cells a1)), (7, .own 0 2 0 0), (8, .own 1 1 0 0)], [(0, .acc 2 (List.map SRecord.cells []) 34), (1, .acc 1 (List.map cI64 []) 3)], 2⟩) (Weak.sub' (by repeat (first | exact trivial | refine ⟨rfl, ?_⟩)) (by repeat (first | exact trivial | refine ⟨rfl, ?_⟩)) (by exact Nat.le_of_ble_eq_true rfl)) ?_
 refine go_seq ?_
 refine go_seq ?_
 refine go_rk eqOk ttOk [] [] ⟨[(0, (iV a0)), (1, (sL cSl_SRecord_cells a1)), (7, .own 0 2 0 0), (8, .own 1 1 0 0), (9, (iV 0))], [(0, .acc 2 (List.map SRecord.cells []) 34), (1, .acc 1 (List.map cI64 []) 3)], 2⟩ (by kernel_rfl) trivial ?_
 obtain ⟨o1, hx1, hx0⟩ := letIn_ex hx0
 refine go_joinE (fun p : List Int => ⟨[(0, (iV a0)), (1, (sL cSl_SRecord_cells a1)), (7, .own 0 2 0 0), (8, .own 1 1 0 p.length)], [(0, .acc 2 (List.map SRecord.cells []) 34), (1, .acc 1 (List.map cI64 p) 3)], 2⟩) (fun p : List Int => o1 = p ∧ (p = List.replicate a1.length 0)) ?_ ?_
 ·refine go_block ?_
  refine go_len (t := 1) rfl (fun hl23 => ?_)
  simp only [List.length_map, maxLen_eq] at hl23
  refine go_loop (fun p : Nat × (List Int) => ⟨[(0, (iV a0)), (1, (sL cSl_SRecord_cells a1)), (7, .own 0 2 0 0), (8, .own 1 1 0 p.2.length), (9, (iV ((p.1 : Nat) : Int)))], [(0, .acc 2 (List.map SRecord.cells []) 34), (1, .acc 1 (List.map cI64 p.2) 3)], 2⟩) (fun p : Nat × (List Int) => (p.1 ≤ a1.length ∧ p.2 = List.replicate p.1 0) ∧ pontoonref08_Turns_L0 a1 p.1 p.2 = o1) (fun p : Nat × (List Int) => a1.length - p.1) (0, []) ⟨⟨Nat.zero_le _, rfl⟩, hx1⟩ (Weak.cn [0, 1] [0, 1, 7, 8, 9] rfl rfl rfl) ?_
  rintro ⟨x4, x5⟩ ⟨hi24, hx1⟩
  try dsimp only at hi24 hx1 ⊢
  rw [pontoonref08_Turns_L0.eq_def] at hx1
  have hL : x5.length = x4 := by rw [hi24.2, List.length_replicate]
  refine go_seq ?_
  refine go_seq ?_
  refine go_rk eqOk ttOk [(2, .tell (iV ((a1.length : Nat) : Int)))] [LN cSl_SRecord_cells a1] ⟨[(0, (iV a0)), (1, (sL cSl_SRecord_cells a1)), (7, .own 0 2 0 0), (8, .own 1 1 0 x5.length), (9, (iV ((x4 : Nat) : Int))), (13, (bo (decide (((x4 : Nat) : Int) < ((a1.length : Nat) : Int)))))], [(0, .acc 2 (List.map SRecord.cells []) 34), (1, .acc 1 (List.map cI64 x5) 3)], 2⟩ (by kernel_rfl) ⟨ln, trivial⟩ ?_
  refine go_cond (by rfl) (fun h6 => ?_) (fun h6 => ?_)
  ·have gh6 := h6
   try simp only [GZ] at gh6
   replace hx1 := iteT h6 hx1
   refine go_skip ?_
   refine go_seq ?_
   refine go_block ?_
   refine go_rk eqOk ttOk [(2, .app (List.map cI64 [0]) (List.map cI64 (x5 ++ [0])) ((x5 ++ [0]).length))] [OX cI64 [0] 0 1 [0], AX 1 8 cI64 x5 [0]] ⟨[(0, (iV a0)), (1, (sL cSl_SRecord_cells a1)), (7, .own 0 2 0 0), (8, .own 1 1 0 ((x5 ++ [0]).length)), (9, (iV ((x4 : Nat) : Int)))], [(0, .acc 2 (List.map SRecord.cells []) 34), (1, .acc 1 (List.map cI64 (x5 ++ [0])) 3)], 3⟩ (by kernel_rfl) ⟨ox, (ax (fun _ => rfl) (by decide) (by (try simp only [NM, List.length_take, List.length_drop]); omega)), trivial⟩ ?_
   refine go_blk ?_
   refine go_rk eqOk ttOk [(1, .tell (iV ((x4 + 1 : Nat) : Int)))] [WR (((x4 : Nat) : Int) + 1) ((x4 + 1 : Nat) : Int)] ⟨[(0, (iV a0)), (1, (sL cSl_SRecord_cells a1)), (7, .own 0 2 0 0), (8, .own 1 1 0 ((x5 ++ [0]).length)), (9, (iV ((x4 + 1 : Nat) : Int)))], [(0, .acc 2 (List.map SRecord.cells []) 34), (1, .acc 1 (List.map cI64 (x5 ++ [0])) 3)], 3⟩ (by kernel_rfl) ⟨(wr (by omega) (by omega) (by omega)), trivial⟩ ?_
   exact go_fin ⟨(x4 + 1, (x5 ++ [0])), ⟨⟨by (try dsimp only); omega, by rw [hi24.2, List.replicate_succ']⟩, hx1⟩, by first | omega | (dsimp only; omega), (Weak.cn [0, 1] [0, 1, 7, 8, 9] rfl rfl rfl)⟩
  ·have gh6 := h6
   try simp only [GZ] at gh6
   replace hx1 := iteF h6 hx1
   refine go_exit rfl ?_
   exact go_fin ⟨x5, ⟨hx1.symm, by rw [hi24.2]; congr 1; omega⟩, (Weak.cn [0, 1] [0, 1, 7, 8] rfl rfl rfl)⟩
 ·rintro o1_ ⟨hp, hqo1⟩
  try dsimp only at hqo1
  try dsimp only at hp
  subst hp
  refine go_seq ?_
  obtain ⟨o7, hx1, hx0⟩ := letIn_ex hx0
  refine go_joinE (fun p : Int × (List SRecord) × (List Int) => ⟨[(0, (iV p.1)), (7, .own 0 2 0 p.2.1.length), (8, .own 1 1 0 p.2.2.length)], [(0, .acc 2 (List.map SRecord.cells p.2.1) 34), (1, .acc 1 (List.map cI64 p.2.2) 3)], 2⟩) (fun p : Int × (List SRecord) × (List Int) => o7 = p) ?_ ?_
  ·refine go_block ?_
   refine go_loop (fun p : Int × (List SRecord) × (List Int) × Nat => ⟨[(0, (iV p.1)), (1, (sL cSl_SRecord_cells a1)), (7, .own 0 2 0 p.2.1.length), (8, .own 1 1 0 p.2.2.1.length)], [(0, .acc 2 (List.map SRecord.cells p.2.1) 34), (1, .acc 1 (List.map cI64 p.2.2.1) 3)], 2⟩) (fun p : Int × (List SRecord) × (List Int) × Nat => ((0 ≤ p.1 ∧ p.1 < (a1.length : Int) → TIn a1 p.1 p.2.2.1 p.2.1) ∧ 0 < p.2.2.2 ∧ tot a1 < p.2.2.2 + p.2.1.length) ∧ pontoonref08_Turns_L1 a1 p.1 p.2.1 p.2.2.1 p.2.2.2 = o7) (fun p : Int × (List SRecord) × (List Int) × Nat => p.2.2.2) (a0, [], o1, tot a1 + 1) ⟨⟨fun h => hqo1 ▸ TIn.start h.1 h.2, Nat.succ_pos _, by simp only [List.length_nil]; omega⟩, hx1⟩ (Weak.cn [0, 1] [0, 1, 7, 8] rfl rfl rfl) ?_
   rintro ⟨x13, x14, x15, x20⟩ ⟨hi25, hx1⟩
   try dsimp only at hi25 hx1 ⊢
   rw [pontoonref08_Turns_L1.eq_def] at hx1
   have hC : 0 ≤ x13 ∧ x13 < (a1.length : Int) → x15.length = a1.length := fun h => (hi25.1 h).len
   have hD : 0 ≤ x13 ∧ x13 < (a1.length : Int) → 0 ≤ List.getD x15 (Int.toNat x13) default ∧ List.getD x15 (Int.toNat x13) default ≤ ((List.getD a1 (Int.toNat x13) default).length : Int) := fun h => (hi25.1 h).at'
   have hE : 0 ≤ x13 ∧ x13 < (a1.length : Int) → List.getD x15 (Int.toNat x13) default < ((List.getD a1 (Int.toNat x13) default).length : Int) → x14.length < tot a1 := fun h => (hi25.1 h).lt
   have hG := hi25.2.1
   have hH := hi25.2.2
   have hI := @wrap1 x13
   rw [dif_pos (show 0 < x20 by omega)] at hx1
   refine go_seq ?_
   refine go_seq ?_
   refine go_gk eqOk ttOk rfl [(5, .tell (iV ((a1.length : Nat) : Int))), (11, .at), (12, .row (cI64 (List.getD x15 (Int.toNat x13) default))), (15, .row (cSl_SRecord_cells (List.getD a1 (Int.toNat x13) default))), (17, .tell (iV (((List.getD a1 (Int.toNat x13) default).length : Nat) : Int)))] [((decide (x13 ≥ 0)) = true → LN cSl_SRecord_cells a1), (((decide (x13 ≥ 0)) && (decide (x13 < ((a1.length : Nat) : Int)))) = true → IxO x13 x15.length), (((decide (x13 ≥ 0)) && (decide (x13 < ((a1.length : Nat) : Int)))) = true → RX cI64 x15 (Int.toNat x13)), (((decide (x13 ≥ 0)) && (decide (x13 < ((a1.length : Nat) : Int)))) = true → IX cSl_SRecord_cells a1 x13), (((decide (x13 ≥ 0)) && (decide (x13 < ((a1.length : Nat) : Int)))) = true → LN SRecord.cells (List.getD a1 (Int.toNat x13) default))] ⟨[(0, (iV x13)), (1, (sL cSl_SRecord_cells a1)), (7, .own 0 2 0 x14.length), (8, .own 1 1 0 x15.length), (38, (bo (((decide (x13 ≥ 0)) && (decide (x13 < ((a1.length : Nat) : Int)))) && (decide ((List.getD x15 (Int.toNat x13) default) < (((List.getD a1 (Int.toNat x13) default).length : Nat) : Int))))))], [(0, .acc 2 (List.map SRecord.cells x14) 34), (1, .acc 1 (List.map cI64 x15) 3)], 2⟩ (by kernel_rfl) ⟨(fun _ => ln), (by intro h_0; simp only [GZ] at *; exact (ixoI (by omega) (by (try simp only [NM, List.length_set, List.length_replicate]); omega))), (by intro h_0; simp only [GZ] at *; exact (rx (by (try simp only [NM, List.length_set, List.length_replicate]); omega))), (by intro h_0; simp only [GZ] at *; exact ix (by omega) (by omega)), (fun _ => ln), trivial⟩ ?_
   refine go_cond (by rfl) (fun h18 => ?_) (fun h18 => ?_)
   ·have gh18 := h18
    try simp only [GZ] at gh18
    replace hx1 := iteT h18 hx1
    refine go_skip ?_
    refine go_block ?_
    refine go_seq ?_
    have bq26 : (Int.toNat x13) < a1.length := by omega
    have zq26 : (List.getD a1 (Int.toNat x13) default).length ≤ 4294967296 := (by assumption : ∀ y ∈ a1, y.length ≤ 4294967296) _ (getD_mem a1 (Int.toNat x13) default bq26)
    have bq28 : (Int.toNat (List.getD x15 (Int.toNat x13) default)) < (List.getD a1 (Int.toNat x13) default).length := by omega
    refine go_dk eqOk ttOk rfl [(3, .row (cSl_SRecord_cells (List.getD a1 (Int.toNat x13) default))), (7, .at), (8, .row (cI64 (List.getD x15 (Int.toNat x13) default))), (9, .row (SRecord.cells (List.getD (List.getD a1 (Int.toNat x13) default) (Int.toNat (List.getD x15 (Int.toNat x13) default)) default))), (12, .app (List.map SRecord.cells [(List.getD (List.getD a1 (Int.toNat x13) default) (Int.toNat (List.getD x15 (Int.toNat x13) default)) default)]) (List.map SRecord.cells (x14 ++ [(List.getD (List.getD a1 (Int.toNat x13) default) (Int.toNat (List.getD x15 (Int.toNat x13) default)) default)])) ((x14 ++ [(List.getD (List.getD a1 (Int.toNat x13) default) (Int.toNat (List.getD x15 (Int.toNat x13) default)) default)]).length))] [IX cSl_SRecord_cells a1 x13, IxO x13 x15.length, RX cI64 x15 (Int.toNat x13), IX SRecord.cells (List.getD a1 (Int.toNat x13) default) (List.getD x15 (Int.toNat x13) default), OX SRecord.cells [(List.getD (List.getD a1 (Int.toNat x13) default) (Int.toNat (List.getD x15 (Int.toNat x13) default)) default)] 0 1 [(List.getD (List.getD a1 (Int.toNat x13) default) (Int.toNat (List.getD x15 (Int.toNat x13) default)) default)], AX 2 16 SRecord.cells x14 [(List.getD (List.getD a1 (Int.toNat x13) default) (Int.toNat (List.getD x15 (Int.toNat x13) default)) default)]] ⟨[(0, (iV x13)), (1, (sL cSl_SRecord_cells a1)), (7, .own 0 2 0 ((x14 ++ [(List.getD (List.getD a1 (Int.toNat x13) default) (Int.toNat (List.getD x15 (Int.toNat x13) default)) default)]).length)), (8, .own 1 1 0 x15.length)], [(0, .acc 2 (List.map SRecord.cells (x14 ++ [(List.getD (List.getD a1 (Int.toNat x13) default) (Int.toNat (List.getD x15 (Int.toNat x13) default)) default)])) 34), (1, .acc 1 (List.map cI64 x15) 3)], 3⟩ (by kernel_rfl) ⟨(ix (by omega) (by omega)), (ixoI (by omega) (by (try simp only [NM, List.length_set, List.length_replicate]); omega)), (rx (by (try simp only [NM, List.length_set, List.length_replicate]); omega)), (ix (by omega) (by omega)), ox, (ax (fun _ => rfl) (by decide) (by (try simp only [NM, List.length_take, List.length_drop]); omega)), trivial⟩ ?_
    refine go_seq ?_
    refine go_rk eqOk ttOk [(2, .at), (3, .row (cI64 (List.getD x15 (Int.toNat x13) default))), (5, .at), (6, .put (cI64 (List.getD x15 (Int.toNat x13) default)) (List.map cI64 (List.set x15 (Int.toNat x13) (IntKind.i64.wrap ((List.getD x15 (Int.toNat x13) default) + 1)))))] [IxO x13 x15.length, RX cI64 x15 (Int.toNat x13), IxO x13 x15.length, RX cI64 x15 (Int.toNat x13), PX cI64 x15 (Int.toNat x13) (cI64 (IntKind.i64.wrap ((List.getD x15 (Int.toNat x13) default) + 1))) (IntKind.i64.wrap ((List.getD x15 (Int.toNat x13) default) + 1))] ⟨[(0, (iV x13)), (1, (sL cSl_SRecord_cells a1)), (7, .own 0 2 0 ((x14 ++ [(List.getD (List.getD a1 (Int.toNat x13) default) (Int.toNat (List.getD x15 (Int.toNat x13) default)) default)]).length)), (8, .own 1 1 0 x15.length)], [(0, .acc 2 (List.map SRecord.cells (x14 ++ [(List.getD (List.getD a1 (Int.toNat x13) default) (Int.toNat (List.getD x15 (Int.toNat x13) default)) default)])) 34), (1, .acc 1 (List.map cI64 (List.set x15 (Int.toNat x13) (IntKind.i64.wrap ((List.getD x15 (Int.toNat x13) default) + 1)))) 3)], 3⟩ (by kernel_rfl) ⟨(ixoI (by omega) (by (try simp only [NM, List.length_set, List.length_replicate]); omega)), (rx (by (try simp only [NM, List.length_set, List.length_replicate]); omega)), (ixoI (by omega) (by (try simp only [NM, List.length_set, List.length_replicate]); omega)), (rx (by (try simp only [NM, List.length_set, List.length_replicate]); omega)), px, trivial⟩ ?_
    refine go_seq ?_
    refine go_rk eqOk ttOk [] [] ⟨[(0, (iV (IntKind.i64.wrap (x13 + 1)))), (1, (sL cSl_SRecord_cells a1)), (7, .own 0 2 0 ((x14 ++ [(List.getD (List.getD a1 (Int.toNat x13) default) (Int.toNat (List.getD x15 (Int.toNat x13) default)) default)]).length)), (8, .own 1 1 0 x15.length)], [(0, .acc 2 (List.map SRecord.cells (x14 ++ [(List.getD (List.getD a1 (Int.toNat x13) default) (Int.toNat (List.getD x15 (Int.toNat x13) default)) default)])) 34), (1, .acc 1 (List.map cI64 (List.set x15 (Int.toNat x13) (IntKind.i64.wrap ((List.getD x15 (Int.toNat x13) default) + 1)))) 3)], 3⟩ (by kernel_rfl) trivial ?_
    refine go_seq ?_
    refine go_rk eqOk ttOk [(2, .tell (iV ((a1.length : Nat) : Int)))] [LN cSl_SRecord_cells a1] ⟨[(0, (iV (IntKind.i64.wrap (x13 + 1)))), (1, (sL cSl_SRecord_cells a1)), (7, .own 0 2 0 ((x14 ++ [(List.getD (List.getD a1 (Int.toNat x13) default) (Int.toNat (List.getD x15 (Int.toNat x13) default)) default)]).length)), (8, .own 1 1 0 x15.length), (63, (bo ((IntKind.i64.wrap (x13 + 1)) == ((a1.length : Nat) : Int))))], [(0, .acc 2 (List.map SRecord.cells (x14 ++ [(List.getD (List.getD a1 (Int.toNat x13) default) (Int.toNat (List.getD x15 (Int.toNat x13) default)) default)])) 34), (1, .acc 1 (List.map cI64 (List.set x15 (Int.toNat x13) (IntKind.i64.wrap ((List.getD x15 (Int.toNat x13) default) + 1)))) 3)], 3⟩ (by kernel_rfl) ⟨ln, trivial⟩ ?_
    refine go_cond (by rfl) (fun h19 => ?_) (fun h19 => ?_)
    ·have gh19 := h19
     try simp only [GZ] at gh19
     replace hx1 := iteT h19 hx1
     refine go_rk eqOk ttOk [] [] ⟨[(0, (iV 0)), (1, (sL cSl_SRecord_cells a1)), (7, .own 0 2 0 ((x14 ++ [(List.getD (List.getD a1 (Int.toNat x13) default) (Int.toNat (List.getD x15 (Int.toNat x13) default)) default)]).length)), (8, .own 1 1 0 x15.length)], [(0, .acc 2 (List.map SRecord.cells (x14 ++ [(List.getD (List.getD a1 (Int.toNat x13) default) (Int.toNat (List.getD x15 (Int.toNat x13) default)) default)])) 34), (1, .acc 1 (List.map cI64 (List.set x15 (Int.toNat x13) (IntKind.i64.wrap ((List.getD x15 (Int.toNat x13) default) + 1)))) 3)], 3⟩ (by kernel_rfl) trivial ?_
     refine go_blk ?_
     exact go_fin ⟨(0, (x14 ++ [(List.getD (List.getD a1 (Int.toNat x13) default) (Int.toNat (List.getD x15 (Int.toNat x13) default)) default)]), (List.set x15 (Int.toNat x13) (IntKind.i64.wrap ((List.getD x15 (Int.toNat x13) default) + 1))), (x20 - 1)), ⟨⟨fun _ => (hi25.1 (by omega)).step rfl (by omega) (wrap1 (by omega) (by omega)) (by omega), by dsimp only; omega, by simp only [List.length_append, List.length_cons, List.length_nil]; omega⟩, hx1⟩, by first | omega | (dsimp only; omega), (Weak.cn [0, 1] [0, 1, 7, 8] rfl rfl rfl)⟩
    ·have gh19 := h19
     try simp only [GZ] at gh19
     replace hx1 := iteF h19 hx1
     refine go_skip ?_
     refine go_blk ?_
     exact go_fin ⟨((IntKind.i64.wrap (x13 + 1)), (x14 ++ [(List.getD (List.getD a1 (Int.toNat x13) default) (Int.toNat (List.getD x15 (Int.toNat x13) default)) default)]), (List.set x15 (Int.toNat x13) (IntKind.i64.wrap ((List.getD x15 (Int.toNat x13) default) + 1))), (x20 - 1)), ⟨⟨fun _ => (hi25.1 (by omega)).step rfl (by omega) (wrap1 (by omega) (by omega)) (by omega), by dsimp only; omega, by simp only [List.length_append, List.length_cons, List.length_nil]; omega⟩, hx1⟩, by first | omega | (dsimp only; omega), (Weak.cn [0, 1] [0, 1, 7, 8] rfl rfl rfl)⟩
   ·have gh18 := h18
    try simp only [GZ] at gh18
    replace hx1 := iteF h18 hx1
    refine go_exit rfl ?_
    exact go_fin ⟨(x13, x14, x15), hx1.symm, (Weak.cn [0, 1] [0, 7, 8] rfl rfl rfl)⟩
  ·rintro o7_ hp
   try dsimp only at hp
   subst hp
   refine go_seq ?_
   refine go_rk eqOk ttOk [] [] ⟨[(4, .own 0 2 0 o7.2.1.length), (5, (iV o7.1)), (6, .own 1 1 0 o7.2.2.length)], [(0, .acc 2 (List.map SRecord.cells o7.2.1) 34), (1, .acc 1 (List.map cI64 o7.2.2) 3)], 2⟩ (by kernel_rfl) trivial ?_
   subst hx0
   exact go_ret1 rfl
end Go.Ab.Try
