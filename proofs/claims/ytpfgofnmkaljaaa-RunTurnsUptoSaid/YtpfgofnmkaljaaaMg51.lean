/-
  Functions, and what they compute: printed by wg.py, a program of this work.
  What one operator comes to: the program's answer is the document's; sizes (plain).
  Functions, and what they compute: printed by wg.py, a program of this work.
-/
import Derived.Test.YtpfgofnmkaljaaaMg36
import Derived.Test.YtpfgofnmkaljaaaMg48
import Derived.Test.YtpfgofnmkaljaaaMg39
import Derived.Test.YtpfgofnmkaljaaaMg45
import Derived.Test.YtpfgofnmkaljaaaMg46
import Derived.Test.YtpfgofnmkaljaaaMg50
import Derived.Test.YtpfgofnmkaljaaaMg47
import Derived.Test.YtpfgofnmkaljaaaMg41
import Derived.Test.YtpfgofnmkaljaaaMg40
set_option linter.unusedVariables false
set_option linter.unusedSimpArgs false
namespace Go.Ab.Try
open Go Go.Proofs Go.Ab
def pontoonref08_one_L0 (a1 : (List (List SRecord))) (r2 : (List SRecord) × Int × (List Int)) (x6 : Nat) (x7 : List (List SRecord)) : List (List SRecord) :=
  (if h8 : (decide (((x6 : Nat) : Int) < ((a1.length : Nat) : Int))) = true then (pontoonref08_one_L0 a1 r2 (x6 + 1) (x7 ++ [(List.drop (Int.toNat (List.getD r2.2.2 x6 default)) (List.getD a1 x6 default))])) else x7)
termination_by a1.length - x6
decreasing_by all_goals (try simp only [GZ] at *) <;> omega
def pontoonref08_one_L1 (r9 : SOpState × (List SPut)) (x13 : Nat) (x14 : List (List SRecord)) : List (List SRecord) :=
  (if h15 : (decide (((x13 : Nat) : Int) < ((r9.2.length : Nat) : Int))) = true then (pontoonref08_one_L1 r9 (x13 + 1) (List.set x14 (Int.toNat ((List.getD r9.2 x13 default).Port)) ((List.getD x14 (Int.toNat ((List.getD r9.2 x13 default).Port)) default) ++ [((List.getD r9.2 x13 default).Record)]))) else x14)
termination_by r9.2.length - x13
decreasing_by all_goals (try simp only [GZ] at *) <;> omega
def pontoonref08_one (a0 : SOp) (a1 : (List (List SRecord))) : (List (List SRecord)) × STaskState :=
  (bif (a0.Kind == 8) then letIn (pontoonref08_Turns 0 a1) fun r2 => letIn (pontoonref08_one_L0 a1 r2 0 []) fun o3 => ([r2.1], (STaskState.mk (SOpState.mk [] r2.2.1) o3)) else letIn (pontoonref07_All a0 (SOpState.mk [] 0) (List.getD a1 0 default)) fun r9 => letIn (pontoonref08_one_L1 r9 0 (List.replicate (Int.toNat (pontoonref05_Ports a0)) [])) fun o10 => (o10, (STaskState.mk r9.1 [])))
end Go.Ab.Try

set_option linter.unusedVariables false
set_option linter.unusedSimpArgs false
namespace Go.Ab.Try
open Go Go.Proofs Go.Ab
theorem tot_set : ∀ (l : List (List SRecord)) (i : Nat) (y : List SRecord), tot (l.set i y) + (l.getD i default).length ≤ tot l + y.length
  | [], i, y => by simp [tot, default]
  | a :: l, 0, y => by
    have e : (a :: l).getD 0 default = a := rfl
    rw [e, List.set_cons_zero, tot_cons, tot_cons]
    omega
  | a :: l, i + 1, y => by
    have e : (a :: l).getD (i + 1) default = l.getD i default := rfl
    have := tot_set l i y
    rw [e, List.set_cons_succ, tot_cons, tot_cons]
    omega
theorem refL1_spec (r : SOpState × List SPut) (i : Nat) (t : List (List SRecord)) : (pontoonref08_one_L1 r i t).length = t.length ∧ tot (pontoonref08_one_L1 r i t) ≤ tot t + (r.2.length - i) := by
  rw [pontoonref08_one_L1.eq_def]
  by_cases h : i < r.2.length
  · rw [dif_pos (by simpa using h)]
    have ih := refL1_spec r (i + 1) (List.set t (Int.toNat ((List.getD r.2 i default).Port)) ((List.getD t (Int.toNat ((List.getD r.2 i default).Port)) default) ++ [((List.getD r.2 i default).Record)]))
    have := tot_set t (Int.toNat ((List.getD r.2 i default).Port)) ((List.getD t (Int.toNat ((List.getD r.2 i default).Port)) default) ++ [((List.getD r.2 i default).Record)])
    simp only [List.length_append, List.length_cons, List.length_nil] at this
    rw [List.length_set] at ih
    exact ⟨ih.1, by omega⟩
  · rw [dif_neg (by simpa using h)]
    exact ⟨rfl, by omega⟩
termination_by r.2.length - i
theorem runL1_eq (r : SOpState × List SPut) (i : Nat) (t : List (List SRecord)) : run_one_L1 r i t = ([], r.1.Keys, r.1.Turn, [], pontoonref08_one_L1 r i t) := by
  rw [pontoonref08_one_L1.eq_def, run_one_L1.eq_def]
  by_cases h : i < r.2.length
  · rw [dif_pos (by simpa using h), dif_pos (by simpa using h)]
    exact runL1_eq r (i + 1) _
  · rw [dif_neg (by simpa using h), dif_neg (by simpa using h)]
termination_by r.2.length - i
theorem runL0_eq (o : SOp) (ins : List (List SRecord)) (r : (List SRecord) × Int × (List Int)) (i : Nat) (t : List (List SRecord)) :
    run_one_L0 o ins r i t = ([], [], r.2.1, pontoonref08_one_L0 ins r i t, List.set (List.replicate (Int.toNat (graph_Ports o)) []) 0 r.1) := by
  rw [pontoonref08_one_L0.eq_def, run_one_L0.eq_def]
  by_cases h : i < ins.length
  · rw [dif_pos (by simpa using h), dif_pos (by simpa using h)]
    simp only [letIn, slices_Clone_Record]
    exact runL0_eq o ins r (i + 1) _
  · rw [dif_neg (by simpa using h), dif_neg (by simpa using h)]
termination_by ins.length - i
theorem ports1 (o : SOp) (h : o.Kind = 1 ∨ o.Kind = 8) : graph_Ports o = 1 := by
  unfold graph_Ports letIn
  rcases h with h | h <;> rw [h] <;> rfl
theorem src_all (o : SOp) (h : o.Kind = 1) (l : List SRecord) (i : Nat) (ks : List SKeyState) (t : Int) (ps : List SPut) : pontoonref07_All_L0 o l i ks t ps = (ks, t, ps ++ (l.drop i).map (SPut.mk 0 ·)) := by
  rw [pontoonref07_All_L0.eq_def]
  by_cases hi : i < l.length
  · rw [dif_pos (by simpa using hi)]
    have e : ∀ s r, pontoonref07_Step o s r = (s, [SPut.mk 0 r]) := fun s r => by
      unfold pontoonref07_Step letIn
      rw [h]
      rfl
    simp only [letIn, e]
    rw [src_all o h l (i + 1), dropD l i hi]
    simp
  · rw [dif_neg (by simpa using hi), List.drop_eq_nil_of_le (by omega)]
    simp
termination_by l.length - i
theorem src_L1 (s : SOpState) (l : List SRecord) (i : Nat) (a : List SRecord) : pontoonref08_one_L1 (s, l.map (SPut.mk 0 ·)) i [a] = [a ++ l.drop i] := by
  rw [pontoonref08_one_L1.eq_def]
  by_cases hi : i < l.length
  · rw [dif_pos (by simpa using hi)]
    have e : List.getD (l.map (SPut.mk 0 ·)) i default = SPut.mk 0 (l.getD i default) := by
      rw [List.getD_eq_getElem?_getD, List.getElem?_map, List.getElem?_eq_getElem hi, List.getD_eq_getElem?_getD, List.getElem?_eq_getElem hi]
      rfl
    have e2 : List.set [a] (Int.toNat (SPut.mk 0 (l.getD i default)).Port) ((List.getD [a] (Int.toNat (SPut.mk 0 (l.getD i default)).Port) default) ++ [(SPut.mk 0 (l.getD i default)).Record]) = [a ++ [l.getD i default]] := rfl
    simp only [e]
    rw [e2, src_L1 s l (i + 1), dropD l i hi]
    simp
  · rw [dif_neg (by simpa using hi), List.drop_eq_nil_of_le (by omega)]
    simp
termination_by l.length - i
theorem one_eq (o : SOp) (ins : List (List SRecord)) (hn : 0 < ins.length) (hs : tot ins ≤ 25165824) (hz : ins.length ≤ 4294967296) : run_one o ins = Srun_made.mk (pontoonref08_one o ins).1 (pontoonref08_one o ins).2 := by
  unfold run_one pontoonref08_one
  by_cases h1 : o.Kind = 1
  · have c1 : (o.Kind == 1) = true := by rw [h1]; rfl
    have c8 : (o.Kind == 8) = false := by rw [h1]; rfl
    simp only [c1, c8, cond_true, cond_false, letIn, ← ports_eq, ports1 o (.inl h1)]
    unfold pontoonref07_All
    simp only [letIn]
    rw [src_all o h1, List.nil_append, List.drop_zero]
    have e : List.replicate (Int.toNat 1) ([] : List SRecord) = [[]] := rfl
    rw [e, src_L1]
    rfl
  · have c1 : (o.Kind == 1) = false := by simpa using h1
    by_cases h8 : o.Kind = 8
    · have c8 : (o.Kind == 8) = true := by rw [h8]; rfl
      simp only [c1, c8, cond_true, cond_false, letIn, ports1 o (.inr h8), runL0_eq]
      rw [turns_eq 0 ins hs hz]
      rfl
    · have c8 : (o.Kind == 8) = false := by simpa using h8
      simp only [c1, c8, cond_false, letIn, runL1_eq]
      rw [all_eq, ports_eq]
theorem one_len (o : SOp) (ins : List (List SRecord)) : (pontoonref08_one o ins).1.length = Int.toNat (graph_Ports o) := by
  unfold pontoonref08_one
  by_cases h8 : o.Kind = 8
  · have c8 : (o.Kind == 8) = true := by rw [h8]; rfl
    simp only [c8, cond_true, letIn, ports1 o (.inr h8)]
    rfl
  · have c8 : (o.Kind == 8) = false := by simpa using h8
    simp only [c8, cond_false, letIn]
    rw [(refL1_spec _ _ _).1, List.length_replicate, ports_eq]
theorem tot_rep : ∀ n, tot (List.replicate n []) = 0
  | 0 => rfl
  | n + 1 => by rw [List.replicate_succ, tot_cons, tot_rep n]; rfl
theorem one_tot (o : SOp) (ins : List (List SRecord)) (hn : 0 < ins.length) (hs : tot ins ≤ 25165824) (hz : ins.length ≤ 4294967296) : tot (pontoonref08_one o ins).1 ≤ tot ins := by
  unfold pontoonref08_one
  by_cases h8 : o.Kind = 8
  · have c8 : (o.Kind == 8) = true := by rw [h8]; rfl
    simp only [c8, cond_true, letIn]
    have := (ref_Turns_in ins hs hn hz).bound
    rw [tot_cons]
    have e : tot [] = 0 := rfl
    omega
  · have c8 : (o.Kind == 8) = false := by simpa using h8
    simp only [c8, cond_false, letIn]
    have h1 := (refL1_spec (pontoonref07_All o (SOpState.mk [] 0) (List.getD ins 0 default)) 0 (List.replicate (Int.toNat (pontoonref05_Ports o)) [])).2
    rw [tot_rep] at h1
    have h2 := all_puts_len o (SOpState.mk [] 0) (List.getD ins 0 default)
    have h3 := tot_getD ins 0
    omega
def insOf (g : SGraph) (a1 : List (List SRecord)) (n : Nat) (outs : List (List (List SRecord))) : List (List SRecord) :=
  if (g.Ops.getD n default).Kind = 1 then [List.getD a1 (Int.toNat (g.Ops.getD n default).Part) default] else (g.Ops.getD n default).In.map (outAt outs)
theorem ins_pos {g : SGraph} (hg : GOk g) {n : Nat} (hn : n < g.Ops.length) (a1 : List (List SRecord)) (outs : List (List (List SRecord))) : 0 < (insOf g a1 n outs).length := by
  unfold insOf
  split
  · exact Nat.zero_lt_one
  · rename_i h
    rw [List.length_map]
    have he := hg.edges n hn
    by_cases h8 : (g.Ops.getD n default).Kind = 8
    · have := he.uni h8; omega
    · have := he.one h h8; omega
theorem ins_tot {g : SGraph} (hg : GOk g) {n : Nat} (hn : n < g.Ops.length) {a1 : List (List SRecord)} {outs : List (List (List SRecord))} (h : RIn g (tot a1) n outs) : tot (insOf g a1 n outs) ≤ 24 * tot a1 := by
  unfold insOf
  have hl := hg.len
  split
  · have := tot_getD a1 (Int.toNat (g.Ops.getD n default).Part)
    rw [tot_cons]
    have e : tot [] = 0 := rfl
    omega
  · refine Nat.le_trans (h.into hg hn) (Nat.mul_le_mul_right _ (by omega))
theorem ins_len {g : SGraph} (hg : GOk g) {n : Nat} (hn : n < g.Ops.length) (a1 : List (List SRecord)) (outs : List (List (List SRecord))) : (insOf g a1 n outs).length ≤ 4 := by
  unfold insOf
  split
  · simp
  · rename_i h
    rw [List.length_map]
    have he := hg.edges n hn
    by_cases h8 : (g.Ops.getD n default).Kind = 8
    · have := he.uni h8; omega
    · have := he.one h h8; omega
theorem RIn.one {g : SGraph} (hg : GOk g) {n : Nat} (hn : n < g.Ops.length) {a1 : List (List SRecord)} (hs : tot a1 ≤ 1048576) {outs : List (List (List SRecord))} (h : RIn g (tot a1) n outs) :
    RIn g (tot a1) (n + 1) (outs ++ [(pontoonref08_one (g.Ops.getD n default) (insOf g a1 n outs)).1]) := by
  have h1 := ins_tot hg hn h
  have h2 := ins_len hg hn a1 outs
  refine h.step hg hn (one_len _ _) ?_
  have := one_tot (g.Ops.getD n default) (insOf g a1 n outs) (ins_pos hg hn a1 outs) (by omega) (by omega)
  refine Nat.le_trans this ?_
  unfold insOf
  split
  · have := tot_getD a1 (Int.toNat (g.Ops.getD n default).Part)
    rw [tot_cons]
    have e : tot [] = 0 := rfl
    omega
  · exact Nat.le_refl _
theorem insL {l : List (List SRecord)} {y : List SRecord} (h : y ∈ l) : y.length ≤ tot l := by
  obtain ⟨i, hi, rfl⟩ := List.mem_iff_getElem.1 h
  have := tot_getD l i
  rwa [List.getD_eq_getElem?_getD, List.getElem?_eq_getElem hi] at this
theorem sink_L0 (g : SGraph) (i : Nat) (h : 0 < (g.Ops.drop i).countP isSink) : ∃ k : Nat, pontoonref05_Sink_L0 g i = Sum.inl ((k : Int), true) ∧ slices_IndexFunc_Op_L0 g.Ops graph_Sink_c1 i = Sum.inl (k : Int) ∧ k < g.Ops.length ∧ (g.Ops.getD k default).Kind = 9 := by
  rw [pontoonref05_Sink_L0.eq_def, slices_IndexFunc_Op_L0.eq_def]
  by_cases hi : i < g.Ops.length
  · have c1 : (decide (((i : Nat) : Int) < ((g.Ops.length : Nat) : Int))) = true := decide_eq_true (by omega)
    rw [dif_pos c1, dif_pos c1]
    rw [dropD g.Ops i hi, List.countP_cons] at h
    by_cases hk : (g.Ops.getD i default).Kind = 9
    · have c2 : ((g.Ops.getD i default).Kind == 9) = true := by rw [hk]; rfl
      rw [dif_pos c2, dif_pos (show graph_Sink_c1 (g.Ops.getD i default) = true from c2)]
      exact ⟨i, rfl, rfl, hi, hk⟩
    · have c2 : ¬ ((g.Ops.getD i default).Kind == 9) = true := by rw [beq_iff_eq]; exact hk
      rw [dif_neg c2, dif_neg (show ¬ graph_Sink_c1 (g.Ops.getD i default) = true from c2)]
      refine sink_L0 g (i + 1) ?_
      have : isSink (g.Ops.getD i default) = false := by unfold isSink; rw [beq_eq_false_iff_ne]; exact hk
      rw [this] at h
      simpa using h
  · rw [List.drop_eq_nil_of_le (by omega)] at h
    simp at h
termination_by g.Ops.length - i
theorem sink_ok {g : SGraph} (hg : GOk g) : ∃ k : Nat, pontoonref05_Sink g = ((k : Int), true) ∧ graph_Sink g = ((k : Int), true) ∧ k < g.Ops.length ∧ (g.Ops.getD k default).Kind = 9 := by
  obtain ⟨k, h1, h2, h3, h4⟩ := sink_L0 g 0 (by rw [List.drop_zero, hg.sinks]; exact Nat.zero_lt_one)
  refine ⟨k, ?_, ?_, h3, h4⟩
  · unfold pontoonref05_Sink
    simp only [letIn, h1, Sum.elim_inl]
  · unfold graph_Sink slices_IndexFunc_Op
    simp only [letIn, h2, Sum.elim_inl]
    rw [if_neg (by omega), decide_eq_true (by omega)]
theorem RIn.sink {g : SGraph} {B : Nat} {outs : List (List (List SRecord))} (hg : GOk g) (h : RIn g B g.Ops.length outs) (hB : B ≤ 1048576) :
    (0 ≤ (pontoonref05_Sink g).1 ∧ Int.toNat (pontoonref05_Sink g).1 < g.Ops.length ∧ 0 < ((g.Ops.getD (Int.toNat (pontoonref05_Sink g).1) default).In).length ∧ 0 ≤ (((g.Ops.getD (Int.toNat (pontoonref05_Sink g).1) default).In).getD 0 default).From ∧
      Int.toNat (((g.Ops.getD (Int.toNat (pontoonref05_Sink g).1) default).In).getD 0 default).From < outs.length ∧ 0 ≤ (((g.Ops.getD (Int.toNat (pontoonref05_Sink g).1) default).In).getD 0 default).Port ∧
      Int.toNat (((g.Ops.getD (Int.toNat (pontoonref05_Sink g).1) default).In).getD 0 default).Port < (List.getD outs (Int.toNat (((g.Ops.getD (Int.toNat (pontoonref05_Sink g).1) default).In).getD 0 default).From) default).length) := by
  obtain ⟨k, h1, _, h3, h4⟩ := sink_ok hg
  rw [h1]
  simp only [Int.toNat_natCast]
  have h5 := (hg.edges k h3).one (by omega) (by omega)
  obtain ⟨g1, g2, g3, g4⟩ := (hg.edges k h3).each _ (getD_mem ((g.Ops.getD k default).In) 0 default (by omega))
  have h6 := h.each (((g.Ops.getD k default).In).getD 0 default).From.toNat (by omega)
  have h7 := h.len
  refine ⟨by omega, h3, by omega, g1, by omega, g3, ?_⟩
  rw [h6]
  omega
end Go.Ab.Try

set_option linter.unusedVariables false
set_option linter.unusedSimpArgs false
namespace Go.Ab.Try
open Go Go.Proofs Go.Ab
def pontoonref08_All_L1 (a0 : SGraph) (x14 : Nat) (x15 : List (List (List SRecord))) (x22 : Nat) (x23 : List (List SRecord)) : List (List SRecord) :=
  (if h24 : (decide (((x22 : Nat) : Int) < ((((List.getD a0.Ops x14 default).In).length : Nat) : Int))) = true then (pontoonref08_All_L1 a0 x14 x15 (x22 + 1) (x23 ++ [(List.getD (List.getD x15 (Int.toNat ((List.getD ((List.getD a0.Ops x14 default).In) x22 default).From)) default) (Int.toNat ((List.getD ((List.getD a0.Ops x14 default).In) x22 default).Port)) default)])) else x23)
termination_by ((List.getD a0.Ops x14 default).In).length - x22
decreasing_by all_goals (try simp only [GZ] at *) <;> omega
def pontoonref08_All_L0 (a0 : SGraph) (a1 : (List (List SRecord))) (x14 : Nat) (x15 : List (List (List SRecord))) (x16 : List STaskState) : (List (List (List SRecord))) × (List STaskState) :=
  (if h17 : (decide (((x14 : Nat) : Int) < ((a0.Ops.length : Nat) : Int))) = true then letIn (letIn (pontoonref08_All_L1 a0 x14 x15 0 []) fun o19 => letIn ((if h26 : ((List.getD a0.Ops x14 default).Kind == 1) = true then [(List.getD a1 (Int.toNat ((List.getD a0.Ops x14 default).Part)) default)] else o19)) fun o25 => letIn (pontoonref08_one (List.getD a0.Ops x14 default) o25) fun r27 => ((x15 ++ [r27.1]), (x16 ++ [r27.2]))) fun o18 => (pontoonref08_All_L0 a0 a1 (x14 + 1) o18.1 o18.2) else (x15, x16))
termination_by a0.Ops.length - x14
decreasing_by all_goals (try simp only [GZ] at *) <;> omega
def pontoonref08_All (a0 : SGraph) (a1 : (List (List SRecord))) : (List (List (List SRecord))) × (List STaskState) :=
  letIn (pontoonref08_All_L0 a0 a1 0 [] []) fun o1 => (o1.1, o1.2)
theorem mapTake {α β : Type} [Inhabited α] (f : α → β) (l : List α) (i : Nat) (h : i < l.length) : (l.drop i).map f = f (l.getD i default) :: (l.drop (i + 1)).map f := by
  rw [dropD l i h, List.map_cons]
theorem refAll_L1_eq (g : SGraph) (n : Nat) (outs : List (List (List SRecord))) (i : Nat) (t : List (List SRecord)) : pontoonref08_All_L1 g n outs i t = t ++ (((g.Ops.getD n default).In).drop i).map (outAt outs) := by
  rw [pontoonref08_All_L1.eq_def]
  by_cases h : i < ((g.Ops.getD n default).In).length
  · rw [dif_pos (by simpa using h), refAll_L1_eq g n outs (i + 1), mapTake _ _ i h]
    simp [outAt]
  · rw [dif_neg (by simpa using h), List.drop_eq_nil_of_le (by omega)]
    simp
termination_by ((g.Ops.getD n default).In).length - i
decreasing_by all_goals (simp only [List.getD_eq_getElem?_getD] at *; omega)
theorem refAll_body (g : SGraph) (a1 : List (List SRecord)) (n : Nat) (outs : List (List (List SRecord))) (sts : List STaskState) :
    (letIn (pontoonref08_All_L1 g n outs 0 []) fun o19 => letIn ((if h26 : ((List.getD g.Ops n default).Kind == 1) = true then [(List.getD a1 (Int.toNat ((List.getD g.Ops n default).Part)) default)] else o19)) fun o25 => letIn (pontoonref08_one (List.getD g.Ops n default) o25) fun r27 => ((outs ++ [r27.1]), (sts ++ [r27.2]))) =
      (outs ++ [(pontoonref08_one (List.getD g.Ops n default) (insOf g a1 n outs)).1], sts ++ [(pontoonref08_one (List.getD g.Ops n default) (insOf g a1 n outs)).2]) := by
  have e : (if h26 : ((List.getD g.Ops n default).Kind == 1) = true then [(List.getD a1 (Int.toNat ((List.getD g.Ops n default).Part)) default)] else pontoonref08_All_L1 g n outs 0 []) = insOf g a1 n outs := by
    unfold insOf
    rw [refAll_L1_eq, List.nil_append, List.drop_zero]
    by_cases h : (List.getD g.Ops n default).Kind = 1
    · rw [dif_pos (by simpa using h), if_pos h]
    · rw [dif_neg (by simpa using h), if_neg h]
  simp only [letIn]
  rw [e]
theorem refAll_L0_in {g : SGraph} (hg : GOk g) {a1 : List (List SRecord)} (hs : tot a1 ≤ 1048576) (i : Nat) (outs : List (List (List SRecord))) (sts : List STaskState) (hi : i ≤ g.Ops.length) (h : RIn g (tot a1) i outs) (hl : sts.length = i) :
    RIn g (tot a1) g.Ops.length (pontoonref08_All_L0 g a1 i outs sts).1 ∧ (pontoonref08_All_L0 g a1 i outs sts).2.length = g.Ops.length := by
  rw [pontoonref08_All_L0.eq_def]
  by_cases hlt : i < g.Ops.length
  · rw [dif_pos (by simpa using hlt), refAll_body]
    exact refAll_L0_in hg hs (i + 1) _ _ hlt (RIn.one hg hlt hs h) (by simp [hl])
  · have : i = g.Ops.length := by omega
    subst this
    rw [dif_neg (by simp)]
    exact ⟨h, hl⟩
termination_by g.Ops.length - i
theorem refAll_in {g : SGraph} (hg : GOk g) {a1 : List (List SRecord)} (hs : tot a1 ≤ 1048576) : RIn g (tot a1) g.Ops.length (pontoonref08_All g a1).1 ∧ (pontoonref08_All g a1).2.length = g.Ops.length := by
  unfold pontoonref08_All
  simp only [letIn]
  exact refAll_L0_in hg hs 0 [] [] (Nat.zero_le _) RIn.start rfl
def pontoonref08_check (a0 : SGraph) (a1 : (List (List SRecord))) : Int :=
  letIn (pontoonref05_Check a0) fun r1 => (bif (r1.2 != 0) then r1.2 else (bif (((a1.length : Nat) : Int) != a0.Parts) then 1 else 0))
theorem refcheck_ok {g : SGraph} {l : List (List SRecord)} (h : (pontoonref08_check g l != 0) = false) : GOk g ∧ (l.length : Int) = g.Parts := by
  have h' : pontoonref08_check g l = 0 := by simpa using h
  unfold pontoonref08_check at h'
  rw [← check_eq] at h'
  simp only [letIn] at h'
  by_cases e : (graph_Check g).2 = 0
  · refine ⟨gok_of g e, ?_⟩
    have c : ((graph_Check g).2 != 0) = false := by simpa using e
    rw [c, cond_false] at h'
    cases c2 : (((l.length : Nat) : Int) != g.Parts) with
    | true => rw [c2] at h'; simp at h'
    | false => simpa using c2
  · have c : ((graph_Check g).2 != 0) = true := by simpa using e
    rw [c, cond_true] at h'
    exact absurd h' e
end Go.Ab.Try
