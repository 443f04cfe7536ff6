/-
  What is taken in turn: the program's answer is the document's (plain law).
  What holds of records that were taken in turn (plain).
  Functions, and what they compute: printed by wg.py, a program of this work.
-/
import Derived.Test.YtpfgofnmkaljaaaMg39
import Derived.Test.YtpfgofnmkaljaaaMg36
set_option linter.unusedVariables false
set_option linter.unusedSimpArgs false
namespace Go.Ab.Try
open Go Go.Proofs Go.Ab
theorem turns_L (ls : List (List SRecord)) (hs : tot ls ≤ 25165824) (hn : ls.length ≤ 4294967296) : ∀ (f : Nat) (turn : Int) (taken : List Int) (out : List SRecord), TIn ls turn taken out → 0 < f → tot ls < f + out.length →
    pontoonref08_Turns_L1 ls turn out taken f = ((run_Turns_L0 ls turn taken out f).1, (run_Turns_L0 ls turn taken out f).2.2, (run_Turns_L0 ls turn taken out f).2.1)
  | 0, _, _, _, _, h, _ => absurd h (Nat.lt_irrefl 0)
  | f + 1, turn, taken, out, h, _, hf => by
    have h1 := h.lo
    have h2 := h.hi
    have h3 := h.at'
    have e : IntKind.i64.wrap (turn + 1) = turn + 1 := by rw [IntKind.wrap_i64]; omega
    rw [pontoonref08_Turns_L1.eq_def, run_Turns_L0.eq_def]
    rw [dif_pos (Nat.succ_pos f), dif_pos (Nat.succ_pos f)]
    by_cases hc : List.getD taken turn.toNat default < ((List.getD ls turn.toNat default).length : Int)
    · have hb := h.lt hc
      have hb2 := h.bound
      have c1 : (((decide (turn ≥ 0)) && (decide (turn < ((ls.length : Nat) : Int)))) && (decide ((List.getD taken turn.toNat default) < (((List.getD ls turn.toNat default).length : Nat) : Int)))) = true := by
        rw [decide_eq_true (show turn ≥ 0 from h1), decide_eq_true h2, decide_eq_true hc]; rfl
      have c2 : ¬ (decide ((List.getD taken turn.toNat default) ≥ (((List.getD ls turn.toNat default).length : Nat) : Int))) = true := by
        intro hh; have := of_decide_eq_true hh; omega
      rw [dif_pos c1, dif_neg c2]
      have hnx := h.next hn
      have step := fun t ht => h.step (t := t) (r := (List.getD (List.getD ls turn.toNat default) (Int.toNat (List.getD taken turn.toNat default)) default)) rfl hc (wrap1 h3.1 (show List.getD taken turn.toNat default < 4611686018427387904 by
        have := (sum_tot ls taken h.len h.each)
        have hlen : ((List.getD ls turn.toNat default).length : Int) ≤ tot ls := by
          have : ∀ (l : List (List SRecord)) (i : Nat), (List.getD l i default).length ≤ tot l := by
            intro l
            induction l with
            | nil => intro i; simp [tot, default]
            | cons a l ih =>
              intro i
              have e3 : tot (a :: l) = a.length + tot l := by simp only [tot, List.map_cons, List.sum_cons]
              rw [e3]
              cases i with
              | zero => have : (a :: l).getD 0 default = a := rfl; rw [this]; omega
              | succ i => have : (a :: l).getD (i + 1) default = l.getD i default := rfl; rw [this]; have := ih i; omega
          have := this ls turn.toNat
          omega
        omega)) ht
      by_cases hl : turn + 1 = ls.length
      · have e2 : Int.tmod (IntKind.i64.wrap (turn + 1)) ((ls.length : Nat) : Int) = 0 := by rw [e, hl]; exact Int.tmod_self
        have c3 : ((IntKind.i64.wrap (turn + 1)) == ((ls.length : Nat) : Int)) = true := beq_iff_eq.2 (by rw [e, hl])
        rw [dif_pos c3, e2]
        exact turns_L ls hs hn f _ _ _ (step 0 (.inr rfl)) (by omega) (by simp only [List.length_append, List.length_cons, List.length_nil]; omega)
      · have hl2 : turn + 1 < ls.length := by omega
        have e2 : Int.tmod (IntKind.i64.wrap (turn + 1)) ((ls.length : Nat) : Int) = IntKind.i64.wrap (turn + 1) := by rw [e]; exact Int.tmod_eq_of_lt (by omega) hl2
        have c3 : ¬ ((IntKind.i64.wrap (turn + 1)) == ((ls.length : Nat) : Int)) = true := by rw [beq_iff_eq, e]; exact hl
        rw [dif_neg c3, e2]
        exact turns_L ls hs hn f _ _ _ (step _ (.inl ⟨e, hl2⟩)) (by omega) (by simp only [List.length_append, List.length_cons, List.length_nil]; omega)
    · have c1 : ¬ (((decide (turn ≥ 0)) && (decide (turn < ((ls.length : Nat) : Int)))) && (decide ((List.getD taken turn.toNat default) < (((List.getD ls turn.toNat default).length : Nat) : Int)))) = true := by
        rw [decide_eq_false hc, Bool.and_false]; decide
      rw [dif_neg c1, dif_pos (decide_eq_true (show List.getD taken turn.toNat default ≥ ((List.getD ls turn.toNat default).length : Int) by omega))]
theorem zeros_L (ls : List (List SRecord)) (i : Nat) (l : List Int) (h : i ≤ ls.length) : pontoonref08_Turns_L0 ls i l = l ++ List.replicate (ls.length - i) 0 := by
  rw [pontoonref08_Turns_L0.eq_def]
  by_cases hi : i < ls.length
  · rw [dif_pos (decide_eq_true (by omega)), zeros_L ls (i + 1) _ hi]
    have : ls.length - i = (ls.length - (i + 1)) + 1 := by omega
    rw [this, List.replicate_succ, List.append_assoc]
    rfl
  · rw [dif_neg (fun hh => by have := of_decide_eq_true hh; omega)]
    have : ls.length - i = 0 := by omega
    rw [this]; simp
termination_by ls.length - i
theorem turns_eq (turn : Int) (ls : List (List SRecord)) (hs : tot ls ≤ 25165824) (hn : ls.length ≤ 4294967296) : run_Turns turn ls = pontoonref08_Turns turn ls := by
  unfold run_Turns pontoonref08_Turns
  simp only [letIn]
  rw [zeros_L ls 0 [] (Nat.zero_le _), List.nil_append, Nat.sub_zero]
  by_cases h : 0 ≤ turn ∧ turn < ls.length
  · have c : ((decide (turn < 0)) || (decide (turn ≥ ((ls.length : Nat) : Int)))) = false := by
      rw [decide_eq_false (by omega), decide_eq_false (by omega)]; rfl
    rw [c, cond_false, turns_L ls hs hn (tot ls + 1) turn _ [] (TIn.start h.1 h.2) (Nat.succ_pos _) (by simp only [List.length_nil]; omega)]
  · have c : ((decide (turn < 0)) || (decide (turn ≥ ((ls.length : Nat) : Int)))) = true := by
      by_cases h1 : turn < 0
      · rw [decide_eq_true h1]; rfl
      · rw [decide_eq_true (show turn ≥ ((ls.length : Nat) : Int) by omega), Bool.or_true]
    rw [c, cond_true, pontoonref08_Turns_L1.eq_def, dif_pos (Nat.succ_pos _), dif_neg]
    intro hh
    simp only [Bool.and_eq_true, decide_eq_true_eq] at hh
    exact h ⟨hh.1.1, hh.1.2⟩
end Go.Ab.Try

set_option linter.unusedVariables false
set_option linter.unusedSimpArgs false
namespace Go.Ab.Try
open Go Go.Proofs Go.Ab
theorem tot_cons (a : List SRecord) (l : List (List SRecord)) : tot (a :: l) = a.length + tot l := by simp only [tot, List.map_cons, List.sum_cons]
theorem tot_getD : ∀ (l : List (List SRecord)) (i : Nat), (List.getD l i default).length ≤ tot l
  | [], i => by simp [tot, default]
  | a :: l, 0 => by rw [tot_cons]; have : (a :: l).getD 0 default = a := rfl; rw [this]; omega
  | a :: l, i + 1 => by rw [tot_cons]; have : (a :: l).getD (i + 1) default = l.getD i default := rfl; rw [this]; have := tot_getD l i; omega
theorem run_L0_in (ls : List (List SRecord)) (hs : tot ls ≤ 25165824) (hn : ls.length ≤ 4294967296) : ∀ (f : Nat) (turn : Int) (taken : List Int) (out : List SRecord), TIn ls turn taken out → tot ls < f + out.length →
    TIn ls (run_Turns_L0 ls turn taken out f).1 (run_Turns_L0 ls turn taken out f).2.1 (run_Turns_L0 ls turn taken out f).2.2
  | 0, _, _, _, h, hf => by have := h.bound; omega
  | f + 1, turn, taken, out, h, hf => by
    rw [run_Turns_L0.eq_def, dif_pos (Nat.succ_pos f)]
    have h3 := h.at'
    have hg := tot_getD ls turn.toNat
    split
    · exact h
    · rename_i hc
      have hc' : List.getD taken turn.toNat default < ((List.getD ls turn.toNat default).length : Int) := by simpa using hc
      refine run_L0_in ls hs hn f _ _ _ (h.step rfl hc' (wrap1 h3.1 (by omega)) (h.next hn)) ?_
      simp only [List.length_append, List.length_cons, List.length_nil]
      omega
theorem run_Turns_in (ls : List (List SRecord)) (hs : tot ls ≤ 25165824) (h0 : 0 < ls.length) (hn : ls.length ≤ 4294967296) :
    TIn ls (run_Turns 0 ls).2.1 (run_Turns 0 ls).2.2 (run_Turns 0 ls).1 := by
  have c : ((decide ((0 : Int) < 0)) || (decide ((0 : Int) ≥ ((ls.length : Nat) : Int)))) = false := by
    rw [decide_eq_false (by omega), decide_eq_false (by omega)]; rfl
  unfold run_Turns
  simp only [c, cond_false, letIn]
  exact run_L0_in ls hs hn _ _ _ _ (TIn.start (Int.le_refl _) (by omega)) (by simp only [List.length_nil]; omega)
theorem ref_Turns_in (ls : List (List SRecord)) (hs : tot ls ≤ 25165824) (h0 : 0 < ls.length) (hn : ls.length ≤ 4294967296) :
    TIn ls (pontoonref08_Turns 0 ls).2.1 (pontoonref08_Turns 0 ls).2.2 (pontoonref08_Turns 0 ls).1 := by
  rw [← turns_eq 0 ls hs hn]; exact run_Turns_in ls hs h0 hn
theorem rep_getD (n i : Nat) : (List.getD (List.replicate n ([] : List SRecord)) i default).length = 0 := by
  rw [List.getD_eq_getElem?_getD, List.getElem?_replicate]
  split <;> rfl
theorem set_getDl (t : List (List SRecord)) (i k : Nat) (y : List SRecord) : (List.getD (List.set t i y) k default).length ≤ max (List.getD t k default).length y.length := by
  simp only [List.getD_eq_getElem?_getD, List.getElem?_set]
  by_cases e : i = k
  · subst e
    simp only [if_true]
    split
    · simp; omega
    · rename_i h; simp only [List.getElem?_eq_none (show t.length ≤ i by omega), Option.getD_none]; omega
  · rw [if_neg e]; omega
end Go.Ab.Try

set_option linter.unusedVariables false
set_option linter.unusedSimpArgs false
namespace Go.Ab.Try
open Go Go.Proofs Go.Ab
def pontoonref07_rest (a0 : Int) (a1 : Int) : Int :=
  (bif (decide (a1 < 1)) then 0 else letIn ((bif (decide ((Int.tmod a0 a1) < 0)) then (IntKind.i64.wrap ((Int.tmod a0 a1) + a1)) else (Int.tmod a0 a1))) fun o2 => o2)
def pontoonref07_Value (a0 : SOp) (a1 : SRecord) : SRecord :=
  letIn ((bif ((a0.Kind == 2) && (a0.Fn == 1)) then (a1.Key, (IntKind.i64.wrap (a1.Val + a0.Arg))) else (bif ((a0.Kind == 2) && (a0.Fn == 2)) then (a1.Key, (IntKind.i64.wrap (a1.Val * a0.Arg))) else (bif ((a0.Kind == 2) && (a0.Fn == 3)) then (a1.Key, (IntKind.i64.wrap (0 - a1.Val))) else (bif ((a0.Kind == 2) && (a0.Fn == 4)) then (a1.Key, (xorI a1.Val a0.Arg)) else (bif ((a0.Kind == 4) && (a0.Fn == 2)) then ((pontoonref07_rest a1.Key a0.Arg), a1.Val) else (bif ((a0.Kind == 4) && (a0.Fn == 3)) then ((pontoonref07_rest a1.Val a0.Arg), a1.Val) else (bif ((a0.Kind == 4) && (a0.Fn == 4)) then (a0.Arg, a1.Val) else (a1.Key, a1.Val))))))))) fun o1 => (SRecord.mk o1.1 o1.2)
def pontoonref07_Holds (a0 : SOp) (a1 : SRecord) : Bool :=
  (bif (a0.Kind != 3) then true else (bif (a0.Fn == 1) then (decide (a1.Val < a0.Arg)) else (bif (a0.Fn == 2) then (a1.Val == a0.Arg) else (bif (a0.Fn == 3) then ((Int.tmod a1.Val 2) != 0) else (bif (a0.Fn == 4) then ((andI a1.Val a0.Arg) != 0) else false)))))
def pontoonref07_Acc (a0 : Int) (a1 : SKeyState) (a2 : Int) : Int :=
  (bif (decide (a1.Count < 1)) then (bif (a0 == 2) then 1 else a2) else (bif (a0 == 1) then (IntKind.i64.wrap (a1.Acc + a2)) else (bif (a0 == 2) then (IntKind.i64.wrap (a1.Acc + 1)) else (bif (a0 == 3) then (if a2 > a1.Acc then a2 else a1.Acc) else (bif (a0 == 4) then (if a2 < a1.Acc then a2 else a1.Acc) else a2)))))
def pontoonref07_folds_L0 (a1 : SOpState) (a2 : SRecord) (x5 : Nat) : Nat :=
  (if h7 : ((decide (((x5 : Nat) : Int) < ((a1.Keys.length : Nat) : Int))) && ((List.getD a1.Keys x5 default).Key != a2.Key)) = true then (pontoonref07_folds_L0 a1 a2 (x5 + 1)) else x5)
termination_by a1.Keys.length - x5
decreasing_by all_goals (try simp only [GZ] at *) <;> omega
def pontoonref07_folds_L1 (a1 : SOpState) (a2 : SRecord) (x13 : Nat) : Nat × Int × Int × Int :=
  (if h15 : ((decide (((x13 : Nat) : Int) < ((a1.Keys.length : Nat) : Int))) && (decide ((List.getD a1.Keys x13 default).Key ≤ a2.Key))) = true then (pontoonref07_folds_L1 a1 a2 (x13 + 1)) else (x13, a2.Key, 0, 0))
termination_by a1.Keys.length - x13
decreasing_by all_goals (try simp only [GZ] at *) <;> omega
def pontoonref07_folds (a0 : SOp) (a1 : SOpState) (a2 : SRecord) : SOpState × (List SPut) :=
  letIn (pontoonref07_folds_L0 a1 a2 0) fun o1 => letIn ((bif (decide (((o1 : Nat) : Int) < ((a1.Keys.length : Nat) : Int))) then (o1, (List.getD a1.Keys o1 default).Key, (List.getD a1.Keys o1 default).Count, (List.getD a1.Keys o1 default).Acc) else pontoonref07_folds_L1 a1 a2 0)) fun o8 => letIn ((bif (decide (o8.2.2.1 < 9007199254740992)) then (IntKind.i64.wrap (o8.2.2.1 + 1)) else o8.2.2.1)) fun o16 => letIn ((bif ((a0.Kind != 6) || (decide (o16 < a0.Arg))) then ((List.take o8.1 a1.Keys) ++ [(SKeyState.mk o8.2.1 o16 (pontoonref07_Acc a0.Fn (SKeyState.mk o8.2.1 o8.2.2.1 o8.2.2.2) a2.Val))]) else (List.take o8.1 a1.Keys))) fun o19 => letIn ((bif ((a0.Kind == 6) && (decide (o16 < a0.Arg))) then [] else [(SPut.mk 0 (SRecord.mk a2.Key (pontoonref07_Acc a0.Fn (SKeyState.mk o8.2.1 o8.2.2.1 o8.2.2.2) a2.Val)))])) fun o22 => letIn ((bif (decide (((o1 : Nat) : Int) < ((a1.Keys.length : Nat) : Int))) then o8.1 + 1 else o8.1)) fun o24 => ((SOpState.mk (o19 ++ (List.drop o24 a1.Keys)) a1.Turn), o22)
theorem pontoonref07_folds_len (a0 : SOp) (a1 : SOpState) (a2 : SRecord) : (pontoonref07_folds a0 a1 a2).1.Keys.length ≤ a1.Keys.length + 1 ∧ (pontoonref07_folds a0 a1 a2).2.length ≤ 1 := by
  obtain ⟨res, hx0⟩ : ∃ r, pontoonref07_folds a0 a1 a2 = r := ⟨_, rfl⟩
  rw [hx0]
  unfold pontoonref07_folds at hx0
  obtain ⟨o1, ho1, hx0⟩ := letIn_ex hx0
  obtain ⟨o8, ho8, hx0⟩ := letIn_ex hx0
  obtain ⟨o16, ho16, hx0⟩ := letIn_ex hx0
  obtain ⟨o19, ho19, hx0⟩ := letIn_ex hx0
  obtain ⟨o22, ho22, hx0⟩ := letIn_ex hx0
  obtain ⟨o24, ho24, hx0⟩ := letIn_ex hx0
  subst hx0
  have h1 : o19.length ≤ min o8.1 a1.Keys.length + 1 := by rw [← ho19, Bool.cond_eq_ite]; split <;> simp only [List.length_append, List.length_take, List.length_cons, List.length_nil] <;> omega
  have h2 : o22.length ≤ 1 := by rw [← ho22, Bool.cond_eq_ite]; split <;> simp only [List.length_cons, List.length_nil] <;> omega
  have h3 : o8.1 ≤ o24 := by rw [← ho24, Bool.cond_eq_ite]; split <;> omega
  refine ⟨?_, h2⟩
  simp only [List.length_append, List.length_drop]
  omega
def pontoonref07_Step (a0 : SOp) (a1 : SOpState) (a2 : SRecord) : SOpState × (List SPut) :=
  letIn ((bif (a0.Kind == 1) then (a0.Kind == 1) else (a0.Kind == 8))) fun o1 => (bif o1 then (a1, [(SPut.mk 0 a2)]) else letIn ((bif (a0.Kind == 2) then (a0.Kind == 2) else (a0.Kind == 4))) fun o4 => (bif o4 then letIn (pontoonref07_Value a0 a2) fun r7 => (a1, [(SPut.mk 0 r7)]) else (bif (a0.Kind == 3) then (bif (pontoonref07_Holds a0 a2) then (a1, [(SPut.mk 0 a2)]) else (a1, [])) else (bif (a0.Kind == 7) then (a1, [(SPut.mk (pontoonref07_rest a2.Key a0.Arg) a2)]) else letIn ((bif (a0.Kind == 5) then (a0.Kind == 5) else (a0.Kind == 6))) fun o11 => (bif o11 then letIn (pontoonref07_folds a0 a1 a2) fun r14 => (r14.1, r14.2) else (a1, []))))))
theorem pontoonref07_Step_len (a0 : SOp) (a1 : SOpState) (a2 : SRecord) : (pontoonref07_Step a0 a1 a2).1.Keys.length ≤ a1.Keys.length + 1 ∧ (pontoonref07_Step a0 a1 a2).2.length ≤ 1 := by
  unfold pontoonref07_Step
  simp only [letIn, Bool.cond_eq_ite]
  repeat' split
  all_goals first | exact pontoonref07_folds_len _ _ _ | exact ⟨Nat.le_succ _, Nat.le_refl _⟩ | exact ⟨Nat.le_succ _, Nat.zero_le _⟩
def pontoonref07_All_L0 (a0 : SOp) (a2 : (List SRecord)) (x5 : Nat) (x6 : List SKeyState) (x7 : Int) (x8 : List SPut) : (List SKeyState) × Int × (List SPut) :=
  (if h9 : (decide (((x5 : Nat) : Int) < ((a2.length : Nat) : Int))) = true then letIn (pontoonref07_Step a0 (SOpState.mk x6 x7) (List.getD a2 x5 default)) fun r10 => (pontoonref07_All_L0 a0 a2 (x5 + 1) r10.1.Keys r10.1.Turn (x8 ++ r10.2)) else (x6, x7, x8))
termination_by a2.length - x5
decreasing_by all_goals (try simp only [GZ] at *) <;> omega
def pontoonref07_All (a0 : SOp) (a1 : SOpState) (a2 : (List SRecord)) : SOpState × (List SPut) :=
  letIn (pontoonref07_All_L0 a0 a2 0 a1.Keys a1.Turn []) fun o1 => ((SOpState.mk o1.1 o1.2.1), o1.2.2)
end Go.Ab.Try
