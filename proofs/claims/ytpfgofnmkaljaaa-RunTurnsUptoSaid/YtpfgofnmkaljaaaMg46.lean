/-
  What operators do with records: the program's answer is the document's (plain law).
-/
import Derived.Test.YtpfgofnmkaljaaaMg45
import Derived.Test.YtpfgofnmkaljaaaMg44
import Derived.Test.YtpfgofnmkaljaaaMg37
set_option linter.unusedVariables false
set_option linter.unusedSimpArgs false
namespace Go.Ab.Try
open Go Go.Proofs Go.Ab
theorem rest_eq : oper_rest = pontoonref07_rest := rfl
theorem acc_eq : oper_Acc = pontoonref07_Acc := rfl
theorem value_eq (o : SOp) (r : SRecord) : oper_Value o r = pontoonref07_Value o r := by
  unfold oper_Value pontoonref07_Value letIn
  rw [rest_eq]
  congr 1
  all_goals cases h2 : (o.Kind == 2) <;> cases h4 : (o.Kind == 4) <;> cases f1 : (o.Fn == 1) <;> cases f2 : (o.Fn == 2) <;> cases f3 : (o.Fn == 3) <;> cases f4 : (o.Fn == 4) <;> first | rfl | skip
  all_goals (simp only [beq_iff_eq] at h2 h4; omega)
theorem odd_eq (x : Int) : ((andI x 1) == 1) = ((Int.tmod x 2) != 0) := by
  have h : andI x 1 = x % 2 := by
    unfold andI
    have e : (BitVec.ofInt 64 x &&& BitVec.ofInt 64 1).toNat = (BitVec.ofInt 64 x).toNat % 2 := by
      rw [BitVec.toNat_and, show (BitVec.ofInt 64 1).toNat = 1 from rfl, Nat.and_one_is_mod]
    rw [e, BitVec.toNat_ofInt, IntKind.wrap_i64]
    omega
  rw [h]
  have h2 : Int.tmod x 2 = 0 ↔ x % 2 = 0 := ⟨fun h => Int.emod_eq_zero_of_dvd (Int.dvd_of_tmod_eq_zero h), fun h => Int.tmod_eq_zero_of_dvd (Int.dvd_of_emod_eq_zero h)⟩
  by_cases hx : x % 2 = 0
  · rw [hx, h2.2 hx]; rfl
  · have h3 : Int.tmod x 2 ≠ 0 := fun h => hx (h2.1 h)
    have h4 : x % 2 = 1 := by omega
    rw [h4]
    simp [h3]
theorem holds_eq (o : SOp) (r : SRecord) : oper_Holds o r = pontoonref07_Holds o r := by
  unfold oper_Holds pontoonref07_Holds
  rw [odd_eq]
theorem fnd_spec : ∀ (ks : List SKeyState) (q : Int) (n : Nat), (fnd ks q).1 ≤ ks.length ∧ ((fnd ks q).2 = true ↔ (fnd ks q).1 < ks.length)
  | [], q, n => by simp [fnd]
  | k :: r, q, n => by
    have ih := fnd_spec r q n
    simp only [fnd]
    cases h : (k.Key == q) with
    | true => simp
    | false =>
      simp only [cond_false, List.length_cons]
      refine ⟨by omega, ?_⟩
      rw [ih.2]
      omega
theorem fnd_drop : ∀ (ks : List SKeyState) (q : Int) (i : Nat), i < ks.length → fnd (ks.drop i) q = bif (ks.getD i default).Key == q then (0, true) else ((fnd (ks.drop (i + 1)) q).1 + 1, (fnd (ks.drop (i + 1)) q).2) := by
  intro ks q i h
  rw [List.drop_eq_getElem_cons h]
  have : ks.getD i default = ks[i] := by simp [List.getD_eq_getElem?_getD, List.getElem?_eq_getElem h]
  rw [this]
  rfl
theorem folds_L0_eq (a1 : SOpState) (a2 : SRecord) (i : Nat) (hi : i ≤ a1.Keys.length) : pontoonref07_folds_L0 a1 a2 i = i + (fnd (a1.Keys.drop i) a2.Key).1 := by
  rw [pontoonref07_folds_L0.eq_def]
  by_cases h : i < a1.Keys.length
  · rw [fnd_drop _ _ _ h]
    cases hk : ((List.getD a1.Keys i default).Key == a2.Key) with
    | true =>
      have : ((decide (((i : Nat) : Int) < ((a1.Keys.length : Nat) : Int))) && ((List.getD a1.Keys i default).Key != a2.Key)) = false := by simp only [bne, hk, Bool.not_true, Bool.and_false]
      rw [dif_neg (by rw [this]; decide)]
      rfl
    | false =>
      have : ((decide (((i : Nat) : Int) < ((a1.Keys.length : Nat) : Int))) && ((List.getD a1.Keys i default).Key != a2.Key)) = true := by simp only [bne, hk, Bool.not_false, Bool.and_true, decide_eq_true_eq]; omega
      rw [dif_pos this, folds_L0_eq a1 a2 (i + 1) h]
      simp only [cond_false]
      omega
  · have e : i = a1.Keys.length := by omega
    have : ((decide (((i : Nat) : Int) < ((a1.Keys.length : Nat) : Int))) && ((List.getD a1.Keys i default).Key != a2.Key)) = false := by rw [decide_eq_false (by omega)]; rfl
    rw [dif_neg (by rw [this]; decide), e, List.drop_length]
    rfl
termination_by a1.Keys.length - i
theorem pos_drop (ks : List SKeyState) (q : Int) (i : Nat) (h : i < ks.length) : pos (ks.drop i) q = bif decide ((ks.getD i default).Key ≤ q) then pos (ks.drop (i + 1)) q + 1 else 0 := by
  rw [List.drop_eq_getElem_cons h]
  have : ks.getD i default = ks[i] := by simp [List.getD_eq_getElem?_getD, List.getElem?_eq_getElem h]
  rw [this]
  rfl
theorem folds_L1_eq (a1 : SOpState) (a2 : SRecord) (i : Nat) (hi : i ≤ a1.Keys.length) : pontoonref07_folds_L1 a1 a2 i = (i + pos (a1.Keys.drop i) a2.Key, a2.Key, 0, 0) := by
  rw [pontoonref07_folds_L1.eq_def]
  by_cases h : i < a1.Keys.length
  · rw [pos_drop _ _ _ h]
    cases hk : decide ((List.getD a1.Keys i default).Key ≤ a2.Key) with
    | false =>
      rw [dif_neg (by simp)]
      rfl
    | true =>
      rw [dif_pos (by simp [h]), folds_L1_eq a1 a2 (i + 1) h]
      simp only [cond_true]
      rw [show i + 1 + pos (List.drop (i + 1) a1.Keys) a2.Key = i + (pos (List.drop (i + 1) a1.Keys) a2.Key + 1) by omega]
  · have e : i = a1.Keys.length := by omega
    rw [dif_neg (by simp; omega), e, List.drop_length]
    rfl
termination_by a1.Keys.length - i
theorem fold_eq (o : SOp) (s : SOpState) (r : SRecord) : oper_fold o s r = pontoonref07_folds o s r := by
  unfold oper_fold pontoonref07_folds letIn
  simp only [folds_L0_eq s r 0 (Nat.zero_le _), folds_L1_eq s r 0 (Nat.zero_le _), List.drop_zero, Nat.zero_add]
  obtain ⟨hle, hf⟩ := fnd_spec s.Keys r.Key 0
  cases h2 : (fnd s.Keys r.Key).2 with
  | true =>
    have hlt := hf.1 h2
    have hd : (decide ((((fnd s.Keys r.Key).1 : Nat) : Int) < ((s.Keys.length : Nat) : Int))) = true := decide_eq_true (by omega)
    simp only [hd, cond_true, keyK, h2, foldK, fullK, acc_eq]
    cases hk : (o.Kind == 6) with
    | true =>
      have hne : (o.Kind != 6) = false := by simp only [bne, hk, Bool.not_true]
      simp only [hne, Bool.true_and, Bool.false_or]
      generalize (bif decide ((s.Keys.getD (fnd s.Keys r.Key).1 default).Count < 9007199254740992) then IntKind.i64.wrap ((s.Keys.getD (fnd s.Keys r.Key).1 default).Count + 1) else (s.Keys.getD (fnd s.Keys r.Key).1 default).Count) = c
      by_cases hc : c < o.Arg
      · have h1 : decide (c ≥ o.Arg) = false := decide_eq_false (by omega)
        simp only [h1, decide_eq_true hc, cond_true, cond_false, Bool.not_false]
        congr 1
        congr 1
        rw [List.set_eq_take_append_cons_drop, if_pos hlt, List.append_assoc]
        rfl
      · have h1 : decide (c ≥ o.Arg) = true := decide_eq_true (by omega)
        simp only [h1, decide_eq_false hc, cond_true, cond_false, Bool.not_true]
        rfl
    | false =>
      have hne : (o.Kind != 6) = true := by simp only [bne, hk, Bool.not_false]
      simp only [hne, Bool.false_and, Bool.true_or, cond_true, cond_false]
      congr 1
      congr 1
      rw [List.set_eq_take_append_cons_drop, if_pos hlt, List.append_assoc]
      rfl
  | false =>
    have hge : ¬ (fnd s.Keys r.Key).1 < s.Keys.length := fun h => by rw [hf.2 h] at h2; cases h2
    have hd : (decide ((((fnd s.Keys r.Key).1 : Nat) : Int) < ((s.Keys.length : Nat) : Int))) = false := decide_eq_false (by omega)
    simp only [hd, cond_false, keyK, h2, foldK, fullK, acc_eq]
    have hc1 : (bif decide ((0 : Int) < 9007199254740992) then IntKind.i64.wrap (0 + 1) else 0) = 1 := rfl
    cases hk : (o.Kind == 6) with
    | true =>
      have hne : (o.Kind != 6) = false := by simp only [bne, hk, Bool.not_true]
      simp only [hne, Bool.true_and, Bool.false_or, hc1]
      by_cases hc : (1 : Int) < o.Arg
      · have h1 : decide ((1 : Int) ≥ o.Arg) = false := decide_eq_false (by omega)
        simp only [h1, decide_eq_true hc, cond_true, cond_false, Bool.not_false, insK]
        congr 1
        congr 1
        rw [List.append_assoc]
        rfl
      · have h1 : decide ((1 : Int) ≥ o.Arg) = true := decide_eq_true (by omega)
        simp only [h1, decide_eq_false hc, cond_true, cond_false, Bool.not_true]
        congr 1
        congr 1
        rw [List.take_append_drop]
    | false =>
      have hne : (o.Kind != 6) = true := by simp only [bne, hk, Bool.not_false]
      simp only [hne, Bool.false_and, Bool.true_or, cond_true, cond_false, insK]
      congr 1
      congr 1
      rw [List.append_assoc]
      rfl
theorem step_eq (o : SOp) (s : SOpState) (r : SRecord) : oper_Step o s r = pontoonref07_Step o s r := by
  unfold oper_Step pontoonref07_Step letIn
  simp only [clone_id, value_eq, holds_eq, fold_eq, rest_eq]
  cases h1 : (o.Kind == 1) <;> cases h2 : (o.Kind == 2) <;> cases h3 : (o.Kind == 3) <;> cases h4 : (o.Kind == 4) <;> cases h8 : (o.Kind == 8) <;> first | (simp only [beq_iff_eq] at h1 h2 h3 h4 h8; omega) | skip
  all_goals first | rfl | (cases pontoonref07_Holds o r <;> rfl)
theorem all_L0_eq (o : SOp) (l : List SRecord) (i : Nat) (ks : List SKeyState) (t : Int) (ps : List SPut) : oper_All_L0 o l i ks t ps = pontoonref07_All_L0 o l i ks t ps := by
  rw [oper_All_L0.eq_def, pontoonref07_All_L0.eq_def]
  by_cases h : (decide (((i : Nat) : Int) < ((l.length : Nat) : Int))) = true
  · rw [dif_pos h, dif_pos h, step_eq]
    simp only [letIn]
    exact all_L0_eq o l (i + 1) _ _ _
  · rw [dif_neg h, dif_neg h]
termination_by l.length - i
decreasing_by simp only [decide_eq_true_eq] at h; omega
theorem all_eq (o : SOp) (s : SOpState) (l : List SRecord) : oper_All o s l = pontoonref07_All o s l := by
  unfold oper_All pontoonref07_All letIn
  simp only [clone_id, all_L0_eq]
theorem all_L0_len (o : SOp) (l : List SRecord) (i : Nat) (ks : List SKeyState) (t : Int) (ps : List SPut) : (pontoonref07_All_L0 o l i ks t ps).2.2.length ≤ ps.length + (l.length - i) := by
  rw [pontoonref07_All_L0.eq_def]
  by_cases h : (decide (((i : Nat) : Int) < ((l.length : Nat) : Int))) = true
  · rw [dif_pos h]
    simp only [letIn]
    have h1 := all_L0_len o l (i + 1) (pontoonref07_Step o (SOpState.mk ks t) (List.getD l i default)).1.Keys (pontoonref07_Step o (SOpState.mk ks t) (List.getD l i default)).1.Turn (ps ++ (pontoonref07_Step o (SOpState.mk ks t) (List.getD l i default)).2)
    have h2 := (pontoonref07_Step_len o (SOpState.mk ks t) (List.getD l i default)).2
    simp only [decide_eq_true_eq] at h
    rw [List.length_append] at h1
    omega
  · rw [dif_neg h]
    show ps.length ≤ _
    omega
termination_by l.length - i
decreasing_by simp only [decide_eq_true_eq] at h; omega
theorem all_puts_len (o : SOp) (s : SOpState) (l : List SRecord) : (pontoonref07_All o s l).2.length ≤ l.length := by
  unfold pontoonref07_All letIn
  have := all_L0_len o l 0 s.Keys s.Turn []
  simpa using this
theorem oper_puts_len (o : SOp) (s : SOpState) (l : List SRecord) : (oper_All o s l).2.length ≤ l.length := by rw [all_eq]; exact all_puts_len o s l
theorem rest_bound (x a : Int) (h : 2 ≤ a) (h4 : a ≤ 4) : 0 ≤ pontoonref07_rest x a ∧ pontoonref07_rest x a < a := by
  unfold pontoonref07_rest letIn
  have h1 : (decide (a < 1)) = false := decide_eq_false (by omega)
  have h2 : Int.tmod x a < a := Int.tmod_lt_of_pos x (by omega)
  have h3 : -a < Int.tmod x a := by
    have := Int.tmod_lt_of_pos (-x) (show 0 < a by omega)
    rw [Int.neg_tmod] at this
    omega
  rw [h1, cond_false]
  cases hd : decide (Int.tmod x a < 0) with
  | true =>
    have := of_decide_eq_true hd
    rw [cond_true, IntKind.wrap_i64]
    dsimp only
    omega
  | false =>
    have := of_decide_eq_false hd
    rw [cond_false]
    dsimp only
    omega
theorem fields_arg (o : SOp) (parts : Int) (h : graph_fields o parts = true) (hk : o.Kind = 7) : 2 ≤ o.Arg ∧ o.Arg ≤ 4 := by
  unfold graph_fields at h
  rw [hk] at h
  simp only [Bool.cond_eq_ite] at h
  split at h
  · simp_all
  · split at h
    · cases h
    · simp at h
      exact ⟨h.1.2, h.2⟩
theorem folds_port (o : SOp) (s : SOpState) (r : SRecord) : ∀ p ∈ (oper_fold o s r).2, p.Port = 0 := by
  intro p hp
  unfold oper_fold at hp
  simp only at hp
  cases h : ((o.Kind == 6) && !fullK o (foldK o (keyK s.Keys r.Key) r.Val)) with
  | true => rw [h] at hp; cases hp
  | false => rw [h] at hp; rw [List.mem_singleton.1 hp]
theorem step_port (o : SOp) (s : SOpState) (r : SRecord) (parts : Int) (h : graph_fields o parts = true) : ∀ p ∈ (oper_Step o s r).2, 0 ≤ p.Port ∧ p.Port < graph_Ports o := by
  intro p hp
  unfold oper_Step at hp
  simp only [letIn, clone_id] at hp
  have hP : ∀ k, o.Kind = k → (k = 1 ∨ k = 2 ∨ k = 3 ∨ k = 4 ∨ k = 5 ∨ k = 6 ∨ k = 8) → graph_Ports o = 1 := by
    intro k hk hh
    unfold graph_Ports letIn
    rcases hh with rfl | rfl | rfl | rfl | rfl | rfl | rfl <;> simp [hk]
  by_cases h7 : o.Kind = 7
  · have hA := fields_arg o parts h h7
    have hq : graph_Ports o = o.Arg := by
      unfold graph_Ports letIn
      simp [h7, hA.1, hA.2]
    simp only [h7] at hp
    simp at hp
    rw [hp, hq]
    rw [rest_eq]
    exact rest_bound _ _ hA.1 hA.2
  · by_cases h1 : o.Kind = 1
    · simp [h1] at hp; rw [hp, hP 1 h1 (by simp)]; exact ⟨Int.le_refl 0, Int.zero_lt_one⟩
    by_cases h2 : o.Kind = 2
    · simp [h2] at hp; rw [hp, hP 2 h2 (by simp)]; exact ⟨Int.le_refl 0, Int.zero_lt_one⟩
    by_cases h3 : o.Kind = 3
    · simp [h3] at hp
      rw [hP 3 h3 (by simp)]
      cases hh : oper_Holds o r <;> simp [hh] at hp
      rw [hp]; exact ⟨Int.le_refl 0, Int.zero_lt_one⟩
    by_cases h4 : o.Kind = 4
    · simp [h4] at hp; rw [hp, hP 4 h4 (by simp)]; exact ⟨Int.le_refl 0, Int.zero_lt_one⟩
    by_cases h5 : o.Kind = 5
    · simp [h5] at hp; rw [folds_port o s r p hp, hP 5 h5 (by simp)]; exact ⟨Int.le_refl 0, Int.zero_lt_one⟩
    by_cases h6 : o.Kind = 6
    · simp [h6] at hp; rw [folds_port o s r p hp, hP 6 h6 (by simp)]; exact ⟨Int.le_refl 0, Int.zero_lt_one⟩
    by_cases h8 : o.Kind = 8
    · simp [h8] at hp; rw [hp, hP 8 h8 (by simp)]; exact ⟨Int.le_refl 0, Int.zero_lt_one⟩
    have e : ∀ k, ¬ o.Kind = k → (o.Kind == k) = false := fun k hk => by simpa using hk
    simp only [e 1 h1, e 2 h2, e 3 h3, e 4 h4, e 5 h5, e 6 h6, e 7 h7, e 8 h8, cond_false] at hp
    cases hp
theorem all_L0_port (o : SOp) (parts : Int) (hf : graph_fields o parts = true) (l : List SRecord) (i : Nat) (ks : List SKeyState) (t : Int) (ps : List SPut) (hp : ∀ p ∈ ps, 0 ≤ p.Port ∧ p.Port < graph_Ports o) :
    ∀ p ∈ (oper_All_L0 o l i ks t ps).2.2, 0 ≤ p.Port ∧ p.Port < graph_Ports o := by
  rw [oper_All_L0.eq_def]
  by_cases h : (decide (((i : Nat) : Int) < ((l.length : Nat) : Int))) = true
  · rw [dif_pos h]
    simp only [letIn]
    refine all_L0_port o parts hf l (i + 1) _ _ _ fun p hp' => ?_
    rcases List.mem_append.1 hp' with hp' | hp'
    · exact hp p hp'
    · exact step_port o _ _ parts hf p hp'
  · rw [dif_neg h]; exact hp
termination_by l.length - i
decreasing_by simp only [decide_eq_true_eq] at h; omega
theorem all_port (o : SOp) (parts : Int) (hf : graph_fields o parts = true) (s : SOpState) (l : List SRecord) : ∀ p ∈ (oper_All o s l).2, 0 ≤ p.Port ∧ p.Port < graph_Ports o := by
  unfold oper_All letIn
  exact all_L0_port o parts hf l 0 _ _ [] fun p hp => by cases hp
end Go.Ab.Try
