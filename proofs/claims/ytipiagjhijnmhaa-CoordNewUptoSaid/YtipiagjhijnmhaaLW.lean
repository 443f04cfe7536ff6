/-
  The laws of coordinators, in plain terms: what the printed functions compute answers as the statements say.
-/
import Derived.Test.YtipiagjhijnmhaaP6
import Derived.Test.YtipiagjhijnmhaaRI
set_option linter.unusedVariables false
set_option linter.unusedSimpArgs false
namespace Go.Ab.Try
open Go Go.Proofs Go.Ab

/-! ### Lists gone through -/
theorem scanP {β : Type} (F : Nat → Sum β Unit) (n : Nat) (p : Nat → Bool) (v : Nat → β) (hF : ∀ x, F x = if x < n then (if p x = true then .inl (v x) else F (x + 1)) else .inr ()) :
    ∀ k x, n - x ≤ k → (F x = .inr () ∧ ∀ i, x ≤ i → i < n → p i = false) ∨ (∃ i, x ≤ i ∧ i < n ∧ p i = true ∧ F x = .inl (v i))
  | 0, x, hk => .inl ⟨by rw [hF, if_neg (by omega)], fun i h1 h2 => by omega⟩
  | k + 1, x, hk => by
    by_cases hx : x < n
    · by_cases hp : p x = true
      · exact .inr ⟨x, Nat.le_refl _, hx, hp, by rw [hF, if_pos hx, if_pos hp]⟩
      · rcases scanP F n p v hF k (x + 1) (by omega) with ⟨h1, h2⟩ | ⟨i, h1, h2, h3, h4⟩
        · refine .inl ⟨by rw [hF, if_pos hx, if_neg hp, h1], fun i h3 h4 => ?_⟩
          rcases Nat.eq_or_lt_of_le h3 with rfl | h3
          · simpa using hp
          · exact h2 i h3 h4
        · exact .inr ⟨i, by omega, h2, h3, by rw [hF, if_pos hx, if_neg hp, h4]⟩
    · exact .inl ⟨by rw [hF, if_neg hx], fun i h1 h2 => by omega⟩
theorem ext_getD {α : Type} (a b : List α) (d : α) (hl : a.length = b.length) (h : ∀ i, i < a.length → a.getD i d = b.getD i d) : a = b := by
  apply List.ext_getElem hl
  intro i h1 h2
  have := h i h1
  simpa [List.getD, List.getElem?_eq_getElem h1, List.getElem?_eq_getElem h2] using this
theorem int_lt (x n : Nat) : (decide (((x : Nat) : Int) < ((n : Nat) : Int)) = true) = (x < n) := by simp

theorem eqInts (a b : List Int) : slices_Equal_int64 a b = decide (a = b) := by
  unfold slices_Equal_int64
  by_cases hl : a.length = b.length
  · have e : (((a.length : Nat) : Int) != ((b.length : Nat) : Int)) = false := by simp [hl]
    rw [e]
    simp only [cond_false, letIn]
    rcases scanP (slices_Equal_int64_L0 a b) a.length (fun i => a.getD i default != b.getD i default) (fun _ => false) (fun x => by rw [slices_Equal_int64_L0.eq_def]; simp) a.length 0 (by omega) with ⟨h1, h2⟩ | ⟨i, h1, h2, h3, h4⟩
    · rw [h1]
      have : a = b := ext_getD a b default hl fun i hi => by simpa using h2 i (Nat.zero_le _) hi
      simp [this]
    · rw [h4]
      have : a ≠ b := fun h => by subst h; simp at h3
      simp [this]
  · have e : (((a.length : Nat) : Int) != ((b.length : Nat) : Int)) = true := by rw [bne_iff_ne]; omega
    rw [e]
    have : a ≠ b := fun h => hl (by rw [h])
    simp [this]
theorem eqInts2 (a b : List Int) : pontoonref15_SameInts a b = decide (a = b) := by
  unfold pontoonref15_SameInts
  by_cases hl : a.length = b.length
  · have e : (((a.length : Nat) : Int) != ((b.length : Nat) : Int)) = false := by simp [hl]
    rw [e]
    simp only [cond_false, letIn]
    rcases scanP (pontoonref15_SameInts_L0 a b) a.length (fun i => a.getD i default != b.getD i default) (fun _ => false) (fun x => by rw [pontoonref15_SameInts_L0.eq_def]; simp) a.length 0 (by omega) with ⟨h1, h2⟩ | ⟨i, h1, h2, h3, h4⟩
    · rw [h1]
      have : a = b := ext_getD a b default hl fun i hi => by simpa using h2 i (Nat.zero_le _) hi
      simp [this]
    · rw [h4]
      have : a ≠ b := fun h => by subst h; simp at h3
      simp [this]
  · have e : (((a.length : Nat) : Int) != ((b.length : Nat) : Int)) = true := by rw [bne_iff_ne]; omega
    rw [e]
    have : a ≠ b := fun h => hl (by rw [h])
    simp [this]
theorem rec_ext (x y : SRecord) : (decide ([x.Key, x.Val] = [y.Key, y.Val])) = decide (x = y) := by
  cases x; cases y; simp
theorem eqRecs (a b : List SRecord) : slices_Equal_Record a b = decide (a = b) := by
  unfold slices_Equal_Record
  by_cases hl : a.length = b.length
  · have e : (((a.length : Nat) : Int) != ((b.length : Nat) : Int)) = false := by simp [hl]
    rw [e]
    simp only [cond_false, letIn]
    rcases scanP (slices_Equal_Record_L0 a b) a.length (fun i => !decide (a.getD i default = b.getD i default)) (fun _ => false) (fun x => by rw [slices_Equal_Record_L0.eq_def, rec_ext]; simp) a.length 0 (by omega) with ⟨h1, h2⟩ | ⟨i, h1, h2, h3, h4⟩
    · rw [h1]
      have : a = b := ext_getD a b default hl fun i hi => by simpa using h2 i (Nat.zero_le _) hi
      simp [this]
    · rw [h4]
      have : a ≠ b := fun h => by subst h; simp at h3
      simp [this]
  · have e : (((a.length : Nat) : Int) != ((b.length : Nat) : Int)) = true := by rw [bne_iff_ne]; omega
    rw [e]
    have : a ≠ b := fun h => hl (by rw [h])
    simp [this]
theorem eqRecs2 (a b : List SRecord) : pontoonref15_SameRecords a b = decide (a = b) := by
  unfold pontoonref15_SameRecords
  by_cases hl : a.length = b.length
  · have e : (((a.length : Nat) : Int) != ((b.length : Nat) : Int)) = false := by simp [hl]
    rw [e]
    simp only [cond_false, letIn]
    rcases scanP (pontoonref15_SameRecords_L0 a b) a.length (fun i => !decide (a.getD i default = b.getD i default)) (fun _ => false) (fun x => by rw [pontoonref15_SameRecords_L0.eq_def, rec_ext]; simp) a.length 0 (by omega) with ⟨h1, h2⟩ | ⟨i, h1, h2, h3, h4⟩
    · rw [h1]
      have : a = b := ext_getD a b default hl fun i hi => by simpa using h2 i (Nat.zero_le _) hi
      simp [this]
    · rw [h4]
      have : a ≠ b := fun h => by subst h; simp at h3
      simp [this]
  · have e : (((a.length : Nat) : Int) != ((b.length : Nat) : Int)) = true := by rw [bne_iff_ne]; omega
    rw [e]
    have : a ≠ b := fun h => hl (by rw [h])
    simp [this]

/-- One vector is nowhere less. -/
def Abv (a b : List Int) : Prop := a.length = b.length ∧ ∀ i, i < a.length → b.getD i 0 ≤ a.getD i 0
theorem Abv.refl (a : List Int) : Abv a a := ⟨rfl, fun _ _ => Int.le_refl _⟩
theorem above1 (a b : List Int) : sink_Above a b = true ↔ Abv a b := by
  unfold sink_Above Abv
  by_cases hl : a.length = b.length
  · have e : (((a.length : Nat) : Int) != ((b.length : Nat) : Int)) = false := by simp [hl]
    rw [e]
    simp only [cond_false, letIn]
    rcases scanP (sink_Above_L0 a b) a.length (fun i => decide (a.getD i default < b.getD i default)) (fun _ => false) (fun x => by rw [sink_Above_L0.eq_def]; simp) a.length 0 (by omega) with ⟨h1, h2⟩ | ⟨i, h1, h2, h3, h4⟩
    · rw [h1]
      simp only [Sum.elim_inr, true_iff]
      exact ⟨hl, fun i hi => by have := h2 i (Nat.zero_le _) hi; simpa using this⟩
    · rw [h4]
      simp only [Sum.elim_inl, Bool.false_eq_true, false_iff]
      rintro ⟨_, h⟩
      have := h i h2
      have h3 := of_decide_eq_true h3
      have e2 : (default : Int) = 0 := rfl
      rw [e2] at h3
      omega
  · have e : (((a.length : Nat) : Int) != ((b.length : Nat) : Int)) = true := by rw [bne_iff_ne]; omega
    rw [e]
    simp [hl]
theorem above2 (a b : List Int) : pontoonref15_Above a b = true ↔ Abv a b := by
  unfold pontoonref15_Above Abv
  by_cases hl : a.length = b.length
  · have e : (((a.length : Nat) : Int) != ((b.length : Nat) : Int)) = false := by simp [hl]
    rw [e]
    simp only [cond_false, letIn]
    rcases scanP (pontoonref15_Above_L0 a b) a.length (fun i => decide (a.getD i default < b.getD i default)) (fun _ => false) (fun x => by rw [pontoonref15_Above_L0.eq_def]; simp) a.length 0 (by omega) with ⟨h1, h2⟩ | ⟨i, h1, h2, h3, h4⟩
    · rw [h1]
      simp only [Sum.elim_inr, true_iff]
      exact ⟨hl, fun i hi => by have := h2 i (Nat.zero_le _) hi; simpa using this⟩
    · rw [h4]
      simp only [Sum.elim_inl, Bool.false_eq_true, false_iff]
      rintro ⟨_, h⟩
      have := h i h2
      have h3 := of_decide_eq_true h3
      have e2 : (default : Int) = 0 := rfl
      rw [e2] at h3
      omega
  · have e : (((a.length : Nat) : Int) != ((b.length : Nat) : Int)) = true := by rw [bne_iff_ne]; omega
    rw [e]
    simp [hl]
theorem contains_any (a : List Int) (p : Int → Bool) : slices_ContainsFunc_int64 a p = a.any p := by
  unfold slices_ContainsFunc_int64 slices_IndexFunc_int64
  simp only [letIn]
  rcases scanP (slices_IndexFunc_int64_L0 a p) a.length (fun i => p (a.getD i default)) (fun i => ((i : Nat) : Int)) (fun x => by rw [slices_IndexFunc_int64_L0.eq_def]; simp) a.length 0 (by omega) with ⟨h1, h2⟩ | ⟨i, h1, h2, h3, h4⟩
  · rw [h1]
    simp only [Sum.elim_inr]
    symm
    simp only [ge_iff_le, show ¬ ((0 : Int) ≤ -1) by omega, decide_false, List.any_eq_false]
    intro x hx
    obtain ⟨i, hi, rfl⟩ := List.getElem_of_mem hx
    have := h2 i (Nat.zero_le _) hi
    simpa [List.getD, List.getElem?_eq_getElem hi] using this
  · rw [h4]
    simp only [Sum.elim_inl]
    symm
    simp only [ge_iff_le, show (0 : Int) ≤ ((i : Nat) : Int) by omega, decide_true, List.any_eq_true]
    exact ⟨a[i], List.getElem_mem h2, by simpa [List.getD, List.getElem?_eq_getElem h2] using h3⟩
theorem sameTxn1 (a b : STxn) : coord_sameTxn a b = decide (a = b) := by
  unfold coord_sameTxn
  rw [eqRecs, eqInts]
  cases a; cases b
  simp [Bool.and_assoc, Bool.beq_eq_decide_eq]
theorem sameTxn2 (a b : STxn) : pontoonref15_SameTxn a b = decide (a = b) := by
  unfold pontoonref15_SameTxn
  rw [eqRecs2, eqInts2]
  cases a; cases b
  simp [Bool.and_assoc, Bool.beq_eq_decide_eq]
theorem same2 (a b : SCoord) : pontoonref19_Same a b = decide (a = b) := by
  unfold pontoonref19_Same
  rw [sameTxn2, eqInts2]
  cases a; cases b
  simp [Bool.and_assoc, Bool.beq_eq_decide_eq]
theorem clone_id (c : SCoord) : coord_clone c = c := id rfl
theorem txn_id (t : STxn) : coord_txn t = t := id rfl
theorem wrap_id (x : Int) (h1 : -9223372036854775808 ≤ x) (h2 : x < 9223372036854775808) : IntKind.i64.wrap x = x := by rw [IntKind.wrap_i64]; omega
end Go.Ab.Try
