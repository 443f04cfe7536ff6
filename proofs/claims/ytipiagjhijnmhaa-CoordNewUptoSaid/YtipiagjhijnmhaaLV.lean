/-
  CoordNew in plain terms.
-/
import Derived.Test.YtipiagjhijnmhaaP7
import Derived.Test.YtipiagjhijnmhaaLZ
import Derived.Test.YtipiagjhijnmhaaRN
set_option linter.unusedVariables false
set_option linter.unusedSimpArgs false
namespace Go.Ab.Try
open Go Go.Proofs Go.Ab

theorem num_iff2 (n : Int) : pontoonref19_num n = true ↔ 0 ≤ n ∧ n ≤ 9007199254740992 := by simp [pontoonref19_num]
theorem vector_iff (v : List Int) : pontoonref19_vector v = true ↔ (1 ≤ v.length ∧ v.length ≤ 4) ∧ ∀ x ∈ v, 0 ≤ x ∧ x ≤ 9007199254740992 := by
  unfold pontoonref19_vector
  cases h1 : ((decide (((v.length : Nat) : Int) < 1)) || (decide (((v.length : Nat) : Int) > 4))) with
  | true =>
    simp only [cond_true]
    simp only [Bool.or_eq_true, decide_eq_true_eq] at h1
    simp only [Bool.false_eq_true, false_iff]
    rintro ⟨h, _⟩
    omega
  | false =>
    simp only [cond_false, letIn]
    simp only [Bool.or_eq_false_iff, decide_eq_false_iff_not] at h1
    rcases scanP (pontoonref19_vector_L0 v) v.length (fun i => !(pontoonref19_num (v.getD i default))) (fun _ => false) (fun x => by rw [pontoonref19_vector_L0.eq_def]; simp) v.length 0 (by omega) with ⟨h2, h3⟩ | ⟨i, h2, h3, h4, h5⟩
    · rw [h2]
      simp only [Sum.elim_inr, true_iff]
      refine ⟨by omega, fun x hx => ?_⟩
      obtain ⟨i, hi, rfl⟩ := List.getElem_of_mem hx
      have := h3 i (Nat.zero_le _) hi
      rw [← num_iff2]
      simpa [List.getD, List.getElem?_eq_getElem hi] using this
    · rw [h5]
      simp only [Sum.elim_inl, Bool.false_eq_true, false_iff]
      rintro ⟨_, h⟩
      have := h v[i] (List.getElem_mem h3)
      rw [← num_iff2] at this
      simp [List.getD, List.getElem?_eq_getElem h3, this] at h4
open Classical in
theorem refcheck (c : SCoord) : pontoonref19_Check c = coord_Check c := by
  have h01 : ∀ c, coord_Check c = 0 ∨ coord_Check c = 1 := fun c => by
    unfold coord_Check
    generalize ((((((((((decide (c.Phase < 0)) || (decide (c.Phase > 4))) || (!(coord_pos c.Epoch))) || (!(coord_num c.Id))) || (!(coord_num c.Len))) || (!(coord_num c.Done))) || (!(coord_num c.Left))) || (decide (((c.Vector.length : Nat) : Int) < 1))) || (decide (((c.Vector.length : Nat) : Int) > 4))) || (slices_ContainsFunc_int64 c.Vector coord_Check_c1)) = p
    generalize (((coord_asks c) && (!(decide ([c.Txn.Epoch, c.Txn.Id] = [(coord_key c).Epoch, (coord_key c).Id])))) || ((!(coord_asks c)) && (!(coord_sameTxn c.Txn (STxn.mk 0 0 0 [] []))))) = q
    cases p <;> cases q <;> simp
  have key : pontoonref19_Check c = if OkC c then 0 else 1 := by
    unfold pontoonref19_Check
    cases h1 : (((((((((decide (c.Phase < 0)) || (decide (c.Phase > 4))) || (decide (c.Epoch < 1))) || (!(pontoonref19_num c.Epoch))) || (!(pontoonref19_num c.Id))) || (!(pontoonref19_num c.Len))) || (!(pontoonref19_num c.Done))) || (!(pontoonref19_num c.Left))) || (!(pontoonref19_vector c.Vector))) with
    | true =>
      simp only [cond_true]
      rw [if_neg]
      intro h
      have : (((((((((decide (c.Phase < 0)) || (decide (c.Phase > 4))) || (decide (c.Epoch < 1))) || (!(pontoonref19_num c.Epoch))) || (!(pontoonref19_num c.Id))) || (!(pontoonref19_num c.Len))) || (!(pontoonref19_num c.Done))) || (!(pontoonref19_num c.Left))) || (!(pontoonref19_vector c.Vector))) = false := by
        simp only [Bool.or_eq_false_iff, decide_eq_false_iff_not, Bool.not_eq_false', num_iff2, vector_iff]
        have h1 := h.ph
        have h2 := h.ep
        exact ⟨⟨⟨⟨⟨⟨⟨⟨by omega, by omega⟩, by omega⟩, by omega⟩, h.id⟩, h.ln⟩, h.dn⟩, h.lf⟩, h.vl, h.vn⟩
      rw [h1] at this
      cases this
    | false =>
      simp only [Bool.or_eq_false_iff, decide_eq_false_iff_not, Bool.not_eq_false', num_iff2, vector_iff] at h1
      obtain ⟨⟨⟨⟨⟨⟨⟨⟨a1, a2⟩, a3⟩, a4⟩, a5⟩, a6⟩, a7⟩, a8⟩, a9, a10⟩ := h1
      simp only [cond_false, sameTxn2]
      by_cases hp : c.Phase = 2 ∨ c.Phase = 3
      · have e : ((c.Phase == 2) || (c.Phase == 3)) = true := by simpa using hp
        rw [e]
        simp only [cond_true]
        by_cases ht : c.Txn.Epoch = c.Epoch ∧ c.Txn.Id = c.Id
        · rw [if_pos ⟨by omega, by omega, a5, a6, a7, a8, a9, a10, fun _ => ht, fun h => absurd hp h⟩]
          simp [ht.1, ht.2]
        · rw [if_neg (fun h => ht (h.tx hp))]
          have : ((c.Txn.Epoch != c.Epoch) || (c.Txn.Id != c.Id)) = true := by
            simp only [Bool.or_eq_true, bne_iff_ne]
            exact Decidable.byContradiction fun h => ht ⟨Decidable.byContradiction fun h1 => h (.inl h1), Decidable.byContradiction fun h1 => h (.inr h1)⟩
          rw [this]; rfl
      · have e : ((c.Phase == 2) || (c.Phase == 3)) = false := by
          simp only [Bool.or_eq_false_iff, beq_eq_false_iff_ne]
          exact ⟨fun h => hp (.inl h), fun h => hp (.inr h)⟩
        rw [e]
        simp only [cond_false]
        by_cases ht : c.Txn = noTxn
        · rw [if_pos ⟨by omega, by omega, a5, a6, a7, a8, a9, a10, fun h => absurd h hp, fun _ => ht⟩]
          simp [ht]
        · rw [if_neg (fun h => ht (h.tz hp))]
          simp [ht]
  rw [key]
  by_cases h : OkC c
  · rw [if_pos h, (check_iff c).2 h]
  · rw [if_neg h]
    rcases h01 c with h0 | h0
    · exact absurd ((check_iff c).1 h0) h
    · exact h0.symm

theorem law_CoordNew (a0 : Spontoonlaw19_Begin) (h : Spontoonlaw19_Begin.In a0) : pontoonlaw19_CoordNew a0 = true := by
  unfold pontoonlaw19_CoordNew
  rw [live_true]
  have e : pontoonref19_New a0.Epoch a0.Id a0.Len a0.Vector = coord_New a0.Epoch a0.Id a0.Len a0.Vector := by
    unfold pontoonref19_New coord_New
    simp only [letIn, slices_Clone_int64, refcheck]
  simp only [letIn, Bool.not_true, cond_false, e, same2, eqInts2]
  simp
end Go.Ab.Try
