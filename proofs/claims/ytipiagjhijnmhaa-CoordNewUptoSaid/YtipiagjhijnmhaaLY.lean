/-
  What a coordinator does at a manifest and at an answer; the laws.
-/
import Derived.Test.YtipiagjhijnmhaaLX
set_option linter.unusedVariables false
set_option linter.unusedSimpArgs false
namespace Go.Ab.Try
open Go Go.Proofs Go.Ab

theorem txn_of (m : SManifest) (e : Int) : manifest_Txn m e = STxn.mk e m.Id m.Begin m.Records m.Vector := id rfl
theorem pre_of (c : SCoord) (t : STxn) : coord_pre c t = (SCoord.mk 2 c.Epoch c.Id c.Len c.Vector t c.Done c.Left, SDo.mk 3 c.Id 0 t) := id rfl

theorem published_step {c : SCoord} {x : Spontoonlaw19_Come} (m : SManifest) (h : OkC c) (hx : x.Do = 2) : Step c x (coord_Published c m).1 (coord_Published c m).2 := by
  unfold coord_Published
  simp only [letIn, clone_id, txn_of, pre_of]
  cases h1 : (((!(coord_in c 1)) || ((manifest_Check m) != 0)) || (!(decide ([(manifest_Key m).Epoch, (manifest_Key m).Id] = [(coord_key c).Epoch, (coord_key c).Id])))) with
  | true => exact .none h rfl
  | false =>
    simp only [cond_false]
    simp only [Bool.or_eq_false_iff, Bool.not_eq_false', in_iff, bne_eq_false_iff_eq, decide_eq_true_eq] at h1
    obtain ⟨⟨⟨_, hp⟩, hm⟩, hk⟩ := h1
    obtain ⟨m1, m2, m3⟩ := manifest_ok hm
    simp [manifest_Key, coord_key] at hk
    cases h2 : ((sink_Above m.Vector c.Vector) && (decide (m.Out ≥ c.Len))) with
    | true =>
      simp only [cond_true]
      simp only [Bool.and_eq_true, above1, decide_eq_true_eq] at h2
      have e : IntKind.i64.wrap (m.Begin + ((m.Records.length : Nat) : Int)) = m.Out := by rw [m3, show m.Begin + (m.Out - m.Begin) = m.Out by omega]; exact wrap_id _ (by omega) (by omega)
      exact ⟨⟨⟨by simp, by simp⟩, h.ep, h.id, h.ln, h.dn, h.lf, h.vl, h.vn, fun _ => ⟨rfl, hk.2⟩, fun hn => absurd (.inl rfl) hn⟩, Int.le_refl _, rfl, Int.le_refl _, Abv.refl _, fun h => by simp at h, fun h => by simp at h, fun h => by simp at h, fun h => by omega,
        fun _ _ => ⟨h2.1, by rw [e]; exact h2.2⟩, fun h => by omega⟩
    | false =>
      simp only [cond_false]
      exact ⟨left_ok h, Int.le_refl _, rfl, Int.le_refl _, Abv.refl _, fun h => by simp at h, fun h => by simp at h, fun h => by simp at h, fun h => by omega, fun h => by simp at h, fun h => by omega⟩

theorem resume_step {c : SCoord} {x : Spontoonlaw19_Come} (m : SManifest) (h : OkC c) (hx : x.Do ≠ 4) : Step c x (coord_Resume c m).1 (coord_Resume c m).2 := by
  unfold coord_Resume
  simp only [letIn, clone_id, txn_of, pre_of]
  cases h1 : (((!(coord_in c 0)) || ((manifest_Check m) != 0)) || (!(manifest_Less (manifest_Key m) (STxnKey.mk c.Epoch 9007199254740992)))) with
  | true => exact .none h rfl
  | false =>
    simp only [cond_false]
    simp only [Bool.or_eq_false_iff, Bool.not_eq_false', in_iff, bne_eq_false_iff_eq] at h1
    obtain ⟨⟨⟨_, hp⟩, hm⟩, hk⟩ := h1
    obtain ⟨m1, m2, m3⟩ := manifest_ok hm
    have hid := h.id
    have ht := h.tz (by omega)
    have hmax : c.Id ≤ (if m.Id > c.Id then m.Id else c.Id) ∧ (if m.Id > c.Id then m.Id else c.Id) ≤ 9007199254740992 := by split <;> omega
    generalize hz : (if m.Id > c.Id then m.Id else c.Id) = z at *
    cases h2 : (((!(sink_Above m.Vector c.Vector)) || (decide (m.Out ≤ c.Len))) || (decide (m.Begin > c.Len))) with
    | true =>
      simp only [cond_true]
      exact ⟨⟨h.ph, h.ep, by simp only; omega, h.ln, h.dn, h.lf, h.vl, h.vn, fun hp' => by simp only at hp'; omega, fun _ => ht⟩, hmax.1, rfl, Int.le_refl _, Abv.refl _, fun h => by simp at h, fun h => by simp at h, fun h => by simp at h, fun h => by omega, fun h => by simp at h, fun h => absurd h hx⟩
    | false =>
      simp only [cond_false]
      simp only [Bool.or_eq_false_iff, Bool.not_eq_false', above1, decide_eq_false_iff_not] at h2
      obtain ⟨⟨a1, a2⟩, a3⟩ := h2
      cases h3 : (z == 9007199254740992) with
      | true => exact .none h rfl
      | false =>
        simp only [cond_false]
        have hz' : z ≠ 9007199254740992 := by simpa using h3
        have e1 : IntKind.i64.wrap (z + 1) = z + 1 := wrap_id _ (by omega) (by omega)
        have e : IntKind.i64.wrap (m.Begin + ((m.Records.length : Nat) : Int)) = m.Out := by rw [m3, show m.Begin + (m.Out - m.Begin) = m.Out by omega]; exact wrap_id _ (by omega) (by omega)
        rw [e1]
        exact ⟨⟨⟨by simp, by simp⟩, h.ep, by simp only; omega, h.ln, h.dn, h.lf, h.vl, h.vn, fun _ => ⟨rfl, rfl⟩, fun hn => absurd (.inl rfl) hn⟩, by simp only; omega, rfl, Int.le_refl _, Abv.refl _, fun h => by simp at h, fun h => by simp at h, fun h => by simp at h, fun h => by omega,
          fun _ _ => ⟨a1, by rw [e]; omega⟩, fun h => absurd h hx⟩

theorem any_num2 (v : List Int) : v.any coord_knows_c1 = false ↔ ∀ x ∈ v, 0 ≤ x ∧ x ≤ 9007199254740992 := by
  rw [List.any_eq_false]
  refine forall_congr' fun x => forall_congr' fun _ => ?_
  rw [← num_iff]
  simp [coord_knows_c1]
theorem knows_ok {c : SCoord} (n : Int) (v : List Int) (h : OkC c) : OkC (coord_knows c n v) ∧ (coord_knows c n v).Phase = c.Phase ∧ (coord_knows c n v).Epoch = c.Epoch ∧ (coord_knows c n v).Id = c.Id ∧ (coord_knows c n v).Txn = c.Txn ∧ c.Len ≤ (coord_knows c n v).Len ∧ Abv (coord_knows c n v).Vector c.Vector := by
  unfold coord_knows
  rw [contains_any]
  simp only [letIn]
  cases h1 : ((((!(coord_num n)) || (decide (n < c.Len))) || (!(sink_Above v c.Vector))) || (v.any coord_knows_c1)) with
  | true => exact ⟨h, by simp, by simp, by simp, by simp, by simp, Abv.refl _⟩
  | false =>
    simp only [cond_false]
    simp only [Bool.or_eq_false_iff, Bool.not_eq_false', above1, num_iff, decide_eq_false_iff_not, any_num2] at h1
    obtain ⟨⟨⟨a1, a2⟩, a3⟩, a4⟩ := h1
    have hv : v.length = c.Vector.length := a3.1
    have := h.vl
    exact ⟨⟨h.ph, h.ep, h.id, a1, h.dn, h.lf, by simp only [slices_Clone_int64]; omega, a4, h.tx, h.tz⟩, trivial, trivial, trivial, trivial, by omega, a3⟩

theorem answered_step {c : SCoord} {x : Spontoonlaw19_Come} (h : OkC c) (hx : x.Do = 4) : Step c x (coord_Answered c x.Kind x.Key x.Err x.Len x.Vector).1 (coord_Answered c x.Kind x.Key x.Err x.Len x.Vector).2 := by
  unfold coord_Answered
  simp only [letIn, clone_id, txn_id, pre_of]
  have hin : ∀ p, coord_in c p = decide (c.Phase = p) := fun p => by
    cases hc : coord_in c p with
    | true => simpa using ((in_iff c p).1 hc).2.symm ▸ rfl
    | false =>
      symm
      simp only [decide_eq_false_iff_not]
      intro hp
      have := (in_iff c p).2 ⟨h, hp⟩
      rw [hc] at this
      cases this
  rw [hin, hin]
  obtain ⟨o, ho, ho2⟩ : ∃ o : Nat, (bif decide (c.Phase = 2) then 3 else (bif decide (c.Phase = 3) then 4 else 0)) = o ∧ ((o = 3 ∧ c.Phase = 2) ∨ (o = 4 ∧ c.Phase = 3) ∨ (o = 0 ∧ ¬ (c.Phase = 2 ∨ c.Phase = 3))) := by
    by_cases h2 : c.Phase = 2
    · exact ⟨3, by simp [h2], .inl ⟨rfl, h2⟩⟩
    · by_cases h3 : c.Phase = 3
      · exact ⟨4, by simp [h3], .inr (.inl ⟨rfl, h3⟩)⟩
      · exact ⟨0, by simp [h2, h3], .inr (.inr ⟨rfl, by rintro (h | h); exact h2 h; exact h3 h⟩)⟩
  rw [ho]
  cases h1 : (((((o : Nat) : Int) == 0) || (x.Kind != ((o : Nat) : Int))) || (!(decide ([x.Key.Epoch, x.Key.Id] = [(coord_key c).Epoch, (coord_key c).Id])))) with
  | true => exact .none h rfl
  | false =>
    simp only [cond_false]
    simp only [Bool.or_eq_false_iff, beq_eq_false_iff_ne, bne_eq_false_iff_eq] at h1
    obtain ⟨⟨a1, a2⟩, a3⟩ := h1
    have hph : c.Phase = 2 ∨ c.Phase = 3 := by rcases ho2 with h | h | h <;> omega
    cases h2 : (x.Err == 150) with
    | true =>
      simp only [cond_true]
      have he : x.Err = 150 := by simpa using h2
      exact ⟨⟨⟨by simp, by simp⟩, h.ep, h.id, h.ln, h.dn, h.lf, h.vl, h.vn, fun hp => by simp at hp, fun _ => rfl⟩, Int.le_refl _, rfl, Int.le_refl _, Abv.refl _, fun h => by simp at h, fun h => by simp at h, fun _ => ⟨he, rfl⟩, fun h => by omega, fun h => by simp at h, fun _ _ _ => ⟨by simp, fun h => by simp at h⟩⟩
    | false =>
      simp only [cond_false]
      obtain ⟨k1, k2, k3, k4, k5, k6, k7⟩ := knows_ok x.Len x.Vector h
      generalize coord_knows c x.Len x.Vector = r at *
      have hdn := k1.dn
      have e1 : IntKind.i64.wrap (r.Done + 1) = r.Done + 1 := wrap_id _ (by omega) (by omega)
      cases h3 : ((((o : Nat) : Int) == 3) && (x.Err == 0)) with
      | true =>
        simp only [cond_true, Sum.elim_inl]
        simp only [Bool.and_eq_true, beq_iff_eq] at h3
        have hp2 : c.Phase = 2 := by rcases ho2 with h | h | h <;> omega
        have ht := k1.tx (by rw [k2]; exact hph)
        exact ⟨⟨⟨by simp, by simp⟩, k1.ep, k1.id, k1.ln, k1.dn, k1.lf, k1.vl, k1.vn, fun _ => ht, fun hn => absurd (.inr rfl) hn⟩, by simp only; omega, k3, k6, k7, fun h => by simp at h, fun _ => ⟨hx, by omega, h3.2, hp2, k5⟩, fun h => by simp at h, fun h => by omega, fun h => by simp at h, fun _ _ _ => ⟨by simp, fun _ => by omega⟩⟩
      | false =>
        simp only [cond_false]
        cases h4 : ((((o : Nat) : Int) == 4) && (x.Err == 0)) with
        | true =>
          simp only [cond_true, Sum.elim_inr, e1]
          refine ⟨⟨⟨by simp, by simp⟩, k1.ep, k1.id, k1.ln, ?_, k1.lf, k1.vl, k1.vn, fun hp => by simp at hp, fun _ => rfl⟩, by simp only; omega, k3, k6, k7, fun h => by simp at h, fun h => by simp at h, fun h => by simp at h, fun h => by omega, fun h => by simp at h, fun _ _ _ => ⟨by simp, fun h => by simp at h⟩⟩
          simp only
          split <;> omega
        | false =>
          simp only [cond_false]
          cases h5 : ((((o : Nat) : Int) == 4) && (x.Err == 4)) with
          | true =>
            simp only [cond_true, Sum.elim_inl]
            have ht := k1.tx (by rw [k2]; exact hph)
            exact ⟨⟨⟨by simp, by simp⟩, k1.ep, k1.id, k1.ln, k1.dn, k1.lf, k1.vl, k1.vn, fun _ => ht, fun hn => absurd (.inl rfl) hn⟩, by simp only; omega, k3, k6, k7, fun h => by simp at h, fun h => by simp at h, fun h => by simp at h, fun h => by omega, fun _ h => absurd hx h, fun _ _ h => by simp at h⟩
          | false =>
            simp only [cond_false, Sum.elim_inr]
            have hl := left_ok k1
            exact ⟨hl, by show c.Id ≤ r.Id; omega, k3, k6, k7, fun h => by simp at h, fun h => by simp at h, fun h => by simp at h, fun h => by omega, fun h => by simp at h, fun _ _ _ => ⟨by show (0 : Int) ≠ 2; decide, fun h => by have : (0 : Int) = 3 := h; omega⟩⟩

theorem does_step {c : SCoord} (x : Spontoonlaw19_Come) (h : OkC c) : Step c x (pontoonlaw19_does c x).1 (pontoonlaw19_does c x).2 := by
  unfold pontoonlaw19_does
  simp only [letIn]
  by_cases h0 : x.Do = 0
  · simp only [show (x.Do == 0) = true by simpa using h0, cond_true]; exact trigger_step h h0
  simp only [show (x.Do == 0) = false by simpa using h0, cond_false]
  by_cases h1 : x.Do = 1
  · simp only [show (x.Do == 1) = true by simpa using h1, cond_true]; exact snapped_step _ h h1
  simp only [show (x.Do == 1) = false by simpa using h1, cond_false]
  by_cases h2 : x.Do = 2
  · simp only [show (x.Do == 2) = true by simpa using h2, cond_true]; exact published_step _ h h2
  simp only [show (x.Do == 2) = false by simpa using h2, cond_false]
  by_cases h3 : x.Do = 3
  · simp only [show (x.Do == 3) = true by simpa using h3, cond_true]; exact failed_step h h3 rfl
  simp only [show (x.Do == 3) = false by simpa using h3, cond_false]
  by_cases h4 : x.Do = 4
  · simp only [show (x.Do == 4) = true by simpa using h4, cond_true]; exact answered_step h h4
  simp only [show (x.Do == 4) = false by simpa using h4, cond_false]
  exact resume_step _ h h4
end Go.Ab.Try
