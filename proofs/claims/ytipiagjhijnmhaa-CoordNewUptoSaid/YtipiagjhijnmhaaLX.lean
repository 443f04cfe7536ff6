/-
  What a coordinator does, step for step.
-/
import Derived.Test.YtipiagjhijnmhaaLW
set_option linter.unusedVariables false
set_option linter.unusedSimpArgs false
namespace Go.Ab.Try
open Go Go.Proofs Go.Ab

abbrev noTxn : STxn := STxn.mk 0 0 0 [] []
/-- A coordinator that may be. -/
structure OkC (c : SCoord) : Prop where
  ph : 0 ≤ c.Phase ∧ c.Phase ≤ 4
  ep : 1 ≤ c.Epoch ∧ c.Epoch ≤ 9007199254740992
  id : 0 ≤ c.Id ∧ c.Id ≤ 9007199254740992
  ln : 0 ≤ c.Len ∧ c.Len ≤ 9007199254740992
  dn : 0 ≤ c.Done ∧ c.Done ≤ 9007199254740992
  lf : 0 ≤ c.Left ∧ c.Left ≤ 9007199254740992
  vl : 1 ≤ c.Vector.length ∧ c.Vector.length ≤ 4
  vn : ∀ x ∈ c.Vector, 0 ≤ x ∧ x ≤ 9007199254740992
  tx : c.Phase = 2 ∨ c.Phase = 3 → c.Txn.Epoch = c.Epoch ∧ c.Txn.Id = c.Id
  tz : ¬ (c.Phase = 2 ∨ c.Phase = 3) → c.Txn = noTxn

theorem num_iff (n : Int) : coord_num n = true ↔ 0 ≤ n ∧ n ≤ 9007199254740992 := by simp [coord_num]
theorem pos_iff (n : Int) : coord_pos n = true ↔ 1 ≤ n ∧ n ≤ 9007199254740992 := by simp [coord_pos]
theorem any_num (v : List Int) : v.any coord_Check_c1 = false ↔ ∀ x ∈ v, 0 ≤ x ∧ x ≤ 9007199254740992 := by
  rw [List.any_eq_false]
  refine forall_congr' fun x => forall_congr' fun _ => ?_
  rw [← num_iff]
  simp [coord_Check_c1]
theorem check_iff (c : SCoord) : coord_Check c = 0 ↔ OkC c := by
  unfold coord_Check
  rw [contains_any, sameTxn1]
  constructor
  · intro h
    cases h1 : ((((((((((decide (c.Phase < 0)) || (decide (c.Phase > 4))) || (!(coord_pos c.Epoch))) || (!(coord_num c.Id))) || (!(coord_num c.Len))) || (!(coord_num c.Done))) || (!(coord_num c.Left))) || (decide (((c.Vector.length : Nat) : Int) < 1))) || (decide (((c.Vector.length : Nat) : Int) > 4))) || (c.Vector.any coord_Check_c1)) with
    | true => rw [h1] at h; simp at h
    | false =>
      rw [h1] at h
      simp only [Bool.or_eq_false_iff, decide_eq_false_iff_not, Bool.not_eq_false', num_iff, pos_iff, any_num] at h1
      obtain ⟨⟨⟨⟨⟨⟨⟨⟨⟨a1, a2⟩, a3⟩, a4⟩, a5⟩, a6⟩, a7⟩, a8⟩, a9⟩, a10⟩ := h1
      simp only [cond_false] at h
      cases h2 : ((coord_asks c && !decide ([c.Txn.Epoch, c.Txn.Id] = [(coord_key c).Epoch, (coord_key c).Id])) || (!coord_asks c && !decide (c.Txn = STxn.mk 0 0 0 [] []))) with
      | true => rw [h2] at h; simp at h
      | false =>
        simp [coord_asks, coord_key] at h2
        refine ⟨by omega, a3, a4, a5, a6, a7, by omega, a10, fun hp => ?_, fun hp => ?_⟩
        · exact h2.1 hp
        · exact h2.2 (fun h => hp (.inl h)) (fun h => hp (.inr h))
  · intro h
    have e1 : ((((((((((decide (c.Phase < 0)) || (decide (c.Phase > 4))) || (!(coord_pos c.Epoch))) || (!(coord_num c.Id))) || (!(coord_num c.Len))) || (!(coord_num c.Done))) || (!(coord_num c.Left))) || (decide (((c.Vector.length : Nat) : Int) < 1))) || (decide (((c.Vector.length : Nat) : Int) > 4))) || (c.Vector.any coord_Check_c1)) = false := by
      simp only [Bool.or_eq_false_iff, decide_eq_false_iff_not, Bool.not_eq_false', num_iff, pos_iff, any_num]
      have := h.ph
      have := h.vl
      exact ⟨⟨⟨⟨⟨⟨⟨⟨⟨by omega, by omega⟩, h.ep⟩, h.id⟩, h.ln⟩, h.dn⟩, h.lf⟩, by omega⟩, by omega⟩, h.vn⟩
    have e2 : ((coord_asks c && !decide ([c.Txn.Epoch, c.Txn.Id] = [(coord_key c).Epoch, (coord_key c).Id])) || (!coord_asks c && !decide (c.Txn = STxn.mk 0 0 0 [] []))) = false := by
      simp [coord_asks, coord_key]
      exact ⟨fun hp => h.tx hp, fun h1 h2 => h.tz (by rintro (h | h); exact h1 h; exact h2 h)⟩
    rw [e1, e2]
    rfl
theorem in_iff (c : SCoord) (p : Int) : coord_in c p = true ↔ OkC c ∧ c.Phase = p := by
  unfold coord_in
  simp [check_iff]

/-- What a step comes to. -/
structure Step (c : SCoord) (x : Spontoonlaw19_Come) (y : SCoord) (d : SDo) : Prop where
  ok : OkC y
  id : c.Id ≤ y.Id
  ep : y.Epoch = c.Epoch
  ln : c.Len ≤ y.Len
  vec : Abv y.Vector c.Vector
  barrier : d.Kind = 1 → d.Id = y.Id ∧ c.Id < d.Id ∧ c.Phase = 0
  commit : d.Kind = 4 → x.Do = 4 ∧ x.Kind = 3 ∧ x.Err = 0 ∧ c.Phase = 2 ∧ d.Txn = c.Txn
  stop : d.Kind = 6 → x.Err = 150 ∧ y.Phase = 4
  stopped : c.Phase = 4 → d.Kind = 0 ∧ y = c
  pre : d.Kind = 3 → x.Do ≠ 4 → Abv d.Txn.Vector c.Vector ∧ c.Len ≤ IntKind.i64.wrap (d.Txn.Begin + ((d.Txn.Records.length : Nat) : Int))
  twice : x.Do = 4 → d.Kind ≠ 0 → d.Kind ≠ 3 → y.Phase ≠ 2 ∧ (y.Phase = 3 → x.Kind = 3)

/-- Nothing is done. -/
theorem Step.none {c : SCoord} {x : Spontoonlaw19_Come} {d : SDo} (h : OkC c) (hd : d.Kind = 0) : Step c x c d :=
  ⟨h, Int.le_refl _, rfl, Int.le_refl _, Abv.refl _, fun h => by omega, fun h => by omega, fun h => by omega, fun _ => ⟨hd, rfl⟩, fun h => by omega, fun _ h => absurd hd h⟩

theorem left_ok {c : SCoord} (h : OkC c) : OkC (coord_left c) := by
  have hl := h.lf
  have e : IntKind.i64.wrap (c.Left + 1) = c.Left + 1 := wrap_id _ (by omega) (by omega)
  refine ⟨⟨Int.le_refl 0, by show (0 : Int) ≤ 4; decide⟩, h.ep, h.id, h.ln, h.dn, ?_, h.vl, h.vn, fun hp => ?_, fun _ => rfl⟩
  · simp only [coord_left, e]
    split <;> omega
  · simp [coord_left] at hp

theorem trigger_step {c : SCoord} {x : Spontoonlaw19_Come} (h : OkC c) (hx : x.Do = 0) : Step c x (coord_Trigger c).1 (coord_Trigger c).2 := by
  unfold coord_Trigger
  simp only [letIn, clone_id]
  cases h1 : ((!(coord_in c 0)) || (c.Id == 9007199254740992)) with
  | true => exact .none h rfl
  | false =>
    simp only [cond_false]
    simp only [Bool.or_eq_false_iff, Bool.not_eq_false', in_iff, beq_eq_false_iff_ne] at h1
    obtain ⟨⟨_, hp⟩, hi⟩ := h1
    have hid := h.id
    have e : IntKind.i64.wrap (c.Id + 1) = c.Id + 1 := wrap_id _ (by omega) (by omega)
    have ht := h.tz (by omega)
    refine ⟨⟨by simp only; omega, h.ep, by simp only [e]; omega, h.ln, h.dn, h.lf, h.vl, h.vn, fun hp => by simp at hp, fun _ => ht⟩, by simp only [e]; omega, rfl, Int.le_refl _, Abv.refl _, fun _ => ⟨rfl, by simp only [e]; omega, hp⟩, fun h => by simp at h, fun h => by simp at h, fun h => by omega, fun h => by simp at h, fun h => by omega⟩
theorem snapped_step {c : SCoord} {x : Spontoonlaw19_Come} (n : Int) (h : OkC c) (hx : x.Do = 1) : Step c x (coord_Snapped c n).1 (coord_Snapped c n).2 := by
  unfold coord_Snapped
  simp only [letIn, clone_id]
  cases h1 : ((!(coord_in c 1)) || (n != c.Id)) with
  | true => exact .none h rfl
  | false =>
    simp only [cond_false]
    simp only [Bool.or_eq_false_iff, Bool.not_eq_false', in_iff] at h1
    obtain ⟨⟨_, hp⟩, hi⟩ := h1
    exact ⟨h, Int.le_refl _, rfl, Int.le_refl _, Abv.refl _, fun h => by simp at h, fun h => by simp at h, fun h => by simp at h, fun h => by omega, fun h => by simp at h, fun h => by omega⟩
theorem failed_step {c : SCoord} {x : Spontoonlaw19_Come} {d : SDo} (h : OkC c) (hx : x.Do = 3) (hd : d.Kind = 0) : Step c x (coord_Failed c) d := by
  unfold coord_Failed
  simp only [letIn, clone_id]
  cases h1 : (!(coord_in c 1)) with
  | true => exact .none h hd
  | false =>
    simp only [cond_false]
    simp only [Bool.not_eq_false', in_iff] at h1
    exact ⟨left_ok h, Int.le_refl _, rfl, Int.le_refl _, Abv.refl _, fun h => by omega, fun h => by omega, fun h => by omega, fun h => by omega, fun h => by omega, fun _ h => absurd hd h⟩

/-- What is wanted of a manifest that may be. -/
theorem manifest_ok {m : SManifest} (h : manifest_Check m = 0) : (1 ≤ m.Id ∧ m.Id ≤ 9007199254740992) ∧ (0 ≤ m.Begin ∧ m.Begin ≤ m.Out ∧ m.Out ≤ 9007199254740992) ∧ ((m.Records.length : Nat) : Int) = m.Out - m.Begin := by
  unfold manifest_Check at h
  cases h1 : (((((!(manifest_pos m.Epoch)) || (!(manifest_pos m.Id))) || (decide (((m.Vector.length : Nat) : Int) < 1))) || (decide (((m.Vector.length : Nat) : Int) > 4))) || (slices_ContainsFunc_int64 m.Vector manifest_Check_c1)) with
  | true => rw [h1] at h; simp at h
  | false =>
    rw [h1] at h
    simp only [cond_false] at h
    cases h2 : ((((((!(manifest_num m.Out)) || (decide (m.Begin < 0))) || (decide (m.Begin > m.Out))) || (((m.Records.length : Nat) : Int) != (IntKind.i64.wrap (m.Out - m.Begin)))) || (decide (((m.Records.length : Nat) : Int) > 4096))) || (decide (((m.Pieces.length : Nat) : Int) > 512))) with
    | true => rw [h2] at h; simp at h
    | false =>
      simp only [Bool.or_eq_false_iff, Bool.not_eq_false', manifest_pos, manifest_num, Bool.and_eq_true, decide_eq_true_eq, decide_eq_false_iff_not] at h1 h2
      obtain ⟨⟨⟨⟨⟨a1, a2⟩, a3⟩, a4⟩, a5⟩, a6⟩ := h2
      have e : IntKind.i64.wrap (m.Out - m.Begin) = m.Out - m.Begin := wrap_id _ (by omega) (by omega)
      rw [e] at a4
      have a4' : ((m.Records.length : Nat) : Int) = m.Out - m.Begin := by simpa using a4
      exact ⟨h1.1.1.1.2, ⟨by omega, by omega, by omega⟩, a4'⟩
end Go.Ab.Try
