/-
  CoordOrder, CoordLess, CoordTwice in plain terms.
-/
import Derived.Test.YtipiagjhijnmhaaLY
set_option linter.unusedVariables false
set_option linter.unusedSimpArgs false
namespace Go.Ab.Try
open Go Go.Proofs Go.Ab

theorem eta_c (c : SCoord) : SCoord.mk c.Phase c.Epoch c.Id c.Len c.Vector (STxn.mk c.Txn.Epoch c.Txn.Id c.Txn.Begin c.Txn.Records c.Txn.Vector) c.Done c.Left = c := rfl
theorem eta_x (x : Spontoonlaw19_Come) : Spontoonlaw19_Come.mk x.Do x.Own x.Id x.Manifest x.Kind x.Key x.Err x.Len x.Vector = x := rfl
theorem owned_do (c : SCoord) (x : Spontoonlaw19_Come) : (pontoonlaw19_owned c x).Do = x.Do := rfl

theorem less_loop (a : List Spontoonlaw19_Come) : ∀ (k x : Nat) (c : SCoord), a.length - x ≤ k → OkC c → pontoonlaw19_CoordLess_L0 a x c.Phase c.Epoch c.Id c.Len c.Vector c.Txn.Epoch c.Txn.Id c.Txn.Begin c.Txn.Records c.Txn.Vector c.Done c.Left = .inr () := by
  intro k
  induction k with
  | zero =>
    intro x c hk h
    rw [pontoonlaw19_CoordLess_L0.eq_def, dif_neg (by simp; omega)]
  | succ k ih =>
    intro x c hk h
    rw [pontoonlaw19_CoordLess_L0.eq_def]
    by_cases hx : x < a.length
    · rw [dif_pos (by simpa using hx)]
      simp only [letIn]
      rw [eta_c, eta_x]
      have S := does_step (pontoonlaw19_owned c (a.getD x default)) h
      have hdo := owned_do c (a.getD x default)
      generalize pontoonlaw19_owned c (a.getD x default) = z at *
      generalize pontoonlaw19_does c z = q at *
      rw [dif_neg, dif_neg]
      · exact ih (x + 1) q.1 (by omega) S.ok
      · intro hb
        simp only [Bool.and_eq_true, Bool.or_eq_true, beq_iff_eq, bne_iff_ne, Bool.not_eq_true', decide_eq_true_eq] at hb
        obtain ⟨⟨b1, b2⟩, b3⟩ := hb
        have hp := S.pre b1 (by rw [hdo]; exact b2)
        rcases b3 with b3 | b3
        · rw [(above2 _ _).2 hp.1] at b3; cases b3
        · exact absurd hp.2 (by omega)
      · intro hb
        simp only [Bool.or_eq_true, Bool.not_eq_true', decide_eq_true_eq] at hb
        rcases hb with hb | hb
        · have := S.ln; omega
        · rw [(above2 _ _).2 S.vec] at hb; cases hb
    · rw [dif_neg (by simpa using hx)]

theorem twice_loop (a : List Spontoonlaw19_Come) : ∀ (k x : Nat) (c : SCoord), a.length - x ≤ k → OkC c → pontoonlaw19_CoordTwice_L0 a x c.Phase c.Epoch c.Id c.Len c.Vector c.Txn.Epoch c.Txn.Id c.Txn.Begin c.Txn.Records c.Txn.Vector c.Done c.Left = .inr () := by
  intro k
  induction k with
  | zero =>
    intro x c hk h
    rw [pontoonlaw19_CoordTwice_L0.eq_def, dif_neg (by simp; omega)]
  | succ k ih =>
    intro x c hk h
    rw [pontoonlaw19_CoordTwice_L0.eq_def]
    by_cases hx : x < a.length
    · rw [dif_pos (by simpa using hx)]
      simp only [letIn]
      rw [eta_c, eta_x]
      have S := does_step (pontoonlaw19_owned c (a.getD x default)) h
      generalize pontoonlaw19_owned c (a.getD x default) = z at *
      generalize hq : pontoonlaw19_does c z = q at *
      by_cases hb : (((z.Do == 4) && (q.2.Kind != 0)) && (q.2.Kind != 3)) = true
      · rw [dif_pos hb]
        simp only [Bool.and_eq_true, beq_iff_eq, bne_iff_ne] at hb
        obtain ⟨⟨b1, b2⟩, b3⟩ := hb
        have ht := S.twice b1 b2 b3
        have hn : pontoonlaw19_does q.1 z = (q.1, (SDo.mk 0 0 0 (STxn.mk 0 0 0 [] []))) := by
          unfold pontoonlaw19_does
          simp only [letIn, b1]
          simp only [show ((4 : Int) == 0) = false from rfl, show ((4 : Int) == 1) = false from rfl, show ((4 : Int) == 2) = false from rfl, show ((4 : Int) == 3) = false from rfl, show ((4 : Int) == 4) = true from rfl, cond_false, cond_true]
          unfold coord_Answered
          simp only [letIn, clone_id]
          have hin : ∀ p, coord_in q.1 p = decide (q.1.Phase = p) := fun p => by
            cases hc : coord_in q.1 p with
            | true => simpa using ((in_iff q.1 p).1 hc).2.symm ▸ rfl
            | false =>
              symm
              simp only [decide_eq_false_iff_not]
              intro hp
              have := (in_iff q.1 p).2 ⟨S.ok, hp⟩
              rw [hc] at this
              cases this
          rw [hin, hin]
          have e2 : decide (q.1.Phase = 2) = false := decide_eq_false ht.1
          rw [e2]
          simp only [cond_false]
          by_cases h3 : q.1.Phase = 3
          · have hk := ht.2 h3
            simp [h3, hk]
          · simp [h3]
        rw [hn]
        simp only [same2]
        simp
        exact ih (x + 1) q.1 (by omega) S.ok
      · rw [dif_neg hb]
        simp only [Sum.elim_inr]
        exact ih (x + 1) q.1 (by omega) S.ok
    · rw [dif_neg (by simpa using hx)]

theorem order_loop (a : List Spontoonlaw19_Come) : ∀ (k x : Nat) (l : Int) (c : SCoord), a.length - x ≤ k → OkC c → l ≤ c.Id → pontoonlaw19_CoordOrder_L0 a l x c.Phase c.Epoch c.Id c.Len c.Vector c.Txn.Epoch c.Txn.Id c.Txn.Begin c.Txn.Records c.Txn.Vector c.Done c.Left = .inr () := by
  intro k
  induction k with
  | zero =>
    intro x l c hk h hl
    rw [pontoonlaw19_CoordOrder_L0.eq_def, dif_neg (by simp; omega)]
  | succ k ih =>
    intro x l c hk h hl
    rw [pontoonlaw19_CoordOrder_L0.eq_def]
    by_cases hx : x < a.length
    · rw [dif_pos (by simpa using hx)]
      simp only [letIn]
      rw [eta_c, eta_x]
      have S := does_step (pontoonlaw19_owned c (a.getD x default)) h
      generalize pontoonlaw19_owned c (a.getD x default) = z at *
      generalize pontoonlaw19_does c z = q at *
      have c1 : ¬ ((((coord_Check q.1) != 0) || (decide (q.1.Id < c.Id))) || (q.1.Epoch != c.Epoch)) = true := by
        intro hb
        simp only [Bool.or_eq_true, bne_iff_ne, decide_eq_true_eq] at hb
        rcases hb with (hb | hb) | hb
        · exact hb ((check_iff _).2 S.ok)
        · have := S.id; omega
        · exact hb S.ep
      have c2 : ¬ ((c.Phase == 4) && ((q.2.Kind != 0) || (!(pontoonref19_Same c q.1)))) = true := by
        intro hb
        simp only [Bool.and_eq_true, Bool.or_eq_true, bne_iff_ne, beq_iff_eq, same2, Bool.not_eq_true', decide_eq_false_iff_not] at hb
        obtain ⟨b1, b2⟩ := hb
        have := S.stopped b1
        rcases b2 with b2 | b2
        · exact b2 this.1
        · exact b2 this.2.symm
      rw [dif_neg c1]
      by_cases k1 : q.2.Kind = 1
      · have hb := S.barrier k1
        rw [dif_pos (by simpa using k1), dif_neg (by
          simp only [Bool.or_eq_true, bne_iff_ne, decide_eq_true_eq]
          rintro (h | h)
          · omega
          · exact h hb.2.2)]
        simp only [Sum.elim_inr]
        rw [dif_neg c2]
        exact ih (x + 1) _ q.1 (by omega) S.ok (by omega)
      · rw [dif_neg (by simpa using k1)]
        have hid := S.id
        by_cases k4 : q.2.Kind = 4
        · have hb := S.commit k4
          rw [dif_pos (by simpa using k4), dif_neg (by
            simp only [Bool.or_eq_true, bne_iff_ne, Bool.not_eq_true', sameTxn2, decide_eq_false_iff_not]
            rintro ((((h | h) | h) | h) | h)
            · exact h hb.1
            · exact h hb.2.1
            · exact h hb.2.2.1
            · exact h hb.2.2.2.1
            · exact h hb.2.2.2.2)]
          simp only [Sum.elim_inr]
          rw [dif_neg c2]
          exact ih (x + 1) _ q.1 (by omega) S.ok (by omega)
        · rw [dif_neg (by simpa using k4)]
          by_cases k6 : q.2.Kind = 6
          · have hb := S.stop k6
            rw [dif_pos (by simpa using k6), dif_neg (by
              simp only [Bool.or_eq_true, bne_iff_ne]
              rintro (h | h)
              · exact h hb.1
              · exact h hb.2)]
            simp only [Sum.elim_inr]
            rw [dif_neg c2]
            exact ih (x + 1) _ q.1 (by omega) S.ok (by omega)
          · rw [dif_neg (by simpa using k6)]
            simp only [Sum.elim_inr]
            rw [dif_neg c2]
            exact ih (x + 1) _ q.1 (by omega) S.ok (by omega)
    · rw [dif_neg (by simpa using hx)]

/-- A coordinator at the beginning of an epoch. -/
theorem new_ok (e : Int) (v : List Int) (he : 1 ≤ e ∧ e ≤ 9007199254740992) (hv : 1 ≤ v.length ∧ v.length ≤ 4) (hn : ∀ x ∈ v, 0 ≤ x ∧ x ≤ 9007199254740992) : ∃ c, coord_New e 0 0 v = (c, 0) ∧ OkC c ∧ c.Id = 0 := by
  have hok : OkC (SCoord.mk 0 e 0 0 v (STxn.mk 0 0 0 [] []) 0 0) := ⟨by simp, he, by simp, by simp, by simp, by simp, hv, hn, fun h => by simp at h, fun _ => rfl⟩
  refine ⟨_, ?_, hok, rfl⟩
  have hc := (check_iff _).2 hok
  unfold coord_New
  simp only [letIn, slices_Clone_int64]
  simp only [hc]
  simp

theorem live_small : manifest_Check (pontoonlaw19_small 3 1 0) = 0 := by
  unfold manifest_Check pontoonlaw19_small
  rw [contains_any]
  simp [manifest_pos, manifest_num, manifest_Check_c1, letIn]
  have e0 : IntKind.i64.wrap 0 = 0 := wrap_id _ (by omega) (by omega)
  have e1 : IntKind.i64.wrap 1 = 1 := wrap_id _ (by omega) (by omega)
  rw [manifest_Check_L0.eq_def, manifest_Check_L0.eq_def]
  simp [e0, e1]
theorem live_true : pontoonlaw19_live = true := by
  have e1 : IntKind.i64.wrap 1 = 1 := wrap_id _ (by omega) (by omega)
  have e0 : IntKind.i64.wrap (0 + 1) = 1 := wrap_id _ (by omega) (by omega)
  have hab : sink_Above [0] [0] = true := (above1 _ _).2 (Abv.refl _)
  have hm := live_small
  have hok : ∀ p i t d, (p = 0 ∧ t = noTxn ∨ p = 1 ∧ t = noTxn ∨ p = 2 ∧ t.Epoch = 3 ∧ t.Id = i ∨ p = 3 ∧ t.Epoch = 3 ∧ t.Id = i) → (i = 0 ∨ i = 1) → (d = 0 ∨ d = 1) → OkC (SCoord.mk p 3 i 0 [0] t d 0) := by
    rintro p i t d hp hi hd
    refine ⟨by simp; omega, by simp, by simp; omega, by simp, by simp; omega, by simp, by simp, by simp, fun h => ?_, fun h => ?_⟩
    · rcases hp with hp | hp | hp | hp <;> simp at h ⊢ <;> first | omega | exact hp.2
    · rcases hp with hp | hp | hp | hp <;> simp at h ⊢ <;> first | omega | exact hp.2
  have k1 : coord_New 3 0 0 [0] = (SCoord.mk 0 3 0 0 [0] noTxn 0 0, 0) := by
    have := (check_iff _).2 (hok 0 0 noTxn 0 (by simp) (by simp) (by simp))
    unfold coord_New
    simp only [letIn, slices_Clone_int64]
    rw [this]; rfl
  have k2 : coord_Trigger (SCoord.mk 0 3 0 0 [0] noTxn 0 0) = (SCoord.mk 1 3 1 0 [0] noTxn 0 0, SDo.mk 1 1 0 noTxn) := by
    have := (in_iff _ 0).2 ⟨hok 0 0 noTxn 0 (by simp) (by simp) (by simp), rfl⟩
    unfold coord_Trigger
    simp only [letIn, clone_id]
    rw [this]
    simp [e0, e1]
  have k3 : coord_Snapped (SCoord.mk 1 3 1 0 [0] noTxn 0 0) 1 = (SCoord.mk 1 3 1 0 [0] noTxn 0 0, SDo.mk 2 1 0 noTxn) := by
    have := (in_iff _ 1).2 ⟨hok 1 1 noTxn 0 (by simp) (by simp) (by simp), rfl⟩
    unfold coord_Snapped
    simp only [letIn, clone_id]
    rw [this]
    simp
  have k4 : coord_Published (SCoord.mk 1 3 1 0 [0] noTxn 0 0) (pontoonlaw19_small 3 1 0) = (SCoord.mk 2 3 1 0 [0] (STxn.mk 3 1 0 [] [0]) 0 0, SDo.mk 3 1 0 (STxn.mk 3 1 0 [] [0])) := by
    have := (in_iff _ 1).2 ⟨hok 1 1 noTxn 0 (by simp) (by simp) (by simp), rfl⟩
    unfold coord_Published
    simp only [letIn, clone_id]
    rw [this, hm]
    simp [pontoonlaw19_small, manifest_Key, coord_key, hab, txn_of, pre_of]
  have kn : ∀ p t d, coord_knows (SCoord.mk p 3 1 0 [0] t d 0) 0 [0] = SCoord.mk p 3 1 0 [0] t d 0 := fun p t d => by
    unfold coord_knows
    rw [contains_any, hab]
    simp [coord_num, coord_knows_c1, letIn, slices_Clone_int64]
  have k5 : coord_Answered (SCoord.mk 2 3 1 0 [0] (STxn.mk 3 1 0 [] [0]) 0 0) 3 (STxnKey.mk 3 1) 0 0 [0] = (SCoord.mk 3 3 1 0 [0] (STxn.mk 3 1 0 [] [0]) 0 0, SDo.mk 4 1 0 (STxn.mk 3 1 0 [] [0])) := by
    have := (in_iff _ 2).2 ⟨hok 2 1 (STxn.mk 3 1 0 [] [0]) 0 (by simp) (by simp) (by simp), rfl⟩
    unfold coord_Answered
    simp only [letIn, clone_id, kn]
    rw [this]
    simp [coord_key, txn_id]
  have k6 : coord_Answered (SCoord.mk 3 3 1 0 [0] (STxn.mk 3 1 0 [] [0]) 0 0) 4 (STxnKey.mk 3 1) 0 0 [0] = (SCoord.mk 0 3 1 0 [0] noTxn 1 0, SDo.mk 5 1 0 noTxn) := by
    have := (in_iff _ 3).2 ⟨hok 3 1 (STxn.mk 3 1 0 [] [0]) 0 (by simp) (by simp) (by simp), rfl⟩
    have hn : coord_in (SCoord.mk 3 3 1 0 [0] (STxn.mk 3 1 0 [] [0]) 0 0) 2 = false := by simp [coord_in]
    unfold coord_Answered
    simp only [letIn, clone_id, kn]
    rw [this, hn]
    simp [coord_key, e0, e1]
  unfold pontoonlaw19_live
  simp only [letIn]
  rw [k1]; simp only
  rw [k2]; simp only
  rw [k3]; simp only
  rw [k4]; simp only
  rw [k5]; simp only
  rw [k6]
  rfl

theorem law_CoordLess (a0 : List Spontoonlaw19_Come) (h : a0.length ≤ 1048576 ∧ ∀ y ∈ a0, Spontoonlaw19_Come.In y) : pontoonlaw19_CoordLess a0 = true := by
  unfold pontoonlaw19_CoordLess
  obtain ⟨c, h1, h2, _⟩ := new_ok 2 [0, 0] (by omega) (by simp) (by simp)
  rw [live_true, h1]
  simp only [letIn, Bool.not_true, cond_false, bne_self_eq_false]
  rw [less_loop a0 _ 0 c (Nat.le_refl _) h2]
  rfl
theorem law_CoordTwice (a0 : List Spontoonlaw19_Come) (h : a0.length ≤ 1048576 ∧ ∀ y ∈ a0, Spontoonlaw19_Come.In y) : pontoonlaw19_CoordTwice a0 = true := by
  unfold pontoonlaw19_CoordTwice
  obtain ⟨c, h1, h2, _⟩ := new_ok 2 [0, 0] (by omega) (by simp) (by simp)
  rw [live_true, h1]
  simp only [letIn, Bool.not_true, cond_false, bne_self_eq_false]
  rw [twice_loop a0 _ 0 c (Nat.le_refl _) h2]
  rfl
theorem law_CoordOrder (n : Int) (a0 : List Spontoonlaw19_Come) (hn : IntKind.u8.min ≤ n ∧ n ≤ IntKind.u8.max) (h : a0.length ≤ 1048576 ∧ ∀ y ∈ a0, Spontoonlaw19_Come.In y) : pontoonlaw19_CoordOrder n a0 = true := by
  have hn' : 0 ≤ n ∧ n ≤ 255 := by simpa [IntKind.min, IntKind.max, IntKind.signed, IntKind.bits] using hn
  unfold pontoonlaw19_CoordOrder
  have e1 : IntKind.i64.wrap n = n := wrap_id _ (by omega) (by omega)
  have e2 : IntKind.i64.wrap (n + 1) = n + 1 := wrap_id _ (by omega) (by omega)
  rw [e1, e2]
  obtain ⟨c, h1, h2, h3⟩ := new_ok (n + 1) [0, 0] (by omega) (by simp) (by simp)
  rw [live_true, h1]
  simp only [letIn, Bool.not_true, cond_false, bne_self_eq_false]
  rw [order_loop a0 _ 0 0 c (Nat.le_refl _) h2 (by omega)]
  rfl
end Go.Ab.Try
