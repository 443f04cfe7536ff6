/-
  Keys are apart: the plain law.
-/
import Derived.Test.YtipiagjhijnmhaaO0
import Derived.Test.YtipiagjhijnmhaaO1
import Derived.Test.YtipiagjhijnmhaaO2
import Derived.Test.YtipiagjhijnmhaaO3
import Derived.Test.YtipiagjhijnmhaaH3
set_option linter.unusedVariables false
set_option linter.unusedSimpArgs false
namespace Go.Ab.Try
open Go Go.Proofs Go.Ab

def fk (q : Int) (l : List SKeyState) : List SKeyState := l.filter fun k => k.Key == q
theorem fk_append (q : Int) (a b : List SKeyState) : fk q (a ++ b) = fk q a ++ fk q b := List.filter_append ..
theorem fk_hit (q : Int) (x : SKeyState) (l : List SKeyState) (h : x.Key = q) : fk q (x :: l) = x :: fk q l := List.filter_cons_of_pos (by simp [h])
theorem fk_miss (q : Int) (x : SKeyState) (l : List SKeyState) (h : x.Key ≠ q) : fk q (x :: l) = fk q l := List.filter_cons_of_neg (by simp [h])
theorem fk_none (q : Int) (l : List SKeyState) (h : ∀ x ∈ l, x.Key ≠ q) : fk q l = [] := List.filter_eq_nil_iff.2 fun x hx => by simp [h x hx]

theorem fnd_false (q : Int) : ∀ ks : List SKeyState, (fnd ks q).2 = false → ∀ k ∈ ks, k.Key ≠ q
  | [], _, k, hk => by cases hk
  | x :: r, h, k, hk => by
    simp only [fnd] at h
    cases e : x.Key == q with
    | true => rw [e] at h; cases h
    | false =>
      rw [e] at h
      cases hk with
      | head => exact ne_of_beq_false e
      | tail _ hk => exact fnd_false q r h k hk
theorem fnd_true (q : Int) : ∀ ks : List SKeyState, (fnd ks q).2 = true → ∃ pre k post, ks = pre ++ k :: post ∧ k.Key = q ∧ (fnd ks q).1 = pre.length
  | [], h => by cases h
  | x :: r, h => by
    simp only [fnd] at h ⊢
    cases e : x.Key == q with
    | true => exact ⟨[], x, r, rfl, eq_of_beq e, rfl⟩
    | false =>
      rw [e] at h
      obtain ⟨pre, k, post, h1, h2, h3⟩ := fnd_true q r h
      exact ⟨x :: pre, k, post, by rw [h1]; rfl, h2, by rw [cond_false, h3]; rfl⟩
/-- No key stands twice. -/
def Apart (l : List SKeyState) : Prop := l.Pairwise fun a b => a.Key ≠ b.Key

/-- What a fold does to the keys, told by their places. -/
theorem fold_shape (a0 : SOp) (s : SOpState) (r : SRecord) :
    (∃ pre k post, s.Keys = pre ++ k :: post ∧ k.Key = r.Key ∧ (fnd s.Keys r.Key).2 = true ∧ keyK s.Keys r.Key = k ∧
      (oper_fold a0 s r).1.Keys = pre ++ (bif fullK a0 (foldK a0 k r.Val) then [] else [foldK a0 k r.Val]) ++ post) ∨
    (∃ pre post, s.Keys = pre ++ post ∧ (∀ x ∈ s.Keys, x.Key ≠ r.Key) ∧ (fnd s.Keys r.Key).2 = false ∧ keyK s.Keys r.Key = ⟨r.Key, 0, 0⟩ ∧
      (oper_fold a0 s r).1.Keys = pre ++ (bif fullK a0 (foldK a0 ⟨r.Key, 0, 0⟩ r.Val) then [] else [foldK a0 ⟨r.Key, 0, 0⟩ r.Val]) ++ post) := by
  cases hF : (fnd s.Keys r.Key).2 with
  | true =>
    obtain ⟨pre, k, post, h1, h2, h3⟩ := fnd_true r.Key s.Keys hF
    have hk : keyK s.Keys r.Key = k := by
      simp only [keyK, hF, cond_true, h3]
      rw [h1, List.getD_eq_getElem?_getD, List.getElem?_append_right (Nat.le_refl _), Nat.sub_self]
      rfl
    refine .inl ⟨pre, k, post, h1, h2, rfl, hk, ?_⟩
    simp only [oper_fold, hF, cond_true, hk, h3]
    cases fullK a0 (foldK a0 k r.Val) with
    | true =>
      simp only [cond_true, delK, h1]
      rw [List.take_left, List.append_nil, List.drop_append, List.drop_of_length_le (by omega), List.nil_append]
      have : pre.length + 1 - pre.length = 1 := by omega
      rw [this]
      rfl
    | false =>
      simp only [cond_false, h1]
      rw [List.set_append_right _ _ (Nat.le_refl _), Nat.sub_self]
      simp
  | false =>
    have hn := fnd_false r.Key s.Keys hF
    have hk : keyK s.Keys r.Key = ⟨r.Key, 0, 0⟩ := by simp only [keyK, hF, cond_false]
    cases hG : fullK a0 (foldK a0 ⟨r.Key, 0, 0⟩ r.Val) with
    | true =>
      refine .inr ⟨s.Keys, [], by simp, hn, rfl, hk, ?_⟩
      simp [oper_fold, hF, hk, hG]
    | false =>
      refine .inr ⟨s.Keys.take (pos s.Keys r.Key), s.Keys.drop (pos s.Keys r.Key), (List.take_append_drop _ _).symm, hn, rfl, hk, ?_⟩
      simp [oper_fold, hF, hk, hG, insK]
theorem foldK_key (a0 : SOp) (k : SKeyState) (v : Int) : (foldK a0 k v).Key = k.Key := rfl

theorem fold_apart (a0 : SOp) (s : SOpState) (r : SRecord) (h : Apart s.Keys) : Apart (oper_fold a0 s r).1.Keys := by
  unfold Apart at h ⊢
  rcases fold_shape a0 s r with ⟨pre, k, post, h1, h2, _, _, h5⟩ | ⟨pre, post, h1, h2, _, _, h5⟩
  · rw [h5]
    rw [h1] at h
    cases fullK a0 (foldK a0 k r.Val) with
    | true =>
      simp only [cond_true, List.append_nil]
      rw [List.pairwise_append, List.pairwise_cons] at h
      rw [List.pairwise_append]
      exact ⟨h.1, h.2.1.2, fun a ha b hb => h.2.2 a ha b (List.mem_cons_of_mem _ hb)⟩
    | false =>
      simp only [cond_false, List.append_assoc, List.singleton_append]
      rw [List.pairwise_append, List.pairwise_cons] at h ⊢
      refine ⟨h.1, ⟨fun b hb => by rw [foldK_key]; exact h.2.1.1 b hb, h.2.1.2⟩, fun a ha b hb => ?_⟩
      cases hb with
      | head => rw [foldK_key]; exact h.2.2 a ha k List.mem_cons_self
      | tail _ hb => exact h.2.2 a ha b (List.mem_cons_of_mem _ hb)
  · rw [h5]
    rw [h1] at h h2
    cases fullK a0 (foldK a0 ⟨r.Key, 0, 0⟩ r.Val) with
    | true => simp only [cond_true, List.append_nil]; exact h
    | false =>
      simp only [cond_false, List.append_assoc, List.singleton_append]
      rw [List.pairwise_append] at h
      rw [List.pairwise_append, List.pairwise_cons]
      refine ⟨h.1, ⟨fun b hb => fun e => h2 b (List.mem_append_right _ hb) (by rw [← e]; rfl), h.2.1⟩, fun a ha b hb => ?_⟩
      cases hb with
      | head => exact fun e => h2 a (List.mem_append_left _ ha) e
      | tail _ hb => exact h.2.2 a ha b hb
theorem fold_other (a0 : SOp) (s : SOpState) (r : SRecord) (q : Int) (hq : r.Key ≠ q) : fk q (oper_fold a0 s r).1.Keys = fk q s.Keys ∧ (oper_fold a0 s r).2.filter (fun p => p.Record.Key == q) = [] := by
  constructor
  · rcases fold_shape a0 s r with ⟨pre, k, post, h1, h2, _, _, h5⟩ | ⟨pre, post, h1, h2, _, _, h5⟩
    · rw [h5, h1, fk_append, fk_append, fk_append, fk_miss q k post (by rw [h2]; exact hq)]
      cases fullK a0 (foldK a0 k r.Val) with
      | true => simp [fk]
      | false => rw [cond_false, fk_miss q _ [] (by rw [foldK_key, h2]; exact hq)]; simp [fk]
    · rw [h5, h1, fk_append, fk_append, fk_append]
      cases fullK a0 (foldK a0 ⟨r.Key, 0, 0⟩ r.Val) with
      | true => simp [fk]
      | false => rw [cond_false, fk_miss q _ [] hq]; simp [fk]
  · unfold oper_fold
    cases (a0.Kind == 6) && !fullK a0 (foldK a0 (keyK s.Keys r.Key) r.Val) with
    | true => rfl
    | false => simp [hq]
theorem fold_same (a0 : SOp) (s : SOpState) (r : SRecord) (h : Apart s.Keys) (t : Int) : oper_fold a0 ⟨fk r.Key s.Keys, t⟩ r = (⟨fk r.Key (oper_fold a0 s r).1.Keys, t⟩, (oper_fold a0 s r).2) ∧ (oper_fold a0 s r).2.filter (fun p => p.Record.Key == r.Key) = (oper_fold a0 s r).2 := by
  have hp : (oper_fold a0 s r).2 = bif (a0.Kind == 6) && !fullK a0 (foldK a0 (keyK s.Keys r.Key) r.Val) then [] else [⟨0, ⟨r.Key, (foldK a0 (keyK s.Keys r.Key) r.Val).Acc⟩⟩] := rfl
  constructor
  · unfold Apart at h
    rcases fold_shape a0 s r with ⟨pre, k, post, h1, h2, h3, h4, h5⟩ | ⟨pre, post, h1, h2, h3, h4, h5⟩
    · rw [h1, List.pairwise_append, List.pairwise_cons] at h
      have e1 : fk r.Key pre = [] := fk_none _ _ fun x hx e => h.2.2 x hx k List.mem_cons_self (by rw [e, h2])
      have e2 : fk r.Key post = [] := fk_none _ _ fun x hx e => h.2.1.1 x hx (by rw [e, h2])
      have e3 : fk r.Key s.Keys = [k] := by rw [h1, fk_append, fk_hit _ _ _ h2, e1, e2]; rfl
      have e4 : fnd [k] r.Key = (0, true) := by simp [fnd, h2]
      have e5 : keyK [k] r.Key = k := by simp [keyK, e4]
      have e6 : fk r.Key (oper_fold a0 s r).1.Keys = bif fullK a0 (foldK a0 k r.Val) then [] else [foldK a0 k r.Val] := by
        rw [h5, fk_append, fk_append, e1, e2, List.nil_append, List.append_nil]
        cases fullK a0 (foldK a0 k r.Val) with
        | true => rfl
        | false => rw [cond_false, fk_hit _ _ _ (by rw [foldK_key]; exact h2)]; rfl
      rw [e6, hp, h4, e3]
      simp only [oper_fold, e4, e5, cond_true]
      cases fullK a0 (foldK a0 k r.Val) <;> rfl
    · have e3 : fk r.Key s.Keys = [] := fk_none _ _ h2
      rw [h1, fk_append] at e3
      obtain ⟨e1, e2⟩ := List.append_eq_nil_iff.1 e3
      rw [h1, fk_append, e1, e2, hp, h4, h5, fk_append, fk_append, e1, e2]
      simp only [oper_fold, List.nil_append, List.append_nil, fnd, keyK, cond_false, pos, insK]
      cases fullK a0 (foldK a0 ⟨r.Key, 0, 0⟩ r.Val) with
      | true => rfl
      | false => simp only [cond_false]; rw [fk_hit r.Key _ [] rfl]; rfl
  · rw [hp]
    cases (a0.Kind == 6) && !fullK a0 (foldK a0 (keyK s.Keys r.Key) r.Val) with
    | true => rfl
    | false => simp

theorem step_fold (a0 : SOp) (s : SOpState) (r : SRecord) (hk : a0.Kind = 5 ∨ a0.Kind = 6) : oper_Step a0 s r = oper_fold a0 s r := by
  rcases hk with h | h <;> simp [oper_Step, letIn, h]
theorem runs_apart (a0 : SOp) (hk : a0.Kind = 5 ∨ a0.Kind = 6) (q t : Int) (l : List SRecord) (s : SOpState) (h : Apart s.Keys) :
    runs a0 ⟨fk q s.Keys, t⟩ (l.filter fun r => r.Key == q) = (⟨fk q (runs a0 s l).1.Keys, t⟩, (runs a0 s l).2.filter fun p => p.Record.Key == q) := by
  induction l generalizing s with
  | nil => rfl
  | cons r l ih =>
    by_cases hr : r.Key = q
    · subst hr
      have hs := fold_same a0 s r h t
      rw [List.filter_cons_of_pos (by simp)]
      simp only [runs, step_fold a0 _ _ hk]
      rw [hs.1]
      simp only [List.filter_append, hs.2]
      rw [ih _ (fold_apart a0 s r h)]
    · have ho := fold_other a0 s r q hr
      rw [List.filter_cons_of_neg (by simp [hr])]
      simp only [runs, step_fold a0 _ _ hk, List.filter_append, ho.2, List.nil_append]
      rw [← ih _ (fold_apart a0 s r h), ho.1]
theorem runs_turn (a0 : SOp) (hk : a0.Kind = 5 ∨ a0.Kind = 6) (l : List SRecord) (s : SOpState) : (runs a0 s l).1.Turn = s.Turn := by
  induction l generalizing s with
  | nil => rfl
  | cons r l ih => simp only [runs, step_fold a0 _ _ hk, ih]; rfl

theorem apart_L0 (a1 : List SRecord) (a2 : Int) (i : Nat) (x : List SRecord) : pontoonlaw07_OperApart_L0 a1 a2 i x = x ++ (a1.drop i).filter fun r => r.Key == a2 := by
  rw [pontoonlaw07_OperApart_L0.eq_def]
  by_cases h : i < a1.length
  · rw [dif_pos (decide_eq_true (by omega)), letIn, apart_L0, drop_getD' a1 i h]
    by_cases e : (a1.getD i default).Key == a2
    · rw [dif_pos e, List.filter_cons_of_pos (by exact e), List.append_assoc]
      rfl
    · rw [dif_neg e, List.filter_cons_of_neg (by exact e)]
  · rw [dif_neg (by simp; omega), List.drop_of_length_le (by omega)]
    simp
termination_by a1.length - i
theorem apart_L1 (a2 : Int) (r : SOpState × List SPut) (i : Nat) (x : List SPut) : pontoonlaw07_OperApart_L1 a2 r i x = x ++ (r.2.drop i).filter fun r => r.Record.Key == a2 := by
  rw [pontoonlaw07_OperApart_L1.eq_def]
  by_cases h : i < r.2.length
  · rw [dif_pos (decide_eq_true (by omega)), letIn, apart_L1, drop_getD' r.2 i h]
    by_cases e : (r.2.getD i default).Record.Key == a2
    · rw [dif_pos e, List.filter_cons_of_pos (by exact e), List.append_assoc]
      rfl
    · rw [dif_neg e, List.filter_cons_of_neg (by exact e)]
  · rw [dif_neg (by simp; omega), List.drop_of_length_le (by omega)]
    simp
termination_by r.2.length - i
theorem apart_L2 (a2 : Int) (r : SOpState × List SPut) (i : Nat) (x : List SKeyState) : pontoonlaw07_OperApart_L2 a2 r i x = x ++ fk a2 (r.1.Keys.drop i) := by
  rw [pontoonlaw07_OperApart_L2.eq_def]
  by_cases h : i < r.1.Keys.length
  · rw [dif_pos (decide_eq_true (by omega)), letIn, apart_L2, drop_getD' r.1.Keys i h, fk, fk]
    by_cases e : (r.1.Keys.getD i default).Key == a2
    · rw [dif_pos e, List.filter_cons_of_pos (by exact e), List.append_assoc]
      rfl
    · rw [dif_neg e, List.filter_cons_of_neg (by exact e)]
  · rw [dif_neg (by simp; omega), List.drop_of_length_le (by omega)]
    simp [fk]
termination_by r.1.Keys.length - i

theorem law_OperApart (a0 : SOp) (a1 : List SRecord) (a2 : Int) : pontoonlaw07_OperApart a0 a1 a2 = true := by
  simp only [pontoonlaw07_OperApart, live_true, letIn, apart_L0, apart_L1, apart_L2, all_runs, List.drop_zero, List.nil_append]
  by_cases h5 : a0.Kind = 5 ∨ a0.Kind = 6
  · have hb : ((a0.Kind != 5) && (a0.Kind != 6)) = false := by rcases h5 with h | h <;> simp [h]
    have hr := runs_apart a0 h5 a2 0 a1 ⟨[], 0⟩ (by exact List.Pairwise.nil)
    have h0 : fk a2 (SOpState.mk [] 0).Keys = [] := rfl
    rw [h0] at hr
    rw [hb, hr]
    simp only [Bool.not_true, cond_false, sameputs_self, same_self, Bool.and_self]
  · have hb : ((a0.Kind != 5) && (a0.Kind != 6)) = true := by simp; omega
    rw [hb]
    rfl
end Go.Ab.Try
