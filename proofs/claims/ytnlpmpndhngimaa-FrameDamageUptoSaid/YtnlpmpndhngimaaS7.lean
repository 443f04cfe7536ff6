/-
  FrameTorn: what it answers.
-/
import Derived.Test.YtnlpmpndhngimaaS6
set_option linter.unusedVariables false
set_option linter.unusedSimpArgs false
namespace Go.Ab.Try
open Go Go.Proofs Go.Ab

theorem framesOf_app (a b : List (List UInt8)) : framesOf (a ++ b) = framesOf a ++ framesOf b := by simp [framesOf]
theorem framesOf_cons (l : List UInt8) (r : List (List UInt8)) : framesOf (l :: r) = frameOf l ++ framesOf r := by simp [framesOf]
/-- A scan stops ahead of what is no frame. -/
theorem scanF_stop (b t : List UInt8) (ht : t = [] ∨ (takeOf t).2.2 ≠ 0) : ∀ (rest : List (List UInt8)) (f e : Nat) (ls : List (List UInt8)), b.drop e = framesOf rest ++ t → e ≤ b.length → rest.length < f → (∀ l ∈ rest, l.length ≤ 262144) →
    scanF b f e ls = (ls ++ rest, e + (framesOf rest).length)
  | [], 0, e, ls, _, _, h, _ => absurd h (by simp)
  | [], f + 1, e, ls, hd, he, _, _ => by
    have hd : b.drop e = t := hd
    simp only [scanF]
    rw [if_neg, List.append_nil]
    · rfl
    · rw [hd]
      rintro ⟨h1, h2⟩
      rcases ht with ht | ht
      · have := congrArg List.length hd
        rw [ht, List.length_drop] at this
        simp at this; omega
      · exact ht h2
  | l :: rest, 0, e, ls, _, _, h, _ => absurd h (by simp)
  | l :: rest, f + 1, e, ls, hd, he, h, hall => by
    rw [framesOf_cons, List.append_assoc] at hd
    have hl := hall l List.mem_cons_self
    have hlen := congrArg List.length hd
    rw [List.length_drop, List.length_append, frameOf_len] at hlen
    simp only [scanF]
    rw [hd, takeOf_frame l _ hl, if_pos ⟨by omega, rfl⟩]
    have := scanF_stop b t ht rest f (e + (l.length + 12)) (ls ++ [l]) (by rw [← List.drop_drop, hd, ← frameOf_len, List.drop_left' rfl]) (by omega) (by simpa using h) fun x hx => hall x (List.mem_cons_of_mem _ hx)
    rw [this, List.append_assoc, framesOf_cons, List.length_append, frameOf_len, Nat.add_assoc]
    rfl
theorem scanOf_stop (ls : List (List UInt8)) (t : List UInt8) (h : ∀ l ∈ ls, l.length ≤ 262144) (ht : t = [] ∨ (takeOf t).2.2 ≠ 0) :
    scanOf (framesOf ls ++ t) = (ls, (framesOf ls).length) := by
  unfold scanOf
  rw [scanF_stop _ t ht ls _ 0 [] rfl (Nat.zero_le _) (by have := framesOf_len ls; rw [List.length_append]; omega) h, Nat.zero_add]
  rfl

theorem frameOf_split (l r : List UInt8) : frameOf l ++ r = (four l.length ++ four (crc (four l.length)).toNat) ++ (l ++ (four (crc l).toNat ++ r)) := by simp only [frameOf, List.append_assoc]
/-- A torn frame. -/
theorem takeOf_torn (l r : List UInt8) (hl : l.length ≤ 262144) (m : Nat) (hm : m < l.length + 12) : (takeOf ((frameOf l ++ r).take m)).2.2 = 20 := by
  have hlen : ((frameOf l ++ r).take m).length = m := by rw [List.length_take, List.length_append, frameOf_len]; omega
  unfold takeOf
  rw [hlen]
  by_cases h8 : m < 8
  · rw [if_pos h8]
  · rw [if_neg h8]
    have hs : (frameOf l ++ r).take m = (four l.length ++ four (crc (four l.length)).toNat) ++ (l ++ (four (crc l).toNat ++ r)).take (m - 8) := by
      rw [frameOf_split, List.take_append, List.take_of_length_le (by simp [four_len]; omega)]
      rfl
    have e1 : numOf4 ((frameOf l ++ r).take m) = l.length := by
      rw [hs]
      show num4 _ _ _ _ = _
      exact ((num4_four l.length _ _ _ _ (by omega)).1 rfl).symm
    have e0 : ((frameOf l ++ r).take m).take 4 = four l.length := by
      rw [hs, List.append_assoc, List.take_left' (four_len _)]
    have e2 : (((frameOf l ++ r).take m).drop 4).take 4 = four (crc (four l.length)).toNat := by
      rw [hs, List.append_assoc, List.drop_left' (four_len _), List.take_left' (four_len _)]
    rw [e0, e1, e2, if_neg (by simp; omega), if_pos (by omega)]

theorem scan_torn (ls : List (List UInt8)) (h : ∀ l ∈ ls, l.length ≤ 262144) (n i : Nat) (hi : i ≤ ls.length) (hn : n ≤ (framesOf ls).length) (he : (framesOf (ls.take i)).length ≤ n)
    (hs : ∀ hi : i < ls.length, n - (framesOf (ls.take i)).length < 12 + (ls[i]).length) :
    scanOf ((framesOf ls).take n) = (ls.take i, (framesOf (ls.take i)).length) ∧
    (if (framesOf (ls.take i)).length = ((framesOf ls).take n).length then 0 else (takeOf (((framesOf ls).take n).drop (framesOf (ls.take i)).length)).2.2) = if n = (framesOf (ls.take i)).length then 0 else 20 := by
  have hls : framesOf ls = framesOf (ls.take i) ++ framesOf (ls.drop i) := by rw [← framesOf_app, List.take_append_drop]
  have htk : (framesOf ls).take n = framesOf (ls.take i) ++ (framesOf (ls.drop i)).take (n - (framesOf (ls.take i)).length) := by
    conv => lhs; rw [hls]
    rw [List.take_append, List.take_of_length_le he]
  have hnl : ((framesOf ls).take n).length = n := by rw [List.length_take]; omega
  have hdr : ((framesOf ls).take n).drop (framesOf (ls.take i)).length = (framesOf (ls.drop i)).take (n - (framesOf (ls.take i)).length) := by
    rw [htk, List.drop_left' rfl]
  have ht : n ≠ (framesOf (ls.take i)).length → (takeOf ((framesOf (ls.drop i)).take (n - (framesOf (ls.take i)).length))).2.2 = 20 := by
    intro hne
    rcases Nat.lt_or_ge i ls.length with hlt | hge
    · rw [List.drop_eq_getElem_cons hlt, framesOf_cons]
      exact takeOf_torn _ _ (h _ (List.getElem_mem hlt)) _ (by have := hs hlt; omega)
    · exfalso
      rw [List.take_of_length_le hge] at hne he
      omega
  have hs0 : scanOf ((framesOf ls).take n) = (ls.take i, (framesOf (ls.take i)).length) := by
    rw [htk]
    refine scanOf_stop _ _ (fun l hl => h l (List.mem_of_mem_take hl)) ?_
    by_cases hne : n = (framesOf (ls.take i)).length
    · left; rw [hne, Nat.sub_self, List.take_zero]
    · right; rw [ht hne]; decide
  refine ⟨hs0, ?_⟩
  rw [hdr, hnl]
  by_cases hne : n = (framesOf (ls.take i)).length
  · rw [if_pos hne.symm, if_pos hne]
  · rw [if_neg (Ne.symm hne), if_neg hne]
    exact ht hne
end Go.Ab.Try
