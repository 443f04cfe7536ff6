/-
  FrameDamage: the plain law.
-/
import Derived.Test.YtnlpmpndhngimaaS8
import Derived.Test.YtnlpmpndhngimaaK1
set_option linter.unusedVariables false
set_option linter.unusedSimpArgs false
namespace Go.Ab.Try
open Go Go.Proofs Go.Ab

theorem shl_shr (w k m : Nat) (h : m ≤ k) : (w <<< k) >>> m = w <<< (k - m) := by
  obtain ⟨n, rfl⟩ : ∃ n, k = n + m := ⟨k - m, by omega⟩
  rw [Nat.shiftLeft_add, Nat.shiftLeft_shiftRight, Nat.add_sub_cancel]
theorem shl_low (w k i : Nat) (h : i < k) : (w <<< k).testBit i = false := by
  rw [Nat.testBit_shiftLeft]
  simp; omega
theorem four8 (n : Nat) : (four n).length = 4 := rfl
/-- A frame that a burst touches. -/
theorem takeOf_damaged (l r : List UInt8) (hl : l.length ≤ 262144) (w k : Nat) (hw : w < 2 ^ 32) (ho : w % 2 = 1) (hk : k < 8 * (l.length + 12)) :
    (takeOf (xorB (frameOf l ++ r) (w <<< k))).2.2 = 21 := by
  have hlen : (xorB (frameOf l ++ r) (w <<< k)).length = l.length + 12 + r.length := by rw [xorB_len, List.length_append, frameOf_len]
  have hsp : xorB (frameOf l ++ r) (w <<< k) = xorB (four l.length ++ four (crc (four l.length)).toNat) (w <<< k) ++ (xorB (l ++ four (crc l).toNat) ((w <<< k) >>> 64) ++ xorB r ((w <<< k) >>> (64 + 8 * (l.length + 4)))) := by
    rw [frameOf_split, xorB_app, ← List.append_assoc l, xorB_app (l ++ _), ← Nat.shiftRight_add, show (four l.length ++ four (crc (four l.length)).toNat).length = 8 from rfl, show (l ++ four (crc l).toNat).length = l.length + 4 by rw [List.length_append, four_len]]
  unfold takeOf
  rw [hlen, if_neg (by omega)]
  by_cases h64 : k < 64
  · rw [if_pos]
    left
    have ha : (xorB (four l.length ++ four (crc (four l.length)).toNat) (w <<< k)).length = 8 := by rw [xorB_len]; rfl
    have e0 : (xorB (frameOf l ++ r) (w <<< k)).take 4 = (xorB (four l.length ++ four (crc (four l.length)).toNat) (w <<< k)).take 4 := by
      rw [hsp, List.take_append_of_le_length (by rw [ha]; decide)]
    have e1 : ((xorB (frameOf l ++ r) (w <<< k)).drop 4).take 4 = (xorB (four l.length ++ four (crc (four l.length)).toNat) (w <<< k)).drop 4 := by
      rw [hsp, List.drop_append_of_le_length (by rw [ha]; decide), List.take_left' (by rw [List.length_drop, ha])]
    rw [e0, e1]
    exact burst_found (four l.length) (w <<< k) (by exact burst_mod w k _ hw ho h64) _ _ (by rw [List.length_take, ha]; rfl) (List.take_append_drop 4 _).symm
  · have hh : xorB (four l.length ++ four (crc (four l.length)).toNat) (w <<< k) = four l.length ++ four (crc (four l.length)).toNat :=
      xorB_none _ _ fun i hi => shl_low w k i (by simp [four8] at hi; omega)
    rw [hh, shl_shr w k 64 (by omega)] at hsp
    have e1 : numOf4 (xorB (frameOf l ++ r) (w <<< k)) = l.length := by
      rw [hsp]
      show num4 _ _ _ _ = _
      exact ((num4_four l.length _ _ _ _ (by omega)).1 rfl).symm
    have e0 : (xorB (frameOf l ++ r) (w <<< k)).take 4 = four l.length := by
      rw [hsp, List.append_assoc, List.take_left' (four_len _)]
    have e2 : ((xorB (frameOf l ++ r) (w <<< k)).drop 4).take 4 = four (crc (four l.length)).toNat := by
      rw [hsp, List.append_assoc, List.drop_left' (four_len _), List.take_left' (four_len _)]
    have hb : (xorB (l ++ four (crc l).toNat) (w <<< (k - 64))).length = l.length + 4 := by rw [xorB_len, List.length_append, four_len]
    have e8 : (xorB (frameOf l ++ r) (w <<< k)).drop 8 = xorB (l ++ four (crc l).toNat) (w <<< (k - 64)) ++ xorB r ((w <<< k) >>> (64 + 8 * (l.length + 4))) := by
      rw [hsp, List.drop_left' (by simp [four_len])]
    have e3 : ((xorB (frameOf l ++ r) (w <<< k)).drop 8).take l.length = (xorB (l ++ four (crc l).toNat) (w <<< (k - 64))).take l.length := by
      rw [e8, List.take_append_of_le_length (by rw [hb]; omega)]
    have e4 : ((xorB (frameOf l ++ r) (w <<< k)).drop (l.length + 8)).take 4 = (xorB (l ++ four (crc l).toNat) (w <<< (k - 64))).drop l.length := by
      rw [Nat.add_comm, ← List.drop_drop, e8, List.drop_append_of_le_length (by rw [hb]; omega), List.take_left' (by rw [List.length_drop, hb]; omega)]
    rw [e0, e1, e2, if_neg (by simp; omega), if_neg (by omega), e3, e4, if_pos]
    exact burst_found l (w <<< (k - 64)) (by exact burst_mod w _ _ hw ho (by omega)) _ _ (by rw [List.length_take, hb]; omega) (List.take_append_drop l.length _).symm
/-- The scan behind a burst. -/
theorem scan_damaged (ls : List (List UInt8)) (h : ∀ l ∈ ls, l.length ≤ 262144) (i : Nat) (hi : i < ls.length) (w k : Nat) (hw : w < 2 ^ 32) (ho : w % 2 = 1)
    (h1 : 8 * (framesOf (ls.take i)).length ≤ k) (h2 : k < 8 * (framesOf (ls.take (i + 1))).length) :
    scanOf (xorB (framesOf ls) (w <<< k)) = (ls.take i, (framesOf (ls.take i)).length) ∧
    (if (framesOf (ls.take i)).length = (xorB (framesOf ls) (w <<< k)).length then 0 else (takeOf ((xorB (framesOf ls) (w <<< k)).drop (framesOf (ls.take i)).length)).2.2) = 21 := by
  have hls : framesOf ls = framesOf (ls.take i) ++ (frameOf ls[i] ++ framesOf (ls.drop (i + 1))) := by
    rw [← framesOf_cons, ← framesOf_app, ← List.drop_eq_getElem_cons hi, List.take_append_drop]
  have hst : (framesOf (ls.take (i + 1))).length = (framesOf (ls.take i)).length + (12 + (ls[i]).length) := by
    have := len_step [] ls i hi
    simp only [List.nil_append] at this
    omega
  have hm := h _ (List.getElem_mem hi)
  have hx : xorB (framesOf ls) (w <<< k) = framesOf (ls.take i) ++ xorB (frameOf ls[i] ++ framesOf (ls.drop (i + 1))) (w <<< (k - 8 * (framesOf (ls.take i)).length)) := by
    rw [hls, xorB_app, xorB_none _ _ (fun j hj => shl_low w k j (by omega)), shl_shr w k _ h1]
  have htd := takeOf_damaged ls[i] (framesOf (ls.drop (i + 1))) hm w (k - 8 * (framesOf (ls.take i)).length) hw ho (by omega)
  rw [hx]
  refine ⟨scanOf_stop _ _ (fun l hl => h l (List.mem_of_mem_take hl)) (.inr (by rw [htd]; decide)), ?_⟩
  rw [List.length_append, xorB_len, List.length_append, frameOf_len, if_neg (by omega), List.drop_left' rfl, htd]
end Go.Ab.Try
