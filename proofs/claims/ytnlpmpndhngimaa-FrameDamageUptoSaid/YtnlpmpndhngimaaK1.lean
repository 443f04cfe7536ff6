/-
  Bursts: what the sums find.
-/
import Derived.Test.YtnlpmpndhngimaaC2
set_option linter.unusedVariables false
set_option linter.unusedSimpArgs false
namespace Go.Ab.Try
open Go Go.Proofs Go.Ab

/-- The sum's step over numbers without a bound. -/
def stepN (x : Nat) : Nat := (x >>> 1) ^^^ (if x % 2 = 1 then 0x82f63b78 else 0)
def runN : Nat → Nat → Nat
  | 0, x => x
  | n + 1, x => runN n (stepN x)
def numB : List UInt8 → Nat
  | [] => 0
  | b :: l => b.toNat ^^^ (numB l <<< 8)

theorem xor4 (a b c d : Nat) : (a ^^^ b) ^^^ (c ^^^ d) = (a ^^^ c) ^^^ (b ^^^ d) := by
  rw [Nat.xor_assoc, Nat.xor_assoc, ← Nat.xor_assoc b, ← Nat.xor_assoc c, Nat.xor_comm b c]
theorem odd_xor (x y : Nat) : (x ^^^ y) % 2 = 1 ↔ ¬ ((x % 2 = 1) ↔ (y % 2 = 1)) := by
  have h := Nat.testBit_xor x y 0
  simp only [Nat.testBit_zero] at h
  by_cases hx : x % 2 = 1 <;> by_cases hy : y % 2 = 1 <;> simp [hx, hy] at h ⊢ <;> omega
theorem stepN_xor (x y : Nat) : stepN (x ^^^ y) = stepN x ^^^ stepN y := by
  unfold stepN
  rw [xor4, ← Nat.shiftRight_xor_distrib]
  congr 1
  have := odd_xor x y
  by_cases hx : x % 2 = 1 <;> by_cases hy : y % 2 = 1 <;> simp [hx, hy] at this ⊢ <;> simp [this]
theorem runN_xor : ∀ (n x y : Nat), runN n (x ^^^ y) = runN n x ^^^ runN n y
  | 0, _, _ => rfl
  | n + 1, x, y => by simp only [runN]; rw [stepN_xor, runN_xor]
theorem runN_zero : ∀ (n : Nat), runN n 0 = 0
  | 0 => rfl
  | n + 1 => by simp only [runN]; exact runN_zero n
theorem stepN_shl (x : Nat) : stepN (x <<< 1) = x := by
  unfold stepN
  have : x <<< 1 = x * 2 := by simp [Nat.shiftLeft_eq]
  rw [if_neg (by omega), Nat.xor_zero, this, Nat.shiftRight_eq_div_pow]
  omega
theorem runN_shl : ∀ (n x : Nat), runN n (x <<< n) = x
  | 0, x => by simp [runN]
  | n + 1, x => by
    simp only [runN]
    rw [Nat.add_comm, Nat.add_comm 1 n, Nat.shiftLeft_add, stepN_shl, runN_shl]
theorem runN_add : ∀ (n m x : Nat), runN (n + m) x = runN m (runN n x)
  | 0, m, x => by rw [Nat.zero_add]; rfl
  | n + 1, m, x => by rw [Nat.succ_add]; simp only [runN]; exact runN_add n m _
theorem stepN_lt (x : Nat) (h : x < 2 ^ 32) : stepN x < 2 ^ 32 := by
  unfold stepN
  refine Nat.xor_lt_two_pow ?_ ?_
  · rw [Nat.shiftRight_eq_div_pow]; omega
  · split <;> decide
theorem stepN_ne (x : Nat) (h : x < 2 ^ 32) (h0 : x ≠ 0) : stepN x ≠ 0 := by
  unfold stepN
  intro hc
  have hc : x >>> 1 = (if x % 2 = 1 then 0x82f63b78 else 0) := by
    have := congrArg (· ^^^ (if x % 2 = 1 then 0x82f63b78 else 0)) hc
    simpa only [Nat.xor_assoc, Nat.xor_self, Nat.xor_zero, Nat.zero_xor] using this
  rw [Nat.shiftRight_eq_div_pow] at hc
  split at hc <;> omega
theorem runN_ne : ∀ (n x : Nat), x < 2 ^ 32 → x ≠ 0 → runN n x ≠ 0
  | 0, _, _, h => h
  | n + 1, x, hl, h => runN_ne n _ (stepN_lt x hl) (stepN_ne x hl h)
/-- A burst of at most 32 bits. -/
def Burst (D : Nat) : Prop := ∃ j w, w < 2 ^ 32 ∧ w ≠ 0 ∧ D = w <<< j
theorem shl_ne {w : Nat} (h : w ≠ 0) (j : Nat) : w <<< j ≠ 0 := by
  rw [Nat.shiftLeft_eq]
  exact Nat.ne_of_gt (Nat.mul_pos (Nat.pos_of_ne_zero h) (Nat.two_pow_pos j))
theorem burst_ne {D : Nat} (h : Burst D) (n : Nat) : runN n D ≠ 0 := by
  obtain ⟨j, w, hw, h0, rfl⟩ := h
  rcases Nat.le_total n j with hj | hj
  · obtain ⟨k, rfl⟩ := Nat.exists_eq_add_of_le hj
    rw [Nat.add_comm n k, Nat.shiftLeft_add, runN_shl]
    exact shl_ne h0 k
  · obtain ⟨k, rfl⟩ := Nat.exists_eq_add_of_le hj
    rw [runN_add, runN_shl]
    exact runN_ne k w hw h0

theorem crcBit_toNat (x : BitVec 32) : (crcBit x).toNat = stepN x.toNat := by
  have h1 : ((x &&& 1#32) = 1#32) ↔ x.toNat % 2 = 1 := by
    rw [← BitVec.toNat_inj, BitVec.toNat_and]
    show x.toNat &&& 1 = 1 ↔ _
    rw [Nat.and_one_is_mod]
  unfold crcBit stepN
  by_cases h : x.toNat % 2 = 1
  · rw [if_pos (h1.2 h), if_pos h, BitVec.toNat_xor, BitVec.toNat_ushiftRight]; rfl
  · rw [if_neg (fun c => h (h1.1 c)), if_neg h, BitVec.toNat_ushiftRight, Nat.xor_zero]
theorem repeat_toNat : ∀ (n : Nat) (x : BitVec 32), (Nat.repeat crcBit n x).toNat = runN n x.toNat
  | 0, _ => rfl
  | n + 1, x => by rw [repeat_succ, crcBit_toNat, repeat_toNat n, show n + 1 = n + 1 from rfl, runN_add n 1]; rfl
theorem crcByte_toNat (x : BitVec 32) (b : UInt8) : (crcByte x b).toNat = runN 8 (x.toNat ^^^ b.toNat) := by
  unfold crcByte
  rw [repeat_toNat, BitVec.toNat_xor, BitVec.toNat_ofNat, Nat.mod_eq_of_lt (a := b.toNat) (by have := b.toNat_lt; omega)]
/-- The sum of bytes ahead of more. -/
theorem fold_toNat (T : Nat) : ∀ (l : List UInt8) (s : BitVec 32), runN (8 * l.length) (s.toNat ^^^ (numB l ^^^ (T <<< (8 * l.length)))) = (l.foldl crcByte s).toNat ^^^ T
  | [], s => by simp [numB, runN]
  | b :: l, s => by
    rw [List.foldl_cons, ← fold_toNat T l (crcByte s b), crcByte_toNat, List.length_cons, Nat.mul_succ, Nat.add_comm (8 * l.length) 8, runN_add]
    congr 1
    have e : s.toNat ^^^ (numB (b :: l) ^^^ T <<< (8 + 8 * l.length)) = (s.toNat ^^^ b.toNat) ^^^ ((numB l ^^^ T <<< (8 * l.length)) <<< 8) := by
      rw [Nat.shiftLeft_xor_distrib, ← Nat.shiftLeft_add, Nat.add_comm (8 * l.length) 8]
      simp only [numB, Nat.xor_assoc]
    rw [e, runN_xor, runN_shl]
theorem numB_app : ∀ (a b : List UInt8), numB (a ++ b) = numB a ^^^ (numB b <<< (8 * a.length))
  | [], b => by simp [numB]
  | x :: a, b => by
    rw [List.cons_append]
    simp only [numB]
    rw [numB_app a b, Nat.shiftLeft_xor_distrib, ← Nat.shiftLeft_add, List.length_cons, Nat.mul_succ, Nat.xor_assoc]
theorem numB_four (n : Nat) (h : n < 4294967296) : numB (four n) = n := by
  have hx : ∀ m : Nat, m < 256 → ∀ k, m ^^^ (k <<< 8) = m + 256 * k := fun m hm k => by
    have : m ^^^ (k <<< 8) = (k <<< 8) ||| m := by
      apply Nat.eq_of_testBit_eq
      intro i
      rw [Nat.testBit_xor, Nat.testBit_or, Nat.testBit_shiftLeft]
      by_cases hi : 8 ≤ i
      · have : m.testBit i = false := Nat.testBit_lt_two_pow (Nat.lt_of_lt_of_le hm (Nat.pow_le_pow_right Nat.zero_lt_two hi))
        simp [this]
      · simp [hi]
    rw [this, ← Nat.shiftLeft_add_eq_or_of_lt (by exact hm), Nat.shiftLeft_eq]
    omega
  simp only [four, numB, low8, UInt8.toNat_ofNat']
  rw [Nat.zero_shiftLeft, Nat.xor_zero, hx _ (by omega), hx _ (by omega), hx _ (by omega)]
  omega

/-- Bytes with bits turned: bit k of the number turns bit k of the bytes. -/
def xorB : List UInt8 → Nat → List UInt8
  | [], _ => []
  | b :: l, D => (b ^^^ UInt8.ofNat D) :: xorB l (D >>> 8)
theorem xorB_len : ∀ (l : List UInt8) (D : Nat), (xorB l D).length = l.length
  | [], _ => rfl
  | b :: l, D => by simp only [xorB, List.length_cons, xorB_len l]
theorem xorB_app : ∀ (a b : List UInt8) (D : Nat), xorB (a ++ b) D = xorB a D ++ xorB b (D >>> (8 * a.length))
  | [], b, D => by simp [xorB]
  | x :: a, b, D => by
    rw [List.cons_append]
    simp only [xorB]
    rw [xorB_app a b, ← Nat.shiftRight_add, List.length_cons, Nat.mul_succ, Nat.add_comm 8, List.cons_append]
theorem xorB_none : ∀ (l : List UInt8) (D : Nat), (∀ k, k < 8 * l.length → D.testBit k = false) → xorB l D = l
  | [], _, _ => rfl
  | b :: l, D, h => by
    simp only [xorB]
    have h0 : UInt8.ofNat D = 0 := by
      apply UInt8.toNat_inj.1
      rw [UInt8.toNat_ofNat']
      show D % 2 ^ 8 = 0
      apply Nat.eq_of_testBit_eq
      intro i
      rw [Nat.testBit_mod_two_pow, Nat.zero_testBit]
      by_cases hi : i < 8
      · rw [h i (by rw [List.length_cons]; omega), Bool.and_false]
      · simp [hi]
    rw [h0, UInt8.xor_zero, xorB_none l _ fun k hk => by rw [Nat.testBit_shiftRight]; exact h _ (by rw [List.length_cons]; omega)]
theorem numB_xorB : ∀ (l : List UInt8) (D : Nat), numB (xorB l D) = numB l ^^^ (D % 2 ^ (8 * l.length))
  | [], D => by simp [xorB, numB, Nat.mod_one]
  | b :: l, D => by
    simp only [xorB, numB]
    rw [numB_xorB l, UInt8.toNat_xor, UInt8.toNat_ofNat', Nat.shiftLeft_xor_distrib, xor4]
    congr 1
    apply Nat.eq_of_testBit_eq
    intro i
    rw [Nat.testBit_xor, Nat.testBit_shiftLeft, Nat.testBit_mod_two_pow, Nat.testBit_mod_two_pow, Nat.testBit_mod_two_pow, Nat.testBit_shiftRight, List.length_cons]
    by_cases hi : i < 8
    · have h1 : ¬ i ≥ 8 := by omega
      have h2 : i < 8 * (l.length + 1) := by omega
      simp [hi, h1, h2]
    · have h1 : i ≥ 8 := by omega
      have h3 : 8 + (i - 8) = i := by omega
      have h4 : (i - 8 < 8 * l.length) ↔ (i < 8 * (l.length + 1)) := by omega
      simp [hi, h1, h3, h4]
theorem ofNat_xor (x y : Nat) : UInt8.ofNat (x ^^^ y) = UInt8.ofNat x ^^^ UInt8.ofNat y := by
  apply UInt8.toNat_inj.1
  rw [UInt8.toNat_xor, UInt8.toNat_ofNat', UInt8.toNat_ofNat', UInt8.toNat_ofNat', Nat.xor_mod_two_pow]
/-- One bit more. -/
theorem xorB_bit : ∀ (l : List UInt8) (D k : Nat), k < 8 * l.length → xorB l (D ^^^ (1 <<< k)) = (xorB l D).set (k / 8) ((xorB l D).getD (k / 8) 0 ^^^ UInt8.ofNat (1 <<< (k % 8)))
  | [], _, k, h => absurd h (by simp)
  | b :: l, D, k, h => by
    simp only [xorB]
    rw [Nat.shiftRight_xor_distrib, ofNat_xor]
    by_cases hk : k < 8
    · have h1 : k / 8 = 0 := by omega
      have h2 : (1 <<< k) >>> 8 = 0 := by
        rw [Nat.shiftRight_eq_div_pow, Nat.shiftLeft_eq, Nat.one_mul]
        exact Nat.div_eq_of_lt (Nat.pow_lt_pow_right (by decide) hk)
      have h3 : k % 8 = k := Nat.mod_eq_of_lt hk
      rw [h1, h2, h3, Nat.xor_zero, List.set_cons_zero, List.getD_cons_zero, ← UInt8.xor_assoc]
    · obtain ⟨m, rfl⟩ : ∃ m, k = m + 8 := ⟨k - 8, by omega⟩
      have h1 : (m + 8) / 8 = m / 8 + 1 := by omega
      have h2 : (1 <<< (m + 8)) >>> 8 = 1 <<< m := by
        rw [Nat.shiftLeft_add, Nat.shiftLeft_shiftRight]
      have h3 : (m + 8) % 8 = m % 8 := by omega
      have h4 : UInt8.ofNat (1 <<< (m + 8)) = 0 := by
        apply UInt8.toNat_inj.1
        rw [UInt8.toNat_ofNat', Nat.shiftLeft_add]
        show (1 <<< m) <<< 8 % 2 ^ 8 = 0
        rw [Nat.shiftLeft_eq]
        exact Nat.mul_mod_left _ _
      rw [h1, h2, h3, h4, UInt8.xor_zero, List.set_cons_succ, List.getD_cons_succ, xorB_bit l _ m (by rw [List.length_cons] at h; omega)]
theorem xorB_high (l : List UInt8) (D k : Nat) (h : 8 * l.length ≤ k) : xorB l (D ^^^ (1 <<< k)) = xorB l D := by
  induction l generalizing D k with
  | nil => rfl
  | cons b l ih =>
    rw [List.length_cons] at h
    obtain ⟨m, rfl⟩ : ∃ m, k = m + 8 := ⟨k - 8, by omega⟩
    have h2 : (1 <<< (m + 8)) >>> 8 = 1 <<< m := by
      rw [Nat.shiftLeft_add, Nat.shiftLeft_shiftRight]
    have h4 : UInt8.ofNat (1 <<< (m + 8)) = 0 := by
      apply UInt8.toNat_inj.1
      rw [UInt8.toNat_ofNat', Nat.shiftLeft_add]
      show (1 <<< m) <<< 8 % 2 ^ 8 = 0
      rw [Nat.shiftLeft_eq]
      exact Nat.mul_mod_left _ _
    simp only [xorB]
    rw [Nat.shiftRight_xor_distrib, ofNat_xor, h2, h4, UInt8.xor_zero, ih _ m (by omega)]

/-- What is sound behind a burst is none. -/
theorem burst_found (a : List UInt8) (D : Nat) (hD : Burst (D % 2 ^ (8 * (a.length + 4)))) (a' t' : List UInt8) (ha : a'.length = a.length)
    (h : xorB (a ++ four (crc a).toNat) D = a' ++ t') : t' ≠ four (crc a').toNat := by
  intro ht
  subst ht
  have hv : ∀ c : List UInt8, runN (8 * c.length) ((0xffffffff#32).toNat ^^^ numB (c ++ four (crc c).toNat)) = 0xffffffff := by
    intro c
    rw [numB_app, fold_toNat, numB_four _ (crc c).isLt]
    unfold crc
    have hx : ∀ x : BitVec 32, x ^^^ ~~~ x = 0xffffffff#32 := fun x => by
      have : x ^^^ ~~~ x = BitVec.allOnes 32 := by
        apply BitVec.eq_of_getLsbD_eq
        intro i hi
        rw [BitVec.getLsbD_xor, BitVec.getLsbD_not, BitVec.getLsbD_allOnes]
        simp only [hi, decide_true, Bool.true_and]
        cases x.getLsbD i <;> rfl
      exact this
    rw [← BitVec.toNat_xor, hx]
    rfl
  have h1 := hv a'
  rw [← h, numB_xorB, ha] at h1
  have h2 := hv a
  rw [← Nat.xor_assoc, runN_xor, h2] at h1
  have h3 : runN (8 * a.length) (D % 2 ^ (8 * (a.length + 4))) = 0 := by
    have h4 : (a ++ four (crc a).toNat).length = a.length + 4 := by rw [List.length_append]; rfl
    rw [h4] at h1
    have := congrArg (fun x => 0xffffffff ^^^ x) h1
    simpa only [← Nat.xor_assoc, Nat.xor_self, Nat.zero_xor] using this
  exact burst_ne hD _ h3
/-- A burst that is cut. -/
theorem burst_mod (w k m : Nat) (hw : w < 2 ^ 32) (ho : w % 2 = 1) (hk : k < m) : Burst ((w <<< k) % 2 ^ m) := by
  obtain ⟨n, rfl⟩ : ∃ n, m = n + k := ⟨m - k, by omega⟩
  refine ⟨k, w % 2 ^ n, Nat.lt_of_le_of_lt (Nat.mod_le _ _) hw, ?_, ?_⟩
  · obtain ⟨n', rfl⟩ : ∃ n', n = n' + 1 := ⟨n - 1, by omega⟩
    intro h0
    have : (w % 2 ^ (n' + 1)) % 2 = w % 2 := Nat.mod_mod_of_dvd _ (by rw [Nat.pow_succ]; exact Nat.dvd_mul_left _ _)
    omega
  · rw [Nat.shiftLeft_eq, Nat.shiftLeft_eq, Nat.pow_add, Nat.mul_mod_mul_right]
end Go.Ab.Try
