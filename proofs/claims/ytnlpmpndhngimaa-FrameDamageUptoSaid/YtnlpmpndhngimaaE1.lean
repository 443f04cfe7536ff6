/-
  What the law's arguments read as: bytes and lists of bytes.
-/
import Derived.Test.YtnlpmpndhngimaaC5
import Derived.Test.YtnlpmpndhngimaaRows
import Derived.Deep.Slices
import Derived.ChangeSlices
import Derived.ProofKit
import Derived.OpenShut
import Derived.JoinedCond
set_option linter.unusedVariables false
set_option linter.unusedSimpArgs false
namespace Go.Ab.Try
open Go Go.Proofs Go.Proofs.Ytnlpmpndhngimaa Go.Ab Go.Deep Go.ChangeShapes Go.WideShapes Go.ChangeAt Go.RowKit

section
variable {H : Type} {enc : TypeId × Value → H} {w : World} {base : Nat} {spare : Nat → Bool} {held : Bool}

theorem cell_spot {a : Addr} {v : Value} (h : w.cell? a = some v) : a.spot = none ∧ a.block < w.heap.size := by
  unfold World.cell? at h
  split at h
  · rename_i c _ _ hh
    refine ⟨?_, (Array.getElem?_eq_some_iff.1 hh).1⟩
    split at h
    · cases h
    · rename_i hs
      simpa using hs
  · cases h

theorem add0 (a : Addr) : a.add 0 = a := by simp [Addr.add]

/-- Bytes. -/
theorem bytes_in {fuel : Nat} {cs : List Value} {x : DataW H × List MemPlace} (h : DataW.trod enc Try.prog w base spare held fuel 22 cs = some x) :
    ∃ (v : Value) (l : List UInt8), cs = [v] ∧ CRep (fun g => g < w.heap.size) w (.sl (encB l)) v ∧ l.length + 1 ≤ Rows.uptoBulk x.1 := by
  have hu : Try.prog.underlying 22 = some (.slice 5) := k22.1
  have he : Try.prog.underlying 5 = some (.int .u8) := k5.1
  have hc : Try.prog.cellsOf 5 = 1 := by kernel_rfl
  rcases open_ints hu he hc h with ⟨rfl, rfl⟩ | ⟨a, len, cap, zs, rfl, hb, hl, hm, hlen, rfl, hcell, hwf⟩
  · exact ⟨_, [], rfl, .nil, by simp [Rows.uptoBulk]⟩
  · have hle : len ≤ zs.length := by rw [hlen]; split <;> omega
    let l : List UInt8 := (zs.take len).map fun n => UInt8.ofNat n.toNat
    have hll : l.length = len := by simp [l]; omega
    have hget : ∀ (i : Nat) (e : List CV), (encB l)[i]? = some e → i < len ∧ e = [.val (.int .u8 (zs.getD i 0))] := fun i e he => by
      have hi : i < len := by have := (List.getElem?_eq_some_iff.1 he).1; rw [encB_len, hll] at this; exact this
      have hiz : i < zs.length := by omega
      have hmem : zs[i] ∈ zs := List.getElem_mem hiz
      have hw := hwf _ hmem
      simp only [Lit.wf] at hw
      refine ⟨hi, ?_⟩
      simp only [encB, l, List.getElem?_map, List.getElem?_take, hi, if_true, List.getElem?_eq_getElem hiz, Option.map_some, Option.some.injEq] at he
      rw [← he, List.getD_eq_getElem?_getD, List.getElem?_eq_getElem hiz, Option.getD_some]
      have hb : 0 ≤ zs[i] ∧ zs[i] ≤ 255 := by
        simpa [IntKind.min, IntKind.max, IntKind.signed, IntKind.bits] using hw
      congr 3
      rw [UInt8.toNat_ofNat']
      omega
    refine ⟨_, l, rfl, .sl (encB l) a len cap 1 (by rw [encB_len, hll]) hl (fun i e he => by rw [(hget i e he).2]; rfl) (fun hne => ?_) (fun i e j u he hj => ?_) (fun i e j u y he hj hy => ?_), ?_⟩
    · have h0 : 0 < len := by
        rcases Nat.eq_zero_or_pos len with h0 | h0
        · exfalso
          apply hne
          have : l = [] := List.length_eq_zero_iff.1 (by omega)
          rw [this]; rfl
        · exact h0
      have h1 := hcell 0 (by omega)
      rw [add0] at h1
      exact cell_spot h1
    · obtain ⟨hi, rfl⟩ := hget i e he
      cases j with
      | succ j => simp at hj
      | zero =>
        have hc' := hcell i (by omega)
        have h1 := hcell 0 (by omega)
        rw [add0] at h1
        rw [addr_add _ _ (cell_spot h1).1] at hc'
        exact ⟨_, by simpa using hc'⟩
    · obtain ⟨hi, rfl⟩ := hget i e he
      cases j with
      | succ j => simp at hj
      | zero =>
        simp only [List.getElem?_cons_zero, Option.some.injEq] at hj
        subst hj
        have hc' := hcell i (by omega)
        have h1 := hcell 0 (by omega)
        rw [add0] at h1
        rw [addr_add _ _ (cell_spot h1).1] at hc'
        simp only [Nat.mul_one, Nat.add_zero] at hy
        rw [hc'] at hy
        cases hy
        exact .val _ rfl
    · have hb : ∀ zs : List Int, zs.length ≤ Rows.uptoBulkAll (lits (H := H) .u8 zs) := by
        intro zs
        induction zs with
        | nil => simp [lits, Rows.uptoBulkAll]
        | cons z r ih =>
          simp only [lits, List.map_cons, Rows.uptoBulkAll, Rows.uptoBulk, List.length_cons] at ih ⊢
          omega
      have := hb (zs.take len)
      have hlt : (zs.take len).length = len := by simp; omega
      simp only [Rows.uptoBulk]
      omega

theorem bulk_map {D : Nat → DataW H} {L : Nat → List UInt8} : ∀ (l : List Nat), (∀ i ∈ l, (L i).length + 1 ≤ Rows.uptoBulk (D i)) → (framesOf (l.map L)).length + l.length ≤ 13 * Rows.uptoBulkAll (l.map D)
  | [], _ => by simp [framesOf]
  | i :: r, h => by
    have ih := bulk_map r fun j hj => h j (List.mem_cons_of_mem _ hj)
    have h0 := h i List.mem_cons_self
    have e : framesOf ((i :: r).map L) = frameOf (L i) ++ framesOf (r.map L) := by simp [framesOf]
    rw [e, List.length_append, frameOf_len]
    simp only [List.map_cons, Rows.uptoBulkAll, List.length_cons]
    omega

/-- Lists of bytes. -/
theorem lists_in {fuel : Nat} {cs : List Value} {x : DataW H × List MemPlace} (h : DataW.trod enc Try.prog w base spare held fuel 23 cs = some x) :
    ∃ (v : Value) (ls : List (List UInt8)), cs = [v] ∧ CRep (fun g => g < w.heap.size) w (.sl (encBB ls)) v ∧ (framesOf ls).length + ls.length ≤ 13 * Rows.uptoBulk x.1 := by
  have hu : Try.prog.underlying 23 = some (.slice 22) := k23.1
  have hc : Try.prog.cellsOf 22 = 1 := by kernel_rfl
  rcases open_slice1 hu hc h with ⟨rfl, rfl⟩ | ⟨a, len, cap, m, n, V, D, Pl, rfl, hb, hl, hm, hmm, rfl, hV⟩
  · exact ⟨_, [], rfl, .nil, by simp [Rows.uptoBulk, framesOf]⟩
  · have hle : len ≤ m := by rw [hmm]; split <;> omega
    have hall : ∀ i, ∃ l : List UInt8, i < m → CRep (fun g => g < w.heap.size) w (.sl (encB l)) (V i) ∧ l.length + 1 ≤ Rows.uptoBulk (D i) := by
      intro i
      by_cases hi : i < m
      · obtain ⟨v, l, h1, h2, h3⟩ := bytes_in (hV i hi).2
        simp only [List.cons.injEq, and_true] at h1
        subst h1
        exact ⟨l, fun _ => ⟨h2, h3⟩⟩
      · exact ⟨[], fun h => absurd h hi⟩
    let L : Nat → List UInt8 := fun i => Classical.choose (hall i)
    have hL : ∀ i, i < m → CRep (fun g => g < w.heap.size) w (.sl (encB (L i))) (V i) ∧ (L i).length + 1 ≤ Rows.uptoBulk (D i) := fun i => Classical.choose_spec (hall i)
    let ls := (List.range len).map L
    have hll : ls.length = len := by simp [ls]
    have hget : ∀ (i : Nat) (e : List CV), (encBB ls)[i]? = some e → i < len ∧ e = [.sl (encB (L i))] := fun i e he => by
      have hi : i < len := by have := (List.getElem?_eq_some_iff.1 he).1; rw [encBB_len, hll] at this; exact this
      refine ⟨hi, ?_⟩
      simp only [encBB, ls, List.getElem?_map, List.getElem?_range hi, Option.map_some, Option.some.injEq] at he
      exact he.symm
    refine ⟨_, ls, rfl, .sl (encBB ls) a len cap 1 (by rw [encBB_len, hll]) hl (fun i e he => by rw [(hget i e he).2]; rfl) (fun hne => ?_) (fun i e j u he hj => ?_) (fun i e j u y he hj hy => ?_), ?_⟩
    · have h0 : 0 < len := by
        rcases Nat.eq_zero_or_pos len with h0 | h0
        · exfalso
          apply hne
          have : ls = [] := List.length_eq_zero_iff.1 (by omega)
          rw [this]; rfl
        · exact h0
      have h1 := (hV 0 (by omega)).1
      rw [add0] at h1
      exact cell_spot h1
    · obtain ⟨hi, rfl⟩ := hget i e he
      cases j with
      | succ j => simp at hj
      | zero =>
        have hc' := (hV i (by omega)).1
        have h1 := (hV 0 (by omega)).1
        rw [add0] at h1
        rw [addr_add _ _ (cell_spot h1).1] at hc'
        exact ⟨_, by simpa using hc'⟩
    · obtain ⟨hi, rfl⟩ := hget i e he
      cases j with
      | succ j => simp at hj
      | zero =>
        simp only [List.getElem?_cons_zero, Option.some.injEq] at hj
        subst hj
        have hc' := (hV i (by omega)).1
        have h1 := (hV 0 (by omega)).1
        rw [add0] at h1
        rw [addr_add _ _ (cell_spot h1).1] at hc'
        simp only [Nat.mul_one, Nat.add_zero] at hy
        rw [hc'] at hy
        cases hy
        exact (hL i (by omega)).1
    · have := bulk_map (D := D) (L := L) (List.range len) fun i hi => (hL i (by have := List.mem_range.1 hi; omega)).2
      simp only [Rows.uptoBulk, List.length_range] at this ⊢
      rw [hll]
      show (framesOf ((List.range len).map L)).length + len ≤ _
      omega
end
end Go.Ab.Try
