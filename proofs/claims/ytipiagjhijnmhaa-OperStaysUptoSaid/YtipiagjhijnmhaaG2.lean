/-
  Words of whole numbers' bits; a pin; a block cut short.
-/
import Derived.Test.YtipiagjhijnmhaaN9
import Derived.Test.YtipiagjhijnmhaaG1
import Derived.Test.YtipiagjhijnmhaaN6
import Derived.Test.YtipiagjhijnmhaaN4
set_option linter.unusedVariables false
set_option linter.unusedSimpArgs false
namespace Go.Ab
open Go Go.RowKit

def xorI (a b : Int) : Int := IntKind.i64.wrap ((BitVec.ofInt 64 a ^^^ BitVec.ofInt 64 b).toNat : Int)
def andI (a b : Int) : Int := IntKind.i64.wrap ((BitVec.ofInt 64 a &&& BitVec.ofInt 64 b).toNat : Int)
theorem bits_i64 (x : BitVec 64) : bitsV .i64 x = .int .i64 (IntKind.i64.wrap (x.toNat : Int)) := rfl

theorem opsS_cons {cx : Cx} {R : AState → Prop} {o : Oper} {r : List Oper} {s : AState} (hg : o.guard = none) (h : SpecK cx o (opsS cx R r) s) : opsS cx R (o :: r) s := ⟨hg, h⟩
theorem opsS_nil {cx : Cx} {R : AState → Prop} {s : AState} (h : R s) : opsS cx R [] s := h

/-- A BLOCK's PLACE IS PINNED: its room has a name. -/
theorem go_pin {cx : Cx} {Q : Post} {K : List K} {s : AState} (b : Nat) {k : Nat} {es : List (List CV)} {ty : TypeId} (hb : look s.heap b = some (.acc k es ty)) (h0 : 0 < es.length)
    (h : ∀ g cap, es.length ≤ cap → cap ≤ maxLen → Go' cx Q K ⟨s.tmps, (s.nxt, .fr [undef] [.pl b (.at g cap)]) :: s.heap, s.nxt + 1⟩) : Go' cx Q K s := by
  rintro a w ⟨ι, hs⟩
  have hblk := hs.heap b _ hb
  have hlt : b < s.nxt := Nat.lt_of_not_le fun hle => hblk.laid (hs.free b hle)
  obtain ⟨g, cap, hι⟩ := blk_at (w := w) hblk h0
  obtain ⟨cur, R⟩ := row_of hblk hι
  have hst : StepR ι w (setPl ι s.nxt .nil) w (fun b' => ∃ blk, (b', blk) ∈ [(s.nxt, Blk.fr [undef] [.pl b (.at g cap)])]) (fun b' => b' ∈ ([] : List Nat) ∨ s.nxt ≤ b') := step_nil hs.ok s.nxt _ _ (.inr (Nat.le_refl _))
  have := hs.ghost (ks := []) (next := s.nxt + 1) (new := []) hst (fun p hp => ?_) (fun b' hb' => ?_) (fun k' hk' => by cases hk') fun t av hl => by cases hl
  · exact h g cap R.le R.mx a w ⟨_, this⟩
  · rw [List.mem_singleton.1 hp]
    refine .fr _ _ (setPl_same _ _ _) rfl fun i av x ha hx => ?_
    cases i with
    | zero => simp at ha hx; subst ha; exact .pl _ _ _ (by rw [setPl_other _ _ (by omega)]; exact hι)
    | succ i => simp at ha
  · have hb'' : s.nxt + 1 ≤ b' := hb'
    rw [setPl_other _ _ (by omega)]
    exact hs.free b' (by omega)

/-- What is known of a block's end is forgotten. -/
theorem go_shrink {cx : Cx} {Q : Post} {K : List K} {s : AState} (b n : Nat) {k : Nat} {es : List (List CV)} {ty : TypeId} (hb : look s.heap b = some (.acc k es ty)) (h : Go' cx Q K ⟨s.tmps, (b, .acc k (es.take n) ty) :: s.heap, s.nxt⟩) : Go' cx Q K s := by
  refine go_weak ?_ h
  rintro a w ⟨ι, hs⟩
  refine ⟨ι, hs.ok, hs.free, hs.defers, hs.size, hs.tmps, fun b' blk hl => ?_, hs.base⟩
  simp only [look] at hl
  cases e : b == b' with
  | false => simp [e] at hl; exact hs.heap b' blk hl
  | true =>
    simp [e] at hl
    have := eq_of_beq e
    subst this
    subst hl
    have hblk := hs.heap b _ hb
    cases hblk with
    | accNil _ _ h1 => rw [List.take_nil]; exact .accNil _ _ h1
    | acc _ _ _ g cap cur h1 h2 h3 h4 h5 h6 h8 =>
      have hget : ∀ (i : Nat) e, (es.take n)[i]? = some e → es[i]? = some e := fun i e he => by
        rw [List.getElem?_take] at he
        split at he
        · exact he
        · cases he
      exact .acc _ _ _ g cap cur h1 h2 h3 (by rw [List.length_take]; omega) h5 (fun i e he => h6 i e (hget i e he)) fun i e j u x he hu hx => h8 i e j u x (hget i e he) hu hx
end Go.Ab
