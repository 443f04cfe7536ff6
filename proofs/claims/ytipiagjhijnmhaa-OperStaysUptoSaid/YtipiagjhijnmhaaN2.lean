/-
  States told anew: an own slice closed for good; a nil slice in a box as an own one; numbers renamed.
-/
import Derived.Test.YtipiagjhijnmhaaN1
set_option linter.unusedVariables false
set_option linter.unusedSimpArgs false
namespace Go.Ab
open Go Go.RowKit

/-- A step without a world's turn: blocks laid elsewhere. -/
theorem SatI.ghost {cx : Cx} {s : AState} {ι ι' : Pl} {a : Act} {w : World} (hs : SatI cx s ι a w) {ks : List Nat} {wr : List (Nat × Blk)} {next : Nat} {new : List (Nat × AV)} (hst : StepR ι w ι' w (fun b => ∃ blk, (b, blk) ∈ wr) (fun b => b ∈ ks ∨ s.nxt ≤ b)) (hwr : ∀ p ∈ wr, BlkRep (Still cx.A ι' w) ι' w p.1 p.2)
    (hn : ∀ b, next ≤ b → ι' b = none) (hkw : ∀ k, k ∈ ks → ∃ blk, (k, blk) ∈ wr) (hnew : ∀ t av, look new t = some av → Rep (Still cx.A ι' w) ι' w av (a.tmps.getD t undef)) :
    SatI cx ⟨new ++ killT ks s.tmps, wr ++ killH ks s.heap, next⟩ ι' a w := by
  have h := hs.apply (o := default) (e := ⟨some .top, wr, ks, next⟩) (v := undef) hst hwr hn hkw (.top _) (fun t ht => by cases ht)
  refine ⟨h.ok, h.free, h.defers, h.size, fun t av hl => ?_, h.heap, h.base⟩
  rw [look_append] at hl
  cases hw : look new t with
  | some y => rw [hw] at hl; simp at hl; subst hl; exact hnew t _ hw
  | none => rw [hw] at hl; simp at hl; exact h.tmps t av hl

def frzT (es : List (List CV)) : List Nat → List (Nat × AV)
  | [] => []
  | t :: r => (t, .c (.sl es)) :: frzT es r
def AllOwn (tmps : List (Nat × AV)) (b k n : Nat) : List Nat → Prop
  | [] => True
  | t :: r => look tmps t = some (.own b k 0 n) ∧ AllOwn tmps b k n r
theorem frzT_get {es : List (List CV)} {tmps : List (Nat × AV)} {b k n : Nat} : ∀ {ts : List Nat} {t : Nat} {av : AV}, AllOwn tmps b k n ts → look (frzT es ts) t = some av → av = .c (.sl es) ∧ look tmps t = some (.own b k 0 n)
  | u :: r, t, av, h, hl => by
    simp only [frzT, look] at hl
    cases e : u == t with
    | true => simp [e] at hl; have := eq_of_beq e; subst this; subst hl; exact ⟨rfl, h.1⟩
    | false => simp [e] at hl; exact frzT_get h.2 hl

/-- AN OWN SLICE IS CLOSED: nobody writes it any more. -/
theorem go_frz {cx : Cx} {Q : Post} {K : List K} {s : AState} (b : Nat) (ts : List Nat) {k n : Nat} {es : List (List CV)} {ty : TypeId} (hb : look s.heap b = some (.acc k es ty)) (hts : AllOwn s.tmps b k n ts) (hn : n = es.length)
    (h : Go' cx Q K ⟨frzT es ts ++ killT [b] s.tmps, [(b, .acc k [] ty)] ++ killH [b] s.heap, s.nxt⟩) : Go' cx Q K s := by
  refine go_weak ?_ h
  rintro a w ⟨ι, hs⟩
  have hblk := hs.heap b _ hb
  have hlt : b < s.nxt := Nat.lt_of_not_le fun hle => hblk.laid (hs.free b hle)
  have hst : StepR ι w (setPl ι b .nil) w (fun b' => ∃ blk, (b', blk) ∈ [(b, Blk.acc k [] ty)]) (fun b' => b' ∈ [b] ∨ s.nxt ≤ b') := step_nil hs.ok b _ _ (.inl (List.mem_singleton.2 rfl))
  refine ⟨setPl ι b .nil, hs.ghost hst (fun p hp => ?_) (fun b' hb' => ?_) (fun k' hk' => ?_) fun t av hl => ?_⟩
  · rw [List.mem_singleton.1 hp]; exact .accNil _ _ (setPl_same _ _ _)
  · have hb'' : s.nxt ≤ b' := hb'
    rw [setPl_other _ _ (by omega)]
    exact hs.free b' hb''
  · rw [List.mem_singleton.1 hk']; exact ⟨_, List.mem_singleton.2 rfl⟩
  · obtain ⟨rfl, hlo⟩ := frzT_get hts hl
    have hown := hs.tmps t _ hlo
    have := own_closed (J := Still cx.A (setPl ι b .nil) w) (fun g hg => (hst.still g hg).1) (fun g c hg => ⟨⟨hs.base.mine hg, hs.ok.lt _ _ _ hg⟩, fun b' c' hb' => by
      by_cases e : b' = b
      · subst e; rw [setPl_same] at hb'; cases hb'
      · rw [setPl_other _ _ e] at hb'
        exact e (hs.ok.inj _ _ _ _ _ hb' hg)⟩) hown hblk (by omega)
    rw [List.drop_zero, hn, List.take_length] at this
    exact .c _ _ this

/-- A nil slice in a box is an own slice without elements. -/
theorem go_nilCell {cx : Cx} {Q : Post} {K : List K} {s : AState} (b i w ty : Nat) {cells : List AV} {ty' : TypeId} (hb : look s.heap b = some (.box cells ty')) (hi : cells[i]? = some (.c (.val (.slice none 0 0))))
    (h : Go' cx Q K ⟨s.tmps, (b, .box (cells.set i (.own s.nxt w 0 0)) ty') :: (s.nxt, .acc w [] ty) :: s.heap, s.nxt + 1⟩) : Go' cx Q K s := by
  refine go_weak ?_ h
  rintro a w' ⟨ι, hs⟩
  have hblk := hs.heap b _ hb
  have hlt : b < s.nxt := Nat.lt_of_not_le fun hle => hblk.laid (hs.free b hle)
  have hst : StepR ι w' (setPl ι s.nxt .nil) w' (fun b' => ∃ blk, (b', blk) ∈ [(b, Blk.box (cells.set i (.own s.nxt w 0 0)) ty'), (s.nxt, .acc w [] ty)]) (fun b' => b' ∈ ([] : List Nat) ∨ s.nxt ≤ b') := step_nil hs.ok s.nxt _ _ (.inr (Nat.le_refl _))
  have := hs.ghost (ks := []) (next := s.nxt + 1) (new := []) hst (fun p hp => ?_) (fun b' hb' => ?_) (fun k' hk' => by cases hk') fun t av hl => by cases hl
  · exact ⟨_, this⟩
  · rcases List.mem_cons.1 hp with rfl | hp
    · cases hblk with
      | box _ _ g cur h1 h2 h3 h4 h5 =>
        refine .box _ _ g cur (by rw [setPl_other _ _ (by omega), List.length_set]; exact h1) h2 (by rw [List.length_set]; exact h3) h4 fun j av x ha hx => ?_
        rw [List.getElem?_set] at ha
        split at ha
        · rename_i e
          subst e
          split at ha
          · cases ha
            have := h5 i _ x hi hx
            cases this with
            | c _ _ hu => cases hu; exact .ownNil _ _ (setPl_same _ _ _)
          · cases ha
        · exact hst.rep (h5 j av x ha hx) fun b' hb' hk => (h5 j av x ha hx).men b' hb' (hs.free b' (hk.resolve_left (by simp)))
    · rw [List.mem_singleton.1 hp]; exact .accNil _ _ (setPl_same _ _ _)
  · have hb'' : s.nxt + 1 ≤ b' := hb'
    rw [setPl_other _ _ (by omega)]
    exact hs.free b' (by omega)
end Go.Ab
