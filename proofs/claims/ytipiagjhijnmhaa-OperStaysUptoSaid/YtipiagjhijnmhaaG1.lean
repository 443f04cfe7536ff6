/-
  A call that is handed own slices which nobody writes any more: they are closed ahead of it.
-/
import Derived.Test.YtipiagjhijnmhaaG0
set_option linter.unusedVariables false
set_option linter.unusedSimpArgs false
namespace Go.Ab
open Go Go.RowKit

/-! ### Values told short -/
def iV (x : Int) : AV := .c (.val (.int .i64 x))
def bo (x : Bool) : AV := .c (.val (.bool x))
def nS : AV := .c (.val (.slice none 0 0))
def sL {α : Type} (f : α → List CV) (l : List α) : AV := .c (.sl (List.map f l))

def cls0 (b k : Nat) (es : List (List CV)) : AV → Option (Prop × AV)
  | .own b' k' off n => bif b' == b then some (k' = k ∧ off + n ≤ es.length, .c (.sl ((es.drop off).take n))) else some (True, .own b' k' off n)
  | .ptr b' off => bif b' == b then none else some (True, .ptr b' off)
  | .osl b' off n => bif b' == b then none else some (True, .osl b' off n)
  | .c u => some (True, .c u)
  | .clo f [] => some (True, .clo f [])
  | _ => none
def cls1 (b k : Nat) (es : List (List CV)) : AV → Option (Prop × AV)
  | .agg cs => (frzL (cls0 b k es) cs).map fun r => (r.1, .agg r.2)
  | av => cls0 b k es av

section
variable {A : Nat → Prop} {ι ι' : Pl} {w : World} {b k : Nat} {es : List (List CV)} {ty : TypeId}
theorem cls0_ok (hok : Ok ι w) (hmine : ∀ b g c, ι b = some (.at g c) → A g) (hι : ι' = setPl ι b .nil) (hst : ∀ g, Still A ι w g → Still A ι' w g) (hb : BlkRep (Still A ι w) ι w b (.acc k es ty))
    {av : AV} {x : Value} {vc : Prop} {r : AV} (h : cls0 b k es av = some (vc, r)) (hvc : vc) (hx : Rep (Still A ι w) ι w av x) : Rep (Still A ι' w) ι' w r x := by
  have other : ∀ b', (b' == b) = false → ι' b' = ι b' := fun b' h => by rw [hι]; exact setPl_other _ _ (by simpa using h)
  unfold cls0 at h
  split at h
  · rename_i b' k' off n
    cases e : b' == b with
    | true =>
      simp only [e, cond_true, Option.some.injEq, Prod.mk.injEq] at h
      obtain ⟨rfl, rfl⟩ := h
      have := eq_of_beq e
      subst this
      obtain ⟨rfl, hle⟩ := hvc
      refine .c _ _ (own_closed (J := Still A ι' w) hst (fun g c hg => ⟨⟨hmine _ _ _ hg, hok.lt _ _ _ hg⟩, fun b'' c' hb' => ?_⟩) hx hb hle)
      rw [hι] at hb'
      by_cases e' : b'' = b'
      · subst e'; rw [setPl_same] at hb'; cases hb'
      · rw [setPl_other _ _ e'] at hb'; exact e' (hok.inj _ _ _ _ _ hb' hg)
    | false =>
      simp only [e, cond_false, Option.some.injEq, Prod.mk.injEq] at h
      obtain ⟨rfl, rfl⟩ := h
      exact hx.mono (fun g hg => ⟨hst g hg, rfl⟩) fun b'' hm => by cases hm; exact other _ e
  · rename_i b' off
    cases e : b' == b with
    | true => simp [e] at h
    | false =>
      simp only [e, cond_false, Option.some.injEq, Prod.mk.injEq] at h
      obtain ⟨rfl, rfl⟩ := h
      exact hx.mono (fun g hg => ⟨hst g hg, rfl⟩) fun b'' hm => by cases hm; exact other _ e
  · rename_i b' off n
    cases e : b' == b with
    | true => simp [e] at h
    | false =>
      simp only [e, cond_false, Option.some.injEq, Prod.mk.injEq] at h
      obtain ⟨rfl, rfl⟩ := h
      exact hx.mono (fun g hg => ⟨hst g hg, rfl⟩) fun b'' hm => by cases hm; exact other _ e
  · cases h
    exact hx.mono (fun g hg => ⟨hst g hg, rfl⟩) fun b'' hm => by cases hm
  · cases h
    exact hx.mono (fun g hg => ⟨hst g hg, rfl⟩) fun b'' hm => by cases hm with | clo _ _ i av hi _ => simp at hi
  · cases h

theorem cls1_ok (hok : Ok ι w) (hmine : ∀ b g c, ι b = some (.at g c) → A g) (hι : ι' = setPl ι b .nil) (hst : ∀ g, Still A ι w g → Still A ι' w g) (hb : BlkRep (Still A ι w) ι w b (.acc k es ty))
    {av : AV} {x : Value} {vc : Prop} {r : AV} (h : cls1 b k es av = some (vc, r)) (hvc : vc) (hx : Rep (Still A ι w) ι w av x) : Rep (Still A ι' w) ι' w r x := by
  unfold cls1 at h
  split at h
  · rename_i cs
    cases hc : frzL (cls0 b k es) cs with
    | none => rw [hc] at h; cases h
    | some p =>
      rw [hc] at h
      cases h
      cases hx with
      | agg _ xs hl h1 hr =>
        obtain ⟨h3, h4⟩ := frzL_ok' (A := A) (ι := ι) (w := w) (J := Still A ι' w) (ι' := ι') (fun av x vc r h hvc hx => cls0_ok hok hmine hι hst hb h hvc hx) (l' := p.2) hc hvc
        exact .agg _ xs (by rw [hl, h3]) h1 fun i av' x ha hx => h4 i av' x ha fun av hav => hr i av x hav hx
  · exact cls0_ok hok hmine hι hst hb h hvc hx
end

theorem getD_mem {α : Type} (l : List α) (i : Nat) (d : α) (h : i < l.length) : l.getD i d ∈ l := by
  simp [List.getD, List.getElem?_eq_getElem h]
/-- AN OWN SLICE IS CLOSED ahead of a call. -/
theorem CallK.close {cx : Cx} {o : Oper} {s : AState} {f : FuncId} {args as : List AV} {KK : AState → Prop} (b : Nat) {k : Nat} {es : List (List CV)} {ty : TypeId} {vc : Prop} (hb : look s.heap b = some (.acc k es ty)) (hs : frzL (cls1 b k es) args = some (vc, as)) (hvc : vc)
    (h : CallK cx o ⟨killT [b] s.tmps, [(b, .acc k [] ty)] ++ killH [b] s.heap, s.nxt⟩ f as KK) : CallK cx o s f args KK := by
  refine ⟨h.1, fun ι a w vs hS hl hr => ?_⟩
  have hblk := hS.heap b _ hb
  have hlt : b < s.nxt := Nat.lt_of_not_le fun hle => hblk.laid (hS.free b hle)
  have hst : StepR ι w (setPl ι b .nil) w (fun b' => ∃ blk, (b', blk) ∈ [(b, Blk.acc k [] ty)]) (fun b' => b' ∈ [b] ∨ s.nxt ≤ b') := step_nil hS.ok b _ _ (.inl (List.mem_singleton.2 rfl))
  have hS' := hS.ghost (ks := [b]) (next := s.nxt) (new := []) hst (fun p hp => by rw [List.mem_singleton.1 hp]; exact .accNil _ _ (setPl_same _ _ _)) (fun b' hb' => by
    have hb'' : s.nxt ≤ b' := hb'
    rw [setPl_other _ _ (by omega)]
    exact hS.free b' hb'') (fun k' hk' => by rw [List.mem_singleton.1 hk']; exact ⟨_, List.mem_singleton.2 rfl⟩) fun t av hl => by cases hl
  obtain ⟨g1, g2⟩ := frzL_ok' (A := cx.A) (ι := ι) (w := w) (J := Still cx.A (setPl ι b .nil) w) (ι' := setPl ι b .nil) (fun av x vc r h hvc hx => cls1_ok hS.ok (fun b g c hb => hS.base.mine hb) rfl (fun g hg => (hst.still g hg).1) hblk h hvc hx) (l' := as) hs hvc
  exact h.2 _ a w vs hS' (by rw [hl, g1]) fun i av x ha hx => g2 i av x ha fun av' hav' => hr i av' x hav' hx
end Go.Ab
