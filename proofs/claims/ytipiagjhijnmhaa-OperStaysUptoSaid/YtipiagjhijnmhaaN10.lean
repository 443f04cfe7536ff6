/-
  A function told by closed values, called on an own slice that is closed for it: in whatever order.
-/
import Derived.Test.YtipiagjhijnmhaaG2
set_option linter.unusedVariables false
namespace Go.Ab
open Go Go.RowKit

theorem FnP.closeM {P : Program} {f : FuncId} {args ar : List AV} {r : AV} {k : Nat} {es : List (List CV)} {ty : TypeId} {vc : Prop} (h : FnP P f ar r) (hs : frzL (cls1 0 k es) args = some (vc, ar)) (hvc : vc) (hcl : ∀ av ∈ ar, ∀ b, ¬ Men b av) : FnM P f args [.acc k es ty] [] [.acc k [] ty] r := by
  refine ⟨h.1, Nat.le_refl _, fun I ι w vs hI hok hf hn hH hl hr => ?_⟩
  have hblk := hH 0 _ rfl
  have hIS : ∀ g, I g → Still (fun g => I g ∨ ∃ b c, ι b = some (.at g c)) ι w g := fun g hg => ⟨⟨.inl hg, hI g hg⟩, fun b c => hn g hg b c⟩
  have hinv : ∀ b g c, setPl ι 0 .nil b = some (.at g c) → ι b = some (.at g c) := fun b g c hb => by
    by_cases e : b = 0
    · subst e; rw [setPl_same] at hb; cases hb
    · rwa [setPl_other _ _ e] at hb
  have hst : ∀ g, Still (fun g => I g ∨ ∃ b c, ι b = some (.at g c)) ι w g → Still (fun g => I g ∨ ∃ b c, ι b = some (.at g c)) (setPl ι 0 .nil) w g := fun g hg => ⟨hg.1, fun b c hb => hg.2 b c (hinv b g c hb)⟩
  obtain ⟨g1, g2⟩ := frzL_ok' (A := fun g => I g ∨ ∃ b c, ι b = some (.at g c)) (ι := ι) (w := w) (J := Still (fun g => I g ∨ ∃ b c, ι b = some (.at g c)) (setPl ι 0 .nil) w) (ι' := setPl ι 0 .nil) (fun av x vc r h hvc hx => cls1_ok hok (fun b g c hb => .inr ⟨b, c, hb⟩) rfl hst (hblk.mono hIS) h hvc hx) (l' := ar) hs hvc
  refine (h.2 (Still (fun g => I g ∨ ∃ b c, ι b = some (.at g c)) (setPl ι 0 .nil) w) w vs (fun g hg => hg.1.2) (by rw [hl, g1]) fun i av x ha hx => (g2 i av x ha fun av' hav' => (hr i av' x hav' hx).mono (fun g hg => ⟨hIS g hg, rfl⟩) fun _ _ => rfl).mono (fun g hg => ⟨hg, rfl⟩) fun b hm => absurd hm (hcl av (List.mem_of_getElem? ha) b)).mono fun e w' he => ?_
  obtain ⟨v, rfl, hrep, hbel⟩ := he
  have hA : ∀ g, ((Still (fun g => I g ∨ ∃ b c, ι b = some (.at g c)) (setPl ι 0 .nil) w g ∨ w.heap.size ≤ g) ∧ g < w'.heap.size) → Still (fun g => I g ∨ (∃ b c, ι b = some (.at g c)) ∨ w.heap.size ≤ g) (setPl ι 0 .nil) w' g := by
    intro g hg
    refine ⟨⟨?_, hg.2⟩, ?_⟩
    · rcases hg.1 with h1 | h1
      · rcases h1.1.1 with h2 | h2
        · exact .inl h2
        · exact .inr (.inl h2)
      · exact .inr (.inr h1)
    · intro b c hb
      rcases hg.1 with h1 | h1
      · exact h1.2 b c hb
      · have := hok.lt b g c (hinv b g c hb); omega
  have hrep' : Rep (Still (fun g => I g ∨ (∃ b c, ι b = some (.at g c)) ∨ w.heap.size ≤ g) (setPl ι 0 .nil) w') (setPl ι 0 .nil) w' r v := hrep.mono (fun g hg => ⟨hA g hg, rfl⟩) fun b hb => absurd rfl (hrep.men b hb)
  have hblks : ∀ (i : Nat) blk, [Blk.acc k [] ty][i]? = some blk → BlkRep (Still (fun g => I g ∨ (∃ b c, ι b = some (.at g c)) ∨ w.heap.size ≤ g) (setPl ι 0 .nil) w') (setPl ι 0 .nil) w' i blk := by
    intro i blk hi
    cases i with
    | zero => simp at hi; subst hi; exact .accNil _ _ (setPl_same _ _ _)
    | succ i => simp at hi
  have hfree : ∀ b, [Blk.acc k [] ty].length ≤ b → setPl ι 0 .nil b = none := by
    intro b hb
    have hb1 : 1 ≤ b := hb
    rw [setPl_other _ _ (by omega)]
    exact hf b hb
  refine ⟨v, setPl ι 0 .nil, rfl, hrep', hblks, hfree, fun b g c hb => .inl ⟨b, c, hinv b g c hb⟩, ⟨?_, ?_⟩, ⟨hbel.os, hbel.tape, hbel.output, hbel.size, fun g hg _ => hbel.block g hg⟩, fun b hb => (by cases hb)⟩
  · exact fun b b' g c c' h1 h2 => hok.inj b b' g c c' (hinv _ _ _ h1) (hinv _ _ _ h2)
  · exact fun b g c hb => Nat.lt_of_lt_of_le (hok.lt b g c (hinv _ _ _ hb)) hbel.size
end Go.Ab
