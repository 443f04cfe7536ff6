/-
  Sets of structs of whole numbers, told by lists. Theorems for any program.
-/
import Derived.Test.YtpfgofnmkaljaaaMg33
set_option linter.unusedVariables false
set_option linter.unusedSimpArgs false
namespace Go.Ab
open Go Go.RowKit
section
variable {α : Type} [DecidableEq α] (g : α → List (IntKind × Int) × Value)
omit [DecidableEq α] in
theorem findM_set (h2 : ∀ x, (g x).2 = .bool true) (hinj : ∀ x y, (g x).1.map (·.2) = (g y).1.map (·.2) → x = y) (e : α) : ∀ l : List α, (e ∈ l → ∃ i, l[i]? = some e ∧ findM (l.map g) ((g e).1.map (·.2)) = some (i, .bool true)) ∧ (e ∉ l → findM (l.map g) ((g e).1.map (·.2)) = none)
 | [] => ⟨fun h => (by cases h), fun _ => rfl⟩
 | x :: r => by
  obtain ⟨i1, i2⟩ := findM_set h2 hinj e r
  simp only [List.map_cons, findM]
  cases hd : decide ((g e).1.map (·.2) = (g x).1.map (·.2)) with
  | true =>
   have := hinj e x (of_decide_eq_true hd)
   subst this
   exact ⟨fun _ => ⟨0, rfl, by simp [h2]⟩, fun h => absurd List.mem_cons_self h⟩
  | false =>
   have hne : e ≠ x := fun h => by subst h; simp at hd
   refine ⟨fun h => ?_, fun h => ?_⟩
   ·obtain ⟨i, h3, h4⟩ := i1 ((List.mem_cons.1 h).resolve_left hne)
    exact ⟨i + 1, by simpa using h3, by rw [h4]; rfl⟩
   ·rw [i2 fun hm => h (List.mem_cons_of_mem _ hm)]
    rfl
def LS (l : List α) (e : α) : Prop := lookM (l.map g) (g e).1 (.bool false) = .bool (decide (e ∈ l))
theorem ls (h2 : ∀ x, (g x).2 = .bool true) (hinj : ∀ x y, (g x).1.map (·.2) = (g y).1.map (·.2) → x = y) {l : List α} {e : α} : LS g l e := by
 obtain ⟨i1, i2⟩ := findM_set g h2 hinj e l
 unfold LS lookM
 by_cases h : e ∈ l
 ·obtain ⟨i, _, h4⟩ := i1 h
  rw [h4]
  simp [h]
 ·rw [i2 h]
  simp [h]
def addS (l : List α) (e : α) : List α := bif decide (e ∈ l) then l else l ++ [e]
def PS (l : List α) (e : α) : Prop := putM (l.map g) (g e).1 (.bool true) = (addS l e).map g
theorem ps (h2 : ∀ x, (g x).2 = .bool true) (hinj : ∀ x y, (g x).1.map (·.2) = (g y).1.map (·.2) → x = y) {l : List α} {e : α} : PS g l e := by
 obtain ⟨i1, i2⟩ := findM_set g h2 hinj e l
 have he : ((g e).1, Value.bool true) = g e := by rw [← h2 e]
 unfold PS putM addS
 by_cases h : e ∈ l
 ·obtain ⟨i, h3, h4⟩ := i1 h
  rw [h4]
  simp only [h, decide_true, cond_true, he]
  refine List.ext_getElem? fun j => ?_
  by_cases hj : i = j
  ·subst hj
   rw [List.getElem?_set_self (by simpa using (List.getElem?_eq_some_iff.1 h3).1), List.getElem?_map, h3]
   rfl
  ·rw [List.getElem?_set_ne hj]
 ·rw [i2 h]
  simp [h, he]
def KS (l : List α) (e : α) : Prop := SameK (l.map g) (g e).1
omit [DecidableEq α] in
theorem ks (hk : ∀ x y, (g x).1.map (·.1) = (g y).1.map (·.1)) {l : List α} {e : α} : KS g l e := fun p hp => by
 obtain ⟨x, _, rfl⟩ := List.mem_map.1 hp
 exact hk e x
end
theorem condT {β : Type} {b : Bool} {x y r : β} (h : b = true) (e : (bif b then x else y) = r) : x = r := by subst h; exact e
theorem condF {β : Type} {b : Bool} {x y r : β} (h : b = false) (e : (bif b then x else y) = r) : y = r := by subst h; exact e
theorem iteT {β : Type} {b : Bool} {x : b = true → β} {y : ¬ b = true → β} {r : β} (h : b = true) (e : (if h : b = true then x h else y h) = r) : x h = r := by rw [dif_pos h] at e; exact e
theorem iteF {β : Type} {b : Bool} {x : b = true → β} {y : ¬ b = true → β} {r : β} (h : b = false) (e : (if h : b = true then x h else y h) = r) : y (by simp [h]) = r := by rw [dif_neg (by simp [h])] at e; exact e
theorem mxi {α : Type} {by_ : Nat} {i : Int} {f : α → List CV} {x : α} (hb : by_ ≤ 16384) (h0 : 0 ≤ i) (h : i ≤ 8589934592) : MX by_ i f x i.toNat := by
 have := mx (n := i.toNat) (f := f) (x := x) hb (by omega)
 rwa [show ((i.toNat : Nat) : Int) = i by omega] at this
end Go.Ab
