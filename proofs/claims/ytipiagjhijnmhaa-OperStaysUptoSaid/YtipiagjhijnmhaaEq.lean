/-
  Structs of whole numbers compared (printed by gen_eq.py, a program of this work).
-/
import Derived.Test.YtipiagjhijnmhaaT0
import Derived.Test.YtipiagjhijnmhaaV
import Derived.Test.YtipiagjhijnmhaaA12
import Derived.Laws.StructEq
set_option linter.unusedVariables false
set_option linter.unusedSimpArgs false
namespace Go.Ab.Try
open Go Go.Proofs Go.Ab

def eqF : EQ := fun t => match t with | 43 => some 2 | 70 => some 3 | 72 => some 3 | 68 => some 2 | 96 => some 2 | _ => none

theorem held_no : ∀ t ∈ ([43, 70, 68, 72, 96] : List TypeId), Try.prog.stoodInHeld t = false := fun t ht => by
    rcases List.mem_cons.1 ht with rfl | ht
    · kernel_rfl
    · rcases List.mem_cons.1 ht with rfl | ht
      · kernel_rfl
      · rcases List.mem_cons.1 ht with rfl | ht
        · kernel_rfl
        · rcases List.mem_cons.1 ht with rfl | ht
          · kernel_rfl
          · rcases List.mem_cons.1 ht with rfl | ht
            · kernel_rfl
            · cases ht

theorem eqS {t n : Nat} (ht : eqCells [43, 70, 68, 72, 96] tt 3 t = some n) (ha : tagg tt t = some (true, n)) (h0 : Try.prog.eqGuardType Try.prog.depth t = false) (w : World) (xs ys : List (IntKind × Int)) (x y : Operand) (hl : xs.length = n) (hk : xs.map (·.1) = ys.map (·.1)) :
    (eqGuard .eql t x y (.agg (vals xs).toArray) (.agg (vals ys).toArray)).run Try.prog w = .ok () w ∧
    (eqGuard .neq t x y (.agg (vals xs).toArray) (.agg (vals ys).toArray)).run Try.prog w = .ok () w ∧
    (Op.equal t (.agg (vals xs).toArray) (.agg (vals ys).toArray)).run Try.prog w = .ok (decide (xs.map (·.2) = ys.map (·.2))) w := by
  have hg : ∀ op a b, (eqGuard op t x y (.agg a) (.agg b)).run Try.prog w = .ok () w := by
    intro op a b
    unfold eqGuard
    cases op <;> simp [h0]
  refine ⟨hg _ _ _, hg _ _ _, ?_⟩
  exact eqCells_run ttOk [43, 70, 68, 72, 96] held_no 3 t n ht 10000 (by decide) w true xs ys ha hl hk

theorem eqOk : EqOk Try.prog eqF := by
  intro t n h w xs ys x y hl hk
  unfold eqF at h
  split at h
  · cases h
    exact eqS (by rfl) (by rfl) (by kernel_rfl) w xs ys x y hl hk
  · cases h
    exact eqS (by rfl) (by rfl) (by kernel_rfl) w xs ys x y hl hk
  · cases h
    exact eqS (by rfl) (by rfl) (by kernel_rfl) w xs ys x y hl hk
  · cases h
    exact eqS (by rfl) (by rfl) (by kernel_rfl) w xs ys x y hl hk
  · cases h
    exact eqS (by rfl) (by rfl) (by kernel_rfl) w xs ys x y hl hk
  · cases h
theorem EVA : type_of% (And.intro @EV1 (And.intro @EV2 (And.intro @EV3 (And.intro @EV4 (And.intro @EV5 (And.intro @EV6 (And.intro @EV7 (And.intro @EV8 (And.intro @EV9 (And.intro @EV10 @EV11)))))))))) :=
  And.intro @EV1 (And.intro @EV2 (And.intro @EV3 (And.intro @EV4 (And.intro @EV5 (And.intro @EV6 (And.intro @EV7 (And.intro @EV8 (And.intro @EV9 (And.intro @EV10 @EV11)))))))))
theorem EVB : type_of% (And.intro @EVA (And.intro @List.length_map.{0,0} (And.intro @Bool.and_true (And.intro @Bool.true_and (And.intro @Bool.and_false (And.intro @Bool.false_and (And.intro @Int.toNat_natCast (And.intro @ne_eq.{1} (not_false_eq_true))))))))) := And.intro @EVA (And.intro @List.length_map.{0,0} (And.intro @Bool.and_true (And.intro @Bool.true_and (And.intro @Bool.and_false (And.intro @Bool.false_and (And.intro @Int.toNat_natCast (And.intro @ne_eq.{1} (not_false_eq_true))))))))
end Go.Ab.Try
