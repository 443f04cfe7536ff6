/-
  Four bytes compared.
-/
import Derived.Test.YtnlpmpndhngimaaT0
import Derived.Test.YtnlpmpndhngimaaV
import Derived.Test.YtnlpmpndhngimaaA12
import Derived.Laws.StructEq
set_option linter.unusedVariables false
set_option linter.unusedSimpArgs false
namespace Go.Ab.Try
open Go Go.Proofs Go.Ab

def eqF : EQ := fun t => match t with | 82 => some 4 | 43 => some 4 | 41 => some 2 | _ => none

theorem part5 (w : World) (xs : List Value) (i : Nat) (v : Value) (h : xs[i]? = some v) : (part 5 xs.toArray i).run Try.prog w = .ok v w := by
  have h1 : Try.prog.underlying 5 = some (.int .u8) := k5.1
  unfold part
  simp only [isAgg, Sem.run_bind, run_underlying h1, Result.andThen_ok, Sem.run_pure, Bool.false_eq_true, if_false, List.getElem?_toArray, h]

theorem eq82 (w : World) (k0 k1 k2 k3 : IntKind) (a0 a1 a2 a3 b0 b1 b2 b3 : Int) :
    (Op.equal 82 (.agg [Value.int k0 a0, .int k1 a1, .int k2 a2, .int k3 a3].toArray) (.agg [Value.int k0 b0, .int k1 b1, .int k2 b2, .int k3 b3].toArray)).run Try.prog w = .ok (decide ([a0, a1, a2, a3] = [b0, b1, b2, b3])) w := by
  have h1 : Try.prog.underlying 5 = some (.int .u8) := k5.1
  have h2 : Try.prog.underlying 82 = some (.array 4 5) := k82.1
  have hs : ∀ w, (sizeOf 5).run Try.prog w = .ok 1 w := fun w => ttOk.size (by rw [tsize_tt]; rfl) w
  show (Op.equalIn (9999 + 1) 82 _ _).run Try.prog w = _
  rw [Op.equalIn]
  simp only [Sem.run_bind, run_underlying h2, Result.andThen_ok, hs, Std.Legacy.Range.forIn_eq_forIn_range', Std.Legacy.Range.size, Nat.sub_zero, Nat.reduceAdd, Nat.reduceSub, Nat.div_one, List.range'_succ, List.range'_zero, List.forIn_cons, List.forIn_nil, Nat.zero_add]
  have q : ∀ (w : World) (k : IntKind) (a b : Int), (Op.equalIn 9999 5 (.int k a) (.int k b)).run Try.prog w = .ok (a == b) w := fun w k a b => run_equalIn_int w 9998 5 k .u8 a b h1
  have p0 : ∀ (w : World) (x0 x1 x2 x3 : Value), (part 5 [x0, x1, x2, x3].toArray 0).run Try.prog w = .ok x0 w := fun w x0 x1 x2 x3 => part5 w [x0, x1, x2, x3] 0 x0 rfl
  have p1 : ∀ (w : World) (x0 x1 x2 x3 : Value), (part 5 [x0, x1, x2, x3].toArray 1).run Try.prog w = .ok x1 w := fun w x0 x1 x2 x3 => part5 w [x0, x1, x2, x3] 1 x1 rfl
  have p2 : ∀ (w : World) (x0 x1 x2 x3 : Value), (part 5 [x0, x1, x2, x3].toArray 2).run Try.prog w = .ok x2 w := fun w x0 x1 x2 x3 => part5 w [x0, x1, x2, x3] 2 x2 rfl
  have p3 : ∀ (w : World) (x0 x1 x2 x3 : Value), (part 5 [x0, x1, x2, x3].toArray 3).run Try.prog w = .ok x3 w := fun w x0 x1 x2 x3 => part5 w [x0, x1, x2, x3] 3 x3 rfl
  simp only [p0, p1, p2, p3, Nat.mul_one, Nat.reduceMul, Result.andThen_ok, q, Sem.run_ite]
  by_cases e0 : a0 = b0 <;> by_cases e1 : a1 = b1 <;> by_cases e2 : a2 = b2 <;> by_cases e3 : a3 = b3 <;> simp [e0, e1, e2, e3, p1, p2, p3, q]

theorem eqS {t n : Nat} (ht : eqCells [41, 43] tt 3 t = some n) (ha : tagg tt t = some (true, n)) (h0 : Try.prog.eqGuardType Try.prog.depth t = false) (w : World) (xs ys : List (IntKind × Int)) (x y : Operand) (hl : xs.length = n) (hk : xs.map (·.1) = ys.map (·.1)) :
    (eqGuard .eql t x y (.agg (vals xs).toArray) (.agg (vals ys).toArray)).run Try.prog w = .ok () w ∧
    (eqGuard .neq t x y (.agg (vals xs).toArray) (.agg (vals ys).toArray)).run Try.prog w = .ok () w ∧
    (Op.equal t (.agg (vals xs).toArray) (.agg (vals ys).toArray)).run Try.prog w = .ok (decide (xs.map (·.2) = ys.map (·.2))) w := by
  have hg : ∀ op a b, (eqGuard op t x y (.agg a) (.agg b)).run Try.prog w = .ok () w := by
    intro op a b
    unfold eqGuard
    cases op <;> simp [h0]
  refine ⟨hg _ _ _, hg _ _ _, ?_⟩
  exact eqCells_run ttOk [41, 43] (fun t ht => by
    rcases List.mem_cons.1 ht with rfl | ht
    · kernel_rfl
    · rcases List.mem_cons.1 ht with rfl | ht
      · kernel_rfl
      · cases ht) 3 t n ht 10000 (by decide) w true xs ys ha hl hk

theorem eqOk : EqOk Try.prog eqF := by
  intro t n h w xs ys x y hl hk
  unfold eqF at h
  split at h
  · cases h
    have hg : ∀ op a b, (eqGuard op 82 x y (.agg a) (.agg b)).run Try.prog w = .ok () w := by
      intro op a b
      have h0 : Try.prog.eqGuardType Try.prog.depth 82 = false := by kernel_rfl
      unfold eqGuard
      cases op <;> simp [h0]
    refine ⟨hg _ _ _, hg _ _ _, ?_⟩
    match xs, hl with
    | [(k0, a0), (k1, a1), (k2, a2), (k3, a3)], _ =>
      match ys, hk with
      | [(l0, b0), (l1, b1), (l2, b2), (l3, b3)], hk =>
        simp only [List.map_cons, List.map_nil, List.cons.injEq, and_true] at hk
        obtain ⟨rfl, rfl, rfl, rfl⟩ := hk
        exact eq82 w _ _ _ _ _ _ _ _ _ _ _ _
  · cases h
    exact eqS (by rfl) (by rfl) (by kernel_rfl) w xs ys x y hl hk
  · cases h
    exact eqS (by rfl) (by rfl) (by kernel_rfl) w xs ys x y hl hk
  · cases h
end Go.Ab.Try
