/-
  Equality of structs of whole numbers, of any shape.
-/
import Derived.Test.YtipiagjhijnmhaaA5
import Derived.Laws.StructEq
set_option linter.unusedVariables false
set_option linter.unusedSimpArgs false
namespace Go.Ab
open Go Go.RowKit

def eqFs (g : TypeId → Option Nat) (tt : TT) : Nat → List Field → Option Nat
  | o, [] => some o
  | o, x :: r => if x.name ≠ "_" ∧ x.offset = o then
      match g x.type, tagg tt x.type with
      | some n, some (b, m) => if n = m then eqFs g tt (o + n) r else none
      | _, _ => none
    else none
/-- How many whole numbers a type is of; its structs are among L. -/
def eqCells (L : List TypeId) (tt : TT) : Nat → TypeId → Option Nat
  | 0, _ => none
  | f + 1, t => match tdesc tt t with
    | some (.int _) => if tagg tt t = some (false, 1) then some 1 else none
    | some (.struct fs) => if t ∈ L then eqFs (eqCells L tt f) tt 0 fs.toList else none
    | _ => none
def vals (l : List (IntKind × Int)) : List Value := l.map fun p => Value.int p.1 p.2
def valIn (agg : Bool) (l : List (IntKind × Int)) : Value := bif agg then .agg (vals l).toArray else (vals l).headD undef

theorem tagg_desc {tt : TT} {t : TypeId} {d : TypeDesc} {b : Bool} {m : Nat} (hd : tdesc tt t = some d) (ha : tagg tt t = some (b, m)) : b = descAgg d := by
  unfold tdesc at hd
  unfold tagg at ha
  cases h : tt t with
  | none => rw [h] at hd; cases hd
  | some i =>
    rw [h] at hd ha
    simp only [Option.map_some, Option.some.injEq, Prod.mk.injEq] at hd ha
    rw [← ha.1, hd]

section
variable {P : Program} {tt : TT}
theorem part_run (htt : TtOk P tt) {t : TypeId} {b : Bool} {m o : Nat} {l : List (IntKind × Int)} (ha : tagg tt t = some (b, m)) (hb : b = false → m = 1) (ho : o + m ≤ l.length) (w : World) :
    (part t (vals l).toArray o).run P w = .ok (valIn b ((l.drop o).take m)) w := by
  obtain ⟨h1, h2⟩ := htt.agg ha w
  unfold part
  rw [Sem.run_bind, h1, Result.andThen_ok]
  cases b with
  | true =>
    simp only [if_true, Sem.run_bind, h2, Result.andThen_ok, Sem.run_pure, valIn, cond_true]
    congr 2
    simp only [vals, List.extract_toArray, List.extract_eq_take_drop, List.map_take, List.map_drop]
    congr 2
    omega
  | false =>
    have hm := hb rfl
    subst hm
    have hlt : o < l.length := by omega
    simp only [Bool.false_eq_true, if_false, List.getElem?_toArray, valIn, cond_false]
    have e1 : (vals l)[o]? = some (.int l[o].1 l[o].2) := by simp [vals, hlt]
    have e2 : (l.drop o).take 1 = [l[o]] := by rw [List.drop_eq_getElem_cons hlt]; rfl
    rw [e1, e2]
    rfl

theorem drop_split {α β : Type} [DecidableEq β] (f : α → β) (as bs : List α) (o m : Nat) :
    decide ((as.drop o).map f = (bs.drop o).map f) = (decide (((as.drop o).take m).map f = ((bs.drop o).take m).map f) && decide ((as.drop (o + m)).map f = (bs.drop (o + m)).map f)) := by
  rw [Bool.eq_iff_iff]
  simp only [Bool.and_eq_true, decide_eq_true_eq]
  rw [← List.drop_drop, ← List.drop_drop]
  constructor
  · intro h
    refine ⟨?_, ?_⟩
    · rw [List.map_take, List.map_take, h]
    · have := congrArg (List.drop m) h
      rwa [← List.map_drop, ← List.map_drop] at this
  · rintro ⟨h1, h2⟩
    rw [← List.take_append_drop m (as.drop o), ← List.take_append_drop m (bs.drop o), List.map_append, List.map_append, h1, h2]

/-- What is asked of the parts. -/
def EqIn (P : Program) (tt : TT) (d : Nat) (t : TypeId) (n : Nat) : Prop := ∀ (w : World) (b : Bool) (as bs : List (IntKind × Int)), tagg tt t = some (b, n) → as.length = n → as.map (·.1) = bs.map (·.1) →
  (Op.equalIn d t (valIn b as) (valIn b bs)).run P w = .ok (decide (as.map (·.2) = bs.map (·.2))) w

theorem eqFs_run (htt : TtOk P tt) {g : TypeId → Option Nat} {d : Nat} (hg : ∀ t n, g t = some n → EqIn P tt d t n) (h1 : ∀ t n m, g t = some n → tagg tt t = some (false, m) → m = 1) :
    ∀ (fs : List Field) (o n : Nat), eqFs g tt o fs = some n → ∀ (w : World) (as bs : List (IntKind × Int)), as.length = n → as.map (·.1) = bs.map (·.1) → o ≤ n ∧
      (Op.eqFields d (vals as).toArray (vals bs).toArray fs).run P w = .ok (decide ((as.drop o).map (·.2) = (bs.drop o).map (·.2))) w
  | [], o, n, h, w, as, bs, hl, hk => by
    simp only [eqFs, Option.some.injEq] at h
    subst h
    have hlb : bs.length = as.length := by have := congrArg List.length hk; simpa using this.symm
    refine ⟨Nat.le_refl _, ?_⟩
    rw [List.drop_of_length_le (Nat.le_of_eq hl), List.drop_of_length_le (Nat.le_of_eq (hlb.trans hl))]
    rfl
  | x :: r, o, n, h, w, as, bs, hl, hk => by
    have hlb : bs.length = as.length := by have := congrArg List.length hk; simpa using this.symm
    simp only [eqFs] at h
    split at h
    · rename_i hx
      split at h
      · rename_i m b m' hgm hta
        split at h
        · rename_i hmm
          subst hmm
          obtain ⟨hle, ih⟩ := eqFs_run htt hg h1 r (o + m) n h w as bs hl hk
          refine ⟨by omega, ?_⟩
          have hb1 : b = false → m = 1 := fun hb => h1 _ _ _ hgm (by rw [hta, hb])
          have p1 := part_run (o := o) htt hta hb1 (by omega : o + m ≤ as.length) w
          have p2 := part_run (o := o) htt hta hb1 (by omega : o + m ≤ bs.length) w
          have q := hg _ _ hgm w b ((as.drop o).take m) ((bs.drop o).take m) hta (by rw [List.length_take, List.length_drop]; omega)
            (by rw [List.map_take, List.map_take, List.map_drop, List.map_drop, hk])
          simp only [Op.eqFields, hx.1, hx.2, ne_eq, not_false_eq_true, if_true, Sem.run_bind, p1, p2, Result.andThen_ok, q]
          rw [drop_split _ as bs o m]
          cases hd : decide (((as.drop o).take m).map (·.2) = ((bs.drop o).take m).map (·.2)) with
          | true =>
            simp only [Bool.not_true, Bool.false_eq_true, if_false, Bool.true_and]
            exact ih
          | false =>
            simp only [Bool.not_false, if_true, Bool.false_and]
            rfl
        · cases h
      · cases h
    · cases h

theorem eqCells_run (htt : TtOk P tt) (L : List TypeId) (hL : ∀ t ∈ L, P.stoodInHeld t = false) : ∀ (f : Nat) (t : TypeId) (n : Nat), eqCells L tt f t = some n → ∀ d, f ≤ d → EqIn P tt d t n
  | 0, t, n, h => by cases h
  | f + 1, t, n, h => by
    intro d hd w b as bs hta hl hk
    obtain ⟨d, rfl⟩ : ∃ d', d = d' + 1 := ⟨d - 1, by omega⟩
    simp only [eqCells] at h
    split at h
    · rename_i k hdk
      split at h
      case isFalse => cases h
      cases h
      have hb := tagg_desc hdk hta
      subst hb
      obtain ⟨p, rfl⟩ : ∃ p, as = [p] := by
        match as, hl with
        | [p], _ => exact ⟨p, rfl⟩
      obtain ⟨q, rfl⟩ : ∃ q, bs = [q] := by
        have := congrArg List.length hk
        match bs, this with
        | [q], _ => exact ⟨q, rfl⟩
      obtain ⟨pk, pa⟩ := p
      obtain ⟨qk, qa⟩ := q
      simp only [List.map_cons, List.map_nil, List.cons.injEq, and_true] at hk
      subst hk
      have hu : P.underlying t = some (.int k) := by
        unfold tdesc at hdk
        cases ht : tt t with
        | none => rw [ht] at hdk; cases hdk
        | some i =>
          rw [ht] at hdk
          have := (htt t i ht).1
          simp only [Option.map_some, Option.some.injEq] at hdk
          rw [this, hdk]
      show (Op.equalIn (d + 1) t (.int pk pa) (.int pk qa)).run P w = _
      rw [run_equalIn_int w d t pk k pa qa hu]
      congr 1
      rw [Bool.eq_iff_iff]
      simp
    · rename_i fs hdk
      split at h
      · rename_i htL
        have hb := tagg_desc hdk hta
        subst hb
        have hu : P.underlying t = some (.struct fs) := by
          unfold tdesc at hdk
          cases ht : tt t with
          | none => rw [ht] at hdk; cases hdk
          | some i =>
            rw [ht] at hdk
            have := (htt t i ht).1
            simp only [Option.map_some, Option.some.injEq] at hdk
            rw [this, hdk]
        have hf : P.fieldsOf t = fs := by unfold Program.fieldsOf; rw [hu]
        show (Op.equalIn (d + 1) t (.agg (vals as).toArray) (.agg (vals bs).toArray)).run P w = _
        rw [run_equalIn_struct w d t _ _ (by rw [hf]; exact hu) (hL t htL), hf]
        refine ((eqFs_run htt (d := d) (fun t' n' h' => eqCells_run htt L hL f t' n' h' d (by omega)) ?_ fs.toList 0 n h w as bs hl hk).2).trans rfl
        intro t' n' m' h' ha'
        cases f with
        | zero => cases h'
        | succ f' =>
          simp only [eqCells] at h'
          split at h'
          · rename_i k' hk'
            split at h'
            · rename_i h1
              rw [ha'] at h1
              simpa using h1
            · cases h'
          · rename_i fs' hk'
            exact absurd (tagg_desc hk' ha') (by simp [descAgg])
          · cases h'
      · cases h
    · cases h
end
end Go.Ab
