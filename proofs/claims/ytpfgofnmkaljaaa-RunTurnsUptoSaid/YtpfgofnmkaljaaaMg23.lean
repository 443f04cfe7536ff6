/-
  Equality of structs of whole numbers, of any shape.
  A second reckoning: own slices cut beyond their length, copied into, taken together, filled with zeros.
-/
import Derived.Test.YtpfgofnmkaljaaaMg06
import Derived.Laws.StructEq
import Derived.Test.YtpfgofnmkaljaaaMg12
import Derived.Test.YtpfgofnmkaljaaaMg17
import Derived.Lib.AppendZerosOnto
set_option linter.unusedVariables false
set_option linter.unusedSimpArgs false
namespace Go.Ab
open Go Go.RowKit
def eqFs (g : TypeId → Option Nat) (tt : TT) : Nat → List Field → Option Nat
 | o, [] => some o
 | o, x :: r => if x.name ≠ "_" ∧ x.offset = o then
   match g x.type, tagg tt x.type with
   | some n, some (b, m) => if n = m then eqFs g tt (o + n) r else none
   | _, _ => none
  else none
def eqCells (L : List TypeId) (tt : TT) : Nat → TypeId → Option Nat
 | 0, _ => none
 | f + 1, t => match tdesc tt t with
  | some (.int _) => if tagg tt t = some (false, 1) then some 1 else none
  | some (.struct fs) => if t ∈ L then eqFs (eqCells L tt f) tt 0 fs.toList else none
  | _ => none
def vals (l : List (IntKind × Int)) : List Value := l.map fun p => Value.int p.1 p.2
def valIn (agg : Bool) (l : List (IntKind × Int)) : Value := bif agg then .agg (vals l).toArray else (vals l).headD undef
theorem tagg_desc {tt : TT} {t : TypeId} {d : TypeDesc} {b : Bool} {m : Nat} (hd : tdesc tt t = some d) (ha : tagg tt t = some (b, m)) : b = descAgg d := by
 unfold tdesc at hd
 unfold tagg at ha
 cases h : tt t with
 | none => rw [h] at hd; cases hd
 | some i =>
  rw [h] at hd ha
  simp only [Option.map_some, Option.some.injEq, Prod.mk.injEq] at hd ha
  rw [← ha.1, hd]
section
variable {P : Program} {tt : TT}
theorem part_run (htt : TtOk P tt) {t : TypeId} {b : Bool} {m o : Nat} {l : List (IntKind × Int)} (ha : tagg tt t = some (b, m)) (hb : b = false → m = 1) (ho : o + m ≤ l.length) (w : World) :
  (part t (vals l).toArray o).run P w = .ok (valIn b ((l.drop o).take m)) w := by
 obtain ⟨h1, h2⟩ := htt.agg ha w
 unfold part
 rw [Sem.run_bind, h1, Result.andThen_ok]
 cases b with
 | true =>
  simp only [if_true, Sem.run_bind, h2, Result.andThen_ok, Sem.run_pure, valIn, cond_true]
  congr 2
  simp only [vals, List.extract_toArray, List.extract_eq_take_drop, List.map_take, List.map_drop]
  congr 2
  omega
 | false =>
  have hm := hb rfl
  subst hm
  have hlt : o < l.length := by omega
  simp only [Bool.false_eq_true, if_false, List.getElem?_toArray, valIn, cond_false]
  have e1 : (vals l)[o]? = some (.int l[o].1 l[o].2) := by simp [vals, hlt]
  have e2 : (l.drop o).take 1 = [l[o]] := by rw [List.drop_eq_getElem_cons hlt]; rfl
  rw [e1, e2]
  rfl
theorem drop_split {α β : Type} [DecidableEq β] (f : α → β) (as bs : List α) (o m : Nat) :
  decide ((as.drop o).map f = (bs.drop o).map f) = (decide (((as.drop o).take m).map f = ((bs.drop o).take m).map f) && decide ((as.drop (o + m)).map f = (bs.drop (o + m)).map f)) := by
 rw [Bool.eq_iff_iff]
 simp only [Bool.and_eq_true, decide_eq_true_eq]
 rw [← List.drop_drop, ← List.drop_drop]
 constructor
 ·intro h
  refine ⟨?_, ?_⟩
  ·rw [List.map_take, List.map_take, h]
  ·have := congrArg (List.drop m) h
   rwa [← List.map_drop, ← List.map_drop] at this
 ·rintro ⟨h1, h2⟩
  rw [← List.take_append_drop m (as.drop o), ← List.take_append_drop m (bs.drop o), List.map_append, List.map_append, h1, h2]
def EqIn (P : Program) (tt : TT) (d : Nat) (t : TypeId) (n : Nat) : Prop := ∀ (w : World) (b : Bool) (as bs : List (IntKind × Int)), tagg tt t = some (b, n) → as.length = n → as.map (·.1) = bs.map (·.1) →
 (Op.equalIn d t (valIn b as) (valIn b bs)).run P w = .ok (decide (as.map (·.2) = bs.map (·.2))) w
theorem eqFs_run (htt : TtOk P tt) {g : TypeId → Option Nat} {d : Nat} (hg : ∀ t n, g t = some n → EqIn P tt d t n) (h1 : ∀ t n m, g t = some n → tagg tt t = some (false, m) → m = 1) :
  ∀ (fs : List Field) (o n : Nat), eqFs g tt o fs = some n → ∀ (w : World) (as bs : List (IntKind × Int)), as.length = n → as.map (·.1) = bs.map (·.1) → o ≤ n ∧
   (Op.eqFields d (vals as).toArray (vals bs).toArray fs).run P w = .ok (decide ((as.drop o).map (·.2) = (bs.drop o).map (·.2))) w
 | [], o, n, h, w, as, bs, hl, hk => by
  simp only [eqFs, Option.some.injEq] at h
  subst h
  have hlb : bs.length = as.length := by have := congrArg List.length hk; simpa using this.symm
  refine ⟨Nat.le_refl _, ?_⟩
  rw [List.drop_of_length_le (Nat.le_of_eq hl), List.drop_of_length_le (Nat.le_of_eq (hlb.trans hl))]
  rfl
 | x :: r, o, n, h, w, as, bs, hl, hk => by
  have hlb : bs.length = as.length := by have := congrArg List.length hk; simpa using this.symm
  simp only [eqFs] at h
  split at h
  ·rename_i hx
   split at h
   ·rename_i m b m' hgm hta
    split at h
    ·rename_i hmm
     subst hmm
     obtain ⟨hle, ih⟩ := eqFs_run htt hg h1 r (o + m) n h w as bs hl hk
     refine ⟨by omega, ?_⟩
     have hb1 : b = false → m = 1 := fun hb => h1 _ _ _ hgm (by rw [hta, hb])
     have p1 := part_run (o := o) htt hta hb1 (by omega : o + m ≤ as.length) w
     have p2 := part_run (o := o) htt hta hb1 (by omega : o + m ≤ bs.length) w
     have q := hg _ _ hgm w b ((as.drop o).take m) ((bs.drop o).take m) hta (by rw [List.length_take, List.length_drop]; omega)
      (by rw [List.map_take, List.map_take, List.map_drop, List.map_drop, hk])
     simp only [Op.eqFields, hx.1, hx.2, ne_eq, not_false_eq_true, if_true, Sem.run_bind, p1, p2, Result.andThen_ok, q]
     rw [drop_split _ as bs o m]
     cases hd : decide (((as.drop o).take m).map (·.2) = ((bs.drop o).take m).map (·.2)) with
     | true =>
      simp only [Bool.not_true, Bool.false_eq_true, if_false, Bool.true_and]
      exact ih
     | false =>
      simp only [Bool.not_false, if_true, Bool.false_and]
      rfl
    ·cases h
   ·cases h
  ·cases h
theorem eqCells_run (htt : TtOk P tt) (L : List TypeId) (hL : ∀ t ∈ L, P.stoodInHeld t = false) : ∀ (f : Nat) (t : TypeId) (n : Nat), eqCells L tt f t = some n → ∀ d, f ≤ d → EqIn P tt d t n
 | 0, t, n, h => by cases h
 | f + 1, t, n, h => by
  intro d hd w b as bs hta hl hk
  obtain ⟨d, rfl⟩ : ∃ d', d = d' + 1 := ⟨d - 1, by omega⟩
  simp only [eqCells] at h
  split at h
  ·rename_i k hdk
   split at h
   case isFalse => cases h
   cases h
   have hb := tagg_desc hdk hta
   subst hb
   obtain ⟨p, rfl⟩ : ∃ p, as = [p] := by
    match as, hl with
    | [p], _ => exact ⟨p, rfl⟩
   obtain ⟨q, rfl⟩ : ∃ q, bs = [q] := by
    have := congrArg List.length hk
    match bs, this with
    | [q], _ => exact ⟨q, rfl⟩
   obtain ⟨pk, pa⟩ := p
   obtain ⟨qk, qa⟩ := q
   simp only [List.map_cons, List.map_nil, List.cons.injEq, and_true] at hk
   subst hk
   have hu : P.underlying t = some (.int k) := by
    unfold tdesc at hdk
    cases ht : tt t with
    | none => rw [ht] at hdk; cases hdk
    | some i =>
     rw [ht] at hdk
     have := (htt t i ht).1
     simp only [Option.map_some, Option.some.injEq] at hdk
     rw [this, hdk]
   show (Op.equalIn (d + 1) t (.int pk pa) (.int pk qa)).run P w = _
   rw [run_equalIn_int w d t pk k pa qa hu]
   congr 1
   rw [Bool.eq_iff_iff]
   simp
  ·rename_i fs hdk
   split at h
   ·rename_i htL
    have hb := tagg_desc hdk hta
    subst hb
    have hu : P.underlying t = some (.struct fs) := by
     unfold tdesc at hdk
     cases ht : tt t with
     | none => rw [ht] at hdk; cases hdk
     | some i =>
      rw [ht] at hdk
      have := (htt t i ht).1
      simp only [Option.map_some, Option.some.injEq] at hdk
      rw [this, hdk]
    have hf : P.fieldsOf t = fs := by unfold Program.fieldsOf; rw [hu]
    show (Op.equalIn (d + 1) t (.agg (vals as).toArray) (.agg (vals bs).toArray)).run P w = _
    rw [run_equalIn_struct w d t _ _ (by rw [hf]; exact hu) (hL t htL), hf]
    refine ((eqFs_run htt (d := d) (fun t' n' h' => eqCells_run htt L hL f t' n' h' d (by omega)) ?_ fs.toList 0 n h w as bs hl hk).2).trans rfl
    intro t' n' m' h' ha'
    cases f with
    | zero => cases h'
    | succ f' =>
     simp only [eqCells] at h'
     split at h'
     ·rename_i k' hk'
      split at h'
      ·rename_i h1
       rw [ha'] at h1
       simpa using h1
      ·cases h'
     ·rename_i fs' hk'
      exact absurd (tagg_desc hk' ha') (by simp [descAgg])
     ·cases h'
   ·cases h
  ·cases h
end
end Go.Ab

set_option linter.unusedVariables false
set_option linter.unusedSimpArgs false
namespace Go.Ab
open Go Go.RowKit
theorem splice_get {α : Type} (l m : List α) (p : Nat) (h : p ≤ l.length) (i : Nat) : (l.take p ++ m ++ l.drop (p + m.length))[i]? = if p ≤ i ∧ i < p + m.length then m[i - p]? else l[i]? := by
 rw [List.append_assoc, List.getElem?_append, List.length_take, List.getElem?_append, List.getElem?_take, List.getElem?_drop, Nat.min_eq_left h]
 by_cases h1 : i < p
 ·rw [if_pos h1, if_pos h1, if_neg (by omega)]
 ·rw [if_neg h1]
  by_cases h2 : i - p < m.length
  ·rw [if_pos h2, if_pos (by omega)]
  ·rw [if_neg h2, if_neg (by omega)]
   congr 1
   omega
section
variable {P : Program} {tt : TT} {A : Nat → Prop} {ι : Pl} {w : World}
structure Row (A : Nat → Prop) (ι : Pl) (w : World) (b k : Nat) (es : List (List CV)) (ty : TypeId) (g cap : Nat) (cur : List Value) : Prop where
 lies : ι b = some (.at g cap)
 hp : w.heap[g]? = some (.cells cur.toArray ty (0, 0))
 len : cur.length = cap * k
 le : es.length ≤ cap
 mx : cap ≤ maxLen
 ek : ∀ (i : Nat) e, es[i]? = some e → e.length = k
 rep : ∀ (i : Nat) (e : List CV) (j : Nat) (u : CV) (x : Value), es[i]? = some e → e[j]? = some u → cur[i * k + j]? = some x → CRep (Still A ι w) w u x
theorem row_of {b k : Nat} {es : List (List CV)} {ty : TypeId} {g cap : Nat} (hb : BlkRep (Still A ι w) ι w b (.acc k es ty)) (hι : ι b = some (.at g cap)) : ∃ cur, Row A ι w b k es ty g cap cur := by
 cases hb with
 | accNil _ _ h => rw [hι] at h; cases h
 | acc _ _ _ g' cap' cur h1 h2 h3 h4 h5 h6 h8 =>
  rw [hι] at h1
  simp only [Option.some.injEq, Plc.at.injEq] at h1
  obtain ⟨rfl, rfl⟩ := h1
  exact ⟨cur, hι, h2, h3, h4, h5, h6, h8⟩
theorem Row.write {b k : Nat} {es : List (List CV)} {ty : TypeId} {g cap : Nat} {cur : List Value} (R : Row A ι w b k es ty g cap cur) (hok : Ok ι w) (p : Nat) (ns : List (List CV)) (hp : p ≤ es.length) (hc : p + ns.length ≤ cap) (hkn : ∀ u ∈ ns, u.length = k)
  (vs : List Value) (hvl : vs.length = ns.length * k) (hvr : ∀ (i : Nat) (e : List CV) (j : Nat) (u : CV) (x : Value), ns[i]? = some e → e[j]? = some u → vs[i * k + j]? = some x → CRep (Still A ι w) w u x) (wr kill : Nat → Prop) (hw : wr b) :
  StepR ι w ι (w.setRow g (cur.take (p * k) ++ vs ++ cur.drop (p * k + vs.length)).toArray) wr kill ∧
   BlkRep (Still A ι (w.setRow g (cur.take (p * k) ++ vs ++ cur.drop (p * k + vs.length)).toArray)) ι (w.setRow g (cur.take (p * k) ++ vs ++ cur.drop (p * k + vs.length)).toArray) b (.acc k (es.take p ++ ns ++ es.drop (p + ns.length)) ty) := by
 have hst := step_row hok R.lies (cur.take (p * k) ++ vs ++ cur.drop (p * k + vs.length)).toArray wr kill hw
 refine ⟨hst, ?_⟩
 have hle := R.le
 have hpk : p * k + ns.length * k ≤ cap * k := by rw [← Nat.add_mul]; exact Nat.mul_le_mul_right k hc
 have hlen := R.len
 refine mk_acc (g := g) (cap := cap) R.lies (setRow_heap w g _ _ ty (0, 0) R.hp) (by simp; omega) (by simp; omega) R.mx (fun u hu => ?_) fun i e j u x he hu hx => ?_
 ·rcases List.mem_append.1 hu with hu | hu
  ·rcases List.mem_append.1 hu with hu | hu
   ·obtain ⟨i, hi⟩ := List.getElem?_of_mem (List.mem_of_mem_take hu); exact R.ek i u hi
   ·exact hkn u hu
  ·obtain ⟨i, hi⟩ := List.getElem?_of_mem (List.mem_of_mem_drop hu); exact R.ek i u hi
 ·rw [splice_get _ _ _ hp] at he
  have hjk : e.length = k → j < k := fun h => by rw [← h]; exact (List.getElem?_eq_some_iff.1 hu).1
  rw [splice_get _ _ _ (by omega)] at hx
  rw [hvl] at hx
  split at he
  ·rename_i hin
   have hj := hjk (hkn e (List.mem_of_getElem? he))
   have e1 : i * k + j = p * k + ((i - p) * k + j) := by
    obtain ⟨d, rfl⟩ : ∃ d, i = p + d := ⟨i - p, by omega⟩
    rw [Nat.add_sub_cancel_left, Nat.add_mul]
    omega
   have h9 : (i - p + 1) * k ≤ ns.length * k := Nat.mul_le_mul_right k (by omega)
   rw [Nat.add_mul, Nat.one_mul] at h9
   rw [if_pos ⟨by omega, by omega⟩, e1, Nat.add_sub_cancel_left] at hx
   exact (hvr _ e j u x he hu hx).mono hst.still
  ·rename_i hin
   have hj := hjk (R.ek i e he)
   rw [if_neg] at hx
   ·exact (R.rep i e j u x he hu hx).mono hst.still
   ·rintro ⟨h1, h2⟩
    apply hin
    constructor
    ·apply Decidable.byContradiction
     intro hlt
     have h9 : (i + 1) * k ≤ p * k := Nat.mul_le_mul_right k (by omega)
     rw [Nat.add_mul, Nat.one_mul] at h9
     omega
    ·apply Decidable.byContradiction
     intro hge
     have h9 : (p + ns.length) * k ≤ i * k := Nat.mul_le_mul_right k (by omega)
     rw [Nat.add_mul] at h9
     omega
theorem src_view {heap : List (Nat × Blk)} (hh : ∀ b blk, look heap b = some blk → BlkRep (Still A ι w) ι w b blk) {b k off n c : Nat} {es : List (List CV)} {ty : TypeId} (hl : look heap b = some (.acc k es ty)) {x : Value} (hx : Rep (Still A ι w) ι w (.own b k off n) x)
  (hk0 : 0 < k) (hc0 : 0 < c) (hcn : c ≤ n) (hce : off + c ≤ es.length) (hek : ∀ u ∈ es, u.length = k) : ∃ (a : Addr) (cc : Nat) (f : Nat → Value), x = .slice (some a) n cc ∧ ((es.drop off).take c).length = c ∧ (∀ u ∈ (es.drop off).take c, u.length = k) ∧ (∀ q, q < c * k → w.cell? (a.add q) = some (f q)) ∧
   (∀ (i : Nat) e (j : Nat) u, ((es.drop off).take c)[i]? = some e → e[j]? = some u → CRep (Still A ι w) w u (f (i * k + j))) := by
 have hlen : ((es.drop off).take c).length = c := by rw [List.length_take, List.length_drop]; omega
 have hk' : ∀ u ∈ (es.drop off).take c, u.length = k := fun u hu => hek u (List.mem_of_mem_drop (List.mem_of_mem_take hu))
 cases hx with
 | ownNil => omega
 | own _ _ _ _ g cap a cc h1 h2 h3 h4 h5 =>
  have hv : Rep (Still A ι w) ι w (.own b k off c) (.slice (some a) c cc) := .own b k off c g cap a cc h1 h2 (fun _ => h3 (by omega)) (by omega) h5
  have hs : srcE heap (.own b k off c) = some (k = k ∧ off + c ≤ es.length, (es.drop off).take c) := by simp only [srcE, hl]
  rcases srcE_ok hh hs ⟨rfl, hce⟩ hv hk' hk0 with ⟨h, _⟩ | ⟨a', c', f, h, h6, h7⟩
  ·cases h
  ·rw [hlen] at h h6
   cases h
   exact ⟨a, cc, f, rfl, hlen, hk', h6, h7⟩
theorem run_copy_row (dT sT ty elem : TypeId) {k : Nat} {inf : TypeInfo} (hu : P.underlying dT = some (.slice elem)) (hi : P.info? elem = some inf) (hsz : inf.size = k) (g o dLen dCap : Nat) (a : Addr) (sLen sCap c : Nat) (hc : Nat.min sLen dLen = c) (news : List Value) (hlen : news.length = c * k)
  (hcells : ∀ (j : Nat) v, news[j]? = some v → w.cell? (a.add j) = some v) (hone : ∀ v ∈ news, v.oneCell' = true) (cur : List Value) (t : TypeId) (hg : w.heap[g]? = some (.cells cur.toArray t (0, 0))) (hfit : o + news.length ≤ cur.length) :
  (Builtin.copy_ #[dT, sT] ty #[.slice (some ⟨g, o, none⟩) dLen dCap, .slice (some a) sLen sCap]).run P w = .ok (goInt c) (w.setRow g (cur.take o ++ news ++ cur.drop (o + news.length)).toArray) := by
 have hl := run_loadCells_list (P := P) w a news hcells
 have hst := run_storeCells_at P g o t news 0 cur.toArray w hg (by simpa using hfit) hone
 simp only [Nat.add_zero, List.toList_toArray] at hst
 rw [hlen] at hl
 simp [Builtin.copy_, run_underlying hu, Builtin.lenOf, Builtin.firstCells, sizeOf, typeInfo, hi, hsz, hc, hl, hst]
end
def pinOf (q : Nat) (heap : List (Nat × Blk)) (b : Nat) : Option Nat :=
 match look heap q with
 | some (.fr _ [.pl b' (.at _ cap)]) => bif b' == b then some cap else none
 | _ => none
def spliceL (es : List (List CV)) (p : Nat) (ns : List (List CV)) : List (List CV) := es.take p ++ ns ++ es.drop (p + ns.length)
def copyE (heap : List (Nat × Blk)) (nxt : Nat) (d x : AV) : Option (Prop × Eff) :=
 match d, x with
 | .own b k off n, .own b' k' off' m => match look heap b, look heap b' with
  | some (.acc k1 es ty), some (.acc k2 es' _) => some (k1 = k ∧ k2 = k ∧ k' = k ∧ 0 < k ∧ 0 < min m n ∧ off ≤ es.length ∧ off' + min m n ≤ es'.length,
    ⟨some (.c (.val (.int .i64 (min m n : Nat)))), [(b, .acc k (spliceL es off ((es'.drop off').take (min m n))) ty)], [], nxt⟩)
  | _, _ => none
 | _, _ => none
def takeE (tt : TT) (heap : List (Nat × Blk)) (nxt : Nat) (t t' : TypeId) (s x : AV) : Option (Prop × Eff) :=
 match s, x with
 | .own b k 0 n, .own b' k' off' m => bif b' == b then match look heap b, tdesc tt t with
   | some (.acc k1 es ty), some (.slice e) => some (t = t' ∧ tsize tt e = some k ∧ k1 = k ∧ k' = k ∧ ty = e ∧ 0 < k ∧ n + m ≤ es.length ∧ off' + m ≤ es.length ∧ 0 < es.length,
     ⟨some (.own b k 0 (n + m)), [(b, .acc k (spliceL es n ((es.drop off').take m)) ty)], [], nxt⟩)
   | _, _ => none
  else none
 | _, _ => none
def zerosE (q : Nat) (tt : TT) (heap : List (Nat × Blk)) (nxt : Nat) (t t' : TypeId) (s x : AV) : Option (Prop × Eff) :=
 match s, x with
 | .own b k 0 n, .c (.val (.int kq c)) => match look heap b, tdesc tt t, tdesc tt t', pinOf q heap b with
  | some (.acc k1 es ty), some (.slice e), some (.int _), some cap => match tzero tt e, tbytes tt e, tsize tt e with
   | some z, some by_, some k2 => some (k1 = k ∧ k2 = k ∧ 0 < k ∧ 0 < c ∧ n ≤ es.length ∧ (cap : Int) < n + c ∧ (n + c) * by_ ≤ 140737488355328 ∧ n + c ≤ 4611686018427387904,
     ⟨some (.own nxt k 0 (n + c.toNat)), [(nxt, .acc k (es.take n ++ List.replicate c.toNat z) e)], [], nxt + 1⟩)
   | _, _, _ => none
  | _, _, _, _ => none
 | _, _ => none
def clearE (tt : TT) (heap : List (Nat × Blk)) (nxt : Nat) (t : TypeId) (x : AV) : Option (Prop × Eff) :=
 match x with
 | .own b k off n => match look heap b, tdesc tt t with
  | some (.acc k1 es ty), some (.slice e) => (tzero tt e).map fun z => (k1 = k ∧ tsize tt e = some k ∧ 0 < k ∧ 0 < n ∧ off + n ≤ es.length, ⟨some (.tup []), [(b, .acc k (spliceL es off (List.replicate n z)) ty)], [], nxt⟩)
  | _, _ => none
 | _ => none
def cutE (q : Nat) (tt : TT) (tmps : List (Nat × AV)) (heap : List (Nat × Blk)) (nxt : Nat) (t : TypeId) (x : AV) (lo : Option Operand) (h : Operand) : Option (Prop × Eff) :=
 match x, evT tmps h, (match lo with | none => some (0 : Int) | some l => match evT tmps l with | .c (.val (.int _ l)) => some l | _ => none) with
 | .own b k 0 n, .c (.val (.int _ hi)), some l => match look heap b, tdesc tt t with
  | some (.acc k1 es ty), some (.slice e) => some (k1 = k ∧ tsize tt e = some k ∧ 0 ≤ l ∧ l ≤ hi ∧ (hi ≤ es.length ∨ ∃ cap, pinOf q heap b = some cap ∧ hi ≤ cap) ∧ 0 < es.length, ⟨some (.own b k l.toNat (hi.toNat - l.toNat)), [], [], nxt⟩)
  | _, _ => none
 | _, _, _ => none
def moreE (q : Nat) (tt : TT) (tmps : List (Nat × AV)) (heap : List (Nat × Blk)) (nxt : Nat) (o : Oper) : Option (Prop × Eff) :=
 match o.op with
 | .slice t x lo (some h) none => cutE q tt tmps heap nxt t (evT tmps x) lo h
 | .slice t x (some l) (some h) (some m) => match evT tmps x, evT tmps l, evT tmps h, evT tmps m with
  | .own b k off n, .c (.val (.int _ l)), .c (.val (.int _ h)), .c (.val (.int _ m)) => match tdesc tt t with
   | some (.slice e) => some ((tsize tt e).isSome = true ∧ 0 ≤ l ∧ l ≤ h ∧ h ≤ m ∧ m ≤ n, ⟨some .top, [], [], nxt⟩)
   | _ => none
  | _, _, _, _ => none
 | .call { callee := .builtin .cap, args, argTypes } => match args.toList, argTypes.toList with
  | [x], [t] => match evT tmps x, tdesc tt t with
   | .own b k 0 n, some (.slice _) => (pinOf q heap b).map fun (cap : Nat) => (0 < n, ⟨some (.c (.val (.int .i64 (cap : Int)))), [], [], nxt⟩)
   | _, _ => none
  | _, _ => none
 | .call { callee := .builtin .copy, args, argTypes } => match args.toList, argTypes.toList with
  | [d, x], [t, _] => match tdesc tt t with
   | some (.slice e) => match evT tmps d with
    | .own _ k _ _ => (copyE heap nxt (evT tmps d) (evT tmps x)).map fun r => (tsize tt e = some k ∧ r.1, r.2)
    | _ => none
   | _ => none
  | _, _ => none
 | .call { callee := .builtin .append, args, argTypes } => match args.toList, argTypes.toList with
  | [s, x], [t, t'] => match takeE tt heap nxt t t' (evT tmps s) (evT tmps x) with
   | some r => some r
   | none => zerosE q tt heap nxt t t' (evT tmps s) (evT tmps x)
  | _, _ => none
 | .call { callee := .builtin .clear, args, argTypes } => match args.toList, argTypes.toList with
  | [x], [t] => clearE tt heap nxt t (evT tmps x)
  | _, _ => none
 | _ => none
def reckX (q : Nat) (eq : EQ) : Reck := fun tt tmps heap nxt o =>
 match moreE q tt tmps heap nxt o with
 | some r => some r
 | none => reckB eq tt tmps heap nxt o
end Go.Ab
