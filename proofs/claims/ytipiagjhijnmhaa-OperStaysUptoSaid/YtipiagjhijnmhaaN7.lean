/-
  A second reckoning: own slices cut beyond their length, copied into, taken together, filled with zeros.
-/
import Derived.Test.YtipiagjhijnmhaaB4
import Derived.Test.YtipiagjhijnmhaaN1
import Derived.Lib.AppendZerosOnto
set_option linter.unusedVariables false
set_option linter.unusedSimpArgs false
namespace Go.Ab
open Go Go.RowKit

theorem splice_get {α : Type} (l m : List α) (p : Nat) (h : p ≤ l.length) (i : Nat) : (l.take p ++ m ++ l.drop (p + m.length))[i]? = if p ≤ i ∧ i < p + m.length then m[i - p]? else l[i]? := by
  rw [List.append_assoc, List.getElem?_append, List.length_take, List.getElem?_append, List.getElem?_take, List.getElem?_drop, Nat.min_eq_left h]
  by_cases h1 : i < p
  · rw [if_pos h1, if_pos h1, if_neg (by omega)]
  · rw [if_neg h1]
    by_cases h2 : i - p < m.length
    · rw [if_pos h2, if_pos (by omega)]
    · rw [if_neg h2, if_neg (by omega)]
      congr 1
      omega

section
variable {P : Program} {tt : TT} {A : Nat → Prop} {ι : Pl} {w : World}

/-- An own slice's row. -/
structure Row (A : Nat → Prop) (ι : Pl) (w : World) (b k : Nat) (es : List (List CV)) (ty : TypeId) (g cap : Nat) (cur : List Value) : Prop where
  lies : ι b = some (.at g cap)
  hp : w.heap[g]? = some (.cells cur.toArray ty (0, 0))
  len : cur.length = cap * k
  le : es.length ≤ cap
  mx : cap ≤ maxLen
  ek : ∀ (i : Nat) e, es[i]? = some e → e.length = k
  rep : ∀ (i : Nat) (e : List CV) (j : Nat) (u : CV) (x : Value), es[i]? = some e → e[j]? = some u → cur[i * k + j]? = some x → CRep (Still A ι w) w u x

theorem row_of {b k : Nat} {es : List (List CV)} {ty : TypeId} {g cap : Nat} (hb : BlkRep (Still A ι w) ι w b (.acc k es ty)) (hι : ι b = some (.at g cap)) : ∃ cur, Row A ι w b k es ty g cap cur := by
  cases hb with
  | accNil _ _ h => rw [hι] at h; cases h
  | acc _ _ _ g' cap' cur h1 h2 h3 h4 h5 h6 h8 =>
    rw [hι] at h1
    simp only [Option.some.injEq, Plc.at.injEq] at h1
    obtain ⟨rfl, rfl⟩ := h1
    exact ⟨cur, hι, h2, h3, h4, h5, h6, h8⟩

theorem Row.write {b k : Nat} {es : List (List CV)} {ty : TypeId} {g cap : Nat} {cur : List Value} (R : Row A ι w b k es ty g cap cur) (hok : Ok ι w) (p : Nat) (ns : List (List CV)) (hp : p ≤ es.length) (hc : p + ns.length ≤ cap) (hkn : ∀ u ∈ ns, u.length = k)
    (vs : List Value) (hvl : vs.length = ns.length * k) (hvr : ∀ (i : Nat) (e : List CV) (j : Nat) (u : CV) (x : Value), ns[i]? = some e → e[j]? = some u → vs[i * k + j]? = some x → CRep (Still A ι w) w u x) (wr kill : Nat → Prop) (hw : wr b) :
    StepR ι w ι (w.setRow g (cur.take (p * k) ++ vs ++ cur.drop (p * k + vs.length)).toArray) wr kill ∧
      BlkRep (Still A ι (w.setRow g (cur.take (p * k) ++ vs ++ cur.drop (p * k + vs.length)).toArray)) ι (w.setRow g (cur.take (p * k) ++ vs ++ cur.drop (p * k + vs.length)).toArray) b (.acc k (es.take p ++ ns ++ es.drop (p + ns.length)) ty) := by
  have hst := step_row hok R.lies (cur.take (p * k) ++ vs ++ cur.drop (p * k + vs.length)).toArray wr kill hw
  refine ⟨hst, ?_⟩
  have hle := R.le
  have hpk : p * k + ns.length * k ≤ cap * k := by rw [← Nat.add_mul]; exact Nat.mul_le_mul_right k hc
  have hlen := R.len
  refine mk_acc (g := g) (cap := cap) R.lies (setRow_heap w g _ _ ty (0, 0) R.hp) (by simp; omega) (by simp; omega) R.mx (fun u hu => ?_) fun i e j u x he hu hx => ?_
  · rcases List.mem_append.1 hu with hu | hu
    · rcases List.mem_append.1 hu with hu | hu
      · obtain ⟨i, hi⟩ := List.getElem?_of_mem (List.mem_of_mem_take hu); exact R.ek i u hi
      · exact hkn u hu
    · obtain ⟨i, hi⟩ := List.getElem?_of_mem (List.mem_of_mem_drop hu); exact R.ek i u hi
  · rw [splice_get _ _ _ hp] at he
    have hjk : e.length = k → j < k := fun h => by rw [← h]; exact (List.getElem?_eq_some_iff.1 hu).1
    rw [splice_get _ _ _ (by omega)] at hx
    rw [hvl] at hx
    split at he
    · rename_i hin
      have hj := hjk (hkn e (List.mem_of_getElem? he))
      have e1 : i * k + j = p * k + ((i - p) * k + j) := by
        obtain ⟨d, rfl⟩ : ∃ d, i = p + d := ⟨i - p, by omega⟩
        rw [Nat.add_sub_cancel_left, Nat.add_mul]
        omega
      have h9 : (i - p + 1) * k ≤ ns.length * k := Nat.mul_le_mul_right k (by omega)
      rw [Nat.add_mul, Nat.one_mul] at h9
      rw [if_pos ⟨by omega, by omega⟩, e1, Nat.add_sub_cancel_left] at hx
      exact (hvr _ e j u x he hu hx).mono hst.still
    · rename_i hin
      have hj := hjk (R.ek i e he)
      rw [if_neg] at hx
      · exact (R.rep i e j u x he hu hx).mono hst.still
      · rintro ⟨h1, h2⟩
        apply hin
        constructor
        · apply Decidable.byContradiction
          intro hlt
          have h9 : (i + 1) * k ≤ p * k := Nat.mul_le_mul_right k (by omega)
          rw [Nat.add_mul, Nat.one_mul] at h9
          omega
        · apply Decidable.byContradiction
          intro hge
          have h9 : (p + ns.length) * k ≤ i * k := Nat.mul_le_mul_right k (by omega)
          rw [Nat.add_mul] at h9
          omega

/-- The first c elements of an own slice. -/
theorem src_view {heap : List (Nat × Blk)} (hh : ∀ b blk, look heap b = some blk → BlkRep (Still A ι w) ι w b blk) {b k off n c : Nat} {es : List (List CV)} {ty : TypeId} (hl : look heap b = some (.acc k es ty)) {x : Value} (hx : Rep (Still A ι w) ι w (.own b k off n) x)
    (hk0 : 0 < k) (hc0 : 0 < c) (hcn : c ≤ n) (hce : off + c ≤ es.length) (hek : ∀ u ∈ es, u.length = k) : ∃ (a : Addr) (cc : Nat) (f : Nat → Value), x = .slice (some a) n cc ∧ ((es.drop off).take c).length = c ∧ (∀ u ∈ (es.drop off).take c, u.length = k) ∧ (∀ q, q < c * k → w.cell? (a.add q) = some (f q)) ∧
      (∀ (i : Nat) e (j : Nat) u, ((es.drop off).take c)[i]? = some e → e[j]? = some u → CRep (Still A ι w) w u (f (i * k + j))) := by
  have hlen : ((es.drop off).take c).length = c := by rw [List.length_take, List.length_drop]; omega
  have hk' : ∀ u ∈ (es.drop off).take c, u.length = k := fun u hu => hek u (List.mem_of_mem_drop (List.mem_of_mem_take hu))
  cases hx with
  | ownNil => omega
  | own _ _ _ _ g cap a cc h1 h2 h3 h4 h5 =>
    have hv : Rep (Still A ι w) ι w (.own b k off c) (.slice (some a) c cc) := .own b k off c g cap a cc h1 h2 (fun _ => h3 (by omega)) (by omega) h5
    have hs : srcE heap (.own b k off c) = some (k = k ∧ off + c ≤ es.length, (es.drop off).take c) := by simp only [srcE, hl]
    rcases srcE_ok hh hs ⟨rfl, hce⟩ hv hk' hk0 with ⟨h, _⟩ | ⟨a', c', f, h, h6, h7⟩
    · cases h
    · rw [hlen] at h h6
      cases h
      exact ⟨a, cc, f, rfl, hlen, hk', h6, h7⟩

theorem run_copy_row (dT sT ty elem : TypeId) {k : Nat} {inf : TypeInfo} (hu : P.underlying dT = some (.slice elem)) (hi : P.info? elem = some inf) (hsz : inf.size = k) (g o dLen dCap : Nat) (a : Addr) (sLen sCap c : Nat) (hc : Nat.min sLen dLen = c) (news : List Value) (hlen : news.length = c * k)
    (hcells : ∀ (j : Nat) v, news[j]? = some v → w.cell? (a.add j) = some v) (hone : ∀ v ∈ news, v.oneCell' = true) (cur : List Value) (t : TypeId) (hg : w.heap[g]? = some (.cells cur.toArray t (0, 0))) (hfit : o + news.length ≤ cur.length) :
    (Builtin.copy_ #[dT, sT] ty #[.slice (some ⟨g, o, none⟩) dLen dCap, .slice (some a) sLen sCap]).run P w = .ok (goInt c) (w.setRow g (cur.take o ++ news ++ cur.drop (o + news.length)).toArray) := by
  have hl := run_loadCells_list (P := P) w a news hcells
  have hst := run_storeCells_at P g o t news 0 cur.toArray w hg (by simpa using hfit) hone
  simp only [Nat.add_zero, List.toList_toArray] at hst
  rw [hlen] at hl
  simp [Builtin.copy_, run_underlying hu, Builtin.lenOf, Builtin.firstCells, sizeOf, typeInfo, hi, hsz, hc, hl, hst]

end

/-! ### The reckoning -/
/-- A block's room, as a pin tells. -/
def pinOf (q : Nat) (heap : List (Nat × Blk)) (b : Nat) : Option Nat :=
  match look heap q with
  | some (.fr _ [.pl b' (.at _ cap)]) => bif b' == b then some cap else none
  | _ => none
def spliceL (es : List (List CV)) (p : Nat) (ns : List (List CV)) : List (List CV) := es.take p ++ ns ++ es.drop (p + ns.length)

def copyE (heap : List (Nat × Blk)) (nxt : Nat) (d x : AV) : Option (Prop × Eff) :=
  match d, x with
  | .own b k off n, .own b' k' off' m => match look heap b, look heap b' with
    | some (.acc k1 es ty), some (.acc k2 es' _) => some (k1 = k ∧ k2 = k ∧ k' = k ∧ 0 < k ∧ 0 < min m n ∧ off ≤ es.length ∧ off' + min m n ≤ es'.length,
        ⟨some (.c (.val (.int .i64 (min m n : Nat)))), [(b, .acc k (spliceL es off ((es'.drop off').take (min m n))) ty)], [], nxt⟩)
    | _, _ => none
  | _, _ => none
def takeE (tt : TT) (heap : List (Nat × Blk)) (nxt : Nat) (t t' : TypeId) (s x : AV) : Option (Prop × Eff) :=
  match s, x with
  | .own b k 0 n, .own b' k' off' m => bif b' == b then match look heap b, tdesc tt t with
      | some (.acc k1 es ty), some (.slice e) => some (t = t' ∧ tsize tt e = some k ∧ k1 = k ∧ k' = k ∧ ty = e ∧ 0 < k ∧ n + m ≤ es.length ∧ off' + m ≤ es.length ∧ 0 < es.length,
          ⟨some (.own b k 0 (n + m)), [(b, .acc k (spliceL es n ((es.drop off').take m)) ty)], [], nxt⟩)
      | _, _ => none
    else none
  | _, _ => none
def zerosE (q : Nat) (tt : TT) (heap : List (Nat × Blk)) (nxt : Nat) (t t' : TypeId) (s x : AV) : Option (Prop × Eff) :=
  match s, x with
  | .own b k 0 n, .c (.val (.int kq c)) => match look heap b, tdesc tt t, tdesc tt t', pinOf q heap b with
    | some (.acc k1 es ty), some (.slice e), some (.int _), some cap => match tzero tt e, tbytes tt e, tsize tt e with
      | some z, some by_, some k2 => some (k1 = k ∧ k2 = k ∧ 0 < k ∧ 0 < c ∧ n ≤ es.length ∧ (cap : Int) < n + c ∧ (n + c) * by_ ≤ 140737488355328 ∧ n + c ≤ 4611686018427387904,
          ⟨some (.own nxt k 0 (n + c.toNat)), [(nxt, .acc k (es.take n ++ List.replicate c.toNat z) e)], [], nxt + 1⟩)
      | _, _, _ => none
    | _, _, _, _ => none
  | _, _ => none
def clearE (tt : TT) (heap : List (Nat × Blk)) (nxt : Nat) (t : TypeId) (x : AV) : Option (Prop × Eff) :=
  match x with
  | .own b k off n => match look heap b, tdesc tt t with
    | some (.acc k1 es ty), some (.slice e) => (tzero tt e).map fun z => (k1 = k ∧ tsize tt e = some k ∧ 0 < k ∧ 0 < n ∧ off + n ≤ es.length, ⟨some (.tup []), [(b, .acc k (spliceL es off (List.replicate n z)) ty)], [], nxt⟩)
    | _, _ => none
  | _ => none
def cutE (q : Nat) (tt : TT) (tmps : List (Nat × AV)) (heap : List (Nat × Blk)) (nxt : Nat) (t : TypeId) (x : AV) (lo : Option Operand) (h : Operand) : Option (Prop × Eff) :=
  match x, evT tmps h, (match lo with | none => some (0 : Int) | some l => match evT tmps l with | .c (.val (.int _ l)) => some l | _ => none) with
  | .own b k 0 n, .c (.val (.int _ hi)), some l => match look heap b, tdesc tt t with
    | some (.acc k1 es ty), some (.slice e) => some (k1 = k ∧ tsize tt e = some k ∧ 0 ≤ l ∧ l ≤ hi ∧ (hi ≤ es.length ∨ ∃ cap, pinOf q heap b = some cap ∧ hi ≤ cap) ∧ 0 < es.length, ⟨some (.own b k l.toNat (hi.toNat - l.toNat)), [], [], nxt⟩)
    | _, _ => none
  | _, _, _ => none
def moreE (q : Nat) (tt : TT) (tmps : List (Nat × AV)) (heap : List (Nat × Blk)) (nxt : Nat) (o : Oper) : Option (Prop × Eff) :=
  match o.op with
  | .slice t x lo (some h) none => cutE q tt tmps heap nxt t (evT tmps x) lo h
  | .slice t x (some l) (some h) (some m) => match evT tmps x, evT tmps l, evT tmps h, evT tmps m with
    | .own b k off n, .c (.val (.int _ l)), .c (.val (.int _ h)), .c (.val (.int _ m)) => match tdesc tt t with
      | some (.slice e) => some ((tsize tt e).isSome = true ∧ 0 ≤ l ∧ l ≤ h ∧ h ≤ m ∧ m ≤ n, ⟨some .top, [], [], nxt⟩)
      | _ => none
    | _, _, _, _ => none
  | .call { callee := .builtin .cap, args, argTypes } => match args.toList, argTypes.toList with
    | [x], [t] => match evT tmps x, tdesc tt t with
      | .own b k 0 n, some (.slice _) => (pinOf q heap b).map fun (cap : Nat) => (0 < n, ⟨some (.c (.val (.int .i64 (cap : Int)))), [], [], nxt⟩)
      | _, _ => none
    | _, _ => none
  | .call { callee := .builtin .copy, args, argTypes } => match args.toList, argTypes.toList with
    | [d, x], [t, _] => match tdesc tt t with
      | some (.slice e) => match evT tmps d with
        | .own _ k _ _ => (copyE heap nxt (evT tmps d) (evT tmps x)).map fun r => (tsize tt e = some k ∧ r.1, r.2)
        | _ => none
      | _ => none
    | _, _ => none
  | .call { callee := .builtin .append, args, argTypes } => match args.toList, argTypes.toList with
    | [s, x], [t, t'] => match takeE tt heap nxt t t' (evT tmps s) (evT tmps x) with
      | some r => some r
      | none => zerosE q tt heap nxt t t' (evT tmps s) (evT tmps x)
    | _, _ => none
  | .call { callee := .builtin .clear, args, argTypes } => match args.toList, argTypes.toList with
    | [x], [t] => clearE tt heap nxt t (evT tmps x)
    | _, _ => none
  | _ => none
def reckX (q : Nat) (eq : EQ) : Reck := fun tt tmps heap nxt o =>
  match moreE q tt tmps heap nxt o with
  | some r => some r
  | none => reckB eq tt tmps heap nxt o
end Go.Ab
