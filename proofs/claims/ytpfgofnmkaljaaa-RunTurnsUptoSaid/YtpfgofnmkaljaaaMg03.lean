/-
  What operations that only look come to, told by values; each is right.
-/
import Derived.Test.YtpfgofnmkaljaaaMg02
set_option linter.unusedVariables false
set_option linter.unusedSimpArgs false
namespace Go.Ab
open Go
def bitsV (k : IntKind) (r : BitVec k.bits) : Value := .int k (k.wrap r.toNat)
def binInt (op : BinOp) (k : IntKind) (a b : Int) : Option (Prop × Value) :=
 match op with
 | .add => some (True, .int k (k.wrap (a + b)))
 | .sub => some (True, .int k (k.wrap (a - b)))
 | .mul => some (True, .int k (k.wrap (a * b)))
 | .quo => some (b ≠ 0, .int k (k.wrap (a.tdiv b)))
 | .rem => some (b ≠ 0, .int k (a.tmod b))
 | .and => some (True, bitsV k (BitVec.ofInt k.bits a &&& BitVec.ofInt k.bits b))
 | .or => some (True, bitsV k (BitVec.ofInt k.bits a ||| BitVec.ofInt k.bits b))
 | .xor => some (True, bitsV k (BitVec.ofInt k.bits a ^^^ BitVec.ofInt k.bits b))
 | .andNot => some (True, bitsV k (BitVec.ofInt k.bits a &&& ~~~ BitVec.ofInt k.bits b))
 | .eql => some (True, .bool (a == b))
 | .neq => some (True, .bool (a != b))
 | .lss => some (True, .bool (decide (a < b)))
 | .leq => some (True, .bool (decide (a ≤ b)))
 | .gtr => some (True, .bool (decide (a > b)))
 | .geq => some (True, .bool (decide (a ≥ b)))
 | .shl => some (0 ≤ b, .int k (k.wrap (a * 2 ^ (min b.toNat k.bits))))
 | .shr => some (0 ≤ b, .int k (a.fdiv (2 ^ (min b.toNat k.bits))))
def isShift : BinOp → Bool
 | .shl | .shr => true
 | _ => false
theorem binInt_run {P : Program} {w : World} {op : BinOp} {k k' : IntKind} {a b : Int} {vc : Prop} {v : Value} {t : TypeId} {x y : Operand} (h : binInt op k a b = some (vc, v)) (hvc : vc) (hk : k = k' ∨ isShift op = true) :
  ((do eqGuard op t x y (.int k a) (.int k' b); binOp op t (.int k a) (.int k' b) : Sem Value)).run P w = .ok v w := by
 have hg : (eqGuard op t x y (.int k a) (.int k' b)).run P w = .ok () w := by
  unfold eqGuard
  cases op <;> rfl
 rw [Sem.run_bind, hg, Result.andThen_ok]
 cases hs : isShift op with
 | true =>
  cases op <;> simp only [isShift] at hs <;> (try (cases hs; done)) <;> simp only [binInt, Option.some.injEq, Prod.mk.injEq] at h <;> obtain ⟨rfl, rfl⟩ := h <;>
   simp only [binOp, Op.shift] <;> rw [if_neg (Int.not_lt.2 hvc)] <;> rfl
 | false =>
  have hk' : k = k' := hk.resolve_right (by simp [hs])
  subst hk'
  cases op <;> simp only [isShift] at hs <;> (try (cases hs; done)) <;> simp only [binInt, Option.some.injEq, Prod.mk.injEq] at h <;> obtain ⟨rfl, rfl⟩ := h <;>
   simp only [binOp, ne_eq, not_true_eq_false, if_false, Op.intArith, Op.intCmp, Op.intBits, Op.intDiv, bitsV] <;> (try rw [if_neg hvc]) <;> rfl
def valOf : AV → Option Value
 | .c (.val x) => some x
 | _ => none
theorem Rep.valOf {I : Nat → Prop} {ι : Pl} {w : World} {av : AV} {x v : Value} (h : Rep I ι w av v) (ha : valOf av = some x) : v = x := by
 cases h <;> simp [Ab.valOf] at ha
 rename_i hu
 cases hu <;> simp_all
abbrev One (av : AV) : Option (Prop × AV) := some (True, av)
def tdesc (tt : TT) (t : TypeId) : Option TypeDesc := (tt t).map (·.desc)
def tsize (tt : TT) (t : TypeId) : Option Nat := (tt t).map (·.size)
def tbytes (tt : TT) (t : TypeId) : Option Nat := (tt t).map (·.bytes)
def tzero (tt : TT) (t : TypeId) : Option (List CV) := (tt t).map (·.zero)
def descAgg : TypeDesc → Bool
 | .struct _ | .array _ _ => true
 | _ => false
def tagg (tt : TT) (t : TypeId) : Option (Bool × Nat) := (tt t).map fun i => (descAgg i.desc, i.size)
section
variable {P : Program} {tt : TT}
theorem TtOk.desc (h : TtOk P tt) {t : TypeId} {d : TypeDesc} (hd : tdesc tt t = some d) (w : World) : (underlying t).run P w = .ok d w := by
 unfold tdesc at hd
 cases ht : tt t with
 | none => simp [ht] at hd
 | some i => simp [ht] at hd; subst hd; exact run_underlying (h t i ht).1 w
theorem TtOk.size (h : TtOk P tt) {t : TypeId} {n : Nat} (hd : tsize tt t = some n) (w : World) : (sizeOf t).run P w = .ok n w := by
 unfold tsize at hd
 cases ht : tt t with
 | none => simp [ht] at hd
 | some i =>
  simp [ht] at hd
  subst hd
  obtain ⟨_, _, _, inf, hi, hs, _⟩ := h t i ht
  simp [sizeOf, typeInfo, hi, hs]
theorem TtOk.agg (h : TtOk P tt) {t : TypeId} {b : Bool} {n : Nat} (hd : tagg tt t = some (b, n)) (w : World) : (isAgg t).run P w = .ok b w ∧ (sizeOf t).run P w = .ok n w := by
 unfold tagg at hd
 cases ht : tt t with
 | none => simp [ht] at hd
 | some i =>
  simp [ht] at hd
  obtain ⟨rfl, rfl⟩ := hd
  refine ⟨?_, h.size (by simp [tsize, ht]) w⟩
  unfold isAgg
  rw [Sem.run_bind, h.desc (d := i.desc) (by simp [tdesc, ht]) w, Result.andThen_ok]
  cases i.desc <;> rfl
end
def lenAV (av : AV) : Option Nat :=
 match av with
 | .c (.sl es) => some es.length
 | .c (.val (.slice none 0 0)) => some 0
 | .own _ _ _ n => some n
 | .osl _ _ n => some n
 | _ => none
def loadAV (heap : List (Nat × Blk)) (agg : Bool) (size : Nat) : AV → Option (Prop × AV)
 | .ptr b off => match look heap b with
  | some (.box cells _) => bif agg then some (off + size ≤ cells.length, .agg ((cells.drop off).take size)) else some (off < cells.length, cells.getD off .top)
  | _ => none
 | .aptr b k i off => match look heap b with
  | some (.acc k' es _) => bif agg then some (k = k' ∧ i < es.length ∧ off + size ≤ (es.getD i []).length, .agg ((((es.getD i []).drop off).take size).map .c))
    else some (k = k' ∧ i < es.length ∧ off < (es.getD i []).length, .c ((es.getD i []).getD off default))
  | _ => none
 | .cel cs => bif agg then some (size ≤ cs.length, .agg ((cs.take size).map .c)) else some (0 < cs.length, .c (cs.getD 0 default))
 | _ => none
def indexAV (d : TypeDesc) (size : Nat) (i : Int) : AV → Option (Prop × AV)
 | .c (.sl es) => match d with
  | .slice _ => some (0 ≤ i ∧ i < es.length ∧ (es.getD i.toNat []).length = size, .cel (es.getD i.toNat []))
  | _ => none
 | .own b k off n => match d with
  | .slice _ => some (0 ≤ i ∧ i < n ∧ k = size, .aptr b k (off + i.toNat) 0)
  | _ => none
 | .osl b off n => match d with
  | .slice _ => some (0 ≤ i ∧ i < n ∧ size = 1, .ptr b (off + i.toNat))
  | _ => none
 | .ptr b off => match d with
  | .array n _ => some (0 ≤ i ∧ i < n, .ptr b (off + i.toNat * size))
  | _ => none
 | _ => none
def elemT : TypeDesc → Option TypeId
 | .slice e | .array _ e => some e
 | _ => none
def lookE (tt : TT) (tmps : List (Nat × AV)) (heap : List (Nat × Blk)) (o : Oper) : Option (Prop × AV) :=
 match o.op with
 | .move x | .assign x => One (evT tmps x)
 | .pick c a b => match evT tmps c with
  | .c (.val (.bool t)) => One (bif t then evT tmps a else evT tmps b)
  | _ => none
 | .binOp op _ x y _ => match evT tmps x, evT tmps y with
  | .c (.val (.int k a)), .c (.val (.int k' b)) => (binInt op k a b).map fun r => (r.1 ∧ (k = k' ∨ isShift op = true), .c (.val r.2))
  | _, _ => none
 | .unOp op _ x => match op, evT tmps x with
  | .neg, .c (.val (.int k n)) => One (.c (.val (.int k (k.wrap (0 - n)))))
  | .xor, .c (.val (.int k n)) => One (.c (.val (bitsV k (BitVec.ofInt k.bits (if k.signed then -1 else k.max) ^^^ BitVec.ofInt k.bits n))))
  | .not, .c (.val (.bool b)) => One (.c (.val (.bool (!b))))
  | _, _ => none
 | .convert src dst x => match tdesc tt src, tdesc tt dst, evT tmps x with
  | some (.int _), some (.int k), .c (.val (.int _ n)) => One (.c (.val (.int k (k.wrap n))))
  | _, _, _ => none
 | .call { callee := .builtin .len, args, argTypes } => match args.toList, argTypes.toList with
  | [x], [t] => match tdesc tt t, lenAV (evT tmps x) with
   | some (.slice _), some n => One (.c (.val (.int .i64 n)))
   | _, _ => none
  | _, _ => none
 | .indexAddr t x i => match tdesc tt t, evT tmps i with
  | some d, .c (.val (.int _ n)) => match (elemT d).bind (tsize tt) with
   | some size => indexAV d size n (evT tmps x)
   | none => none
  | _, _ => none
 | .load t x => match tagg tt t with
  | some (b, n) => loadAV heap b n (evT tmps x)
  | none => none
 | .extract t i => match evT tmps t with
  | .tup vs => some (i < vs.length, vs.getD i .top)
  | _ => none
 | _ => none
def Looks (P : Program) (o : Oper) (ev : Operand → AV) (hp : Nat → Option Blk) (av : AV) : Prop :=
 ∀ (A : Nat → Prop) (ι : Pl) (w : World) (ρ : Operand → Value), Ok ι w → (∀ x ∈ o.op.operands, Rep (Still A ι w) ι w (ev x) (ρ x)) → (∀ b blk, hp b = some blk → BlkRep (Still A ι w) ι w b blk) →
  ∃ v, (execOp ρ o).run P w = .ok (.value v) w ∧ Rep (Still A ι w) ι w av v
theorem getD_get {α : Type} {l : List α} {i : Nat} {d : α} (h : i < l.length) : l[i]? = some (l.getD i d) := by
 simp [List.getD, List.getElem?_eq_getElem h]
theorem addr_add (a : Addr) (n : Nat) (h : a.spot = none) : a.add n = ⟨a.block, a.off + n, none⟩ := by
 obtain ⟨b, o, s⟩ := a
 simp only at h
 subst h
 unfold Addr.add
 split <;> simp_all
theorem run_load_cell {P : Program} {w : World} {a : Addr} {v : Value} (h : w.cell? a = some v) (m : Mode := .plain) : (load a m).run P w = .ok v w := by
 rw [run_load, h]
theorem run_loadVar {P : Program} {tt : TT} (htt : TtOk P tt) {w : World} {t : TypeId} {b : Bool} {n : Nat} (ht : tagg tt t = some (b, n)) {a : Addr} (hs : a.spot = none) (f : Nat → Value)
  (h : ∀ j, j < (if b then n else 1) → w.cell? ⟨a.block, a.off + j, none⟩ = some (f j)) :
  (loadVar t a).run P w = .ok (if b then .agg ((List.range n).map f).toArray else f 0) w := by
 obtain ⟨h1, h2⟩ := htt.agg ht w
 unfold loadVar
 rw [Sem.run_bind, h1, Result.andThen_ok]
 cases b with
 | true =>
  simp only [if_true]
  rw [Sem.run_bind, h2, Result.andThen_ok, Sem.run_bind, run_loadCells w a n f (fun j hj => by rw [addr_add a j hs]; exact h j (by simpa using hj))]
  rfl
 | false =>
  simp only [Bool.false_eq_true, if_false]
  have h0 := h 0 (by simp)
  simp only [Nat.add_zero] at h0
  refine run_load_cell ?_
  obtain ⟨bb, oo, ss⟩ := a
  simp only at hs
  subst hs
  exact h0
theorem rep_agg_map {I : Nat → Prop} {ι : Pl} {w : World} {cs : List AV} {n : Nat} (f : Nat → Value) (hl : cs.length = n) (h : ∀ (j : Nat) av, cs[j]? = some av → Rep I ι w av (f j) ∧ (f j).oneCell' = true) :
  Rep I ι w (.agg cs) (.agg ((List.range n).map f).toArray) := by
 refine .agg cs _ (by simp [hl]) (fun x hx => ?_) fun i av x ha hx => ?_
 ·simp only [List.mem_map, List.mem_range] at hx
  obtain ⟨j, hj, rfl⟩ := hx
  exact (h j _ (List.getElem?_eq_getElem (by omega))).2
 ·have hi : i < n := by rw [← hl]; exact (List.getElem?_eq_some_iff.1 ha).1
  have : x = f i := by simpa [hi] using hx.symm
  subst this
  exact (h i av ha).1
theorem loadAV_ok {P : Program} {tt : TT} (htt : TtOk P tt) {A : Nat → Prop} {ι : Pl} {w : World} {heap : List (Nat × Blk)} {t : TypeId} {b : Bool} {n : Nat} (ht : tagg tt t = some (b, n))
  {av : AV} {x : Value} {vc : Prop} {r : AV} (h : loadAV heap b n av = some (vc, r)) (hvc : vc) (hx : Rep (Still A ι w) ι w av x) (hh : ∀ b blk, look heap b = some blk → BlkRep (Still A ι w) ι w b blk) :
  ∃ v, (Instr.loadAt t x).run P w = .ok v w ∧ Rep (Still A ι w) ι w r v := by
 cases hx <;> simp only [loadAV] at h <;> (try (cases h; done))
 case ptr b' off g cap hb =>
  split at h
  ·rename_i cells ty hl
   have hblk := hh _ _ hl
   cases hblk with
   | box _ _ g' cur h1 h2 h3 h4 h5 =>
    rw [hb] at h1
    simp only [Option.some.injEq, Plc.at.injEq] at h1
    obtain ⟨rfl, rfl⟩ := h1
    have hcell : ∀ j, off + j < cells.length → w.cell? ⟨g, off + j, none⟩ = some (cur.getD (off + j) undef) := fun j hj => by
     rw [cell_of_row w g (off + j) _ ty (0, 0) h2]
     simp [List.getD, List.getElem?_eq_getElem (by omega : off + j < cur.length)]
    have hrep : ∀ (j : Nat) av, cells[off + j]? = some av → Rep (Still A ι w) ι w av (cur.getD (off + j) undef) ∧ (cur.getD (off + j) undef).oneCell' = true := fun j av ha => by
     have hlt : off + j < cur.length := by rw [h3]; exact (List.getElem?_eq_some_iff.1 ha).1
     have he : cur[off + j]? = some (cur.getD (off + j) undef) := by simp [List.getD, List.getElem?_eq_getElem hlt]
     exact ⟨h5 _ av _ ha he, h4 _ (List.mem_of_getElem? he)⟩
    cases b with
    | true =>
     simp only [cond_true, Option.some.injEq, Prod.mk.injEq] at h
     obtain ⟨rfl, rfl⟩ := h
     refine ⟨_, ?_, rep_agg_map (n := n) (fun j => cur.getD (off + j) undef) (by simp; omega) fun j av ha => ?_⟩
     ·simp only [Instr.loadAt, Instr.sureAddr, Sem.run_bind, Sem.run_pure, Result.andThen_ok]
      exact run_loadVar htt ht rfl _ (fun j hj => hcell j (by simp at hj; omega))
     ·rw [List.getElem?_take, List.getElem?_drop] at ha
      split at ha
      ·exact hrep j av ha
      ·cases ha
    | false =>
     simp only [cond_false, Option.some.injEq, Prod.mk.injEq] at h
     obtain ⟨rfl, rfl⟩ := h
     refine ⟨cur.getD (off + 0) undef, ?_, ?_⟩
     ·simp only [Instr.loadAt, Instr.sureAddr, Sem.run_bind, Sem.run_pure, Result.andThen_ok]
      exact run_loadVar htt ht rfl (fun j => cur.getD (off + j) undef) (fun j hj => hcell j (by simp at hj; omega))
     ·have ha : cells[off + 0]? = some (cells.getD off .top) := by simp [List.getD, List.getElem?_eq_getElem hvc]
      exact (hrep 0 _ ha).1
  ·cases h
 case aptr b' k i off g cap hb =>
  split at h
  ·rename_i k' es ty hl
   have hblk := hh _ _ hl
   cases hblk with
   | accNil _ _ h1 => rw [hb] at h1; cases h1
   | acc _ _ _ g' cap' cur h1 h2 h3 h4 h5 h6 h8 =>
    rw [hb] at h1
    simp only [Option.some.injEq, Plc.at.injEq] at h1
    obtain ⟨rfl, rfl⟩ := h1
    have main : k = k' → i < es.length → ∀ j, off + j < (es.getD i []).length → w.cell? ⟨g, i * k + off + j, none⟩ = some (cur.getD (i * k + off + j) undef) ∧
      CRep (Still A ι w) w ((es.getD i []).getD (off + j) default) (cur.getD (i * k + off + j) undef) := by
     rintro rfl hi j hj
     have he : es[i]? = some (es.getD i []) := by simp [List.getD, List.getElem?_eq_getElem hi]
     have hk := h6 i _ he
     have hlt : i * k + off + j < cur.length := by
      have h9 : (i + 1) * k ≤ cap * k := Nat.mul_le_mul_right k (by omega)
      rw [Nat.add_mul, Nat.one_mul] at h9
      omega
     have hc : cur[i * k + off + j]? = some (cur.getD (i * k + off + j) undef) := by simp [List.getD, List.getElem?_eq_getElem hlt]
     refine ⟨by rw [cell_of_row w g _ _ ty (0, 0) h2]; simpa using hc, ?_⟩
     exact h8 i _ (off + j) _ _ he (getD_get hj) (by rw [← Nat.add_assoc]; exact hc)
    cases b with
    | true =>
     simp only [cond_true, Option.some.injEq, Prod.mk.injEq] at h
     obtain ⟨rfl, rfl⟩ := h
     obtain ⟨hk, hi, hlen⟩ := hvc
     refine ⟨_, ?_, rep_agg_map (n := n) (fun j => cur.getD (i * k + off + j) undef) (by rw [List.length_map, List.length_take, List.length_drop]; omega) fun j av ha => ?_⟩
     ·simp only [Instr.loadAt, Instr.sureAddr, Sem.run_bind, Sem.run_pure, Result.andThen_ok]
      exact run_loadVar htt ht rfl _ (fun j hj => (main hk hi j (by simp at hj; omega)).1)
     ·obtain ⟨u, hu, rfl⟩ := getElem?_map' ha
      rw [List.getElem?_take, List.getElem?_drop] at hu
      split at hu
      ·have hlt := (List.getElem?_eq_some_iff.1 hu).1
       have := (main hk hi j hlt).2
       have e : (es.getD i []).getD (off + j) default = u := by simp only [List.getD] at hu ⊢; simp [hu]
       rw [e] at this
       exact ⟨.c _ _ this, this.one⟩
      ·cases hu
    | false =>
     simp only [cond_false, Option.some.injEq, Prod.mk.injEq] at h
     obtain ⟨rfl, rfl⟩ := h
     obtain ⟨hk, hi, hlen⟩ := hvc
     refine ⟨cur.getD (i * k + off + 0) undef, ?_, .c _ _ (by simpa using (main hk hi 0 hlen).2)⟩
     simp only [Instr.loadAt, Instr.sureAddr, Sem.run_bind, Sem.run_pure, Result.andThen_ok]
     exact run_loadVar htt ht rfl (fun j => cur.getD (i * k + off + j) undef) (fun j hj => (main hk hi j (by simp at hj; omega)).1)
  ·cases h
 case cel cs a hs hI hcell hrep =>
  have main : ∀ j, j < cs.length → w.cell? ⟨a.block, a.off + j, none⟩ = some ((w.cell? ⟨a.block, a.off + j, none⟩).getD undef) ∧ CRep (Still A ι w) w (cs.getD j default) ((w.cell? ⟨a.block, a.off + j, none⟩).getD undef) := fun j hj => by
   have hu : cs[j]? = some (cs.getD j default) := by simp [List.getD, List.getElem?_eq_getElem hj]
   obtain ⟨x, hx⟩ := hcell j _ hu
   rw [hx]
   exact ⟨rfl, hrep j _ x hu hx⟩
  cases b with
  | true =>
   simp only [cond_true, Option.some.injEq, Prod.mk.injEq] at h
   obtain ⟨rfl, rfl⟩ := h
   refine ⟨_, ?_, rep_agg_map (n := n) (fun j => (w.cell? ⟨a.block, a.off + j, none⟩).getD undef) (by simp; omega) fun j av ha => ?_⟩
   ·simp only [Instr.loadAt, Instr.sureAddr, Sem.run_bind, Sem.run_pure, Result.andThen_ok]
    exact run_loadVar htt ht hs _ (fun j hj => (main j (by simp at hj; omega)).1)
   ·obtain ⟨u, hu, rfl⟩ := getElem?_map' ha
    rw [List.getElem?_take] at hu
    split at hu
    ·have hlt := (List.getElem?_eq_some_iff.1 hu).1
     have := (main j hlt).2
     have e : cs.getD j default = u := by simp only [List.getD]; simp [hu]
     rw [e] at this
     exact ⟨.c _ _ this, this.one⟩
    ·cases hu
  | false =>
   simp only [cond_false, Option.some.injEq, Prod.mk.injEq] at h
   obtain ⟨rfl, rfl⟩ := h
   refine ⟨_, ?_, .c _ _ (main 0 hvc).2⟩
   simp only [Instr.loadAt, Instr.sureAddr, Sem.run_bind, Sem.run_pure, Result.andThen_ok]
   exact run_loadVar htt ht hs (fun j => (w.cell? ⟨a.block, a.off + j, none⟩).getD undef) (fun j hj => (main j (by simp at hj; omega)).1)
theorem indexAV_ok {P : Program} {tt : TT} (htt : TtOk P tt) {A : Nat → Prop} {ι : Pl} {w : World} {t : TypeId} {d : TypeDesc} (hd : tdesc tt t = some d) {size : Nat} (hsz : (elemT d).bind (tsize tt) = some size)
  {i : Int} {k : IntKind} {av : AV} {x : Value} {vc : Prop} {r : AV} (h : indexAV d size i av = some (vc, r)) (hvc : vc) (hx : Rep (Still A ι w) ι w av x) :
  ∃ v, (Instr.indexAt t x (.int k i)).run P w = .ok v w ∧ Rep (Still A ι w) ι w r v := by
 have hu := htt.desc hd w
 have hs : ∀ e, elemT d = some e → (sizeOf e).run P w = .ok size w := fun e he => htt.size (by rw [he] at hsz; simpa using hsz) w
 cases hx <;> simp only [indexAV] at h <;> (try (cases h; done))
 case c u hu' =>
  cases hu' <;> simp only [indexAV] at h <;> (try (cases h; done))
  case nil =>
   cases d <;> simp only at h <;> (try (cases h; done))
   simp only [Option.some.injEq, Prod.mk.injEq] at h
   obtain ⟨rfl, rfl⟩ := h
   simp at hvc
   omega
  case sl es a n cap kk hn hc hm hk hI hcell hrep =>
   cases d <;> simp only at h <;> (try (cases h; done))
   rename_i e
   simp only [Option.some.injEq, Prod.mk.injEq] at h
   obtain ⟨rfl, rfl⟩ := h
   obtain ⟨h0, h1, h2⟩ := hvc
   have hlt : i.toNat < es.length := by omega
   have he := getD_get (d := []) hlt
   have hne : es ≠ [] := fun h => by simp [h] at hlt
   obtain ⟨hsp, hIa⟩ := hI hne
   have hkk : kk = size := by rw [← hk _ _ he]; exact h2
   refine ⟨.pointer (some (a.add (i.toNat * size))), ?_, ?_⟩
   ·simp only [Instr.indexAt, asIntOf, Sem.run_bind, Sem.run_pure, Result.andThen_ok, hu]
    rw [if_pos ⟨h0, by omega⟩]
    simp only [Sem.run_bind, hs e rfl, Result.andThen_ok, Sem.run_pure]
   ·rw [addr_add a _ hsp]
    subst hkk
    refine .cel _ _ rfl hIa (fun j u hu => ?_) (fun j u x hu hx => ?_)
    ·obtain ⟨x, hx⟩ := hcell _ _ j u he hu
     exact ⟨x, by simpa [Nat.add_assoc] using hx⟩
    ·exact hrep _ _ j u x he hu (by simpa [Nat.add_assoc] using hx)
 case ownNil b k hb =>
  cases d <;> simp only at h <;> (try (cases h; done))
  simp only [Option.some.injEq, Prod.mk.injEq] at h
  obtain ⟨rfl, rfl⟩ := h
  omega
 case own b kk off n g cap a cc hb h0' h1' h2' hq' =>
  cases d <;> simp only at h <;> (try (cases h; done))
  rename_i e
  simp only [Option.some.injEq, Prod.mk.injEq] at h
  obtain ⟨rfl, rfl⟩ := h
  obtain ⟨h0, h1, h2⟩ := hvc
  have ha := h1' (by omega)
  refine ⟨.pointer (some (a.add (i.toNat * size))), ?_, ?_⟩
  ·simp only [Instr.indexAt, asIntOf, Sem.run_bind, Sem.run_pure, Result.andThen_ok, hu]
   rw [if_pos ⟨h0, by omega⟩]
   simp only [Sem.run_bind, hs e rfl, Result.andThen_ok, Sem.run_pure]
  ·subst ha h2
   rw [addr_add _ _ rfl]
   have := Rep.aptr (I := Still A ι w) (w := w) b kk (off + i.toNat) 0 g cap hb
   rw [Nat.add_zero, Nat.add_mul] at this
   exact this
 case osl b off n g cap cc hb h2' =>
  cases d <;> simp only at h <;> (try (cases h; done))
  rename_i e
  simp only [Option.some.injEq, Prod.mk.injEq] at h
  obtain ⟨rfl, rfl⟩ := h
  obtain ⟨h0, h1, h2⟩ := hvc
  refine ⟨.pointer (some ((⟨g, off, none⟩ : Addr).add (i.toNat * size))), ?_, ?_⟩
  ·simp only [Instr.indexAt, asIntOf, Sem.run_bind, Sem.run_pure, Result.andThen_ok, hu]
   rw [if_pos ⟨h0, by omega⟩]
   simp only [Sem.run_bind, hs e rfl, Result.andThen_ok, Sem.run_pure]
  ·rw [addr_add _ _ rfl]
   subst h2
   simp only [Nat.mul_one]
   exact .ptr _ _ g cap hb
 case ptr b off g cap hb =>
  cases d <;> simp only at h <;> (try (cases h; done))
  rename_i len e
  simp only [Option.some.injEq, Prod.mk.injEq] at h
  obtain ⟨rfl, rfl⟩ := h
  obtain ⟨h0, h1⟩ := hvc
  refine ⟨.pointer (some ((⟨g, off, none⟩ : Addr).add (i.toNat * size))), ?_, ?_⟩
  ·simp only [Instr.indexAt, asIntOf, Sem.run_bind, Sem.run_pure, Result.andThen_ok, hu, Instr.sureAddr]
   rw [if_pos ⟨h0, by omega⟩]
   simp only [Sem.run_bind, hs e rfl, Result.andThen_ok, Sem.run_pure]
  ·rw [addr_add _ _ rfl]
   exact .ptr _ _ g cap hb
theorem lenAV_ok {A : Nat → Prop} {ι : Pl} {w : World} {av : AV} {x : Value} {n : Nat} (h : lenAV av = some n) (hx : Rep (Still A ι w) ι w av x) : ∃ a c, x = .slice a n c := by
 cases hx <;> simp only [lenAV] at h <;> (try (cases h; done))
 case c u hu =>
  cases hu with
  | val x h1 =>
   split at h <;> simp_all
  | any x h1 => simp [lenAV] at h
  | nil => simp only [lenAV] at h; cases h; exact ⟨_, _, rfl⟩
  | sl => simp only [lenAV] at h; cases h; subst_vars; exact ⟨_, _, rfl⟩
 all_goals (cases h; exact ⟨_, _, rfl⟩)
theorem lookE_ok {P : Program} {tt : TT} (htt : TtOk P tt) {tmps : List (Nat × AV)} {heap : List (Nat × Blk)} {o : Oper} {vc : Prop} {av : AV} (h : lookE tt tmps heap o = some (vc, av)) (hvc : vc) :
  Looks P o (evT tmps) (look heap) av ∧ (∀ c, o.op ≠ .defer c) := by
 unfold lookE at h
 have hop : ∀ p, o.op = p → (∀ c, p ≠ .defer c) → ∀ c, o.op ≠ .defer c := fun p hp hd c => by rw [hp]; exact hd c
 split at h
 case h_1 x hp =>
  cases h
  refine ⟨fun A ι w ρ hok hr hh => ⟨ρ x, by simp [execOp, hp], hr x (by simp [hp, Op.operands])⟩, hop _ hp (by simp)⟩
 case h_2 x hp =>
  cases h
  refine ⟨fun A ι w ρ hok hr hh => ⟨ρ x, by simp [execOp, hp], hr x (by simp [hp, Op.operands])⟩, hop _ hp (by simp)⟩
 case h_3 c a b hp =>
  split at h
  ·rename_i t hc
   cases h
   refine ⟨fun A ι w ρ hok hr hh => ?_, hop _ hp (by simp)⟩
   have h1 := hr c (by simp [hp, Op.operands])
   rw [hc] at h1
   have h2 : ρ c = .bool t := h1.valOf rfl
   refine ⟨if t then ρ a else ρ b, by simp [execOp, hp, h2, asBool], ?_⟩
   cases t
   ·exact hr b (by simp [hp, Op.operands])
   ·exact hr a (by simp [hp, Op.operands])
  ·cases h
 case h_4 op t x y yt hp =>
  split at h
  ·rename_i k a k' b hx hy
   cases hb : binInt op k a b with
   | none => rw [hb] at h; cases h
   | some r =>
    obtain ⟨vc', v⟩ := r
    rw [hb] at h
    simp only [Option.map_some, Option.some.injEq, Prod.mk.injEq] at h
    obtain ⟨rfl, rfl⟩ := h
    refine ⟨fun A ι w ρ hok hr hh => ?_, hop _ hp (by simp)⟩
    have h1 := hr x (by simp [hp, Op.operands])
    have h2 := hr y (by simp [hp, Op.operands])
    rw [hx] at h1
    rw [hy] at h2
    have e1 := h1.valOf rfl
    have e2 := h2.valOf rfl
    refine ⟨v, ?_, .c _ _ (.val v ?_)⟩
    ·have := binInt_run (P := P) (w := w) (t := t) (x := x) (y := y) hb hvc.1 hvc.2
     simp only [execOp, hp, e1, e2]
     simp only [Sem.run_bind] at this ⊢
     rw [this]
     rfl
    ·cases op <;> simp only [binInt, Option.some.injEq, Prod.mk.injEq] at hb <;> obtain ⟨-, rfl⟩ := hb <;> rfl
  ·cases h
 case h_5 op t x hp =>
  split at h
  ·rename_i k n hx
   cases h
   refine ⟨fun A ι w ρ hok hr hh => ?_, hop _ hp (by simp)⟩
   have h1 := hr x (by simp [hp, Op.operands])
   rw [hx] at h1
   have e1 := h1.valOf rfl
   exact ⟨_, by simp [execOp, hp, e1, Op.unary, Op.intArith], .c _ _ (.val _ rfl)⟩
  ·rename_i k n hx
   cases h
   refine ⟨fun A ι w ρ hok hr hh => ?_, hop _ hp (by simp)⟩
   have h1 := hr x (by simp [hp, Op.operands])
   rw [hx] at h1
   have e1 := h1.valOf rfl
   exact ⟨_, by simp [execOp, hp, e1, Op.unary, Op.intBits, bitsV], .c _ _ (.val _ rfl)⟩
  ·rename_i b hx
   cases h
   refine ⟨fun A ι w ρ hok hr hh => ?_, hop _ hp (by simp)⟩
   have h1 := hr x (by simp [hp, Op.operands])
   rw [hx] at h1
   have e1 := h1.valOf rfl
   exact ⟨_, by simp [execOp, hp, e1, Op.unary], .c _ _ (.val _ rfl)⟩
  ·cases h
 case h_6 src dst x hp =>
  split at h
  ·rename_i k0 k k1 n hs hd hx
   cases h
   refine ⟨fun A ι w ρ hok hr hh => ?_, hop _ hp (by simp)⟩
   have h1 := hr x (by simp [hp, Op.operands])
   rw [hx] at h1
   have e1 := h1.valOf rfl
   exact ⟨_, by simp [execOp, hp, e1, convert, htt.desc hs w, htt.desc hd w, Conv.intToInt], .c _ _ (.val _ rfl)⟩
  ·cases h
 case h_7 args argTypes hp =>
  split at h
  ·rename_i x t hx ht
   split at h
   ·rename_i e n hd hl
    cases h
    refine ⟨fun A ι w ρ hok hr hh => ?_, hop _ hp (by simp)⟩
    have hargs : args = #[x] := by obtain ⟨l⟩ := args; simp_all
    have htys : argTypes = #[t] := by obtain ⟨l⟩ := argTypes; simp_all
    subst hargs htys
    obtain ⟨a, c, e1⟩ := lenAV_ok hl (hr x (by simp [hp, Op.operands, Call.operands]))
    exact ⟨_, by simp [execOp, hp, resolve, invoke, builtin, Builtin.len_, e1, htt.desc hd w, goInt], .c _ _ (.val _ rfl)⟩
   ·cases h
  ·cases h
 case h_8 t x i hp =>
  split at h
  ·rename_i d k n hd hi
   split at h
   ·rename_i size hsz
    refine ⟨fun A ι w ρ hok hr hh => ?_, hop _ hp (by simp)⟩
    have h1 := hr x (by simp [hp, Op.operands])
    have h2 := hr i (by simp [hp, Op.operands])
    rw [hi] at h2
    have e2 := h2.valOf rfl
    obtain ⟨v, hv, hrep⟩ := indexAV_ok (k := k) htt hd hsz h hvc h1
    exact ⟨v, by simp [execOp, hp, e2, hv], hrep⟩
   ·cases h
  ·cases h
 case h_9 t x hp =>
  split at h
  ·rename_i b n ht
   refine ⟨fun A ι w ρ hok hr hh => ?_, hop _ hp (by simp)⟩
   obtain ⟨v, hv, hrep⟩ := loadAV_ok htt ht h hvc (hr x (by simp [hp, Op.operands])) hh
   exact ⟨v, by simp [execOp, hp, hv], hrep⟩
  ·cases h
 case h_10 t i hp =>
  split at h
  ·rename_i vs hx
   cases h
   refine ⟨fun A ι w ρ hok hr hh => ?_, hop _ hp (by simp)⟩
   have h1 := hr t (by simp [hp, Op.operands])
   rw [hx] at h1
   generalize hρ : ρ t = v at h1
   cases h1 with
   | tup cs xs hl hr' =>
    have hlt : i < xs.length := by omega
    refine ⟨xs.getD i undef, ?_, hr' i _ _ (getD_get hvc) (getD_get hlt)⟩
    simp [execOp, hp, hρ, Instr.extract, List.getElem?_eq_getElem hlt]
  ·cases h
 case h_11 => cases h
theorem Looks.loc {P : Program} {o : Oper} {ev : Operand → AV} {hp : Nat → Option Blk} {nxt : Nat} {av : AV} (h : Looks P o ev hp av) : Loc P o ev hp nxt ⟨some av, [], [], nxt⟩ := by
 intro A ι w ρ _ hok hf hr hh
 obtain ⟨v, hrun, hrep⟩ := h A ι w ρ hok hr hh
 refine ⟨_, ι, w, hrun, hrep, StepR.refl hok _ _, fun p hp => by simp at hp, hf, fun k hk => by cases hk⟩
end Go.Ab
