/-
  Operations reckoned by the kernel: what an operation does under a hint, with the conditions that are left; theorems for any program.
-/
import Derived.Test.YtpfgofnmkaljaaaMg25
import Derived.Test.YtpfgofnmkaljaaaMg22
import Derived.Test.YtpfgofnmkaljaaaMg28
import Derived.Test.YtpfgofnmkaljaaaMg26
set_option linter.unusedVariables false
set_option linter.unusedSimpArgs false
namespace Go.Ab
open Go Go.RowKit
def AllP : List Prop → Prop
 | [] => True
 | p :: r => p ∧ AllP r
theorem AllP_app {l m : List Prop} : AllP (l ++ m) ↔ AllP l ∧ AllP m := by
 induction l with
 | nil => simp [AllP]
 | cons p r ih => simp [AllP, ih, and_assoc]
def sameKinds : List (IntKind × Int) → List (IntKind × Int) → Bool
 | [], [] => true
 | (k, _) :: r, (k', _) :: r' => decide (k = k') && sameKinds r r'
 | _, _ => false
theorem sameKinds_ok : ∀ {a b : List (IntKind × Int)}, sameKinds a b = true → a.map (·.1) = b.map (·.1)
 | [], [], _ => rfl
 | (k, _) :: r, (k', _) :: r', h => by
  simp only [sameKinds, Bool.and_eq_true, decide_eq_true_eq] at h
  simp [h.1, sameKinds_ok h.2]
def easyOp : BinOp → Bool
 | .quo | .rem | .shl | .shr => false
 | _ => true
def fillQ (pl : Nat → Option (Nat × Nat)) (tmps : List (Nat × AV)) : Nat → List (Nat × Operand) → Bool
 | _, [] => true
 | n, (i, x) :: r => match pl i, cellsOf (evT tmps x) with
  | some (off, size), some cs => decide (cs.length = size) && (decide (off + cs.length ≤ n) && fillQ pl tmps n r)
  | _, _ => false
theorem fillQ_ok {pl : Nat → Option (Nat × Nat)} {tmps : List (Nat × AV)} : ∀ {parts : List (Nat × Operand)} {cells : List AV} {vc : Prop} {l : List AV}, fillQ pl tmps cells.length parts = true → fillE pl tmps cells parts = some (vc, l) → vc
 | [], cells, vc, l, _, h => by simp only [fillE] at h; cases h; trivial
 | (i, x) :: r, cells, vc, l, hq, h => by
  simp only [fillQ] at hq
  simp only [fillE] at h
  split at hq
  ·rename_i off size cs h1 h2
   simp only [Bool.and_eq_true, decide_eq_true_eq] at hq
   simp only [h1, h2] at h
   split at h
   ·rename_i v l' hf
    cases h
    have hlen : (setCells cells off cs).length = cells.length := by
     simp only [setCells, List.length_append, List.length_take, List.length_drop]
     omega
    exact ⟨⟨hq.1, hq.2.1⟩, fillQ_ok (by rw [hlen]; exact hq.2.2) hf⟩
   ·cases h
  ·cases hq
def quietV (eq : EQ) (tt : TT) (tmps : List (Nat × AV)) (heap : List (Nat × Blk)) (o : Oper) : Bool :=
 match o.op with
 | .move _ => true
 | .assign _ => true
 | .unOp _ _ _ => true
 | .nilCheck _ => true
 | .alloc _ => true
 | .box _ _ => true
 | .makeFunc _ _ _ => true
 | .convert _ dst _ => match tdesc tt dst with
  | some (.int _) => true
  | _ => false
 | .binOp op t x y _ => match evT tmps x, evT tmps y with
  | .c (.val (.int k _)), .c (.val (.int k' _)) => (decide (k = k') || isShift op) && easyOp op
  | .agg xs, .agg ys => match eq t, intsOf xs, intsOf ys with
   | some n, some asv, some bs => decide (asv.length = n) && sameKinds asv bs
   | _, _, _ => false
  | .c (.val (.bool _)), .c (.val (.bool _)) => true
  | .c (.val (.string _)), .c (.val (.string _)) => true
  | .c (.val (.slice none 0 0)), .c (.val (.slice none 0 0)) => true
  | .ptr _ _, .c (.val (.pointer none)) => true
  | .c (.val (.pointer none)), .c (.val (.pointer none)) => true
  | _, _ => false
 | .load t x => match tagg tt t, evT tmps x with
  | some (b, n), .ptr p off => match look heap p with
   | some (.box cells _) => bif b then decide (off + n ≤ cells.length) else decide (off < cells.length)
   | _ => false
  | some (b, n), .cel cs => bif b then decide (n ≤ cs.length) else decide (0 < cs.length)
  | _, _ => false
 | .extract t i => match evT tmps t with
  | .tup vs => decide (i < vs.length)
  | _ => false
 | .fieldAddr s x f => match (tdesc tt s).bind fun d => fieldOf d f with
  | some (ft, _) => match tsize tt ft with
   | some n => decide (n ≠ 0)
   | none => false
  | none => false
 | .field s x f => match (tdesc tt s).bind fun d => fieldOf d f with
  | some (ft, off) => match tagg tt ft, evT tmps x with
   | some (b, n), .agg cs => bif b then decide (off + n ≤ cs.length) else decide (off < cs.length)
   | _, _ => false
  | none => false
 | .store t a x => match tsize tt t, cellsOf (evT tmps x), evT tmps a with
  | some n, some xs, .ptr b off => match look heap b with
   | some (.box cells _) => decide (xs.length = n) && decide (off + xs.length ≤ cells.length)
   | _ => false
  | _, _, _ => false
 | .build t parts => match tdesc tt t, tzero tt t with
  | some d, some z => placesOk tt d && fillQ (placesE tt d) tmps z.length parts.toList
  | _, _ => false
 | .buildSlice t len parts => match tdesc tt t with
  | some (.slice e) => match partsE tmps 0 parts.toList, tsize tt e with
   | some es, some k => decide (es.length = len) && (decide (0 < k) && (decide (len * k ≤ 16777216) && es.all fun u => decide (u.length = k)))
   | _, _ => false
  | _ => false
 | .call { callee := .builtin .len, .. } => true
 | .call { callee := .builtin .min, args, .. } => match args.toList.map (evT tmps) with
  | [.c (.val (.int k _)), .c (.val (.int k' _))] => decide (k = k')
  | _ => false
 | .call { callee := .builtin .max, args, .. } => match args.toList.map (evT tmps) with
  | [.c (.val (.int k _)), .c (.val (.int k' _))] => decide (k = k')
  | _ => false
 | _ => false
theorem easy_ok {op : BinOp} {k : IntKind} {a b : Int} {vc : Prop} {v : Value} (h : easyOp op = true) (hr : binInt op k a b = some (vc, v)) : vc := by
 cases op <;> simp only [easyOp, Bool.false_eq_true] at h <;> simp only [binInt, Option.some.injEq, Prod.mk.injEq] at hr <;> exact hr.1 ▸ trivial
theorem reck_of {eq : EQ} {tt : TT} {tmps : List (Nat × AV)} {heap : List (Nat × Blk)} {nxt : Nat} {o : Oper} {vc : Prop} {e : Eff} (hr : reckB eq tt tmps heap nxt o = some (vc, e)) :
  (∃ av, lookG tt tmps heap o = some (vc, av)) ∨ (∃ av, lookE tt tmps heap o = some (vc, av)) ∨ (lookE tt tmps heap o = none ∧ ∃ av, lookF eq tt tmps heap o = some (vc, av)) ∨ newE tt tmps heap nxt o = some (vc, e) := by
 unfold reckB reck at hr
 cases hG : lookG tt tmps heap o with
 | some p => rw [hG] at hr; cases hr; exact .inl ⟨_, rfl⟩
 | none =>
  rw [hG] at hr
  simp only at hr
  cases hE : lookE tt tmps heap o with
  | some p => rw [hE] at hr; cases hr; exact .inr (.inl ⟨_, rfl⟩)
  | none =>
   rw [hE] at hr
   simp only at hr
   cases hF : lookF eq tt tmps heap o with
   | some p => rw [hF] at hr; cases hr; exact .inr (.inr (.inl ⟨rfl, _, rfl⟩))
   | none => rw [hF] at hr; exact .inr (.inr (.inr hr))
theorem one_ok {vc : Prop} {av av' : AV} (h : some (True, av') = some (vc, av)) : vc := by cases h; trivial
theorem quiet_ok {eq : EQ} {tt : TT} {tmps : List (Nat × AV)} {heap : List (Nat × Blk)} {nxt : Nat} {o : Oper} {vc : Prop} {e : Eff} (h : quietV eq tt tmps heap o = true) (hr : reckB eq tt tmps heap nxt o = some (vc, e)) : vc := by
 unfold quietV at h
 have hr := reck_of hr
 split at h
 case h_1 hop =>
  simp only [lookG, lookE, lookF, newE, hop, One, reduceCtorEq, exists_false, false_or, false_and, or_false] at hr
  exact one_ok hr.choose_spec
 case h_2 hop =>
  simp only [lookG, lookE, lookF, newE, hop, One, reduceCtorEq, exists_false, false_or, false_and, or_false] at hr
  exact one_ok hr.choose_spec
 case h_3 op t x hop =>
  simp only [lookG, lookE, lookF, newE, hop, One, reduceCtorEq, exists_false, false_or, false_and, and_false, or_false] at hr
  obtain ⟨av, hr⟩ := hr
  cases op <;> (repeat' split at hr) <;> first | (cases hr; done) | exact one_ok hr
 case h_4 hop =>
  simp only [lookG, lookE, lookF, newE, hop, One, reduceCtorEq, exists_false, false_or, true_and, or_false] at hr
  obtain ⟨av, hr⟩ := hr
  (repeat' split at hr) <;> first | (cases hr; done) | exact one_ok hr
 case h_5 hop =>
  simp only [lookG, lookE, lookF, newE, hop, One, reduceCtorEq, exists_false, false_or, and_false] at hr
  (repeat' split at hr) <;> first | (cases hr; done) | (cases hr; trivial)
 case h_6 hop =>
  simp only [lookG, lookE, lookF, newE, hop, One, reduceCtorEq, exists_false, false_or, and_false] at hr
  (repeat' split at hr) <;> first | (cases hr; done) | (cases hr; trivial)
 case h_7 hop =>
  simp only [lookG, lookE, newE, hop, reduceCtorEq, exists_false, false_or, true_and, or_false] at hr
  obtain ⟨av, hr⟩ := hr
  unfold lookF at hr
  (repeat' split at hr) <;> first | (cases hr; done) | exact one_ok hr | simp_all
 case h_8 src dst x hop =>
  split at h
  ·rename_i k hk
   simp only [lookG, lookE, lookF, newE, hop, One, hk, reduceCtorEq, exists_false, or_false, and_false] at hr
   rcases hr with ⟨av, hr⟩ | ⟨av, hr⟩
   ·(repeat' split at hr) <;> first | (cases hr; done) | simp_all
   ·(repeat' split at hr) <;> first | (cases hr; done) | exact one_ok hr
  ·cases h
 case h_9 op t x y _ hop =>
  split at h
  ·rename_i k a k' b hx hy
   simp only [Bool.and_eq_true, Bool.or_eq_true, decide_eq_true_eq] at h
   simp only [lookG, lookE, lookF, newE, hop, hx, hy, reduceCtorEq, exists_false, false_or, and_false, or_false] at hr
   obtain ⟨av, hr⟩ := hr
   cases hb : binInt op k a b with
   | none => rw [hb] at hr; cases hr
   | some p =>
    obtain ⟨v1, v2⟩ := p
    rw [hb] at hr
    simp only [Option.map_some, Option.some.injEq, Prod.mk.injEq] at hr
    exact hr.1 ▸ ⟨easy_ok h.2 hb, h.1⟩
  ·rename_i xs ys hx hy
   split at h
   ·rename_i n asv bs h1 h2 h3
    simp only [Bool.and_eq_true, decide_eq_true_eq] at h
    have h4 := sameKinds_ok h.2
    simp only [lookG, lookE, lookF, newE, hop, hx, hy, h1, h2, h3, reduceCtorEq, exists_false, false_or, true_and, or_false] at hr
    obtain ⟨av, hr⟩ := hr
    cases op <;> first | (cases hr; done) | (cases hr; exact ⟨h.1, h4⟩)
   ·cases h
  all_goals first | (cases h; done) | skip
  all_goals
   rename_i hx hy
   simp only [lookG, lookE, lookF, newE, hop, hx, hy, One, reduceCtorEq, exists_false, false_or, true_and, or_false] at hr
   obtain ⟨av, hr⟩ := hr
   (repeat' split at hr) <;> first | (cases hr; done) | exact one_ok hr
 case h_10 t x hop =>
  simp only [lookG, lookE, lookF, newE, hop, reduceCtorEq, exists_false, false_or, and_false, or_false] at hr
  obtain ⟨av, hr⟩ := hr
  split at h
  ·rename_i b n p off ht hx
   simp only [ht, hx, loadAV] at hr
   split at h
   ·rename_i cells ty hl
    simp only [hl] at hr
    cases b <;> (simp only [cond_true, cond_false, Option.some.injEq, Prod.mk.injEq, decide_eq_true_eq] at h hr; exact hr.1 ▸ h)
   ·cases h
  ·rename_i b n cs ht hx
   simp only [ht, hx, loadAV] at hr
   cases b <;> (simp only [cond_true, cond_false, Option.some.injEq, Prod.mk.injEq, decide_eq_true_eq] at h hr; exact hr.1 ▸ h)
  ·cases h
 case h_11 t i hop =>
  simp only [lookG, lookE, lookF, newE, hop, reduceCtorEq, exists_false, false_or, and_false, or_false] at hr
  obtain ⟨av, hr⟩ := hr
  split at h
  ·rename_i vs hx
   simp only [hx, Option.some.injEq, Prod.mk.injEq] at hr
   exact hr.1 ▸ of_decide_eq_true h
  ·cases h
 case h_12 s x f hop =>
  simp only [lookG, lookE, lookF, newE, hop, reduceCtorEq, exists_false, false_or, true_and, or_false] at hr
  obtain ⟨av, hr⟩ := hr
  split at h
  ·rename_i ft _ hd
   split at h
   ·rename_i n hn
    simp only [hd, hn] at hr
    (repeat' split at hr) <;> first | (cases hr; done) | skip
    rename_i h5 _
    cases h5
    cases hr
    exact of_decide_eq_true h
   ·cases h
  ·cases h
 case h_13 s x f hop =>
  simp only [lookG, lookE, lookF, newE, hop, reduceCtorEq, exists_false, false_or, true_and, or_false] at hr
  obtain ⟨av, hr⟩ := hr
  split at h
  ·rename_i ft off hd
   split at h
   ·rename_i b n cs hn hx
    simp only [hd, hn, hx, partAV] at hr
    cases b <;> (simp only [cond_true, cond_false, Option.some.injEq, Prod.mk.injEq, decide_eq_true_eq] at h hr; exact hr.1 ▸ h)
   ·cases h
  ·cases h
 case h_14 t a x hop =>
  simp only [lookG, lookE, lookF, newE, hop, reduceCtorEq, exists_false, false_or, and_false] at hr
  split at h
  ·rename_i n xs b off h1 h2 h3
   split at h
   ·rename_i cells ty hl
    simp only [h1, h2, h3, storeE, hl, Option.some.injEq, Prod.mk.injEq] at hr
    simp only [Bool.and_eq_true, decide_eq_true_eq] at h
    exact hr.1 ▸ h
   ·cases h
  ·cases h
 case h_15 t parts hop =>
  simp only [lookG, lookE, lookF, newE, hop, reduceCtorEq, exists_false, and_false, or_false] at hr
  obtain ⟨av, hr⟩ := hr
  split at h
  ·rename_i d z h1 h2
   simp only [Bool.and_eq_true] at h
   simp only [h1, h2] at hr
   split at hr
   ·rename_i v l hf
    cases hr
    exact ⟨h.1, fillQ_ok (by simpa using h.2) hf⟩
   ·cases hr
  ·cases h
 case h_16 t len parts hop =>
  simp only [lookG, lookE, lookF, newE, hop, reduceCtorEq, exists_false, false_or, and_false] at hr
  split at h
  ·rename_i e h1
   split at h
   ·rename_i es k h2 h3
    simp only [Bool.and_eq_true, decide_eq_true_eq, List.all_eq_true] at h
    simp only [h1, h2, h3, Option.some.injEq, Prod.mk.injEq] at hr
    exact hr.1 ▸ ⟨h.1, h.2.1, h.2.2.1, h.2.2.2⟩
   ·cases h
  ·cases h
 case h_17 hop =>
  simp only [lookG, lookE, lookF, newE, hop, One, reduceCtorEq, exists_false, false_or, and_false, or_false] at hr
  obtain ⟨av, hr⟩ := hr
  (repeat' split at hr) <;> first | (cases hr; done) | exact one_ok hr
 case h_18 args _ hop =>
  simp only [lookG, lookE, lookF, newE, hop, reduceCtorEq, exists_false, false_or, true_and, or_false] at hr
  obtain ⟨av, hr⟩ := hr
  split at h
  ·rename_i k a k' b hx
   simp only [hx, Option.some.injEq, Prod.mk.injEq] at hr
   exact hr.1 ▸ of_decide_eq_true h
  ·cases h
 case h_19 args _ hop =>
  simp only [lookG, lookE, lookF, newE, hop, reduceCtorEq, exists_false, false_or, true_and, or_false] at hr
  obtain ⟨av, hr⟩ := hr
  split at h
  ·rename_i k a k' b hx
   simp only [hx, Option.some.injEq, Prod.mk.injEq] at hr
   exact hr.1 ▸ of_decide_eq_true h
  ·cases h
 case h_20 => cases h
abbrev ExtF := EQ → TT → List (Nat × AV) → List (Nat × Blk) → Nat → Oper → Option (List Prop × Eff)
def ExtOk (P : Program) (f : ExtF) : Prop := ∀ eq tt, EqOk P eq → TtOk P tt → ∀ tmps heap nxt o cs e, f eq tt tmps heap nxt o = some (cs, e) → AllP cs → Loc P o (evT tmps) (look heap) nxt e ∧ ∀ c, o.op ≠ .defer c
inductive Hint (P : Program) where
 | tell (av : AV)
 | row (cs : List CV)
 | put (cs : List CV) (es : List (List CV))
 | at
 | cut (es : List (List CV))
 | app (ns es : List (List CV)) (n : Nat)
 | mk (es : List (List CV)) (n : Nat)
 | call (f : FuncId) (args : List AV) (blks : List Blk) (r : AV) (h : FnO P f args blks r) (own : List (List (List CV)))
 | mapNew
 | mapLook (v : Value)
 | mapPut (es : List (List (IntKind × Int) × Value))
 | see (f : FuncId) (args : List AV) (r : AV) (h : FnP P f args r) (own : List (List (List CV)))
 | mut (π : List Nat) (f : FuncId) (args : List AV) (H : List Blk) (kp : List Nat) (blks : List Blk) (r : AV) (h : FnM P f args H kp blks r)
 | mkBox
 | ext (f : ExtF) (ok : ExtOk P f)
abbrev Hint.fn {P : Program} {f : FuncId} {args : List AV} {blks : List Blk} {r : AV} (h : FnO P f args blks r) (own : List (List (List CV)) := []) : Hint P := .call f args blks r h own
abbrev Hint.mu {P : Program} {f : FuncId} {args : List AV} {H : List Blk} {kp : List Nat} {blks : List Blk} {r : AV} (h : FnM P f args H kp blks r) (π : List Nat) : Hint P := .mut π f args H kp blks r h
abbrev Hint.lo {P : Program} {f : FuncId} {args : List AV} {r : AV} (h : FnP P f args r) (own : List (List (List CV)) := []) : Hint P := .see f args r h own
def IdxC (i : Int) (es : List (List CV)) (cs : List CV) : Prop := 0 ≤ i ∧ i < es.length ∧ es.getD i.toNat [] = cs
def RowC (i : Nat) (es : List (List CV)) (cs : List CV) : Prop := i < es.length ∧ es.getD i [] = cs
def OwnC (off n : Nat) (es es' : List (List CV)) : Prop := off + n ≤ es.length ∧ (es.drop off).take n = es'
def IxO (i : Int) (n : Nat) : Prop := 0 ≤ i ∧ i < n
def AppC (k by_ : Nat) (es ns es' : List (List CV)) (n n' : Nat) : Prop := (∀ u ∈ ns, u.length = k) ∧ n = es.length ∧ (n + ns.length) * by_ ≤ 140737488355328 ∧ n + ns.length ≤ 9223372036854775807 ∧ es ++ ns = es' ∧ n + ns.length = n'
def MkC (by_ : Nat) (n : Int) (z : List CV) (es' : List (List CV)) (n' : Nat) : Prop := 0 ≤ n ∧ n ≤ 9223372036854775807 ∧ (by_ : Int) * n ≤ 281474976710656 ∧ List.replicate n.toNat z = es' ∧ n.toNat = n'
def SlC (v1 v2 : Prop) (l h size : Nat) (es es' : List (List CV)) : Prop := v1 ∧ v2 ∧ (l ≤ h ∧ h ≤ es.length ∧ ∀ e ∈ es, e.length = size) ∧ (es.drop l).take (h - l) = es'
def HaC (g f : FuncId) (H' H : List Blk) (asv bs : List AV) : Prop := g = f ∧ H' = H ∧ asv = bs
def CaC (g f : FuncId) (asv bs : List AV) : Prop := g = f ∧ asv = bs
def AQ {P : Program} {f : FuncId} {args : List AV} {blks : List Blk} {r : AV} (h : FnO P f args blks r) : Prop := CaC f f args args
def AP {P : Program} {f : FuncId} {args : List AV} {r : AV} (h : FnP P f args r) : Prop := CaC f f args args
def AM {P : Program} {f : FuncId} {args : List AV} {H : List Blk} {kp : List Nat} {blks : List Blk} {r : AV} (h : FnM P f args H kp blks r) : Prop := HaC f f H H args args
def snapK0 (heap : List (Nat × Blk)) (own : List (List (List CV))) : AV → Option (List (List (List CV)) × List Prop × AV)
 | .own b k off n => match look heap b, own with
  | some (.acc k' es _), es' :: r => bif decide (k = k') then some (r, [OwnC off n es es'], .c (.sl es')) else none
  | _, _ => none
 | .c (.val (.slice none 0 0)) => some (own, [], .c (.sl []))
 | .c u => some (own, [], .c u)
 | .cel cs => some (own, [], .cel cs)
 | .clo f [] => some (own, [], .clo f [])
 | _ => none
def snapKC (heap : List (Nat × Blk)) : List (List (List CV)) → List AV → Option (List (List (List CV)) × List Prop × List AV)
 | own, [] => some (own, [], [])
 | own, a :: r => match snapK0 heap own a with
  | some (o1, c1, x) => match snapKC heap o1 r with
   | some (o2, c2, xs) => some (o2, c1 ++ c2, x :: xs)
   | none => none
  | none => none
def snapKA (heap : List (Nat × Blk)) (own : List (List (List CV))) : AV → Option (List (List (List CV)) × List Prop × AV)
 | .agg cs => match snapKC heap own cs with
  | some (o, c, xs) => some (o, c, .agg xs)
  | none => none
 | av => snapK0 heap own av
def snapKL (heap : List (Nat × Blk)) : List (List (List CV)) → List AV → Option (List (List (List CV)) × List Prop × List AV)
 | own, [] => some (own, [], [])
 | own, a :: r => match snapKA heap own a with
  | some (o1, c1, x) => match snapKL heap o1 r with
   | some (o2, c2, xs) => some (o2, c1 ++ c2, x :: xs)
   | none => none
  | none => none
def snapKP (heap : List (Nat × Blk)) (own : List (List (List CV))) : AV → Option (List (List (List CV)) × List Prop × AV)
 | .ptr b off => match look heap b with
  | some (.box cells _) => match snapKC heap own (cells.drop off) with
   | some (o, c, xs) => match closedL xs with
    | some us => some (o, c, .cel us)
    | none => none
   | none => none
  | _ => none
 | av => snapKA heap own av
def snapKPL (heap : List (Nat × Blk)) : List (List (List CV)) → List AV → Option (List (List (List CV)) × List Prop × List AV)
 | own, [] => some (own, [], [])
 | own, a :: r => match snapKP heap own a with
  | some (o1, c1, x) => match snapKPL heap o1 r with
   | some (o2, c2, xs) => some (o2, c1 ++ c2, x :: xs)
   | none => none
  | none => none
def snapKF (heap : List (Nat × Blk)) (own : List (List (List CV))) : AV → Option (List (List (List CV)) × List Prop × AV)
 | .clo f caps => match snapKPL heap own caps with
  | some (o, c, xs) => some (o, c, .clo f xs)
  | none => none
 | av => snapKP heap own av
def snapKFL (heap : List (Nat × Blk)) : List (List (List CV)) → List AV → Option (List (List (List CV)) × List Prop × List AV)
 | own, [] => some (own, [], [])
 | own, a :: r => match snapKF heap own a with
  | some (o1, c1, x) => match snapKFL heap o1 r with
   | some (o2, c2, xs) => some (o2, c1 ++ c2, x :: xs)
   | none => none
  | none => none
mutual
def flatQ : AV → Bool
 | .c (.val _) => true
 | .c .any => true
 | .c (.sl []) => true
 | .clo _ caps => flatQs caps
 | .agg cs => flatQs cs
 | .tup cs => flatQs cs
 | .top => true
 | .own _ _ _ _ => true
 | .osl _ _ _ => true
 | .mref _ => true
 | .ptr _ _ => true
 | .aptr _ _ _ _ => true
 | .pl _ _ => true
 | .tr _ => true
 | _ => false
def flatQs : List AV → Bool
 | [] => true
 | a :: r => flatQ a && flatQs r
end
def flatBQ (blks : List Blk) : Bool := blks.all fun b => match b with | .box cells _ => flatQs cells | .acc _ _ _ => false | _ => false
def menQ0 (π : List Nat) : AV → Bool
 | .own b _ _ _ => (posOf π b).isSome
 | .osl b _ _ => (posOf π b).isSome
 | .mref b => (posOf π b).isSome
 | .ptr b _ => (posOf π b).isSome
 | .aptr b _ _ _ => (posOf π b).isSome
 | .tr b => (posOf π b).isSome
 | .top => true
 | .cel _ => true
 | .pl _ _ => true
 | .c _ => true
 | .clo _ [] => true
 | _ => false
def menQ1 (π : List Nat) : AV → Bool
 | .agg cs => cs.all (menQ0 π)
 | .clo _ caps => caps.all (menQ0 π)
 | .tup [] => true
 | av => menQ0 π av
def menQB (π : List Nat) : Blk → Bool
 | .box cells _ => cells.all (menQ1 π)
 | .acc _ _ _ => true
 | .raw => true
 | .mp _ => true
 | .tre _ => true
 | .arr _ _ _ none => true
 | .arr _ _ _ (some h) => h.2.all (menQ1 π)
 | .opn av => menQ1 π av
 | _ => false
def menQH (π : List Nat) (heap : List (Nat × Blk)) : Bool := π.all fun b => match look heap b with | some blk => menQB π blk | none => false
def nodupQ : List Nat → Bool
 | [] => true
 | b :: r => !r.contains b && nodupQ r
def stepK (P : Program) (eq : EQ) (tt : TT) (tmps : List (Nat × AV)) (heap : List (Nat × Blk)) (nxt : Nat) (o : Oper) : Option (Hint P) → Option (List Prop × Eff)
 | none => match reckB eq tt tmps heap nxt o with
  | some (vc, e) => some (bif quietV eq tt tmps heap o then [] else [vc], e)
  | none => none
 | some (.tell av) => match reckB eq tt tmps heap nxt o with
  | some (vc, ⟨some a, wr, kl, nx⟩) => some ((bif quietV eq tt tmps heap o then [] else [vc]) ++ [a = av], ⟨some av, wr, kl, nx⟩)
  | _ => none
 | some (.row cs) => match o.op with
  | .indexAddr t x i => match tdesc tt t, evT tmps i with
   | some (.slice e), .c (.val (.int _ n)) => match tsize tt e, evT tmps x with
    | some size, .c (.sl es) => bif decide (cs.length = size) then some ([IdxC n es cs], ⟨some (.cel cs), [], [], nxt⟩) else none
    | _, _ => none
   | _, _ => none
  | .load t x => match tagg tt t, evT tmps x with
   | some (b, n), .aptr p k i off => match look heap p with
    | some (.acc k' es _) => bif decide (k = k') && (bif b then decide (off + n ≤ cs.length) else decide (off < cs.length))
     then some ([RowC i es cs], ⟨some (bif b then .agg (((cs.drop off).take n).map .c) else .c (cs.getD off default)), [], [], nxt⟩) else none
    | _ => none
   | _, _ => none
  | _ => none
 | some (.put cs es') => match o.op with
  | .store t a x => match tsize tt t, (cellsOf (evT tmps x)).bind closedL, evT tmps a with
   | some n, some us, .aptr p k i off => match look heap p with
    | some (.acc k' es ty) => bif decide (k = k') && (decide (us.length = n) && decide (off + us.length ≤ cs.length))
     then some ([RowC i es cs, es.set i (cs.take off ++ us ++ cs.drop (off + us.length)) = es'], ⟨none, [(p, .acc k' es' ty)], [], nxt⟩) else none
    | _ => none
   | _, _, _ => none
  | _ => none
 | some .at => match o.op with
  | .indexAddr t x i => match tdesc tt t, evT tmps i with
   | some (.slice e), .c (.val (.int _ n)) => match tsize tt e, evT tmps x with
    | some size, .own b k 0 m => bif decide (k = size) then some ([IxO n m], ⟨some (.aptr b k n.toNat 0), [], [], nxt⟩) else none
    | _, _ => none
   | _, _ => none
  | _ => none
 | some (.cut es') => match o.op with
  | .slice t x lo hi none => match tdesc tt t, boundE tmps 0 lo, boundE tmps 0 hi with
   | some (.slice e), some (v1, l), some (v2, h) => match tsize tt e, evT tmps x with
    | some size, .c (.sl es) => some ([SlC v1 v2 l (bif hi.isSome then h else es.length) size es es'], ⟨some (.c (.sl es')), [], [], nxt⟩)
    | _, _ => none
   | _, _, _ => none
  | _ => none
 | some (.app ns es' n') => match o.op with
  | .call { callee := .builtin .append, args, argTypes } => match args.toList, argTypes.toList with
   | [s, x], [t, t'] => match tdesc tt t with
    | some (.slice e) => match tsize tt e, tbytes tt e, snapK0 heap [ns] (evT tmps x) with
     | some k, some by_, some (_, c, .c (.sl ms)) => bif decide (t = t') && decide (0 < k) then match evT tmps s with
      | .c (.val (.slice none 0 0)) => some (c ++ [AppC k by_ [] ms es' 0 n'], ⟨some (.own nxt k 0 n'), [(nxt, .acc k es' e)], [], nxt + 1⟩)
      | .own b k' off n => match look heap b with
       | some (.acc k'' es ty) => bif decide (k' = k) && (decide (k'' = k) && (decide (ty = e) && decide (off = 0)))
        then some (c ++ [AppC k by_ es ms es' n n'], ⟨some (.own b k 0 n'), [(b, .acc k es' e)], [b], nxt⟩) else none
       | _ => none
      | _ => none else none
     | _, _, _ => none
    | _ => none
   | _, _ => none
  | _ => none
 | some (.mk es' n') => match o.op with
  | .makeSlice t l c => match tdesc tt t, evT tmps l, evT tmps c with
   | some (.slice e), .c (.val (.int _ n)), .c (.val (.int _ m)) => match tzero tt e, tbytes tt e, tsize tt e with
    | some z, some by_, some k => bif decide (0 < k) then some ([n = m, MkC by_ n z es' n'], ⟨some (.own nxt k 0 n'), [(nxt, .acc k es' e)], [], nxt + 1⟩) else none
    | _, _, _ => none
   | _, _, _ => none
  | _ => none
 | some (.call f args blks r h own) => match calleeAV tmps o.op with
  | some (g, asv) => match snapKL heap own asv with
   | some (_, c, xs) => bif (menLs asv).isEmpty || (flatQ r && flatBQ blks)
    then some (c ++ [CaC g f xs args], ⟨some (shiftAV nxt r), shiftBs nxt 0 blks, [], nxt + blks.length⟩) else none
   | none => none
  | none => none
 | some .mapNew => match o.op with
  | .makeMap t none => some ([], ⟨some (.mref nxt), [(nxt, .mp [])], [], nxt + 1⟩)
  | _ => none
 | some (.mapLook v) => match o.op with
  | .lookup t m i false => match tdesc tt t, evT tmps m, evT tmps i with
   | some (.map k e), .mref b, .agg cs => match tdesc tt k, eq k, intsOf cs, look heap b, tzero tt e with
    | some (.struct _), some n, some ks, some (.mp es), some [.val z] => bif decide (ks.length = n) && v.oneCell' then some ([KeyOk P k n, ZeroOk P e z, SameK es ks, lookM es ks z = v], ⟨some (.c (.val v)), [], [], nxt⟩) else none
    | _, _, _, _, _ => none
   | _, _, _ => none
  | _ => none
 | some (.mapPut es') => match o.op with
  | .mapUpdate t m i y => match tdesc tt t, evT tmps m, evT tmps i, evT tmps y with
   | some (.map k e), .mref b, .agg cs, .c (.val v) => match tdesc tt k, eq k, intsOf cs, look heap b with
    | some (.struct _), some n, some ks, some (.mp es) => bif decide (ks.length = n) then some ([KeyOk P k n, SameK es ks, putM es ks v = es'], ⟨none, [(b, .mp es')], [], nxt⟩) else none
    | _, _, _, _ => none
   | _, _, _, _ => none
  | _ => none
 | some (.see f args r h own) => match calleeAV tmps o.op with
  | some (g, asv) => match snapKFL heap own asv with
   | some (_, c, xs) => bif flatQ r then some (c ++ [CaC g f xs args], ⟨some r, [], [], nxt⟩) else none
   | none => none
  | none => none
 | some (.mut π f args H kp blks r h) => match calleeAV tmps o.op with
  | some (g, asv) => match hzBs π (heapR heap π) π, frzL (hz1 π (heapR heap π)) asv with
   | some (_, H'), some (_, xs) => bif (nodupQ π && (π.all (fun b => decide (b < nxt)) && (menQH π heap && asv.all (menQ1 π))))
    then some ([HaC g f H' H xs args], ⟨some (renAV (ren π nxt) r), renBs (ren π nxt) 0 blks, kls kp 0 π, nxt + (blks.length - π.length)⟩) else none
   | _, _ => none
  | none => none
 | some .mkBox => match o.op with
  | .makeSlice t l c => match tdesc tt t, evT tmps l, evT tmps c with
   | some (.slice e), .c (.val (.int _ n)), .c (.val (.int _ m)) => match tzero tt e, tbytes tt e, tsize tt e with
    | some [z], some by_, some 1 => bif decide (n = m) && (decide (0 ≤ n) && (decide (n ≤ 1048576) && decide (by_ ≤ 1024)))
     then some ([], ⟨some (.osl nxt 0 n.toNat), [(nxt, .box (List.replicate n.toNat (.c z)) e)], [], nxt + 1⟩) else none
    | _, _, _ => none
   | _, _, _ => none
  | _ => none
 | some (.ext f ok) => f eq tt tmps heap nxt o
structure GE where
 gs : List (Nat × Bool)
 v : AV
structure GS where
 env : List (Nat × GE)
 tab : List (Nat × Bool)
 tmps : List (Nat × AV)
 heap : List (Nat × Blk)
 nxt : Nat
def holds (tab : List (Nat × Bool)) (gs : List (Nat × Bool)) : Bool := gs.all fun x => match look tab x.1 with | some q => bif x.2 then q else !q | none => false
def GS.real (g : GS) : AState := ⟨(g.env.map fun p => (p.1, bif holds g.tab p.2.gs then p.2.v else .tup [])) ++ g.tmps, g.heap, g.nxt⟩
def subG (gs cur : List (Nat × Bool)) : Bool := gs.all fun x => cur.any fun y => y.1 == x.1 && y.2 == x.2
def GS.view (g : GS) (cur : List (Nat × Bool)) : List (Nat × AV) := (g.env.map fun p => (p.1, bif subG p.2.gs cur then p.2.v else .top)) ++ g.tmps
def merge0 (q : Bool) : AV → AV → AV
 | .c (.val (.bool x)), .c (.val (.bool y)) => .c (.val (.bool (bif q then x else y)))
 | .c (.val (.int k x)), .c (.val (.int k' y)) => bif decide (k = k') then .c (.val (.int k (bif q then x else y))) else .top
 | .c (.sl x), .c (.sl y) => .c (.sl (bif q then x else y))
 | a, b => bif q then a else b
def mergeA (q : Bool) (xs ys : List AV) : AV := bif decide (xs.length = ys.length) then .agg (List.zipWith (merge0 q) xs ys) else bif q then .agg xs else .agg ys
def mergeV (q : Bool) : AV → AV → AV
 | .c (.val (.bool x)), .c (.val (.bool y)) => .c (.val (.bool (bif q then x else y)))
 | .c (.val (.int k x)), .c (.val (.int k' y)) => bif decide (k = k') then .c (.val (.int k (bif q then x else y))) else .top
 | .c (.sl x), .c (.sl y) => .c (.sl (bif q then x else y))
 | .agg xs, .agg ys => mergeA q xs ys
 | a, b => bif q then a else b
def guardK (all : Array Oper) (g : GS) (o : Oper) : Option (GS × List (Nat × Bool)) :=
 match o.guard with
 | none => some (g, [])
 | some (j, want) => match (all[j]?).bind (·.dst) with
  | some d => match look g.env d with
   | some ge => match ge.v with
    | .c (.val (.bool q)) => match look g.tab d with
     | some _ => some (g, ge.gs ++ [(d, want)])
     | none => some ({ g with tab := (d, q) :: g.tab }, ge.gs ++ [(d, want)])
    | _ => none
   | none => none
  | none => none
def pickK (g : GS) (cur : List (Nat × Bool)) (c a b : Operand) : Option AV :=
 match c with
 | .tmp d => match look g.env d with
  | some ge => bif subG ge.gs cur then match ge.v with
   | .c (.val (.bool q)) => some (mergeV q (evT (g.view (cur ++ [(d, true)])) a) (evT (g.view (cur ++ [(d, false)])) b))
   | _ => none else none
  | none => match look g.tmps d with
   | some (.c (.val (.bool q))) => some (mergeV q (evT (g.view cur) a) (evT (g.view cur) b))
   | _ => none
 | _ => none
def effK (P : Program) (eq : EQ) (tt : TT) (hs : List (Nat × Hint P)) (i : Nat) (g : GS) (cur : List (Nat × Bool)) (o : Oper) : Option (List Prop × Eff) :=
 match o.op with
 | .pick c a b => match pickK g cur c a b with
  | some v => some ([], ⟨some v, [], [], g.nxt⟩)
  | none => none
 | _ => stepK P eq tt (g.view cur) g.heap g.nxt o (look hs i)
def impl (tab : List (Nat × Bool)) : List (Nat × Bool) → Prop → Prop
 | [], p => p
 | x :: r, p => match look tab x.1 with
  | some q => (q = x.2 → impl tab r p)
  | none => impl tab r p
def under (tab : List (Nat × Bool)) (cur : List (Nat × Bool)) : List Prop → List Prop
 | [] => []
 | p :: r => impl tab cur p :: under tab cur r
def envK : List Nat → List (Nat × GE) → List (Nat × GE)
 | [], l => l
 | ks, l => l.map fun p => (p.1, ⟨p.2.gs, killsAV ks p.2.v⟩)
def putE (d : Option Tmp) (x : GE) (l : List (Nat × GE)) : List (Nat × GE) := match d with | some t => (t, x) :: l | none => l
def GS.put (g : GS) (cur : List (Nat × Bool)) (o : Oper) (e : Eff) : GS :=
 { env := putE o.dst ⟨cur, e.res.getD (.tup [])⟩ (envK e.kill g.env), tab := g.tab, tmps := killT e.kill g.tmps, heap := upd e.wr (killH e.kill g.heap), nxt := e.next }
def runK (P : Program) (eq : EQ) (tt : TT) (n : Nat) (all : Array Oper) (hs : List (Nat × Hint P)) : Nat → List Oper → GS → Option (List Prop × GS)
 | _, [], g => some ([], g)
 | i, o :: r, g => match guardK all g o with
  | some (g1, cur) => match effK P eq tt hs i g1 cur o with
   | some (cs, e) => bif (match o.dst with | some t => decide (t < n) && (match look g1.tab t with | none => true | some _ => false) | none => true) && (cur.isEmpty || (e.wr.isEmpty && (e.kill.isEmpty && decide (e.next = g1.nxt))))
    then match runK P eq tt n all hs (i + 1) r (g1.put cur o e) with
     | some (cs', g') => some (under g1.tab cur cs ++ cs', g')
     | none => none
    else none
   | none => none
  | none => none
def keepT (g : GS) : List Nat → Option (List (Nat × AV))
 | [] => some []
 | t :: r => match (match look g.env t with | some ge => bif ge.gs.isEmpty then some ge.v else none | none => look g.tmps t), keepT g r with
  | some v, some l => some ((t, v) :: l)
  | _, _ => none
def keepB (g : GS) : List Nat → Option (List (Nat × Blk))
 | [] => some []
 | t :: r => match look g.heap t, keepB g r with
  | some v, some l => some ((t, v) :: l)
  | _, _ => none
def regK (P : Program) (eq : EQ) (tt : TT) (n : Nat) (ops : Array Oper) (hs : List (Nat × Hint P)) (s : AState) (ts bs : List Nat) : Option (List Prop × AState) :=
 match runK P eq tt n ops hs 0 ops.toList ⟨[], [], s.tmps, s.heap, s.nxt⟩ with
 | some (cs, g) => match keepT g ts, keepB g bs with
  | some T, some B => some (cs, ⟨T, B, g.nxt⟩)
  | _, _ => none
 | none => none
end Go.Ab
