/-
  A region whose order is drawn and that has guards, run by the kernel. Theorems for any program.
-/
import Derived.Test.YtpfgofnmkaljaaaMg32
set_option linter.unusedVariables false
set_option linter.unusedSimpArgs false
namespace Go.Ab
open Go Go.RowKit
def GS.full (g : GS) : AState := ⟨(g.env.map fun p => (p.1, p.2.v)) ++ g.tmps, g.heap, g.nxt⟩
def GS.vst (g : GS) (cur : List (Nat × Bool)) : AState := ⟨g.view cur, g.heap, g.nxt⟩
def chk1G (all : Array Oper) (l : List Rc) (q : Nat) : Bool :=
 match all[q]?, l[q]? with
 | some o, some r => o.after.all (fun x => !Region.binds .any x || decide (x.on < q)) && (r.ms ++ r.rd0).all (fun b => decide (b < r.nxt)) && r.hm.all (fun b => decide (b < r.nxt)) && decide (r.nxt ≤ r.nxt')
 | _, _ => false
def chkG (all : Array Oper) (l : List Rc) : Bool :=
 let anc := maskL all all.size
 (List.range all.size).all fun q => chk1G all l q && (List.range q).all fun p => chkPairM all anc l p q
def runDG (P : Program) (eq : EQ) (tt : TT) (n : Nat) (all : Array Oper) (hs : List (Nat × Hint P)) : Nat → List Oper → GS → List Rc → Option (List Prop × GS × List Rc)
 | _, [], g, l => some ([], g, l)
 | i, o :: r, g, l => match guardK all g o with
  | some (g1, cur) => match (match o.op with
    | .pick c a b => match pickK g1 cur c a b with
     | some v => some ([], ⟨some v, [], [], g1.nxt⟩)
     | none => none
    | _ => stepK P eq tt (g1.view cur) (heapR g1.heap (seen o (g1.vst cur))) g1.nxt o (look hs i) : Option (List Prop × Eff)) with
   | some (cs, e) => bif (match o.dst with | some t => decide (t < n) && (match look g1.tab t with | none => true | some _ => false) | none => true) && ((cur.isEmpty || (e.wr.isEmpty && (e.kill.isEmpty && decide (e.next = g1.nxt)))) && e.kill.all (fun k => (opnds (g1.view cur) o.op.operands.toList ++ seen o (g1.vst cur)).contains k))
    then match runDG P eq tt n all hs (i + 1) r (g1.put cur o e) (l ++ [rcOf o g1.full e]) with
     | some (cs', g', l') => some (under g1.tab cur cs ++ cs', g', l')
     | none => none
    else none
   | none => none
  | none => none
def drawG (P : Program) (eq : EQ) (tt : TT) (n : Nat) (ops : Array Oper) (hs : List (Nat × Hint P)) (s : AState) (ts bs : List Nat) : Option (List Prop × AState) :=
 match runDG P eq tt n ops hs 0 ops.toList ⟨[], [], s.tmps, s.heap, s.nxt⟩ [] with
 | some (cs, g, l) => bif chkG ops l then match keepT g ts, keepB g bs with
   | some T, some B => some (cs, ⟨T, B, g.nxt⟩)
   | _, _ => none
  else none
 | none => none
structure LeR (a b : Rc) : Prop where
 ms : ∀ x ∈ a.ms, x ∈ b.ms
 rd0 : ∀ x ∈ a.rd0, x ∈ b.rd0
 hm : ∀ x ∈ a.hm, x ∈ b.hm
 rd : ∀ x ∈ a.rd, x ∈ b.rd
 wr : ∀ x ∈ a.wr, x ∈ b.wr
 kl : ∀ x ∈ a.kl, x ∈ a.ms ++ a.rd0
 nxt : a.nxt = b.nxt
 nxt' : a.nxt' = b.nxt'
def LeL (a b : List Rc) : Prop := a.length = b.length ∧ ∀ (i : Nat) x y, a[i]? = some x → b[i]? = some y → LeR x y
theorem meet_mono {a b c d : List Nat} (h1 : ∀ x ∈ a, x ∈ c) (h2 : ∀ x ∈ b, x ∈ d) (h : meet a b = true) : meet c d = true := by
 simp only [meet, List.any_eq_true] at h ⊢
 obtain ⟨x, hx, hb⟩ := h
 exact ⟨x, h1 x hx, by simpa using h2 x (by simpa using hb)⟩
theorem confl_mono {all : Array Oper} {op oq : Oper} {p q p' q' : Rc} (hp : LeR p p') (hq : LeR q q') (h : confl all op oq p q = true) : confl all op oq p' q' = true := by
 simp only [confl, Bool.or_eq_true] at h ⊢
 rcases h with (h | h) | h
 ·exact .inl (.inl h)
 ·refine .inl (.inr (meet_mono hp.wr (fun x hx => ?_) h))
  rcases List.mem_append.1 hx with hx | hx
  ·exact List.mem_append_left _ (hq.rd x hx)
  ·exact List.mem_append_right _ (hq.wr x hx)
 ·exact .inr (meet_mono hq.wr hp.rd h)
theorem chkG_ok {all : Array Oper} {l lF : List Rc} (hle : LeL l lF) (h : chkG all lF = true) : chkD all l = true := by
 simp only [chkG, chkD, List.all_eq_true, Bool.and_eq_true] at h ⊢
 have get : ∀ (i : Nat) y, lF[i]? = some y → ∃ x, l[i]? = some x ∧ LeR x y := fun i y hy => by
  have hi : i < l.length := by rw [hle.1]; exact (List.getElem?_eq_some_iff.1 hy).1
  exact ⟨l[i], List.getElem?_eq_getElem hi, hle.2 i _ y (List.getElem?_eq_getElem hi) hy⟩
 refine fun q hq => ⟨?_, fun p hp => ?_⟩
 ·have := (h q hq).1
  unfold chk1G at this
  split at this
  ·rename_i o r h1 h2
   obtain ⟨x, hx, le⟩ := get q r h2
   simp only [Bool.and_eq_true, List.all_eq_true, decide_eq_true_eq] at this
   obtain ⟨⟨⟨g1, g2⟩, g3⟩, g4⟩ := this
   simp only [chk1, h1, hx, Bool.and_eq_true, List.all_eq_true, decide_eq_true_eq]
   refine ⟨⟨⟨⟨g1, fun b hb => ?_⟩, fun b hb => by rw [le.nxt]; exact g3 b (le.hm b hb)⟩, by rw [le.nxt, le.nxt']; exact g4⟩, fun k hk => by simpa using le.kl k hk⟩
   rw [le.nxt]
   refine g2 b ?_
   rcases List.mem_append.1 hb with hb | hb
   ·exact List.mem_append_left _ (le.ms b hb)
   ·exact List.mem_append_right _ (le.rd0 b hb)
  ·cases this
 ·have := (h q hq).2 p hp
  unfold chkPairM at this
  split at this
  ·rename_i op oq rp rq e1 e2 e3 e4
   obtain ⟨x, hx, lex⟩ := get p rp e3
   obtain ⟨y, hy, ley⟩ := get q rq e4
   simp only [chkPair, e1, e2, hx, hy, Bool.and_eq_true, Bool.or_eq_true] at this ⊢
   refine ⟨?_, this.2⟩
   cases hc : confl all op oq x y with
   | false => exact .inl rfl
   | true =>
    rcases this.1 with h | h
    ·rw [confl_mono lex ley hc] at h; cases h
    ·refine .inr ?_
     have := (maskL_ok all all.size).2.2 q p h
     simpa using this
  ·cases this
theorem opnds_mono {t t' : List (Nat × AV)} (h : ∀ x b, b ∈ menAV (evT t x) → b ∈ menAV (evT t' x)) : ∀ {l : List Operand} {b : Nat}, b ∈ opnds t l → b ∈ opnds t' l
 | [], b, hb => by cases hb
 | x :: r, b, hb => by
  simp only [opnds, List.mem_append] at hb ⊢
  exact hb.imp (h x b) (opnds_mono h)
theorem menH_mono {heap : List (Nat × Blk)} {l l' : List Nat} (h : ∀ b ∈ l, b ∈ l') {b : Nat} (hb : b ∈ menH heap l) : b ∈ menH heap l' := by
 obtain ⟨c, blk, h1, h2, h3⟩ := mem_menH hb
 exact menH_mem (h c h1) h2 h3
theorem seen_mono {o : Oper} {s s' : AState} (hh : s.heap = s'.heap) (h : ∀ x b, b ∈ menAV (evT s.tmps x) → b ∈ menAV (evT s'.tmps x)) {b : Nat} (hb : b ∈ seen o s) : b ∈ seen o s' := by
 unfold seen at hb ⊢
 cases hbl : blindO o.op with
 | true => rw [hbl] at hb; cases hb
 | false =>
  rw [hbl] at hb
  simp only [cond_false, List.mem_append] at hb ⊢
  rcases hb with hb | hb
  ·exact .inl (opnds_mono h hb)
  ·cases hsh : shallowO o.op with
   | true => rw [hsh] at hb; cases hb
   | false =>
    rw [hsh] at hb
    rw [← hh]
    exact .inr (menH_mono (fun b hb => opnds_mono h hb) hb)
theorem full_look {g : GS} {t : Nat} : look g.full.tmps t = match look g.env t with | some ge => some ge.v | none => look g.tmps t := by
 simp only [GS.full, look_append, look_mapK (fun e : GE => e.v)]
 cases look g.env t <;> simp
theorem men_real_full {g : GS} (x : Operand) (b : Nat) (h : b ∈ menAV (evT g.real.tmps x)) : b ∈ menAV (evT g.full.tmps x) := by
 cases x with
 | tmp t =>
  simp only [evT, real_look, full_look] at h ⊢
  cases he : look g.env t with
  | none => rw [he] at h; exact h
  | some ge =>
   rw [he] at h
   simp only [Option.getD_some] at h ⊢
   cases hh : holds g.tab ge.gs with
   | true => rw [hh] at h; exact h
   | false => rw [hh] at h; simp [menAV, menLs] at h
 | _ => exact h
theorem men_view_real {g : GS} {cur : List (Nat × Bool)} (hc : holds g.tab cur = true) (x : Operand) (b : Nat) (h : b ∈ menAV (evT (g.view cur) x)) : b ∈ menAV (evT g.real.tmps x) := by
 cases x with
 | tmp t =>
  simp only [evT, real_look, view_look] at h ⊢
  cases he : look g.env t with
  | none => rw [he] at h; exact h
  | some ge =>
   rw [he] at h
   simp only [Option.getD_some] at h ⊢
   cases hs : subG ge.gs cur with
   | true => rw [hs] at h; rw [holds_sub hs hc]; exact h
   | false => rw [hs] at h; simp [menAV] at h
 | _ => exact h
theorem rc_le_run {g : GS} {cur : List (Nat × Bool)} (hc : holds g.tab cur = true) {o : Oper} {e : Eff} (hk : ∀ k ∈ e.kill, k ∈ opnds (g.view cur) o.op.operands.toList ++ seen o (g.vst cur)) : LeR (rcOf o g.real e) (rcOf o g.full e) := by
 have hs : ∀ b ∈ seen o g.real, b ∈ seen o g.full := fun b hb => seen_mono (s := g.real) (s' := g.full) rfl men_real_full hb
 have ho : ∀ b ∈ opnds g.real.tmps o.op.operands.toList, b ∈ opnds g.full.tmps o.op.operands.toList := fun b hb => opnds_mono men_real_full hb
 have hh : ∀ b ∈ menH g.real.heap (seen o g.real), b ∈ menH g.full.heap (seen o g.full) := fun b hb => menH_mono hs hb
 refine ⟨ho, hs, hh, fun b hb => ?_, fun b hb => hb, fun k hk' => ?_, rfl, rfl⟩
 ·simp only [rcOf, List.mem_append] at hb ⊢
  rcases hb with hb | ((hb | hb) | hb) | hb
  ·exact .inl (ho b hb)
  ·exact .inr (.inl (.inl (.inl (hs b hb))))
  ·exact .inr (.inl (.inl (.inr (hh b hb))))
  ·exact .inr (.inl (.inr hb))
  ·exact .inr (.inr hb)
 ·simp only [rcOf, List.mem_append] at hk' ⊢
  rcases List.mem_append.1 (hk k hk') with h | h
  ·exact .inl (opnds_mono (men_view_real hc) h)
  ·exact .inr (seen_mono (s := g.vst cur) (s' := g.real) rfl (men_view_real hc) h)
theorem rc_le_skip {g : GS} {o : Oper} {e : Eff} (hn : e.next = g.nxt) : LeR (rcOf o g.real (skipEff g.real.nxt)) (rcOf o g.full e) := by
 have hs : ∀ b ∈ seen o g.real, b ∈ seen o g.full := fun b hb => seen_mono (s := g.real) (s' := g.full) rfl men_real_full hb
 have ho : ∀ b ∈ opnds g.real.tmps o.op.operands.toList, b ∈ opnds g.full.tmps o.op.operands.toList := fun b hb => opnds_mono men_real_full hb
 have hh : ∀ b ∈ menH g.real.heap (seen o g.real), b ∈ menH g.full.heap (seen o g.full) := fun b hb => menH_mono hs hb
 refine ⟨ho, hs, hh, fun b hb => ?_, fun b hb => by simp [rcOf, skipEff, idsW] at hb, fun k hk' => by simp [rcOf, skipEff] at hk', rfl, hn.symm⟩
 simp only [rcOf, List.mem_append, skipEff, resOf, menAV, menLs, menW, List.not_mem_nil, or_false] at hb ⊢
 rcases hb with hb | hb | hb
 ·exact .inl (ho b hb)
 ·exact .inr (.inl (.inl (.inl (hs b hb))))
 ·exact .inr (.inl (.inl (.inr (hh b hb))))
theorem OpW.weak {cx : Cx} {o : Oper} {ev ev' : Operand → AV} {hp hp' : Nat → Option Blk} {nxt : Nat} {e : Eff} (h : OpW cx o ev hp nxt e) (hev : ∀ x, ev x = ev' x ∨ ev x = .top) (hhp : ∀ b blk, hp b = some blk → hp' b = some blk) : OpW cx o ev' hp' nxt e := by
 intro A ι w a hA hm hm2 hok hf hr hh Q
 refine h A ι w a hA hm hm2 hok hf (fun x hx => ?_) (fun b blk hb => hh b blk (hhp b blk hb)) Q
 rcases hev x with he | he
 ·rw [he]; exact hr x hx
 ·rw [he]; exact .top _
theorem view_real {g : GS} {cur : List (Nat × Bool)} (hc : holds g.tab cur = true) (x : Operand) : evT (g.view cur) x = evT g.real.tmps x ∨ evT (g.view cur) x = .top := by
 cases x with
 | tmp t =>
  simp only [evT, real_look, view_look]
  cases he : look g.env t with
  | none => exact .inl rfl
  | some ge =>
   simp only [Option.getD_some]
   cases hs : subG ge.gs cur with
   | true => rw [holds_sub hs hc]; exact .inl rfl
   | false => exact .inr rfl
 | _ => exact .inl rfl
theorem view_real_plus {g : GS} {cur : List (Nat × Bool)} (hI : InvG g) (hc : holds g.tab cur = true) {d : Nat} {q : Bool} {ge : GE} (he : look g.env d = some ge) (hq : ge.v = .c (.val (.bool q))) (x : Operand) :
  evT (g.view (cur ++ [(d, q)])) x = evT g.real.tmps x ∨ evT (g.view (cur ++ [(d, q)])) x = .top := by
 have key : ∀ e t, look g.env t = some e → subG e.gs (cur ++ [(d, q)]) = true → holds g.tab e.gs = true := fun e t h1 h2 => by
  have hk := hI.keys _ (look_mem h1)
  simp only [subG, holds, List.all_eq_true, List.any_eq_true, Bool.and_eq_true, beq_iff_eq] at h2 hc ⊢
  intro y hy
  obtain ⟨z, hz, h3, h4⟩ := h2 y hy
  rcases List.mem_append.1 hz with hz | hz
  ·have := hc z hz
   rw [h3, h4] at this
   exact this
  ·simp only [List.mem_singleton] at hz
   subst hz
   obtain ⟨q', hq'⟩ := hk y hy
   obtain ⟨ge', g1, g2⟩ := hI.tab _ _ hq'
   simp only at h3 h4
   rw [← h3, he] at g1
   cases g1
   rw [hq] at g2
   cases g2
   rw [hq', ← h4]
   cases q <;> rfl
 cases x with
 | tmp t =>
  simp only [evT, real_look, view_look]
  cases hl : look g.env t with
  | none => exact .inl rfl
  | some e =>
   simp only [Option.getD_some]
   cases hs : subG e.gs (cur ++ [(d, q)]) with
   | true => rw [key e t hl hs]; exact .inl rfl
   | false => exact .inr rfl
 | _ => exact .inl rfl
theorem pick_opW {cx : Cx} {g : GS} (hI : InvG g) {cur : List (Nat × Bool)} {o : Oper} {c x y : Operand} (hop : o.op = .pick c x y) {v : AV} (h : pickK g cur c x y = some v) (hc : holds g.tab cur = true) (hp : Nat → Option Blk) :
  OpW cx o (evT g.real.tmps) hp g.nxt ⟨some v, [], [], g.nxt⟩ := by
 intro A ι w a hA hm hm2 hok hf hr hh Q
 have hx : Rep (Still A ι w) ι w (evT g.real.tmps x) (a.eval x) := hr x (by simp [hop, Op.operands])
 have hy : Rep (Still A ι w) ι w (evT g.real.tmps y) (a.eval y) := hr y (by simp [hop, Op.operands])
 have hcr : Rep (Still A ι w) ι w (evT g.real.tmps c) (a.eval c) := hr c (by simp [hop, Op.operands])
 have top : ∀ {av av' : AV} {z : Value}, (av = av' ∨ av = .top) → Rep (Still A ι w) ι w av' z → Rep (Still A ι w) ι w av z := fun h1 h2 => by
  rcases h1 with h1 | h1
  ·rw [h1]; exact h2
  ·rw [h1]; exact .top _
 have key : ∃ q, a.eval c = .bool q ∧ Rep (Still A ι w) ι w v (if q then a.eval x else a.eval y) := by
  unfold pickK at h
  split at h
  ·rename_i d
   split at h
   ·rename_i ge hd
    cases hs : subG ge.gs cur with
    | false => rw [hs] at h; cases h
    | true =>
     rw [hs] at h
     simp only [cond_true] at h
     split at h
     ·rename_i q hq
      cases h
      have h2 : a.eval (.tmp d) = .bool q := by
       simp only [evT, real_look, hd, holds_sub hs hc, cond_true, hq, Option.getD_some] at hcr
       exact hcr.valOf rfl
      refine ⟨q, h2, mergeV_ok ?_⟩
      have h3 := view_real_plus hI hc hd hq
      cases q with
      | true => exact top (h3 x) hx
      | false => exact top (h3 y) hy
     ·cases h
   ·rename_i hd
    split at h
    ·rename_i q hq
     cases h
     have h2 : a.eval (.tmp d) = .bool q := by
      simp only [evT, real_look, hd, hq, Option.getD_some] at hcr
      exact hcr.valOf rfl
     refine ⟨q, h2, mergeV_ok ?_⟩
     cases q with
     | true => exact top (view_real hc x) hx
     | false => exact top (view_real hc y) hy
    ·cases h
  ·cases h
 obtain ⟨q, h1, h2⟩ := key
 refine ⟨about_trivial cx o a w, ?_⟩
 rw [semAt_plain _ _ _ (by rw [hop]; intro c hc; cases hc)]
 have : (execOp a.eval o).run cx.P w = .ok (.value (if q then a.eval x else a.eval y)) w := by simp [execOp, hop, h1, asBool]
 rw [this]
 simp only [Oper.uponIn]
 exact ⟨_, ι, rfl, h2, StepR.refl hok _ _, fun p hp => by simp at hp, hf, fun k hk => by cases hk⟩
theorem guardK_y {all : Array Oper} {g g1 : GS} {o : Oper} {cur : List (Nat × Bool)} (h : guardK all g o = some (g1, cur)) (hI : InvG g) :
  (o.guard = none ∧ holds g1.tab cur = true) ∨ ∃ j want, o.guard = some (j, want) ∧ ((∃ q, yAV all g.real.tmps j = .c (.val (.bool q)) ∧ holds g1.tab cur = (q == want)) ∨ (yAV all g.real.tmps j = .tup [] ∧ holds g1.tab cur = false)) := by
 unfold guardK at h
 split at h
 ·rename_i hg
  cases h
  exact .inl ⟨hg, rfl⟩
 ·rename_i j want hg
  refine .inr ⟨j, want, hg, ?_⟩
  split at h
  ·rename_i d hd
   split at h
   ·rename_i ge he
    split at h
    ·rename_i q hq
     have hyv : yAV all g.real.tmps j = bif holds g.tab ge.gs then .c (.val (.bool q)) else .tup [] := by
      simp only [yAV, hd, real_look, he, hq, Option.getD_some]
     have hgk := hI.keys _ (look_mem he)
     have fin : ∀ tab, look tab d = some q → holds tab ge.gs = holds g.tab ge.gs → ((∃ q, yAV all g.real.tmps j = .c (.val (.bool q)) ∧ holds tab (ge.gs ++ [(d, want)]) = (q == want)) ∨ (yAV all g.real.tmps j = .tup [] ∧ holds tab (ge.gs ++ [(d, want)]) = false)) := fun tab ht hh => by
      have h1 : holds tab [(d, want)] = (q == want) := by
       simp only [holds, List.all_cons, List.all_nil, Bool.and_true, ht]
       cases q <;> cases want <;> rfl
      rw [holds_app, hh, h1]
      cases hb : holds g.tab ge.gs with
      | true => rw [hb] at hyv; exact .inl ⟨q, hyv, by simp⟩
      | false => rw [hb] at hyv; exact .inr ⟨hyv, by simp⟩
     split at h
     ·rename_i q' ht
      cases h
      obtain ⟨ge', g2, g3⟩ := hI.tab _ _ ht
      rw [he] at g2
      cases g2
      rw [hq] at g3
      cases g3
      exact fin g.tab ht rfl
     ·rename_i ht
      cases h
      exact fin _ (by simp [look]) (holds_new ht hgk)
    ·cases h
   ·cases h
  ·cases h
theorem LeL.snoc {a b : List Rc} {x y : Rc} (h : LeL a b) (hx : LeR x y) : LeL (a ++ [x]) (b ++ [y]) := by
 refine ⟨by simp [h.1], fun i u v hu hv => ?_⟩
 by_cases hi : i < a.length
 ·rw [List.getElem?_append_left hi] at hu
  rw [List.getElem?_append_left (by rw [← h.1]; exact hi)] at hv
  exact h.2 i u v hu hv
 ·rw [List.getElem?_append_right (by omega)] at hu
  rw [List.getElem?_append_right (by rw [← h.1]; omega), ← h.1] at hv
  cases hj : i - a.length with
  | zero => rw [hj] at hu hv; simp at hu hv; subst hu hv; exact hx
  | succ k => rw [hj] at hu; simp at hu
theorem runDG_ok {cx : Cx} {eq : EQ} (heq : EqOk cx.P eq) (htt : TtOk cx.P cx.tt) {all : Array Oper} {hs : List (Nat × Hint cx.P)} {R : AState → Prop} {gE : GS} {lE : List Rc} (hfin : ∀ lr, LeL lr lE → chkD all lr = true ∧ R gE.real) :
  ∀ (ops : List Oper) (i : Nat) (g : GS) (l lr : List Rc) (cs : List Prop), runDG cx.P eq cx.tt cx.n all hs i ops g l = some (cs, gE, lE) → AllP cs → InvG g → LeL lr l → opsD rk0 cx all R ops lr g.real
 | [], i, g, l, lr, cs, h, hc, hI, hl => by cases h; exact hfin lr hl
 | o :: r, i, g, l, lr, cs, h, hc, hI, hl => by
  simp only [runDG] at h
  split at h
  ·rename_i g1 cur hg
   obtain ⟨hI1, hre, henv, hck, _⟩ := guardK_ok hg hI
   have hy := guardK_y hg hI
   split at h
   ·rename_i cs1 e he
    generalize hb : ((match o.dst with | some t => decide (t < cx.n) && (match look g1.tab t with | none => true | some _ => false) | none => true) && ((cur.isEmpty || (e.wr.isEmpty && (e.kill.isEmpty && decide (e.next = g1.nxt)))) && e.kill.all (fun k => (opnds (g1.view cur) o.op.operands.toList ++ seen o (g1.vst cur)).contains k))) = b at h
    cases b with
    | false => cases h
    | true =>
     simp only [cond_true] at h
     split at h
     ·rename_i cs2 g2 l2 hr
      cases h
      obtain ⟨hc1, hc2⟩ := AllP_app.1 hc
      simp only [Bool.and_eq_true, Bool.or_eq_true, List.isEmpty_iff, decide_eq_true_eq, List.all_eq_true] at hb
      obtain ⟨hb1, hb2, hb3⟩ := hb
      have hd : ∀ t, o.dst = some t → t < cx.n ∧ look g1.tab t = none := fun t ht => by
       rw [ht] at hb1
       simp only [Bool.and_eq_true, decide_eq_true_eq] at hb1
       refine ⟨hb1.1, ?_⟩
       cases hlt : look g1.tab t with
       | none => rfl
       | some q => rw [hlt] at hb1; simp at hb1
      have hI2 := put_inv (e := e) (cur := cur) (o := o) hI1 hck fun t ht => (hd t ht).2
      have hkill : ∀ k ∈ e.kill, k ∈ opnds (g1.view cur) o.op.operands.toList ++ seen o (g1.vst cur) := fun k hk => by simpa using hb3 k hk
      have hrun : holds g1.tab cur = true → OpW cx o (evT g.real.tmps) (look (heapR g.real.heap (seen o g.real))) g.real.nxt e ∧ opsD rk0 cx all R r (lr ++ [rcOf o g.real e]) (g.real.apply o e) := fun hh => by
       have ih := runDG_ok heq htt hfin r (i + 1) _ _ (lr ++ [rcOf o g1.real e]) _ hr hc2 hI2 (hl.snoc (rc_le_run hh hkill))
       rw [put_real hh] at ih
       rw [← hre]
       refine ⟨?_, ih⟩
       have hcs1 := under_ok hh hc1
       split at he
       ·rename_i c x y hop
        split at he
        ·rename_i v hv
         cases he
         exact pick_opW hI1 hop hv hh _
        ·cases he
       ·refine (stepK_ok heq htt he hcs1).weak (view_real hh) fun b blk hb => ?_
        rw [look_heapR] at hb ⊢
        cases hcb : (seen o (g1.vst cur)).contains b with
        | false => rw [hcb] at hb; cases hb
        | true =>
         rw [hcb] at hb
         have : b ∈ seen o g1.real := seen_mono (s := g1.vst cur) (s' := g1.real) rfl (men_view_real hh) (by simpa using hcb)
         have hcb2 : (seen o g1.real).contains b = true := by simpa using this
         rw [hcb2]
         exact hb
      have hskip : holds g1.tab cur = false → opsD rk0 cx all R r (lr ++ [rcOf o g.real (skipEff g.real.nxt)]) (g.real.apply o (skipEff g.real.nxt)) := fun hh => by
       have hb4 : e.wr = [] ∧ e.kill = [] ∧ e.next = g1.nxt := by
        rcases hb2 with hb2 | hb2
        ·subst hb2; simp [holds] at hh
        ·exact hb2
       have ih := runDG_ok heq htt hfin r (i + 1) _ _ (lr ++ [rcOf o g1.real (skipEff g1.real.nxt)]) _ hr hc2 hI2 (hl.snoc (rc_le_skip hb4.2.2))
       rw [put_skip hh hb4.1 hb4.2.1 hb4.2.2] at ih
       rw [← hre]
       exact ih
      have hdo : holds g1.tab cur = true → doD rk0 cx o (fun e => opsD rk0 cx all R r (lr ++ [rcOf o g.real e]) (g.real.apply o e)) g.real := fun hh => by
       obtain ⟨h1, h2⟩ := hrun hh
       simp only [doD]
       cases hca : calleeAV g.real.tmps o.op with
       | none => exact ⟨e, h1, h2⟩
       | some p => exact .inr ⟨e, h1, h2⟩
      simp only [opsD]
      refine ⟨?_, ?_⟩
      ·cases hdd : o.dst with
       | none => trivial
       | some t => exact (hd t hdd).1
      ·rcases hy with ⟨hg0, hh⟩ | ⟨j, want, hg0, ⟨q, hq, hh⟩ | ⟨hq, hh⟩⟩
       ·rw [hg0]
        exact hdo hh
       ·rw [hg0]
        simp only [hq]
        refine ⟨fun e1 => hdo (by rw [hh, e1]; simp), fun e1 => hskip (by rw [hh, e1]; cases want <;> rfl)⟩
       ·rw [hg0]
        simp only [hq]
        exact hskip hh
     ·cases h
   ·cases h
  ·cases h
theorem go_gk {cx : Cx} {eq : EQ} (heq : EqOk cx.P eq) (htt : TtOk cx.P cx.tt) (hm : cx.P.follows .mixedOrders = true) {Q : Post} {k : List K} {s : AState} {id : Nat} {ops : Array Oper} (hs : List (Nat × Hint cx.P)) (cs : List Prop) (s1 : AState)
  (h : drawG cx.P eq cx.tt cx.n ops hs s (s1.tmps.map (·.1)) (s1.heap.map (·.1)) = some (cs, s1)) (hc : AllP cs) (hk : Go' cx Q k s1) : Go' cx Q (.code (.region id ops true) :: k) s := by
 unfold drawG at h
 split at h
 ·rename_i cs' g l hr
  cases hch : chkG ops l with
  | false => rw [hch] at h; cases h
  | true =>
   rw [hch] at h
   simp only [cond_true] at h
   split at h
   ·rename_i T B hT hB
    cases h
    have key := runDG_ok heq htt (R := Go' cx Q k) (fun lr hlr => ⟨chkG_ok hlr hch, go_weak (s' := ⟨T, B, g.nxt⟩) (fun a w ⟨ι, hS⟩ => ⟨ι, keep_sat hT hB hS⟩) hk⟩) ops.toList 0 _ [] [] _ hr hc ⟨fun p hp => (by cases hp), fun d q hd => (by cases hd)⟩ ⟨rfl, fun i x y hx => by simp at hx⟩
    refine go_draw rk0_ok hm ?_
    simpa [GS.real] using key
   ·cases h
 ·cases h
end Go.Ab
