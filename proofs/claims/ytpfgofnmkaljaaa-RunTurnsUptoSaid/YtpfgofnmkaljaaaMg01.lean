/-
  The state of a call told by values and numbered blocks; how it stands to the model's frame and world; rules for code. Plain definitions and theorems for any program.
-/
import Derived.Test.YtpfgofnmkaljaaaMg00
import Derived.CallsIn
import Derived.TacticsIn
import Derived.RangeFuncCalls
set_option linter.unusedVariables false
set_option linter.unusedSimpArgs false
namespace Go.Ab
open Go
structure TI where
 desc : TypeDesc
 size : Nat
 bytes : Nat
 zero : List CV
def cvVal : CV → Value
 | .val x => x
 | .any => undef
 | .sl _ => .slice none 0 0
def TyOk (P : Program) (t : TypeId) (i : TI) : Prop :=
 P.underlying t = some i.desc ∧ (∀ u ∈ i.zero, (∃ x, u = .val x ∧ x.oneCell' = true) ∨ u = .sl []) ∧ i.zero.length = i.size ∧
 ∃ inf, P.info? t = some inf ∧ inf.size = i.size ∧ inf.bytes = i.bytes ∧ ∃ z, inf.zero = some z ∧ z.cells = (i.zero.map cvVal).toArray
abbrev TT := TypeId → Option TI
def TtOk (P : Program) (tt : TT) : Prop := ∀ t i, tt t = some i → TyOk P t i
def look {α : Type} : List (Nat × α) → Nat → Option α
 | [], _ => none
 | (k, v) :: r, t => bif k == t then some v else look r t
structure AState where
 tmps : List (Nat × AV)
 heap : List (Nat × Blk)
 nxt : Nat
structure Cx where
 P : Program
 tt : TT
 n : Nat
 eds : List Deferred
 rnd : Option Nat
 w0 : World
 M0 : Nat → Prop
 A : Nat → Prop
 hA : ∀ g, w0.heap.size ≤ g → A g
 hM : ∀ g, M0 g → A g
def FW (r : Option Nat) : Fence := { Fence.wide with round := r }
def IsMark (n0 : Nat) (ι : Pl) (w : World) (d : Deferred) : Prop :=
 ∃ D, d = { target := .collected D, args := #[] } ∧ n0 ≤ D ∧ w.heap[D]? = some (.deferred (some [])) ∧ ι.hid D = none ∧ ∀ b c, ι b ≠ some (.at D c)
def markAt (d : Deferred) : Nat := match d.target with | .collected D => D | _ => 0
structure Marks (n0 : Nat) (ι : Pl) (ds : List Deferred) (w : World) : Prop where
 all : ∀ d ∈ ds, IsMark n0 ι w d
 nd : (ds.map markAt).Nodup
theorem Marks.nil (n0 : Nat) (ι : Pl) (w : World) : Marks n0 ι [] w := ⟨fun d hd => (by cases hd), List.nodup_nil⟩
theorem Marks.step {n0 : Nat} {ι ι' : Pl} {ds : List Deferred} {w w' : World} {wr kill : Nat → Prop} (h : Marks n0 ι ds w) (hst : StepR ι w ι' w' wr kill) : Marks n0 ι' ds w' := by
 refine ⟨fun d hd => ?_, h.nd⟩
 obtain ⟨D, rfl, h1, h2, h0, h3⟩ := h.all d hd
 have hlt := (Array.getElem?_eq_some_iff.1 h2).1
 refine ⟨D, rfl, h1, by rw [hst.block D hlt (fun b c _ => h3 b c) fun b _ e => by rw [h0] at e; cases e]; exact h2, ?_, fun b c hb => ?_⟩
 ·cases hb : ι'.hid D with
  | none => rfl
  | some b =>
   rcases hst.hfresh D b hb with (⟨b', c', hc⟩ | ⟨b', hc⟩) | hc
   ·exact absurd hc (h3 b' c')
   ·rw [h0] at hc; cases hc
   ·omega
 rcases hst.fresh b D c hb with (⟨b', c', hc⟩ | ⟨b', hc⟩) | hc
 ·exact h3 b' c' hc
 ·rw [h0] at hc; cases hc
 ·omega
theorem Marks.pl {n0 : Nat} {ι ι' : Pl} {ds : List Deferred} {w : World} (h : Marks n0 ι ds w) (hι : ∀ b g c, ι' b = some (.at g c) → ∃ b' c', ι b' = some (.at g c')) (hh : ∀ g b, ι'.hid g = some b → ∃ b', ι.hid g = some b') : Marks n0 ι' ds w := by
 refine ⟨fun d hd => ?_, h.nd⟩
 obtain ⟨D, rfl, h1, h2, h0, h3⟩ := h.all d hd
 refine ⟨D, rfl, h1, h2, ?_, fun b c hb => by obtain ⟨b', c', hb'⟩ := hι b D c hb; exact h3 b' c' hb'⟩
 cases hb : ι'.hid D with
 | none => rfl
 | some b => obtain ⟨b', hc⟩ := hh D b hb; rw [h0] at hc; cases hc
structure Base (cx : Cx) (ι : Pl) (w : World) : Prop where
 os : w.os = cx.w0.os
 tape : w.tape = cx.w0.tape
 output : w.output = cx.w0.output
 size : cx.w0.heap.size ≤ w.heap.size
 block : ∀ g, g < cx.w0.heap.size → ¬ cx.M0 g → w.heap[g]? = cx.w0.heap[g]?
 own : ∀ b g c, ι b = some (.at g c) → cx.M0 g ∨ cx.w0.heap.size ≤ g
 hown : ∀ g b, ι.hid g = some b → cx.M0 g ∨ cx.w0.heap.size ≤ g
theorem Base.fresh {cx : Cx} {ι : Pl} {w : World} (h : Base cx ι w) : ∀ g, w.heap.size ≤ g → cx.A g := fun g hg =>
 cx.hA g (Nat.le_trans h.size hg)
theorem Base.owned {cx : Cx} {ι : Pl} {w : World} (h : Base cx ι w) {b g c : Nat} (hb : ι b = some (.at g c)) (hg : cx.w0.heap.size ≤ g) : cx.A g :=
 cx.hA g hg
theorem Base.mine {cx : Cx} {ι : Pl} {w : World} (h : Base cx ι w) {b g c : Nat} (hb : ι b = some (.at g c)) : cx.A g := (h.own b g c hb).elim (cx.hM g) (cx.hA g)
theorem Base.hmine {cx : Cx} {ι : Pl} {w : World} (h : Base cx ι w) {b g : Nat} (hb : ι.hid g = some b) : cx.A g := (h.hown g b hb).elim (cx.hM g) (cx.hA g)
theorem Base.step {cx : Cx} {ι ι' : Pl} {w w' : World} {wr kill : Nat → Prop} (hb : Base cx ι w) (hst : StepR ι w ι' w' wr kill) : Base cx ι' w' := by
 refine ⟨hst.os.trans hb.os, hst.tape.trans hb.tape, hst.output.trans hb.output, Nat.le_trans hb.size hst.size, fun g hg hM0 => ?_, fun b g c hb' => ?_, fun g b hb' => ?_⟩
 ·rw [hst.block g (Nat.lt_of_lt_of_le hg hb.size) ?_ ?_, hb.block g hg hM0]
  ·intro b c _ hι
   rcases hb.own b g c hι with hm | hm
   ·exact hM0 hm
   ·omega
  ·intro b _ hι
   rcases hb.hown g b hι with hm | hm
   ·exact hM0 hm
   ·omega
 ·rcases hst.fresh b g c hb' with (⟨b', c', hc⟩ | ⟨b', hc⟩) | hc
  ·exact hb.own b' g c' hc
  ·exact hb.hown g b' hc
  ·exact .inr (Nat.le_trans hb.size hc)
 ·rcases hst.hfresh g b hb' with (⟨b', c', hc⟩ | ⟨b', hc⟩) | hc
  ·exact hb.own b' g c' hc
  ·exact hb.hown g b' hc
  ·exact .inr (Nat.le_trans hb.size hc)
structure SatI (cx : Cx) (s : AState) (ι : Pl) (a : Act) (w : World) : Prop where
 ok : Ok ι w
 free : ∀ b, s.nxt ≤ b → ι b = none
 defers : Marks cx.w0.heap.size ι (a.defers ++ cx.eds) w
 size : a.tmps.size = cx.n
 tmps : ∀ t av, look s.tmps t = some av → Rep (Still cx.A ι w) ι w av (a.tmps.getD t undef)
 heap : ∀ b blk, look s.heap b = some blk → BlkRep (Still cx.A ι w) ι w b blk
 base : Base cx ι w
def Sat (cx : Cx) (s : AState) (a : Act) (w : World) : Prop := ∃ ι, SatI cx s ι a w
def constCell (v : Value) : CV := .val v
def constAV : Value → AV
 | .agg cs => bif cs.all (·.oneCell') then .agg (cs.toList.map fun v => .c (constCell v)) else .top
 | .tuple _ => .top
 | v => .c (constCell v)
theorem CRep.const {I : Nat → Prop} {w : World} (v : Value) (h : v.oneCell' = true) : CRep I w (constCell v) v := by
 exact .val v h
theorem Rep.const {I : Nat → Prop} {ι : Pl} {w : World} (v : Value) : Rep I ι w (constAV v) v := by
 cases v with
 | agg cs =>
  simp only [constAV]
  cases hall : cs.all (·.oneCell') with
  | false => exact .top _
  | true =>
   have h : ∀ x ∈ cs, x.oneCell' = true := by rw [Array.all_eq_true_iff_forall_mem] at hall; exact hall
   obtain ⟨l⟩ := cs
   refine .agg _ l (by simp) (fun x hx => h x (by simpa using hx)) fun i av x ha hx => ?_
   obtain ⟨y, hy, rfl⟩ := getElem?_map' ha
   have e : y = x := by simpa [hx] using hy.symm
   subst e
   exact .c _ _ (.const y (h y (by simpa using List.mem_of_getElem? hx)))
 | tuple vs => exact .top _
 | _ => exact .c _ _ (.const _ rfl)
def evT (tmps : List (Nat × AV)) : Operand → AV
 | .tmp t => (look tmps t).getD .top
 | .const v => constAV v
 | .global g => .c (.val (.pointer (some ⟨g, 0, none⟩)))
 | .func f => .clo f []
theorem SatI.ev {cx : Cx} {s : AState} {ι : Pl} {a : Act} {w : World} (h : SatI cx s ι a w) (x : Operand) : Rep (Still cx.A ι w) ι w (evT s.tmps x) (a.eval x) := by
 cases x with
 | tmp t =>
  simp only [evT, Act.eval]
  cases hl : look s.tmps t with
  | none => exact .top _
  | some av => exact h.tmps t av hl
 | const v => exact .const v
 | global g => exact .c _ _ (.val _ rfl)
 | func f => exact .clo f [] [] rfl (fun i av x ha _ => by simp at ha)
structure Eff where
 res : Option AV
 wr : List (Nat × Blk)
 kill : List Nat
 next : Nat
def Eff.kills (e : Eff) (nxt : Nat) (b : Nat) : Prop := b ∈ e.kill ∨ nxt ≤ b
def Loc (P : Program) (o : Oper) (ev : Operand → AV) (hp : Nat → Option Blk) (nxt : Nat) (e : Eff) : Prop :=
 ∀ (A : Nat → Prop) (ι : Pl) (w : World) (ρ : Operand → Value), (∀ g, w.heap.size ≤ g → A g) → Ok ι w → (∀ b, nxt ≤ b → ι b = none) → (∀ x ∈ o.op.operands, Rep (Still A ι w) ι w (ev x) (ρ x)) →
  (∀ b blk, hp b = some blk → BlkRep (Still A ι w) ι w b blk) →
  ∃ nx ι' w', (execOp ρ o).run P w = .ok nx w' ∧ (match e.res, nx with | some av, .value v => Rep (Still A ι' w') ι' w' av v | none, .skip => True | _, _ => False) ∧
   StepR ι w ι' w' (fun b => ∃ blk, (b, blk) ∈ e.wr) (e.kills nxt) ∧ (∀ p ∈ e.wr, BlkRep (Still A ι' w') ι' w' p.1 p.2) ∧ (∀ b, e.next ≤ b → ι' b = none) ∧ (∀ k, k ∈ e.kill → ∃ blk, (k, blk) ∈ e.wr)
def upd (wr : List (Nat × Blk)) (h : List (Nat × Blk)) : List (Nat × Blk) := wr ++ h
theorem men_kill0 {b k : Nat} {av : AV} (h : Men b (kill0 k av)) : Men b av := by
 cases av with
 | own b' k' off n => cases e : b' == k <;> simp only [kill0, e, cond_true, cond_false] at h <;> first | exact h | cases h
 | osl b' off n => cases e : b' == k <;> simp only [kill0, e, cond_true, cond_false] at h <;> first | exact h | cases h
 | mref b' => cases e : b' == k <;> simp only [kill0, e, cond_true, cond_false] at h <;> first | exact h | cases h
 | ptr b' off => cases e : b' == k <;> simp only [kill0, e, cond_true, cond_false] at h <;> first | exact h | cases h
 | aptr b' k' i off => cases e : b' == k <;> simp only [kill0, e, cond_true, cond_false] at h <;> first | exact h | cases h
 | pl b' p => cases e : b' == k <;> simp only [kill0, e, cond_true, cond_false] at h <;> first | exact h | cases h
 | tr b' => cases e : b' == k <;> simp only [kill0, e, cond_true, cond_false] at h <;> first | exact h | cases h
 | _ => simp only [kill0] at h; cases h
theorem men_kill1 {b k : Nat} {av : AV} (h : Men b (kill1 k av)) : Men b av := by
 cases av <;> simp only [kill1] at h <;> first | exact men_kill0 h | skip
 ·cases h with
  | clo f caps i av hi hm => obtain ⟨y, hy, rfl⟩ := getElem?_map' hi; exact .clo _ _ i y hy (men_kill0 hm)
 ·cases h with
  | agg cs i av hi hm => obtain ⟨y, hy, rfl⟩ := getElem?_map' hi; exact .agg _ i y hy (men_kill0 hm)
theorem men_killAV {b k : Nat} {av : AV} (h : Men b (killAV k av)) : Men b av := by
 cases av <;> simp only [killAV] at h <;> first | exact men_kill1 h | skip
 cases h with
 | tup cs i av hi hm => obtain ⟨y, hy, rfl⟩ := getElem?_map' hi; exact .tup _ i y hy (men_kill1 hm)
def killsAV : List Nat → AV → AV
 | [], av => av
 | k :: ks, av => killAV k (killsAV ks av)
theorem killsAV_men {b : Nat} {av : AV} : ∀ {ks : List Nat}, b ∈ ks → ¬ Men b (killsAV ks av)
 | k :: ks, h, hm => by
  rcases List.mem_cons.1 h with rfl | h
  ·exact killAV_men hm
  ·exact killsAV_men h (men_killAV hm)
theorem Rep.killsAV {I : Nat → Prop} {ι : Pl} {w : World} {av x} (h : Rep I ι w av x) : ∀ ks, Rep I ι w (killsAV ks av) x
 | [] => h
 | k :: ks => (h.killsAV ks).killAV k
def killT : List Nat → List (Nat × AV) → List (Nat × AV)
 | [], l => l
 | k :: ks, l => (killT ks l).map fun p => (p.1, killAV k p.2)
def killB (b : Nat) : Blk → Blk
 | .box cells ty => .box (cells.map (killAV b)) ty
 | .fr arr cells => .fr arr (cells.map (killAV b))
 | .arr k es ty (some h) => .arr k es ty (some (h.1, h.2.map (killAV b)))
 | .opn av => .opn (killAV b av)
 | x => x
theorem avs_killB (k : Nat) (blk : Blk) : (killB k blk).avs = blk.avs.map (killAV k) := by
 cases blk with
 | arr k' es ty hole => cases hole <;> rfl
 | _ => rfl
theorem killB_rep {I : Nat → Prop} {ι : Pl} {w : World} {b k : Nat} {blk : Blk} (h : BlkRep I ι w b blk) : BlkRep I ι w b (killB k blk) := by
 cases h with
 | box cells ty g cur h1 h2 h3 h4 h5 =>
  exact .box _ ty g cur (by simpa using h1) h2 (by simpa using h3) h4 fun i av x ha hx => by obtain ⟨y, hy, rfl⟩ := getElem?_map' ha; exact (h5 i y x hy hx).killAV k
 | accNil k' ty h1 => exact .accNil k' ty h1
 | acc k' ty es g cap cur h1 h2 h3 h4 h5 h6 h8 => exact .acc k' ty es g cap cur h1 h2 h3 h4 h5 h6 h8
 | raw g cap h1 => exact .raw g cap h1
 | fr arr cells h1 h2 h3 => exact .fr arr _ h1 (by simpa using h2) fun i av x ha hx => by obtain ⟨y, hy, rfl⟩ := getElem?_map' ha; exact (h3 i y x hy hx).killAV k
 | lp l rec h1 h2 => exact .lp l rec h1 h2
 | mp es arr clock g h1 h2 h3 h4 => exact .mp es arr clock g h1 h2 h3 h4
 | tre T x h0 h1 h2 => exact .tre T x h0 h1 h2
 | arrNil k' ty h1 => exact .arrNil k' ty h1
 | arr k' ty es hole g cap cur Sf h1 h2 h3 h4 h5 h6 h7 h8 h9 h10 =>
  cases hole with
  | none => exact .arr k' ty es none g cap cur Sf h1 h2 h3 h4 h5 h6 h7 h8 h9 h10
  | some hole =>
   refine .arr k' ty es _ g cap cur Sf h1 h2 h3 h4 h5 h6 h7 h8 (fun i e j u x hn => h9 i e j u x fun row hr => hn (row.map (Ab.killAV k)) (by cases hr; rfl)) ?_
   intro i row hr
   cases hr
   obtain ⟨g1, g2, g3⟩ := h10 hole.1 hole.2 rfl
   exact ⟨g1, ⟨by simpa using g2.1, g2.2⟩, fun j av x ha hx => by obtain ⟨y, hy, rfl⟩ := getElem?_map' ha; exact (g3 j y x hy hx).killAV k⟩
 | opn av x h0 h1 h2 => exact .opn _ x h0 h1 (h2.killAV k)
theorem BlkRep.avs {I : Nat → Prop} {ι : Pl} {w : World} {b : Nat} {blk : Blk} (h : BlkRep I ι w b blk) {i : Nat} {av : AV} (ha : blk.avs[i]? = some av) : ∃ x, Rep I ι w av x := by
 cases h with
 | box cells ty g cur h1 h2 h3 h4 h5 => exact ⟨_, h5 i av _ ha (List.getElem?_eq_getElem (by rw [h3]; exact (List.getElem?_eq_some_iff.1 ha).1))⟩
 | fr arr cells h1 h2 h3 => exact ⟨_, h3 i av _ ha (List.getElem?_eq_getElem (by rw [h2]; exact (List.getElem?_eq_some_iff.1 ha).1))⟩
 | arr k ty es hole g cap cur Sf h1 h2 h3 h4 h5 h6 h7 h8 h9 h10 =>
  cases hole with
  | none => simp [Blk.avs] at ha
  | some hole =>
   obtain ⟨g1, g2, g3⟩ := h10 hole.1 hole.2 rfl
   have hi : i < k := by rw [← g2.1]; exact (List.getElem?_eq_some_iff.1 ha).1
   have hlt : hole.1 * k + i < cur.length := by
    rw [h3]
    have : (hole.1 + 1) * k ≤ cap * k := Nat.mul_le_mul_right k (by omega)
    rw [Nat.add_mul, Nat.one_mul] at this
    omega
   exact ⟨_, g3 i av _ ha (List.getElem?_eq_getElem hlt)⟩
 | opn av' x h0 h1 h2 =>
  cases i with
  | zero => simp [Blk.avs] at ha; subst ha; exact ⟨x, h2⟩
  | succ i => simp [Blk.avs] at ha
 | _ => simp [Blk.avs] at ha
theorem BlkRep.laid {I : Nat → Prop} {ι : Pl} {w : World} {b : Nat} {blk : Blk} (h : BlkRep I ι w b blk) : ι b ≠ none := by cases h <;> simp [*]
def killsB : List Nat → Blk → Blk
 | [], blk => blk
 | k :: ks, blk => killB k (killsB ks blk)
theorem killsB_rep {I : Nat → Prop} {ι : Pl} {w : World} {b : Nat} {blk : Blk} (h : BlkRep I ι w b blk) : ∀ ks, BlkRep I ι w b (killsB ks blk)
 | [] => h
 | k :: ks => killB_rep (killsB_rep h ks)
theorem avs_killsB (blk : Blk) : ∀ ks, (killsB ks blk).avs = blk.avs.map (killsAV ks)
 | [] => by simp [killsB, killsAV]
 | k :: ks => by simp only [killsB, avs_killB, avs_killsB blk ks, List.map_map]; rfl
def killH : List Nat → List (Nat × Blk) → List (Nat × Blk)
 | [], l => l
 | k :: ks, l => (killH ks l).map fun p => (p.1, killB k p.2)
def putT (d : Option Tmp) (av : AV) (l : List (Nat × AV)) : List (Nat × AV) := match d with | none => l | some t => (t, av) :: l
def AState.apply (s : AState) (o : Oper) (e : Eff) : AState :=
 { tmps := putT o.dst (e.res.getD (.tup [])) (killT e.kill s.tmps), heap := upd e.wr (killH e.kill s.heap), nxt := e.next }
theorem look_map {α : Type} (f : α → α) (l : List (Nat × α)) (t : Nat) : look (l.map fun p => (p.1, f p.2)) t = (look l t).map f := by
 induction l with
 | nil => rfl
 | cons p r ih => obtain ⟨k, v⟩ := p; simp only [List.map_cons, look, ih]; cases k == t <;> rfl
theorem look_killT (l : List (Nat × AV)) (t : Nat) : ∀ ks, look (killT ks l) t = (look l t).map (killsAV ks)
 | [] => by show look l t = _; cases look l t <;> rfl
 | k :: ks => by simp only [killT, look_map, look_killT l t ks, Option.map_map]; rfl
theorem look_killH (l : List (Nat × Blk)) (t : Nat) : ∀ ks, look (killH ks l) t = (look l t).map (killsB ks)
 | [] => by show look l t = _; cases look l t <;> rfl
 | k :: ks => by simp only [killH, look_map, look_killH l t ks, Option.map_map]; rfl
theorem look_append {α : Type} (l m : List (Nat × α)) (t : Nat) : look (l ++ m) t = (look l t).or (look m t) := by
 induction l with
 | nil => simp [look]
 | cons p r ih => obtain ⟨k, v⟩ := p; simp only [List.cons_append, look, ih]; cases k == t <;> simp
theorem look_mem {α : Type} {l : List (Nat × α)} {t : Nat} {v : α} (h : look l t = some v) : (t, v) ∈ l := by
 induction l with
 | nil => cases h
 | cons p r ih =>
  obtain ⟨k, u⟩ := p
  simp only [look] at h
  cases e : k == t with
  | true => simp [e] at h; have := eq_of_beq e; subst this; subst h; exact List.mem_cons_self
  | false => simp [e] at h; exact List.mem_cons_of_mem _ (ih h)
theorem look_none {α : Type} {l : List (Nat × α)} {t : Nat} (h : look l t = none) : ∀ v, (t, v) ∉ l := by
 induction l with
 | nil => intro v h; cases h
 | cons p r ih =>
  obtain ⟨k, u⟩ := p
  simp only [look] at h
  cases e : k == t with
  | true => simp [e] at h
  | false =>
   simp [e] at h
   intro v hv
   cases hv with
   | head => simp at e
   | tail _ hv => exact ih h v hv
theorem Rep.men {I : Nat → Prop} {ι : Pl} {w : World} {av x} (h : Rep I ι w av x) : ∀ b, Men b av → ι b ≠ none := by
 induction h with
 | top x => intro b hm; cases hm
 | c u x hu => intro b hm; cases hm
 | ownNil b k hb => intro b' hm; cases hm; simp [hb]
 | own b k off n g cap a cc hb => intro b' hm; cases hm; simp [hb]
 | osl b off n g cap cc hb => intro b' hm; cases hm; simp [hb]
 | mref b g cap hb => intro b' hm; cases hm; simp [hb]
 | ptr b off g cap hb => intro b' hm; cases hm; simp [hb]
 | aptr b k i off g cap hb => intro b' hm; cases hm; simp [hb]
 | pl b p x hb => intro b' hm; cases hm; simp [hb]
 | tr b x h1 hb => intro b' hm; cases hm; simp [hb]
 | cel cs a hs hI => intro b hm; cases hm
 | clo f caps xs hl hr ih =>
  intro b hm
  cases hm with
  | clo f' c' i av ha hb =>
   obtain ⟨x, hx⟩ : ∃ x, xs[i]? = some x := ⟨xs[i]'(by rw [hl]; exact (List.getElem?_eq_some_iff.1 ha).1), List.getElem?_eq_getElem _⟩
   exact ih i av x ha hx b hb
 | agg cs xs hl h1 hr ih =>
  intro b hm
  cases hm with
  | agg c' i av ha hb =>
   obtain ⟨x, hx⟩ : ∃ x, xs[i]? = some x := ⟨xs[i]'(by rw [hl]; exact (List.getElem?_eq_some_iff.1 ha).1), List.getElem?_eq_getElem _⟩
   exact ih i av x ha hx b hb
 | tup cs xs hl hr ih =>
  intro b hm
  cases hm with
  | tup c' i av ha hb =>
   obtain ⟨x, hx⟩ : ∃ x, xs[i]? = some x := ⟨xs[i]'(by rw [hl]; exact (List.getElem?_eq_some_iff.1 ha).1), List.getElem?_eq_getElem _⟩
   exact ih i av x ha hx b hb
theorem StepR.rep' {ι ι' : Pl} {w w' : World} {wr : Nat → Prop} {e : Eff} {nxt : Nat} (h : StepR ι w ι' w' wr (e.kills nxt)) (hf : ∀ b, nxt ≤ b → ι b = none) {A : Nat → Prop} {av x}
  (hr : Rep (Still A ι w) ι w av x) (hk : ∀ b, b ∈ e.kill → ¬ Men b av) : Rep (Still A ι' w') ι' w' av x :=
 h.rep hr fun b hb hk' => by
  rcases hk' with hk' | hk'
  ·exact hk b hk' hb
  ·exact hr.men b hb (hf b hk')
theorem SatI.apply {cx : Cx} {s : AState} {ι : Pl} {a : Act} {w : World} (h : SatI cx s ι a w) {o : Oper} {e : Eff} {ι' : Pl} {w' : World} {v : Value}
  (hst : StepR ι w ι' w' (fun b => ∃ blk, (b, blk) ∈ e.wr) (e.kills s.nxt)) (hwr : ∀ p ∈ e.wr, BlkRep (Still cx.A ι' w') ι' w' p.1 p.2) (hn : ∀ b, e.next ≤ b → ι' b = none) (hkw : ∀ k, k ∈ e.kill → ∃ blk, (k, blk) ∈ e.wr)
  (hv : Rep (Still cx.A ι' w') ι' w' (e.res.getD (.tup [])) v) (hd : ∀ t, o.dst = some t → t < cx.n) :
  SatI cx (s.apply o e) ι' (a.put o.dst v) w' := by
 have hkill : ∀ av x, Rep (Still cx.A ι w) ι w av x → Rep (Still cx.A ι' w') ι' w' (killsAV e.kill av) x := fun av x hr =>
  hst.rep' h.free (hr.killsAV _) fun b hb => killsAV_men hb
 refine ⟨hst.ok, hn, ?_, ?_, ?_, ?_, ?_⟩
 ·have : (a.put o.dst v).defers = a.defers := by cases o.dst <;> rfl
  rw [this]
  exact h.defers.step hst
 ·cases hd' : o.dst <;> simp [Act.put, h.size]
 ·intro t av hl
  simp only [AState.apply] at hl
  have hold : ∀ av, look (killT e.kill s.tmps) t = some av → Rep (Still cx.A ι' w') ι' w' av (a.tmps.getD t undef) := by
   intro av hl
   rw [look_killT] at hl
   simp only [Option.map_eq_some_iff] at hl
   obtain ⟨av0, h0, rfl⟩ := hl
   exact hkill av0 _ (h.tmps t av0 h0)
  cases hd' : o.dst with
  | none => rw [hd'] at hl; simpa [Act.put] using hold av hl
  | some d =>
   rw [hd'] at hl
   simp only [putT, look] at hl
   have hlt := hd d hd'
   cases hdt : d == t with
   | true =>
    have := eq_of_beq hdt
    subst this
    simp [hdt] at hl
    subst hl
    simp only [Act.put]
    rw [show (a.tmps.setIfInBounds d v).getD d undef = v by simp [Array.getD, h.size, hlt]]
    exact hv
   | false =>
    simp [hdt] at hl
    have hne : d ≠ t := by simpa using hdt
    simp only [Act.put]
    rw [show (a.tmps.setIfInBounds d v).getD t undef = a.tmps.getD t undef by simp only [Array.getD_eq_getD_getElem?, Array.getElem?_setIfInBounds_ne hne]]
    exact hold av hl
 ·intro b blk hl
  simp only [AState.apply, upd, look_append] at hl
  cases hw : look e.wr b with
  | some blk' =>
   rw [hw] at hl
   simp at hl
   subst hl
   exact hwr _ (look_mem hw)
  | none =>
   rw [hw] at hl
   simp only [Option.none_or] at hl
   have hnw : ¬ ∃ blk, (b, blk) ∈ e.wr := fun ⟨blk, hb⟩ => look_none hw blk hb
   have old : ∃ blk0, look s.heap b = some blk0 ∧ blk = killsB e.kill blk0 := by
    rw [look_killH] at hl
    simp only [Option.map_eq_some_iff] at hl
    obtain ⟨b0, h0, rfl⟩ := hl
    exact ⟨b0, h0, rfl⟩
   obtain ⟨blk0, h0, rfl⟩ := old
   have hb0 := h.heap b blk0 h0
   have hnk : ¬ e.kills s.nxt b := by
    rintro (hk | hk)
    ·exact hnw (hkw b hk)
    ·exact hb0.laid (h.free b hk)
   have hb1 : BlkRep (Still cx.A ι w) ι w b (killsB e.kill blk0) := killsB_rep hb0 _
   refine hst.blk h.ok hb1 hnw hnk ?_
   intro i av ha b' hb' hk'
   rcases hk' with hk' | hk'
   ·rw [avs_killsB] at ha
    obtain ⟨y, _, rfl⟩ := getElem?_map' ha
    exact killsAV_men hk' hb'
   ·obtain ⟨x, hx⟩ := hb1.avs ha
    exact hx.men b' hb' (h.free b' hk')
 ·exact h.base.step hst
end Go.Ab
