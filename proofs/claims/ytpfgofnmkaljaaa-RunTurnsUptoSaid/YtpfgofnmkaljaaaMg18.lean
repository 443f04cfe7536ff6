/-
  States told anew: an own slice closed for good; a nil slice in a box as an own one; numbers renamed.
  A contract's result closed for good.
  A region whose order is drawn: the rule.
-/
import Derived.Test.YtpfgofnmkaljaaaMg17
import Derived.Test.YtpfgofnmkaljaaaMg14
set_option linter.unusedVariables false
set_option linter.unusedSimpArgs false
namespace Go.Ab
open Go Go.RowKit
theorem SatI.ghost {cx : Cx} {s : AState} {ι ι' : Pl} {a : Act} {w : World} (hs : SatI cx s ι a w) {ks : List Nat} {wr : List (Nat × Blk)} {next : Nat} {new : List (Nat × AV)} (hst : StepR ι w ι' w (fun b => ∃ blk, (b, blk) ∈ wr) (fun b => b ∈ ks ∨ s.nxt ≤ b)) (hwr : ∀ p ∈ wr, BlkRep (Still cx.A ι' w) ι' w p.1 p.2)
  (hn : ∀ b, next ≤ b → ι' b = none) (hkw : ∀ k, k ∈ ks → ∃ blk, (k, blk) ∈ wr) (hnew : ∀ t av, look new t = some av → Rep (Still cx.A ι' w) ι' w av (a.tmps.getD t undef)) :
  SatI cx ⟨new ++ killT ks s.tmps, wr ++ killH ks s.heap, next⟩ ι' a w := by
 have h := hs.apply (o := default) (e := ⟨some .top, wr, ks, next⟩) (v := undef) hst hwr hn hkw (.top _) (fun t ht => by cases ht)
 refine ⟨h.ok, h.free, h.defers, h.size, fun t av hl => ?_, h.heap, h.base⟩
 rw [look_append] at hl
 cases hw : look new t with
 | some y => rw [hw] at hl; simp at hl; subst hl; exact hnew t _ hw
 | none => rw [hw] at hl; simp at hl; exact h.tmps t av hl
def frzT (es : List (List CV)) : List Nat → List (Nat × AV)
 | [] => []
 | t :: r => (t, .c (.sl es)) :: frzT es r
def AllOwn (tmps : List (Nat × AV)) (b k n : Nat) : List Nat → Prop
 | [] => True
 | t :: r => look tmps t = some (.own b k 0 n) ∧ AllOwn tmps b k n r
theorem go_nilCell {cx : Cx} {Q : Post} {K : List K} {s : AState} (b i w ty : Nat) {cells : List AV} {ty' : TypeId} (hb : look s.heap b = some (.box cells ty')) (hi : cells[i]? = some (.c (.val (.slice none 0 0))))
  (h : Go' cx Q K ⟨s.tmps, (b, .box (cells.set i (.own s.nxt w 0 0)) ty') :: (s.nxt, .acc w [] ty) :: s.heap, s.nxt + 1⟩) : Go' cx Q K s := by
 refine go_weak ?_ h
 rintro a w' ⟨ι, hs⟩
 have hblk := hs.heap b _ hb
 have hlt : b < s.nxt := Nat.lt_of_not_le fun hle => hblk.laid (hs.free b hle)
 have hst : StepR ι w' (setPl ι s.nxt .nil) w' (fun b' => ∃ blk, (b', blk) ∈ [(b, Blk.box (cells.set i (.own s.nxt w 0 0)) ty'), (s.nxt, .acc w [] ty)]) (fun b' => b' ∈ ([] : List Nat) ∨ s.nxt ≤ b') := step_nil hs.ok s.nxt _ _ (.inr (Nat.le_refl _))
 have := hs.ghost (ks := []) (next := s.nxt + 1) (new := []) hst (fun p hp => ?_) (fun b' hb' => ?_) (fun k' hk' => by cases hk') fun t av hl => by cases hl
 ·exact ⟨_, this⟩
 ·rcases List.mem_cons.1 hp with rfl | hp
  ·cases hblk with
   | box _ _ g cur h1 h2 h3 h4 h5 =>
    refine .box _ _ g cur (by rw [setPl_other _ _ (by omega), List.length_set]; exact h1) h2 (by rw [List.length_set]; exact h3) h4 fun j av x ha hx => ?_
    rw [List.getElem?_set] at ha
    split at ha
    ·rename_i e
     subst e
     split at ha
     ·cases ha
      have := h5 i _ x hi hx
      cases this with
      | c _ _ hu => cases hu; exact .ownNil _ _ (setPl_same _ _ _)
     ·cases ha
    ·exact hst.rep (h5 j av x ha hx) fun b' hb' hk => (h5 j av x ha hx).men b' hb' (hs.free b' (hk.resolve_left (by simp)))
  ·rw [List.mem_singleton.1 hp]; exact .accNil _ _ (setPl_same _ _ _)
 ·have hb'' : s.nxt + 1 ≤ b' := hb'
  rw [setPl_other _ _ (by omega)]
  exact hs.free b' (by omega)
end Go.Ab

set_option linter.unusedVariables false
set_option linter.unusedSimpArgs false
namespace Go.Ab
open Go Go.RowKit
theorem FnO.frz {P : Program} {f : FuncId} {args : List AV} {blks : List Blk} {r r' : AV} {vc : Prop} (h : FnO P f args blks r) (hf : Ab.frz (numb 0 blks) r = some (vc, r')) (hvc : vc) : FnP P f args r' := by
 refine ⟨h.1, fun I w vs hI hl hr => (h.2 I w vs hI hl hr).mono fun e w' he => ?_⟩
 obtain ⟨v, ι', rfl, h1, h2, h3, h4, h4', h5, h6⟩ := he
 refine ⟨v, rfl, frz_ok (A := fun g => I g ∨ w.heap.size ≤ g) (ι := ι') (w := w') (heap := numb 0 blks) (fun g hg => ⟨hg.1.1.1, hg.1.2⟩) (fun b g c hb => ⟨.inr (h4 b g c hb), h5.lt b g c hb⟩) (fun g b hb => ⟨.inr (h4' g b hb), h5.hlt g b hb⟩) (fun b blk hb => ?_) hf hvc h1, h6⟩
 exact h2 b blk (by simpa using (look_numb hb).2)
end Go.Ab

set_option linter.unusedVariables false
set_option linter.unusedSimpArgs false
namespace Go.Ab
open Go
section
variable {cx : Cx} {ops : Array Oper} {s : Nat → AState} {e : Nat → Eff} {on : Nat → Bool} {rd0 rd anc : Nat → List Nat}
theorem yAV_rep {I : Nat → Prop} {ι : Pl} {w : World} {tmps : List (Nat × AV)} {a : Act} {all : Array Oper} {j : Nat} (h : ∀ d av, (all[j]?).bind (·.dst) = some d → look tmps d = some av → Rep I ι w av (a.tmps.getD d undef)) {av : AV} (hy : yAV all tmps j = av) :
    (∀ b, av = .c (.val (.bool b)) → yielded all a.tmps j = some b) ∧ (av = .tup [] → yielded all a.tmps j = none) := by
  unfold yAV at hy
  unfold yielded
  cases hd : (all[j]?).bind (·.dst) with
  | none => rw [hd] at hy; subst hy; exact ⟨fun b hb => (by cases hb), fun _ => rfl⟩
  | some d =>
    rw [hd] at hy
    simp only at hy
    have hrep : Rep I ι w av (a.tmps.getD d undef) := by
      subst hy
      cases hl : look tmps d with
      | none => exact .top _
      | some av => exact h d av hd hl
    constructor
    · intro b hb
      rw [hb] at hrep
      have : a.tmps.getD d undef = .bool b := by
        generalize a.tmps.getD d undef = v at hrep
        cases hrep with
        | c u x hu => cases hu; rfl
      rw [Array.getD_eq_getD_getElem?] at this
      cases he : a.tmps[d]? with
      | none => rw [he] at this; simp [undef] at this
      | some v => rw [he] at this; simp at this; subst this; simp [he]
    · intro ht
      rw [ht] at hrep
      have : a.tmps.getD d undef = .tuple #[] := by
        generalize a.tmps.getD d undef = v at hrep
        cases hrep with
        | tup cs xs hl hr => have : xs = [] := by simpa using hl
                             subst this; rfl
      rw [Array.getD_eq_getD_getElem?] at this
      cases he : a.tmps[d]? with
      | none => simp [he]
      | some v => rw [he] at this; simp at this; subst this; simp [he]
theorem InvD.run (T : Tr cx ops s e on rd0 rd anc) {L : Nat → Bool} {ι : Pl} {a : Act} {w : World} (I : InvD cx ops s e rd0 L ι a w)
  (hcl : ∀ i o, ops[i]? = some o → L i = true → ∀ x ∈ o.after, Region.binds .any x = true → L x.on = true) {j : Nat} {oj : Oper} (hj : ops[j]? = some oj) (hL : L j = false)
  (hready : ∀ x ∈ oj.after, Region.binds .any x = true → L x.on = true) {Q : Post} {K : Act → World → Prop}
  (hK : ∀ ι' a' w', InvD cx ops s e rd0 (fun i => i == j || L i) ι' a' w' → K a' w') : wpOpIn (FW cx.rnd) 0 cx.P ops Q j K a w := by
 have hjsz : j < ops.size := (Array.getElem?_eq_some_iff.1 hj).1
 have hanc : ∀ i o, ops[i]? = some o → L i = true → ∀ p ∈ anc i, L p = true := fun i o ho hLi => T.closed hcl i o ho (hcl i o ho hLi)
 have hjanc := T.closed hcl j oj hj hready
 have htmp : ∀ t ∈ oj.looksAt ops, ∀ av, look (s j).tmps t = some av → Rep (Still cx.A ι w) ι w av (a.tmps.getD t undef) := fun t ht av hl =>
  I.tmps j t (Nat.le_of_lt hjsz) (fun o ho => by rw [hj] at ho; cases ho; exact ⟨hL, ht⟩) (fun p o hp ho hd => hjanc p (T.c1 p j o oj t hp ho hj hd ht)) av hl
 have hev : ∀ x ∈ oj.op.operands, Rep (Still cx.A ι w) ι w (evT (s j).tmps x) (a.eval x) := fun x hx => by
  cases x with
  | tmp t =>
   simp only [evT, Act.eval]
   cases hl : look (s j).tmps t with
   | none => exact .top _
   | some av => exact htmp t (List.mem_append_left _ (List.mem_filterMap.2 ⟨.tmp t, by simpa using hx, rfl⟩)) av hl
  | const v => exact .const v
  | global g => exact .c _ _ (.val _ rfl)
  | func f => exact .clo f [] [] rfl (fun i av x ha _ => by simp at ha)
 have hfj := I.free j hjsz hL
 have hnx := T.nx j oj hj
 unfold wpOpIn
 simp only [hj]
 have hwant : Region.wanted oj (yielded ops a.tmps) = on j := by
  rcases T.want j oj hj with ⟨hg, hon⟩ | ⟨q, want, hg, hy⟩
  ·simp [Region.wanted, hg, hon]
  ·have hy' := yAV_rep (I := Still cx.A ι w) (ι := ι) (w := w) (tmps := (s j).tmps) (a := a) (all := ops) (j := q) (fun d av hd hl => htmp d (List.mem_append_right _ (by simp [hg, hd])) av hl) rfl
   rcases hy with ⟨b, hy, hon⟩ | ⟨hy, hon⟩
   ·have := hy'.1 b hy
    simp only [Region.wanted, hg, this, hon]
    cases b <;> cases want <;> rfl
   ·have := hy'.2 hy
    simp only [Region.wanted, hg, this, hon]
    rfl
 rw [hwant]
 cases hon : on j with
 | false =>
  simp only [Bool.false_eq_true, if_false]
  refine ⟨about_trivial cx oj a w, ?_⟩
  have he := T.off j oj hj hon
  have hA : ∀ g, w.heap.size ≤ g → (AbM cx.A ι (e j).next) g := fun g hg => abM_new I.ok _ (I.base.fresh g hg) hg
  have hokb : Ok (below ι (s j).nxt) w := below_ok I.ok _
  refine hK _ _ _ (I.after T hanc hj hL hjanc (v := undef) (ι₁ := below ι (s j).nxt) (w' := w) ?_ (StepR.refl hokb _ _) ?_ ?_ ?_)
  ·rw [he]
   exact .tup [] [] rfl (fun i av x ha _ => by simp at ha)
  ·rw [he]
   intro p hp
   cases hp
  ·rw [he]
   intro b hb
   have hb' : (s j).nxt ≤ b := hb
   simp only [below]
   rw [if_neg (by omega)]
  ·rw [he]
   intro k hk
   cases hk
 | true =>
  simp only [if_true]
  have hop := T.op j oj hj hon
  refine Oper.wpIn_mono ?_ (hop (AbM cx.A ι (e j).next) (below ι (s j).nxt) w a ?_ ?_ ?_ ?_ ?_ ?_ ?_ Q)
  ·rintro a' w' ⟨v, ι₁, rfl, h1, h2, h3, h4, h5⟩
   exact hK _ _ _ (I.after T hanc hj hL hjanc h1 h2 h3 h4 h5)
  ·exact fun g hg => abM_new I.ok _ (I.base.fresh g hg) hg
  ·intro b g c hb
   obtain ⟨hb, hlt⟩ := below_at hb
   exact ⟨I.base.mine hb, fun b' c' hb' hg => by have := I.ok.inj _ _ _ _ _ hb hg; omega, fun b' hb' hg => I.ok.hdis g b' hg b c hb⟩
  ·intro g b hb
   obtain ⟨hb, hlt⟩ := below_hid.1 hb
   exact ⟨I.base.hmine hb, fun b' c' hb' hg => I.ok.hdis g b hb b' c' hg, fun b' hb' hg => by rw [hb] at hg; cases hg; omega⟩
  ·exact below_ok I.ok _
  ·intro b hb
   simp only [below]
   rw [if_neg (by omega)]
  ·exact fun x hx => rep_in I.ok hnx hfj (hev x hx) fun b hb => T.ltM j oj x b hj hx hb
  ·intro b blk hb
   replace hb : (bif (rd0 j).contains b then look (s j).heap b else none) = some blk := hb
   cases hc : (rd0 j).contains b with
   | false => rw [hc] at hb; cases hb
   | true =>
    rw [hc] at hb
    have hbr : b ∈ rd0 j := by simpa using hc
    have hold := I.heap j b (Nat.le_of_lt hjsz) (fun o ho => ⟨hL, hbr⟩) (fun p blk' hp hbw => by
     have hpo : ops[p]? = some ops[p] := Array.getElem?_eq_getElem (by omega)
     exact hjanc p (T.c3 p j _ oj b blk' hp hpo hj hbw (.inl (T.sub j oj b hj hbr)))) blk hb
    exact blk_in I.ok hnx hfj hold (T.lt j oj b hj hbr) fun k av hk b' hm => T.ltB j oj b _ k av b' hj hbr hb hk hm
theorem filter_lt {α : Type} (p q : α → Bool) : ∀ (l : List α), (∀ x ∈ l, q x = true → p x = true) → ∀ y ∈ l, p y = true → q y = false → (l.filter q).length < (l.filter p).length
 | [], _, y, hy, _, _ => by cases hy
 | x :: r, h, y, hy, h1, h2 => by
  have hle : ∀ l : List α, (∀ x ∈ l, q x = true → p x = true) → (l.filter q).length ≤ (l.filter p).length := by
   intro l
   induction l with
   | nil => intro _; simp
   | cons z r ih =>
    intro hz
    have := ih fun x hx => hz x (List.mem_cons_of_mem _ hx)
    simp only [List.filter_cons]
    cases hq : q z
    ·cases hp : p z <;> simp <;> omega
    ·simp [hz z List.mem_cons_self hq, this]
  have hr := hle r fun x hx => h x (List.mem_cons_of_mem _ hx)
  simp only [List.filter_cons]
  cases hy with
  | head => simp [h1, h2]; omega
  | tail _ hy =>
   have := filter_lt p q r (fun x hx => h x (List.mem_cons_of_mem _ hx)) y hy h1 h2
   cases hq : q x
   ·cases hp : p x <;> simp <;> omega
   ·simp [h x List.mem_cons_self hq, this]
theorem wpAny_run (T : Tr cx ops s e on rd0 rd anc) {Q : Post} (hQ : ∀ ι a w, SatI cx (s ops.size) ι a w → Q .normal a w) : ∀ (fuel : Nat) (listed : Array Bool) (ι : Pl) (a : Act) (w : World),
  listed.size = ops.size → ((List.range ops.size).filter fun i => !listed.getD i false).length ≤ fuel →
  (∀ i o, ops[i]? = some o → listed.getD i false = true → ∀ x ∈ o.after, Region.binds .any x = true → listed.getD x.on false = true) →
  InvD cx ops s e rd0 (fun i => listed.getD i false) ι a w → wpAnyIn (FW cx.rnd) 0 cx.P .any ops Q fuel listed a w := by
 have hall : ∀ (listed : Array Bool), listed.size = ops.size → Region.ready .any ops listed = [] → ∀ j, j < ops.size → listed.getD j false = true := by
  intro listed hsz hr j
  induction j using Nat.strongRecOn with
  | _ j ih =>
   intro hj
   cases hl : listed.getD j false with
   | true => rfl
   | false =>
    exfalso
    have hjo : ops[j]? = some ops[j] := Array.getElem?_eq_getElem hj
    have hjl : listed.getD j true = false := by
     rw [Array.getD_eq_getD_getElem?] at hl ⊢
     rw [Array.getElem?_eq_getElem (by omega)] at hl ⊢
     exact hl
    have : j ∈ Region.ready .any ops listed := mem_ready.2 ⟨hjl, _, hjo, fun x hx hb => ih x.on (T.edge j _ hjo x hx hb) (Nat.lt_trans (T.edge j _ hjo x hx hb) hj)⟩
    rw [hr] at this
    cases this
 have hend : ∀ (listed : Array Bool) ι a w, listed.size = ops.size → Region.ready .any ops listed = [] → InvD cx ops s e rd0 (fun i => listed.getD i false) ι a w → Q .normal a w := by
  intro listed ι a w hsz hr I
  have hL := hall listed hsz hr
  refine hQ ι a w ⟨I.ok, I.high, I.defers, I.size, fun t av hl => I.tmps ops.size t (Nat.le_refl _) (fun o ho => by simp at ho) (fun p o hp _ _ => hL p hp) av hl, fun b blk hl => I.heap ops.size b (Nat.le_refl _) (fun o ho => by simp at ho) (fun p _ hp _ => hL p hp) blk hl, I.base⟩
 intro fuel
 induction fuel with
 | zero =>
  intro listed ι a w hsz hf hcl I
  have hL : ∀ j, j < ops.size → listed.getD j false = true := fun j hj => by
   have h0 : ((List.range ops.size).filter fun i => !listed.getD i false) = [] := List.length_eq_zero_iff.1 (by omega)
   have := List.filter_eq_nil_iff.1 h0 j (List.mem_range.2 hj)
   simpa using this
  have hr : Region.ready .any ops listed = [] := by
   cases hre : Region.ready .any ops listed with
   | nil => rfl
   | cons j r =>
    exfalso
    have hjm : j ∈ Region.ready .any ops listed := by rw [hre]; exact List.mem_cons_self
    obtain ⟨h1, o, ho, _⟩ := mem_ready.1 hjm
    have hj := (Array.getElem?_eq_some_iff.1 ho).1
    have h2 := hL j hj
    rw [Array.getD_eq_getD_getElem?] at h1 h2
    rw [Array.getElem?_eq_getElem (by omega)] at h1 h2
    simp at h1 h2
    rw [h1] at h2; cases h2
  exact ⟨hr, hend listed ι a w hsz hr I⟩
 | succ fuel ih =>
  intro listed ι a w hsz hf hcl I
  refine ⟨fun hr => hend listed ι a w hsz hr I, fun j hj => ?_⟩
  obtain ⟨h1, oj, hjo, hready⟩ := mem_ready.1 hj
  have hjsz := (Array.getElem?_eq_some_iff.1 hjo).1
  have hL : listed.getD j false = false := by
   rw [Array.getD_eq_getD_getElem?] at h1 ⊢
   rw [Array.getElem?_eq_getElem (by omega)] at h1 ⊢
   exact h1
  have hset : (fun i => (listed.setIfInBounds j true).getD i false) = fun i => i == j || listed.getD i false := by
   funext i
   by_cases hij : i = j
   ·subst hij
    simp [Array.getD_eq_getD_getElem?, hsz, hjsz]
   ·have hne : (i == j) = false := by simpa using hij
    rw [hne, Bool.false_or, Array.getD_eq_getD_getElem?, Array.getD_eq_getD_getElem?, Array.getElem?_setIfInBounds_ne (fun h => hij h.symm)]
  have hseti : ∀ i, (listed.setIfInBounds j true).getD i false = (i == j || listed.getD i false) := fun i => congrFun hset i
  refine I.run T hcl hjo hL hready fun ι' a' w' I' => ?_
  refine ih _ ι' a' w' (by simpa using hsz) ?_ ?_ (by rw [hset]; exact I')
  ·have := filter_lt (fun i => !listed.getD i false) (fun i => !(listed.setIfInBounds j true).getD i false) (List.range ops.size) (fun x _ hx => by
    rw [hseti] at hx
    simp at hx ⊢
    exact hx.2) j (List.mem_range.2 hjsz) (by simp [hL]) (by rw [hseti]; simp)
   omega
  ·intro i o ho hi x hx hb
   rw [hseti] at hi ⊢
   simp only [Bool.or_eq_true, beq_iff_eq] at hi ⊢
   rcases hi with rfl | hi
   ·rw [hjo] at ho
    cases ho
    exact .inr (hready x hx hb)
   ·exact .inr (hcl i o ho hi x hx hb)
end
theorem SatI.drawn {cx : Cx} {s : AState} {ι : Pl} {a : Act} {w : World} (h : SatI cx s ι a w) (d : Nat) : SatI cx s ι a { w with drawn := d } := by
 have hst : ∀ g, Still cx.A ι w g → Still cx.A ι { w with drawn := d } g ∧ ({ w with drawn := d } : World).heap[g]? = w.heap[g]? := fun g hg => ⟨hg, rfl⟩
 exact ⟨h.ok.grow (Nat.le_refl _), h.free, ⟨h.defers.all, h.defers.nd⟩, h.size, fun t av hl => (h.tmps t av hl).mono hst fun _ _ => rfl,
  fun b blk hl => (h.heap b blk hl).turn hst rfl (fun _ _ _ => rfl) (fun _ hg => ⟨hg, rfl⟩) fun i av x _ hx => hx.mono hst fun _ _ => rfl, ⟨h.base.os, h.base.tape, h.base.output, h.base.size, h.base.block, h.base.own, h.base.hown⟩⟩
theorem go_draw {rk : Reck} {cx : Cx} (hrk : RkOk cx.P cx.tt rk) (hm : cx.P.follows .mixedOrders = true) {Q : Post} {k : List K} {s : AState} {id : Nat} {ops : Array Oper} (h : opsD rk cx ops (Go' cx Q k) ops.toList [] s) :
  Go' cx Q (.code (.region id ops true) :: k) s := by
 rintro a w ⟨ι, hs⟩
 obtain ⟨st, e, on, rd0, rd, anc, T, h0, hR⟩ := opsD_trace hrk h
 have hs' := hs.drawn (w.drawn + 1)
 refine wpIn_region_any hm (wpAny_run T (fun ι' a' w' hS => hR a' w' ⟨ι', hS⟩) ops.size _ ι a _ (by simp) (Nat.le_trans (List.length_filter_le _ _) (by simp)) (fun i o ho hi => ?_) ?_)
 ·exfalso
  rw [Array.getD_eq_getD_getElem?] at hi
  simp [Array.getElem?_replicate] at hi
  split at hi <;> simp at hi
 ·-- the first state tells of each place what it needs
  have key : ∀ i t, i ≤ ops.size → (∀ (p : Nat) (o : Oper), p < i → ops[p]? = some o → o.dst ≠ some t) → ∀ av, look (st i).tmps t = some av → Rep (Still cx.A ι { w with drawn := w.drawn + 1 }) ι { w with drawn := w.drawn + 1 } av (a.tmps.getD t undef) := by
   intro i t hi hw av hl
   obtain ⟨av0, h1, h2⟩ := T.between (t := t) 0 i (Nat.zero_le _) hi (fun r o _ hr ho => hw r o hr ho) av hl
   rw [h0] at h1
   exact h2.rep (hs'.tmps t av0 h1)
  have hfalse : ∀ i, (Array.replicate ops.size false).getD i false = false := fun i => by
   rw [Array.getD_eq_getD_getElem?, Array.getElem?_replicate]
   split <;> rfl
  refine ⟨hs'.ok, hs'.defers, hs'.size, hs'.base, fun b hb => hs'.free b ?_, fun i hi _ b hb _ => hs'.free b ?_, fun i t hi _ hw av hl => key i t hi (fun p o hp ho hd => ?_) av hl, fun i b hi _ hw blk hl => ?_⟩
  ·have := T.nxt 0 ops.size (Nat.zero_le _) (Nat.le_refl _)
   rw [h0] at this
   omega
  ·have := T.nxt 0 i (Nat.zero_le _) (Nat.le_of_lt hi)
   rw [h0] at this
   omega
  ·have := hw p o hp ho hd
   rw [hfalse] at this; cases this
  ·obtain ⟨x0, h1, h2⟩ := T.betweenB (b := b) 0 i (Nat.zero_le _) hi (fun r blk' _ hr hbw => by
    have := hw r blk' hr hbw
    rw [hfalse] at this; cases this) blk hl
   rw [h0] at h1
   exact h2.rep (hs'.heap b x0 h1)
end Go.Ab
