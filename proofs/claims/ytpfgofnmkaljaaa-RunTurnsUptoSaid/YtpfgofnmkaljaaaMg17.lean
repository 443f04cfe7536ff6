/-
  A call walked in place; a range over a function: the function walked in place, its calls of yield as rounds of the waiting frame's body.
-/
import Derived.Test.YtpfgofnmkaljaaaMg16
import Derived.RangeFuncIn
import Derived.RangeFuncRecord
set_option linter.unusedVariables false
set_option linter.unusedSimpArgs false
namespace Go.Ab
open Go Go.RowKit
def arrT (a : Act) : List Nat → List Value
 | [] => []
 | t :: r => a.tmps.getD t undef :: arrT a r
def cellsT (tmps : List (Nat × AV)) : List Nat → List AV
 | [] => []
 | t :: r => (look tmps t).getD .top :: cellsT tmps r
def zipT : List Nat → List AV → List (Nat × AV)
 | t :: ts, c :: cs => (t, c) :: zipT ts cs
 | _, _ => []
theorem arrT_len (a : Act) : ∀ ts, (arrT a ts).length = ts.length
 | [] => rfl
 | t :: r => by simp [arrT, arrT_len a r]
theorem cellsT_len (l : List (Nat × AV)) : ∀ ts, (cellsT l ts).length = ts.length
 | [] => rfl
 | t :: r => by simp [cellsT, cellsT_len l r]
theorem cellsT_get {l : List (Nat × AV)} {a : Act} : ∀ {ts : List Nat} {i : Nat} {av : AV} {x : Value}, (cellsT l ts)[i]? = some av → (arrT a ts)[i]? = some x → ∃ t, av = (look l t).getD .top ∧ x = a.tmps.getD t undef
 | [], i, av, x, h, _ => by simp [cellsT] at h
 | t :: r, 0, av, x, h, h' => by simp [cellsT] at h; simp [arrT] at h'; exact ⟨t, h.symm, by simpa using h'.symm⟩
 | t :: r, i + 1, av, x, h, h' => cellsT_get (ts := r) (i := i) (by simpa [cellsT] using h) (by simpa [arrT] using h')
theorem zipT_get {a : Act} : ∀ {ts : List Nat} {cs : List AV} {t : Nat} {av : AV}, look (zipT ts cs) t = some av → ∃ i : Nat, cs[i]? = some av ∧ (arrT a ts)[i]? = some (a.tmps.getD t undef)
 | [], cs, t, av, h => by simp [zipT, look] at h
 | u :: ts, [], t, av, h => by simp [zipT, look] at h
 | u :: ts, c :: cs, t, av, h => by
  simp only [zipT, look] at h
  cases e : u == t with
  | true => simp [e] at h; have := eq_of_beq e; subst this; subst h; exact ⟨0, rfl, rfl⟩
  | false =>
   simp [e] at h
   obtain ⟨i, h1, h2⟩ := zipT_get (a := a) (ts := ts) (cs := cs) h
   exact ⟨i + 1, by simpa using h1, by simpa [arrT] using h2⟩
def Cx.sub (cx : Cx) (a : Act) (n : Nat) (r : Option Nat) : Cx := { cx with n := n, eds := a.defers ++ cx.eds, rnd := r }
section
variable {cx : Cx} {a : Act} {n : Nat} {r : Option Nat}
theorem sub_n : (cx.sub a n r).n = n := rfl
theorem sub_tt : (cx.sub a n r).tt = cx.tt := rfl
theorem sub_P : (cx.sub a n r).P = cx.P := rfl
end
theorem Marks.tail {n0 : Nat} {ι : Pl} {xs ys : List Deferred} {w : World} (h : Marks n0 ι (xs ++ ys) w) : Marks n0 ι ys w :=
 ⟨fun d hd => h.all d (List.mem_append_right _ hd), by have := h.nd; rw [List.map_append] at this; exact (List.nodup_append.1 this).2.1⟩
theorem SatI.enter {cx : Cx} {s : AState} {ι : Pl} {a : Act} {w : World} (hs : SatI cx s ι a w) (ts : List Nat) {n : Nat} {r : Option Nat} {T : Array Value} {tm : List (Nat × AV)} (hn : T.size = n) (ht : ∀ t av, look tm t = some av → Rep (Still cx.A ι w) ι w av (T.getD t undef)) :
  SatI (cx.sub a n r) ⟨tm, (s.nxt, .fr (arrT a ts) (cellsT s.tmps ts)) :: s.heap, s.nxt + 1⟩ (setPl ι s.nxt .nil) { tmps := T, defers := [] } w := by
 have hst : StepR ι w (setPl ι s.nxt .nil) w (fun b => b = s.nxt) (fun b => s.nxt ≤ b) := step_nil hs.ok s.nxt _ _ (Nat.le_refl _)
 have hrep : ∀ {av x}, Rep (Still cx.A ι w) ι w av x → Rep (Still cx.A (setPl ι s.nxt .nil) w) (setPl ι s.nxt .nil) w av x := fun hr => hst.rep hr fun b hb hk => hr.men b hb (hs.free b hk)
 refine ⟨hst.ok, fun b hb => ?_, hs.defers.step hst, hn, fun t av hl => hrep (ht t av hl), fun b blk hl => ?_, ?_⟩
 ·have hb' : s.nxt + 1 ≤ b := hb
  rw [setPl_other _ _ (by omega)]
  exact hs.free b (by omega)
 ·simp only [look] at hl
  cases e : s.nxt == b with
  | true =>
   have := eq_of_beq e
   subst this
   simp [e] at hl
   subst hl
   refine .fr _ _ (setPl_same _ _ _) (by rw [arrT_len, cellsT_len]) fun i av x ha hx => ?_
   obtain ⟨t, rfl, rfl⟩ := cellsT_get ha hx
   refine hrep ?_
   cases hl : look s.tmps t with
   | none => exact .top _
   | some av => exact hs.tmps t av hl
  | false =>
   simp [e] at hl
   have hb := hs.heap b blk hl
   have hne : b ≠ s.nxt := fun h => by simp [h] at e
   exact hst.blk hs.ok hb hne (fun hk => hb.laid (hs.free b hk)) fun i av ha b' hb' hk => by
    obtain ⟨x, hx⟩ := hb.avs ha
    exact hx.men b' hb' (hs.free b' hk)
 ·have := hs.base.step hst
  exact ⟨this.os, this.tape, this.output, this.size, this.block, this.own, this.hown⟩
theorem SatI.leave {cx : Cx} {s : AState} {ι : Pl} {a a' : Act} {w : World} {n : Nat} {r : Option Nat} (hs : SatI (cx.sub a n r) s ι a' w) (ha : a.tmps.size = cx.n) {m : Nat} {ts : List Nat} {cells : List AV} (hm : look s.heap m = some (.fr (arrT a ts) cells))
  {d : Option Tmp} {av : AV} {v : Value} (hv : Rep (Still cx.A ι w) ι w av v) (hd : match d with | some t => t < cx.n | none => True) : SatI cx ⟨putT d av (zipT ts cells), s.heap, s.nxt⟩ ι (a.put d v) w := by
 have hfr := hs.heap m _ hm
 refine ⟨hs.ok, hs.free, ?_, ?_, fun t av' hl => ?_, hs.heap, ⟨hs.base.os, hs.base.tape, hs.base.output, hs.base.size, hs.base.block, hs.base.own, hs.base.hown⟩⟩
 ·have : (a.put d v).defers = a.defers := by cases d <;> rfl
  rw [this]
  exact hs.defers.tail
 ·cases d <;> simp [Act.put, ha]
 ·have hold : ∀ t av', look (zipT ts cells) t = some av' → Rep (Still cx.A ι w) ι w av' (a.tmps.getD t undef) := fun t av' hl => by
   obtain ⟨i, h1, h2⟩ := zipT_get (a := a) hl
   cases hfr with
   | fr _ _ g1 g2 g3 => exact g3 i av' _ h1 h2
  cases d with
  | none => exact hold t av' hl
  | some d =>
   simp only [putT, look] at hl
   cases hdt : d == t with
   | true =>
    have := eq_of_beq hdt
    subst this
    simp [hdt] at hl
    subst hl
    have hlt : d < cx.n := hd
    simp only [Act.put]
    rw [show (a.tmps.setIfInBounds d v).getD d undef = v by simp [Array.getD, ha, hlt]]
    exact hv
   | false =>
    simp [hdt] at hl
    have hne : d ≠ t := by simpa using hdt
    simp only [Act.put]
    rw [show (a.tmps.setIfInBounds d v).getD t undef = a.tmps.getD t undef by simp only [Array.getD_eq_getD_getElem?, Array.getElem?_setIfInBounds_ne hne]]
    exact hold t av' hl
theorem SatI.write {cx : Cx} {s : AState} {ι : Pl} {a : Act} {w w' : World} (hs : SatI cx s ι a w) {b : Nat} {blk : Blk} (hst : StepR ι w ι w' (fun b' => b' = b) (fun _ => False)) (hb : BlkRep (Still cx.A ι w') ι w' b blk) : SatI cx ⟨s.tmps, (b, blk) :: s.heap, s.nxt⟩ ι a w' := by
 refine ⟨hst.ok, hs.free, hs.defers.step hst, hs.size, fun t av hl => hst.rep (hs.tmps t av hl) fun _ _ h => h, fun b' blk' hl => ?_, hs.base.step hst⟩
 simp only [look] at hl
 cases e : b == b' with
 | true =>
  have := eq_of_beq e
  subst this
  simp [e] at hl
  subst hl
  exact hb
 | false =>
  simp [e] at hl
  have hne : b' ≠ b := fun h => by simp [h] at e
  exact hst.blk hs.ok (hs.heap b' blk' hl) hne id fun _ _ _ _ _ => id
theorem step_lp {ι : Pl} {w : World} (hok : Ok ι w) {b l : Nat} (hb : ι b = some (.at l 0)) (o : Obj) : StepR ι w ι (w.putObj l o) (fun b' => b' = b) (fun _ => False) :=
 StepO.R ⟨rfl, rfl, rfl, by simp, fun _ _ => rfl, fun b' g c h => .inl ⟨b', c, h⟩, fun g hg hn => World.putObj_heap_other fun e => hn b 0 rfl (by rw [e]; exact hb), hok.grow (by simp)⟩ rfl
theorem SatI.putLp {cx : Cx} {s : AState} {ι : Pl} {a : Act} {w : World} (hs : SatI cx s ι a w) {b l : Nat} {rec : Loop} (hb : look s.heap b = some (.lp l rec)) (rec' : Loop) : w.heap[l]? = some (.loop rec) ∧ SatI cx ⟨s.tmps, (b, .lp l rec') :: s.heap, s.nxt⟩ ι a (w.putObj l (.loop rec')) := by
 have := hs.heap b _ hb
 cases this with
 | lp _ _ h1 h2 => exact ⟨h2, hs.write (step_lp hs.ok h1 _) (.lp l rec' h1 (World.putObj_heap_same (Array.getElem?_eq_some_iff.1 h2).1))⟩
theorem stepR_scope {P : Program} {b : Frame} {a : Act} {k : List Item} {cs : List Frame} {w : World} {c : Code} : step P (lone (b.atR a (.code (.scope c) :: k)) cs w) = .next (lone (b.atR a (.code c :: .inScope c :: k)) cs w) :=
 step_lone_go (by simp [stepG, stepG.exec, Frame.atR])
theorem stepR_inScope {P : Program} {b : Frame} {a : Act} {k : List Item} {cs : List Frame} {w : World} {c : Code} : step P (lone (b.atR a (.inScope c :: k)) cs w) = .next (lone (b.atR a k) cs w) :=
 step_lone_go (by simp [stepG, stepG.exec, Frame.atR])
theorem wpIn_scope {F : Fence} {n : Nat} {P : Program} {c : Code} {Q : Exit → Act → World → Prop} {a : Act} {w : World} (hQ : ∀ l a w, ¬ Q (.goto l) a w) (h : c.wpIn F n P Q a w) : (Code.scope c).wpIn F n P Q a w := by
 intro b k cs hro hb hr
 have h0 : (lone (b.atR a (.code (.scope c) :: k)) cs w).fenced P F := fenced_calm hb hr rfl
 obtain ⟨e, a₁, w₁, hq, harr⟩ := h b (.inScope c :: k) cs hro hb hr
 cases e with
 | normal => exact ⟨.normal, a₁, w₁, hq, .head h0 stepR_scope (StepsIn.trans harr (.one (fenced_calm hb hr rfl) stepR_inScope))⟩
 | exit id =>
  have hx : exitTo id (.inScope c :: k) = exitTo id k := by simp [exitTo]
  exact ⟨.exit id, a₁, w₁, hq, fun k' hk => .head h0 stepR_scope (harr.1 k' (by rw [hx]; exact hk)),
   fun hr' hk => let ⟨k₁, h1, h2⟩ := harr.2 hr' (by rw [hx]; exact hk); ⟨k₁, h1, .head h0 stepR_scope h2⟩⟩
 | goto l => exact absurd hq (hQ l a₁ w₁)
 | ret => exact ⟨_, a₁, w₁, hq, .of_steps (.one h0 stepR_scope) harr⟩
 | panic ch => exact ⟨_, a₁, w₁, hq, .of_steps (.one h0 stepR_scope) harr⟩
 | outgrown => exact ⟨_, a₁, w₁, hq, .of_steps (.one h0 stepR_scope) harr⟩
theorem kpost_goto {cx : Cx} {Q : Post} {l : Nat} {a : Act} {w : World} : ∀ {k : List K}, kpost cx Q k (.goto l) a w → Q (.goto l) a w
 | [], h => h
 | .code c :: k, h => kpost_goto (k := k) h
 | .fin R :: k, h => kpost_goto (k := k) h
 | .blk id :: k, h => kpost_goto (k := k) h
theorem go_scope {cx : Cx} {Q : Post} {k : List K} {s : AState} {c : Code} (hQ : ∀ l a w, ¬ Q (.goto l) a w) (h : Go' cx Q (.code c :: k) s) : Go' cx Q (.code (.scope c) :: k) s :=
 fun a w hs => wpIn_scope (fun l a w hq => hQ l a w (kpost_goto hq)) (h a w hs)
theorem go_label {cx : Cx} {Q : Post} {k : List K} {s : AState} {l : Nat} (h : Go' cx Q k s) : Go' cx Q (.code (.label l) :: k) s := fun a w hs => wpIn_label (h a w hs)
def oneOf : List AV → AV
 | [x] => x
 | xs => .tup xs
theorem results_ok {cx : Cx} (htt : TtOk cx.P cx.tt) {fn : Func} {s : AState} {ι : Pl} {a : Act} {w : World} (hs : SatI cx s ι a w) {vc : Prop} {avs : List AV} (h : resL cx.tt s.tmps s.heap fn.results.toList = some (vc, avs)) (hvc : vc) :
  ∃ v, (results fn a.tmps).run cx.P w = .ok v w ∧ Rep (Still cx.A ι w) ι w (oneOf avs) v := by
 obtain ⟨vs, h1, h2, h3, h4⟩ := resL_ok htt hs h hvc
 have := run_mapM_list (P := cx.P) (w := w) (resV a.tmps) fn.results.toList vs (by omega) h3
 have hrun : (results fn a.tmps).run cx.P w = .ok (if h : vs.toArray.size = 1 then vs.toArray[0] else .tuple vs.toArray) w := by
  rw [results_eq, Sem.run_bind, Array.mapM_eq_mapM_toList, Sem.run_map, this]
  rfl
 refine ⟨_, hrun, ?_⟩
 match avs, vs, h1, h4 with
 | [], [], _, _ => exact .tup [] [] rfl fun i av x ha _ => by simp at ha
 | [x], [v], _, h4 => exact h4 0 x v rfl rfl
 | x :: y :: r, u :: v :: q, h1, h4 =>
  rw [dif_neg (by simp)]
  exact .tup _ _ h1 h4
def InlQ (cx : Cx) (a : Act) (o : Oper) (fn : Func) (KK : AState → Prop) : Post := bodyPostM Fence.wide 0 cx.P fn fun e w' => ∃ v s', e = .returned v ∧ KK s' ∧ Sat cx s' (a.put o.dst v) w'
theorem getD_args {vs : List Value} {n t : Nat} (h : t < vs.length) : (vs.toArray ++ Array.replicate n undef).getD t undef = vs.getD t undef := by
 simp only [Array.getD_eq_getD_getElem?]
 rw [Array.getElem?_append_left (by simpa using h)]
 simp [List.getD]
theorem args_told {I : Nat → Prop} {ι : Pl} {w : World} {args : List AV} {vs : List Value} {n : Nat} (hl : vs.length = args.length) (hr : ∀ (i : Nat) av x, args[i]? = some av → vs[i]? = some x → Rep I ι w av x) :
  ∀ t av, look (argT 0 args) t = some av → Rep I ι w av ((vs.toArray ++ Array.replicate n undef).getD t undef) := fun t av hl' => by
 obtain ⟨_, hget⟩ := look_argT args 0 t av hl'
 simp only [Nat.sub_zero] at hget
 have hlt : t < vs.length := by rw [hl]; exact (List.getElem?_eq_some_iff.1 hget).1
 rw [getD_args hlt]
 exact hr t av _ hget (getD_get hlt)
theorem CallK.inl {cx : Cx} {o : Oper} {s : AState} {f : FuncId} {args : List AV} {KK : AState → Prop} {fn : Func} {c : Code} (ts : List Nat) (hf : cx.P.funcs[f]? = some fn) (hb : fn.body = some c) (hnm : (fn.name == "runtime.NumGoroutine") = false) (hn : args.length ≤ fn.ntmps)
  (h : ∀ a : Act, a.tmps.size = cx.n → Go' (cx.sub a fn.ntmps none) (InlQ cx a o fn KK) [.code c] ⟨argT 0 args, (s.nxt, .fr (arrT a ts) (cellsT s.tmps ts)) :: s.heap, s.nxt + 1⟩) : CallK cx o s f args KK := by
 refine ⟨⟨fn, hf, hnm, by simp [hb]⟩, fun ι a w vs hs hl hr => ?_⟩
 have hsat := hs.enter ts (n := fn.ntmps) (r := none) (T := vs.toArray ++ Array.replicate (fn.ntmps - vs.toArray.size) undef) (by simp; omega) (args_told hl hr)
 refine (callsIn_wide.1 (callsIn_of_wp_marks (F := Fence.wide) (n := 0) hf hb trivial (h a hs.size _ w ⟨_, hsat⟩))).mono fun e w' he => ?_
 obtain ⟨v, s', rfl, hK, ι', hS⟩ := he
 exact ⟨v, s', ι', rfl, hK, hS⟩
def RngQ (cx : Cx) (a : Act) (fn : Func) (l : Nat) (R : Option Code → AState → Prop) : Post :=
 bodyPostM Fence.wide 0 cx.P fn fun e w' => ∃ v pend s' w'', e = .returned v ∧ (Instr.endLoop l).run cx.P w' = .ok pend w'' ∧ R pend s' ∧ Sat cx s' a w''
def recOf (self : FuncId) (T : Array Value) (ps : Array Tmp) (assign body : Code) (D : Nat) (st : LoopState) (pend : Option Code) : Loop :=
 { state := st, pending := pend, fn := self, tmps := T, params := ps, assign := assign, body := body, defers := D }
def markOf (D : Nat) : Deferred := { target := .collected D, args := #[] }
def yieldV (l : Nat) : AV := .c (.val (.func (.yield l) #[] #[]))
theorem go_range {cx : Cx} {Q : Post} {k : List K} {s : AState} {g : Operand} {ps : Array Tmp} {assign body : Code} (hrnd : cx.rnd = none) {f : FuncId} {caps : List AV} (hg : evT s.tmps g = .clo f caps) {fn : Func} {c : Code} (ts : List Nat) (hf : cx.P.funcs[f]? = some fn) (hb : fn.body = some c) (hnm : (fn.name == "runtime.NumGoroutine") = false) (hn : caps.length + 1 ≤ fn.ntmps)
  (R : Option Code → AState → Prop)
  (h : ∀ (a : Act) (l D : Nat) (self : FuncId) (asg bod : Code), asg = assign → bod = body → a.tmps.size = cx.n → Go' (cx.sub a fn.ntmps none) (RngQ cx a fn l R) [.code c]
   ⟨argT 0 (yieldV l :: caps), (s.nxt + 1, .fr (arrT a ts) (cellsT s.tmps ts)) :: (s.nxt, .lp l (recOf self a.tmps ps asg bod D .ready none)) :: s.heap, s.nxt + 1 + 1⟩)
  (hk : ∀ pend s', R pend s' → Go' cx Q (match pend with | none => k | some c => .code c :: k) s') : Go' cx Q (.code (.rangeFunc g ps assign body) :: k) s := by
 rintro a w ⟨ι, hs⟩
 refine wpIn_rangeFunc fun self _ => ?_
 obtain ⟨xs, hv, hxl, hxr⟩ := evT_clo hs hg
 let W1 := (w.alloc (.deferred (some []))).alloc (.loop (recOf self a.tmps ps assign body w.heap.size .ready none))
 have hsz1 : (w.alloc (.deferred (some []))).heap.size = w.heap.size + 1 := by simp
 have hD : W1.heap[w.heap.size]? = some (.deferred (some [])) := by
  show (((w.heap.push (.deferred (some []))).push _))[w.heap.size]? = _
  rw [Array.getElem?_push, if_neg (by simp), Array.getElem?_push, if_pos rfl]
 have hL : W1.heap[w.heap.size + 1]? = some (.loop (recOf self a.tmps ps assign body w.heap.size .ready none)) := by
  show (((w.heap.push (.deferred (some []))).push _))[w.heap.size + 1]? = _
  rw [Array.getElem?_push, if_pos (by simp)]
 have hold : ∀ g, g < w.heap.size → W1.heap[g]? = w.heap[g]? := fun g hg => by
  show (((w.heap.push (.deferred (some []))).push _))[g]? = _
  rw [Array.getElem?_push, if_neg (by simp; omega), Array.getElem?_push, if_neg (by omega)]
 have hsz : W1.heap.size = w.heap.size + 2 := by simp [W1]
 obtain ⟨ι1, hι1⟩ : ∃ ι1, ι1 = setPl ι s.nxt (.at (w.heap.size + 1) 0) := ⟨_, rfl⟩
 have hsame : ι1 s.nxt = some (.at (w.heap.size + 1) 0) := by rw [hι1, setPl_same]
 have hother : ∀ b, b ≠ s.nxt → ι1 b = ι b := fun b hb => by rw [hι1, setPl_other _ _ hb]
 have hinv : ∀ b g c, ι1 b = some (.at g c) → (b = s.nxt ∧ g = w.heap.size + 1) ∨ (b ≠ s.nxt ∧ ι b = some (.at g c)) := fun b g c h => by
  by_cases e : b = s.nxt
  ·subst e; rw [hsame] at h; cases h; exact .inl ⟨rfl, rfl⟩
  ·rw [hother _ e] at h; exact .inr ⟨e, h⟩
 have hst : StepR ι w ι1 W1 (fun b => b = s.nxt) (fun b => s.nxt ≤ b) := by
  have hhid : ι1.hid = ι.hid := by rw [hι1]; rfl
  refine StepO.R ⟨rfl, rfl, rfl, by omega, fun b hb => hother _ (by omega), fun b g c h => ?_, fun g hg _ => hold g hg, ⟨fun b b' g c c' h1 h2 => ?_, fun b g c h => ?_, fun g b h => by rw [hhid] at h; have := hs.ok.hlt g b h; omega, fun g b h b' c h2 => ?_, fun g b h => by rw [hι1]; exact setPl_laid (hs.ok.hlaid g b (by rw [hhid] at h; exact h))⟩⟩ hhid
  ·rcases hinv b g c h with ⟨_, rfl⟩ | ⟨_, h⟩
   ·exact .inr (by omega)
   ·exact .inl ⟨b, c, h⟩
  ·rcases hinv _ _ _ h1 with ⟨rfl, rfl⟩ | ⟨_, g1⟩ <;> rcases hinv _ _ _ h2 with ⟨rfl, hg⟩ | ⟨_, g2⟩
   ·rfl
   ·have := hs.ok.lt _ _ _ g2; omega
   ·have := hs.ok.lt _ _ _ g1; omega
   ·exact hs.ok.inj _ _ _ _ _ g1 g2
  ·rcases hinv _ _ _ h with ⟨_, rfl⟩ | ⟨_, h⟩
   ·omega
   ·have := hs.ok.lt _ _ _ h; omega
  ·rw [hhid] at h
   rcases hinv _ _ _ h2 with ⟨_, rfl⟩ | ⟨_, h2⟩
   ·have := hs.ok.hlt _ _ h; omega
   ·exact hs.ok.hdis g b h b' c h2
 have hrep : ∀ {av x}, Rep (Still cx.A ι w) ι w av x → Rep (Still cx.A ι1 W1) ι1 W1 av x := fun hr => hst.rep hr fun b hb hk => hr.men b hb (hs.free b hk)
 have hmarks : Marks cx.w0.heap.size ι1 (markOf w.heap.size :: (a.defers ++ cx.eds)) W1 := by
  have hold' := hs.defers.step hst
  refine ⟨fun d hd => ?_, ?_⟩
  ·rcases List.mem_cons.1 hd with rfl | hd
   ·refine ⟨w.heap.size, rfl, hs.base.size, hD, ?_, fun b c hb => ?_⟩
    ·rw [hι1]
     show ι.hid w.heap.size = none
     cases h : ι.hid w.heap.size with
     | none => rfl
     | some b => have := hs.ok.hlt _ _ h; omega
    rcases hinv _ _ _ hb with ⟨_, h⟩ | ⟨_, h⟩
    ·omega
    ·have := hs.ok.lt _ _ _ h; omega
   ·exact hold'.all d hd
  ·simp only [List.map_cons, List.nodup_cons]
   refine ⟨fun hm => ?_, hs.defers.nd⟩
   obtain ⟨d, hd, he⟩ := List.mem_map.1 hm
   obtain ⟨D, rfl, _, h2, _⟩ := hs.defers.all d hd
   have := (Array.getElem?_eq_some_iff.1 h2).1
   simp only [markAt, markOf] at he
   omega
 have hs1 : SatI cx ⟨s.tmps, (s.nxt, .lp (w.heap.size + 1) (recOf self a.tmps ps assign body w.heap.size .ready none)) :: s.heap, s.nxt + 1⟩ ι1 { a with defers := markOf w.heap.size :: a.defers } W1 := by
  refine ⟨hst.ok, fun b hb => ?_, hmarks, hs.size, fun t av hl => hrep (hs.tmps t av hl), fun b blk hl => ?_, hs.base.step hst⟩
  ·have hb' : s.nxt + 1 ≤ b := hb
   rw [hother _ (by omega)]
   exact hs.free b (by omega)
  ·simp only [look] at hl
   cases e : s.nxt == b with
   | true =>
    have := eq_of_beq e
    subst this
    simp [e] at hl
    subst hl
    exact .lp _ _ hsame hL
   | false =>
    simp [e] at hl
    have hb := hs.heap b blk hl
    have hne : b ≠ s.nxt := fun h => by simp [h] at e
    exact hst.blk hs.ok hb hne (fun hk => hb.laid (hs.free b hk)) fun i av ha b' hb' hk => by
     obtain ⟨x, hx⟩ := hb.avs ha
     exact hx.men b' hb' (hs.free b' hk)
 have hargs : ∀ (i : Nat) av x, (yieldV (w.heap.size + 1) :: caps)[i]? = some av → ((Value.func (.yield (w.heap.size + 1)) #[] #[]) :: xs)[i]? = some x → Rep (Still cx.A ι1 W1) ι1 W1 av x := fun i av x hi hx => by
  cases i with
  | zero => simp at hi hx; subst hi hx; exact .c _ _ (.val _ rfl)
  | succ i => exact hrep (hxr i av x (by simpa using hi) (by simpa using hx))
 have hsat := hs1.enter ts (n := fn.ntmps) (r := none) (T := ((Value.func (.yield (w.heap.size + 1)) #[] #[]) :: xs).toArray ++ Array.replicate (fn.ntmps - ((Value.func (.yield (w.heap.size + 1)) #[] #[]) :: xs).toArray.size) undef)
  (by simp; omega) (args_told (by simp [hxl]) hargs)
 have hcall := callsIn_of_wp_marks (F := FW none) (n := 0) (args := ((Value.func (.yield (w.heap.size + 1)) #[] #[]) :: xs).toArray) (R := fun e w' => ∃ v pend s' w'', e = .returned v ∧ (Instr.endLoop (w.heap.size + 1)).run cx.P w' = .ok pend w'' ∧ R pend s' ∧ Sat cx s' { a with defers := markOf w.heap.size :: a.defers } w'') hf hb trivial
  (h { a with defers := markOf w.heap.size :: a.defers } (w.heap.size + 1) w.heap.size self assign body rfl rfl hs.size _ W1 ⟨_, hsat⟩)
 refine ⟨w.heap.size + 1, [markOf w.heap.size], W1, { target := .fn (.func f) xs.toArray, args := #[.func (.yield (w.heap.size + 1)) #[] #[]] }, W1, f, ((Value.func (.yield (w.heap.size + 1)) #[] #[]) :: xs).toArray, W1, ?_, ?_, fun _ _ => trivial, ?_, fun hd => by simp [FW, Fence.wide] at hd, ?_⟩
 ·rw [show (FW cx.rnd).round = none by rw [hrnd]; rfl]
  exact run_enterLoop_outer self a.tmps ps assign body
 ·simp only [resolve, hv]
  simp [go_sem, Act.eval, Deferred.ofValue]
 ·simp only [invoke]
  rw [run_callFunc ⟨fn, hf, hnm, by simp [hb]⟩]
  simp
 ·rw [hrnd]
  refine hcall.mono fun e w' he => ?_
  obtain ⟨v, pend, s', w'', rfl, hend, hR, hS⟩ := he
  refine ⟨pend, w'', hend, ?_⟩
  have := hk pend s' hR { a with defers := markOf w.heap.size :: a.defers } w'' hS
  cases pend with
  | none => exact this
  | some c =>
   have h2 : c.wpIn (FW cx.rnd) 0 cx.P (kpost cx Q k) { a with defers := markOf w.heap.size :: a.defers } w'' := this
   rw [hrnd] at h2
   exact h2
theorem leaveR {cx : Cx} {a : Act} {fn : Func} {l : Nat} {R : Option Code → AState → Prop} {n : Nat} (ha : a.tmps.size = cx.n) (htt : TtOk cx.P cx.tt) {s : AState} {vc : Prop} {avs : List AV} (ts : List Nat) (m b : Nat) {cells : List AV} {rec : Loop} (hres : resL cx.tt s.tmps s.heap fn.results.toList = some (vc, avs)) (hvc : vc)
  (hm : look s.heap m = some (.fr (arrT a ts) cells)) (hb : look s.heap b = some (.lp l rec)) (hst : rec.state ≠ .busy) (hR : R rec.pending ⟨zipT ts cells, (b, .lp l { rec with state := .exhausted }) :: s.heap, s.nxt⟩) {a₁ : Act} {w : World} (hs : Sat (cx.sub a n none) s a₁ w) :
  RngQ cx a fn l R .ret a₁ w :=
 leave_of (cx := cx.sub a n none) hs fun ι a' w' hs' ht _ => by
  obtain ⟨v, h1, h2⟩ := results_ok (cx := cx.sub a n none) htt hs' hres hvc
  rw [← ht]
  have h3 := hs'.leave (d := none) ha hm h2 trivial
  obtain ⟨h4, h5⟩ := h3.putLp (b := b) hb { rec with state := .exhausted }
  exact ⟨v, h1, v, _, _, _, rfl, run_endLoop h4 hst, hR, ι, h5⟩
theorem go_endR {cx : Cx} {a : Act} {fn : Func} {l : Nat} {R : Option Code → AState → Prop} {n : Nat} (ha : a.tmps.size = cx.n) (htt : TtOk cx.P cx.tt) {s : AState} {vc : Prop} {avs : List AV} (ts : List Nat) (m b : Nat) {cells : List AV} {rec : Loop} (hres : resL cx.tt s.tmps s.heap fn.results.toList = some (vc, avs)) (hvc : vc)
  (hm : look s.heap m = some (.fr (arrT a ts) cells)) (hb : look s.heap b = some (.lp l rec)) (hst : rec.state ≠ .busy) (hR : R rec.pending ⟨zipT ts cells, (b, .lp l { rec with state := .exhausted }) :: s.heap, s.nxt⟩) :
  Go' (cx.sub a n none) (RngQ cx a fn l R) [] s := go_nil fun a₁ w hs => leaveR ha htt ts m b hres hvc hm hb hst hR hs
def RndQ (cx : Cx) (a : Act) (o : Oper) (l : Nat) (KK : AState → Prop) : Post :=
 roundPost cx.P l fun e w' => ∃ v s', e = .returned v ∧ KK s' ∧ Sat cx s' (a.put o.dst v) w'
def parT : List Tmp → List AV → List (Nat × AV) → List (Nat × AV)
 | t :: ts, av :: avs, l => parT ts avs ((t, av) :: l)
 | _, _, l => l
theorem parT_ok {I : Nat → Prop} {ι : Pl} {w : World} : ∀ (ps : List Tmp) (avs : List AV) (vs : List Value) (l : List (Nat × AV)) (T : Array Value), vs.length = avs.length → (∀ (i : Nat) av x, avs[i]? = some av → vs[i]? = some x → Rep I ι w av x) → (∀ t ∈ ps, t < T.size) →
  (∀ t av, look l t = some av → Rep I ι w av (T.getD t undef)) → (∀ t av, look (parT ps avs l) t = some av → Rep I ι w av (((ps.zip vs).foldl (fun tmps (p : Tmp × Value) => tmps.setIfInBounds p.1 p.2) T).getD t undef)) ∧ ((ps.zip vs).foldl (fun tmps (p : Tmp × Value) => tmps.setIfInBounds p.1 p.2) T).size = T.size
 | [], _, _, l, T, _, _, _, h => by
  simp only [parT, List.zip_nil_left, List.foldl_nil]
  exact ⟨h, trivial⟩
 | p :: ps, [], [], l, T, _, _, _, h => by
  simp only [parT, List.zip_nil_right, List.foldl_nil]
  exact ⟨h, trivial⟩
 | p :: ps, av :: avs, v :: vs, l, T, hl, hr, hp, h => by
  simp only [parT, List.zip_cons_cons, List.foldl_cons]
  have hpt := hp p List.mem_cons_self
  obtain ⟨g1, g2⟩ := parT_ok ps avs vs ((p, av) :: l) (T.setIfInBounds p v) (by simpa using hl) (fun i av x hi hx => hr (i + 1) av x (by simpa using hi) (by simpa using hx)) (fun t ht => by simpa using hp t (List.mem_cons_of_mem _ ht)) fun t av' hl' => by
   simp only [look] at hl'
   cases e : p == t with
   | true =>
    have := eq_of_beq e
    subst this
    simp [e] at hl'
    subst hl'
    rw [show (T.setIfInBounds p v).getD p undef = v by simp [Array.getD, hpt]]
    exact hr 0 av v rfl rfl
   | false =>
    simp [e] at hl'
    have hne : p ≠ t := by simpa using e
    rw [show (T.setIfInBounds p v).getD t undef = T.getD t undef by simp only [Array.getD_eq_getD_getElem?, Array.getElem?_setIfInBounds_ne hne]]
    exact h t av' hl'
  exact ⟨g1, by rw [g2]; simp⟩
theorem spec_yield {cx : Cx} {o : Oper} {KK : AState → Prop} {s : AState} {y : Operand} {ys : Array Operand} {tys : Array TypeId} (b m : Nat) (ts tw : List Nat) {l : Nat} {self : FuncId} {A : Act} {ps : Array Tmp} {asg bod assign body : Code} {D : Nat} {pend : Option Code} {cells : List AV} (hasg : asg = assign) (hbod : bod = body) {nn : Nat} (hnn : A.tmps.size = nn) (hop : o.op = .call { callee := .value y, args := ys, argTypes := tys }) (hy : evT s.tmps y = yieldV l)
  (hb : look s.heap b = some (.lp l (recOf self A.tmps ps asg bod D .ready pend))) (hm : look s.heap m = some (.fr (arrT A tw) cells)) (hps : ys.size = ps.size) (hpl : ∀ t ∈ ps.toList, t < nn)
  (h : ∀ a : Act, a.tmps.size = cx.n → Go' (cx.sub a nn (some l)) (fun _ _ _ => False) [.code assign, .fin fun s2 => ∃ s3, s3 = (⟨s2.tmps, (b, .lp l (recOf self A.tmps ps asg bod D .busy pend)) :: s2.heap, s2.nxt⟩ : AState) ∧ look s2.heap b = some (.lp l (recOf self A.tmps ps asg bod D .ready pend)) ∧ Go' (cx.sub a nn (some l)) (RndQ cx a o l KK) [.code body] s3]
   ⟨parT ps.toList (ys.toList.map (evT s.tmps)) (zipT tw cells), (s.nxt, .fr (arrT a ts) (cellsT s.tmps ts)) :: s.heap, s.nxt + 1⟩) : SpecK cx o KK s := by
 subst hasg hbod hnn
 intro ι a w next Q hs hnx
 refine ⟨about_trivial cx o a w, ?_⟩
 rw [semAt_plain _ _ _ (by rw [hop]; intro c hc; cases hc)]
 have hyv : a.eval y = .func (.yield l) #[] #[] := by
  have := hs.ev y
  rw [hy] at this
  generalize a.eval y = v at this
  cases this with
  | c _ _ hu => cases hu; rfl
 have hlp : w.heap[l]? = some (.loop (recOf self A.tmps ps asg bod D .ready pend)) := by
  have := hs.heap b _ hb
  cases this with
  | lp _ _ h1 h2 => exact h2
 have hexec : (execOp a.eval o).run cx.P w = .ok (.round l self ((ps.zip (ys.map a.eval)).foldl (fun tmps (p : Tmp × Value) => tmps.setIfInBounds p.1 p.2) A.tmps) asg bod) w := by
  unfold execOp
  simp only [hop, resolve, Sem.run_bind, hyv, Deferred.ofValue, Sem.run_pure, Result.andThen_ok, invoke]
  have := run_yield (P := cx.P) (args := #[] ++ ys.map a.eval) hlp (by simpa [recOf] using hps)
  simpa [recOf] using this
 rw [hexec]
 simp only [Oper.uponIn]
 refine ⟨fun hd => by simp [FW, Fence.wide] at hd, ?_⟩
 have hfr := hs.heap m _ hm
 have hwait : ∀ t av, look (zipT tw cells) t = some av → Rep (Still cx.A ι w) ι w av (A.tmps.getD t undef) := fun t av hl => by
  obtain ⟨i, h1, h2⟩ := zipT_get (a := A) hl
  cases hfr with
  | fr _ _ g1 g2 g3 => exact g3 i av _ h1 h2
 obtain ⟨g1, g2⟩ := parT_ok (I := Still cx.A ι w) (ι := ι) (w := w) ps.toList (ys.toList.map (evT s.tmps)) (ys.toList.map a.eval) (zipT tw cells) A.tmps (by simp) (fun i av x hi hx => by
  obtain ⟨u, hu, rfl⟩ := getElem?_map' hi
  obtain ⟨u', hu', rfl⟩ := getElem?_map' hx
  rw [hu] at hu'
  cases hu'
  exact hs.ev u) hpl hwait
 have hzip : (ps.zip (ys.map a.eval)).foldl (fun tmps (p : Tmp × Value) => tmps.setIfInBounds p.1 p.2) A.tmps = (ps.toList.zip (ys.toList.map a.eval)).foldl (fun tmps (p : Tmp × Value) => tmps.setIfInBounds p.1 p.2) A.tmps := by
  obtain ⟨pl⟩ := ps
  obtain ⟨yl⟩ := ys
  simp
 rw [hzip]
 generalize (ps.toList.zip (ys.toList.map a.eval)).foldl (fun tmps (p : Tmp × Value) => tmps.setIfInBounds p.1 p.2) A.tmps = T at g1 g2
 have hsat := hs.enter ts (n := A.tmps.size) (r := some l) (T := T) g2 g1
 have hw := h a hs.size _ w ⟨_, hsat⟩
 have hround : RoundIn (FW cx.rnd) (0 - 1) cx.P l self T asg bod w (fun e w' => ∃ v s', e = .returned v ∧ KK s' ∧ Sat cx s' (a.put o.dst v) w') := by
  refine roundIn_of_wpIn (F := FW cx.rnd) (n := 0 - 1) trivial ?_
  have hw2 : asg.wpIn (FW (some l)) 0 cx.P (kpost (cx.sub a A.tmps.size (some l)) (fun _ _ _ => False) [.fin fun s2 => ∃ s3, s3 = (⟨s2.tmps, (b, .lp l (recOf self A.tmps ps asg bod D .busy pend)) :: s2.heap, s2.nxt⟩ : AState) ∧ look s2.heap b = some (.lp l (recOf self A.tmps ps asg bod D .ready pend)) ∧ Go' (cx.sub a A.tmps.size (some l)) (RndQ cx a o l KK) [.code bod] s3]) { tmps := T, defers := [] } w := hw
  refine Code.wpIn_mono ?_ hw2
  intro e a₁ w₁ hq
  cases e with
  | normal =>
   obtain ⟨s2, ⟨s3, rfl, hb2, hgo⟩, ι2, hs2⟩ := hq
   obtain ⟨h4, h5⟩ := hs2.putLp hb2 (recOf self A.tmps ps asg bod D .busy pend)
   exact ⟨_, run_beginRound h4 rfl, hgo a₁ _ ⟨ι2, h5⟩⟩
  | exit id => exact hq.elim
  | goto l => exact hq.elim
  | ret => exact hq.elim
  | panic ch => exact hq.elim
  | outgrown => exact hq.elim
 refine hround.mono fun e w' he => ?_
 obtain ⟨v, s', rfl, hK, ι', hS⟩ := he
 exact hnx s' ι' _ w' hK hS
theorem rnd_out {cx : Cx} {a : Act} {o : Oper} {l : Nat} {KK : AState → Prop} {n : Nat} {r : Option Nat} (ha : a.tmps.size = cx.n) {s : AState} (ts : List Nat) (m b : Nat) {cells : List AV} {rec : Loop} (jump : Option Code)
  (hm : look s.heap m = some (.fr (arrT a ts) cells)) (hb : look s.heap b = some (.lp l rec)) (hd : match o.dst with | some t => t < cx.n | none => True)
  (hK : KK ⟨putT o.dst (.c (.val (.bool jump.isNone))) (zipT ts cells), (b, .lp l { rec with state := if jump.isNone then .ready else .done, pending := jump }) :: s.heap, s.nxt⟩) {a₁ : Act} {w : World} (hs : Sat (cx.sub a n r) s a₁ w) :
  ∃ v w', (Instr.endRound l jump).run cx.P w = .ok v w' ∧ ∃ v' s', Ending.returned v = .returned v' ∧ KK s' ∧ Sat cx s' (a.put o.dst v') w' := by
 obtain ⟨ι, hs⟩ := hs
 obtain ⟨h4, h5⟩ := hs.putLp hb { rec with state := if jump.isNone then .ready else .done, pending := jump }
 have hbm : ∃ c, look ((b, Blk.lp l { rec with state := if jump.isNone then .ready else .done, pending := jump }) :: s.heap) m = some (.fr (arrT a ts) c) ∧ c = cells := by
  refine ⟨cells, ?_, rfl⟩
  simp only [look]
  cases e : b == m with
  | true => have := eq_of_beq e; subst this; rw [hb] at hm; cases hm
  | false => exact hm
 obtain ⟨c, hm', rfl⟩ := hbm
 exact ⟨_, _, run_endRound jump h4, _, _, rfl, hK, ι, h5.leave ha hm' (.c _ _ (.val _ rfl)) hd⟩
section
variable {cx : Cx} {a : Act} {o : Oper} {l : Nat} {KK : AState → Prop} {n : Nat} {r : Option Nat} (ha : a.tmps.size = cx.n) {s : AState} (ts : List Nat) (m b : Nat) {cells : List AV} {rec : Loop}
theorem go_rndEnd (ha : a.tmps.size = cx.n) (hm : look s.heap m = some (.fr (arrT a ts) cells)) (hb : look s.heap b = some (.lp l rec)) (hd : match o.dst with | some t => t < cx.n | none => True)
  (hK : KK ⟨putT o.dst (.c (.val (.bool true))) (zipT ts cells), (b, .lp l { rec with state := .ready, pending := none }) :: s.heap, s.nxt⟩) : Go' (cx.sub a n r) (RndQ cx a o l KK) [] s :=
 go_nil fun a₁ w hs => rnd_out ha ts m b none hm hb hd hK hs
end
end Go.Ab
