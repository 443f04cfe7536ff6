/-
  A region whose order is drawn: the reckoning in the text's order, the check of what meets, and the rule.
-/
import Derived.Test.YtpfgofnmkaljaaaMg13
import Derived.Test.YtpfgofnmkaljaaaMg10
set_option linter.unusedVariables false
set_option linter.unusedSimpArgs false
namespace Go.Ab
open Go
def menBlk : Blk → List Nat
 | .box cells _ => menLs cells
 | .fr _ cells => menLs cells
 | .arr _ _ _ (some h) => menLs h.2
 | .opn av => menAV av
 | _ => []
def menH (heap : List (Nat × Blk)) : List Nat → List Nat
 | [] => []
 | b :: r => (match look heap b with | some blk => menBlk blk | none => []) ++ menH heap r
def menW : List (Nat × Blk) → List Nat
 | [] => []
 | (_, blk) :: r => menBlk blk ++ menW r
def idsW : List (Nat × Blk) → List Nat
 | [] => []
 | (b, _) :: r => b :: idsW r
theorem menBlk_mem {blk : Blk} {k : Nat} {av : AV} {b : Nat} (h : blk.avs[k]? = some av) (hm : Men b av) : b ∈ menBlk blk := by
 cases blk with
 | box cells ty => exact menLs_mem b cells k av h hm
 | fr arr cells => exact menLs_mem b cells k av h hm
 | arr k' es ty hole =>
  cases hole with
  | none => simp [Blk.avs] at h
  | some hole => exact menLs_mem b hole.2 k av h hm
 | opn av' =>
  cases k with
  | zero => simp [Blk.avs] at h; subst h; exact men_mem b _ hm
  | succ k => simp [Blk.avs] at h
 | _ => simp [Blk.avs] at h
theorem mem_menBlk {blk : Blk} {b : Nat} (h : b ∈ menBlk blk) : ∃ (k : Nat) (av : AV), blk.avs[k]? = some av ∧ Men b av := by
 cases blk with
 | box cells ty => obtain ⟨k, av, h1, h2⟩ := mem_menLs b cells h; exact ⟨k, av, h1, h2⟩
 | fr arr cells => obtain ⟨k, av, h1, h2⟩ := mem_menLs b cells h; exact ⟨k, av, h1, h2⟩
 | arr k' es ty hole =>
  cases hole with
  | none => cases h
  | some hole => obtain ⟨k, av, h1, h2⟩ := mem_menLs b hole.2 h; exact ⟨k, av, h1, h2⟩
 | opn av' => exact ⟨0, av', rfl, mem_men b _ h⟩
 | _ => cases h
theorem mem_menH {heap : List (Nat × Blk)} {b' : Nat} : ∀ {l : List Nat}, b' ∈ menH heap l → ∃ b blk, b ∈ l ∧ look heap b = some blk ∧ b' ∈ menBlk blk
 | [], h => by cases h
 | x :: r, h => by
  simp only [menH] at h
  rcases List.mem_append.1 h with h | h
  ·cases hl : look heap x with
   | none => rw [hl] at h; cases h
   | some blk => rw [hl] at h; exact ⟨x, blk, List.mem_cons_self, hl, h⟩
  ·obtain ⟨b, blk, h1, h2, h3⟩ := mem_menH h
   exact ⟨b, blk, List.mem_cons_of_mem _ h1, h2, h3⟩
theorem menH_mem {heap : List (Nat × Blk)} {b b' : Nat} {blk : Blk} : ∀ {l : List Nat}, b ∈ l → look heap b = some blk → b' ∈ menBlk blk → b' ∈ menH heap l
 | x :: r, h, hl, hb => by
  simp only [menH]
  cases h with
  | head => rw [hl]; exact List.mem_append_left _ hb
  | tail _ h => exact List.mem_append_right _ (menH_mem h hl hb)
theorem menW_mem {b b' : Nat} {blk : Blk} : ∀ {l : List (Nat × Blk)}, (b, blk) ∈ l → b' ∈ menBlk blk → b' ∈ menW l
 | (x, y) :: r, h, hb => by
  simp only [menW]
  cases h with
  | head => exact List.mem_append_left _ hb
  | tail _ h => exact List.mem_append_right _ (menW_mem h hb)
theorem idsW_mem {b : Nat} : ∀ {l : List (Nat × Blk)}, b ∈ idsW l ↔ ∃ blk, (b, blk) ∈ l
 | [] => by simp [idsW]
 | (x, y) :: r => by
  simp only [idsW, List.mem_cons, idsW_mem (l := r), Prod.mk.injEq]
  constructor
  ·rintro (rfl | ⟨blk, h⟩)
   ·exact ⟨y, .inl ⟨rfl, rfl⟩⟩
   ·exact ⟨blk, .inr h⟩
  ·rintro ⟨blk, ⟨rfl, rfl⟩ | h⟩
   ·exact .inl rfl
   ·exact .inr ⟨blk, h⟩
structure Rc where
 ms : List Nat
 rd0 : List Nat
 hm : List Nat
 rd : List Nat
 wr : List Nat
 kl : List Nat
 nxt : Nat
 nxt' : Nat
instance : Inhabited Rc := ⟨⟨[], [], [], [], [], [], 0, 0⟩⟩
def opnds (tmps : List (Nat × AV)) : List Operand → List Nat
 | [] => []
 | x :: r => menAV (evT tmps x) ++ opnds tmps r
def resOf (e : Eff) : List Nat := match e.res with | some av => menAV av | none => []
def heapR (heap : List (Nat × Blk)) : List Nat → List (Nat × Blk)
 | [] => []
 | b :: r => match look heap b with | some blk => (b, blk) :: heapR heap r | none => heapR heap r
def blindO : Op → Bool
 | .move _ | .assign _ | .pick _ _ _ | .nilCheck _ | .fieldAddr _ _ _ | .extract _ _ | .binOp _ _ _ _ _ | .unOp _ _ _ | .indexAddr _ _ _ => true
 | _ => false
def shallowO : Op → Bool
 | .load _ _ => true
 | _ => false
def seen (o : Oper) (s : AState) : List Nat := bif blindO o.op then [] else opnds s.tmps o.op.operands.toList ++ bif shallowO o.op then [] else menH s.heap (opnds s.tmps o.op.operands.toList)
def rcOf (o : Oper) (s : AState) (e : Eff) : Rc :=
 ⟨opnds s.tmps o.op.operands.toList, seen o s, menH s.heap (seen o s), opnds s.tmps o.op.operands.toList ++ (seen o s ++ menH s.heap (seen o s) ++ resOf e ++ menW e.wr), idsW e.wr, e.kill, s.nxt, e.next⟩
def CallD (cx : Cx) (o : Oper) (s : AState) (g : FuncId) (args : List AV) (KK : Eff → Prop) : Prop :=
 (∃ vc args' blks r, snapL (heapR s.heap (seen o s)) args = some (vc, args') ∧ vc ∧ FnO cx.P g args' blks r ∧ (menLs args = [] ∨ (flatAV r ∧ flatBs blks)) ∧ KK ⟨some (shiftAV s.nxt r), shiftBs s.nxt 0 blks, [], s.nxt + blks.length⟩) ∨
   ∃ e, OpW cx o (evT s.tmps) (look (heapR s.heap (seen o s))) s.nxt e ∧ KK e
theorem CallD.fresh {cx : Cx} {o : Oper} {s : AState} {g : FuncId} {args as args' : List AV} {KK : Eff → Prop} {blks : List Blk} {r : AV} {vc : Prop} (h : FnO cx.P g args' blks r) (hs : snapL (heapR s.heap (seen o s)) args = some (vc, as)) (he : as = args') (hvc : vc)
  (hfl : menLs args = [] ∨ (flatAV r ∧ flatBs blks)) (hK : KK ⟨some (shiftAV s.nxt r), shiftBs s.nxt 0 blks, [], s.nxt + blks.length⟩) : CallD cx o s g args KK := by
 subst he
 exact .inl ⟨_, _, _, _, hs, hvc, h, hfl, hK⟩
def doD (rk : Reck) (cx : Cx) (o : Oper) (KK : Eff → Prop) (s : AState) : Prop :=
 match calleeAV s.tmps o.op with
 | some (g, args) => CallD cx o s g args KK
 | none => match rk cx.tt s.tmps (heapR s.heap (seen o s)) s.nxt o with
  | some (vc, e) => vc ∧ KK e
  | none => ∃ e, OpW cx o (evT s.tmps) (look (heapR s.heap (seen o s))) s.nxt e ∧ KK e
def meet (x y : List Nat) : Bool := x.any fun b => y.contains b
def direct (o : Oper) : List Nat := (o.after.toList.filter fun x => Region.binds .any x).map (·.on)
def ancL (all : Array Oper) : Nat → List (List Nat)
 | 0 => []
 | n + 1 => let l := ancL all n; l ++ [match all[n]? with | some o => direct o ++ (direct o).flatMap (fun d => l.getD d []) | none => []]
def confl (all : Array Oper) (op oq : Oper) (p q : Rc) : Bool :=
 (match op.dst with | some d => (oq.looksAt all).contains d | none => false) || (match oq.dst with | some d => (op.looksAt all).contains d | none => false) || meet p.wr (q.rd ++ q.wr) || meet q.wr p.rd
def chkPair (all : Array Oper) (anc : List (List Nat)) (l : List Rc) (p q : Nat) : Bool :=
 match all[p]?, all[q]?, l[p]?, l[q]? with
 | some op, some oq, some rp, some rq => (!confl all op oq rp rq || (anc.getD q []).contains p) && (match op.dst with | some d => oq.dst != some d | none => true)
 | _, _, _, _ => false
def chk1 (all : Array Oper) (l : List Rc) (q : Nat) : Bool :=
 match all[q]?, l[q]? with
 | some o, some r => o.after.all (fun x => !Region.binds .any x || decide (x.on < q)) && (r.ms ++ r.rd0).all (fun b => decide (b < r.nxt)) && r.hm.all (fun b => decide (b < r.nxt)) && decide (r.nxt ≤ r.nxt') && r.kl.all (fun k => (r.ms ++ r.rd0).contains k)
 | _, _ => false
def chkD (all : Array Oper) (l : List Rc) : Bool :=
 let anc := ancL all all.size
 (List.range all.size).all fun q => chk1 all l q && (List.range q).all fun p => chkPair all anc l p q
def opsD (rk : Reck) (cx : Cx) (all : Array Oper) (R : AState → Prop) : List Oper → List Rc → AState → Prop
 | [], l, s => chkD all l = true ∧ R s
 | o :: r, l, s => (match o.dst with | some t => t < cx.n | none => True) ∧ match o.guard with
  | none => doD rk cx o (fun e => opsD rk cx all R r (l ++ [rcOf o s e]) (s.apply o e)) s
  | some (j, want) => match yAV all s.tmps j with
   | .c (.val (.bool b)) => (b = want → doD rk cx o (fun e => opsD rk cx all R r (l ++ [rcOf o s e]) (s.apply o e)) s) ∧ (b = !want → opsD rk cx all R r (l ++ [rcOf o s (skipEff s.nxt)]) (s.apply o (skipEff s.nxt)))
   | .tup [] => opsD rk cx all R r (l ++ [rcOf o s (skipEff s.nxt)]) (s.apply o (skipEff s.nxt))
   | _ => False
def opsDk (rk : Reck) (cx : Cx) (all : Array Oper) (R : AState → Prop) (r : List Oper) (l : List Rc) (o : Oper) (s : AState) (e : Eff) : Prop := opsD rk cx all R r (l ++ [rcOf o s e]) (s.apply o e)
theorem opsDk_mk (rk : Reck) (cx : Cx) (all : Array Oper) (R : AState → Prop) (r : List Oper) (l : List Rc) (o : Oper) (s : AState) (res : Option AV) (wr : List (Nat × Blk)) (kill : List Nat) (next : Nat) :
  opsDk rk cx all R r l o s ⟨res, wr, kill, next⟩ = opsD rk cx all R r (l ++ [rcOf o s ⟨res, wr, kill, next⟩]) (s.apply o ⟨res, wr, kill, next⟩) := rfl
theorem opsD_nil (rk : Reck) (cx : Cx) (all : Array Oper) (R : AState → Prop) (l : List Rc) (t : List (Nat × AV)) (h : List (Nat × Blk)) (n : Nat) : opsD rk cx all R [] l ⟨t, h, n⟩ = (chkD all l = true ∧ R ⟨t, h, n⟩) := rfl
theorem opsD_cons (rk : Reck) (cx : Cx) (all : Array Oper) (R : AState → Prop) (o : Oper) (r : List Oper) (l : List Rc) (t : List (Nat × AV)) (h : List (Nat × Blk)) (n : Nat) : opsD rk cx all R (o :: r) l ⟨t, h, n⟩ =
  ((match o.dst with | some t => t < cx.n | none => True) ∧ match o.guard with
  | none => doD rk cx o (opsDk rk cx all R r l o ⟨t, h, n⟩) ⟨t, h, n⟩
  | some (j, want) => match yAV all t j with
   | .c (.val (.bool b)) => (b = want → doD rk cx o (opsDk rk cx all R r l o ⟨t, h, n⟩) ⟨t, h, n⟩) ∧ (b = !want → opsDk rk cx all R r l o ⟨t, h, n⟩ (skipEff n))
   | .tup [] => opsDk rk cx all R r l o ⟨t, h, n⟩ (skipEff n)
   | _ => False) := rfl
theorem opsD_cons2 (rk : Reck) (cx : Cx) (all : Array Oper) (R : AState → Prop) (o : Oper) (r : List Oper) (l : List Rc) (t : List (Nat × AV)) (h : List (Nat × Blk)) (n : Nat) : opsD rk cx all R (o :: r) l ⟨t, h, n⟩ =
  ((match o.dst with | some t => t < cx.n | none => True) ∧ match o.guard with
  | none => doD rk cx o (opsDk rk cx all R r l o ⟨t, h, n⟩) ⟨t, h, n⟩
  | some (j, want) => match yAV all t j with
   | .c (.val (.bool b)) => if b = want then doD rk cx o (opsDk rk cx all R r l o ⟨t, h, n⟩) ⟨t, h, n⟩ else opsDk rk cx all R r l o ⟨t, h, n⟩ (skipEff n)
   | .tup [] => opsDk rk cx all R r l o ⟨t, h, n⟩ (skipEff n)
   | _ => False) := by
 rw [opsD_cons]
 congr 1
 cases o.guard with
 | none => rfl
 | some jw =>
  obtain ⟨j, want⟩ := jw
  simp only
  split
  ·exact bool_split _ _ _ _
  ·rfl
  ·rfl
def sF (all : Array Oper) (s0 : AState) (e : Nat → Eff) : Nat → AState
 | 0 => s0
 | n + 1 => match all[n]? with | some o => (sF all s0 e n).apply o (e n) | none => sF all s0 e n
theorem sF_congr {all : Array Oper} {s0 : AState} {e e' : Nat → Eff} : ∀ {k : Nat}, (∀ i, i < k → e i = e' i) → sF all s0 e k = sF all s0 e' k
 | 0, _ => rfl
 | k + 1, h => by simp only [sF, sF_congr (k := k) fun i hi => h i (by omega), h k (by omega)]
def LocD (cx : Cx) (all : Array Oper) (s : AState) (e : Eff) (on : Bool) (o : Oper) : Prop :=
 (∀ t, o.dst = some t → t < cx.n) ∧ (on = true → OpW cx o (evT s.tmps) (look (heapR s.heap (seen o s))) s.nxt e) ∧ (on = false → e = skipEff s.nxt) ∧
  ((o.guard = none ∧ on = true) ∨ ∃ j want, o.guard = some (j, want) ∧ ((∃ b, yAV all s.tmps j = .c (.val (.bool b)) ∧ on = (b == want)) ∨ (yAV all s.tmps j = .tup [] ∧ on = false)))
theorem doD_sound {rk : Reck} {cx : Cx} (hrk : RkOk cx.P cx.tt rk) {o : Oper} {KK : Eff → Prop} {s : AState} (h : doD rk cx o KK s) :
  ∃ e, KK e ∧ OpW cx o (evT s.tmps) (look (heapR s.heap (seen o s))) s.nxt e := by
 unfold doD at h
 split at h
 ·rename_i g args hc
  rcases h with ⟨vc, args', blks, r, h1, h2, h3, h4, h5⟩ | ⟨e, h1, h2⟩
  ·exact ⟨_, h5, h3.opW h1 h2 h4 hc⟩
  ·exact ⟨e, h2, h1⟩
 ·split at h
  ·rename_i vc e hr
   obtain ⟨h1, h2⟩ := hrk _ _ _ _ _ _ hr h.1
   exact ⟨e, h.2, h1.opW h2⟩
  ·obtain ⟨e, h1, h2⟩ := h
   exact ⟨e, h2, h1⟩
theorem opsD_some {rk : Reck} {cx : Cx} (hrk : RkOk cx.P cx.tt rk) {all : Array Oper} {R : AState → Prop} {o : Oper} {r : List Oper} {l : List Rc} {s : AState} (h : opsD rk cx all R (o :: r) l s) :
  ∃ e on, LocD cx all s e on o ∧ opsD rk cx all R r (l ++ [rcOf o s e]) (s.apply o e) := by
 simp only [opsD] at h
 obtain ⟨hd, h⟩ := h
 have hd' : ∀ t, o.dst = some t → t < cx.n := fun t ht => by rw [ht] at hd; exact hd
 cases hg : o.guard with
 | none =>
  rw [hg] at h
  obtain ⟨e, h1, h2⟩ := doD_sound hrk h
  exact ⟨e, true, ⟨hd', fun _ => h2, fun hf => (by cases hf), .inl ⟨hg, rfl⟩⟩, h1⟩
 | some jw =>
  obtain ⟨j, want⟩ := jw
  rw [hg] at h
  simp only at h
  split at h
  ·rename_i b hb
   by_cases hbw : b = want
   ·obtain ⟨e, h1, h2⟩ := doD_sound hrk (h.1 hbw)
    exact ⟨e, true, ⟨hd', fun _ => h2, fun hf => (by cases hf), .inr ⟨j, want, hg, .inl ⟨b, hb, by simp [hbw]⟩⟩⟩, h1⟩
   ·have hb' : b = !want := by cases b <;> cases want <;> simp_all
    exact ⟨skipEff s.nxt, false, ⟨hd', fun hf => (by cases hf), fun _ => rfl, .inr ⟨j, want, hg, .inl ⟨b, hb, by rw [hb']; cases want <;> rfl⟩⟩⟩, h.2 hb'⟩
  ·rename_i hb
   exact ⟨skipEff s.nxt, false, ⟨hd', fun hf => (by cases hf), fun _ => rfl, .inr ⟨j, want, hg, .inr ⟨hb, rfl⟩⟩⟩, h⟩
  ·exact h.elim
theorem opsD_run {rk : Reck} {cx : Cx} (hrk : RkOk cx.P cx.tt rk) {all : Array Oper} {R : AState → Prop} {s0 : AState} (h : opsD rk cx all R all.toList [] s0) : ∀ k, k ≤ all.size →
  ∃ (e : Nat → Eff) (on : Nat → Bool), (∀ i o, i < k → all[i]? = some o → LocD cx all (sF all s0 e i) (e i) (on i) o) ∧
   opsD rk cx all R (all.toList.drop k) ((List.range k).map fun i => rcOf (all.getD i default) (sF all s0 e i) (e i)) (sF all s0 e k)
 | 0, _ => ⟨fun _ => skipEff 0, fun _ => false, fun i o hi => by omega, by simpa [sF] using h⟩
 | k + 1, hk => by
  obtain ⟨e, on, h1, h2⟩ := opsD_run hrk h k (by omega)
  have hko : all[k]? = some all[k] := Array.getElem?_eq_getElem (by omega)
  have hdrop : all.toList.drop k = all[k] :: all.toList.drop (k + 1) := by
   rw [List.drop_eq_getElem_cons (by simp; omega)]
   simp
  rw [hdrop] at h2
  obtain ⟨ε, b, h3, h4⟩ := opsD_some hrk h2
  let e' : Nat → Eff := fun i => if i = k then ε else e i
  let on' : Nat → Bool := fun i => if i = k then b else on i
  have hs : ∀ i, i ≤ k → sF all s0 e' i = sF all s0 e i := fun i hi => sF_congr fun j hj => by simp only [e']; rw [if_neg (by omega)]
  have hek : e' k = ε := by simp [e']
  have honk : on' k = b := by simp [on']
  have hel : ∀ i, i < k → e' i = e i := fun i hi => by simp only [e']; rw [if_neg (by omega)]
  have honl : ∀ i, i < k → on' i = on i := fun i hi => by simp only [on']; rw [if_neg (by omega)]
  refine ⟨e', on', fun i o hi ho => ?_, ?_⟩
  ·by_cases hik : i = k
   ·subst hik
    rw [hs i (Nat.le_refl _), hek, honk]
    rw [hko] at ho
    cases ho
    exact h3
   ·rw [hs i (by omega), hel i (by omega), honl i (by omega)]
    exact h1 i o (by omega) ho
  ·have e1 : sF all s0 e' (k + 1) = (sF all s0 e k).apply all[k] ε := by
    simp only [sF, hko, hs k (Nat.le_refl _), hek]
   rw [e1, List.range_succ, List.map_append, List.map_cons, List.map_nil]
   have e2 : (List.range k).map (fun i => rcOf (all.getD i default) (sF all s0 e' i) (e' i)) = (List.range k).map (fun i => rcOf (all.getD i default) (sF all s0 e i) (e i)) :=
    List.map_congr_left fun i hi => by
     have := List.mem_range.1 hi
     rw [hs i (by omega), hel i this]
   have e3 : all.getD k default = all[k] := by simp [Array.getD, show k < all.size by omega]
   rw [e2, e3, hs k (Nat.le_refl _), hek]
   exact h4
theorem look_heapR {heap : List (Nat × Blk)} {b : Nat} : ∀ {l : List Nat}, look (heapR heap l) b = bif l.contains b then look heap b else none
 | [] => rfl
 | x :: r => by
  have ih := look_heapR (heap := heap) (b := b) (l := r)
  simp only [heapR, List.contains_cons]
  cases hx : look heap x with
  | none =>
   simp only
   rw [ih]
   cases hbx : b == x with
   | true => have := eq_of_beq hbx; subst this; simp [hx]
   | false => simp
  | some blk =>
   simp only [look]
   rw [ih]
   cases hbx : b == x with
   | true => have := eq_of_beq hbx; subst this; simp [hx]
   | false =>
    have : (x == b) = false := by simp at hbx ⊢; exact fun h => hbx h.symm
    simp [this]
theorem opnds_mem {tmps : List (Nat × AV)} {b : Nat} : ∀ {l : List Operand}, b ∈ opnds tmps l ↔ ∃ x ∈ l, Men b (evT tmps x)
 | [] => by simp [opnds]
 | x :: r => by
  simp only [opnds, List.mem_append, opnds_mem (l := r), List.mem_cons, exists_eq_or_imp]
  exact or_congr ⟨mem_men b _, men_mem b _⟩ Iff.rfl
theorem ancL_len (all : Array Oper) : ∀ n, (ancL all n).length = n
 | 0 => rfl
 | n + 1 => by simp [ancL, ancL_len all n]
theorem ancL_get (all : Array Oper) {i : Nat} : ∀ {n : Nat}, i < n → (ancL all n).getD i [] = (ancL all (i + 1)).getD i []
 | 0, h => by omega
 | n + 1, h => by
  by_cases hi : i = n
  ·subst hi; rfl
  ·have hlt : i < n := by omega
   have : (ancL all (n + 1)).getD i [] = (ancL all n).getD i [] := by
    simp only [ancL, List.getD_eq_getElem?_getD]
    rw [List.getElem?_append_left (by rw [ancL_len]; exact hlt)]
   rw [this]
   exact ancL_get all hlt
theorem meet_true {x y : List Nat} {b : Nat} (h1 : b ∈ x) (h2 : b ∈ y) : meet x y = true := by
 simp only [meet, List.any_eq_true]
 exact ⟨b, h1, by simpa using h2⟩
theorem opsD_trace {rk : Reck} {cx : Cx} (hrk : RkOk cx.P cx.tt rk) {all : Array Oper} {R : AState → Prop} {s0 : AState} (h : opsD rk cx all R all.toList [] s0) :
  ∃ s e on rd0 rd anc, Tr cx all s e on rd0 rd anc ∧ s 0 = s0 ∧ R (s all.size) := by
 obtain ⟨e, on, h1, h2⟩ := opsD_run hrk h all.size (Nat.le_refl _)
 rw [List.drop_eq_nil_of_le (by simp)] at h2
 obtain ⟨hc, hR⟩ := h2
 let s := sF all s0 e
 let rc : Nat → Rc := fun i => rcOf (all.getD i default) (s i) (e i)
 have hget : ∀ i o, all[i]? = some o → all.getD i default = o := fun i o ho => by simp [Array.getD_eq_getD_getElem?, ho]
 have hlt : ∀ i o, all[i]? = some o → i < all.size := fun i o ho => (Array.getElem?_eq_some_iff.1 ho).1
 have hloc : ∀ i o, all[i]? = some o → LocD cx all (s i) (e i) (on i) o := fun i o ho => h1 i o (hlt i o ho) ho
 have hrc : ∀ i, i < all.size → ((List.range all.size).map rc)[i]? = some (rc i) := fun i hi => by simp [hi]
 have hrco : ∀ i o, all[i]? = some o → rc i = rcOf o (s i) (e i) := fun i o ho => by simp only [rc, hget i o ho]
 simp only [chkD, List.all_eq_true, List.mem_range, Bool.and_eq_true] at hc
 have hc : ∀ q, q < all.size → chk1 all ((List.range all.size).map rc) q = true ∧ ∀ p, p < q → chkPair all (ancL all all.size) ((List.range all.size).map rc) p q = true := hc
 have hone : ∀ i o, all[i]? = some o → (∀ x ∈ o.after, Region.binds .any x = true → x.on < i) ∧ (∀ b ∈ (rc i).ms ++ (rc i).rd0, b < (s i).nxt) ∧ (∀ b ∈ (rc i).hm, b < (s i).nxt) ∧ (s i).nxt ≤ (e i).next ∧ (∀ k, k ∈ (e i).kill → k ∈ (rc i).ms ++ (rc i).rd0) := by
  intro i o ho
  have := (hc i (hlt i o ho)).1
  simp only [chk1, ho, hrc i (hlt i o ho), Bool.and_eq_true, Array.all_eq_true_iff_forall_mem, List.all_eq_true, Bool.or_eq_true, decide_eq_true_eq] at this
  have e1 : (rc i).nxt = (s i).nxt := rfl
  have e2 : (rc i).nxt' = (e i).next := rfl
  have e3 : (rc i).kl = (e i).kill := rfl
  rw [e1, e2, e3] at this
  obtain ⟨⟨⟨⟨g1, g2⟩, g3⟩, g4⟩, g5⟩ := this
  refine ⟨fun x hx hb => (g1 x hx).resolve_left (by simp [hb]), g2, g3, g4, fun k hk => ?_⟩
  simpa using g5 k hk
 have hpair : ∀ p q op oq, p < q → all[p]? = some op → all[q]? = some oq → (confl all op oq (rc p) (rc q) = true → p ∈ (ancL all (q + 1)).getD q []) ∧ (∀ d, op.dst = some d → oq.dst ≠ some d) := by
  intro p q op oq hpq hp hq
  have := (hc q (hlt q oq hq)).2 p hpq
  simp only [chkPair, hp, hq, hrc p (hlt p op hp), hrc q (hlt q oq hq), Bool.and_eq_true, Bool.or_eq_true] at this
  obtain ⟨g1, g2⟩ := this
  refine ⟨fun hcf => ?_, fun d hd hd' => ?_⟩
  ·have := g1.resolve_left (by simp [hcf])
   rw [ancL_get all (hlt q oq hq)] at this
   simpa using this
  ·rw [hd, hd'] at g2
   simp at g2
 have hrd0 : ∀ i o, all[i]? = some o → (rc i).rd0 = seen o (s i) := fun i o ho => by rw [hrco i o ho]; rfl
 have hms : ∀ i o, all[i]? = some o → (rc i).ms = opnds (s i).tmps o.op.operands.toList := fun i o ho => by rw [hrco i o ho]; rfl
 have hhm : ∀ i o, all[i]? = some o → (rc i).hm = menH (s i).heap (rc i).rd0 := fun i o ho => by rw [hrco i o ho]; rfl
 have hrd : ∀ i o, all[i]? = some o → (rc i).rd = (rc i).ms ++ ((rc i).rd0 ++ (rc i).hm ++ resOf (e i) ++ menW (e i).wr) := fun i o ho => by rw [hrco i o ho]; rfl
 have hwr : ∀ i, (rc i).wr = idsW (e i).wr := fun i => rfl
 have htmp : ∀ (o : Oper) (oq : Oper) d, oq.dst = some d → d ∈ o.looksAt all → (match oq.dst with | some d => (o.looksAt all).contains d | none => false) = true := fun o oq d hd h => by rw [hd]; simpa using h
 refine ⟨s, e, on, fun i => (rc i).rd0, fun i => (rc i).rd, fun i => (ancL all (i + 1)).getD i [], ⟨fun i o ho => ?_, fun i o t ho => (hloc i o ho).1 t, fun i o ho hon => ?_, fun i o ho => (hloc i o ho).2.2.1, fun i o ho => (hloc i o ho).2.2.2, fun i o ho => (hone i o ho).1, fun i o ho p hp => ?_, fun p q op oq d hpq hp hq => (hpair p q op oq hpq hp hq).2 d,
  fun p q op oq d hpq hp hq hd hl => (hpair p q op oq hpq hp hq).1 (by simp only [confl, Bool.or_eq_true]; exact .inl (.inl (.inl (htmp oq op d hd hl)))),
  fun p q op oq d hpq hp hq hd hl => (hpair p q op oq hpq hp hq).1 (by simp only [confl, Bool.or_eq_true]; exact .inl (.inl (.inr (htmp op oq d hd hl)))),
  fun p q op oq b blk hpq hp hq hb hl => (hpair p q op oq hpq hp hq).1 (by
   simp only [confl, Bool.or_eq_true]
   refine .inl (.inr (meet_true (b := b) (by rw [hwr]; exact idsW_mem.2 ⟨blk, hb⟩) (List.mem_append.2 ?_)))
   exact hl.imp id fun hl => by rw [hwr]; exact idsW_mem.2 hl),
  fun p q op oq b blk hpq hp hq hb hl => (hpair p q op oq hpq hp hq).1 (by
   simp only [confl, Bool.or_eq_true]
   exact .inr (meet_true (b := b) (by rw [hwr]; exact idsW_mem.2 ⟨blk, hb⟩) hl)),
  fun i o x b ho hx hm => ?_, fun i o x b ho hx hm => ?_, fun i o b ho hb => ?_, fun i o b blk k av b' ho hb hl hk hm => ?_, fun i o av b ho hr hm => ?_, fun i o b blk k av b' ho hw hk hm => ?_, fun i o b ho hb => (hone i o ho).2.1 b (List.mem_append_right _ hb), fun i o b blk k av b' ho hb hl hk hm => ?_, fun i o ho => (hone i o ho).2.2.2.1, fun i o k ho hk => ?_⟩, rfl, hR⟩
 ·simp only [s, sF, ho]
 ·have := (hloc i o ho).2.1 hon
  have e1 : look (heapR (s i).heap (seen o (s i))) = fun b => bif (rc i).rd0.contains b then look (s i).heap b else none := by
   funext b
   rw [look_heapR, hrd0 i o ho]
  rw [e1] at this
  exact this
 ·have hlen := ancL_len all i
  have : (ancL all (i + 1)).getD i [] = direct o ++ (direct o).flatMap (fun d => (ancL all i).getD d []) := by
   simp only [ancL, List.getD_eq_getElem?_getD, ho]
   rw [List.getElem?_append_right (by omega), hlen]
   simp
  rw [this] at hp
  have hdir : ∀ d, d ∈ direct o → ∃ x ∈ o.after, Region.binds .any x = true ∧ d = x.on := fun d hd => by
   simp only [direct, List.mem_map, List.mem_filter, Array.mem_toList_iff] at hd
   obtain ⟨x, ⟨hx, hb⟩, rfl⟩ := hd
   exact ⟨x, hx, hb, rfl⟩
  rcases List.mem_append.1 hp with hp | hp
  ·obtain ⟨x, hx, hb, rfl⟩ := hdir p hp
   exact ⟨x, hx, hb, .inl rfl⟩
  ·simp only [List.mem_flatMap] at hp
   obtain ⟨d, hd, hp⟩ := hp
   obtain ⟨x, hx, hb, rfl⟩ := hdir d hd
   refine ⟨x, hx, hb, .inr ?_⟩
   rw [ancL_get all ((hone i o ho).1 x hx hb)] at hp
   exact hp
 ·rw [hrd i o ho, hms i o ho]
  exact List.mem_append_left _ (opnds_mem.2 ⟨x, by simpa using hx, hm⟩)
 ·refine (hone i o ho).2.1 b ?_
  rw [hms i o ho]
  exact List.mem_append_left _ (opnds_mem.2 ⟨x, by simpa using hx, hm⟩)
 ·rw [hrd i o ho]
  simp [hb]
 ·rw [hrd i o ho, hhm i o ho]
  have := menH_mem hb hl (menBlk_mem hk hm)
  simp [this]
 ·rw [hrd i o ho]
  have : b ∈ resOf (e i) := by simp only [resOf, hr]; exact men_mem b av hm
  simp [this]
 ·rw [hrd i o ho]
  have := menW_mem hw (menBlk_mem hk hm)
  simp [this]
 ·have := menH_mem hb hl (menBlk_mem hk hm)
  rw [← hhm i o ho] at this
  exact (hone i o ho).2.2.1 _ this
 ·have := (hone i o ho).2.2.2.2 k hk
  rw [hms i o ho, hrd0 i o ho] at this
  have hop : k ∈ opnds (s i).tmps o.op.operands.toList → ∃ x ∈ o.op.operands, Men k (evT (s i).tmps x) := fun h => by
   obtain ⟨x, hx, hm⟩ := opnds_mem.1 h
   exact ⟨x, by simpa using hx, hm⟩
  rcases List.mem_append.1 this with this | this
  ·exact .inl (hop this)
  ·unfold seen at this
   cases hb : blindO o.op with
   | true => rw [hb] at this; cases this
   | false =>
    rw [hb] at this
    rcases List.mem_append.1 this with h | h
    ·exact .inl (hop h)
    ·cases hsh : shallowO o.op with
     | true => rw [hsh] at h; cases h
     | false =>
     rw [hsh] at h
     obtain ⟨b, blk, h1, h2, h3⟩ := mem_menH h
     obtain ⟨q, av, h4, h5⟩ := mem_menBlk h3
     exact .inr ⟨b, blk, q, av, by rw [hrd0 i o ho]; unfold seen; rw [hb]; exact List.mem_append_left _ h1, h2, h4, h5⟩
end Go.Ab
