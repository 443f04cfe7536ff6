/-
  Operations that make or write memory, told by values and numbered blocks; each is right.
-/
import Derived.Test.YtpfgofnmkaljaaaMg06
import Derived.Great.FillDense
import Derived.Laws.MakeOwn
set_option linter.unusedVariables false
set_option linter.unusedSimpArgs false
namespace Go.Ab
open Go Go.RowKit
def setPl (ι : Pl) (b : Nat) (p : Plc) : Pl := ⟨fun b' => bif b' == b then some p else ι b', ι.hid⟩
theorem setPl_laid {ι : Pl} {b : Nat} {p : Plc} {b' : Nat} (h : ι b' ≠ none) : setPl ι b p b' ≠ none := by
 simp only [setPl]
 cases b' == b <;> simp [h]
theorem setPl_same (ι : Pl) (b : Nat) (p : Plc) : setPl ι b p b = some p := by simp [setPl]
theorem setPl_other (ι : Pl) {b b' : Nat} (p : Plc) (h : b' ≠ b) : setPl ι b p b' = ι b' := by
 have e : (b' == b) = false := by simpa using h
 simp [setPl, e]
theorem step_newO {ι : Pl} {w w' : World} (hok : Ok ι w) (b cap : Nat) (o : Obj) (wr kill : Nat → Prop) (hk : kill b) (hw : w'.heap = w.heap.push o) (h1 : w'.os = w.os) (h2 : w'.tape = w.tape) (h3 : w'.output = w.output) :
  StepO ι w (setPl ι b (.at w.heap.size cap)) w' wr kill := by
 have hsz : w'.heap.size = w.heap.size + 1 := by rw [hw]; simp
 have hinv : ∀ b' g c, setPl ι b (.at w.heap.size cap) b' = some (.at g c) → (b' = b ∧ g = w.heap.size) ∨ (b' ≠ b ∧ ι b' = some (.at g c)) := fun b' g c h => by
  by_cases e : b' = b
  ·subst e; rw [setPl_same] at h; cases h; exact .inl ⟨rfl, rfl⟩
  ·rw [setPl_other _ _ e] at h; exact .inr ⟨e, h⟩
 refine ⟨h1, h2, h3, by omega, fun b' hb' => setPl_other _ _ (fun e => hb' (e ▸ hk)), fun b' g c h => ?_, fun g hg _ => ?_, ⟨fun b1 b2 g c c' e1 e2 => ?_, fun b' g c h => ?_, fun g b' h => by have := hok.hlt g b' h; omega, fun g b' h b1 c e1 => ?_, fun g b' h => setPl_laid (hok.hlaid g b' h)⟩⟩
 ·rcases hinv b' g c h with ⟨_, rfl⟩ | ⟨_, h⟩
  ·exact .inr (Nat.le_refl _)
  ·exact .inl ⟨b', c, h⟩
 ·rw [hw, Array.getElem?_push, if_neg (by omega)]
 ·rcases hinv _ _ _ e1 with ⟨rfl, rfl⟩ | ⟨n1, e1'⟩ <;> rcases hinv _ _ _ e2 with ⟨rfl, hg⟩ | ⟨n2, e2'⟩
  ·rfl
  ·have := hok.lt _ _ _ e2'; omega
  ·subst hg; have := hok.lt _ _ _ e1'; omega
  ·exact hok.inj _ _ _ _ _ e1' e2'
 ·rcases hinv b' g c h with ⟨_, rfl⟩ | ⟨_, h⟩
  ·omega
  ·have := hok.lt _ _ _ h; omega
 ·rcases hinv b1 g c e1 with ⟨_, rfl⟩ | ⟨_, h'⟩
  ·have := hok.hlt _ _ h; omega
  ·exact hok.hdis g b' h b1 c h'
theorem step_new {ι : Pl} {w w' : World} (hok : Ok ι w) (b cap : Nat) (o : Obj) (wr kill : Nat → Prop) (hk : kill b) (hw : w'.heap = w.heap.push o) (h1 : w'.os = w.os) (h2 : w'.tape = w.tape) (h3 : w'.output = w.output) :
  StepR ι w (setPl ι b (.at w.heap.size cap)) w' wr kill := (step_newO hok b cap o wr kill hk hw h1 h2 h3).R rfl
theorem step_nilO {ι : Pl} {w : World} (hok : Ok ι w) (b : Nat) (wr kill : Nat → Prop) (hk : kill b) : StepO ι w (setPl ι b .nil) w wr kill := by
 have hinv : ∀ b' g c, setPl ι b .nil b' = some (.at g c) → ι b' = some (.at g c) := fun b' g c h => by
  by_cases e : b' = b
  ·subst e; rw [setPl_same] at h; cases h
  ·rwa [setPl_other _ _ e] at h
 exact ⟨rfl, rfl, rfl, Nat.le_refl _, fun b' hb' => setPl_other _ _ (fun e => hb' (e ▸ hk)), fun b' g c h => .inl ⟨b', c, hinv _ _ _ h⟩, fun g hg _ => rfl,
  ⟨fun b1 b2 g c c' e1 e2 => hok.inj _ _ _ _ _ (hinv _ _ _ e1) (hinv _ _ _ e2), fun b' g c h => hok.lt _ _ _ (hinv _ _ _ h), hok.hlt, fun g b' h b1 c e1 => hok.hdis g b' h b1 c (hinv _ _ _ e1), fun g b' h => setPl_laid (hok.hlaid g b' h)⟩⟩
theorem step_nil {ι : Pl} {w : World} (hok : Ok ι w) (b : Nat) (wr kill : Nat → Prop) (hk : kill b) : StepR ι w (setPl ι b .nil) w wr kill := (step_nilO hok b wr kill hk).R rfl
theorem still_nil {A : Nat → Prop} {ι : Pl} {w : World} (hok : Ok ι w) {b g c : Nat} (hA : A g) (hb : ι b = some (.at g c)) : Still A (setPl ι b .nil) w g := by
 refine ⟨⟨⟨hA, ?_⟩, hok.lt _ _ _ hb⟩, fun b' c' hb' => ?_⟩
 ·show ι.hid g = none
  cases h : ι.hid g with
  | none => rfl
  | some b1 => exact absurd hb (hok.hdis g b1 h b c)
 ·by_cases e : b' = b
  ·subst e; rw [setPl_same] at hb'; cases hb'
  ·rw [setPl_other _ _ e] at hb'
   exact e (hok.inj _ _ _ _ _ hb' hb)
theorem step_rowO {ι : Pl} {w : World} (hok : Ok ι w) {b g cap : Nat} (hb : ι b = some (.at g cap)) (cs : Array Value) (wr kill : Nat → Prop) (hw : wr b) : StepO ι w ι (w.setRow g cs) wr kill := by
 refine ⟨rfl, rfl, rfl, by simp, fun _ _ => rfl, fun b' g' c h => .inl ⟨b', c, h⟩, fun g' hg' h => setRow_other w g g' cs fun e => ?_, hok.grow (by simp)⟩
 subst e
 exact h b cap hw hb
theorem step_row {ι : Pl} {w : World} (hok : Ok ι w) {b g cap : Nat} (hb : ι b = some (.at g cap)) (cs : Array Value) (wr kill : Nat → Prop) (hw : wr b) : StepR ι w ι (w.setRow g cs) wr kill := (step_rowO hok hb cs wr kill hw).R rfl
def LocO (P : Program) (o : Oper) (ev : Operand → AV) (hp : Nat → Option Blk) (nxt : Nat) (e : Eff) : Prop :=
 ∀ (A : Nat → Prop) (ι : Pl) (w : World) (ρ : Operand → Value), (∀ g, w.heap.size ≤ g → A g) → Ok ι w → (∀ b, nxt ≤ b → ι b = none) → (∀ x ∈ o.op.operands, Rep (Still A ι w) ι w (ev x) (ρ x)) →
  (∀ b blk, hp b = some blk → BlkRep (Still A ι w) ι w b blk) →
  ∃ nx ι' w', (execOp ρ o).run P w = .ok nx w' ∧ (match e.res, nx with | some av, .value v => Rep (Still A ι' w') ι' w' av v | none, .skip => True | _, _ => False) ∧
   (StepO ι w ι' w' (fun b => ∃ blk, (b, blk) ∈ e.wr) (e.kills nxt) ∧ ι'.hid = ι.hid) ∧ (∀ p ∈ e.wr, BlkRep (Still A ι' w') ι' w' p.1 p.2) ∧ (∀ b, e.next ≤ b → ι' b = none) ∧ (∀ k, k ∈ e.kill → ∃ blk, (k, blk) ∈ e.wr)
theorem LocO.loc {P : Program} {o : Oper} {ev : Operand → AV} {hp : Nat → Option Blk} {nxt : Nat} {e : Eff} (h : LocO P o ev hp nxt e) : Loc P o ev hp nxt e := fun A ι w ρ hA hok hf hr hh => by
 obtain ⟨nx, ι', w', h1, h2, ⟨h3, h3'⟩, h4, h5, h6⟩ := h A ι w ρ hA hok hf hr hh
 exact ⟨nx, ι', w', h1, h2, h3.R h3', h4, h5, h6⟩
def cellsOf : AV → Option (List AV)
 | .agg cs => some cs
 | .c u => some [.c u]
 | .own b k off n => some [.own b k off n]
 | .osl b off n => some [.osl b off n]
 | .mref b => some [.mref b]
 | .ptr b off => some [.ptr b off]
 | .aptr b k i off => some [.aptr b k i off]
 | .tr b => some [.tr b]
 | .cel cs => some [.cel cs]
 | .clo f cs => some [.clo f cs]
 | _ => none
theorem cellsOf_ok {I : Nat → Prop} {ι : Pl} {w : World} {av : AV} {cs : List AV} {v : Value} (h : cellsOf av = some cs) (hv : Rep I ι w av v) :
  ∃ xs : List Value, v.cells = xs.toArray ∧ xs.length = cs.length ∧ (∀ x ∈ xs, x.oneCell' = true) ∧ ∀ (i : Nat) av x, cs[i]? = some av → xs[i]? = some x → Rep I ι w av x := by
 have one : ∀ {av : AV} {v : Value}, v.cells = #[v] → v.oneCell' = true → Rep I ι w av v → ∃ xs : List Value, v.cells = xs.toArray ∧ xs.length = [av].length ∧ (∀ x ∈ xs, x.oneCell' = true) ∧ ∀ (i : Nat) av' x, [av][i]? = some av' → xs[i]? = some x → Rep I ι w av' x := by
  intro av v h1 h2 h3
  refine ⟨[v], h1, rfl, by simpa using h2, fun i av' x ha hx => ?_⟩
  cases i with
  | zero => simp at ha hx; subst ha hx; exact h3
  | succ i => simp at ha
 have hcells : ∀ {v : Value}, v.oneCell' = true → v.cells = #[v] := fun {v} h => by cases v <;> first | rfl | (simp [Value.oneCell'] at h)
 cases hv with
 | agg cs' xs hl h1 hr => cases h; exact ⟨xs, rfl, hl, h1, hr⟩
 | c u y hu => cases h; exact one (hcells hu.one) hu.one (.c _ _ hu)
 | ownNil b k hb => cases h; exact one rfl rfl (.ownNil b k hb)
 | own b k off n g cap a cc h1 h2 h3 h4 hq => cases h; exact one rfl rfl (.own b k off n g cap a cc h1 h2 h3 h4 hq)
 | osl b off n g cap cc h1 h2 => cases h; exact one rfl rfl (.osl b off n g cap cc h1 h2)
 | mref b g cap h1 => cases h; exact one rfl rfl (.mref b g cap h1)
 | ptr b off g cap h1 => cases h; exact one rfl rfl (.ptr b off g cap h1)
 | aptr b k i off g cap h1 => cases h; exact one rfl rfl (.aptr b k i off g cap h1)
 | tr b _ h0 h1 => cases h; exact one (hcells h0) h0 (.tr b _ h0 h1)
 | cel cs' a hs hI hc hr => cases h; exact one rfl rfl (.cel cs' a hs hI hc hr)
 | clo f caps xs hl hr => cases h; exact one rfl rfl (.clo f caps xs hl hr)
 | top x => cases h
 | pl b p x hb => cases h
 | tup cs' xs hl hr => cases h
def closedL : List AV → Option (List CV)
 | [] => some []
 | .c (.val (.slice none 0 0)) :: r => (closedL r).map (.sl [] :: ·)
 | .c u :: r => (closedL r).map (u :: ·)
 | _ :: _ => none
theorem closedL_ok {I : Nat → Prop} {ι : Pl} {w : World} : ∀ {cs : List AV} {us : List CV} {xs : List Value}, closedL cs = some us → xs.length = cs.length → (∀ (i : Nat) av x, cs[i]? = some av → xs[i]? = some x → Rep I ι w av x) →
  us.length = cs.length ∧ ∀ (i : Nat) u x, us[i]? = some u → xs[i]? = some x → CRep I w u x
 | [], us, xs, h, hl, _ => by cases h; exact ⟨rfl, fun i u x h => by simp at h⟩
 | a :: r, us, xs, h, hl, hr => by
  unfold closedL at h
  split at h
  ·rename_i heq; cases heq
  ·rename_i r' heq
   cases heq
   cases hc : closedL r with
   | none => rw [hc] at h; cases h
   | some us' =>
    rw [hc] at h
    cases h
    match xs, hl with
    | x :: xs, hl =>
     obtain ⟨h1, h2⟩ := closedL_ok hc (xs := xs) (by simpa using hl) fun i av x ha hx => hr (i + 1) av x (by simpa using ha) (by simpa using hx)
     refine ⟨by simp [h1], fun i v y hv hy => ?_⟩
     cases i with
     | zero => simp at hv hy; subst hv hy; have := hr 0 _ x rfl rfl; cases this with | c _ _ hu => cases hu; exact .nil
     | succ i => exact h2 i v y (by simpa using hv) (by simpa using hy)
  ·rename_i u r' _ heq
   cases heq
   cases hc : closedL r with
   | none => rw [hc] at h; cases h
   | some us' =>
    rw [hc] at h
    cases h
    match xs, hl with
    | x :: xs, hl =>
     obtain ⟨h1, h2⟩ := closedL_ok hc (xs := xs) (by simpa using hl) fun i av x ha hx => hr (i + 1) av x (by simpa using ha) (by simpa using hx)
     refine ⟨by simp [h1], fun i v y hv hy => ?_⟩
     cases i with
     | zero => simp at hv hy; subst hv hy; have := hr 0 _ x rfl rfl; cases this with | c _ _ hu => exact hu
     | succ i => exact h2 i v y (by simpa using hv) (by simpa using hy)
  ·cases h
def setCells (cells : List AV) (off : Nat) (xs : List AV) : List AV := cells.take off ++ xs ++ cells.drop (off + xs.length)
def setElem (es : List (List CV)) (i off : Nat) (us : List CV) : List (List CV) := es.set i ((es.getD i []).take off ++ us ++ (es.getD i []).drop (off + us.length))
def storeE (heap : List (Nat × Blk)) (nxt n : Nat) (xs : List AV) : AV → Option (Prop × Eff)
 | .ptr b off => match look heap b with
  | some (.box cells ty) => some (xs.length = n ∧ off + xs.length ≤ cells.length, ⟨none, [(b, .box (setCells cells off xs) ty)], [], nxt⟩)
  | _ => none
 | .aptr b k i off => match look heap b, closedL xs with
  | some (.acc k' es ty), some us => some (k = k' ∧ xs.length = n ∧ i < es.length ∧ off + us.length ≤ (es.getD i []).length, ⟨none, [(b, .acc k' (setElem es i off us) ty)], [], nxt⟩)
  | _, _ => none
 | _ => none
def srcE (heap : List (Nat × Blk)) : AV → Option (Prop × List (List CV))
 | .c (.sl ns) => some (True, ns)
 | .c (.val (.slice none 0 0)) => some (True, [])
 | .own b k off n => match look heap b with
  | some (.acc k' es _) => some (k = k' ∧ off + n ≤ es.length, (es.drop off).take n)
  | _ => none
 | .osl b off n => match look heap b with
  | some (.box cells _) => (closedL cells).map fun us => (off + n ≤ us.length, ((us.drop off).take n).map fun u => [u])
  | _ => none
 | _ => none
def partsE (tmps : List (Nat × AV)) : Nat → List (Nat × Operand) → Option (List (List CV))
 | _, [] => some []
 | i, (j, x) :: r => match (cellsOf (evT tmps x)).bind closedL, partsE tmps (i + 1) r with
  | some us, some l => bif i == j then some (us :: l) else none
  | _, _ => none
def newE (tt : TT) (tmps : List (Nat × AV)) (heap : List (Nat × Blk)) (nxt : Nat) (o : Oper) : Option (Prop × Eff) :=
 match o.op with
 | .alloc t => match tzero tt t with
  | some z => some (True, ⟨some (.ptr nxt 0), [(nxt, .box (z.map .c) t)], [], nxt + 1⟩)
  | none => none
 | .box t x => match cellsOf (evT tmps x) with
  | some cs => some (True, ⟨some (.ptr nxt 0), [(nxt, .box cs t)], [], nxt + 1⟩)
  | none => none
 | .store t a x => match tsize tt t, cellsOf (evT tmps x) with
  | some n, some xs => storeE heap nxt n xs (evT tmps a)
  | _, _ => none
 | .makeSlice t l c => match tdesc tt t, evT tmps l, evT tmps c with
  | some (.slice e), .c (.val (.int _ n)), .c (.val (.int _ m)) => match tzero tt e, tbytes tt e, tsize tt e with
   | some z, some by_, some k => some (n = m ∧ 0 ≤ n ∧ 0 < k ∧ n ≤ 9223372036854775807 ∧ (by_ : Int) * n ≤ 281474976710656, ⟨some (.own nxt k 0 n.toNat), [(nxt, .acc k (List.replicate n.toNat z) e)], [], nxt + 1⟩)
   | _, _, _ => none
  | _, _, _ => none
 | .buildSlice t len parts => match tdesc tt t with
  | some (.slice e) => match partsE tmps 0 parts.toList, tsize tt e with
   | some es, some k => some (es.length = len ∧ 0 < k ∧ len * k ≤ 16777216 ∧ ∀ u ∈ es, u.length = k, ⟨some (.own nxt k 0 len), [(nxt, .acc k es e)], [], nxt + 1⟩)
   | _, _ => none
  | _ => none
 | .call { callee := .builtin .append, args, argTypes } => match args.toList, argTypes.toList with
  | [s, x], [t, t'] => match tdesc tt t with
   | some (.slice e) => match tsize tt e, tbytes tt e, srcE heap (evT tmps x) with
    | some k, some by_, some (vs, ns) => match evT tmps s with
     | .c (.val (.slice none 0 0)) => some (t = t' ∧ vs ∧ 0 < k ∧ (∀ u ∈ ns, u.length = k) ∧ ns.length * by_ ≤ 140737488355328 ∧ ns.length ≤ 9223372036854775807, ⟨some (.own nxt k 0 ns.length), [(nxt, .acc k ns e)], [], nxt + 1⟩)
     | .own b k' off n => match look heap b with
      | some (.acc k'' es ty) => some (t = t' ∧ vs ∧ 0 < k ∧ k' = k ∧ k'' = k ∧ ty = e ∧ off = 0 ∧ n = es.length ∧ (∀ u ∈ ns, u.length = k) ∧ (n + ns.length) * by_ ≤ 140737488355328 ∧ n + ns.length ≤ 9223372036854775807,
        ⟨some (.own b k 0 (n + ns.length)), [(b, .acc k (es ++ ns) e)], [b], nxt⟩)
      | _ => none
     | _ => none
    | _, _, _ => none
   | _ => none
  | _, _ => none
 | _ => none
def reck (eq : EQ) : Reck := fun tt tmps heap nxt o =>
 match lookE tt tmps heap o with
 | some (v, av) => some (v, ⟨some av, [], [], nxt⟩)
 | none => match lookF eq tt tmps heap o with
  | some (v, av) => some (v, ⟨some av, [], [], nxt⟩)
  | none => newE tt tmps heap nxt o
section
variable {P : Program} {tt : TT} {A : Nat → Prop} {ι : Pl} {w : World}
theorem mk_acc {I : Nat → Prop} {b k ty g cap : Nat} {es : List (List CV)} {cur : List Value} (h1 : ι b = some (.at g cap)) (h2 : w.heap[g]? = some (.cells cur.toArray ty (0, 0))) (h3 : cur.length = cap * k) (h4 : es.length ≤ cap) (h5 : cap ≤ maxLen)
  (h6 : ∀ e ∈ es, e.length = k) (h8 : ∀ (i : Nat) e (j : Nat) u x, es[i]? = some e → e[j]? = some u → cur[i * k + j]? = some x → CRep I w u x) : BlkRep I ι w b (.acc k es ty) :=
 .acc k ty es g cap cur h1 h2 h3 h4 h5 (fun i e he => h6 e (List.mem_of_getElem? he)) h8
theorem srcE_ok {heap : List (Nat × Blk)} (hh : ∀ b blk, look heap b = some blk → BlkRep (Still A ι w) ι w b blk) {av : AV} {x : Value} {vc : Prop} {ns : List (List CV)} (h : srcE heap av = some (vc, ns)) (hvc : vc) (hx : Rep (Still A ι w) ι w av x)
  {k : Nat} (hk : ∀ u ∈ ns, u.length = k) (hk0 : 0 < k) :
  (x = .slice none 0 0 ∧ ns = []) ∨ ∃ (a : Addr) (c : Nat) (f : Nat → Value), x = .slice (some a) ns.length c ∧ (∀ q, q < ns.length * k → w.cell? (a.add q) = some (f q)) ∧
   (∀ (i : Nat) e (j : Nat) u, ns[i]? = some e → e[j]? = some u → CRep (Still A ι w) w u (f (i * k + j))) := by
 have dec : ∀ q, q < ns.length * k → ∃ i j e u, q = i * k + j ∧ ns[i]? = some e ∧ e[j]? = some u := fun q hq => by
  have hi : q / k < ns.length := (Nat.div_lt_iff_lt_mul hk0).2 hq
  have he : ns[q / k]? = some ns[q / k] := List.getElem?_eq_getElem hi
  have hl := hk _ (List.getElem_mem hi)
  have hj : q % k < ns[q / k].length := by rw [hl]; exact Nat.mod_lt _ hk0
  exact ⟨q / k, q % k, _, _, (Nat.div_add_mod' q k).symm, he, List.getElem?_eq_getElem hj⟩
 cases hx <;> simp only [srcE] at h <;> (try (cases h; done))
 case c u hu =>
  cases hu with
  | val y h1 =>
   split at h
   ·rename_i heq; cases heq
   ·rename_i heq; cases heq; cases h; exact .inl ⟨rfl, rfl⟩
   all_goals first | (cases h; done) | (rename_i heq; cases heq)
  | any y h1 => simp at h
  | nil => cases h; exact .inl ⟨rfl, rfl⟩
  | sl es a n cap kk hn hc hm hk' hI hcell hrep =>
   cases h
   by_cases hne : ns = []
   ·subst hne
    subst hn
    exact .inr ⟨a, cap, fun _ => undef, rfl, fun q hq => by simp at hq, fun i e j u he => by simp at he⟩
   ·obtain ⟨hsp, hIa⟩ := hI hne
    have hkk : kk = k := by
     obtain ⟨e, he⟩ := List.exists_mem_of_ne_nil ns hne
     obtain ⟨i, hi⟩ := List.getElem?_of_mem he
     rw [← hk' i e hi]
     exact hk e he
    subst hkk
    subst hn
    refine .inr ⟨a, cap, fun q => (w.cell? ⟨a.block, a.off + q, none⟩).getD undef, rfl, fun q hq => ?_, fun i e j u he hu => ?_⟩
    ·obtain ⟨i, j, e, u, rfl, he, hu⟩ := dec q hq
     obtain ⟨y, hy⟩ := hcell i e j u he hu
     rw [addr_add _ _ hsp]
     simp [hy]
    ·obtain ⟨y, hy⟩ := hcell i e j u he hu
     simp only [hy, Option.getD_some]
     exact hrep i e j u y he hu hy
 case ownNil b k' hb =>
  split at h
  ·cases h
   exact .inl ⟨rfl, by simp⟩
  ·cases h
 case own b k' off n g cap a cc hb h0 h1 h2 hq =>
  split at h
  ·rename_i k'' es ty hl
   cases h
   obtain ⟨rfl, hle⟩ := hvc
   have hlen : ((es.drop off).take n).length = n := by rw [List.length_take, List.length_drop]; omega
   by_cases hn : n = 0
   ·subst hn
    refine .inr ⟨a, cc, fun _ => undef, by simp, fun q hq => by simp at hq, fun i e j u he => by simp at he⟩
   ·have hblk := hh _ _ hl
    have ha := h1 hn
    subst ha
    cases hblk with
    | accNil _ _ h => rw [hb] at h; cases h
    | acc _ _ _ g' cap' cur h1' h2' h3 h4 h5 h6 h8 =>
     rw [hb] at h1'
     simp only [Option.some.injEq, Plc.at.injEq] at h1'
     obtain ⟨rfl, rfl⟩ := h1'
     have hget : ∀ (i : Nat) e, ((es.drop off).take n)[i]? = some e → es[off + i]? = some e := fun i e he => by
      rw [List.getElem?_take, List.getElem?_drop] at he
      split at he
      ·exact he
      ·cases he
     have hk2 : k' = k := by
      have h0' : 0 < ((es.drop off).take n).length := by omega
      rw [← hk _ (List.getElem_mem h0')]
      exact (h6 _ _ (hget 0 _ (List.getElem?_eq_getElem h0'))).symm
     subst hk2
     refine .inr ⟨⟨g, off * k', none⟩, cc, fun q => cur.getD (off * k' + q) undef, by rw [hlen], fun q hq => ?_, fun i e j u he hu => ?_⟩
     ·rw [addr_add _ _ rfl, cell_of_row w g _ _ ty (0, 0) h2']
      have hlt : off * k' + q < cur.length := by
       rw [hlen] at hq
       have h9 : (off + n) * k' ≤ cap * k' := Nat.mul_le_mul_right k' (by omega)
       rw [Nat.add_mul] at h9
       omega
      simpa using getD_get (d := undef) hlt
     ·have he' := hget i e he
      have hj : j < k' := by rw [← h6 _ e he']; exact (List.getElem?_eq_some_iff.1 hu).1
      have hlt : off * k' + (i * k' + j) < cur.length := by
       have hi := (List.getElem?_eq_some_iff.1 he').1
       have h9 : (off + i + 1) * k' ≤ cap * k' := Nat.mul_le_mul_right k' (by omega)
       rw [Nat.add_mul, Nat.one_mul, Nat.add_mul] at h9
       omega
      exact h8 _ e j u _ he' hu (by rw [show (off + i) * k' + j = off * k' + (i * k' + j) by rw [Nat.add_mul]; omega]; exact getD_get hlt)
  ·cases h
 case osl b off n g cap cc hb h2 =>
  split at h
  ·rename_i cells ty hl
   cases hcl : closedL cells with
   | none => rw [hcl] at h; cases h
   | some us =>
    rw [hcl] at h
    cases h
    have hblk := hh _ _ hl
    cases hblk with
    | box _ _ g' cur h1 h2' h3 h4 h5 =>
     rw [hb] at h1
     simp only [Option.some.injEq, Plc.at.injEq] at h1
     obtain ⟨rfl, rfl⟩ := h1
     obtain ⟨hc1, hc2⟩ := closedL_ok hcl h3 h5
     have hlen : (((us.drop off).take n).map fun u => [u]).length = n := by simp; omega
     by_cases hn : n = 0
     ·subst hn
      exact .inr ⟨⟨g, off, none⟩, cc, fun _ => undef, by simp, fun q hq => by simp at hq, fun i e j u he => by simp at he⟩
     ·have hk2 : k = 1 := by
       have h0' : 0 < (((us.drop off).take n).map fun u => [u]).length := by omega
       have := hk _ (List.getElem_mem h0')
       simpa using this.symm
      subst hk2
      refine .inr ⟨⟨g, off, none⟩, cc, fun q => cur.getD (off + q) undef, by rw [hlen], fun q hq => ?_, fun i e j u he hu => ?_⟩
      ·rw [addr_add _ _ rfl, cell_of_row w g _ _ ty (0, 0) h2']
       have hlt : off + q < cur.length := by rw [hlen] at hq; omega
       simpa using getD_get (d := undef) hlt
      ·obtain ⟨u', hu', rfl⟩ := getElem?_map' he
       have hj : j = 0 := by have := (List.getElem?_eq_some_iff.1 hu).1; simp at this; exact this
       subst hj
       simp at hu
       subst hu
       rw [List.getElem?_take, List.getElem?_drop] at hu'
       split at hu'
       ·have hlt : off + i < cur.length := by have := (List.getElem?_eq_some_iff.1 hu').1; omega
        simpa using hc2 (off + i) u' _ hu' (getD_get (d := undef) hlt)
       ·cases hu'
  ·cases h
end
section
variable {P : Program} {tt : TT}
theorem tzero_ok (htt : TtOk P tt) {t : TypeId} {z : List CV} (h : tzero tt t = some z) (w : World) : ∃ v, (zeroValue t).run P w = .ok v w ∧ v.cells = (z.map cvVal).toArray ∧ tsize tt t = some z.length ∧ (∀ u ∈ z, (∃ x, u = .val x ∧ x.oneCell' = true) ∨ u = .sl []) := by
 unfold tzero at h
 cases ht : tt t with
 | none => rw [ht] at h; cases h
 | some i =>
  rw [ht] at h
  cases h
  obtain ⟨_, h2, h3, inf, hi, hs, hb, zz, hz, hc⟩ := htt t i ht
  exact ⟨zz, by simp [zeroValue, typeInfo, hi, hz], hc, by simp [tsize, ht, h3], h2⟩
theorem CRep.zero {I : Nat → Prop} {w : World} {u : CV} (h : (∃ x, u = .val x ∧ x.oneCell' = true) ∨ u = .sl []) : CRep I w u (cvVal u) := by
 rcases h with ⟨x, rfl, h1⟩ | rfl
 ·exact .val x h1
 ·exact .nil
theorem new_box {A : Nat → Prop} {ι : Pl} {w : World} {nxt : Nat} (hA : ∀ g, w.heap.size ≤ g → A g) (hok : Ok ι w) (hf : ∀ b, nxt ≤ b → ι b = none) (cs : List AV) (xs : List Value) (ty : TypeId) (hl : xs.length = cs.length) (h1 : ∀ x ∈ xs, x.oneCell' = true)
  (hr : ∀ (i : Nat) av x, cs[i]? = some av → xs[i]? = some x → Rep (Still A ι w) ι w av x) (wr kill : Nat → Prop) (hk : ∀ b, nxt ≤ b → kill b) :
  StepR ι w (setPl ι nxt (.at w.heap.size cs.length)) (w.alloc (.cells xs.toArray ty)) wr kill ∧ BlkRep (Still A (setPl ι nxt (.at w.heap.size cs.length)) (w.alloc (.cells xs.toArray ty))) (setPl ι nxt (.at w.heap.size cs.length)) (w.alloc (.cells xs.toArray ty)) nxt (.box cs ty) := by
 have hst := step_new hok nxt cs.length (.cells xs.toArray ty) wr (fun b => nxt ≤ b) (Nat.le_refl _) (w' := w.alloc (.cells xs.toArray ty)) rfl rfl rfl rfl
 have hst' := step_new hok nxt cs.length (.cells xs.toArray ty) wr kill (hk _ (Nat.le_refl _)) (w' := w.alloc (.cells xs.toArray ty)) rfl rfl rfl rfl
 refine ⟨hst', .box cs ty w.heap.size xs (setPl_same _ _ _) (heap_alloc_new w _) hl h1 fun i av x ha hx => ?_⟩
 have h := hr i av x ha hx
 exact hst.rep h fun b hb hk => h.men b hb (hf b hk)
theorem alloc_ok (htt : TtOk P tt) {tmps : List (Nat × AV)} {hp : Nat → Option Blk} {nxt : Nat} {o : Oper} {t : TypeId} (hp' : o.op = .alloc t) {z : List CV} (hz : tzero tt t = some z) :
  Loc P o (evT tmps) hp nxt ⟨some (.ptr nxt 0), [(nxt, .box (z.map .c) t)], [], nxt + 1⟩ := by
 intro A ι w ρ hA hok hf hr hh
 obtain ⟨v, hv, hc, hsz, hone⟩ := tzero_ok htt hz w
 have hb := new_box (A := A) (nxt := nxt) hA hok hf (z.map .c) (z.map cvVal) t (by simp) (fun x hx => by
  obtain ⟨u, hu, rfl⟩ := List.mem_map.1 hx
  exact (CRep.zero (I := fun _ => True) (w := w) (hone u hu)).one) (fun i av x ha hx => by
  obtain ⟨u, hu, rfl⟩ := getElem?_map' ha
  obtain ⟨u', hu', rfl⟩ := getElem?_map' hx
  have : u = u' := by rw [hu] at hu'; exact Option.some.inj hu'
  subst this
  exact .c _ _ (.zero (hone u (List.mem_of_getElem? hu)))) (fun b => ∃ blk, (b, blk) ∈ [(nxt, Blk.box (z.map .c) t)]) ((⟨some (.ptr nxt 0), [(nxt, .box (z.map .c) t)], [], nxt + 1⟩ : Eff).kills nxt) (fun b hb => .inr hb)
 refine ⟨.value (.pointer (some ⟨w.heap.size, 0, none⟩)), _, _, ?_, ?_, hb.1, ?_, ?_, fun k hk => by cases hk⟩
 ·simp only [execOp, hp', Instr.alloc, Sem.run_bind, hv, Result.andThen_ok, newVar, newRow, hc, run_newObj, Sem.run_pure]
  rfl
 ·exact .ptr nxt 0 w.heap.size _ (setPl_same _ _ _)
 ·intro p hp
  simp only [List.mem_singleton] at hp
  subst hp
  exact hb.2
 ·intro b hb'
  rw [setPl_other _ _ (by simp at hb'; omega)]
  exact hf b (by simp at hb'; omega)
theorem box_ok {tmps : List (Nat × AV)} {hp : Nat → Option Blk} {nxt : Nat} {o : Oper} {t : TypeId} {x : Operand} (hp' : o.op = .box t x) {cs : List AV} (hc : cellsOf (evT tmps x) = some cs) :
  Loc P o (evT tmps) hp nxt ⟨some (.ptr nxt 0), [(nxt, .box cs t)], [], nxt + 1⟩ := by
 intro A ι w ρ hA hok hf hr hh
 obtain ⟨xs, hx, hl, h1, hr'⟩ := cellsOf_ok hc (hr x (by simp [hp', Op.operands]))
 have hb := new_box (A := A) (nxt := nxt) hA hok hf cs xs t hl h1 hr' (fun b => ∃ blk, (b, blk) ∈ [(nxt, Blk.box cs t)]) ((⟨some (.ptr nxt 0), [(nxt, .box cs t)], [], nxt + 1⟩ : Eff).kills nxt) (fun b hb => .inr hb)
 refine ⟨.value (.pointer (some ⟨w.heap.size, 0, none⟩)), _, _, ?_, ?_, hb.1, ?_, ?_, fun k hk => by cases hk⟩
 ·simp only [execOp, hp', Instr.box, Sem.run_bind, newVar, newRow, hx, run_newObj, Sem.run_pure, Result.andThen_ok]
  rfl
 ·exact .ptr nxt 0 w.heap.size _ (setPl_same _ _ _)
 ·intro p hp
  simp only [List.mem_singleton] at hp
  subst hp
  exact hb.2
 ·intro b hb'
  rw [setPl_other _ _ (by simp at hb'; omega)]
  exact hf b (by simp at hb'; omega)
theorem setCells_get (cells : List AV) (off : Nat) (xs : List AV) (h : off + xs.length ≤ cells.length) (i : Nat) : (setCells cells off xs)[i]? = if off ≤ i ∧ i < off + xs.length then xs[i - off]? else cells[i]? := by
 unfold setCells
 rw [List.append_assoc, List.getElem?_append, List.length_take, List.getElem?_append, List.getElem?_take, List.getElem?_drop, Nat.min_eq_left (by omega)]
 by_cases h1 : i < off
 ·rw [if_pos h1, if_pos h1, if_neg (by omega)]
 ·rw [if_neg h1]
  by_cases h2 : i - off < xs.length
  ·rw [if_pos h2, if_pos (by omega)]
  ·rw [if_neg h2, if_neg (by omega)]
   congr 1
   omega
theorem cur_set_get (cur xs : List Value) (off : Nat) (h : off + xs.length ≤ cur.length) (i : Nat) : (cur.take off ++ xs ++ cur.drop (off + xs.length))[i]? = if off ≤ i ∧ i < off + xs.length then xs[i - off]? else cur[i]? := by
 rw [List.append_assoc, List.getElem?_append, List.length_take, List.getElem?_append, List.getElem?_take, List.getElem?_drop, Nat.min_eq_left (by omega)]
 by_cases h1 : i < off
 ·rw [if_pos h1, if_pos h1, if_neg (by omega)]
 ·rw [if_neg h1]
  by_cases h2 : i - off < xs.length
  ·rw [if_pos h2, if_pos (by omega)]
  ·rw [if_neg h2, if_neg (by omega)]
   congr 1
   omega
theorem store_ok (htt : TtOk P tt) {tmps : List (Nat × AV)} {heap : List (Nat × Blk)} {nxt : Nat} {o : Oper} {t : TypeId} {a x : Operand} (hp' : o.op = .store t a x) {n : Nat} (hn : tsize tt t = some n) {xs : List AV} (hxs : cellsOf (evT tmps x) = some xs)
  {vc : Prop} {e : Eff} (h : storeE heap nxt n xs (evT tmps a) = some (vc, e)) (hvc : vc) : Loc P o (evT tmps) (look heap) nxt e := by
 intro A ι w ρ hA hok hf hr hh
 have ra := hr a (by simp [hp', Op.operands])
 obtain ⟨vs, hv, hl, h1, hr'⟩ := cellsOf_ok hxs (hr x (by simp [hp', Op.operands]))
 -- what the operation runs to, once the address is known
 have run : ∀ g off (cur : List Value) ty, ρ a = .pointer (some ⟨g, off, none⟩) → w.heap[g]? = some (.cells cur.toArray ty (0, 0)) → off + vs.length ≤ cur.length → vs.length = n →
   (execOp ρ o).run P w = .ok .skip (w.setRow g (cur.take off ++ vs ++ cur.drop (off + vs.length)).toArray) := by
  intro g off cur ty hρ hg hle hlen
  have hst := run_storeCells_at P g off ty vs 0 cur.toArray w hg (by simpa using hle) h1
  simp only [Nat.add_zero, List.toList_toArray] at hst
  have hsz : (ρ x).cells.size = n := by rw [hv]; simpa using hlen
  simp only [execOp, hp', Instr.storeAt, Instr.sureAddr, hρ, Sem.run_bind, Sem.run_pure, Result.andThen_ok, storeVar, htt.size hn w, hsz]
  rw [if_neg (by simp)]
  rw [hv, hst]
  rfl
 generalize hav : evT tmps a = av at ra h
 generalize hva : ρ a = va at ra run
 cases ra <;> simp only [storeE] at h <;> (try (cases h; done))
 case ptr b off g cap hb =>
  split at h
  ·rename_i cells ty hlk
   cases h
   obtain ⟨h2, h3⟩ := hvc
   have hblk := hh _ _ hlk
   cases hblk with
   | box _ _ g' cur g1 g2 g3 g4 g5 =>
    rw [hb] at g1
    simp only [Option.some.injEq, Plc.at.injEq] at g1
    obtain ⟨rfl, rfl⟩ := g1
    have hrun := run g off cur ty rfl g2 (by omega) (by omega)
    have hst : StepR ι w ι (w.setRow g (cur.take off ++ vs ++ cur.drop (off + vs.length)).toArray) (fun b' => ∃ blk, (b', blk) ∈ [(b, Blk.box (setCells cells off xs) ty)]) ((⟨none, [(b, .box (setCells cells off xs) ty)], [], nxt⟩ : Eff).kills nxt) :=
     step_row hok hb _ _ _ ⟨_, List.mem_singleton.2 rfl⟩
    refine ⟨.skip, ι, _, hrun, trivial, hst, ?_, hf, fun k hk => by cases hk⟩
    intro p hp
    simp only [List.mem_singleton] at hp
    subst hp
    have hlen : (setCells cells off xs).length = cells.length := by simp [setCells]; omega
    refine .box _ ty g _ (by rw [hlen]; exact hb) (setRow_heap w g _ _ ty (0, 0) g2) (by rw [hlen]; simp; omega) (fun y hy => ?_) fun i av y ha hy => ?_
    ·simp only [List.mem_append] at hy
     rcases hy with (hy | hy) | hy
     ·exact g4 y (List.mem_of_mem_take hy)
     ·exact h1 y hy
     ·exact g4 y (List.mem_of_mem_drop hy)
    ·rw [setCells_get _ _ _ h3] at ha
     rw [cur_set_get _ _ _ (by omega)] at hy
     rw [hl] at hy
     have : Rep (Still A ι w) ι w av y := by
      split at ha
      ·rename_i hin
       rw [if_pos hin] at hy
       exact hr' _ av y ha hy
      ·rename_i hin
       rw [if_neg hin] at hy
       exact g5 _ av y ha hy
     exact this.mono hst.still fun _ _ => rfl
  ·cases h
 case aptr b k i off g cap hb =>
  split at h
  ·rename_i k' es ty us hlk hcl
   cases h
   obtain ⟨rfl, h2, h3, h4⟩ := hvc
   obtain ⟨hu1, hu2⟩ := closedL_ok hcl hl hr'
   have hblk := hh _ _ hlk
   cases hblk with
   | accNil _ _ g1 => rw [hb] at g1; cases g1
   | acc _ _ _ g' cap' cur g1 g2 g3 g4 g5 g6 g8 =>
    rw [hb] at g1
    simp only [Option.some.injEq, Plc.at.injEq] at g1
    obtain ⟨rfl, rfl⟩ := g1
    have he : es[i]? = some (es.getD i []) := getD_get h3
    have hk := g6 i _ he
    have hbd : i * k + k ≤ cap * k := by
     have h9 : (i + 1) * k ≤ cap * k := Nat.mul_le_mul_right k (by omega)
     rwa [Nat.add_mul, Nat.one_mul] at h9
    have hrun := run g (i * k + off) cur ty rfl g2 (by omega) (by omega)
    have hst : StepR ι w ι (w.setRow g (cur.take (i * k + off) ++ vs ++ cur.drop (i * k + off + vs.length)).toArray) (fun b' => ∃ blk, (b', blk) ∈ [(b, Blk.acc k (setElem es i off us) ty)]) ((⟨none, [(b, .acc k (setElem es i off us) ty)], [], nxt⟩ : Eff).kills nxt) :=
     step_row hok hb _ _ _ ⟨_, List.mem_singleton.2 rfl⟩
    refine ⟨.skip, ι, _, hrun, trivial, hst, ?_, hf, fun k hk => by cases hk⟩
    intro p hp
    simp only [List.mem_singleton] at hp
    subst hp
    have hel : ((es.getD i []).take off ++ us ++ (es.getD i []).drop (off + us.length)).length = k := by simp; simp at hk h4; omega
    have hes : ∀ (i' : Nat) e', (setElem es i off us)[i']? = some e' → (i' = i ∧ e' = (es.getD i []).take off ++ us ++ (es.getD i []).drop (off + us.length)) ∨ (i' ≠ i ∧ es[i']? = some e') := fun i' e' h' => by
     unfold setElem at h'
     by_cases hii : i' = i
     ·subst hii
      rw [List.getElem?_set_self h3] at h'
      cases h'
      exact .inl ⟨rfl, rfl⟩
     ·rw [List.getElem?_set_ne (Ne.symm hii)] at h'
      exact .inr ⟨hii, h'⟩
    refine .acc k ty _ g cap _ hb (setRow_heap w g _ _ ty (0, 0) g2) (by simp; omega) (by simpa [setElem] using g4) g5 (fun i' e' h' => ?_) fun i' e' j u y h' hu hy => ?_
    ·rcases hes i' e' h' with ⟨_, rfl⟩ | ⟨_, h'⟩
     ·exact hel
     ·exact g6 i' e' h'
    ·rw [cur_set_get _ _ _ (by omega)] at hy
     have this : CRep (Still A ι w) w u y := by
      rcases hes i' e' h' with ⟨rfl, rfl⟩ | ⟨hne, h'⟩
      ·have hul : us.length = vs.length := by omega
       rw [List.append_assoc, List.getElem?_append, List.length_take, List.getElem?_append, List.getElem?_take, List.getElem?_drop, Nat.min_eq_left (by omega)] at hu
       have hj : j < k := by
        split at hu
        ·omega
        ·split at hu
         ·omega
         ·have := (List.getElem?_eq_some_iff.1 hu).1; omega
       by_cases hj1 : j < off
       ·rw [if_pos hj1, if_pos hj1] at hu
        rw [if_neg (by omega)] at hy
        exact g8 i' _ j u y he hu hy
       ·rw [if_neg hj1] at hu
        by_cases hj2 : j - off < us.length
        ·rw [if_pos hj2] at hu
         rw [if_pos (by omega)] at hy
         exact hu2 (j - off) u y hu (by rw [← hy]; congr 1; omega)
        ·rw [if_neg hj2] at hu
         rw [if_neg (by omega)] at hy
         exact g8 i' _ j u y he (by rw [← hu]; congr 1; omega) hy
      ·have hj : j < k := by rw [← g6 i' e' h']; exact (List.getElem?_eq_some_iff.1 hu).1
       rw [if_neg ?_] at hy
       ·exact g8 i' e' j u y h' hu hy
       ·rintro ⟨q1, q2⟩
        rcases Nat.lt_or_gt_of_ne hne with hlt | hgt
        ·have h9 : (i' + 1) * k ≤ i * k := Nat.mul_le_mul_right k (by omega)
         rw [Nat.add_mul, Nat.one_mul] at h9
         omega
        ·have h9 : (i + 1) * k ≤ i' * k := Nat.mul_le_mul_right k (by omega)
         rw [Nat.add_mul, Nat.one_mul] at h9
         have : (es.getD i []).length = k := hk
         omega
     exact this.mono hst.still
  ·cases h
end
end Go.Ab
