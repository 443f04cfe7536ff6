/-
  Rules for code over the told state: what is left of a body is a list of pieces; a call is met by its function's contract; a pure function's contract.
-/
import Derived.Test.YtpfgofnmkaljaaaMg01
set_option linter.unusedVariables false
set_option linter.unusedSimpArgs false
namespace Go.Ab
open Go
inductive K where
 | code (c : Code)
 | blk (id : Nat)
 | fin (R : AState → Prop)
abbrev Post := Exit → Act → World → Prop
def kpost (cx : Cx) (Q : Post) : List K → Post
 | [], e, a, w => Q e a w
 | .code c :: k, .normal, a, w => c.wpIn (FW cx.rnd) 0 cx.P (kpost cx Q k) a w
 | .code _ :: k, e, a, w => kpost cx Q k e a w
 | .blk _ :: k, .normal, a, w => kpost cx Q k .normal a w
 | .blk id :: k, .exit id', a, w => if id' = id then kpost cx Q k .normal a w else kpost cx Q k (.exit id') a w
 | .blk _ :: k, e, a, w => kpost cx Q k e a w
 | .fin R :: _, .normal, a, w => ∃ s, R s ∧ Sat cx s a w
 | .fin _ :: k, e, a, w => kpost cx Q k e a w
def Go' (cx : Cx) (Q : Post) (k : List K) (s : AState) : Prop := ∀ a w, Sat cx s a w → kpost cx Q k .normal a w
section
variable {cx : Cx} {Q : Post} {k : List K} {s : AState}
theorem go_seq {x y : Code} (h : Go' cx Q (.code x :: .code y :: k) s) : Go' cx Q (.code (.seq x y) :: k) s := fun a w hs => by
 refine wpIn_seq (Code.wpIn_mono ?_ (h a w hs))
 intro e a w hq
 cases e <;> exact hq
theorem go_block {id : Nat} {c : Code} (h : Go' cx Q (.code c :: .blk id :: k) s) : Go' cx Q (.code (.block id c) :: k) s := fun a w hs => by
 refine wpIn_block (Code.wpIn_mono ?_ (h a w hs))
 intro e a w hq
 cases e with
 | exit id' => simp only [kpost] at hq; simp only [Exit.inBlock]; exact hq
 | _ => exact hq
theorem go_blk {id : Nat} (h : Go' cx Q k s) : Go' cx Q (.blk id :: k) s := fun a w hs => h a w hs
theorem go_skip (h : Go' cx Q k s) : Go' cx Q (.code .skip :: k) s := fun a w hs => wpIn_skip (h a w hs)
theorem go_nil (h : ∀ a w, Sat cx s a w → Q .normal a w) : Go' cx Q [] s := h
theorem go_ret (h : ∀ a w, Sat cx s a w → kpost cx Q k .ret a w) : Go' cx Q (.code .ret :: k) s := fun a w hs => wpIn_ret (h a w hs)
def exitK (id : Nat) : List K → Option (List K)
 | [] => none
 | .blk id' :: k => bif id' == id then some k else exitK id k
 | _ :: k => exitK id k
theorem kpost_exit {id : Nat} {k' : List K} {a : Act} {w : World} : ∀ {k : List K}, exitK id k = some k' → kpost cx Q k' .normal a w → kpost cx Q k (.exit id) a w
 | [], h, _ => by cases h
 | .code c :: k, h, hq => kpost_exit (k := k) h hq
 | .fin R :: k, h, hq => kpost_exit (k := k) h hq
 | .blk id' :: k, h, hq => by
  simp only [exitK] at h
  simp only [kpost]
  cases e : id' == id with
  | true => simp [e] at h; subst h; have := eq_of_beq e; rw [if_pos this.symm]; exact hq
  | false =>
   simp [e] at h
   have hne : ¬ id = id' := fun e' => by simp [e'] at e
   rw [if_neg hne]
   exact kpost_exit (k := k) h hq
theorem go_exit {id : Nat} {k' : List K} (hk : exitK id k = some k') (h : Go' cx Q k' s) : Go' cx Q (.code (.exit id) :: k) s := fun a w hs => wpIn_exit (kpost_exit hk (h a w hs))
theorem go_fin {R : AState → Prop} (h : R s) : Go' cx Q (.fin R :: k) s := fun _ _ hs => ⟨s, h, hs⟩
theorem kpost_ret {a : Act} {w : World} (hq : Q .ret a w) : ∀ k : List K, kpost cx Q k .ret a w
 | [] => hq
 | .code _ :: k => kpost_ret hq k
 | .fin _ :: k => kpost_ret hq k
 | .blk _ :: k => kpost_ret hq k
theorem go_cond {c : Operand} {x y : Code} {b : Bool} (hc : evT s.tmps c = .c (.val (.bool b))) (ht : b = true → Go' cx Q (.code x :: k) s) (hf : b = false → Go' cx Q (.code y :: k) s) :
  Go' cx Q (.code (.cond c x y) :: k) s := fun a w hs => by
 obtain ⟨ι, h⟩ := hs
 have he := h.ev c
 rw [hc] at he
 have hb : a.eval c = .bool b := by
  generalize a.eval c = v at he
  cases he with
  | c u x hu => cases hu; rfl
 cases b
 ·exact wpIn_cond hb (hf rfl a w ⟨ι, h⟩)
 ·exact wpIn_cond hb (ht rfl a w ⟨ι, h⟩)
def Weak (cx : Cx) (s s' : AState) : Prop := ∀ a w, Sat cx s a w → Sat cx s' a w
theorem Weak.refl (cx : Cx) (s : AState) : Weak cx s s := fun _ _ h => h
theorem Weak.trans {cx : Cx} {s s' s'' : AState} (h : Weak cx s s') (h' : Weak cx s' s'') : Weak cx s s'' := fun a w hs => h' a w (h a w hs)
theorem go_weak {s' : AState} (hw : Weak cx s s') (h : Go' cx Q k s') : Go' cx Q k s := fun a w hs => h a w (hw a w hs)
theorem Weak.sub {cx : Cx} {s s' : AState} (ht : ∀ p ∈ s'.tmps, look s.tmps p.1 = some p.2) (hh : ∀ p ∈ s'.heap, look s.heap p.1 = some p.2) (hn : s.nxt ≤ s'.nxt) : Weak cx s s' := by
 rintro a w ⟨ι, h⟩
 exact ⟨ι, h.ok, fun b hb => h.free b (Nat.le_trans hn hb), h.defers, h.size, fun t av hl => h.tmps t av (ht _ (look_mem hl)), fun b blk hl => h.heap b blk (hh _ (look_mem hl)), h.base⟩
theorem Weak.forget {cx : Cx} {s s' : AState} (ht : ∀ p ∈ s'.tmps, look s.tmps p.1 = some p.2) (hh : ∀ p ∈ s'.heap, look s.heap p.1 = some p.2)
  (hm : ∀ p ∈ s'.tmps, ∀ b, s'.nxt ≤ b → ¬ Men b p.2) (hb : ∀ p ∈ s'.heap, p.1 < s'.nxt) (hc : ∀ p ∈ s'.heap, ∀ (i : Nat) av, p.2.avs[i]? = some av → ∀ b, s'.nxt ≤ b → ¬ Men b av) : Weak cx s s' := by
 rintro a w ⟨ι, h⟩
 let ι' : Pl := ⟨fun b => if b < s'.nxt then ι b else none, fun g => (ι.hid g).bind fun b => if b < s'.nxt then some b else none⟩
 have hι : ∀ b, b < s'.nxt → ι' b = ι b := fun b hb => by simp [ι', hb]
 have hι2 : ∀ b g c, ι' b = some (.at g c) → ι b = some (.at g c) := fun b g c hb => by
  simp only [ι'] at hb
  split at hb
  ·exact hb
  ·cases hb
 have hh1 : ∀ g b, ι'.hid g = some b → ι.hid g = some b ∧ b < s'.nxt := fun g b hb => by
  simp only [ι', Option.bind_eq_some_iff] at hb
  obtain ⟨b', h1, h2⟩ := hb
  split at h2
  ·rename_i hlt; cases h2; exact ⟨h1, hlt⟩
  ·cases h2
 have hh2 : ∀ g b, b < s'.nxt → ι.hid g = some b → ι'.hid g = some b := fun g b hb h1 => by simp [ι', h1, hb]
 have hsub : SubPl ι ι' := ⟨fun b g c hb => ⟨b, c, hι2 b g c hb⟩, fun g b hb => ⟨b, (hh1 g b hb).1⟩⟩
 have hst : ∀ g, Still cx.A ι w g → Still cx.A ι' w g ∧ w.heap[g]? = w.heap[g]? := fun g hg => ⟨hsub.still hg, rfl⟩
 have hrep : ∀ av x, (∀ b, s'.nxt ≤ b → ¬ Men b av) → Rep (Still cx.A ι w) ι w av x → Rep (Still cx.A ι' w) ι' w av x := fun av x hm hr =>
  hr.mono hst fun b hb => hι b (Nat.lt_of_not_le fun hle => hm b hle hb)
 refine ⟨ι', ⟨fun b b' g c c' h1 h2 => h.ok.inj b b' g c c' (hι2 _ _ _ h1) (hι2 _ _ _ h2), fun b g c h1 => h.ok.lt b g c (hι2 _ _ _ h1), fun g b h1 => h.ok.hlt g b (hh1 g b h1).1, fun g b h1 b' c h2 => h.ok.hdis g b (hh1 g b h1).1 b' c (hι2 _ _ _ h2),
  fun g b h1 => by rw [hι b (hh1 g b h1).2]; exact h.ok.hlaid g b (hh1 g b h1).1⟩, fun b hb => ?_, h.defers.pl (fun b g c hb => ⟨b, c, hι2 b g c hb⟩) (fun g b hb => ⟨b, (hh1 g b hb).1⟩), h.size, fun t av hl => ?_, fun b blk hl => ?_, ?_⟩
 ·have : ¬ b < s'.nxt := Nat.not_lt.2 hb
  simp [ι', this]
 ·exact hrep av _ (hm _ (look_mem hl)) (h.tmps t av (ht _ (look_mem hl)))
 ·have hl' := look_mem hl
  have hb' := h.heap b blk (hh _ hl')
  have hlt : b < s'.nxt := hb _ hl'
  exact hb'.turn hst (hι b hlt) (fun _ _ _ => rfl) (fun g hg => ⟨hh2 g b hlt hg, rfl⟩) fun i av x ha hx => hrep av x (hc _ hl' i av ha) hx
 ·have hb' := h.base
  exact ⟨hb'.os, hb'.tape, hb'.output, hb'.size, hb'.block, fun b g c h1 => hb'.own b g c (hι2 _ _ _ h1), fun g b h1 => hb'.hown g b (hh1 g b h1).1⟩
theorem wpIn_loop_ghost {F : Fence} {n : Nat} {P : Program} {c : Code} {Q : Exit → Act → World → Prop} {a : Act} {w : World} {α : Type} (I : α → Act → World → Prop) (μ : α → Nat) (x : α) (h₀ : I x a w)
  (round : ∀ x a w, I x a w → c.wpIn F n P (Exit.then (fun a' w' => ∃ y, I y a' w' ∧ μ y < μ x) Q) a w) : (Code.loop c).wpIn F n P Q a w := by
 intro b k cs hro hb hr
 have key : ∀ j x a w, μ x = j → I x a w →
   ∃ e a' w', Q e a' w' ∧ ArrivesIn (Machine.fenced P F) P (lone (b.atR a (.code c :: .inLoop c :: k)) cs w) b k cs e a' w' := by
  intro j
  induction j using Nat.strongRecOn with
  | _ j ih =>
   intro x a w hn hI
   obtain ⟨e, a₁, w₁, hq, harr⟩ := round x a w hI b (.inLoop c :: k) cs hro hb hr
   cases e with
   | normal =>
    obtain ⟨y, hI₁, hlt⟩ := hq
    obtain ⟨e₂, a₂, w₂, hq₂, harr₂⟩ := ih (μ y) (hn ▸ hlt) y a₁ w₁ rfl hI₁
    exact ⟨e₂, a₂, w₂, hq₂, .of_steps (StepsIn.trans harr (.one (fenced_calm hb hr rfl) stepR_inLoop)) harr₂⟩
   | exit id => exact ⟨_, a₁, w₁, hq, .pass (x := .inLoop c) rfl (fun _ _ => .inl (by simp)) harr⟩
   | goto l => exact ⟨_, a₁, w₁, hq, .pass (x := .inLoop c) rfl (fun _ _ => .inl (by simp)) harr⟩
   | ret => exact ⟨_, a₁, w₁, hq, .pass (x := .inLoop c) rfl (fun _ _ => .inl (by simp)) harr⟩
   | panic ch => exact ⟨_, a₁, w₁, hq, .pass (x := .inLoop c) rfl (fun _ _ => .inl (by simp)) harr⟩
   | outgrown => exact ⟨_, a₁, w₁, hq, .pass (x := .inLoop c) rfl (fun _ _ => .inl (by simp)) harr⟩
 obtain ⟨e, a', w', hq, harr⟩ := key _ x a w rfl h₀
 exact ⟨e, a', w', hq, .of_steps (.one (fenced_calm hb hr rfl) stepR_loop) harr⟩
theorem go_loop {body : Code} {α : Type} (S : α → AState) (Inv : α → Prop) (μ : α → Nat) (x : α) (hx : Inv x) (hw : Weak cx s (S x))
  (h : ∀ x, Inv x → Go' cx Q (.code body :: .fin (fun s' => ∃ y, Inv y ∧ μ y < μ x ∧ Weak cx s' (S y)) :: k) (S x)) : Go' cx Q (.code (.loop body) :: k) s := fun a w hs => by
 refine wpIn_loop_ghost (fun x a w => Inv x ∧ Sat cx (S x) a w) μ x ⟨hx, hw a w hs⟩ ?_
 rintro x a w ⟨hI, hS⟩
 refine Code.wpIn_mono ?_ (h x hI a w hS)
 intro e a' w' hq
 cases e with
 | normal => obtain ⟨s', ⟨y, h1, h2, h3⟩, hs'⟩ := hq; exact ⟨y, ⟨h1, h3 _ _ hs'⟩, h2⟩
 | _ => exact hq
end
abbrev Reck := TT → List (Nat × AV) → List (Nat × Blk) → Nat → Oper → Option (Prop × Eff)
def yAV (all : Array Oper) (tmps : List (Nat × AV)) (j : Nat) : AV :=
 match (all[j]?).bind (·.dst) with
 | some d => (look tmps d).getD .top
 | none => .tup []
def PlainFn (P : Program) (f : FuncId) : Prop := ∃ fn, P.funcs[f]? = some fn ∧ (fn.name == "runtime.NumGoroutine") = false ∧ fn.body.isSome = true
def CallK (cx : Cx) (o : Oper) (s : AState) (f : FuncId) (args : List AV) (KK : AState → Prop) : Prop :=
 PlainFn cx.P f ∧
 ∀ (ι : Pl) (a : Act) (w : World) (vs : List Value), SatI cx s ι a w → vs.length = args.length → (∀ (i : Nat) av x, args[i]? = some av → vs[i]? = some x → Rep (Still cx.A ι w) ι w av x) →
  Calls cx.P f vs.toArray w (fun e w' => ∃ v s' ι', e = .returned v ∧ KK s' ∧ SatI cx s' ι' (a.put o.dst v) w')
def calleeAV (tmps : List (Nat × AV)) : Op → Option (FuncId × List AV)
 | .call { callee := .value f, args, .. } => match evT tmps f with
  | .clo g caps => some (g, args.toList.map (evT tmps) ++ caps)
  | _ => none
 | _ => none
def SpecK (cx : Cx) (o : Oper) (KK : AState → Prop) (s : AState) : Prop :=
 ∀ (ι : Pl) (a : Act) (w : World) (next : Act → World → Prop) (Q : Post), SatI cx s ι a w → (∀ s' ι' a' w', KK s' → SatI cx s' ι' a' w' → next a' w') → o.wpIn (FW cx.rnd) 0 cx.P a w next Q
def doP (rk : Reck) (cx : Cx) (o : Oper) (KK : AState → Prop) (s : AState) : Prop :=
 match calleeAV s.tmps o.op with
 | some (g, args) => CallK cx o s g args KK
 | none => match rk cx.tt s.tmps s.heap s.nxt o with
  | some (vc, e) => vc ∧ (match o.dst with | some t => t < cx.n | none => True) ∧ KK (s.apply o e)
  | none => SpecK cx o KK s
def opsP (rk : Reck) (cx : Cx) (all : Array Oper) (R : AState → Prop) : List Oper → AState → Prop
 | [], s => R s
 | o :: r, s => match o.guard with
  | none => doP rk cx o (opsP rk cx all R r) s
  | some (j, want) => match yAV all s.tmps j with
   | .c (.val (.bool b)) => (b = want → doP rk cx o (opsP rk cx all R r) s) ∧ (b = !want → opsP rk cx all R r (s.apply o ⟨some (.tup []), [], [], s.nxt⟩) ∧ (match o.dst with | some t => t < cx.n | none => True))
   | .tup [] => opsP rk cx all R r (s.apply o ⟨some (.tup []), [], [], s.nxt⟩) ∧ (match o.dst with | some t => t < cx.n | none => True)
   | _ => False
def RkOk (P : Program) (tt : TT) (rk : Reck) : Prop :=
 ∀ tmps heap nxt o vc e, rk tt tmps heap nxt o = some (vc, e) → vc → Loc P o (evT tmps) (look heap) nxt e ∧ (∀ c, o.op ≠ .defer c)
theorem opsP_nil (rk : Reck) (cx : Cx) (all : Array Oper) (R : AState → Prop) (t : List (Nat × AV)) (h : List (Nat × Blk)) (n : Nat) : opsP rk cx all R [] ⟨t, h, n⟩ = R ⟨t, h, n⟩ := rfl
theorem opsP_cons (rk : Reck) (cx : Cx) (all : Array Oper) (R : AState → Prop) (o : Oper) (r : List Oper) (t : List (Nat × AV)) (h : List (Nat × Blk)) (n : Nat) : opsP rk cx all R (o :: r) ⟨t, h, n⟩ = (match o.guard with
  | none => doP rk cx o (opsP rk cx all R r) ⟨t, h, n⟩
  | some (j, want) => match yAV all t j with
   | .c (.val (.bool b)) => (b = want → doP rk cx o (opsP rk cx all R r) ⟨t, h, n⟩) ∧ (b = !want → opsP rk cx all R r (AState.apply ⟨t, h, n⟩ o ⟨some (.tup []), [], [], n⟩) ∧ (match o.dst with | some t => t < cx.n | none => True))
   | .tup [] => opsP rk cx all R r (AState.apply ⟨t, h, n⟩ o ⟨some (.tup []), [], [], n⟩) ∧ (match o.dst with | some t => t < cx.n | none => True)
   | _ => False) := rfl
theorem bool_split (b want : Bool) (p q : Prop) : ((b = want → p) ∧ (b = !want → q)) = (if b = want then p else q) := by
 by_cases h : b = want
 ·subst h
  rw [if_pos rfl]
  exact propext ⟨fun h => h.1 rfl, fun h => ⟨fun _ => h, fun h' => by cases b <;> cases h'⟩⟩
 ·rw [if_neg h]
  exact propext ⟨fun h' => h'.2 (by cases b <;> cases want <;> simp_all), fun h' => ⟨fun e => absurd e h, fun _ => h'⟩⟩
theorem opsP_cons2 (rk : Reck) (cx : Cx) (all : Array Oper) (R : AState → Prop) (o : Oper) (r : List Oper) (t : List (Nat × AV)) (h : List (Nat × Blk)) (n : Nat) : opsP rk cx all R (o :: r) ⟨t, h, n⟩ = (match o.guard with
  | none => doP rk cx o (opsP rk cx all R r) ⟨t, h, n⟩
  | some (j, want) => match yAV all t j with
   | .c (.val (.bool b)) => if b = want then doP rk cx o (opsP rk cx all R r) ⟨t, h, n⟩ else (opsP rk cx all R r (AState.apply ⟨t, h, n⟩ o ⟨some (.tup []), [], [], n⟩) ∧ (match o.dst with | some t => t < cx.n | none => True))
   | .tup [] => opsP rk cx all R r (AState.apply ⟨t, h, n⟩ o ⟨some (.tup []), [], [], n⟩) ∧ (match o.dst with | some t => t < cx.n | none => True)
   | _ => False) := by
 rw [opsP_cons]
 cases o.guard with
 | none => rfl
 | some jw =>
  obtain ⟨j, want⟩ := jw
  simp only
  split
  ·exact bool_split _ _ _ _
  ·rfl
  ·rfl
theorem evT_clo {cx : Cx} {s : AState} {ι : Pl} {a : Act} {w : World} (h : SatI cx s ι a w) {x : Operand} {g : FuncId} {caps : List AV} (hx : evT s.tmps x = .clo g caps) :
  ∃ xs : List Value, a.eval x = .func (.func g) #[] xs.toArray ∧ xs.length = caps.length ∧ ∀ (i : Nat) av x, caps[i]? = some av → xs[i]? = some x → Rep (Still cx.A ι w) ι w av x := by
 have he := h.ev x
 rw [hx] at he
 generalize a.eval x = v at he
 cases he with
 | clo f caps xs hl hr => exact ⟨xs, rfl, hl, hr⟩
theorem run_callFunc {P : Program} {f : FuncId} (h : PlainFn P f) (args : Array Value) (w : World) : (callFunc f args).run P w = .ok (.enter f args) w := by
 obtain ⟨fn, h1, h2, h3⟩ := h
 have h3' : fn.body.isNone = false := by cases hb : fn.body <;> simp_all
 simp only [callFunc, Sem.run_bind, run_program, Result.andThen_ok, h1, h2, h3', Bool.false_eq_true, if_false]
 rfl
theorem about_trivial (cx : Cx) (o : Oper) (a : Act) (w : World) : ∀ f, o.about cx.P w a.eval = some f → (FW cx.rnd).fn f := fun _ _ => trivial
theorem semAt_plain (r : Option Nat) (o : Oper) (ρ : Operand → Value) (h : ∀ c, o.op ≠ .defer c) : o.semAt (FW r).round ρ = execOp ρ o := Oper.semAt_eq _ ρ o h
theorem doP_sound {rk : Reck} {cx : Cx} (hrk : RkOk cx.P cx.tt rk) {o : Oper} {KK : AState → Prop} {s : AState} {ι : Pl} {a : Act} {w : World} (h : doP rk cx o KK s) (hs : SatI cx s ι a w)
  {next : Act → World → Prop} {Q : Post} (hn : ∀ s' ι' a' w', KK s' → SatI cx s' ι' a' w' → next a' w') : o.wpIn (FW cx.rnd) 0 cx.P a w next Q := by
 unfold doP at h
 split at h
 ·rename_i g args hc
  refine ⟨about_trivial cx o a w, ?_⟩
  unfold calleeAV at hc
  split at hc
  ·rename_i f cargs ctypes hop
   split at hc
   ·rename_i g' caps hf
    simp only [Option.some.injEq, Prod.mk.injEq] at hc
    obtain ⟨rfl, rfl⟩ := hc
    obtain ⟨xs, hv, hl, hr⟩ := evT_clo hs hf
    obtain ⟨hplain, hcall⟩ := h
    rw [semAt_plain _ _ _ (by rw [hop]; intro c hc; cases hc)]
    have hexec : (execOp a.eval o).run cx.P w = .ok (.enter g' ((cargs.map a.eval) ++ xs.toArray)) w := by
     unfold execOp
     simp only [hop, resolve, Sem.run_bind, hv, Deferred.ofValue, Sem.run_pure, Result.andThen_ok, invoke]
     rw [run_callFunc hplain]
     simp
    rw [hexec]
    simp only [Oper.uponIn]
    refine ⟨fun hd => by simp [FW, Fence.wide] at hd, ?_⟩
    have hcall' := hcall ι a w (cargs.toList.map a.eval ++ xs) hs (by simp [hl]) (fun i av x ha hx => by
     rw [List.getElem?_append] at ha hx
     simp only [List.length_map] at ha hx
     split at ha
     ·rename_i hlt
      rw [if_pos hlt] at hx
      obtain ⟨y, hy, rfl⟩ := getElem?_map' ha
      obtain ⟨z, hz, rfl⟩ := getElem?_map' hx
      have : y = z := by rw [hy] at hz; exact Option.some.inj hz
      subst this
      exact hs.ev y
     ·rename_i hlt
      rw [if_neg hlt] at hx
      exact hr _ av x ha hx)
    have he : (cargs.toList.map a.eval ++ xs).toArray = cargs.map a.eval ++ xs.toArray := by
     obtain ⟨l⟩ := cargs
     simp [← List.append_toArray]
    rw [he] at hcall'
    have hin : CallsIn Fence.wide (0 - 1) cx.P g' (cargs.map a.eval ++ xs.toArray) w (fun e w' => ∃ v s' ι', e = .returned v ∧ KK s' ∧ SatI cx s' ι' (a.put o.dst v) w') := callsIn_wide.2 hcall'
    have hin2 : CallsIn (FW cx.rnd) (0 - 1) cx.P g' (cargs.map a.eval ++ xs.toArray) w (fun e w' => ∃ v s' ι', e = .returned v ∧ KK s' ∧ SatI cx s' ι' (a.put o.dst v) w') := hin
    refine hin2.mono fun e w' he' => ?_
    obtain ⟨v, s', ι', rfl, hK, hS⟩ := he'
    exact hn s' ι' _ w' hK hS
   ·cases hc
  ·cases hc
 ·split at h
  ·rename_i vc e hr
   refine ⟨about_trivial cx o a w, ?_⟩
   obtain ⟨hvc, hdst, hK⟩ := h
   obtain ⟨hloc, hnd⟩ := hrk _ _ _ _ _ _ hr hvc
   rw [semAt_plain _ _ _ hnd]
   obtain ⟨nx, ι', w', hrun, hres, hst, hwr, hfr, hkw⟩ := hloc cx.A ι w a.eval hs.base.fresh hs.ok hs.free (fun x _ => hs.ev x) hs.heap
   rw [hrun]
   have hd : ∀ t, o.dst = some t → t < cx.n := fun t ht => by rw [ht] at hdst; exact hdst
   cases hres' : e.res with
   | some av =>
    rw [hres'] at hres
    cases nx <;> simp only at hres
    rename_i v
    simp only [Oper.uponIn]
    exact hn _ ι' _ w' hK (hs.apply hst hwr hfr hkw (by rw [hres']; exact hres) hd)
   | none =>
    rw [hres'] at hres
    cases nx <;> simp only at hres
    simp only [Oper.uponIn]
    exact hn _ ι' _ w' hK (hs.apply hst hwr hfr hkw (by rw [hres']; exact .tup [] [] rfl (fun i av x ha _ => by simp at ha)) hd)
  ·exact h ι a w next Q hs hn
theorem SatI.skip {cx : Cx} {s : AState} {ι : Pl} {a : Act} {w : World} (h : SatI cx s ι a w) {o : Oper} (hd : match o.dst with | some t => t < cx.n | none => True) :
  SatI cx (s.apply o ⟨some (.tup []), [], [], s.nxt⟩) ι (a.put o.dst undef) w :=
 h.apply (StepR.refl h.ok _ _) (fun p hp => by simp at hp) h.free (fun k hk => by cases hk) (.tup [] [] rfl (fun i av x ha _ => by simp at ha)) (fun t ht => by rw [ht] at hd; exact hd)
theorem yAV_sound {cx : Cx} {s : AState} {ι : Pl} {a : Act} {w : World} (h : SatI cx s ι a w) {all : Array Oper} {j : Nat} {av : AV} (hy : yAV all s.tmps j = av) :
    (∀ b, av = .c (.val (.bool b)) → yielded all a.tmps j = some b) ∧ (av = .tup [] → yielded all a.tmps j = none) := by
  unfold yAV at hy
  unfold yielded
  cases hd : (all[j]?).bind (·.dst) with
  | none => rw [hd] at hy; subst hy; exact ⟨fun b hb => (by cases hb), fun _ => rfl⟩
  | some d =>
    rw [hd] at hy
    simp only at hy
    have hrep : Rep (Still cx.A ι w) ι w av (a.tmps.getD d undef) := by
      subst hy
      cases hl : look s.tmps d with
      | none => exact .top _
      | some av => exact h.tmps d av hl
    constructor
    · intro b hb
      rw [hb] at hrep
      have : a.tmps.getD d undef = .bool b := by
        generalize a.tmps.getD d undef = v at hrep
        cases hrep with
        | c u x hu => cases hu; rfl
      rw [Array.getD_eq_getD_getElem?] at this
      cases he : a.tmps[d]? with
      | none => rw [he] at this; simp [undef] at this
      | some v => rw [he] at this; simp at this; subst this; simp [he]
    · intro ht
      rw [ht] at hrep
      have : a.tmps.getD d undef = .tuple #[] := by
        generalize a.tmps.getD d undef = v at hrep
        cases hrep with
        | tup cs xs hl hr => have : xs = [] := by simpa using hl
                             subst this; rfl
      rw [Array.getD_eq_getD_getElem?] at this
      cases he : a.tmps[d]? with
      | none => simp [he]
      | some v => rw [he] at this; simp at this; subst this; simp [he]
theorem opsP_sound {rk : Reck} {cx : Cx} (hrk : RkOk cx.P cx.tt rk) {all : Array Oper} {R : AState → Prop} {Q : Post} (hR : ∀ s' ι' a' w', R s' → SatI cx s' ι' a' w' → Q .normal a' w') :
  ∀ (l : List Oper) (s : AState) (ι : Pl) (a : Act) (w : World), opsP rk cx all R l s → SatI cx s ι a w → wpListIn (FW cx.rnd) 0 cx.P all Q l a w
 | [], s, ι, a, w, h, hs => hR s ι a w h hs
 | o :: r, s, ι, a, w, h, hs => by
  simp only [opsP] at h
  simp only [wpListIn]
  have ih := opsP_sound hrk (all := all) hR r
  cases hg : o.guard with
  | none =>
   rw [hg] at h
   simp only at h
   rw [if_pos (by simp [Region.wanted, hg])]
   exact doP_sound hrk h hs fun s' ι' a' w' hK hS => ih s' ι' a' w' hK hS
  | some jw =>
   obtain ⟨j, want⟩ := jw
   rw [hg] at h
   simp only at h
   have hy := yAV_sound hs (all := all) (j := j) rfl
   split at h
   ·rename_i b hb
    have hyb := hy.1 b hb
    by_cases e : b = want
    ·subst e
     rw [if_pos (by simp [Region.wanted, hg, hyb])]
     exact doP_sound hrk (h.1 rfl) hs fun s' ι' a' w' hK hS => ih s' ι' a' w' hK hS
    ·rw [if_neg (by simp [Region.wanted, hg, hyb, e])]
     have hb' : b = !want := by cases b <;> cases want <;> simp_all
     exact ⟨about_trivial cx o a w, ih _ ι _ w (h.2 hb').1 (hs.skip (h.2 hb').2)⟩
   ·rename_i hb
    have hyb := hy.2 hb
    rw [if_neg (by simp [Region.wanted, hg, hyb])]
    exact ⟨about_trivial cx o a w, ih _ ι _ w h.1 (hs.skip h.2)⟩
   ·exact h.elim
theorem go_region {rk : Reck} {cx : Cx} (hrk : RkOk cx.P cx.tt rk) {Q : Post} {k : List K} {s : AState} {id : Nat} {ops : Array Oper} (h : opsP rk cx ops (Go' cx Q k) ops.toList s) :
  Go' cx Q (.code (.region id ops false) :: k) s := fun a w ⟨ι, hs⟩ =>
 wpIn_region_list (opsP_sound hrk (fun s' ι' a' w' hR hS => hR a' w' ⟨ι', hS⟩) _ s ι a w h hs)
end Go.Ab
