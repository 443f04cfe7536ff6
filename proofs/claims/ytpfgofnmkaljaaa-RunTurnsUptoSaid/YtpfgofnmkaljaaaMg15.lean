/-
  A nil slice as an own one; states cut down; whole numbers.
-/
import Derived.Test.YtpfgofnmkaljaaaMg12
import Derived.Test.YtpfgofnmkaljaaaMg14
import Derived.Laws.BitsLemmas
set_option linter.unusedVariables false
set_option linter.unusedSimpArgs false
namespace Go.Ab
open Go
theorem go_nilOwn {cx : Cx} {Q : Post} {k : List K} {s : AState} (t w ty : Nat) (hl : look s.tmps t = some (.c (.val (.slice none 0 0)))) (h : Go' cx Q k ⟨(t, .own s.nxt w 0 0) :: s.tmps, (s.nxt, .acc w [] ty) :: s.heap, s.nxt + 1⟩) : Go' cx Q k s := by
 refine go_weak ?_ h
 rintro a w' ⟨ι, hs⟩
 let ι' : Pl := ⟨fun b => if b = s.nxt then some .nil else ι b, ι.hid⟩
 have hat : ∀ b g c, ι' b = some (.at g c) → ι b = some (.at g c) := fun b g c hb => by
  simp only [ι'] at hb
  split at hb
  ·cases hb
  ·exact hb
 have hsub : SubPl ι ι' := ⟨fun b g c hb => ⟨b, c, hat b g c hb⟩, fun g b hb => ⟨b, hb⟩⟩
 have hst : ∀ g, Still cx.A ι w' g → Still cx.A ι' w' g ∧ w'.heap[g]? = w'.heap[g]? := fun g hg => ⟨hsub.still hg, rfl⟩
 have hmen : ∀ b, ι b ≠ none → ι' b = ι b := fun b hb => by
  simp only [ι']
  rw [if_neg]
  rintro rfl
  exact hb (hs.free _ (Nat.le_refl _))
 have hrep : ∀ {av x}, Rep (Still cx.A ι w') ι w' av x → Rep (Still cx.A ι' w') ι' w' av x := fun hr => hr.mono hst fun b hb => hmen b (hr.men b hb)
 have hnew : ι' s.nxt = some .nil := by simp [ι']
 refine ⟨ι', ⟨fun b b' g c c' h1 h2 => hs.ok.inj _ _ _ _ _ (hat _ _ _ h1) (hat _ _ _ h2), fun b g c h1 => hs.ok.lt _ _ _ (hat _ _ _ h1), hs.ok.hlt, fun g b h1 b' c h2 => hs.ok.hdis g b h1 b' c (hat _ _ _ h2), fun g b h1 => by rw [hmen b (hs.ok.hlaid g b h1)]; exact hs.ok.hlaid g b h1⟩, fun b hb => ?_, hs.defers.pl (fun b g c hb => ⟨b, c, hat b g c hb⟩) (fun g b hb => ⟨b, hb⟩), hs.size, fun t' av hl' => ?_, fun b blk hl' => ?_, ?_⟩
 ·have hb' : s.nxt + 1 ≤ b := hb
  simp only [ι']
  rw [if_neg (by omega)]
  exact hs.free b (by omega)
 ·simp only [look] at hl'
  cases htt : t == t' with
  | true =>
   have := eq_of_beq htt
   subst this
   simp [htt] at hl'
   subst hl'
   have := hs.tmps t _ hl
   generalize a.tmps.getD t undef = x at this
   cases this with
   | c _ _ hu => cases hu; exact .ownNil _ _ hnew
  | false =>
   simp [htt] at hl'
   exact hrep (hs.tmps t' av hl')
 ·simp only [look] at hl'
  cases hbb : s.nxt == b with
  | true =>
   have := eq_of_beq hbb
   subst this
   simp [hbb] at hl'
   subst hl'
   exact .accNil _ _ hnew
  | false =>
   simp [hbb] at hl'
   have hb := hs.heap b blk hl'
   exact hb.turn hst (hmen b hb.laid) (fun _ _ _ => rfl) (fun _ hg => ⟨hg, rfl⟩) fun i av x _ hx => hrep hx
 ·have hb := hs.base
  exact ⟨hb.os, hb.tape, hb.output, hb.size, hb.block, fun b g c h1 => hb.own b g c (hat b g c h1), hb.hown⟩
def keepL {α : Type} (l : List (Nat × α)) : List Nat → List (Nat × α)
 | [] => []
 | t :: r => match look l t with
  | some av => (t, av) :: keepL l r
  | none => keepL l r
def AllIn {α : Type} (l : List (Nat × α)) : List (Nat × α) → Prop
 | [] => True
 | (t, av) :: r => look l t = some av ∧ AllIn l r
theorem AllIn.mem {α : Type} {l : List (Nat × α)} : ∀ {m : List (Nat × α)}, AllIn l m → ∀ p ∈ m, look l p.1 = some p.2
 | (t, av) :: r, h, p, hp => by
  rcases List.mem_cons.1 hp with rfl | hp
  ·exact h.1
  ·exact AllIn.mem h.2 p hp
theorem Weak.sub' {cx : Cx} {s s' : AState} (ht : AllIn s.tmps s'.tmps) (hh : AllIn s.heap s'.heap) (hn : s.nxt ≤ s'.nxt) : Weak cx s s' := Weak.sub ht.mem hh.mem hn
def menT : List (Nat × AV) → List Nat
 | [] => []
 | (_, av) :: r => menAV av ++ menT r
def menHp : List (Nat × Blk) → List Nat
 | [] => []
 | (b, blk) :: r => b :: (menBlk blk ++ menHp r)
theorem menT_mem {b : Nat} : ∀ {l : List (Nat × AV)} {p : Nat × AV}, p ∈ l → Men b p.2 → b ∈ menT l
 | (_, av) :: r, p, hp, hm => by
  simp only [menT]
  cases hp with
  | head => exact List.mem_append_left _ (men_mem b av hm)
  | tail _ hp => exact List.mem_append_right _ (menT_mem hp hm)
theorem menHp_mem {b : Nat} : ∀ {l : List (Nat × Blk)} {p : Nat × Blk}, p ∈ l → (b = p.1 ∨ b ∈ menBlk p.2) → b ∈ menHp l
 | (x, blk) :: r, p, hp, hm => by
  simp only [menHp]
  cases hp with
  | head =>
   rcases hm with rfl | hm
   ·exact List.mem_cons_self
   ·exact List.mem_cons_of_mem _ (List.mem_append_left _ hm)
  | tail _ hp => exact List.mem_cons_of_mem _ (List.mem_append_right _ (menHp_mem hp hm))
theorem Weak.forget' {cx : Cx} {s s' : AState} (ht : AllIn s.tmps s'.tmps) (hh : AllIn s.heap s'.heap) (hc : ((menT s'.tmps ++ menHp s'.heap).all fun b => decide (b < s'.nxt)) = true) : Weak cx s s' := by
 have hc' : ∀ b ∈ menT s'.tmps ++ menHp s'.heap, b < s'.nxt := fun b hb => by simpa using List.all_eq_true.1 hc b hb
 refine Weak.forget ht.mem hh.mem (fun p hp b hb hm => ?_) (fun p hp => ?_) fun p hp i av ha b hb hm => ?_
 ·have := hc' b (List.mem_append_left _ (menT_mem hp hm)); omega
 ·exact hc' _ (List.mem_append_right _ (menHp_mem hp (.inl rfl)))
 ·have := hc' b (List.mem_append_right _ (menHp_mem hp (.inr (menBlk_mem ha hm)))); omega
theorem CallK.freshE {cx : Cx} {o : Oper} {s : AState} {f : FuncId} {args as args' : List AV} {blks : List Blk} {r : AV} {KK : AState → Prop} {vc : Prop} (h : FnO cx.P f args' blks r) (hs : snapL s.heap args = some (vc, as)) (he : as = args') (hvc : vc)
  (hfl : menLs args = [] ∨ (flatAV r ∧ flatBs blks)) (hd : match o.dst with | some t => t < cx.n | none => True)
  (hK : KK (s.apply o ⟨some (shiftAV s.nxt r), shiftBs s.nxt 0 blks, [], s.nxt + blks.length⟩)) : CallK cx o s f args KK := by
 subst he
 exact CallK.fresh h hs hvc hfl hd hK
theorem wrap_u32 (n : Nat) : IntKind.u32.wrap (n : Int) = ((n % 4294967296 : Nat) : Int) := by simp [IntKind.wrap, IntKind.bits, IntKind.signed]
theorem ofInt_bv (x : BitVec 32) : BitVec.ofInt 32 (x.toNat : Int) = x := by simp
theorem bits_u32 (x : BitVec 32) : bitsV .u32 x = .int .u32 (x.toNat : Int) := by
 have h : x.toNat < 4294967296 := x.isLt
 unfold bitsV
 rw [IntKind.wrap_u32]
 congr 1
 have e : ((x.toNat : Int)) % 4294967296 = x.toNat := by omega
 exact e
theorem wrap_i64 (n : Nat) (h : n < 9223372036854775808) : IntKind.i64.wrap (n : Int) = (n : Int) := by rw [IntKind.wrap_i64]; omega
end Go.Ab
