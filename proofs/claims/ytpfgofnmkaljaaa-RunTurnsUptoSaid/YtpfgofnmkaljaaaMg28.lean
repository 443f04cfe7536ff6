/-
  Closures lent to be read: what they have captured are pointers to boxes that stay as they stand.
  A slice of some rows of one cell each, told cell by cell: makeSlice as a box that is seen as a slice.
-/
import Derived.Test.YtpfgofnmkaljaaaMg25
import Derived.Test.YtpfgofnmkaljaaaMg26
set_option linter.unusedVariables false
set_option linter.unusedSimpArgs false
namespace Go.Ab
open Go Go.RowKit
def snapF (heap : List (Nat × Blk)) : AV → Option (Prop × AV)
 | .clo f caps => (snapPL heap caps).map fun r => (r.1, .clo f r.2)
 | av => snapP heap av
def snapFL (heap : List (Nat × Blk)) : List AV → Option (Prop × List AV)
 | [] => some (True, [])
 | a :: r => match snapF heap a, snapFL heap r with
  | some (v, x), some (vs, xs) => some (v ∧ vs, x :: xs)
  | _, _ => none
section
variable {A : Nat → Prop} {ι : Pl} {w : World} {heap : List (Nat × Blk)}
theorem snapF_ok {J : Nat → Prop} (hJ : ∀ g, Still A ι w g → J g) (hJι : ∀ b g c, ι b = some (.at g c) → J g) (hh : ∀ b blk, look heap b = some blk → BlkRep (Still A ι w) ι w b blk)
  {av : AV} {x : Value} {vc : Prop} {r : AV} (h : snapF heap av = some (vc, r)) (hvc : vc) (hx : Rep (Still A ι w) ι w av x) : Rep J noPl w r x := by
 unfold snapF at h
 split at h
 ·rename_i f caps
  obtain ⟨p, h1, h2⟩ := Option.map_eq_some_iff.1 h
  cases h2
  cases hx with
  | clo _ _ xs hl hr =>
   obtain ⟨g1, g2⟩ := snapPL_ok hJ hJι hh (l' := p.2) h1 hvc
   exact .clo f _ xs (by rw [hl, g1]) fun i av x ha hx => g2 i av x ha fun av' hav' => hr i av' x hav' hx
 ·exact snapP_ok hJ hJι hh h hvc hx
theorem snapFL_ok {J : Nat → Prop} (hJ : ∀ g, Still A ι w g → J g) (hJι : ∀ b g c, ι b = some (.at g c) → J g) (hh : ∀ b blk, look heap b = some blk → BlkRep (Still A ι w) ι w b blk) :
  ∀ {l : List AV} {vc : Prop} {l' : List AV}, snapFL heap l = some (vc, l') → vc →
   l'.length = l.length ∧ ∀ (i : Nat) av' x, l'[i]? = some av' → (∀ av, l[i]? = some av → Rep (Still A ι w) ι w av x) → Rep J noPl w av' x
 | [], vc, l', h, hvc => by cases h; exact ⟨rfl, fun i av' x ha => by simp at ha⟩
 | a :: r, vc, l', h, hvc => by
  simp only [snapFL] at h
  split at h
  ·rename_i v x vs xs hx hxs
   cases h
   obtain ⟨h1, h2⟩ := snapFL_ok hJ hJι hh hxs hvc.2
   refine ⟨by simp [h1], fun i av' y ha hr => ?_⟩
   cases i with
   | zero => simp at ha; subst ha; exact snapF_ok hJ hJι hh hx hvc.1 (hr a rfl)
   | succ i => exact h2 i av' y (by simpa using ha) fun av hav => hr av (by simpa using hav)
  ·cases h
theorem FnP.coreF {P : Program} {f : FuncId} {args args' : List AV} {r : AV} (h : FnP P f args' r) {vc : Prop} (hs : snapFL heap args = some (vc, args')) (hvc : vc) (hfl : flatAV r)
  (hok : Ok ι w) (hh : ∀ b blk, look heap b = some blk → BlkRep (Still A ι w) ι w b blk) {vs : List Value} (hl : vs.length = args.length)
  (hr : ∀ (i : Nat) av x, args[i]? = some av → vs[i]? = some x → Rep (Still A ι w) ι w av x) :
  Calls P f vs.toArray w fun e w' => ∃ v, e = .returned v ∧ Rep (Still A ι w') ι w' r v ∧ StepR ι w ι w' (fun _ => False) (fun _ => False) := by
 let J : Nat → Prop := fun g => g < w.heap.size
 have hsn := snapFL_ok (J := J) (fun g hg => hg.1.2) (fun b g c hb => hok.lt b g c hb) hh hs hvc
 refine (h.2 J w vs (fun g hg => hg) (by rw [hl, hsn.1]) fun i av x ha hx => hsn.2 i av x ha fun av' hav' => hr i av' x hav' hx).mono fun e w' he => ?_
 obtain ⟨v, rfl, h1, hbel⟩ := he
 exact ⟨v, rfl, (rep_flat (I' := Still A ι w') h1 hfl).mono (fun g hg => ⟨hg, rfl⟩) fun b hb => absurd rfl (h1.men b hb), StepO.R ⟨hbel.os, hbel.tape, hbel.output, hbel.size, fun _ _ => rfl, fun b g c hb => .inl ⟨b, c, hb⟩, fun g hg _ => hbel.block g hg, hok.grow hbel.size⟩ rfl⟩
end
theorem FnP.opF {cx : Cx} {o : Oper} {tmps : List (Nat × AV)} {heap : List (Nat × Blk)} {nxt : Nat} {f : FuncId} {args args' : List AV} {r : AV} {vc : Prop} (h : FnP cx.P f args' r) (hs : snapFL heap args = some (vc, args')) (hvc : vc) (hfl : flatAV r)
  (hc : calleeAV tmps o.op = some (f, args)) : OpW cx o (evT tmps) (look heap) nxt ⟨some r, [], [], nxt⟩ := by
 intro A ι w a hA _ _ hok hf hr hh Q
 refine ⟨about_trivial cx o a w, ?_⟩
 unfold calleeAV at hc
 split at hc
 ·rename_i g cargs ctypes hop
  split at hc
  ·rename_i g' caps hg
   simp only [Option.some.injEq, Prod.mk.injEq] at hc
   obtain ⟨rfl, rfl⟩ := hc
   have hgr := hr g (by simp [hop, Op.operands, Call.operands])
   rw [hg] at hgr
   obtain ⟨xs, hv, hl, hrx⟩ : ∃ xs : List Value, a.eval g = .func (.func g') #[] xs.toArray ∧ xs.length = caps.length ∧ ∀ (i : Nat) av x, caps[i]? = some av → xs[i]? = some x → Rep (Still A ι w) ι w av x := by
    generalize a.eval g = v at hgr
    cases hgr with
    | clo f caps xs hl hr => exact ⟨xs, rfl, hl, hr⟩
   rw [semAt_plain _ _ _ (by rw [hop]; intro c hc; cases hc)]
   have hexec : (execOp a.eval o).run cx.P w = .ok (.enter g' ((cargs.map a.eval) ++ xs.toArray)) w := by
    unfold execOp
    simp only [hop, resolve, Sem.run_bind, hv, Deferred.ofValue, Sem.run_pure, Result.andThen_ok, invoke]
    rw [run_callFunc h.1]
    simp
   rw [hexec]
   simp only [Oper.uponIn]
   refine ⟨fun hd => by simp [FW, Fence.wide] at hd, ?_⟩
   have hcall' := h.coreF (A := A) (ι := ι) (w := w) (vs := cargs.toList.map a.eval ++ xs) hs hvc hfl hok hh (by simp [hl]) (fun i av x ha hx => by
    rw [List.getElem?_append] at ha hx
    simp only [List.length_map] at ha hx
    split at ha
    ·rename_i hlt
     rw [if_pos hlt] at hx
     obtain ⟨y, hy, rfl⟩ := getElem?_map' ha
     obtain ⟨z, hz, rfl⟩ := getElem?_map' hx
     have : y = z := by rw [hy] at hz; exact Option.some.inj hz
     subst this
     refine hr y ?_
     have := List.mem_of_getElem? hy
     simp only [hop, Op.operands, Call.operands]
     simpa using Or.inr this
    ·rename_i hlt
     rw [if_neg hlt] at hx
     exact hrx _ av x ha hx)
   have he : (cargs.toList.map a.eval ++ xs).toArray = cargs.map a.eval ++ xs.toArray := by
    obtain ⟨l⟩ := cargs
    simp [← List.append_toArray]
   rw [he] at hcall'
   have hin : CallsIn Fence.wide (0 - 1) cx.P g' (cargs.map a.eval ++ xs.toArray) w _ := callsIn_wide.2 hcall'
   have hin2 : CallsIn (FW cx.rnd) (0 - 1) cx.P g' (cargs.map a.eval ++ xs.toArray) w _ := hin
   refine hin2.mono fun e w' he' => ?_
   obtain ⟨v, rfl, h1, h2⟩ := he'
   exact ⟨v, ι, rfl, h1, (h2.mono (fun _ h => h.elim) fun _ h => h.elim), fun p hp => by simp at hp, hf, fun k hk => by cases hk⟩
  ·cases hc
 ·cases hc
end Go.Ab

set_option linter.unusedVariables false
set_option linter.unusedSimpArgs false
namespace Go.Ab
open Go
variable {P : Program} {tt : TT}
theorem make_box_ok (htt : TtOk P tt) {tmps : List (Nat × AV)} {hp : Nat → Option Blk} {nxt : Nat} {o : Oper} {t : TypeId} {l c : Operand} (hp' : o.op = .makeSlice t l c) {e : TypeId} (hd : tdesc tt t = some (.slice e)) {kl kc : IntKind} {n m : Int}
  (hl : evT tmps l = .c (.val (.int kl n))) (hc : evT tmps c = .c (.val (.int kc m))) {z : CV} {by_ : Nat} (hz : tzero tt e = some [z]) (hb : tbytes tt e = some by_) (hk : tsize tt e = some 1)
  (hv : n = m ∧ 0 ≤ n ∧ n ≤ 9223372036854775807 ∧ (by_ : Int) * n ≤ 281474976710656) : Loc P o (evT tmps) hp nxt ⟨some (.osl nxt 0 n.toNat), [(nxt, .box (List.replicate n.toNat (.c z)) e)], [], nxt + 1⟩ := by
 intro A ι w ρ hA hok hf hr hh
 obtain ⟨rfl, h0, hmax, hbytes⟩ := hv
 obtain ⟨inf, zz, hinf, hsz, hby, hzz, hzc⟩ := tinfo htt hk hb
 have hu : P.underlying t = some (.slice e) := by
  unfold tdesc at hd
  cases htt' : tt t with
  | none => rw [htt'] at hd; cases hd
  | some i => rw [htt'] at hd; have := (htt t i htt').1; simp at hd; rw [this, hd]
 have r1 := hr l (by simp [hp', Op.operands])
 have r2 := hr c (by simp [hp', Op.operands])
 rw [hl] at r1
 rw [hc] at r2
 have hrun := run_make (P := P) w t e inf zz hu hinf hzz kl kc n n h0 (Int.le_refl _) (by rw [hby]; exact hbytes) hmax
 obtain ⟨v0, hv0, hvc, hzs, hone⟩ := tzero_ok htt hz w
 have hzv : zz.cells = ([z].map cvVal).toArray := by
  have : (zeroValue e).run P w = .ok zz w := by simp [zeroValue, typeInfo, hinf, hzz]
  rw [this] at hv0
  cases hv0
  exact hvc
 have hst := step_new hok nxt n.toNat (.cells (madeCells zz.cells (n.toNat * inf.size)) e) (fun b => ∃ blk, (b, blk) ∈ [(nxt, Blk.box (List.replicate n.toNat (.c z)) e)]) ((⟨some (.osl nxt 0 n.toNat), [(nxt, .box (List.replicate n.toNat (.c z)) e)], [], nxt + 1⟩ : Eff).kills nxt) (.inr (Nat.le_refl _)) (w' := w.alloc (.cells (madeCells zz.cells (n.toNat * inf.size)) e)) rfl rfl rfl rfl
 refine ⟨.value (.slice (some ⟨w.heap.size, 0, none⟩) n.toNat n.toNat), _, _, ?_, ?_, hst, ?_, ?_, fun k hk => by cases hk⟩
 ·simp only [execOp, hp', r1.valOf rfl, r2.valOf rfl, Sem.run_bind, hrun, Result.andThen_ok, Sem.run_pure]
 ·exact .osl nxt 0 n.toNat w.heap.size n.toNat n.toNat (setPl_same _ _ _) (Nat.le_refl _)
 ·intro p hpm
  simp only [List.mem_singleton] at hpm
  subst hpm
  have hcells : madeCells zz.cells (n.toNat * inf.size) = ((madeCells zz.cells (n.toNat * inf.size)).toList).toArray := by simp
  have e1 : madeCells zz.cells (n.toNat * inf.size) = (Array.range (n.toNat * [z].length)).map fun q => ([z].map cvVal).toArray[q % [z].length]! := by
   unfold madeCells
   rw [hzv, hsz]
   simp
  have hx' : ∀ (i : Nat) (x : Value), (madeCells zz.cells (n.toNat * inf.size)).toList[i]? = some x → x = cvVal z := fun i x hx => by
   have hi : i < n.toNat := by
    have := (List.getElem?_eq_some_iff.1 hx).1
    simpa [size_madeCells, hsz] using this
   have hfl := replicate_flat ([z].map cvVal) n.toNat i 0 hi (by simp)
   rw [e1, Array.getElem?_toList] at hx
   simp only [List.length_map] at hfl
   have e3 : i * [z].length + 0 = i := by simp
   rw [e3, hx] at hfl
   simpa using hfl
  have hz1 := hone z List.mem_cons_self
  refine .box _ e w.heap.size (madeCells zz.cells (n.toNat * inf.size)).toList (by rw [List.length_replicate]; exact setPl_same _ _ _) (by rw [← hcells]; exact heap_alloc_new w _) (by simp [size_madeCells, hsz]) (fun x hx => ?_) fun i av x ha hx => ?_
  ·obtain ⟨i, hi⟩ := List.getElem?_of_mem hx
   rw [hx' i x hi]
   exact (CRep.zero (I := fun _ => False) (w := w) hz1).one
  ·have e2 : av = .c z := List.eq_of_mem_replicate (List.mem_of_getElem? ha)
   subst e2
   rw [hx' i x hx]
   exact .c _ _ (.zero hz1)
 ·intro b hb'
  rw [setPl_other _ _ (by simp at hb'; omega)]
  exact hf b (by simp at hb'; omega)
end Go.Ab
