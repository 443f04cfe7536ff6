/-
  A call of a function whose contract hands new blocks over.
-/
import Derived.Test.YtpfgofnmkaljaaaMg09
set_option linter.unusedVariables false
set_option linter.unusedSimpArgs false
namespace Go.Ab
open Go Go.RowKit
section
variable {A : Nat → Prop} {ι : Pl} {w : World} {heap : List (Nat × Blk)}
theorem snap0_ok {J : Nat → Prop} (hJ : ∀ g, Still A ι w g → J g) (hh : ∀ b blk, look heap b = some blk → BlkRep (Still A ι w) ι w b blk)
  {av : AV} {x : Value} {vc : Prop} {r : AV} (hJι : ∀ b, Men b av → ∀ g c, ι b = some (.at g c) → J g) (h : snap0 heap av = some (vc, r)) (hvc : vc) (hx : Rep (Still A ι w) ι w av x) : Rep J noPl w r x := by
 have hm : ∀ {u : CV}, CRep (Still A ι w) w u x → CRep J w u x := fun hu => hu.mono fun g hg => ⟨hJ g hg, rfl⟩
 unfold snap0 at h
 split at h
 ·split at h
  ·rename_i b k off n k' es ty hl
   cases h
   obtain ⟨rfl, hle⟩ := hvc
   exact .c _ _ (own_closed hJ (fun g c hb => hJι _ (.own ..) g c hb) hx (hh _ _ hl) hle)
  ·cases h
 ·split at h
  ·rename_i b off n _ cells ty hl
   cases hc : closedL cells with
   | none => rw [hc] at h; cases h
   | some us =>
    rw [hc] at h
    cases h
    obtain ⟨hvc, hmn⟩ := hvc
    have hb := hh _ _ hl
    cases hx with
    | osl _ _ _ g cap cc h1 h2 =>
     cases hb with
     | box _ _ g' cur g1 g2 g3 g4 g5 =>
      rw [h1] at g1
      simp only [Option.some.injEq, Plc.at.injEq] at g1
      obtain ⟨rfl, rfl⟩ := g1
      obtain ⟨h3, h4⟩ := closedL_ok hc g3 g5
      have hget : ∀ (i : Nat) e (j : Nat) u, (((us.drop off).take n).map fun u => [u])[i]? = some e → e[j]? = some u → j = 0 ∧ us[off + i]? = some u ∧ i < n := fun i e j u he hu => by
       rw [List.getElem?_map, List.getElem?_take, List.getElem?_drop] at he
       split at he
       ·cases hus : us[off + i]? with
        | none => rw [hus] at he; cases he
        | some u' =>
         rw [hus] at he
         cases he
         cases j with
         | zero => simp at hu; subst hu; exact ⟨rfl, rfl, by assumption⟩
         | succ j => simp at hu
       ·cases he
      have hlen : (((us.drop off).take n).map fun u => [u]).length = n := by
       replace hvc : off + n ≤ us.length := hvc
       rw [List.length_map, List.length_take, List.length_drop]; omega
      have hcell : ∀ (i : Nat), i < us.length → ∃ y, cur[i]? = some y ∧ w.cell? ⟨g, i, none⟩ = some y := fun i hi => by
       have hlt : i < cur.length := by omega
       refine ⟨cur.getD i undef, getD_get hlt, ?_⟩
       rw [cell_of_row w g _ _ ty (0, 0) g2]
       simpa using getD_get (d := undef) hlt
      refine .c _ _ (.sl _ _ _ _ 1 hlen.symm h2 hmn (fun i e he => ?_) (fun _ => ⟨rfl, hJι _ (.osl ..) _ _ h1⟩) (fun i e j u he hu => ?_) (fun i e j u x he hu hx => ?_))
      ·rw [List.getElem?_map] at he
       simp only [Option.map_eq_some_iff] at he
       obtain ⟨u, _, rfl⟩ := he
       rfl
      ·obtain ⟨rfl, h5, h6⟩ := hget i e j u he hu
       obtain ⟨y, _, hy⟩ := hcell (off + i) (List.getElem?_eq_some_iff.1 h5).1
       exact ⟨y, by simpa using hy⟩
      ·obtain ⟨rfl, h5, h6⟩ := hget i e j u he hu
       obtain ⟨y, hy1, hy2⟩ := hcell (off + i) (List.getElem?_eq_some_iff.1 h5).1
       simp only [Nat.mul_one, Nat.add_zero] at hx
       rw [hx] at hy2
       cases hy2
       exact (h4 _ u x h5 hy1).mono fun g hg => ⟨hJ g hg, rfl⟩
  ·cases h
 ·cases h
  cases hx with
  | c _ _ hu => cases hu; exact .c _ _ .nil
 ·cases h
  cases hx with
  | c _ _ hu => exact .c _ _ (hm hu)
 ·cases h
  cases hx with
  | cel _ a hs hI hc hr => exact .cel _ a hs (hJ _ hI) hc fun j u x h1 h2 => (hr j u x h1 h2).mono fun g hg => ⟨hJ g hg, rfl⟩
 ·cases h
  cases hx with
  | clo f caps xs hl hr => exact .clo _ [] xs hl fun i av x ha _ => by simp at ha
 ·cases h
theorem snapC_ok {J : Nat → Prop} (hJ : ∀ g, Still A ι w g → J g) (hh : ∀ b blk, look heap b = some blk → BlkRep (Still A ι w) ι w b blk) :
  ∀ {l : List AV} {vc : Prop} {l' : List AV}, (∀ av ∈ l, ∀ b, Men b av → ∀ g c, ι b = some (.at g c) → J g) → snapC heap l = some (vc, l') → vc →
   l'.length = l.length ∧ ∀ (i : Nat) av' x, l'[i]? = some av' → (∀ av, l[i]? = some av → Rep (Still A ι w) ι w av x) → Rep J noPl w av' x
 | [], vc, l', _, h, hvc => by cases h; exact ⟨rfl, fun i av' x ha => by simp at ha⟩
 | a :: r, vc, l', hm, h, hvc => by
  simp only [snapC] at h
  split at h
  ·rename_i v x vs xs hx hxs
   cases h
   obtain ⟨h1, h2⟩ := snapC_ok hJ hh (fun av hav => hm av (List.mem_cons_of_mem _ hav)) hxs hvc.2
   refine ⟨by simp [h1], fun i av' y ha hr => ?_⟩
   cases i with
   | zero => simp at ha; subst ha; exact snap0_ok hJ hh (hm a List.mem_cons_self) hx hvc.1 (hr a rfl)
   | succ i => exact h2 i av' y (by simpa using ha) fun av hav => hr av (by simpa using hav)
  ·cases h
theorem snapAV_ok {J : Nat → Prop} (hJ : ∀ g, Still A ι w g → J g) (hh : ∀ b blk, look heap b = some blk → BlkRep (Still A ι w) ι w b blk)
  {av : AV} {x : Value} {vc : Prop} {r : AV} (hJι : ∀ b, Men b av → ∀ g c, ι b = some (.at g c) → J g) (h : snapAV heap av = some (vc, r)) (hvc : vc) (hx : Rep (Still A ι w) ι w av x) : Rep J noPl w r x := by
 unfold snapAV at h
 split at h
 ·rename_i cs
  cases hc : snapC heap cs with
  | none => rw [hc] at h; cases h
  | some p =>
   rw [hc] at h
   cases h
   cases hx with
   | agg _ xs hl h1 hr =>
    obtain ⟨h3, h4⟩ := snapC_ok hJ hh (l' := p.2) (fun av hav b hm g c hb => by
     obtain ⟨i, hi⟩ := List.getElem?_of_mem hav
     exact hJι b (.agg cs i av hi hm) g c hb) hc hvc
    exact .agg _ xs (by rw [hl, h3]) h1 fun i av' x ha hx => h4 i av' x ha fun av hav => hr i av x hav hx
 ·exact snap0_ok hJ hh hJι h hvc hx
theorem snapL_ok {J : Nat → Prop} (hJ : ∀ g, Still A ι w g → J g) (hh : ∀ b blk, look heap b = some blk → BlkRep (Still A ι w) ι w b blk) :
  ∀ {l : List AV} {vc : Prop} {l' : List AV}, (∀ av ∈ l, ∀ b, Men b av → ∀ g c, ι b = some (.at g c) → J g) → snapL heap l = some (vc, l') → vc →
   l'.length = l.length ∧ ∀ (i : Nat) av' x, l'[i]? = some av' → (∀ av, l[i]? = some av → Rep (Still A ι w) ι w av x) → Rep J noPl w av' x
 | [], vc, l', _, h, hvc => by cases h; exact ⟨rfl, fun i av' x ha => by simp at ha⟩
 | a :: r, vc, l', hm, h, hvc => by
  simp only [snapL] at h
  split at h
  ·rename_i v x vs xs hx hxs
   cases h
   obtain ⟨h1, h2⟩ := snapL_ok hJ hh (fun av hav => hm av (List.mem_cons_of_mem _ hav)) hxs hvc.2
   refine ⟨by simp [h1], fun i av' y ha hr => ?_⟩
   cases i with
   | zero => simp at ha; subst ha; exact snapAV_ok hJ hh (hm a List.mem_cons_self) hx hvc.1 (hr a rfl)
   | succ i => exact h2 i av' y (by simpa using ha) fun av hav => hr av (by simpa using hav)
  ·cases h
theorem FnO.core {P : Program} {f : FuncId} {args args' : List AV} {blks : List Blk} {r : AV} (h : FnO P f args' blks r) {vc : Prop} (hs : snapL heap args = some (vc, args')) (hvc : vc) (hfl : menLs args = [] ∨ (flatAV r ∧ flatBs blks))
  {nxt : Nat} (hA : ∀ g, w.heap.size ≤ g → A g) (hok : Ok ι w) (hf : ∀ b, nxt ≤ b → ι b = none) (hh : ∀ b blk, look heap b = some blk → BlkRep (Still A ι w) ι w b blk) {vs : List Value} (hl : vs.length = args.length)
  (hr : ∀ (i : Nat) av x, args[i]? = some av → vs[i]? = some x → Rep (Still A ι w) ι w av x) :
  Calls P f vs.toArray w fun e w' => ∃ v ι₂, e = .returned v ∧ Rep (Still A ι₂ w') ι₂ w' (shiftAV nxt r) v ∧
   StepR ι w ι₂ w' (fun b => ∃ blk, (b, blk) ∈ shiftBs nxt 0 blks) ((⟨some (shiftAV nxt r), shiftBs nxt 0 blks, [], nxt + blks.length⟩ : Eff).kills nxt) ∧
   (∀ p ∈ shiftBs nxt 0 blks, BlkRep (Still A ι₂ w') ι₂ w' p.1 p.2) ∧ (∀ b, nxt + blks.length ≤ b → ι₂ b = none) := by
 let J : Nat → Prop := fun g => g < w.heap.size ∧ (menLs args = [] → Still A ι w g)
 have hsn := snapL_ok (J := J) (fun g hg => ⟨hg.1.2, fun _ => hg⟩) hh (fun av hav b hb g c hg => ⟨hok.lt b g c hg, fun h0 => by
  obtain ⟨i, hi⟩ := List.getElem?_of_mem hav
  have := menLs_mem b args i av hi hb
  rw [h0] at this; cases this⟩) hs hvc
 refine (h.2 J w vs (fun g hg => hg.1) (by rw [hl, hsn.1]) fun i av x ha hx => hsn.2 i av x ha fun av' hav' => hr i av' x hav' hx).mono fun e w' he => ?_
 obtain ⟨v, ι', rfl, h1, h2, h3, h4, h4', h5, hbel⟩ := he
 let ι₂ : Pl := ⟨fun b => if b < nxt then ι b else ι' (b - nxt), fun g => match ι.hid g with | some b => some b | none => (ι'.hid g).map (nxt + ·)⟩
 have hbn : ∀ g b, ι.hid g = some b → b < nxt := fun g b hb => Nat.lt_of_not_le fun hle => hok.hlaid g b hb (hf b hle)
 have hh2 : ∀ g b, ι₂.hid g = some b → ι.hid g = some b ∨ ∃ b', ι'.hid g = some b' ∧ b = nxt + b' := fun g b hb => by
  simp only [ι₂] at hb
  cases h1 : ι.hid g with
  | some b1 => rw [h1] at hb; exact .inl hb
  | none =>
   rw [h1] at hb
   simp only [Option.map_eq_some_iff] at hb
   obtain ⟨b', g1, g2⟩ := hb
   exact .inr ⟨b', g1, g2.symm⟩
 have hh3 : ∀ g b, ι'.hid g = some b → ι₂.hid g = some (nxt + b) := fun g b hb => by
  simp only [ι₂]
  cases h1 : ι.hid g with
  | some b1 => have := hok.hlt g b1 h1; have := h4' g b hb; omega
  | none => simp [hb]
 have e2 : ∀ b, ι₂ (nxt + b) = ι' b := fun b => by
  simp only [ι₂]
  rw [if_neg (by omega), show nxt + b - nxt = b by omega]
 have hst : StepR ι w ι₂ w' (fun b => ∃ blk, (b, blk) ∈ shiftBs nxt 0 blks) ((⟨some (shiftAV nxt r), shiftBs nxt 0 blks, [], nxt + blks.length⟩ : Eff).kills nxt) := by
  refine ⟨hbel.os, hbel.tape, hbel.output, hbel.size, fun b hb => ?_, fun b g c hb => ?_, fun g hg _ _ => hbel.block g hg, ⟨fun b b' g c c' g1 g2 => ?_, fun b g c g1 => ?_, fun g b g1 => ?_, fun g b g1 b' c g2 => ?_, fun g b g1 => ?_⟩, fun g b _ _ hb => by simp only [ι₂, hb], fun g b hb => ?_⟩
  ·simp only [ι₂]
   rw [if_pos]
   exact Nat.lt_of_not_le fun hle => hb (.inr hle)
  ·simp only [ι₂] at hb
   split at hb
   ·exact .inl (.inl ⟨b, c, hb⟩)
   ·exact .inr (h4 _ g c hb)
  ·simp only [ι₂] at g1 g2
   split at g1 <;> split at g2
   ·exact hok.inj b b' g c c' g1 g2
   ·have := hok.lt _ _ _ g1; have := h4 _ _ _ g2; omega
   ·have := hok.lt _ _ _ g2; have := h4 _ _ _ g1; omega
   ·have := h5.inj _ _ g c c' g1 g2; omega
  ·simp only [ι₂] at g1
   split at g1
   ·exact Nat.lt_of_lt_of_le (hok.lt b g c g1) hbel.size
   ·exact h5.lt _ g c g1
  ·rcases hh2 g b g1 with g1 | ⟨b', g1, _⟩
   ·exact Nat.lt_of_lt_of_le (hok.hlt g b g1) hbel.size
   ·exact h5.hlt g b' g1
  ·simp only [ι₂] at g2
   rcases hh2 g b g1 with g1 | ⟨b1, g1, _⟩
   ·split at g2
    ·exact hok.hdis g b g1 b' c g2
    ·have := hok.hlt g b g1; have := h4 _ _ _ g2; omega
   ·split at g2
    ·have := hok.lt _ _ _ g2; have := h4' _ _ g1; omega
    ·exact h5.hdis g b1 g1 _ c g2
  ·rcases hh2 g b g1 with q1 | ⟨b1, q1, rfl⟩
   ·simp only [ι₂, if_pos (hbn g b q1)]; exact hok.hlaid g b q1
   ·rw [e2]; exact h5.hlaid g b1 q1
  ·rcases hh2 g b hb with g1 | ⟨b1, g1, _⟩
   ·exact .inl (.inr ⟨b, g1⟩)
   ·exact .inr (h4' g b1 g1)
 have hI : menLs args = [] → ∀ g, Still (fun g => J g ∨ w.heap.size ≤ g) ι' w' g → Still A ι₂ w' g ∧ w'.heap[g]? = w'.heap[g]? := by
  rintro h0 g ⟨⟨⟨hg, hgh⟩, hlt⟩, hn⟩
  refine ⟨⟨⟨⟨?_, ?_⟩, hlt⟩, fun b c hb => ?_⟩, rfl⟩
  ·rcases hg with hg | hg
   ·exact (hg.2 h0).1.1.1
   ·exact hA g hg
  ·cases hb : ι₂.hid g with
   | none => rfl
   | some b =>
    rcases hh2 g b hb with g1 | ⟨b1, g1, _⟩
    ·rcases hg with hg | hg
     ·rw [(hg.2 h0).1.1.2] at g1; cases g1
     ·have := hok.hlt g b g1; omega
    ·rw [hgh] at g1; cases g1
  ·simp only [ι₂] at hb
   split at hb
   ·rcases hg with hg | hg
    ·exact (hg.2 h0).2 b c hb
    ·have := hok.lt _ _ _ hb; omega
   ·exact hn _ c hb
 have hrep : ∀ av x, (flatAV r ∧ flatBs blks → flatAV av) → Rep (Still (fun g => J g ∨ w.heap.size ≤ g) ι' w') ι' w' av x → Rep (Still A ι₂ w') ι₂ w' (shiftAV nxt av) x := by
  intro av x hfa hr
  rcases hfl with h0 | h0
  ·exact (shift_rep (ι₂ := ι₂) (n := nxt) (fun b _ => e2 b) hr).mono (hI h0) fun _ _ => rfl
  ·exact shift_rep (ι₂ := ι₂) (n := nxt) (fun b _ => e2 b) (rep_flat hr (hfa h0))
 refine ⟨v, ι₂, rfl, hrep r v (fun h => h.1) h1, hst, fun p hp => ?_, fun b hb => ?_⟩
 ·obtain ⟨j, blk, hj, rfl⟩ := shiftBs_mem hp
  have hb := h2 j blk hj
  simp only [Nat.zero_add]
  rcases hfl with h0 | h0
  ·exact (shift_blk (ι₂ := ι₂) (n := nxt) (fun b _ => e2 b) hh3 hb).turn (hI h0) rfl (fun _ _ _ => rfl) (fun _ hg => ⟨hg, rfl⟩) fun i av x _ hx => hx.mono (hI h0) fun _ _ => rfl
  ·exact shift_blk (ι₂ := ι₂) (n := nxt) (fun b _ => e2 b) hh3 (blk_flat hb (flatBs_get h0.2 hj))
 ·simp only [ι₂]
  rw [if_neg (by omega)]
  exact h3 _ (by omega)
end
theorem CallK.fresh {cx : Cx} {o : Oper} {s : AState} {f : FuncId} {args args' : List AV} {blks : List Blk} {r : AV} {KK : AState → Prop} {vc : Prop} (h : FnO cx.P f args' blks r) (hs : snapL s.heap args = some (vc, args')) (hvc : vc)
  (hfl : menLs args = [] ∨ (flatAV r ∧ flatBs blks)) (hd : match o.dst with | some t => t < cx.n | none => True)
  (hK : KK (s.apply o ⟨some (shiftAV s.nxt r), shiftBs s.nxt 0 blks, [], s.nxt + blks.length⟩)) : CallK cx o s f args KK := by
 refine ⟨h.1, fun ι a w vs hS hl hr => ?_⟩
 refine (h.core (A := cx.A) hs hvc hfl hS.base.fresh hS.ok hS.free hS.heap hl hr).mono fun e w' he => ?_
 obtain ⟨v, ι₂, rfl, h1, h2, h3, h4⟩ := he
 exact ⟨v, _, ι₂, rfl, hK, hS.apply h2 h3 h4 (fun k hk => by cases hk) h1 (fun t ht => by rw [ht] at hd; exact hd)⟩
theorem FnO.opW {cx : Cx} {o : Oper} {tmps : List (Nat × AV)} {heap : List (Nat × Blk)} {nxt : Nat} {f : FuncId} {args args' : List AV} {blks : List Blk} {r : AV} {vc : Prop} (h : FnO cx.P f args' blks r) (hs : snapL heap args = some (vc, args')) (hvc : vc)
  (hfl : menLs args = [] ∨ (flatAV r ∧ flatBs blks)) (hc : calleeAV tmps o.op = some (f, args)) :
  OpW cx o (evT tmps) (look heap) nxt ⟨some (shiftAV nxt r), shiftBs nxt 0 blks, [], nxt + blks.length⟩ := by
 intro A ι w a hA _ _ hok hf hr hh Q
 refine ⟨about_trivial cx o a w, ?_⟩
 unfold calleeAV at hc
 split at hc
 ·rename_i g cargs ctypes hop
  split at hc
  ·rename_i g' caps hg
   simp only [Option.some.injEq, Prod.mk.injEq] at hc
   obtain ⟨rfl, rfl⟩ := hc
   have hgr := hr g (by simp [hop, Op.operands, Call.operands])
   rw [hg] at hgr
   obtain ⟨xs, hv, hl, hrx⟩ : ∃ xs : List Value, a.eval g = .func (.func g') #[] xs.toArray ∧ xs.length = caps.length ∧ ∀ (i : Nat) av x, caps[i]? = some av → xs[i]? = some x → Rep (Still A ι w) ι w av x := by
    generalize a.eval g = v at hgr
    cases hgr with
    | clo f caps xs hl hr => exact ⟨xs, rfl, hl, hr⟩
   rw [semAt_plain _ _ _ (by rw [hop]; intro c hc; cases hc)]
   have hexec : (execOp a.eval o).run cx.P w = .ok (.enter g' ((cargs.map a.eval) ++ xs.toArray)) w := by
    unfold execOp
    simp only [hop, resolve, Sem.run_bind, hv, Deferred.ofValue, Sem.run_pure, Result.andThen_ok, invoke]
    rw [run_callFunc h.1]
    simp
   rw [hexec]
   simp only [Oper.uponIn]
   refine ⟨fun hd => by simp [FW, Fence.wide] at hd, ?_⟩
   have hcall' := h.core (A := A) (ι := ι) (w := w) (nxt := nxt) (vs := cargs.toList.map a.eval ++ xs) hs hvc hfl hA hok hf hh (by simp [hl]) (fun i av x ha hx => by
    rw [List.getElem?_append] at ha hx
    simp only [List.length_map] at ha hx
    split at ha
    ·rename_i hlt
     rw [if_pos hlt] at hx
     obtain ⟨y, hy, rfl⟩ := getElem?_map' ha
     obtain ⟨z, hz, rfl⟩ := getElem?_map' hx
     have : y = z := by rw [hy] at hz; exact Option.some.inj hz
     subst this
     refine hr y ?_
     have := List.mem_of_getElem? hy
     simp only [hop, Op.operands, Call.operands]
     simpa using Or.inr this
    ·rename_i hlt
     rw [if_neg hlt] at hx
     exact hrx _ av x ha hx)
   have he : (cargs.toList.map a.eval ++ xs).toArray = cargs.map a.eval ++ xs.toArray := by
    obtain ⟨l⟩ := cargs
    simp [← List.append_toArray]
   rw [he] at hcall'
   have hin : CallsIn Fence.wide (0 - 1) cx.P g' (cargs.map a.eval ++ xs.toArray) w _ := callsIn_wide.2 hcall'
   have hin2 : CallsIn (FW cx.rnd) (0 - 1) cx.P g' (cargs.map a.eval ++ xs.toArray) w _ := hin
   refine hin2.mono fun e w' he' => ?_
   obtain ⟨v, ι₂, rfl, h1, h2, h3, h4⟩ := he'
   exact ⟨v, ι₂, rfl, h1, h2, h3, h4, fun k hk => by cases hk⟩
  ·cases hc
 ·cases hc
end Go.Ab
