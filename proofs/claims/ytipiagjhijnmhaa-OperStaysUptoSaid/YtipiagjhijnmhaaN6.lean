/-
  Pointers lent to be read: the function sees the cells as they stand. A pointer to closed cells is not nil.
-/
import Derived.Test.YtipiagjhijnmhaaB6
import Derived.Test.YtipiagjhijnmhaaN1
import Derived.Test.YtipiagjhijnmhaaA10
set_option linter.unusedVariables false
set_option linter.unusedSimpArgs false
namespace Go.Ab
open Go Go.RowKit

theorem spec_celnil {cx : Cx} {o : Oper} {KK : AState → Prop} {s : AState} {t t' e : TypeId} {x : Operand} {cs : List CV} (htt : TtOk cx.P cx.tt) (hp : o.op = .binOp .eql t x (.const (.pointer none)) t') (hx : evT s.tmps x = .cel cs) (hd : tdesc cx.tt t = some (.pointer e))
    (hdst : match o.dst with | some t => t < cx.n | none => True) (hK : KK (s.apply o ⟨some (.c (.val (.bool false))), [], [], s.nxt⟩)) : SpecK cx o KK s := by
  intro ι a w next Q hs hn
  refine ⟨about_trivial cx o a w, ?_⟩
  rw [semAt_plain _ _ _ (by rw [hp]; simp)]
  have hr := hs.ev x
  rw [hx] at hr
  generalize hv : a.eval x = v at hr
  cases hr with
  | cel _ ad _ _ _ _ =>
    have he : a.eval (.const (.pointer none)) = .pointer none := rfl
    have hrun : (execOp a.eval o).run cx.P w = .ok (.value (.bool false)) w := by
      have hg : (eqGuard .eql t x (.const (.pointer none)) (.pointer (some ad)) (.pointer none)).run cx.P w = .ok () w := by
        unfold eqGuard
        simp
      simp only [execOp, hp, hv, he, Sem.run_bind, hg, Result.andThen_ok, binOp, eq_ptrnil (htt.desc hd w), Sem.run_pure]
    rw [hrun]
    simp only [Oper.uponIn]
    exact hn _ ι _ w hK (hs.put0 (.c _ _ (.val _ rfl)) hdst)

/-- What is lent to be read: a pointer to a box is one to its cells as they stand. -/
def snapP (heap : List (Nat × Blk)) : AV → Option (Prop × AV)
  | .ptr b off => match look heap b with
    | some (.box cells _) => match snapC heap (cells.drop off) with
      | some (v, xs) => (closedL xs).map fun us => (v, .cel us)
      | none => none
    | _ => none
  | av => snapAV heap av
def snapPL (heap : List (Nat × Blk)) : List AV → Option (Prop × List AV)
  | [] => some (True, [])
  | a :: r => match snapP heap a, snapPL heap r with
    | some (v, x), some (vs, xs) => some (v ∧ vs, x :: xs)
    | _, _ => none

section
variable {A : Nat → Prop} {ι : Pl} {w : World} {heap : List (Nat × Blk)}
theorem snapP_ok {J : Nat → Prop} (hJ : ∀ g, Still A ι w g → J g) (hJι : ∀ b g c, ι b = some (.at g c) → J g) (hh : ∀ b blk, look heap b = some blk → BlkRep (Still A ι w) ι w b blk)
    {av : AV} {x : Value} {vc : Prop} {r : AV} (h : snapP heap av = some (vc, r)) (hvc : vc) (hx : Rep (Still A ι w) ι w av x) : Rep J noPl w r x := by
  unfold snapP at h
  split at h
  · split at h
    · rename_i b off _ cells ty hl
      split at h
      · rename_i v xs hs
        cases hc : closedL xs with
        | none => rw [hc] at h; cases h
        | some us =>
          rw [hc] at h
          cases h
          cases hx with
          | ptr _ _ g cap hι =>
            have hb := hh _ _ hl
            cases hb with
            | box _ _ g' cur h1 h2 h3 h4 h5 =>
              rw [hι] at h1
              simp only [Option.some.injEq, Plc.at.injEq] at h1
              obtain ⟨rfl, rfl⟩ := h1
              obtain ⟨k1, k2⟩ := snapC_ok (A := A) (J := J) hJ hh (l := cells.drop off) (fun av hav b' hm g'' c hb' => hJι b' g'' c hb') hs hvc
              have hlen : (cur.drop off).length = xs.length := by rw [k1, List.length_drop, List.length_drop, h3]
              obtain ⟨q1, q2⟩ := closedL_ok (I := J) (ι := noPl) (w := w) hc hlen fun i av y ha hy => k2 i av y ha fun av' hav' => by
                rw [List.getElem?_drop] at hav' hy
                exact h5 _ av' y hav' hy
              have hcell : ∀ (j : Nat) (u : CV), us[j]? = some u → ∃ y, (cur.drop off)[j]? = some y ∧ w.cell? ⟨g, off + j, none⟩ = some y := fun j u hu => by
                have hj : j < (cur.drop off).length := by rw [hlen, ← q1]; exact (List.getElem?_eq_some_iff.1 hu).1
                have hg := List.getElem?_eq_getElem hj
                refine ⟨_, hg, ?_⟩
                rw [cell_of_row w g _ _ ty (0, 0) h2]
                simp
              refine .cel us ⟨g, off, none⟩ rfl (hJι _ _ _ hι) (fun j u hu => ?_) fun j u y hu hy => ?_
              · obtain ⟨y, _, h7⟩ := hcell j u hu
                exact ⟨y, h7⟩
              · obtain ⟨y', h6, h7⟩ := hcell j u hu
                rw [hy] at h7
                cases h7
                exact q2 j u y hu h6
      · cases h
    · cases h
  · exact snapAV_ok hJ hh (fun b _ g c hb => hJι b g c hb) h hvc hx
theorem snapPL_ok {J : Nat → Prop} (hJ : ∀ g, Still A ι w g → J g) (hJι : ∀ b g c, ι b = some (.at g c) → J g) (hh : ∀ b blk, look heap b = some blk → BlkRep (Still A ι w) ι w b blk) :
    ∀ {l : List AV} {vc : Prop} {l' : List AV}, snapPL heap l = some (vc, l') → vc →
      l'.length = l.length ∧ ∀ (i : Nat) av' x, l'[i]? = some av' → (∀ av, l[i]? = some av → Rep (Still A ι w) ι w av x) → Rep J noPl w av' x
  | [], vc, l', h, hvc => by cases h; exact ⟨rfl, fun i av' x ha => by simp at ha⟩
  | a :: r, vc, l', h, hvc => by
    simp only [snapPL] at h
    split at h
    · rename_i v x vs xs hx hxs
      cases h
      obtain ⟨h1, h2⟩ := snapPL_ok hJ hJι hh hxs hvc.2
      refine ⟨by simp [h1], fun i av' y ha hr => ?_⟩
      cases i with
      | zero => simp at ha; subst ha; exact snapP_ok hJ hJι hh hx hvc.1 (hr a rfl)
      | succ i => exact h2 i av' y (by simpa using ha) fun av hav => hr av (by simpa using hav)
    · cases h

/-- What a call with such a contract does: it turns nothing. -/
theorem FnP.coreP {P : Program} {f : FuncId} {args args' : List AV} {r : AV} (h : FnP P f args' r) {vc : Prop} (hs : snapPL heap args = some (vc, args')) (hvc : vc) (hfl : flatAV r)
    (hok : Ok ι w) (hh : ∀ b blk, look heap b = some blk → BlkRep (Still A ι w) ι w b blk) {vs : List Value} (hl : vs.length = args.length)
    (hr : ∀ (i : Nat) av x, args[i]? = some av → vs[i]? = some x → Rep (Still A ι w) ι w av x) :
    Calls P f vs.toArray w fun e w' => ∃ v, e = .returned v ∧ Rep (Still A ι w') ι w' r v ∧ StepR ι w ι w' (fun _ => False) (fun _ => False) := by
  let J : Nat → Prop := fun g => g < w.heap.size
  have hsn := snapPL_ok (J := J) (fun g hg => hg.1.2) (fun b g c hb => hok.lt b g c hb) hh hs hvc
  refine (h.2 J w vs (fun g hg => hg) (by rw [hl, hsn.1]) fun i av x ha hx => hsn.2 i av x ha fun av' hav' => hr i av' x hav' hx).mono fun e w' he => ?_
  obtain ⟨v, rfl, h1, hbel⟩ := he
  exact ⟨v, rfl, (rep_flat (I' := Still A ι w') h1 hfl).mono (fun g hg => ⟨hg, rfl⟩) fun b hb => absurd rfl (h1.men b hb), ⟨hbel.os, hbel.tape, hbel.output, hbel.size, fun _ _ => rfl, fun b g c hb => .inl ⟨b, c, hb⟩, fun g hg _ => hbel.block g hg, ⟨hok.inj, fun b g c hb => Nat.lt_of_lt_of_le (hok.lt b g c hb) hbel.size⟩⟩⟩
end

/-- A call that only reads what its pointers lead to. -/
theorem CallK.look {cx : Cx} {o : Oper} {s : AState} {f : FuncId} {args args' : List AV} {r : AV} {KK : AState → Prop} {vc : Prop} (h : FnP cx.P f args' r) (hs : snapPL s.heap args = some (vc, args')) (hvc : vc) (hfl : flatAV r)
    (hd : match o.dst with | some t => t < cx.n | none => True) (hK : KK (s.apply o ⟨some r, [], [], s.nxt⟩)) : CallK cx o s f args KK := by
  refine ⟨h.1, fun ι a w vs hS hl hr => ?_⟩
  refine (h.coreP (A := cx.A) hs hvc hfl hS.ok hS.heap hl hr).mono fun e w' he => ?_
  obtain ⟨v, rfl, h1, h2⟩ := he
  exact ⟨v, _, ι, rfl, hK, hS.apply (e := ⟨some r, [], [], s.nxt⟩) ⟨h2.os, h2.tape, h2.output, h2.size, fun b _ => h2.keep b (fun h => h), h2.fresh, fun g hg _ => h2.block g hg fun b c h => h.elim, h2.ok⟩ (fun p hp => by simp at hp) hS.free (fun k hk => by cases hk) h1 (fun t ht => by rw [ht] at hd; exact hd)⟩

/-- The same in whatever order. -/
theorem FnP.opL {cx : Cx} {o : Oper} {tmps : List (Nat × AV)} {heap : List (Nat × Blk)} {nxt : Nat} {f : FuncId} {args args' : List AV} {r : AV} {vc : Prop} (h : FnP cx.P f args' r) (hs : snapPL heap args = some (vc, args')) (hvc : vc) (hfl : flatAV r)
    (hc : calleeAV tmps o.op = some (f, args)) : OpW cx o (evT tmps) (look heap) nxt ⟨some r, [], [], nxt⟩ := by
  intro A ι w a hA _ hok hf hr hh Q
  refine ⟨about_trivial cx o a w, ?_⟩
  unfold calleeAV at hc
  split at hc
  · rename_i g cargs ctypes hop
    split at hc
    · rename_i g' caps hg
      simp only [Option.some.injEq, Prod.mk.injEq] at hc
      obtain ⟨rfl, rfl⟩ := hc
      have hgr := hr g (by simp [hop, Op.operands, Call.operands])
      rw [hg] at hgr
      obtain ⟨xs, hv, hl, hrx⟩ : ∃ xs : List Value, a.eval g = .func (.func g') #[] xs.toArray ∧ xs.length = caps.length ∧ ∀ (i : Nat) av x, caps[i]? = some av → xs[i]? = some x → Rep (Still A ι w) ι w av x := by
        generalize a.eval g = v at hgr
        cases hgr with
        | clo f caps xs hl hr => exact ⟨xs, rfl, hl, hr⟩
      rw [semAt_plain _ _ _ (by rw [hop]; intro c hc; cases hc)]
      have hexec : (execOp a.eval o).run cx.P w = .ok (.enter g' ((cargs.map a.eval) ++ xs.toArray)) w := by
        unfold execOp
        simp only [hop, resolve, Sem.run_bind, hv, Deferred.ofValue, Sem.run_pure, Result.andThen_ok, invoke]
        rw [run_callFunc h.1]
        simp
      rw [hexec]
      simp only [Oper.uponIn]
      refine ⟨fun hd => by simp [FW, Fence.wide] at hd, ?_⟩
      have hcall' := h.coreP (A := A) (ι := ι) (w := w) (vs := cargs.toList.map a.eval ++ xs) hs hvc hfl hok hh (by simp [hl]) (fun i av x ha hx => by
        rw [List.getElem?_append] at ha hx
        simp only [List.length_map] at ha hx
        split at ha
        · rename_i hlt
          rw [if_pos hlt] at hx
          obtain ⟨y, hy, rfl⟩ := getElem?_map' ha
          obtain ⟨z, hz, rfl⟩ := getElem?_map' hx
          have : y = z := by rw [hy] at hz; exact Option.some.inj hz
          subst this
          refine hr y ?_
          have := List.mem_of_getElem? hy
          simp only [hop, Op.operands, Call.operands]
          simpa using Or.inr this
        · rename_i hlt
          rw [if_neg hlt] at hx
          exact hrx _ av x ha hx)
      have he : (cargs.toList.map a.eval ++ xs).toArray = cargs.map a.eval ++ xs.toArray := by
        obtain ⟨l⟩ := cargs
        simp [← List.append_toArray]
      rw [he] at hcall'
      have hin : CallsIn Fence.wide (0 - 1) cx.P g' (cargs.map a.eval ++ xs.toArray) w _ := callsIn_wide.2 hcall'
      have hin2 : CallsIn (FW cx.rnd) (0 - 1) cx.P g' (cargs.map a.eval ++ xs.toArray) w _ := hin
      refine hin2.mono fun e w' he' => ?_
      obtain ⟨v, rfl, h1, h2⟩ := he'
      exact ⟨v, ι, rfl, h1, ⟨h2.os, h2.tape, h2.output, h2.size, fun b _ => h2.keep b (fun h => h), h2.fresh, fun g hg _ => h2.block g hg fun b c h => h.elim, h2.ok⟩, fun p hp => by simp at hp, hf, fun k hk => by cases hk⟩
    · cases hc
  · cases hc
end Go.Ab
