/-
  Regions whose order is drawn: the operations are reckoned once, in the text's order; those that meet in a slot or a block must be ordered by what is known of them; then every order comes to the same. Theorems for any program.
-/
import Derived.Test.YtpfgofnmkaljaaaMg04
import Derived.OrdersIn
set_option linter.unusedVariables false
set_option linter.unusedSimpArgs false
namespace Go.Ab
open Go
def OpW (cx : Cx) (o : Oper) (ev : Operand → AV) (hp : Nat → Option Blk) (nxt : Nat) (e : Eff) : Prop :=
 ∀ (A : Nat → Prop) (ι : Pl) (w : World) (a : Act), (∀ g, w.heap.size ≤ g → A g) → (∀ b g c, ι b = some (.at g c) → A g) → (∀ g b, ι.hid g = some b → A g) → Ok ι w → (∀ b, nxt ≤ b → ι b = none) → (∀ x ∈ o.op.operands, Rep (Still A ι w) ι w (ev x) (a.eval x)) →
  (∀ b blk, hp b = some blk → BlkRep (Still A ι w) ι w b blk) → ∀ Q : Post,
  o.wpIn (FW cx.rnd) 0 cx.P a w (fun a' w' => ∃ v ι', a' = a.put o.dst v ∧ Rep (Still A ι' w') ι' w' (e.res.getD (.tup [])) v ∧
   StepR ι w ι' w' (fun b => ∃ blk, (b, blk) ∈ e.wr) (e.kills nxt) ∧ (∀ p ∈ e.wr, BlkRep (Still A ι' w') ι' w' p.1 p.2) ∧ (∀ b, e.next ≤ b → ι' b = none) ∧ (∀ k, k ∈ e.kill → ∃ blk, (k, blk) ∈ e.wr)) Q
theorem Loc.opW {cx : Cx} {o : Oper} {ev : Operand → AV} {hp : Nat → Option Blk} {nxt : Nat} {e : Eff} (h : Loc cx.P o ev hp nxt e) (hnd : ∀ c, o.op ≠ .defer c) : OpW cx o ev hp nxt e := by
 intro A ι w a hA _ _ hok hf hr hh Q
 refine ⟨about_trivial cx o a w, ?_⟩
 rw [semAt_plain _ _ _ hnd]
 obtain ⟨nx, ι', w', hrun, hres, hst, hwr, hfr, hkw⟩ := h A ι w a.eval hA hok hf hr hh
 rw [hrun]
 cases hres' : e.res with
 | some av =>
  rw [hres'] at hres
  cases nx <;> simp only at hres
  rename_i v
  simp only [Oper.uponIn]
  exact ⟨v, ι', rfl, hres, hst, hwr, hfr, hkw⟩
 | none =>
  rw [hres'] at hres
  cases nx <;> simp only at hres
  simp only [Oper.uponIn]
  exact ⟨undef, ι', rfl, .tup [] [] rfl (fun i av x ha _ => by simp at ha), hst, hwr, hfr, hkw⟩
theorem FnP.opW {cx : Cx} {o : Oper} {tmps : List (Nat × AV)} {hp : Nat → Option Blk} {nxt : Nat} {f : FuncId} {args : List AV} {r : AV} (h : FnP cx.P f args r) (hcl : ∀ av ∈ args, ∀ b, ¬ Men b av) (hc : calleeAV tmps o.op = some (f, args)) :
  OpW cx o (evT tmps) hp nxt ⟨some r, [], [], nxt⟩ := by
 intro A ι w a hA _ _ hok hf hr hh Q
 refine ⟨about_trivial cx o a w, ?_⟩
 unfold calleeAV at hc
 split at hc
 ·rename_i g cargs ctypes hop
  split at hc
  ·rename_i g' caps hg
   simp only [Option.some.injEq, Prod.mk.injEq] at hc
   obtain ⟨rfl, rfl⟩ := hc
   have hgr := hr g (by simp [hop, Op.operands, Call.operands])
   rw [hg] at hgr
   obtain ⟨xs, hv, hl, hrx⟩ : ∃ xs : List Value, a.eval g = .func (.func g') #[] xs.toArray ∧ xs.length = caps.length ∧ ∀ (i : Nat) av x, caps[i]? = some av → xs[i]? = some x → Rep (Still A ι w) ι w av x := by
    generalize a.eval g = v at hgr
    cases hgr with
    | clo f caps xs hl hr => exact ⟨xs, rfl, hl, hr⟩
   rw [semAt_plain _ _ _ (by rw [hop]; intro c hc; cases hc)]
   have hexec : (execOp a.eval o).run cx.P w = .ok (.enter g' ((cargs.map a.eval) ++ xs.toArray)) w := by
    unfold execOp
    simp only [hop, resolve, Sem.run_bind, hv, Deferred.ofValue, Sem.run_pure, Result.andThen_ok, invoke]
    rw [run_callFunc h.1]
    simp
   rw [hexec]
   simp only [Oper.uponIn]
   refine ⟨fun hd => by simp [FW, Fence.wide] at hd, ?_⟩
   have hcall' := h.2 (Still A ι w) w (cargs.toList.map a.eval ++ xs) (fun g hg => hg.1.2) (by simp [hl]) (fun i av x ha hx => by
    refine Rep.mono (I := Still A ι w) (ι := ι) (w := w) (fun g hg => ⟨hg, rfl⟩) ?_ fun b hb => absurd hb (hcl av (List.mem_of_getElem? ha) b)
    rw [List.getElem?_append] at ha hx
    simp only [List.length_map] at ha hx
    split at ha
    ·rename_i hlt
     rw [if_pos hlt] at hx
     obtain ⟨y, hy, rfl⟩ := getElem?_map' ha
     obtain ⟨z, hz, rfl⟩ := getElem?_map' hx
     have : y = z := by rw [hy] at hz; exact Option.some.inj hz
     subst this
     refine hr y ?_
     have := List.mem_of_getElem? hy
     simp only [hop, Op.operands, Call.operands]
     simpa using Or.inr this
    ·rename_i hlt
     rw [if_neg hlt] at hx
     exact hrx _ av x ha hx)
   have he : (cargs.toList.map a.eval ++ xs).toArray = cargs.map a.eval ++ xs.toArray := by
    obtain ⟨l⟩ := cargs
    simp [← List.append_toArray]
   rw [he] at hcall'
   have hin : CallsIn Fence.wide (0 - 1) cx.P g' (cargs.map a.eval ++ xs.toArray) w _ := callsIn_wide.2 hcall'
   have hin2 : CallsIn (FW cx.rnd) (0 - 1) cx.P g' (cargs.map a.eval ++ xs.toArray) w _ := hin
   refine hin2.mono fun e w' he' => ?_
   obtain ⟨v, rfl, hrep, hbel⟩ := he'
   have hst : StepR ι w ι w' (fun b => ∃ blk, (b, blk) ∈ ([] : List (Nat × Blk))) ((⟨some r, [], [], nxt⟩ : Eff).kills nxt) :=
    StepO.R ⟨hbel.os, hbel.tape, hbel.output, hbel.size, fun _ _ => rfl, fun b g c hb => .inl ⟨b, c, hb⟩, fun g hg _ => hbel.block g hg, hok.grow hbel.size⟩ rfl
   refine ⟨v, ι, rfl, ?_, hst, fun p hp => by simp at hp, hf, fun k hk => by cases hk⟩
   have hmen : ∀ b, Men b r → False := fun b hb => hrep.men b hb rfl
   refine hrep.mono (fun g hg => ⟨?_, rfl⟩) fun b hb => (hmen b hb).elim
   rcases hg with ⟨hg | hg, hlt⟩
   ·exact ⟨⟨hg.1.1, hlt⟩, hg.2⟩
   ·exact still_new hok (hA g hg) hg hlt
  ·cases hc
 ·cases hc
def skipEff (nxt : Nat) : Eff := ⟨some (.tup []), [], [], nxt⟩
structure Tr (cx : Cx) (ops : Array Oper) (s : Nat → AState) (e : Nat → Eff) (on : Nat → Bool) (rd0 rd anc : Nat → List Nat) : Prop where
 step : ∀ (i : Nat) (o : Oper), ops[i]? = some o → s (i + 1) = (s i).apply o (e i)
 dst : ∀ (i : Nat) (o : Oper) t, ops[i]? = some o → o.dst = some t → t < cx.n
 op : ∀ (i : Nat) (o : Oper), ops[i]? = some o → on i = true → OpW cx o (evT (s i).tmps) (fun b => bif (rd0 i).contains b then look (s i).heap b else none) (s i).nxt (e i)
 off : ∀ (i : Nat) (o : Oper), ops[i]? = some o → on i = false → e i = skipEff (s i).nxt
 want : ∀ (i : Nat) (o : Oper), ops[i]? = some o → (o.guard = none ∧ on i = true) ∨ ∃ j want, o.guard = some (j, want) ∧ ((∃ b, yAV ops (s i).tmps j = .c (.val (.bool b)) ∧ on i = (b == want)) ∨ (yAV ops (s i).tmps j = .tup [] ∧ on i = false))
 edge : ∀ (i : Nat) (o : Oper), ops[i]? = some o → ∀ x ∈ o.after, Region.binds .any x = true → x.on < i
 ancs : ∀ (i : Nat) (o : Oper), ops[i]? = some o → ∀ p ∈ anc i, ∃ x ∈ o.after, Region.binds .any x = true ∧ (p = x.on ∨ p ∈ anc x.on)
 dist : ∀ (p q : Nat) (op oq : Oper) (d : Tmp), p < q → ops[p]? = some op → ops[q]? = some oq → op.dst = some d → oq.dst ≠ some d
 c1 : ∀ (p q : Nat) (op oq : Oper) (d : Tmp), p < q → ops[p]? = some op → ops[q]? = some oq → op.dst = some d → d ∈ oq.looksAt ops → p ∈ anc q
 c2 : ∀ (p q : Nat) (op oq : Oper) (d : Tmp), p < q → ops[p]? = some op → ops[q]? = some oq → oq.dst = some d → d ∈ op.looksAt ops → p ∈ anc q
 c3 : ∀ (p q : Nat) (op oq : Oper) (b : Nat) (blk : Blk), p < q → ops[p]? = some op → ops[q]? = some oq → (b, blk) ∈ (e p).wr → (b ∈ rd q ∨ ∃ blk', (b, blk') ∈ (e q).wr) → p ∈ anc q
 c4 : ∀ (p q : Nat) (op oq : Oper) (b : Nat) (blk : Blk), p < q → ops[p]? = some op → ops[q]? = some oq → (b, blk) ∈ (e q).wr → b ∈ rd p → p ∈ anc q
 rd0M : ∀ (i : Nat) (o : Oper) x b, ops[i]? = some o → x ∈ o.op.operands → Men b (evT (s i).tmps x) → b ∈ rd i
 ltM : ∀ (i : Nat) (o : Oper) x b, ops[i]? = some o → x ∈ o.op.operands → Men b (evT (s i).tmps x) → b < (s i).nxt
 sub : ∀ (i : Nat) (o : Oper) b, ops[i]? = some o → b ∈ rd0 i → b ∈ rd i
 rdB : ∀ (i : Nat) (o : Oper) b blk (k : Nat) av b', ops[i]? = some o → b ∈ rd0 i → look (s i).heap b = some blk → blk.avs[k]? = some av → Men b' av → b' ∈ rd i
 rdR : ∀ (i : Nat) (o : Oper) av b, ops[i]? = some o → (e i).res = some av → Men b av → b ∈ rd i
 rdW : ∀ (i : Nat) (o : Oper) b blk (k : Nat) av b', ops[i]? = some o → (b, blk) ∈ (e i).wr → blk.avs[k]? = some av → Men b' av → b' ∈ rd i
 lt : ∀ (i : Nat) (o : Oper) b, ops[i]? = some o → b ∈ rd0 i → b < (s i).nxt
 ltB : ∀ (i : Nat) (o : Oper) b blk (k : Nat) av b', ops[i]? = some o → b ∈ rd0 i → look (s i).heap b = some blk → blk.avs[k]? = some av → Men b' av → b' < (s i).nxt
 nx : ∀ (i : Nat) (o : Oper), ops[i]? = some o → (s i).nxt ≤ (e i).next
 kl : ∀ (i : Nat) (o : Oper) k, ops[i]? = some o → k ∈ (e i).kill → (∃ x ∈ o.op.operands, Men k (evT (s i).tmps x)) ∨ ∃ (b : Nat) (blk : Blk) (q : Nat) (av : AV), b ∈ rd0 i ∧ look (s i).heap b = some blk ∧ blk.avs[q]? = some av ∧ Men k av
structure InvD (cx : Cx) (ops : Array Oper) (s : Nat → AState) (e : Nat → Eff) (rd0 : Nat → List Nat) (L : Nat → Bool) (ι : Pl) (a : Act) (w : World) : Prop where
 ok : Ok ι w
 defers : Marks cx.w0.heap.size ι (a.defers ++ cx.eds) w
 size : a.tmps.size = cx.n
 base : Base cx ι w
 high : ∀ b, (s ops.size).nxt ≤ b → ι b = none
 free : ∀ i, i < ops.size → L i = false → ∀ b, (s i).nxt ≤ b → b < (e i).next → ι b = none
 tmps : ∀ i t, i ≤ ops.size → (∀ o, ops[i]? = some o → L i = false ∧ t ∈ o.looksAt ops) → (∀ (p : Nat) (o : Oper), p < i → ops[p]? = some o → o.dst = some t → L p = true) → ∀ av, look (s i).tmps t = some av → Rep (Still cx.A ι w) ι w av (a.tmps.getD t undef)
 heap : ∀ i b, i ≤ ops.size → (∀ o, ops[i]? = some o → L i = false ∧ b ∈ rd0 i) → (∀ p blk, p < i → (b, blk) ∈ (e p).wr → L p = true) → ∀ blk, look (s i).heap b = some blk → BlkRep (Still cx.A ι w) ι w b blk
section
variable {cx : Cx} {ops : Array Oper} {s : Nat → AState} {e : Nat → Eff} {on : Nat → Bool} {rd0 rd anc : Nat → List Nat}
theorem Tr.closed (T : Tr cx ops s e on rd0 rd anc) {L : Nat → Bool} (hcl : ∀ (i : Nat) (o : Oper), ops[i]? = some o → L i = true → ∀ x ∈ o.after, Region.binds .any x = true → L x.on = true)
  : ∀ (i : Nat) (o : Oper), ops[i]? = some o → (∀ x ∈ o.after, Region.binds .any x = true → L x.on = true) → ∀ p ∈ anc i, L p = true := by
 intro i
 induction i using Nat.strongRecOn with
 | _ i ih =>
  intro o ho hall p hp
  obtain ⟨x, hx, hb, h⟩ := T.ancs i o ho p hp
  rcases h with rfl | h
  ·exact hall x hx hb
  ·have hlt := T.edge i o ho x hx hb
   have hsz : x.on < ops.size := Nat.lt_trans hlt (Array.getElem?_eq_some_iff.1 ho).1
   have hox : ops[x.on]? = some ops[x.on] := Array.getElem?_eq_getElem hsz
   exact ih x.on hlt _ hox (hcl x.on _ hox (hall x hx hb)) p h
inductive Kld : AV → AV → Prop
 | refl (av) : Kld av av
 | step (av av') (k) : Kld av av' → Kld av (killAV k av')
theorem Kld.men {av av' : AV} (h : Kld av av') {b : Nat} (hm : Men b av') : Men b av := by
 induction h with
 | refl => exact hm
 | step _ _ _ ih => exact ih (men_killAV hm)
theorem Kld.rep {av av' : AV} (h : Kld av av') {I : Nat → Prop} {ι : Pl} {w : World} {x : Value} (hr : Rep I ι w av x) : Rep I ι w av' x := by
 induction h with
 | refl => exact hr
 | step _ k _ ih => exact ih.killAV k
inductive KldB : Blk → Blk → Prop
 | refl (b) : KldB b b
 | step (b b') (k) : KldB b b' → KldB b (killB k b')
theorem KldB.men {x y : Blk} (h : KldB x y) {k : Nat} {av : AV} {b : Nat} (hk : y.avs[k]? = some av) (hm : Men b av) : ∃ av', x.avs[k]? = some av' ∧ Men b av' := by
 induction h generalizing av with
 | refl => exact ⟨av, hk, hm⟩
 | step y k' _ ih =>
  rw [avs_killB] at hk
  obtain ⟨z, hz, rfl⟩ := getElem?_map' hk
  exact ih hz (men_killAV hm)
theorem KldB.rep {x y : Blk} (h : KldB x y) {I : Nat → Prop} {ι : Pl} {w : World} {b : Nat} (hr : BlkRep I ι w b x) : BlkRep I ι w b y := by
 induction h with
 | refl => exact hr
 | step _ k _ ih => exact killB_rep ih
theorem kld_kills {av : AV} : ∀ (ks : List Nat) (av' : AV), Kld av av' → Kld av (killsAV ks av')
 | [], _, h => h
 | k :: ks, av', h => .step _ _ k (kld_kills ks av' h)
theorem kldB_kills {x : Blk} : ∀ (ks : List Nat) (y : Blk), KldB x y → KldB x (killsB ks y)
 | [], _, h => h
 | k :: ks, y, h => .step _ _ k (kldB_kills ks y h)
theorem look_putT_ne {d : Option Tmp} {t : Nat} {av : AV} {l : List (Nat × AV)} (h : d ≠ some t) : look (putT d av l) t = look l t := by
 cases d with
 | none => rfl
 | some d =>
  have : (d == t) = false := by simpa using fun e : d = t => h (by rw [e])
  simp [putT, look, this]
theorem look_putT_eq {t : Nat} {av : AV} {l : List (Nat × AV)} : look (putT (some t) av l) t = some av := by simp [putT, look]
theorem Tr.between (T : Tr cx ops s e on rd0 rd anc) {t : Nat} (p : Nat) : ∀ q, p ≤ q → q ≤ ops.size → (∀ (r : Nat) (o : Oper), p ≤ r → r < q → ops[r]? = some o → o.dst ≠ some t) → ∀ av, look (s q).tmps t = some av → ∃ av0, look (s p).tmps t = some av0 ∧ Kld av0 av
 | 0, hpq, _, _, av, h => by
  have : p = 0 := by omega
  subst this
  exact ⟨av, h, .refl av⟩
 | q + 1, hpq, hsz, hw, av, h => by
  by_cases heq : p = q + 1
  ·subst heq; exact ⟨av, h, .refl av⟩
  have hq : ops[q]? = some ops[q] := Array.getElem?_eq_getElem (by omega)
  rw [T.step q _ hq, AState.apply, look_putT_ne (hw q _ (by omega) (by omega) hq), look_killT] at h
  simp only [Option.map_eq_some_iff] at h
  obtain ⟨av1, h1, h2⟩ := h
  obtain ⟨av0, h3, h4⟩ := T.between p q (by omega) (by omega) (fun r o h1 h2 => hw r o h1 (by omega)) av1 h1
  refine ⟨av0, h3, ?_⟩
  subst h2
  exact kld_kills _ _ h4
theorem Tr.betweenB (T : Tr cx ops s e on rd0 rd anc) {b : Nat} (p : Nat) : ∀ q, p ≤ q → q ≤ ops.size → (∀ r blk, p ≤ r → r < q → (b, blk) ∉ (e r).wr) → ∀ x, look (s q).heap b = some x → ∃ x0, look (s p).heap b = some x0 ∧ KldB x0 x
 | 0, hpq, _, _, x, h => by
  have : p = 0 := by omega
  subst this
  exact ⟨x, h, .refl x⟩
 | q + 1, hpq, hsz, hw, x, h => by
  by_cases heq : p = q + 1
  ·subst heq; exact ⟨x, h, .refl x⟩
  have hq : ops[q]? = some ops[q] := Array.getElem?_eq_getElem (by omega)
  rw [T.step q _ hq, AState.apply, upd, look_append] at h
  have hn : look (e q).wr b = none := by
   cases hl : look (e q).wr b with
   | none => rfl
   | some y => exact absurd (look_mem hl) (hw q y (by omega) (by omega))
  simp only [hn, Option.none_or, look_killH, Option.map_eq_some_iff] at h
  obtain ⟨x1, h1, h2⟩ := h
  obtain ⟨x0, h3, h4⟩ := T.betweenB p q (by omega) (by omega) (fun r o h1 h2 => hw r o h1 (by omega)) x1 h1
  refine ⟨x0, h3, ?_⟩
  subst h2
  exact kldB_kills _ _ h4
theorem Tr.nxt (T : Tr cx ops s e on rd0 rd anc) (p : Nat) : ∀ q, p ≤ q → q ≤ ops.size → (s p).nxt ≤ (s q).nxt
  | 0, hpq, _ => by have : p = 0 := by omega
                    subst this; exact Nat.le_refl _
  | q + 1, hpq, hsz => by
    by_cases heq : p = q + 1
    · subst heq; exact Nat.le_refl _
    have hq : ops[q]? = some ops[q] := Array.getElem?_eq_getElem (by omega)
    have h1 := T.nxt p q (by omega) (by omega)
    have h2 := T.nx q _ hq
    rw [T.step q _ hq]
    exact Nat.le_trans h1 h2
theorem Tr.nxt1 (T : Tr cx ops s e on rd0 rd anc) {p q : Nat} (h : p < q) (hq : q ≤ ops.size) : (e p).next ≤ (s q).nxt := by
 have hp : ops[p]? = some ops[p] := Array.getElem?_eq_getElem (by omega)
 have := T.nxt (p + 1) q h hq
 rw [T.step p _ hp] at this
 exact this
end
end Go.Ab
