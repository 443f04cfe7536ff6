/-
  A region run by the kernel: the rule. Theorems for any program.
-/
import Derived.Test.YtpfgofnmkaljaaaMg30
set_option linter.unusedVariables false
set_option linter.unusedSimpArgs false
namespace Go.Ab
open Go Go.RowKit
theorem look_mapK {α β : Type} (f : α → β) (l : List (Nat × α)) (t : Nat) : look (l.map fun p => (p.1, f p.2)) t = (look l t).map f := by
 induction l with
 | nil => rfl
 | cons p r ih => obtain ⟨k, v⟩ := p; simp only [List.map_cons, look, ih]; cases k == t <;> rfl
theorem killT_app (ks : List Nat) (l m : List (Nat × AV)) : killT ks (l ++ m) = killT ks l ++ killT ks m := by
 induction ks with
 | nil => rfl
 | cons k ks ih => simp only [killT, ih, List.map_append]
theorem killT_map (ks : List Nat) (l : List (Nat × AV)) : killT ks l = l.map fun p => (p.1, killsAV ks p.2) := by
 induction ks with
 | nil => simp [killT, killsAV]
 | cons k ks ih => simp only [killT, ih, List.map_map, killsAV]; rfl
theorem killsAV_c (u : CV) : ∀ ks, killsAV ks (.c u) = .c u
 | [] => rfl
 | k :: ks => by simp only [killsAV, killsAV_c u ks, killAV, kill1, kill0]
theorem killsAV_unit : ∀ ks, killsAV ks (.tup []) = .tup []
 | [] => rfl
 | k :: ks => by simp only [killsAV, killsAV_unit ks, killAV, List.map_nil]
structure InvG (g : GS) : Prop where
 keys : ∀ p ∈ g.env, ∀ x ∈ p.2.gs, ∃ q, look g.tab x.1 = some q
 tab : ∀ d q, look g.tab d = some q → ∃ ge, look g.env d = some ge ∧ ge.v = .c (.val (.bool q))
theorem holds_app {tab gs gs' : List (Nat × Bool)} : holds tab (gs ++ gs') = (holds tab gs && holds tab gs') := by simp [holds, List.all_append]
theorem holds_sub {tab gs cur : List (Nat × Bool)} (h : subG gs cur = true) (hc : holds tab cur = true) : holds tab gs = true := by
 simp only [holds, subG, List.all_eq_true, List.any_eq_true, Bool.and_eq_true, beq_iff_eq] at h hc ⊢
 intro x hx
 obtain ⟨y, hy, h1, h2⟩ := h x hx
 have := hc y hy
 rw [h1, h2] at this
 exact this
theorem holds_new {tab gs : List (Nat × Bool)} {d : Nat} {q : Bool} (hd : look tab d = none) (hk : ∀ x ∈ gs, ∃ q, look tab x.1 = some q) : holds ((d, q) :: tab) gs = holds tab gs := by
 induction gs with
 | nil => rfl
 | cons x r ih =>
  have h1 : ∀ x ∈ r, ∃ q, look tab x.1 = some q := fun y hy => hk y (List.mem_cons_of_mem _ hy)
  obtain ⟨q', hq'⟩ := hk x List.mem_cons_self
  have hne : (d == x.1) = false := by
   cases e : d == x.1 with
   | false => rfl
   | true => have := eq_of_beq e; subst this; rw [hd] at hq'; cases hq'
  have ih := ih h1
  simp only [holds, List.all_cons] at ih ⊢
  rw [ih]
  simp [look, hne]
theorem real_look {g : GS} {t : Nat} : look g.real.tmps t = match look g.env t with | some ge => some (bif holds g.tab ge.gs then ge.v else .tup []) | none => look g.tmps t := by
 simp only [GS.real, look_append, look_mapK (fun e : GE => bif holds g.tab e.gs then e.v else AV.tup [])]
 cases look g.env t <;> simp
theorem view_look {g : GS} {cur : List (Nat × Bool)} {t : Nat} : look (g.view cur) t = match look g.env t with | some ge => some (bif subG ge.gs cur then ge.v else .top) | none => look g.tmps t := by
 simp only [GS.view, look_append, look_mapK (fun e : GE => bif subG e.gs cur then e.v else AV.top)]
 cases look g.env t <;> simp
section
variable {cx : Cx} {g : GS} {ι : Pl} {a : Act} {w : World}
theorem view_ok' {cur : List (Nat × Bool)} (hS : SatI cx g.real ι a w) (hv : ∀ ge t, look g.env t = some ge → subG ge.gs cur = true → holds g.tab ge.gs = true) (x : Operand) : Rep (Still cx.A ι w) ι w (evT (g.view cur) x) (a.eval x) := by
 cases x with
 | tmp t =>
  simp only [evT, Act.eval, view_look]
  cases he : look g.env t with
  | none =>
   cases hl : look g.tmps t with
   | none => exact .top _
   | some av => exact hS.tmps t av (by rw [real_look, he]; exact hl)
  | some ge =>
   simp only [Option.getD_some]
   cases hs : subG ge.gs cur with
   | false => exact .top _
   | true =>
    have := hS.tmps t (bif holds g.tab ge.gs then ge.v else .tup []) (by rw [real_look, he])
    rw [hv ge t he hs] at this
    exact this
 | const v => exact .const v
 | global g => exact .c _ _ (.val _ rfl)
 | func f => exact .clo f [] [] rfl (fun i av x ha _ => by simp at ha)
theorem view_ok {cur : List (Nat × Bool)} (hS : SatI cx g.real ι a w) (hc : holds g.tab cur = true) (x : Operand) : Rep (Still cx.A ι w) ι w (evT (g.view cur) x) (a.eval x) :=
 view_ok' hS (fun _ _ _ h => holds_sub h hc) x
theorem view_plus {cur : List (Nat × Bool)} (hI : InvG g) (hS : SatI cx g.real ι a w) (hc : holds g.tab cur = true) {d : Nat} {q : Bool} {ge : GE} (he : look g.env d = some ge) (hq : ge.v = .c (.val (.bool q))) (x : Operand) :
  Rep (Still cx.A ι w) ι w (evT (g.view (cur ++ [(d, q)])) x) (a.eval x) := by
 refine view_ok' hS (fun e t h1 h2 => ?_) x
 have hk := hI.keys _ (look_mem h1)
 simp only [subG, holds, List.all_eq_true, List.any_eq_true, Bool.and_eq_true, beq_iff_eq] at h2 hc ⊢
 intro y hy
 obtain ⟨z, hz, h3, h4⟩ := h2 y hy
 rcases List.mem_append.1 hz with hz | hz
 ·have := hc z hz
  rw [h3, h4] at this
  exact this
 ·simp only [List.mem_singleton] at hz
  subst hz
  obtain ⟨q', hq'⟩ := hk y hy
  obtain ⟨ge', g1, g2⟩ := hI.tab _ _ hq'
  simp only at h3 h4
  rw [← h3, he] at g1
  cases g1
  rw [hq] at g2
  cases g2
  rw [hq', ← h4]
  cases q <;> rfl
end
theorem merge0_ok {I : Nat → Prop} {ι : Pl} {w : World} {q : Bool} {a b : AV} {x : Value} (h : Rep I ι w (bif q then a else b) x) : Rep I ι w (merge0 q a b) x := by
 unfold merge0
 split
 ·cases q <;> exact h
 ·rename_i k x' k' y'
  cases e : decide (k = k') with
  | false => exact .top _
  | true =>
   have := of_decide_eq_true e
   subst this
   cases q <;> exact h
 ·cases q <;> exact h
 ·exact h
theorem mergeV_ok {I : Nat → Prop} {ι : Pl} {w : World} {q : Bool} {a b : AV} {x : Value} (h : Rep I ι w (bif q then a else b) x) : Rep I ι w (mergeV q a b) x := by
 unfold mergeV
 split
 ·cases q <;> exact h
 ·rename_i k x' k' y'
  cases e : decide (k = k') with
  | false => exact .top _
  | true =>
   have := of_decide_eq_true e
   subst this
   cases q <;> exact h
 ·cases q <;> exact h
 ·rename_i xs ys
  unfold mergeA
  cases e : decide (xs.length = ys.length) with
  | false => exact h
  | true =>
   have e := of_decide_eq_true e
   simp only [cond_true]
   have h' : Rep I ι w (.agg (bif q then xs else ys)) x := by cases q <;> exact h
   cases h' with
   | agg _ vs h1 h2 h3 =>
    refine .agg _ vs ?_ h2 fun i av v ha hv => ?_
    ·rw [List.length_zipWith, h1]; cases q <;> simp [e]
    ·rw [List.getElem?_zipWith] at ha
     cases hx : xs[i]? with
     | none => rw [hx] at ha; simp at ha
     | some a0 =>
      cases hy : ys[i]? with
      | none => rw [hx, hy] at ha; simp at ha
      | some b0 =>
       rw [hx, hy] at ha
       simp only [Option.some.injEq] at ha
       subst ha
       refine merge0_ok (h3 i _ v ?_ hv)
       cases q
       ·exact hy
       ·exact hx
 ·exact h
theorem run_pick {cx : Cx} {g : GS} (hI : InvG g) {cur : List (Nat × Bool)} {o : Oper} {c x y : Operand} (hop : o.op = .pick c x y) {v : AV} (h : pickK g cur c x y = some v) {ι : Pl} {a : Act} {w : World} (hS : SatI cx g.real ι a w) (hc : holds g.tab cur = true)
  {next : Act → World → Prop} {Q : Post} (hn : ∀ x, Rep (Still cx.A ι w) ι w v x → next (a.put o.dst x) w) : o.wpIn (FW cx.rnd) 0 cx.P a w next Q := by
 have key : ∃ q, a.eval c = .bool q ∧ Rep (Still cx.A ι w) ι w v (if q then a.eval x else a.eval y) := by
  unfold pickK at h
  split at h
  ·rename_i d
   split at h
   ·rename_i ge hd
    cases hs : subG ge.gs cur with
    | false => rw [hs] at h; cases h
    | true =>
     rw [hs] at h
     simp only [cond_true] at h
     split at h
     ·rename_i q hq
      cases h
      have h1 := view_ok hS hc (.tmp d)
      have h2 : a.eval (.tmp d) = .bool q := by
       simp only [evT, view_look, hd, hs, cond_true, hq, Option.getD_some] at h1
       exact h1.valOf rfl
      refine ⟨q, h2, mergeV_ok ?_⟩
      have h3 := view_plus hI hS hc hd hq
      cases q with
      | true => exact h3 x
      | false => exact h3 y
     ·cases h
   ·rename_i hd
    split at h
    ·rename_i q hq
     cases h
     have h1 := view_ok hS hc (.tmp d)
     have h2 : a.eval (.tmp d) = .bool q := by
      simp only [evT, view_look, hd, hq, Option.getD_some] at h1
      exact h1.valOf rfl
     refine ⟨q, h2, mergeV_ok ?_⟩
     cases q with
     | true => exact view_ok hS hc x
     | false => exact view_ok hS hc y
    ·cases h
  ·cases h
 obtain ⟨q, h1, h2⟩ := key
 refine ⟨about_trivial cx o a w, ?_⟩
 rw [semAt_plain _ _ _ (by rw [hop]; intro c hc; cases hc)]
 have : (execOp a.eval o).run cx.P w = .ok (.value (if q then a.eval x else a.eval y)) w := by simp [execOp, hop, h1, asBool]
 rw [this]
 simp only [Oper.uponIn]
 exact hn _ h2
theorem guardK_ok {all : Array Oper} {g g1 : GS} {o : Oper} {cur : List (Nat × Bool)} (h : guardK all g o = some (g1, cur)) (hI : InvG g) :
  InvG g1 ∧ g1.real = g.real ∧ g1.env = g.env ∧ (∀ x ∈ cur, ∃ q, look g1.tab x.1 = some q) ∧ (∀ cx ι a w, SatI cx g.real ι a w → Region.wanted o (yielded all a.tmps) = holds g1.tab cur) := by
 unfold guardK at h
 split at h
 ·rename_i hg
  cases h
  exact ⟨hI, rfl, rfl, fun x hx => (by cases hx), fun cx ι a w hS => by simp [Region.wanted, hg, holds]⟩
 ·rename_i j want hg
  split at h
  ·rename_i d hd
   split at h
   ·rename_i ge he
    split at h
    ·rename_i q hq
     have hwant : ∀ (g1 : GS), g1.real = g.real → holds g1.tab ge.gs = holds g.tab ge.gs → look g1.tab d = some q → ∀ cx ι a w, SatI cx g.real ι a w → Region.wanted o (yielded all a.tmps) = holds g1.tab (ge.gs ++ [(d, want)]) := by
      intro g1 hr hh ht cx ι a w hS
      have hy := yAV_sound hS (all := all) (j := j) rfl
      have hyv : yAV all g.real.tmps j = bif holds g.tab ge.gs then .c (.val (.bool q)) else .tup [] := by
       simp only [yAV, hd, real_look, he, hq, Option.getD_some]
      have h1 : holds g1.tab [(d, want)] = (q == want) := by
       simp only [holds, List.all_cons, List.all_nil, Bool.and_true, ht]
       cases q <;> cases want <;> rfl
      rw [holds_app, hh, h1]
      cases hb : holds g.tab ge.gs with
      | true =>
       rw [hb] at hyv
       have := hy.1 q hyv
       simp only [Region.wanted, hg, this, Bool.true_and]
       cases q <;> cases want <;> rfl
      | false =>
       rw [hb] at hyv
       have := hy.2 hyv
       simp only [Region.wanted, hg, this, Bool.false_and]
       rfl
     have hgk := hI.keys _ (look_mem he)
     split at h
     ·rename_i q' ht
      cases h
      obtain ⟨ge', g2, g3⟩ := hI.tab _ _ ht
      rw [he] at g2
      cases g2
      rw [hq] at g3
      cases g3
      refine ⟨hI, rfl, rfl, fun x hx => ?_, hwant g rfl rfl ht⟩
      rcases List.mem_append.1 hx with hx | hx
      ·exact hgk x hx
      ·simp only [List.mem_singleton] at hx
       subst hx
       exact ⟨_, ht⟩
     ·rename_i ht
      cases h
      have hself : look ((d, q) :: g.tab) d = some q := by simp [look]
      have old : ∀ x q', look g.tab x = some q' → look ((d, q) :: g.tab) x = some q' := fun x q' hx => by
       simp only [look]
       cases e : d == x with
       | true => have := eq_of_beq e; subst this; rw [ht] at hx; cases hx
       | false => exact hx
      have hre : (GS.real { g with tab := (d, q) :: g.tab }) = g.real := by
       simp only [GS.real]
       congr 1
       congr 1
       refine List.map_congr_left fun p hp => ?_
       rw [holds_new ht (hI.keys p hp)]
      refine ⟨⟨fun p hp x hx => ?_, fun d' q' hd' => ?_⟩, hre, rfl, fun x hx => ?_, ?_⟩
      ·obtain ⟨q', h9⟩ := hI.keys p hp x hx
       exact ⟨q', old _ _ h9⟩
      ·simp only [look] at hd'
       cases e : d == d' with
       | true =>
        have := eq_of_beq e
        subst this
        simp at hd'
        subst hd'
        exact ⟨ge, he, hq⟩
       | false =>
        simp [e] at hd'
        exact hI.tab _ _ hd'
      ·rcases List.mem_append.1 hx with hx | hx
       ·obtain ⟨q', h9⟩ := hgk x hx
        exact ⟨q', old _ _ h9⟩
       ·simp only [List.mem_singleton] at hx
        subst hx
        exact ⟨_, hself⟩
      ·exact hwant _ hre (holds_new ht hgk) hself
    ·cases h
   ·cases h
  ·cases h
theorem impl_ok {tab : List (Nat × Bool)} {p : Prop} : ∀ {cur : List (Nat × Bool)}, holds tab cur = true → impl tab cur p → p
 | [], _, h => h
 | x :: r, hc, h => by
  simp only [holds, List.all_cons, Bool.and_eq_true] at hc
  obtain ⟨h1, h2⟩ := hc
  simp only [impl] at h
  cases hl : look tab x.1 with
  | none => rw [hl] at h1; cases h1
  | some q =>
   rw [hl] at h1 h
   refine impl_ok (cur := r) h2 (h ?_)
   obtain ⟨a, b⟩ := x
   cases q <;> cases b <;> simp_all
theorem under_ok {tab cur : List (Nat × Bool)} (hc : holds tab cur = true) : ∀ {cs : List Prop}, AllP (under tab cur cs) → AllP cs
 | [], _ => trivial
 | p :: r, h => ⟨impl_ok hc h.1, under_ok hc h.2⟩
theorem envK_eq (ks : List Nat) (l : List (Nat × GE)) : envK ks l = l.map fun p => (p.1, ⟨p.2.gs, killsAV ks p.2.v⟩) := by
 cases ks with
 | nil => simp [envK, killsAV]
 | cons k ks => rfl
theorem put_real {g : GS} {cur : List (Nat × Bool)} {o : Oper} {e : Eff} (hc : holds g.tab cur = true) : (g.put cur o e).real = g.real.apply o e := by
 have hk : (envK e.kill g.env).map (fun p => (p.1, bif holds g.tab p.2.gs then p.2.v else .tup [])) ++ killT e.kill g.tmps = killT e.kill (g.env.map (fun p => (p.1, bif holds g.tab p.2.gs then p.2.v else .tup [])) ++ g.tmps) := by
  rw [killT_app, envK_eq]
  congr 1
  rw [killT_map]
  simp only [List.map_map]
  refine List.map_congr_left fun p hp => ?_
  simp only [Function.comp_apply]
  cases holds g.tab p.2.gs with
  | true => rfl
  | false => simp [killsAV_unit]
 simp only [GS.put, GS.real, AState.apply]
 cases hd : o.dst with
 | none => simp only [putE, putT, hk]
 | some t => simp only [putE, putT, List.map_cons, List.cons_append, hc, cond_true, hk]
theorem put_skip {g : GS} {cur : List (Nat × Bool)} {o : Oper} {e : Eff} (hc : holds g.tab cur = false) (hw : e.wr = []) (hk : e.kill = []) (hn : e.next = g.nxt) : (g.put cur o e).real = g.real.apply o ⟨some (.tup []), [], [], g.real.nxt⟩ := by
 simp only [GS.put, hk, hw, hn]
 cases hd : o.dst with
 | none => simp [GS.real, AState.apply, putT, putE, hd, killT, killH, upd, envK]
 | some t => simp [GS.real, AState.apply, putT, putE, hd, killT, killH, upd, hc, envK]
theorem put_inv {g : GS} (hI : InvG g) {cur : List (Nat × Bool)} {o : Oper} {e : Eff} (hk : ∀ x ∈ cur, ∃ q, look g.tab x.1 = some q) (ht : ∀ t, o.dst = some t → look g.tab t = none) : InvG (g.put cur o e) := by
 have hold : ∀ p ∈ envK e.kill g.env, ∀ x ∈ p.2.gs, ∃ q, look g.tab x.1 = some q := fun p hp x hx => by
  rw [envK_eq] at hp
  obtain ⟨p', h1, rfl⟩ := List.mem_map.1 hp
  exact hI.keys p' h1 x hx
 have htab : ∀ d q, look g.tab d = some q → ∃ ge, look (envK e.kill g.env) d = some ge ∧ ge.v = .c (.val (.bool q)) := fun d q hd => by
  obtain ⟨ge, h1, h2⟩ := hI.tab d q hd
  refine ⟨⟨ge.gs, killsAV e.kill ge.v⟩, ?_, by simp only [h2, killsAV_c]⟩
  rw [envK_eq, look_mapK (fun x : GE => (⟨x.gs, killsAV e.kill x.v⟩ : GE)), h1]
  rfl
 have hput : (g.put cur o e).env = putE o.dst ⟨cur, e.res.getD (.tup [])⟩ (envK e.kill g.env) := rfl
 have htb : (g.put cur o e).tab = g.tab := rfl
 refine ⟨?_, ?_⟩
 ·rw [hput, htb]
  cases hd : o.dst with
  | none => exact hold
  | some t =>
   intro p hp x hx
   rcases List.mem_cons.1 hp with rfl | hp
   ·exact hk x hx
   ·exact hold p hp x hx
 ·rw [hput, htb]
  cases hd : o.dst with
  | none => exact htab
  | some t =>
   intro d q hq
   obtain ⟨ge, h1, h2⟩ := htab d q hq
   have hne : (t == d) = false := by
    cases e9 : t == d with
    | false => rfl
    | true => have := eq_of_beq e9; subst this; rw [ht t hd] at hq; cases hq
   exact ⟨ge, by simp only [putE, look, hne]; exact h1, h2⟩
theorem runK_ok {cx : Cx} {eq : EQ} (heq : EqOk cx.P eq) (htt : TtOk cx.P cx.tt) {all : Array Oper} {hs : List (Nat × Hint cx.P)} {Q : Post} {gE : GS} {rest : List Oper} : ∀ (l : List Oper) (i : Nat) (g : GS) (cs : List Prop) (ι : Pl) (a : Act) (w : World),
  runK cx.P eq cx.tt cx.n all hs i l g = some (cs, gE) → AllP cs → InvG g → SatI cx g.real ι a w → (∀ ι' a' w', InvG gE → SatI cx gE.real ι' a' w' → wpListIn (FW cx.rnd) 0 cx.P all Q rest a' w') → wpListIn (FW cx.rnd) 0 cx.P all Q (l ++ rest) a w
 | [], i, g, cs, ι, a, w, h, hc, hI, hS, hQ => by cases h; exact hQ ι a w hI hS
 | o :: r, i, g, cs, ι, a, w, h, hc, hI, hS, hQ => by
  simp only [runK] at h
  split at h
  ·rename_i g1 cur hg
   obtain ⟨hI1, hre, henv, hck, hw⟩ := guardK_ok hg hI
   split at h
   ·rename_i cs1 e he
    generalize hb : ((match o.dst with | some t => decide (t < cx.n) && (match look g1.tab t with | none => true | some _ => false) | none => true) && (cur.isEmpty || (e.wr.isEmpty && (e.kill.isEmpty && decide (e.next = g1.nxt))))) = b at h
    cases b with
    | false => cases h
    | true =>
     simp only [cond_true] at h
     split at h
     ·rename_i cs2 g2 hr
      cases h
      obtain ⟨hc1, hc2⟩ := AllP_app.1 hc
      simp only [Bool.and_eq_true, Bool.or_eq_true, List.isEmpty_iff, decide_eq_true_eq] at hb
      obtain ⟨hb1, hb2⟩ := hb
      have hd : ∀ t, o.dst = some t → t < cx.n ∧ look g1.tab t = none := fun t ht => by
       rw [ht] at hb1
       simp only [Bool.and_eq_true, decide_eq_true_eq] at hb1
       refine ⟨hb1.1, ?_⟩
       cases hl : look g1.tab t with
       | none => rfl
       | some q => rw [hl] at hb1; simp at hb1
      have hS1 : SatI cx g1.real ι a w := by rw [hre]; exact hS
      have hI2 := put_inv (e := e) (cur := cur) (o := o) hI1 hck fun t ht => (hd t ht).2
      rw [List.cons_append]
      simp only [wpListIn]
      have hwant := hw cx ι a w hS
      cases hh : holds g1.tab cur with
      | true =>
       rw [if_pos (by rw [hwant, hh])]
       have hcs1 := under_ok hh hc1
       unfold effK at he
       split at he
       ·rename_i c x y hop
        split at he
        ·rename_i v hv
         cases he
         refine run_pick hI1 hop hv hS1 hh fun x hx => runK_ok heq htt r (i + 1) _ _ ι _ _ hr hc2 hI2 ?_ hQ
         rw [put_real hh]
         exact hS1.apply (e := ⟨some v, [], [], g1.nxt⟩) (StepR.refl hS1.ok _ _) (fun p hp => by simp at hp) hS1.free (fun k hk => by cases hk) hx (fun t ht => (hd t ht).1)
        ·cases he
       ·have hop := stepK_ok heq htt he hcs1
        refine Oper.wpIn_mono ?_ (hop cx.A ι w a hS1.base.fresh (fun b g c hb => hS1.base.mine hb) (fun g b hb => hS1.base.hmine hb) hS1.ok hS1.free (fun x _ => view_ok hS1 hh x) hS1.heap Q)
        rintro a' w' ⟨v, ι', rfl, h1, h2, h3, h4, h5⟩
        refine runK_ok heq htt r (i + 1) _ _ ι' _ _ hr hc2 hI2 ?_ hQ
        rw [put_real hh]
        exact hS1.apply h2 h3 h4 h5 h1 (fun t ht => (hd t ht).1)
      | false =>
       rw [if_neg (by rw [hwant, hh]; simp)]
       refine ⟨about_trivial cx o a w, runK_ok heq htt r (i + 1) _ _ ι _ _ hr hc2 hI2 ?_ hQ⟩
       have hb3 : e.wr = [] ∧ e.kill = [] ∧ e.next = g1.nxt := by
        rcases hb2 with hb2 | hb2
        ·subst hb2; simp [holds] at hh
        ·exact hb2
       rw [put_skip hh hb3.1 hb3.2.1 hb3.2.2]
       exact hS1.skip (by
        cases hdd : o.dst with
        | none => trivial
        | some t => exact (hd t hdd).1)
     ·cases h
   ·cases h
  ·cases h
theorem keepT_ok {g : GS} : ∀ {ts : List Nat} {T : List (Nat × AV)} {t : Nat} {v : AV}, keepT g ts = some T → look T t = some v → look g.real.tmps t = some v
 | [], T, t, v, h, hl => by cases h; cases hl
 | u :: r, T, t, v, h, hl => by
  simp only [keepT] at h
  split at h
  ·rename_i x l h1 h2
   cases h
   simp only [look] at hl
   cases e : u == t with
   | false => simp [e] at hl; exact keepT_ok h2 hl
   | true =>
    simp [e] at hl
    have := eq_of_beq e
    subst this
    subst hl
    rw [real_look]
    split at h1
    ·rename_i ge he
     rw [he]
     cases hg : ge.gs.isEmpty with
     | false => rw [hg] at h1; cases h1
     | true =>
      rw [hg] at h1
      cases h1
      simp only [List.isEmpty_iff] at hg
      simp only [hg]
      rfl
    ·rename_i he
     rw [he]
     exact h1
  ·cases h
theorem keepB_ok {g : GS} : ∀ {ts : List Nat} {T : List (Nat × Blk)} {t : Nat} {v : Blk}, keepB g ts = some T → look T t = some v → look g.heap t = some v
 | [], T, t, v, h, hl => by cases h; cases hl
 | u :: r, T, t, v, h, hl => by
  simp only [keepB] at h
  split at h
  ·rename_i x l h1 h2
   cases h
   simp only [look] at hl
   cases e : u == t with
   | false => simp [e] at hl; exact keepB_ok h2 hl
   | true => simp [e] at hl; have := eq_of_beq e; subst this; subst hl; exact h1
  ·cases h
theorem keep_sat {cx : Cx} {g : GS} {T : List (Nat × AV)} {B : List (Nat × Blk)} {ts bs : List Nat} (hT : keepT g ts = some T) (hB : keepB g bs = some B) {ι : Pl} {a : Act} {w : World} (h : SatI cx g.real ι a w) : SatI cx ⟨T, B, g.nxt⟩ ι a w :=
 ⟨h.ok, h.free, h.defers, h.size, fun t av hl => h.tmps t av (keepT_ok hT hl), fun b blk hl => h.heap b blk (keepB_ok hB hl), h.base⟩
theorem go_rk {cx : Cx} {eq : EQ} (heq : EqOk cx.P eq) (htt : TtOk cx.P cx.tt) {Q : Post} {k : List K} {s : AState} {id : Nat} {ops : Array Oper} (hs : List (Nat × Hint cx.P)) (cs : List Prop) (s1 : AState)
  (h : regK cx.P eq cx.tt cx.n ops hs s (s1.tmps.map (·.1)) (s1.heap.map (·.1)) = some (cs, s1)) (hc : AllP cs) (hk : Go' cx Q k s1) : Go' cx Q (.code (.region id ops false) :: k) s := fun a w ⟨ι, hS⟩ => by
 refine wpIn_region_list ?_
 unfold regK at h
 split at h
 ·rename_i cs' g hr
  split at h
  ·rename_i T B hT hB
   cases h
   rw [← List.append_nil ops.toList]
   refine runK_ok heq htt _ 0 _ _ ι a w hr hc ⟨fun p hp => (by cases hp), fun d q hd => (by cases hd)⟩ ?_ fun ι' a' w' _ hS' => hk a' w' ⟨ι', keep_sat hT hB hS'⟩
   simpa [GS.real] using hS
  ·cases h
 ·cases h
def GoL (cx : Cx) (Q : Post) (k : List K) (all : Array Oper) (l : List Oper) (s : AState) : Prop := ∀ a w, Sat cx s a w → wpListIn (FW cx.rnd) 0 cx.P all (kpost cx Q k) l a w
theorem go_cut {cx : Cx} {Q : Post} {k : List K} {s : AState} {id : Nat} {ops : Array Oper} (h : GoL cx Q k ops ops.toList s) : Go' cx Q (.code (.region id ops false) :: k) s := fun a w hs => wpIn_region_list (h a w hs)
theorem gl_weak {cx : Cx} {Q : Post} {k : List K} {all : Array Oper} {l : List Oper} {s s' : AState} (hw : Weak cx s s') (h : GoL cx Q k all l s') : GoL cx Q k all l s := fun a w hs => h a w (hw a w hs)
theorem gl_end {cx : Cx} {Q : Post} {k : List K} {all : Array Oper} {l : List Oper} {s : AState} (hl : l = []) (h : Go' cx Q k s) : GoL cx Q k all l s := fun a w hs => by subst hl; exact h a w hs
def regL (P : Program) (eq : EQ) (tt : TT) (n : Nat) (all : Array Oper) (l : List Oper) (hs : List (Nat × Hint P)) (s : AState) (ts bs : List Nat) : Option (List Prop × AState) :=
 match runK P eq tt n all hs 0 l ⟨[], [], s.tmps, s.heap, s.nxt⟩ with
 | some (cs, g) => match keepT g ts, keepB g bs with
  | some T, some B => some (cs, ⟨T, B, g.nxt⟩)
  | _, _ => none
 | none => none
theorem gl_rk {cx : Cx} {eq : EQ} (heq : EqOk cx.P eq) (htt : TtOk cx.P cx.tt) {Q : Post} {k : List K} {all : Array Oper} {l : List Oper} {s : AState} (n : Nat) (hs : List (Nat × Hint cx.P)) (cs : List Prop) (s1 : AState)
  (h : regL cx.P eq cx.tt cx.n all (l.take n) hs s (s1.tmps.map (·.1)) (s1.heap.map (·.1)) = some (cs, s1)) (hc : AllP cs) (hk : GoL cx Q k all (l.drop n) s1) : GoL cx Q k all l s := fun a w ⟨ι, hS⟩ => by
 unfold regL at h
 split at h
 ·rename_i cs' g hr
  split at h
  ·rename_i T B hT hB
   cases h
   rw [← List.take_append_drop n l]
   refine runK_ok heq htt _ 0 _ _ ι a w hr hc ⟨fun p hp => (by cases hp), fun d q hd => (by cases hd)⟩ ?_ fun ι' a' w' _ hS' => hk a' w' ⟨ι', keep_sat hT hB hS'⟩
   simpa [GS.real] using hS
  ·cases h
 ·cases h
end Go.Ab
