/-
  Joins: states told anew under numbers in order, paths that meet, lengths that every slice keeps to. Theorems for any program.
  A call that is handed own slices which nobody writes any more: they are closed ahead of it.
-/
import Derived.Test.YtpfgofnmkaljaaaMg18
set_option linter.unusedVariables false
set_option linter.unusedSimpArgs false
namespace Go.Ab
open Go Go.RowKit
def hzT (π : List Nat) (heap : List (Nat × Blk)) (tmps : List (Nat × AV)) : List Nat → Option (Prop × List (Nat × AV))
 | [] => some (True, [])
 | t :: r => match (look tmps t).bind (hz π heap), hzT π heap tmps r with
  | some (v, x), some (vs, xs) => some (v ∧ vs, (t, x) :: xs)
  | _, _ => none
theorem hzT_look {π : List Nat} {heap : List (Nat × Blk)} {tmps : List (Nat × AV)} : ∀ {ts : List Nat} {vc : Prop} {T : List (Nat × AV)} {t : Nat} {av : AV}, hzT π heap tmps ts = some (vc, T) → vc → look T t = some av →
  ∃ av0 v, look tmps t = some av0 ∧ hz π heap av0 = some (v, av) ∧ v
 | [], vc, T, t, av, h, _, hl => by cases h; cases hl
 | u :: r, vc, T, t, av, h, hvc, hl => by
  simp only [hzT] at h
  split at h
  ·rename_i v x vs xs h1 h2
   cases h
   simp only [look] at hl
   cases e : u == t with
   | true =>
    simp [e] at hl
    have := eq_of_beq e
    subst this
    subst hl
    simp only [Option.bind_eq_some_iff] at h1
    obtain ⟨a0, g1, g2⟩ := h1
    exact ⟨a0, v, g1, g2, hvc.1⟩
   | false => simp [e] at hl; exact hzT_look h2 hvc.2 hl
  ·cases h
theorem numb_look {b : Nat} {blk : Blk} : ∀ {l : List Blk} {i : Nat}, look (numb i l) b = some blk → ∃ j, b = i + j ∧ l[j]? = some blk
 | [], i, h => by cases h
 | x :: r, i, h => by
  simp only [numb, look] at h
  cases e : i == b with
  | true => simp [e] at h; have := eq_of_beq e; subst this; subst h; exact ⟨0, rfl, rfl⟩
  | false =>
   simp [e] at h
   obtain ⟨j, h1, h2⟩ := numb_look h
   exact ⟨j + 1, by omega, by simpa using h2⟩
theorem Weak.canon {cx : Cx} {s s' : AState} (π ts : List Nat) (hπ : π.Nodup) {vb vt : Prop} {bs : List Blk} {T : List (Nat × AV)} (hB : hzBs π s.heap π = some (vb, bs)) (hvb : vb) (hT : hzT π s.heap s.tmps ts = some (vt, T)) (hvt : vt)
  (eT : T = s'.tmps) (eB : numb 0 bs = s'.heap) (en : bs.length = s'.nxt) : Weak cx s s' := by
 rintro a w ⟨ι, hs⟩
 have hpl : ∀ i g c, plOf ι π i = some (.at g c) → ∃ b, π[i]? = some b ∧ ι b = some (.at g c) := fun i g c hb => plOf_f hb
 have hJ : ∀ g, Still cx.A ι w g → Still cx.A (plOf ι π) w g := fun g hg => plOf_sub.still hg
 have hJι : ∀ b g c blk, b ∉ π → look s.heap b = some blk → ι b = some (.at g c) → Still cx.A (plOf ι π) w g := fun b g c blk hb hl hι => plOf_still hs.ok (hs.base.mine hι) hb hι
 have hJh : ∀ b g blk, b ∉ π → look s.heap b = some blk → ι.hid g = some b → Still cx.A (plOf ι π) w g := fun b g blk hb hl hι => plOf_stillH hs.ok (hs.base.hmine hι) hb hι
 obtain ⟨k1, k2⟩ := hzBs_ok (J := Still cx.A (plOf ι π) w) hJ hJι hJh hs.heap hπ (p := 0) (fun j b h => by simpa using h) hB hvb
 refine ⟨plOf ι π, plOf_ok hπ hs.ok, fun b hb => ?_, hs.defers.pl (fun b g c hb => ?_) plOf_sub.hid, hs.size, fun t av hl => ?_, fun b blk hl => ?_, ⟨hs.base.os, hs.base.tape, hs.base.output, hs.base.size, hs.base.block, fun b g c hb => ?_, fun g b hb => ?_⟩⟩
 ·rw [← en, k1] at hb
  simp [plOf, List.getElem?_eq_none hb]
 ·obtain ⟨b', _, h2⟩ := hpl b g c hb
  exact ⟨b', c, h2⟩
 ·rw [← eT] at hl
  obtain ⟨av0, v, h1, h2, h3⟩ := hzT_look hT hvt hl
  exact hz_ok hJ hJι hJh hs.heap h2 h3 (hs.tmps t av0 h1)
 ·rw [← eB] at hl
  obtain ⟨j, h1, h2⟩ := numb_look hl
  rw [h1]
  exact k2 j blk h2
 ·obtain ⟨b', _, h2⟩ := hpl b g c hb
  exact hs.base.own b' g c h2
 ·obtain ⟨b', _, h2⟩ := plOf_h hb
  exact hs.base.hown g b' h2
section
variable {cx : Cx} {Q : Post} {k : List K} {s : AState}
theorem kpost_fin {R : AState → Prop} {e : Exit} {a : Act} {w : World} (h : kpost cx Q (.fin R :: k) e a w) (hn : e = .normal → (∃ s, R s ∧ Sat cx s a w) → kpost cx Q k .normal a w) : kpost cx Q k e a w := by
 cases e with
 | normal => exact hn rfl h
 | _ => exact h
theorem go_join {c : Code} (s1 : AState) (P : Prop) (h1 : Go' cx Q (.code c :: .fin (fun s' => P ∧ Weak cx s' s1) :: k) s) (h2 : P → Go' cx Q k s1) : Go' cx Q (.code c :: k) s := fun a w hs => by
 have := h1 a w hs
 refine Code.wpIn_mono (fun e a w hq => kpost_fin hq fun _ hx => ?_) this
 obtain ⟨s', ⟨hp, hw⟩, hS⟩ := hx
 exact h2 hp a w (hw a w hS)
theorem go_joinE {c : Code} {α : Type} (S : α → AState) (P : α → Prop) (h1 : Go' cx Q (.code c :: .fin (fun s' => ∃ x, P x ∧ Weak cx s' (S x)) :: k) s) (h2 : ∀ x, P x → Go' cx Q k (S x)) : Go' cx Q (.code c :: k) s := fun a w hs => by
 have := h1 a w hs
 refine Code.wpIn_mono (fun e a w hq => kpost_fin hq fun _ hx => ?_) this
 obtain ⟨s', ⟨x, hp, hw⟩, hS⟩ := hx
 exact h2 x hp a w (hw a w hS)
theorem go_regionJ {rk : Reck} (hrk : RkOk cx.P cx.tt rk) {id : Nat} {ops : Array Oper} (s1 : AState) (h : opsP rk cx ops (fun s' => Weak cx s' s1) ops.toList s) (h2 : Go' cx Q k s1) : Go' cx Q (.code (.region id ops false) :: k) s :=
 fun a w ⟨ι, hs⟩ => wpIn_region_list (opsP_sound hrk (R := fun s' => Weak cx s' s1) (fun s' ι' a' w' hR hS => h2 a' w' (hR a' w' ⟨ι', hS⟩)) _ s ι a w h hs)
end
theorem go_drawJ {rk : Reck} {cx : Cx} (hrk : RkOk cx.P cx.tt rk) (hm : cx.P.follows .mixedOrders = true) {Q : Post} {k : List K} {s : AState} {id : Nat} {ops : Array Oper} (s1 : AState) (h : opsD rk cx ops (fun s' => Weak cx s' s1) ops.toList [] s) (h2 : Go' cx Q k s1) :
  Go' cx Q (.code (.region id ops true) :: k) s := by
 rintro a w ⟨ι, hs⟩
 obtain ⟨st, e, on, rd0, rd, anc, T, h0, hR⟩ := opsD_trace hrk h
 have hs' := hs.drawn (w.drawn + 1)
 refine wpIn_region_any hm (wpAny_run T (fun ι' a' w' hS => h2 a' w' (hR a' w' ⟨ι', hS⟩)) ops.size _ ι a _ (by simp) (Nat.le_trans (List.length_filter_le _ _) (by simp)) (fun i o ho hi => ?_) ?_)
 ·exfalso
  rw [Array.getD_eq_getD_getElem?] at hi
  simp [Array.getElem?_replicate] at hi
  split at hi <;> simp at hi
 ·have key : ∀ i t, i ≤ ops.size → (∀ (p : Nat) (o : Oper), p < i → ops[p]? = some o → o.dst ≠ some t) → ∀ av, look (st i).tmps t = some av → Rep (Still cx.A ι { w with drawn := w.drawn + 1 }) ι { w with drawn := w.drawn + 1 } av (a.tmps.getD t undef) := by
   intro i t hi hw av hl
   obtain ⟨av0, h1, h2⟩ := T.between (t := t) 0 i (Nat.zero_le _) hi (fun r o _ hr ho => hw r o hr ho) av hl
   rw [h0] at h1
   exact h2.rep (hs'.tmps t av0 h1)
  have hfalse : ∀ i, (Array.replicate ops.size false).getD i false = false := fun i => by
   rw [Array.getD_eq_getD_getElem?, Array.getElem?_replicate]
   split <;> rfl
  refine ⟨hs'.ok, hs'.defers, hs'.size, hs'.base, fun b hb => hs'.free b ?_, fun i hi _ b hb _ => hs'.free b ?_, fun i t hi _ hw av hl => key i t hi (fun p o hp ho hd => ?_) av hl, fun i b hi _ hw blk hl => ?_⟩
  ·have := T.nxt 0 ops.size (Nat.zero_le _) (Nat.le_refl _)
   rw [h0] at this
   omega
  ·have := T.nxt 0 i (Nat.zero_le _) (Nat.le_of_lt hi)
   rw [h0] at this
   omega
  ·have := hw p o hp ho hd
   rw [hfalse] at this; cases this
  ·obtain ⟨x0, h1, h2⟩ := T.betweenB (b := b) 0 i (Nat.zero_le _) hi (fun r blk' _ hr hbw => by
    have := hw r blk' hr hbw
    rw [hfalse] at this; cases this) blk hl
   rw [h0] at h1
   exact h2.rep (hs'.heap b x0 h1)
def letIn {α β : Type} (a : α) (f : α → β) : β := f a
theorem letIn_ex {α β : Type} {a : α} {f : α → β} {r : β} (h : letIn a f = r) : ∃ x, a = x ∧ f x = r := ⟨a, rfl, h⟩
section
variable {cx : Cx} {Q : Post} {k : List K} {s : AState}
theorem CRep.len {I : Nat → Prop} {w : World} {es : List (List CV)} {x : Value} (h : CRep I w (.sl es) x) : es.length ≤ maxLen := by
 cases h with
 | nil => exact Nat.zero_le _
 | sl _ a n cap k hn hc hm => omega
theorem go_len {t : Nat} {es : List (List CV)} (hl : look s.tmps t = some (.c (.sl es))) (h : es.length ≤ maxLen → Go' cx Q k s) : Go' cx Q k s := fun a w ⟨ι, hs⟩ => by
 have hr := hs.tmps t _ hl
 generalize a.tmps.getD t undef = v at hr
 cases hr with
 | c _ _ hu => exact h hu.len a w ⟨ι, hs⟩
theorem go_lenB {b ty : Nat} {cs : List AV} {es : List (List CV)} (hl : look s.heap b = some (.box cs ty)) (i : Nat) (hi : cs[i]? = some (.c (.sl es))) (h : es.length ≤ maxLen → Go' cx Q k s) : Go' cx Q k s := fun a w ⟨ι, hs⟩ => by
 have := hs.heap b _ hl
 cases this with
 | box _ _ g cur h1 h2 h3 h4 h5 =>
  have hlt : i < cur.length := by rw [h3]; exact (List.getElem?_eq_some_iff.1 hi).1
  have := h5 i _ _ hi (List.getElem?_eq_getElem hlt)
  cases this with
  | c _ _ hu => exact h hu.len a w ⟨ι, hs⟩
end
theorem map_getD {α : Type} (f : α → List CV) (l : List α) (i : Nat) (d : α) (h : i < l.length) : (l.map f).getD i [] = f (l.getD i d) := by
 simp [List.getD, List.getElem?_map, List.getElem?_eq_getElem h]
theorem take_map_len {α β : Type} (f : α → β) (l : List α) : (l.map f).take l.length = l.map f := List.take_of_length_le (by simp)
theorem NM : type_of% (And.intro @List.map_append.{0,0} (And.intro @List.map_cons.{0,0} (And.intro @List.map_nil.{0,0} (And.intro @List.length_append.{0} (And.intro @List.length_map.{0,0} (And.intro @List.length_cons.{0} (And.intro @List.length_nil.{0} (And.intro @List.drop_zero.{0} (And.intro @take_map_len (And.intro @Nat.zero_add @Nat.add_zero)))))))))) :=
 And.intro @List.map_append.{0,0} (And.intro @List.map_cons.{0,0} (And.intro @List.map_nil.{0,0} (And.intro @List.length_append.{0} (And.intro @List.length_map.{0,0} (And.intro @List.length_cons.{0} (And.intro @List.length_nil.{0} (And.intro @List.drop_zero.{0} (And.intro @take_map_len (And.intro @Nat.zero_add @Nat.add_zero)))))))))
theorem BM : type_of% (And.intro @Bool.true_or (And.intro @Bool.false_or (And.intro @Bool.true_and (And.intro @Bool.false_and (And.intro @Bool.and_true (And.intro @Bool.and_false (And.intro @Bool.or_true (And.intro @Bool.or_false (And.intro @cond_true.{0} (And.intro @cond_false.{0} (And.intro Bool.not_true Bool.not_false))))))))))) :=
 And.intro @Bool.true_or (And.intro @Bool.false_or (And.intro @Bool.true_and (And.intro @Bool.false_and (And.intro @Bool.and_true (And.intro @Bool.and_false (And.intro @Bool.or_true (And.intro @Bool.or_false (And.intro @cond_true.{0} (And.intro @cond_false.{0} (And.intro Bool.not_true Bool.not_false))))))))))
theorem GN : type_of% (And.intro @decide_eq_true_eq (And.intro @decide_eq_false_iff_not (And.intro @Bool.and_eq_true (And.intro @Bool.or_eq_true (And.intro @Bool.or_eq_false_iff (And.intro @Bool.not_eq_true' (And.intro @Bool.not_eq_false' (And.intro @Nat.not_lt (And.intro @Nat.not_le (And.intro @Int.not_lt @Int.not_le)))))))))) :=
 And.intro @decide_eq_true_eq (And.intro @decide_eq_false_iff_not (And.intro @Bool.and_eq_true (And.intro @Bool.or_eq_true (And.intro @Bool.or_eq_false_iff (And.intro @Bool.not_eq_true' (And.intro @Bool.not_eq_false' (And.intro @Nat.not_lt (And.intro @Nat.not_le (And.intro @Int.not_lt @Int.not_le)))))))))
theorem maxLen_eq : maxLen = 9223372036854775807 := rfl
end Go.Ab

set_option linter.unusedVariables false
set_option linter.unusedSimpArgs false
namespace Go.Ab
open Go Go.RowKit
def iV (x : Int) : AV := .c (.val (.int .i64 x))
def bo (x : Bool) : AV := .c (.val (.bool x))
def nS : AV := .c (.val (.slice none 0 0))
def sL {α : Type} (f : α → List CV) (l : List α) : AV := .c (.sl (List.map f l))
def cls0 (b k : Nat) (es : List (List CV)) : AV → Option (Prop × AV)
 | .own b' k' off n => bif b' == b then some (k' = k ∧ off + n ≤ es.length, .c (.sl ((es.drop off).take n))) else some (True, .own b' k' off n)
 | .ptr b' off => bif b' == b then none else some (True, .ptr b' off)
 | .osl b' off n => bif b' == b then none else some (True, .osl b' off n)
 | .mref b' => bif b' == b then none else some (True, .mref b')
 | .tr b' => bif b' == b then none else some (True, .tr b')
 | .c u => some (True, .c u)
 | .clo f [] => some (True, .clo f [])
 | _ => none
def cls1 (b k : Nat) (es : List (List CV)) : AV → Option (Prop × AV)
 | .agg cs => (frzL (cls0 b k es) cs).map fun r => (r.1, .agg r.2)
 | av => cls0 b k es av
section
variable {A : Nat → Prop} {ι ι' : Pl} {w : World} {b k : Nat} {es : List (List CV)} {ty : TypeId}
theorem cls0_ok (hok : Ok ι w) (hmine : ∀ b g c, ι b = some (.at g c) → A g) (hι : ι' = setPl ι b .nil) (hst : ∀ g, Still A ι w g → Still A ι' w g) (hb : BlkRep (Still A ι w) ι w b (.acc k es ty))
  {av : AV} {x : Value} {vc : Prop} {r : AV} (h : cls0 b k es av = some (vc, r)) (hvc : vc) (hx : Rep (Still A ι w) ι w av x) : Rep (Still A ι' w) ι' w r x := by
 have other : ∀ b', (b' == b) = false → ι' b' = ι b' := fun b' h => by rw [hι]; exact setPl_other _ _ (by simpa using h)
 unfold cls0 at h
 split at h
 ·rename_i b' k' off n
  cases e : b' == b with
  | true =>
   simp only [e, cond_true, Option.some.injEq, Prod.mk.injEq] at h
   obtain ⟨rfl, rfl⟩ := h
   have := eq_of_beq e
   subst this
   obtain ⟨rfl, hle⟩ := hvc
   refine .c _ _ (own_closed (J := Still A ι' w) hst (fun g c hg => by rw [hι]; exact still_nil hok (hmine _ _ _ hg) hg) hx hb hle)
  | false =>
   simp only [e, cond_false, Option.some.injEq, Prod.mk.injEq] at h
   obtain ⟨rfl, rfl⟩ := h
   exact hx.mono (fun g hg => ⟨hst g hg, rfl⟩) fun b'' hm => by cases hm; exact other _ e
 ·rename_i b' off
  cases e : b' == b with
  | true => simp [e] at h
  | false =>
   simp only [e, cond_false, Option.some.injEq, Prod.mk.injEq] at h
   obtain ⟨rfl, rfl⟩ := h
   exact hx.mono (fun g hg => ⟨hst g hg, rfl⟩) fun b'' hm => by cases hm; exact other _ e
 ·rename_i b' off n
  cases e : b' == b with
  | true => simp [e] at h
  | false =>
   simp only [e, cond_false, Option.some.injEq, Prod.mk.injEq] at h
   obtain ⟨rfl, rfl⟩ := h
   exact hx.mono (fun g hg => ⟨hst g hg, rfl⟩) fun b'' hm => by cases hm; exact other _ e
 ·rename_i b'
  cases e : b' == b with
  | true => simp [e] at h
  | false =>
   simp only [e, cond_false, Option.some.injEq, Prod.mk.injEq] at h
   obtain ⟨rfl, rfl⟩ := h
   exact hx.mono (fun g hg => ⟨hst g hg, rfl⟩) fun b'' hm => by cases hm; exact other _ e
 ·rename_i b'
  cases e : b' == b with
  | true => simp [e] at h
  | false =>
   simp only [e, cond_false, Option.some.injEq, Prod.mk.injEq] at h
   obtain ⟨rfl, rfl⟩ := h
   exact hx.mono (fun g hg => ⟨hst g hg, rfl⟩) fun b'' hm => by cases hm; exact other _ e
 ·cases h
  exact hx.mono (fun g hg => ⟨hst g hg, rfl⟩) fun b'' hm => by cases hm
 ·cases h
  exact hx.mono (fun g hg => ⟨hst g hg, rfl⟩) fun b'' hm => by cases hm with | clo _ _ i av hi _ => simp at hi
 ·cases h
theorem cls1_ok (hok : Ok ι w) (hmine : ∀ b g c, ι b = some (.at g c) → A g) (hι : ι' = setPl ι b .nil) (hst : ∀ g, Still A ι w g → Still A ι' w g) (hb : BlkRep (Still A ι w) ι w b (.acc k es ty))
  {av : AV} {x : Value} {vc : Prop} {r : AV} (h : cls1 b k es av = some (vc, r)) (hvc : vc) (hx : Rep (Still A ι w) ι w av x) : Rep (Still A ι' w) ι' w r x := by
 unfold cls1 at h
 split at h
 ·rename_i cs
  cases hc : frzL (cls0 b k es) cs with
  | none => rw [hc] at h; cases h
  | some p =>
   rw [hc] at h
   cases h
   cases hx with
   | agg _ xs hl h1 hr =>
    obtain ⟨h3, h4⟩ := frzL_ok' (A := A) (ι := ι) (w := w) (J := Still A ι' w) (ι' := ι') (fun av x vc r h hvc hx => cls0_ok hok hmine hι hst hb h hvc hx) (l' := p.2) hc hvc
    exact .agg _ xs (by rw [hl, h3]) h1 fun i av' x ha hx => h4 i av' x ha fun av hav => hr i av x hav hx
 ·exact cls0_ok hok hmine hι hst hb h hvc hx
end
theorem getD_mem {α : Type} (l : List α) (i : Nat) (d : α) (h : i < l.length) : l.getD i d ∈ l := by
 simp [List.getD, List.getElem?_eq_getElem h]
theorem CallK.close {cx : Cx} {o : Oper} {s : AState} {f : FuncId} {args as : List AV} {KK : AState → Prop} (b : Nat) {k : Nat} {es : List (List CV)} {ty : TypeId} {vc : Prop} (hb : look s.heap b = some (.acc k es ty)) (hs : frzL (cls1 b k es) args = some (vc, as)) (hvc : vc)
  (h : CallK cx o ⟨killT [b] s.tmps, [(b, .acc k [] ty)] ++ killH [b] s.heap, s.nxt⟩ f as KK) : CallK cx o s f args KK := by
 refine ⟨h.1, fun ι a w vs hS hl hr => ?_⟩
 have hblk := hS.heap b _ hb
 have hlt : b < s.nxt := Nat.lt_of_not_le fun hle => hblk.laid (hS.free b hle)
 have hst : StepR ι w (setPl ι b .nil) w (fun b' => ∃ blk, (b', blk) ∈ [(b, Blk.acc k [] ty)]) (fun b' => b' ∈ [b] ∨ s.nxt ≤ b') := step_nil hS.ok b _ _ (.inl (List.mem_singleton.2 rfl))
 have hS' := hS.ghost (ks := [b]) (next := s.nxt) (new := []) hst (fun p hp => by rw [List.mem_singleton.1 hp]; exact .accNil _ _ (setPl_same _ _ _)) (fun b' hb' => by
  have hb'' : s.nxt ≤ b' := hb'
  rw [setPl_other _ _ (by omega)]
  exact hS.free b' hb'') (fun k' hk' => by rw [List.mem_singleton.1 hk']; exact ⟨_, List.mem_singleton.2 rfl⟩) fun t av hl => by cases hl
 obtain ⟨g1, g2⟩ := frzL_ok' (A := cx.A) (ι := ι) (w := w) (J := Still cx.A (setPl ι b .nil) w) (ι' := setPl ι b .nil) (fun av x vc r h hvc hx => cls1_ok hS.ok (fun b g c hb => hS.base.mine hb) rfl (fun g hg => (hst.still g hg).1) hblk h hvc hx) (l' := as) hs hvc
 exact h.2 _ a w vs hS' (by rw [hl, g1]) fun i av x ha hx => g2 i av x ha fun av' hav' => hr i av' x hav' hx
end Go.Ab
