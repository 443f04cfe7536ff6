/-
  Operations reckoned by the kernel: the reckoning is right; a region's rule. Theorems for any program.
-/
import Derived.Test.YtpfgofnmkaljaaaMg29
set_option linter.unusedVariables false
set_option linter.unusedSimpArgs false
namespace Go.Ab
open Go Go.RowKit
theorem snapK0_ok {heap : List (Nat × Blk)} {own own' : List (List (List CV))} {av x : AV} {cs : List Prop} (h : snapK0 heap own av = some (own', cs, x)) (hc : AllP cs) : ∃ vc, snap0 heap av = some (vc, x) ∧ vc := by
 unfold snapK0 at h
 split at h
 ·rename_i b k off n
  split at h
  ·rename_i k' es ty es' r hl
   cases e : decide (k = k') with
   | false => rw [e] at h; cases h
   | true =>
    rw [e] at h
    cases h
    obtain ⟨⟨h1, h2⟩, _⟩ := hc
    refine ⟨k = k' ∧ off + n ≤ es.length, ?_, of_decide_eq_true e, h1⟩
    simp only [snap0, hl, h2]
  ·cases h
 ·cases h; exact ⟨_, rfl, trivial⟩
 ·rename_i u hu
  cases h
  refine ⟨True, ?_, trivial⟩
  unfold snap0
  split <;> first | (rename_i h9; cases h9; done) | rfl | simp_all
 ·cases h; exact ⟨_, rfl, trivial⟩
 ·cases h; exact ⟨_, rfl, trivial⟩
 ·cases h
theorem snapKC_ok {heap : List (Nat × Blk)} : ∀ {l : List AV} {own own' : List (List (List CV))} {xs : List AV} {cs : List Prop}, snapKC heap own l = some (own', cs, xs) → AllP cs → ∃ vc, snapC heap l = some (vc, xs) ∧ vc
 | [], own, own', xs, cs, h, hc => by cases h; exact ⟨_, rfl, trivial⟩
 | a :: r, own, own', xs, cs, h, hc => by
  simp only [snapKC] at h
  split at h
  ·rename_i o1 c1 x h1
   split at h
   ·rename_i o2 c2 ys h2
    cases h
    obtain ⟨hc1, hc2⟩ := AllP_app.1 hc
    obtain ⟨v1, g1, g2⟩ := snapK0_ok h1 hc1
    obtain ⟨v2, g3, g4⟩ := snapKC_ok h2 hc2
    exact ⟨v1 ∧ v2, by simp only [snapC, g1, g3], g2, g4⟩
   ·cases h
  ·cases h
theorem snapKA_ok {heap : List (Nat × Blk)} {own own' : List (List (List CV))} {av x : AV} {cs : List Prop} (h : snapKA heap own av = some (own', cs, x)) (hc : AllP cs) : ∃ vc, snapAV heap av = some (vc, x) ∧ vc := by
 unfold snapKA at h
 split at h
 ·rename_i l
  split at h
  ·rename_i o c xs h1
   cases h
   obtain ⟨v, g1, g2⟩ := snapKC_ok h1 hc
   exact ⟨v, by simp only [snapAV, g1]; rfl, g2⟩
  ·cases h
 ·rename_i hn
  obtain ⟨v, g1, g2⟩ := snapK0_ok h hc
  refine ⟨v, ?_, g2⟩
  unfold snapAV
  split
  ·rename_i l; exact absurd rfl (hn l)
  ·exact g1
theorem snapKL_ok {heap : List (Nat × Blk)} : ∀ {l : List AV} {own own' : List (List (List CV))} {xs : List AV} {cs : List Prop}, snapKL heap own l = some (own', cs, xs) → AllP cs → ∃ vc, snapL heap l = some (vc, xs) ∧ vc
 | [], own, own', xs, cs, h, hc => by cases h; exact ⟨_, rfl, trivial⟩
 | a :: r, own, own', xs, cs, h, hc => by
  simp only [snapKL] at h
  split at h
  ·rename_i o1 c1 x h1
   split at h
   ·rename_i o2 c2 ys h2
    cases h
    obtain ⟨hc1, hc2⟩ := AllP_app.1 hc
    obtain ⟨v1, g1, g2⟩ := snapKA_ok h1 hc1
    obtain ⟨v2, g3, g4⟩ := snapKL_ok h2 hc2
    exact ⟨v1 ∧ v2, by simp only [snapL, g1, g3], g2, g4⟩
   ·cases h
  ·cases h
theorem snapKP_ok {heap : List (Nat × Blk)} {own own' : List (List (List CV))} {av x : AV} {cs : List Prop} (h : snapKP heap own av = some (own', cs, x)) (hc : AllP cs) : ∃ vc, snapP heap av = some (vc, x) ∧ vc := by
 unfold snapKP at h
 split at h
 ·rename_i b off
  split at h
  ·rename_i cells ty hl
   split at h
   ·rename_i o c xs h1
    split at h
    ·rename_i us h2
     cases h
     obtain ⟨v, g1, g2⟩ := snapKC_ok h1 hc
     exact ⟨v, by simp only [snapP, hl, g1, h2]; rfl, g2⟩
    ·cases h
   ·cases h
  ·cases h
 ·rename_i hn
  obtain ⟨v, g1, g2⟩ := snapKA_ok h hc
  refine ⟨v, ?_, g2⟩
  unfold snapP
  split
  ·rename_i b off; exact absurd rfl (hn b off)
  ·exact g1
theorem snapKPL_ok {heap : List (Nat × Blk)} : ∀ {l : List AV} {own own' : List (List (List CV))} {xs : List AV} {cs : List Prop}, snapKPL heap own l = some (own', cs, xs) → AllP cs → ∃ vc, snapPL heap l = some (vc, xs) ∧ vc
 | [], own, own', xs, cs, h, hc => by cases h; exact ⟨_, rfl, trivial⟩
 | a :: r, own, own', xs, cs, h, hc => by
  simp only [snapKPL] at h
  split at h
  ·rename_i o1 c1 x h1
   split at h
   ·rename_i o2 c2 ys h2
    cases h
    obtain ⟨hc1, hc2⟩ := AllP_app.1 hc
    obtain ⟨v1, g1, g2⟩ := snapKP_ok h1 hc1
    obtain ⟨v2, g3, g4⟩ := snapKPL_ok h2 hc2
    exact ⟨v1 ∧ v2, by simp only [snapPL, g1, g3], g2, g4⟩
   ·cases h
  ·cases h
theorem snapKF_ok {heap : List (Nat × Blk)} {own own' : List (List (List CV))} {av x : AV} {cs : List Prop} (h : snapKF heap own av = some (own', cs, x)) (hc : AllP cs) : ∃ vc, snapF heap av = some (vc, x) ∧ vc := by
 unfold snapKF at h
 split at h
 ·rename_i f caps
  split at h
  ·rename_i o c xs h1
   cases h
   obtain ⟨v, g1, g2⟩ := snapKPL_ok h1 hc
   exact ⟨v, by simp only [snapF, g1]; rfl, g2⟩
  ·cases h
 ·rename_i hn
  obtain ⟨v, g1, g2⟩ := snapKP_ok h hc
  refine ⟨v, ?_, g2⟩
  unfold snapF
  split
  ·rename_i f caps; exact absurd rfl (hn f caps)
  ·exact g1
theorem snapKFL_ok {heap : List (Nat × Blk)} : ∀ {l : List AV} {own own' : List (List (List CV))} {xs : List AV} {cs : List Prop}, snapKFL heap own l = some (own', cs, xs) → AllP cs → ∃ vc, snapFL heap l = some (vc, xs) ∧ vc
 | [], own, own', xs, cs, h, hc => by cases h; exact ⟨_, rfl, trivial⟩
 | a :: r, own, own', xs, cs, h, hc => by
  simp only [snapKFL] at h
  split at h
  ·rename_i o1 c1 x h1
   split at h
   ·rename_i o2 c2 ys h2
    cases h
    obtain ⟨hc1, hc2⟩ := AllP_app.1 hc
    obtain ⟨v1, g1, g2⟩ := snapKF_ok h1 hc1
    obtain ⟨v2, g3, g4⟩ := snapKFL_ok h2 hc2
    exact ⟨v1 ∧ v2, by simp only [snapFL, g1, g3], g2, g4⟩
   ·cases h
  ·cases h
mutual
theorem flatQ_ok : ∀ (av : AV), flatQ av = true → flatAV av
 | .c (.val _), _ => by simp [flatAV]
 | .c .any, _ => by simp [flatAV]
 | .c (.sl []), _ => by simp [flatAV]
 | .c (.sl (_ :: _)), h => by simp [flatQ] at h
 | .cel _, h => by simp [flatQ] at h
 | .clo _ caps, h => by simp only [flatQ] at h; simp only [flatAV]; exact flatQs_ok caps h
 | .agg cs, h => by simp only [flatQ] at h; simp only [flatAV]; exact flatQs_ok cs h
 | .tup cs, h => by simp only [flatQ] at h; simp only [flatAV]; exact flatQs_ok cs h
 | .top, _ => by simp [flatAV]
 | .own _ _ _ _, _ => by simp [flatAV]
 | .osl _ _ _, _ => by simp [flatAV]
 | .mref _, _ => by simp [flatAV]
 | .ptr _ _, _ => by simp [flatAV]
 | .aptr _ _ _ _, _ => by simp [flatAV]
 | .pl _ _, _ => by simp [flatAV]
 | .tr _, _ => by simp [flatAV]
theorem flatQs_ok : ∀ (l : List AV), flatQs l = true → flatLs l
 | [], _ => by simp [flatLs]
 | a :: r, h => by
  simp only [flatQs, Bool.and_eq_true] at h
  simp only [flatLs]
  exact ⟨flatQ_ok a h.1, flatQs_ok r h.2⟩
end
theorem flatBQ_ok : ∀ {blks : List Blk}, flatBQ blks = true → flatBs blks
 | [], _ => by simp [flatBs]
 | b :: r, h => by
  simp only [flatBQ, List.all_cons, Bool.and_eq_true] at h
  have h2 := flatBQ_ok (blks := r) h.2
  cases b <;> simp only [Bool.false_eq_true, false_and] at h
  exact ⟨flatQs_ok _ h.1, h2⟩
theorem closedL_len : ∀ {l : List AV} {us : List CV}, closedL l = some us → l.length = us.length
 | [], us, h => by simp only [closedL] at h; cases h; rfl
 | a :: r, us, h => by
  unfold closedL at h
  split at h
  ·rename_i heq; cases heq
  ·rename_i r' heq
   cases heq
   obtain ⟨x, h1, rfl⟩ := Option.map_eq_some_iff.1 h
   simp [closedL_len h1]
  ·rename_i u r' _ heq
   cases heq
   obtain ⟨x, h1, rfl⟩ := Option.map_eq_some_iff.1 h
   simp [closedL_len h1]
  ·cases h
theorem snapK0_src {heap : List (Nat × Blk)} {own own' : List (List (List CV))} {av : AV} {ms : List (List CV)} {cs : List Prop} (h : snapK0 heap own av = some (own', cs, .c (.sl ms))) (hc : AllP cs) : ∃ vs, srcE heap av = some (vs, ms) ∧ vs := by
 unfold snapK0 at h
 split at h
 ·rename_i b k off n
  split at h
  ·rename_i k' es ty es' r hl
   cases e : decide (k = k') with
   | false => rw [e] at h; cases h
   | true =>
    rw [e] at h
    cases h
    obtain ⟨⟨h1, h2⟩, _⟩ := hc
    refine ⟨k = k' ∧ off + n ≤ es.length, ?_, of_decide_eq_true e, h1⟩
    simp only [srcE, hl, h2]
  ·cases h
 ·cases h; exact ⟨_, rfl, trivial⟩
 ·cases h; exact ⟨_, rfl, trivial⟩
 ·cases h
 ·cases h
 ·cases h
theorem nodupQ_ok : ∀ {l : List Nat}, nodupQ l = true → l.Nodup
 | [], _ => List.nodup_nil
 | b :: r, h => by
  simp only [nodupQ, Bool.and_eq_true, Bool.not_eq_true', List.contains_eq_mem, decide_eq_false_iff_not] at h
  exact List.nodup_cons.2 ⟨h.1, nodupQ_ok h.2⟩
theorem hz0_q {π : List Nat} {heap : List (Nat × Blk)} {av x : AV} {v : Prop} (hq : menQ0 π av = true) (h : hz0 π heap av = some (v, x)) : v := by
 unfold menQ0 at hq
 split at hq
 ·rename_i b k off n
  simp only [hz0] at h
  obtain ⟨i, hi⟩ := Option.isSome_iff_exists.1 hq
  rw [hi] at h
  cases h
  trivial
 ·simp only [hz0] at h
  obtain ⟨i, hi⟩ := Option.isSome_iff_exists.1 hq
  rw [hi] at h
  cases h
  trivial
 ·simp only [hz0] at h
  obtain ⟨i, hi⟩ := Option.isSome_iff_exists.1 hq
  rw [hi] at h
  cases h
  trivial
 ·simp only [hz0] at h
  obtain ⟨i, hi⟩ := Option.isSome_iff_exists.1 hq
  rw [hi] at h
  cases h
  trivial
 ·simp only [hz0] at h
  obtain ⟨i, hi⟩ := Option.isSome_iff_exists.1 hq
  rw [hi] at h
  cases h
  trivial
 ·simp only [hz0] at h
  obtain ⟨i, hi⟩ := Option.isSome_iff_exists.1 hq
  rw [hi] at h
  cases h
  trivial
 ·cases h; trivial
 ·cases h; trivial
 ·simp only [hz0] at h
  split at h <;> (cases h; trivial)
 ·simp only [hz0] at h
  unfold frz0 at h
  split at h
  ·cases h; trivial
  ·cases h; trivial
  ·rename_i he; cases he
  ·rename_i he; cases he
  ·rename_i he; cases he
  ·rename_i he; cases he
  ·cases h
 ·simp only [hz0, frz0] at h
  cases h
  trivial
 ·cases hq
theorem frzL_q {fz : AV → Option (Prop × AV)} : ∀ {l : List AV} {v : Prop} {xs : List AV}, (∀ av ∈ l, ∀ v x, fz av = some (v, x) → v) → frzL fz l = some (v, xs) → v
 | [], v, xs, _, h => by cases h; trivial
 | a :: r, v, xs, hq, h => by
  simp only [frzL] at h
  split at h
  ·rename_i v1 x v2 ys h1 h2
   cases h
   exact ⟨hq a List.mem_cons_self _ _ h1, frzL_q (fun av hav => hq av (List.mem_cons_of_mem _ hav)) h2⟩
  ·cases h
theorem hz1_q {π : List Nat} {heap : List (Nat × Blk)} {av x : AV} {v : Prop} (hq : menQ1 π av = true) (h : hz1 π heap av = some (v, x)) : v := by
 unfold menQ1 at hq
 split at hq
 ·rename_i cs
  simp only [hz1] at h
  obtain ⟨p, h1, h2⟩ := Option.map_eq_some_iff.1 h
  cases h2
  simp only [List.all_eq_true] at hq
  exact frzL_q (fun av hav v x hx => hz0_q (hq av hav) hx) h1
 ·rename_i caps
  simp only [hz1] at h
  obtain ⟨p, h1, h2⟩ := Option.map_eq_some_iff.1 h
  cases h2
  simp only [List.all_eq_true] at hq
  exact frzL_q (fun av hav v x hx => hz0_q (hq av hav) hx) h1
 ·simp only [hz1] at h
  cases h
  trivial
 ·rename_i h1 h2 h3
  refine hz0_q (heap := heap) (x := x) hq ?_
  unfold hz1 at h
  split at h
  ·exact absurd rfl (h1 _)
  ·exact absurd rfl (h2 _ _)
  ·exact absurd rfl h3
  ·exact h
theorem hzBs_q {π : List Nat} {heap : List (Nat × Blk)} : ∀ {l : List Nat} {v : Prop} {bs : List Blk}, (∀ b ∈ l, ∀ blk, look heap b = some blk → menQB π blk = true) → hzBs π heap l = some (v, bs) → v
 | [], v, bs, _, h => by cases h; trivial
 | b :: r, v, bs, hq, h => by
  simp only [hzBs] at h
  split at h
  ·rename_i v1 x v2 ys h1 h2
   cases h
   refine ⟨?_, hzBs_q (fun b' hb' => hq b' (List.mem_cons_of_mem _ hb')) h2⟩
   obtain ⟨blk, g1, g2⟩ := Option.bind_eq_some_iff.1 h1
   have hm := hq b List.mem_cons_self blk g1
   cases blk with
   | box cells ty =>
    simp only [hzB] at g2
    obtain ⟨p, h3, h4⟩ := Option.map_eq_some_iff.1 g2
    cases h4
    simp only [menQB, List.all_eq_true] at hm
    exact frzL_q (fun av hav v x hx => hz1_q (hm av hav) hx) h3
   | acc k es ty => cases g2; trivial
   | raw => cases g2; trivial
   | fr arr cells => simp [menQB] at hm
   | lp l rec => simp [menQB] at hm
   | mp es => cases g2; trivial
   | tre T => cases g2; trivial
   | arr k es ty hole =>
    cases hole with
    | none => cases g2; trivial
    | some hole =>
     simp only [hzB] at g2
     obtain ⟨p, h3, h4⟩ := Option.map_eq_some_iff.1 g2
     cases h4
     simp only [menQB, List.all_eq_true] at hm
     exact frzL_q (fun av hav v x hx => hz1_q (hm av hav) hx) h3
   | opn av =>
    simp only [hzB] at g2
    obtain ⟨p, h3, h4⟩ := Option.map_eq_some_iff.1 g2
    cases h4
    exact hz1_q hm h3
  ·cases h
theorem stepK_ok {cx : Cx} {eq : EQ} (heq : EqOk cx.P eq) {tt : TT} (htt : TtOk cx.P tt) {tmps : List (Nat × AV)} {heap : List (Nat × Blk)} {nxt : Nat} {o : Oper} {h : Option (Hint cx.P)} {cs : List Prop} {e : Eff}
  (hk : stepK cx.P eq tt tmps heap nxt o h = some (cs, e)) (hc : AllP cs) : OpW cx o (evT tmps) (look heap) nxt e := by
 have hrk := reckB_ok heq htt
 have main : ∀ {vc e}, reckB eq tt tmps heap nxt o = some (vc, e) → vc → OpW cx o (evT tmps) (look heap) nxt e := fun hr hv => by
  obtain ⟨h1, h2⟩ := hrk _ _ _ _ _ _ hr hv
  exact h1.opW h2
 have quiet : ∀ {vc e l}, reckB eq tt tmps heap nxt o = some (vc, e) → AllP ((bif quietV eq tt tmps heap o then [] else [vc]) ++ l) → vc ∧ AllP l := fun hr hv => by
  obtain ⟨h1, h2⟩ := AllP_app.1 hv
  refine ⟨?_, h2⟩
  cases hq : quietV eq tt tmps heap o with
  | true => exact quiet_ok hq hr
  | false => rw [hq] at h1; exact h1.1
 unfold stepK at hk
 split at hk
 ·split at hk
  ·rename_i vc e' hr
   cases hk
   exact main hr (quiet (l := []) hr (by simpa using hc)).1
  ·cases hk
 ·rename_i av
  split at hk
  ·rename_i vc a wr kl nx hr
   cases hk
   obtain ⟨h1, h2, _⟩ := quiet hr hc
   rw [← h2]
   exact main hr h1
  ·cases hk
 ·rename_i cs'
  split at hk
  ·rename_i t x i hop
   split at hk
   ·rename_i e' k n h1 h2
    split at hk
    ·rename_i size es h3 h4
     cases hd : decide (cs'.length = size) with
     | false => rw [hd] at hk; cases hk
     | true =>
      rw [hd] at hk
      cases hk
      obtain ⟨⟨g1, g2, g3⟩, _⟩ := hc
      have hs := of_decide_eq_true hd
      subst g3
      refine main (vc := 0 ≤ n ∧ n < es.length ∧ (es.getD n.toNat []).length = size) ?_ ⟨g1, g2, hs⟩
      simp only [reckB, lookG, reck, lookE, hop, h1, h2, elemT, Option.bind_some, h3, h4, indexAV]
    ·cases hk
   ·cases hk
  ·rename_i t x hop
   split at hk
   ·rename_i b n p k i off h1 h2
    split at hk
    ·rename_i k' es ty h3
     cases hd : (decide (k = k') && (bif b then decide (off + n ≤ cs'.length) else decide (off < cs'.length))) with
     | false => rw [hd] at hk; cases hk
     | true =>
      rw [hd] at hk
      cases hk
      obtain ⟨⟨g1, g2⟩, _⟩ := hc
      simp only [Bool.and_eq_true, decide_eq_true_eq] at hd
      obtain ⟨hkk, hs⟩ := hd
      subst g2
      cases b with
      | true =>
       refine main (vc := k = k' ∧ i < es.length ∧ off + n ≤ (es.getD i []).length) ?_ ⟨hkk, g1, of_decide_eq_true hs⟩
       simp only [reckB, lookG, reck, lookE, hop, h1, h2, loadAV, h3, cond_true]
      | false =>
       refine main (vc := k = k' ∧ i < es.length ∧ off < (es.getD i []).length) ?_ ⟨hkk, g1, of_decide_eq_true hs⟩
       simp only [reckB, lookG, reck, lookE, hop, h1, h2, loadAV, h3, cond_false]
    ·cases hk
   ·cases hk
  ·cases hk
 ·rename_i cs' es'
  split at hk
  ·rename_i t a x hop
   split at hk
   ·rename_i n us p k i off h1 h2 h3
    split at hk
    ·rename_i k' es ty h4
     cases hd : (decide (k = k') && (decide (us.length = n) && decide (off + us.length ≤ cs'.length))) with
     | false => rw [hd] at hk; cases hk
     | true =>
      rw [hd] at hk
      cases hk
      obtain ⟨⟨g1, g2⟩, g3, _⟩ := hc
      simp only [Bool.and_eq_true, decide_eq_true_eq] at hd
      obtain ⟨hkk, hs1, hs2⟩ := hd
      subst g2
      subst g3
      obtain ⟨xs, h5, h6⟩ := Option.bind_eq_some_iff.1 h2
      have hlen : xs.length = us.length := closedL_len h6
      refine main (vc := k = k' ∧ xs.length = n ∧ i < es.length ∧ off + us.length ≤ (es.getD i []).length) ?_ ⟨hkk, by omega, g1, hs2⟩
      simp only [reckB, lookG, reck, lookE, lookF, newE, hop, h1, h5, h3, storeE, h4, h6, setElem]
    ·cases hk
   ·cases hk
  ·cases hk
 ·split at hk
  ·rename_i t x i hop
   split at hk
   ·rename_i e' _ n h1 h2
    split at hk
    ·rename_i size b k m h3 h4
     cases hd : decide (k = size) with
     | false => rw [hd] at hk; cases hk
     | true =>
      rw [hd] at hk
      cases hk
      obtain ⟨⟨g1, g2⟩, _⟩ := hc
      refine main (vc := 0 ≤ n ∧ n < m ∧ k = size) ?_ ⟨g1, g2, of_decide_eq_true hd⟩
      simp only [reckB, lookG, reck, lookE, hop, h1, h2, elemT, Option.bind_some, h3, h4, indexAV, Nat.zero_add]
    ·cases hk
   ·cases hk
  ·cases hk
 ·rename_i es'
  split at hk
  ·rename_i t x lo hi hop
   split at hk
   ·rename_i e' v1 l v2 h h1 h2 h3
    split at hk
    ·rename_i size es h4 h5
     cases hk
     obtain ⟨⟨g1, g2, g3, g4⟩, _⟩ := hc
     subst g4
     refine main (vc := v1 ∧ v2 ∧ _) ?_ ⟨g1, g2, g3⟩
     simp only [reckB, lookG, reck, lookE, lookF, hop, h1, h2, h3, elemT, h4, h5, sliceAV, Option.map_some]
    ·cases hk
   ·cases hk
  ·cases hk
 ·rename_i ns es' n'
  split at hk
  ·rename_i args tys hop
   split at hk
   ·rename_i s x t t' ha ht
    split at hk
    ·rename_i e' h1
     split at hk
     ·rename_i k by_ _ c ms h2 h3 h4
      cases hd : (decide (t = t') && decide (0 < k)) with
      | false => rw [hd] at hk; cases hk
      | true =>
       rw [hd] at hk
       simp only [Bool.and_eq_true, decide_eq_true_eq] at hd
       obtain ⟨htt', hk0⟩ := hd
       have hsrc : AllP c → ∃ vs, srcE heap (evT tmps x) = some (vs, ms) ∧ vs := fun hcc => snapK0_src h4 hcc
       simp only [cond_true] at hk
       split at hk
       ·rename_i h5
        cases hk
        obtain ⟨hcc, ⟨g1, g2, g3, g4, g5, g6⟩, _⟩ := AllP_app.1 hc
        obtain ⟨vs, hv1, hv2⟩ := hsrc hcc
        simp only [List.nil_append] at g5
        subst g5
        simp only [List.length_nil, Nat.zero_add] at g2 g3 g4 g6
        subst g6
        refine main (vc := t = t' ∧ vs ∧ 0 < k ∧ (∀ u ∈ ms, u.length = k) ∧ ms.length * by_ ≤ 140737488355328 ∧ ms.length ≤ 9223372036854775807) ?_ ⟨htt', hv2, hk0, g1, g3, g4⟩
        simp only [reckB, lookG, reck, lookE, lookF, newE, hop, ha, ht, h1, h2, h3, hv1, h5]
       ·rename_i b k' off n h5
        split at hk
        ·rename_i k'' es ty h6
         cases hd2 : (decide (k' = k) && (decide (k'' = k) && (decide (ty = e') && decide (off = 0)))) with
         | false => rw [hd2] at hk; cases hk
         | true =>
          rw [hd2] at hk
          cases hk
          simp only [Bool.and_eq_true, decide_eq_true_eq] at hd2
          obtain ⟨d1, d2, d3, d4⟩ := hd2
          obtain ⟨hcc, ⟨g1, g2, g3, g4, g5, g6⟩, _⟩ := AllP_app.1 hc
          obtain ⟨vs, hv1, hv2⟩ := hsrc hcc
          subst g5
          subst g6
          refine main (vc := t = t' ∧ vs ∧ 0 < k ∧ k' = k ∧ k'' = k ∧ ty = e' ∧ off = 0 ∧ n = es.length ∧ (∀ u ∈ ms, u.length = k) ∧ (n + ms.length) * by_ ≤ 140737488355328 ∧ n + ms.length ≤ 9223372036854775807) ?_ ⟨htt', hv2, hk0, d1, d2, d3, d4, g2, g1, g3, g4⟩
          simp only [reckB, lookG, reck, lookE, lookF, newE, hop, ha, ht, h1, h2, h3, hv1, h5, h6]
        ·cases hk
       ·cases hk
     ·cases hk
    ·cases hk
   ·cases hk
  ·cases hk
 ·rename_i es' n'
  split at hk
  ·rename_i t l c hop
   split at hk
   ·rename_i e' _ n _ m h1 h2 h3
    split at hk
    ·rename_i z by_ k h4 h5 h6
     cases hd : decide (0 < k) with
     | false => rw [hd] at hk; cases hk
     | true =>
      rw [hd] at hk
      cases hk
      obtain ⟨hnm, ⟨g1, g2, g3, g4, g5⟩, _⟩ := hc
      subst g4
      subst g5
      refine main (vc := n = m ∧ 0 ≤ n ∧ 0 < k ∧ n ≤ 9223372036854775807 ∧ (by_ : Int) * n ≤ 281474976710656) ?_ ⟨hnm, g1, of_decide_eq_true hd, g2, g3⟩
      simp only [reckB, lookG, reck, lookE, lookF, newE, hop, h1, h2, h3, h4, h5, h6]
    ·cases hk
   ·cases hk
  ·cases hk
 ·rename_i f args blks r h own
  split at hk
  ·rename_i g asv hca
   split at hk
   ·rename_i _ c xs hs
    cases hd : ((menLs asv).isEmpty || (flatQ r && flatBQ blks)) with
    | false => rw [hd] at hk; cases hk
    | true =>
     rw [hd] at hk
     cases hk
     simp only [Bool.and_eq_true, Bool.or_eq_true, decide_eq_true_eq, List.isEmpty_iff] at hd
     obtain ⟨h1, h2⟩ := AllP_app.1 hc
     obtain ⟨vc, g1, g2⟩ := snapKL_ok hs h1
     have h3 : xs = args := h2.1.2
     have h4 : g = f := h2.1.1
     subst h3
     subst h4
     have hfl := hd
     exact h.opW g1 g2 (hfl.imp id fun x => ⟨flatQ_ok _ x.1, flatBQ_ok x.2⟩) hca
   ·cases hk
  ·cases hk
 ·split at hk
  ·rename_i t hop
   cases hk
   exact (makeMap_ok hop).opW (by rw [hop]; intro c hc; cases hc)
  ·cases hk
 ·rename_i v
  split at hk
  ·rename_i t m i hop
   split at hk
   ·rename_i k e' b cs' h1 h2 h3
    split at hk
    ·rename_i fs n ks es z h4 h5 h6 h7 h8
     cases hd : (decide (ks.length = n) && v.oneCell') with
     | false => rw [hd] at hk; cases hk
     | true =>
      rw [hd] at hk
      cases hk
      simp only [Bool.and_eq_true, decide_eq_true_eq] at hd
      obtain ⟨g1, g2, g3, g4, _⟩ := hc
      subst g4
      exact (lookup_ok heq htt hop h1 h4 h5 g1 h2 h3 h6 h7 g2 hd.1 g3 hd.2).opW (by rw [hop]; intro c hc; cases hc)
    ·cases hk
   ·cases hk
  ·cases hk
 ·rename_i es'
  split at hk
  ·rename_i t m i y hop
   split at hk
   ·rename_i k e' b cs' v h1 h2 h3 h3'
    split at hk
    ·rename_i fs n ks es h4 h5 h6 h7
     cases hd : decide (ks.length = n) with
     | false => rw [hd] at hk; cases hk
     | true =>
      rw [hd] at hk
      cases hk
      obtain ⟨g1, g3, g4, _⟩ := hc
      subst g4
      exact (mapUpdate_ok heq htt hop h1 h4 h5 g1 h2 h3 h6 h7 h3' (of_decide_eq_true hd) g3).opW (by rw [hop]; intro c hc; cases hc)
    ·cases hk
   ·cases hk
  ·cases hk
 ·rename_i f args r h own
  split at hk
  ·rename_i g asv hca
   split at hk
   ·rename_i _ c xs hs
    cases hd : flatQ r with
    | false => rw [hd] at hk; cases hk
    | true =>
     rw [hd] at hk
     cases hk
     obtain ⟨h1, h2⟩ := AllP_app.1 hc
     obtain ⟨vc, g1, g2⟩ := snapKFL_ok hs h1
     have h3 : xs = args := h2.1.2
     have h4 : g = f := h2.1.1
     subst h3
     subst h4
     have hfl := hd
     exact h.opF g1 g2 (flatQ_ok _ hfl) hca
   ·cases hk
  ·cases hk
 ·rename_i π f args H kp blks r h
  split at hk
  ·rename_i g asv hca
   split at hk
   ·rename_i vb H' vc xs hB hA
    cases hd : (nodupQ π && (π.all (fun b => decide (b < nxt)) && (menQH π heap && asv.all (menQ1 π)))) with
    | false => rw [hd] at hk; cases hk
    | true =>
     rw [hd] at hk
     cases hk
     simp only [menQH, Bool.and_eq_true, decide_eq_true_eq, List.all_eq_true] at hd
     obtain ⟨hn, hlt, hqb, hqa⟩ := hd
     obtain ⟨⟨h0, h1, h2⟩, _⟩ := hc
     subst h0
     subst h1
     subst h2
     refine h.opW π (nodupQ_ok hn) hlt hB (hzBs_q ?_ hB) hA (frzL_q (fun av hav v x hx => hz1_q (hqa av hav) hx) hA) hca
     intro b hb blk hl
     have := hqb b hb
     rw [look_heapR] at hl
     cases hcb : π.contains b with
     | false => rw [hcb] at hl; cases hl
     | true =>
      rw [hcb] at hl
      simp only [cond_true] at hl
      rw [hl] at this
      exact this
   ·cases hk
  ·cases hk
 ·split at hk
  ·rename_i t l c hop
   split at hk
   ·rename_i e' _ n _ m h1 h2 h3
    split at hk
    ·rename_i z by_ h4 h5 h6
     cases hd : (decide (n = m) && (decide (0 ≤ n) && (decide (n ≤ 1048576) && decide (by_ ≤ 1024)))) with
     | false => rw [hd] at hk; cases hk
     | true =>
      rw [hd] at hk
      cases hk
      simp only [Bool.and_eq_true, decide_eq_true_eq] at hd
      obtain ⟨g1, g2, g3, g4⟩ := hd
      have g5 : (by_ : Int) * n ≤ 1024 * 1048576 := Int.mul_le_mul (by omega) g3 g2 (by omega)
      exact (make_box_ok htt hop h1 h2 h3 h4 h5 h6 ⟨g1, g2, by omega, by omega⟩).opW (by rw [hop]; intro c hc; cases hc)
    ·cases hk
   ·cases hk
  ·cases hk
 ·rename_i f ok
  obtain ⟨h1, h2⟩ := ok eq tt heq htt _ _ _ _ _ _ hk hc
  exact h1.opW h2
end Go.Ab
