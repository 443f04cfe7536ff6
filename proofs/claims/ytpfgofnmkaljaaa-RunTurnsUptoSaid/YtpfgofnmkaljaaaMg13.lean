/-
  A region whose order is drawn: one operation more, whichever comes.
-/
import Derived.Test.YtpfgofnmkaljaaaMg05
set_option linter.unusedVariables false
set_option linter.unusedSimpArgs false
namespace Go.Ab
open Go
section
variable {cx : Cx} {ops : Array Oper} {s : Nat → AState} {e : Nat → Eff} {on : Nat → Bool} {rd0 rd anc : Nat → List Nat}
def below (ι : Pl) (n : Nat) : Pl := ⟨fun b => if b < n then ι b else none, fun g => (ι.hid g).bind fun b => if b < n then some b else none⟩
def merge (ι₁ ι : Pl) (n : Nat) : Pl := ⟨fun b => if b < n then ι₁ b else ι b, fun g => match ι₁.hid g with | some b => some b | none => (ι.hid g).bind fun b => if b < n then none else some b⟩
def AbM (A : Nat → Prop) (ι : Pl) (m : Nat) (g : Nat) : Prop := A g ∧ (∀ b c, m ≤ b → ι b ≠ some (.at g c)) ∧ ∀ b, m ≤ b → ι.hid g ≠ some b
theorem below_hid {ι : Pl} {n g b : Nat} : (below ι n).hid g = some b ↔ ι.hid g = some b ∧ b < n := by
 simp only [below, Option.bind_eq_some_iff]
 constructor
 ·rintro ⟨b', h1, h2⟩
  split at h2
  ·rename_i hlt; cases h2; exact ⟨h1, hlt⟩
  ·cases h2
 ·rintro ⟨h1, h2⟩
  exact ⟨b, h1, by rw [if_pos h2]⟩
theorem merge_hid {ι₁ ι : Pl} {n g b : Nat} : (merge ι₁ ι n).hid g = some b ↔ ι₁.hid g = some b ∨ (ι₁.hid g = none ∧ ι.hid g = some b ∧ n ≤ b) := by
 simp only [merge]
 cases h : ι₁.hid g with
 | some b' => simp
 | none =>
  simp only [Option.bind_eq_some_iff]
  constructor
  ·rintro ⟨b', h1, h2⟩
   split at h2
   ·cases h2
   ·rename_i hlt; cases h2; exact .inr ⟨by simp, h1, by omega⟩
  ·rintro (h1 | ⟨_, h1, h2⟩)
   ·cases h1
   ·exact ⟨b, h1, by rw [if_neg (by omega)]⟩
theorem below_at {ι : Pl} {n b g c : Nat} (h : below ι n b = some (.at g c)) : ι b = some (.at g c) ∧ b < n := by
 simp only [below] at h
 split at h
 ·exact ⟨h, by assumption⟩
 ·cases h
theorem below_ok {ι : Pl} {w : World} (hok : Ok ι w) (n : Nat) : Ok (below ι n) w := ⟨fun b b' g c c' h1 h2 => hok.inj b b' g c c' (below_at h1).1 (below_at h2).1, fun b g c h1 => hok.lt b g c (below_at h1).1, fun g b h1 => hok.hlt g b (below_hid.1 h1).1,
 fun g b h1 b' c h2 => hok.hdis g b (below_hid.1 h1).1 b' c (below_at h2).1, fun g b h1 => by
  have := below_hid.1 h1
  simp only [below, if_pos this.2]
  exact hok.hlaid g b this.1⟩
theorem abM_new {A : Nat → Prop} {ι : Pl} {w : World} (hok : Ok ι w) (m : Nat) {g : Nat} (hA : A g) (hg : w.heap.size ≤ g) : AbM A ι m g := ⟨hA, fun b c _ hb => by have := hok.lt b g c hb; omega, fun b _ hb => by have := hok.hlt g b hb; omega⟩
theorem still_below {A : Nat → Prop} {ι : Pl} {w : World} {n m : Nat} (hok : Ok ι w) (hnm : n ≤ m) (hf : ∀ b, n ≤ b → b < m → ι b = none) (g : Nat) : Still A ι w g ↔ Still (AbM A ι m) (below ι n) w g := by
 constructor
 ·rintro ⟨⟨⟨h1, h0⟩, h2⟩, h3⟩
  refine ⟨⟨⟨⟨h1, fun b c _ => h3 b c, fun b _ e => by rw [h0] at e; cases e⟩, by simp [below, h0]⟩, h2⟩, fun b c hb => ?_⟩
  simp only [below] at hb
  split at hb
  ·exact h3 b c hb
  ·cases hb
 ·rintro ⟨⟨⟨⟨h1, h4, h5⟩, h0⟩, h2⟩, h3⟩
  refine ⟨⟨⟨h1, ?_⟩, h2⟩, fun b c hb => ?_⟩
  ·cases hb : ι.hid g with
   | none => rfl
   | some b =>
    by_cases hbn : b < n
    ·have := below_hid.2 ⟨hb, hbn⟩; rw [h0] at this; cases this
    ·by_cases hbm : b < m
     ·exact absurd (hf b (by omega) hbm) (hok.hlaid g b hb)
     ·exact absurd hb (h5 b (by omega))
  by_cases hbn : b < n
  ·exact h3 b c (by simp [below, hbn, hb])
  ·by_cases hbm : b < m
   ·rw [hf b (by omega) hbm] at hb; cases hb
   ·exact h4 b c (by omega) hb
theorem still_merge {A : Nat → Prop} {ι ι₁ : Pl} {w' : World} {m : Nat} (hf : ∀ b, m ≤ b → ι₁ b = none) (g : Nat) : Still (AbM A ι m) ι₁ w' g → Still A (merge ι₁ ι m) w' g := by
 rintro ⟨⟨⟨⟨h1, h4, h5⟩, h0⟩, h2⟩, h3⟩
 refine ⟨⟨⟨h1, ?_⟩, h2⟩, fun b c hb => ?_⟩
 ·cases hb : (merge ι₁ ι m).hid g with
  | none => rfl
  | some b =>
   rcases merge_hid.1 hb with h | ⟨_, h, hm⟩
   ·rw [h0] at h; cases h
   ·exact absurd h (h5 b hm)
 simp only [merge] at hb
 split at hb
 ·exact h3 b c hb
 ·exact h4 b c (by omega) hb
theorem step_merge {ι ι₁ : Pl} {w w' : World} {wr : Nat → Prop} {n m : Nat} {k : List Nat} (hnm : n ≤ m) (hok : Ok ι w) (hf : ∀ b, n ≤ b → b < m → ι b = none) (hf₁ : ∀ b, m ≤ b → ι₁ b = none)
  (h : StepR (below ι n) w ι₁ w' wr (fun b => b ∈ k ∨ n ≤ b)) : StepR ι w (merge ι₁ ι m) w' wr (fun b => b ∈ k ∨ n ≤ b ∧ b < m) := by
 have hown : ∀ g, ((∃ b' c', below ι n b' = some (.at g c')) ∨ ∃ b', (below ι n).hid g = some b') → (∃ b' c', b' < n ∧ ι b' = some (.at g c')) ∨ ∃ b', b' < n ∧ ι.hid g = some b' := by
  rintro g (⟨b', c', hc⟩ | ⟨b', hc⟩)
  ·simp only [below] at hc
   split at hc
   ·exact .inl ⟨b', c', by assumption, hc⟩
   ·cases hc
  ·have := below_hid.1 hc
   exact .inr ⟨b', this.2, this.1⟩
 have hlt : ∀ b g c, ι₁ b = some (.at g c) → ((∃ b' c', b' < n ∧ ι b' = some (.at g c')) ∨ ∃ b', b' < n ∧ ι.hid g = some b') ∨ w.heap.size ≤ g := fun b g c hb => (h.fresh b g c hb).imp (hown g) id
 have hlh : ∀ g b, ι₁.hid g = some b → ((∃ b' c', b' < n ∧ ι b' = some (.at g c')) ∨ ∃ b', b' < n ∧ ι.hid g = some b') ∨ w.heap.size ≤ g := fun g b hb => (h.hfresh g b hb).imp (hown g) id
 -- what ι₁ owns is not owned by numbers from m on
 have hapart : ∀ g, (((∃ b' c', b' < n ∧ ι b' = some (.at g c')) ∨ ∃ b', b' < n ∧ ι.hid g = some b') ∨ w.heap.size ≤ g) → (∀ b c, m ≤ b → ι b ≠ some (.at g c)) ∧ ∀ b, m ≤ b → ι.hid g ≠ some b := by
  rintro g ((⟨b', c', hb', hc⟩ | ⟨b', hb', hc⟩) | hg)
  ·exact ⟨fun b c hb h1 => by have := hok.inj _ _ _ _ _ hc h1; omega, fun b hb h1 => hok.hdis g b h1 b' c' hc⟩
  ·exact ⟨fun b c hb h1 => hok.hdis g b' hc b c h1, fun b hb h1 => by rw [hc] at h1; cases h1; omega⟩
  ·exact ⟨fun b c hb h1 => by have := hok.lt _ _ _ h1; omega, fun b hb h1 => by have := hok.hlt _ _ h1; omega⟩
 have hnone : ∀ g b, m ≤ b → ι₁.hid g ≠ some b := fun g b hb h1 => h.ok.hlaid g b h1 (hf₁ b hb)
 refine ⟨h.os, h.tape, h.output, h.size, fun b hb => ?_, fun b g c hb => ?_, fun g hg hw hw2 => h.block g hg (fun b c hwb hc => ?_) (fun b hwb hc => hw2 b hwb (below_hid.1 hc).1), ⟨fun b b' g c c' h1 h2 => ?_, fun b g c h1 => ?_, fun g b h1 => ?_, fun g b h1 b' c h2 => ?_, fun g b h1 => ?_⟩, fun g b hwb hkb hb => ?_, fun g b hb => ?_⟩
 ·simp only [merge]
  split
  ·rename_i hbm
   by_cases hbn : b < n
   ·rw [h.keep b (by rintro (hk | hk); exact hb (.inl hk); omega)]
    simp [below, hbn]
   ·exact absurd (Or.inr ⟨by omega, hbm⟩) hb
  ·rfl
 ·simp only [merge] at hb
  split at hb
  ·rcases hlt b g c hb with (⟨b', c', _, h1⟩ | ⟨b', _, h1⟩) | h1
   ·exact .inl (.inl ⟨b', c', h1⟩)
   ·exact .inl (.inr ⟨b', h1⟩)
   ·exact .inr h1
  ·exact .inl (.inl ⟨b, c, hb⟩)
 ·simp only [below] at hc
  split at hc
  ·exact hw b c hwb hc
  ·cases hc
 ·simp only [merge] at h1 h2
  split at h1 <;> split at h2
  ·exact h.ok.inj b b' g c c' h1 h2
  ·exact absurd h2 ((hapart g (hlt b g c h1)).1 b' c' (by omega))
  ·exact absurd h1 ((hapart g (hlt b' g c' h2)).1 b c (by omega))
  ·exact hok.inj b b' g c c' h1 h2
 ·simp only [merge] at h1
  split at h1
  ·exact h.ok.lt b g c h1
  ·exact Nat.lt_of_lt_of_le (hok.lt b g c h1) h.size
 ·rcases merge_hid.1 h1 with h1 | ⟨_, h1, _⟩
  ·exact h.ok.hlt g b h1
  ·exact Nat.lt_of_lt_of_le (hok.hlt g b h1) h.size
 ·simp only [merge] at h2
  rcases merge_hid.1 h1 with h1 | ⟨_, h1, hm⟩
  ·split at h2
   ·exact h.ok.hdis g b h1 b' c h2
   ·exact (hapart g (hlh g b h1)).1 b' c (by omega) h2
  ·split at h2
   ·exact (hapart g (hlt b' g c h2)).2 b hm h1
   ·exact hok.hdis g b h1 b' c h2
 ·rcases merge_hid.1 h1 with h1 | ⟨_, h1, hm⟩
  ·have hbm : b < m := Nat.lt_of_not_le fun hle => hnone g b hle h1
   simp only [merge, if_pos hbm]
   exact h.ok.hlaid g b h1
  ·simp only [merge, if_neg (show ¬ b < m by omega)]
   exact hok.hlaid g b h1
 ·by_cases hbn : b < n
  ·exact merge_hid.2 (.inl (h.hkeep g b hwb (by rintro (hk | hk); exact hkb (.inl hk); omega) (below_hid.2 ⟨hb, hbn⟩)))
  ·have hbm : m ≤ b := Nat.le_of_not_lt fun hlt => hkb (.inr ⟨by omega, hlt⟩)
   refine merge_hid.2 (.inr ⟨?_, hb, hbm⟩)
   cases h1 : ι₁.hid g with
   | none => rfl
   | some b1 => exact absurd hb ((hapart g (hlh g b1 h1)).2 b hbm)
 ·rcases merge_hid.1 hb with h1 | ⟨_, h1, hm⟩
  ·rcases hlh g b h1 with (⟨b', c', _, h2⟩ | ⟨b', _, h2⟩) | h2
   ·exact .inl (.inl ⟨b', c', h2⟩)
   ·exact .inl (.inr ⟨b', h2⟩)
   ·exact .inr h2
  ·exact .inl (.inr ⟨b, h1⟩)
theorem rep_in {A : Nat → Prop} {ι : Pl} {w : World} {n m : Nat} (hok : Ok ι w) (hnm : n ≤ m) (hf : ∀ b, n ≤ b → b < m → ι b = none) {av x} (h : Rep (Still A ι w) ι w av x) (hm : ∀ b, Men b av → b < n) :
  Rep (Still (AbM A ι m) (below ι n) w) (below ι n) w av x :=
 h.mono (fun g hg => ⟨(still_below hok hnm hf g).1 hg, rfl⟩) fun b hb => by simp [below, hm b hb]
theorem blk_in {A : Nat → Prop} {ι : Pl} {w : World} {n m : Nat} (hok : Ok ι w) (hnm : n ≤ m) (hf : ∀ b, n ≤ b → b < m → ι b = none) {b : Nat} {blk : Blk} (h : BlkRep (Still A ι w) ι w b blk) (hb : b < n)
  (hm : ∀ (k : Nat) av, blk.avs[k]? = some av → ∀ b', Men b' av → b' < n) :
  BlkRep (Still (AbM A ι m) (below ι n) w) (below ι n) w b blk := by
 have e : below ι n b = ι b := by simp [below, hb]
 exact h.turn (fun g hg => ⟨(still_below hok hnm hf g).1 hg, rfl⟩) e (fun _ _ _ => rfl) (fun g hg => ⟨below_hid.2 ⟨hg, hb⟩, rfl⟩) fun i av x ha hx => rep_in hok hnm hf hx (hm i av ha)
theorem rep_out {A : Nat → Prop} {ι ι₁ : Pl} {w' : World} {m : Nat} (hf : ∀ b, m ≤ b → ι₁ b = none) {av x} (h : Rep (Still (AbM A ι m) ι₁ w') ι₁ w' av x) :
  Rep (Still A (merge ι₁ ι m) w') (merge ι₁ ι m) w' av x :=
 h.mono (fun g hg => ⟨still_merge hf g hg, rfl⟩) fun b hb => by
  have : b < m := Nat.lt_of_not_le fun hle => h.men b hb (hf b hle)
  simp [merge, this]
theorem blkrep_some {I : Nat → Prop} {ι : Pl} {w : World} {b : Nat} {blk : Blk} (h : BlkRep I ι w b blk) : ι b ≠ none := by cases h <;> simp [*]
theorem blk_out {A : Nat → Prop} {ι ι₁ : Pl} {w' : World} {m : Nat} (hf : ∀ b, m ≤ b → ι₁ b = none) {b : Nat} {blk : Blk} (h : BlkRep (Still (AbM A ι m) ι₁ w') ι₁ w' b blk) :
  BlkRep (Still A (merge ι₁ ι m) w') (merge ι₁ ι m) w' b blk := by
 have hb : b < m := Nat.lt_of_not_le fun hle => blkrep_some h (hf b hle)
 have e : merge ι₁ ι m b = ι₁ b := by simp [merge, hb]
 exact h.turn (fun g hg => ⟨still_merge hf g hg, rfl⟩) e (fun _ _ _ => rfl) (fun g hg => ⟨merge_hid.2 (.inl hg), rfl⟩) fun i av x ha hx => rep_out hf hx
theorem InvD.after (T : Tr cx ops s e on rd0 rd anc) {L : Nat → Bool} {ι : Pl} {a : Act} {w : World} (I : InvD cx ops s e rd0 L ι a w)
  (hanc : ∀ i o, ops[i]? = some o → L i = true → ∀ p ∈ anc i, L p = true) {j : Nat} {oj : Oper} (hj : ops[j]? = some oj) (hL : L j = false) (hjanc : ∀ p ∈ anc j, L p = true)
  {v : Value} {ι₁ : Pl} {w' : World}
  (hv : Rep (Still (AbM cx.A ι (e j).next) ι₁ w') ι₁ w' ((e j).res.getD (.tup [])) v)
  (hst : StepR (below ι (s j).nxt) w ι₁ w' (fun b => ∃ blk, (b, blk) ∈ (e j).wr) ((e j).kills (s j).nxt))
  (hwr : ∀ p ∈ (e j).wr, BlkRep (Still (AbM cx.A ι (e j).next) ι₁ w') ι₁ w' p.1 p.2) (hf₁ : ∀ b, (e j).next ≤ b → ι₁ b = none) (hkw : ∀ k, k ∈ (e j).kill → ∃ blk, (k, blk) ∈ (e j).wr) :
  InvD cx ops s e rd0 (fun i => i == j || L i) (merge ι₁ ι (e j).next) (a.put oj.dst v) w' := by
 have hjsz : j < ops.size := (Array.getElem?_eq_some_iff.1 hj).1
 have hnx := T.nx j oj hj
 have hfj := I.free j hjsz hL
 have hS := step_merge (k := (e j).kill) hnx I.ok hfj hf₁ hst
 have hstill := hS.still (A := cx.A)
 -- a kill of j that a later place's value still bears
 have late : ∀ i t av k, j < i → i ≤ ops.size → k ∈ (e j).kill → oj.dst ≠ some t → (∀ (p : Nat) (o : Oper), p < i → ops[p]? = some o → o.dst = some t → (p == j || L p) = true) → look (s i).tmps t = some av → ¬ Men k av := by
  intro i t av k hji hi hk hdt hw hl hm
  by_cases hex : ∃ (p : Nat) (o : Oper), j < p ∧ p < i ∧ ops[p]? = some o ∧ o.dst = some t
  ·obtain ⟨p, o, h1, h2, h3, h4⟩ := hex
   obtain ⟨av0, h5, h6⟩ := T.between (t := t) (p + 1) i (by omega) hi (fun r o' hr1 hr2 hr3 hr4 => T.dist p r o o' t (by omega) h3 hr3 h4 hr4) av hl
   rw [T.step p o h3, AState.apply, h4, look_putT_eq] at h5
   have hpL : L p = true := by
    have := hw p o h2 h3 h4
    have hne : (p == j) = false := by simp; omega
    simpa [hne] using this
   cases hres : (e p).res with
   | none =>
    rw [hres] at h5
    simp at h5
    subst h5
    have := h6.men hm
    cases this with
    | tup _ i av hi hm => simp at hi
   | some r =>
    rw [hres] at h5
    simp at h5
    subst h5
    obtain ⟨blk, hblk⟩ := hkw k hk
    have hrd := T.rdR p o _ k h3 hres (h6.men hm)
    have := hanc p o h3 hpL j (T.c3 j p oj o k blk h1 hj h3 hblk (.inl hrd))
    rw [hL] at this; cases this
  ·have hex' : ∀ (r : Nat) (o : Oper), j + 1 ≤ r → r < i → ops[r]? = some o → o.dst ≠ some t := fun r o h1 h2 h3 h4 => hex ⟨r, o, h1, h2, h3, h4⟩
   obtain ⟨av0, h5, h6⟩ := T.between (t := t) (j + 1) i hji hi hex' av hl
   rw [T.step j oj hj, AState.apply, look_putT_ne hdt, look_killT] at h5
   simp only [Option.map_eq_some_iff] at h5
   obtain ⟨av1, _, rfl⟩ := h5
   exact killsAV_men hk (h6.men hm)
 have keepTmp : ∀ t, oj.dst ≠ some t → (a.put oj.dst v).tmps.getD t undef = a.tmps.getD t undef := fun t ht => by
  cases hd : oj.dst with
  | none => rfl
  | some d =>
   have hne : d ≠ t := fun e => ht (by rw [hd, e])
   simp only [Act.put, Array.getD_eq_getD_getElem?, Array.getElem?_setIfInBounds_ne hne]
 refine ⟨hS.ok, ?_, ?_, ?_, fun b hb => ?_, fun i hi hLi b hb1 hb2 => ?_, fun i t hi hlook hw av hl => ?_, fun i b hi hlook hw blk hl => ?_⟩
 ·have : (a.put oj.dst v).defers = a.defers := by cases oj.dst <;> rfl
  rw [this]
  exact I.defers.step hS
 ·cases hd : oj.dst <;> simp [Act.put, I.size]
 ·exact I.base.step hS
 ·have := T.nxt1 hjsz (Nat.le_refl _)
  simp only [merge]
  rw [if_neg (by omega)]
  exact I.high b hb
 ·simp only [Bool.or_eq_false_iff, beq_eq_false_iff_ne] at hLi
  have hold := I.free i hi hLi.2 b hb1 hb2
  simp only [merge]
  split
  ·rename_i hlt
   rcases Nat.lt_or_gt_of_ne hLi.1 with h | h
   ·have h1 := T.nxt1 h (Nat.le_of_lt hjsz)
    rw [hst.keep b ?_]
    ·simp [below, hold]
    ·rintro (hk | hk)
     ·rcases T.kl j oj b hj hk with ⟨x, hx, hm⟩ | ⟨b0, blk0, q0, av0, hb0, hl0, ha0, hm0⟩
      case inr =>
       have hold0 := I.heap j b0 (Nat.le_of_lt hjsz) (fun o ho => ⟨hL, hb0⟩) (fun p blk' hp hbw => by
        have hpo : ops[p]? = some ops[p] := Array.getElem?_eq_getElem (by omega)
        exact hjanc p (T.c3 p j _ oj b0 blk' hp hpo hj hbw (.inl (T.sub j oj b0 hj hb0)))) blk0 hl0
       obtain ⟨x0, hx0⟩ := hold0.avs ha0
       exact hx0.men b hm0 hold
      have hrep : Rep (Still cx.A ι w) ι w (evT (s j).tmps x) (a.eval x) := by
       cases x with
       | tmp t =>
        simp only [evT, Act.eval]
        cases hl : look (s j).tmps t with
        | none => exact .top _
        | some av =>
         have ht : t ∈ oj.looksAt ops := List.mem_append_left _ (List.mem_filterMap.2 ⟨.tmp t, by simpa using hx, rfl⟩)
         exact I.tmps j t (Nat.le_of_lt hjsz) (fun o ho => by rw [hj] at ho; cases ho; exact ⟨hL, ht⟩) (fun p o hp ho hd => hjanc p (T.c1 p j o oj t hp ho hj hd ht)) av hl
       | const v => exact .const v
       | global g => exact .c _ _ (.val _ rfl)
       | func f => exact .clo f [] [] rfl (fun i av x ha _ => by simp at ha)
      exact hrep.men b hm hold
     ·omega
   ·have h1 := T.nxt1 h (Nat.le_of_lt hi)
    omega
  ·exact hold
 ·-- slots
  by_cases hdt : oj.dst = some t
  ·have hji : j < i := by
    rcases Nat.lt_trichotomy j i with h | h | h
    ·exact h
    ·subst h
     have := (hlook oj hj).1
     simp at this
    ·have hio : ops[i]? = some ops[i] := Array.getElem?_eq_getElem (by omega)
     have h1 := hlook _ hio
     have h2 := hjanc i (T.c2 i j _ oj t h hio hj hdt h1.2)
     simp [h2] at h1
   obtain ⟨av0, h5, h6⟩ := T.between (t := t) (j + 1) i hji hi (fun r o' hr1 hr2 hr3 hr4 => T.dist j r oj o' t (by omega) hj hr3 hdt hr4) av hl
   rw [T.step j oj hj, AState.apply, hdt, look_putT_eq] at h5
   cases h5
   have hlt := T.dst j oj t hj hdt
   have hval : (a.put oj.dst v).tmps.getD t undef = v := by
    rw [hdt]
    simp only [Act.put]
    simp [Array.getD, I.size, hlt]
   rw [hval]
   exact h6.rep (rep_out hf₁ hv)
  ·rw [keepTmp t hdt]
   have hold := I.tmps i t hi (fun o ho => ⟨by have := (hlook o ho).1; simp at this; exact this.2, (hlook o ho).2⟩) (fun p o hp ho hd => by
    have := hw p o hp ho hd
    have hne : (p == j) = false := by
     cases hpj : p == j with
     | false => rfl
     | true => have := eq_of_beq hpj; subst this; rw [hj] at ho; cases ho; exact absurd hd hdt
    simpa [hne] using this) av hl
   refine hS.rep hold fun b hb hk => ?_
   rcases hk with hk | ⟨h1, h2⟩
   ·rcases Nat.lt_trichotomy j i with h | h | h
    ·exact late i t av b h hi hk hdt hw hl hb
    ·subst h
     have := (hlook oj hj).1
     simp at this
    ·have hio : ops[i]? = some ops[i] := Array.getElem?_eq_getElem (by omega)
     have h1 := hlook _ hio
     obtain ⟨blk, hblk⟩ := hkw b hk
     have hbr : b ∈ rd i := by
      have ht := h1.2
      simp only [Oper.looksAt, List.mem_append, List.mem_filterMap] at ht
      rcases ht with ⟨x, hx, hxt⟩ | ht
      ·have hx' : x = .tmp t := by cases x <;> simp at hxt; subst hxt; rfl
       subst hx'
       exact T.rd0M i _ (.tmp t) b hio (by simpa using hx) (by simp only [evT, hl, Option.getD_some]; exact hb)
      ·exfalso
       rcases T.want i _ hio with ⟨hg, _⟩ | ⟨q, want, hg, hy⟩
       ·simp [hg] at ht
       ·simp only [hg, Option.mem_toList, Option.mem_def] at ht
        have hyt : yAV ops (s i).tmps q = av := by simp only [yAV, ht, hl, Option.getD_some]
        rcases hy with ⟨bb, hy, _⟩ | ⟨hy, _⟩
        ·rw [hyt] at hy; subst hy; cases hb
        ·rw [hyt] at hy
         subst hy
         cases hb with
         | tup _ q' av' hq _ => simp at hq
     have h2 := hjanc i (T.c4 i j _ oj b blk h hio hj hblk hbr)
     simp [h2] at h1
   ·exact hold.men b hb (hfj b h1 h2)
 ·-- blocks
  by_cases hbw : ∃ blk, (b, blk) ∈ (e j).wr
  ·obtain ⟨blk0, hblk0⟩ := hbw
   have hji : j < i := by
    rcases Nat.lt_trichotomy j i with h | h | h
    ·exact h
    ·subst h
     have := (hlook oj hj).1
     simp at this
    ·have hio : ops[i]? = some ops[i] := Array.getElem?_eq_getElem (by omega)
     have h1 := hlook _ hio
     have h2 := hjanc i (T.c4 i j _ oj b blk0 h hio hj hblk0 (T.sub i _ b hio h1.2))
     simp [h2] at h1
   obtain ⟨x0, h5, h6⟩ := T.betweenB (b := b) (j + 1) i hji hi (fun r blk' hr1 hr2 hr3 => by
    have hro : ops[r]? = some ops[r] := Array.getElem?_eq_getElem (by omega)
    have h1 := hw r blk' hr2 hr3
    have hne : (r == j) = false := by simp; omega
    have h2 : L r = true := by simpa [hne] using h1
    have := hanc r _ hro h2 j (T.c3 j r oj _ b blk0 (by omega) hj hro hblk0 (.inr ⟨blk', hr3⟩))
    rw [hL] at this; cases this) blk hl
   rw [T.step j oj hj, AState.apply, upd, look_append] at h5
   cases hlw : look (e j).wr b with
   | none => exact absurd hblk0 (look_none hlw blk0)
   | some y =>
    rw [hlw] at h5
    simp at h5
    subst h5
    exact h6.rep (blk_out hf₁ (hwr _ (look_mem hlw)))
  ·have hold := I.heap i b hi (fun o ho => ⟨by have := (hlook o ho).1; simp at this; exact this.2, (hlook o ho).2⟩) (fun p blk' hp hb' => by
    have := hw p blk' hp hb'
    have hne : (p == j) = false := by
     cases hpj : p == j with
     | false => rfl
     | true => have := eq_of_beq hpj; subst this; exact absurd ⟨_, hb'⟩ hbw
    simpa [hne] using this) blk hl
   refine hS.blk I.ok hold hbw ?_ ?_
   ·rintro (hk | ⟨h1, h2⟩)
    ·exact hbw (hkw b hk)
    ·exact blkrep_some hold (hfj b h1 h2)
   ·rintro q av ha b' hb' (hk | ⟨h1, h2⟩)
    ·obtain ⟨blk', hblk'⟩ := hkw b' hk
     rcases Nat.lt_trichotomy j i with h | h | h
     ·by_cases hex : ∃ p blk, j < p ∧ p < i ∧ (b, blk) ∈ (e p).wr
      ·-- the last writer
       have hlast : ∀ n p blk, i - p = n → j < p → p < i → (b, blk) ∈ (e p).wr → ∃ p blk, j < p ∧ p < i ∧ (b, blk) ∈ (e p).wr ∧ ∀ r blk', p + 1 ≤ r → r < i → (b, blk') ∉ (e r).wr := by
        intro n
        induction n using Nat.strongRecOn with
        | _ n ih =>
         intro p blk hn h1 h2 h3
         by_cases hmore : ∃ r blk', p + 1 ≤ r ∧ r < i ∧ (b, blk') ∈ (e r).wr
         ·obtain ⟨r, blk', g1, g2, g3⟩ := hmore
          exact ih (i - r) (by omega) r blk' rfl (by omega) g2 g3
         ·exact ⟨p, blk, h1, h2, h3, fun r blk' g1 g2 g3 => hmore ⟨r, blk', g1, g2, g3⟩⟩
       obtain ⟨p0, blk00, g1, g2, g3⟩ := hex
       obtain ⟨p, blk1, h1, h2, h3, h4⟩ := hlast _ p0 blk00 rfl g1 g2 g3
       have hpo : ops[p]? = some ops[p] := Array.getElem?_eq_getElem (by omega)
       obtain ⟨x0, h5, h6⟩ := T.betweenB (b := b) (p + 1) i h2 hi h4 _ hl
       rw [T.step p _ hpo, AState.apply, upd, look_append] at h5
       cases hlw : look (e p).wr b with
       | none => exact absurd h3 (look_none hlw blk1)
       | some y =>
        rw [hlw] at h5
        simp at h5
        subst h5
        obtain ⟨av', hc', hm'⟩ := h6.men ha hb'
        have hrd := T.rdW p _ b _ q av' b' hpo (look_mem hlw) hc' hm'
        have hpL : L p = true := by
         have := hw p blk1 h2 h3
         have hne : (p == j) = false := by simp; omega
         simpa [hne] using this
        have := hanc p _ hpo hpL j (T.c3 j p oj _ b' blk' h1 hj hpo hblk' (.inl hrd))
        rw [hL] at this; cases this
      ·obtain ⟨x0, h5, h6⟩ := T.betweenB (b := b) (j + 1) i h hi (fun r blk' g1 g2 g3 => hex ⟨r, blk', g1, g2, g3⟩) _ hl
       rw [T.step j oj hj, AState.apply, upd, look_append] at h5
       have hn : look (e j).wr b = none := by
        cases hlw : look (e j).wr b with
        | none => rfl
        | some y => exact absurd ⟨y, look_mem hlw⟩ hbw
       simp only [hn, Option.none_or, look_killH, Option.map_eq_some_iff] at h5
       obtain ⟨x1, _, rfl⟩ := h5
       obtain ⟨av', hc', hm'⟩ := h6.men ha hb'
       rw [avs_killsB] at hc'
       obtain ⟨y, _, rfl⟩ := getElem?_map' hc'
       exact killsAV_men hk hm'
     ·subst h
      have := (hlook oj hj).1
      simp at this
     ·have hio : ops[i]? = some ops[i] := Array.getElem?_eq_getElem (by omega)
      have h1 := hlook _ hio
      have hbr := T.rdB i _ b _ q av b' hio h1.2 hl ha hb'
      have h2 := hjanc i (T.c4 i j _ oj b' blk' h hio hj hblk' hbr)
      simp [h2] at h1
    ·obtain ⟨x, hx⟩ := hold.avs ha
     exact hx.men b' hb' (hfj b' h1 h2)
end
end Go.Ab
