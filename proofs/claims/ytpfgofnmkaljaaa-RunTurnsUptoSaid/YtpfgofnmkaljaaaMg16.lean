/-
  A function's contract with blocks lent to be written: out of its body, and at a call.
-/
import Derived.Test.YtpfgofnmkaljaaaMg15
set_option linter.unusedVariables false
set_option linter.unusedSimpArgs false
namespace Go.Ab
open Go Go.RowKit
mutual
def renAV (ρ : Nat → Nat) : AV → AV
 | .own b k off m => .own (ρ b) k off m
 | .osl b off m => .osl (ρ b) off m
 | .mref b => .mref (ρ b)
 | .ptr b off => .ptr (ρ b) off
 | .aptr b k i off => .aptr (ρ b) k i off
 | .pl b p => .pl (ρ b) p
 | .tr b => .tr (ρ b)
 | .clo f caps => .clo f (renLs ρ caps)
 | .agg cs => .agg (renLs ρ cs)
 | .tup cs => .tup (renLs ρ cs)
 | .top => .top
 | .c u => .c u
 | .cel cs => .cel cs
def renLs (ρ : Nat → Nat) : List AV → List AV
 | [] => []
 | a :: r => renAV ρ a :: renLs ρ r
end
def renBlk (ρ : Nat → Nat) : Blk → Blk
 | .box cells ty => .box (renLs ρ cells) ty
 | .acc k es ty => .acc k es ty
 | .raw => .raw
 | .fr arr cells => .fr arr (renLs ρ cells)
 | .lp l rec => .lp l rec
 | .mp es => .mp es
 | .tre T => .tre T
 | .arr k es ty hole => .arr k es ty (hole.map fun h => (h.1, renLs ρ h.2))
 | .opn av => .opn (renAV ρ av)
def renBs (ρ : Nat → Nat) : Nat → List Blk → List (Nat × Blk)
 | _, [] => []
 | i, b :: r => (ρ i, renBlk ρ b) :: renBs ρ (i + 1) r
theorem renLs_get (ρ : Nat → Nat) : ∀ (l : List AV) (i : Nat), (renLs ρ l)[i]? = (l[i]?).map (renAV ρ)
 | [], i => by simp [renLs]
 | a :: r, 0 => by simp [renLs]
 | a :: r, i + 1 => by simpa [renLs] using renLs_get ρ r i
theorem renLs_len (ρ : Nat → Nat) : ∀ (l : List AV), (renLs ρ l).length = l.length
 | [] => rfl
 | a :: r => by simp [renLs, renLs_len ρ r]
theorem renBs_mem {ρ : Nat → Nat} {p : Nat × Blk} : ∀ {l : List Blk} {i : Nat}, p ∈ renBs ρ i l → ∃ (j : Nat) (b : Blk), l[j]? = some b ∧ p = (ρ (i + j), renBlk ρ b)
 | [], i, h => by cases h
 | b :: r, i, h => by
  simp only [renBs] at h
  rcases List.mem_cons.1 h with rfl | h
  ·exact ⟨0, b, rfl, rfl⟩
  ·obtain ⟨j, b', h1, rfl⟩ := renBs_mem h
   exact ⟨j + 1, b', by simpa using h1, by rw [show i + 1 + j = i + (j + 1) by omega]⟩
theorem mem_renBs {ρ : Nat → Nat} : ∀ {l : List Blk} {i j : Nat} {b : Blk}, l[j]? = some b → (ρ (i + j), renBlk ρ b) ∈ renBs ρ i l
 | [], i, j, b, h => by simp at h
 | x :: r, i, 0, b, h => by simp at h; subst h; exact List.mem_cons_self
 | x :: r, i, j + 1, b, h => by
  have := mem_renBs (ρ := ρ) (l := r) (i := i + 1) (j := j) (by simpa using h)
  rw [show i + 1 + j = i + (j + 1) by omega] at this
  exact List.mem_cons_of_mem _ this
theorem ren_rep {I : Nat → Prop} {ι ι₂ : Pl} {w : World} {ρ : Nat → Nat} (h : ∀ b, ι b ≠ none → ι₂ (ρ b) = ι b) {av x} (hr : Rep I ι w av x) : Rep I ι₂ w (renAV ρ av) x := by
 induction hr with
 | top x => exact .top x
 | c u x hu => exact .c u x hu
 | ownNil b k hb => exact .ownNil _ k (by rw [h b (by simp [hb])]; exact hb)
 | own b k off n' g cap a cc hb h0 h1 h2 hq => exact .own _ k off n' g cap a cc (by rw [h b (by simp [hb])]; exact hb) h0 h1 h2 hq
 | osl b off n' g cap cc hb h2 => exact .osl _ off n' g cap cc (by rw [h b (by simp [hb])]; exact hb) h2
 | mref b g cap hb => exact .mref _ g cap (by rw [h b (by simp [hb])]; exact hb)
 | ptr b off g cap hb => exact .ptr _ off g cap (by rw [h b (by simp [hb])]; exact hb)
 | aptr b k i off g cap hb => exact .aptr _ k i off g cap (by rw [h b (by simp [hb])]; exact hb)
 | pl b p x hb => exact .pl _ p x (by rw [h b (by simp [hb])]; exact hb)
 | tr b x h0 hb => exact .tr _ x h0 (by rw [h b (by simp [hb])]; exact hb)
 | cel cs a hs hI hc hr => exact .cel cs a hs hI hc hr
 | clo f caps xs hl hr ih => exact .clo f _ xs (by rw [renLs_len]; exact hl) fun i av x ha hx => by rw [renLs_get] at ha; simp only [Option.map_eq_some_iff] at ha; obtain ⟨y, hy, rfl⟩ := ha; exact ih i y x hy hx
 | agg caps xs hl h1 hr ih => exact .agg _ xs (by rw [renLs_len]; exact hl) h1 fun i av x ha hx => by rw [renLs_get] at ha; simp only [Option.map_eq_some_iff] at ha; obtain ⟨y, hy, rfl⟩ := ha; exact ih i y x hy hx
 | tup caps xs hl hr ih => exact .tup _ xs (by rw [renLs_len]; exact hl) fun i av x ha hx => by rw [renLs_get] at ha; simp only [Option.map_eq_some_iff] at ha; obtain ⟨y, hy, rfl⟩ := ha; exact ih i y x hy hx
theorem ren_blk {I : Nat → Prop} {ι ι₂ : Pl} {w : World} {ρ : Nat → Nat} (h : ∀ b, ι b ≠ none → ι₂ (ρ b) = ι b) (hh : ∀ g b, ι.hid g = some b → ι₂.hid g = some (ρ b)) {b : Nat} {blk : Blk} (hr : BlkRep I ι w b blk) : BlkRep I ι₂ w (ρ b) (renBlk ρ blk) := by
 have e : ι₂ (ρ b) = ι b := h b hr.laid
 cases hr with
 | box cells ty g cur h1 h2 h3 h4 h5 => exact .box _ ty g cur (by rw [e, renLs_len]; exact h1) h2 (by rw [renLs_len]; exact h3) h4 fun i av x ha hx => by rw [renLs_get] at ha; simp only [Option.map_eq_some_iff] at ha; obtain ⟨y, hy, rfl⟩ := ha; exact ren_rep h (h5 i y x hy hx)
 | accNil k ty h1 => exact .accNil k ty (by rw [e]; exact h1)
 | acc k ty es g cap cur h1 h2 h3 h4 h5 h6 h8 => exact .acc k ty es g cap cur (by rw [e]; exact h1) h2 h3 h4 h5 h6 h8
 | raw g cap h1 => exact .raw g cap (by rw [e]; exact h1)
 | fr arr cells h1 h2 h3 => exact .fr arr _ (by rw [e]; exact h1) (by rw [renLs_len]; exact h2) fun i av x ha hx => by rw [renLs_get] at ha; simp only [Option.map_eq_some_iff] at ha; obtain ⟨y, hy, rfl⟩ := ha; exact ren_rep h (h3 i y x hy hx)
 | lp l rec h1 h2 => exact .lp l rec (by rw [e]; exact h1) h2
 | mp es arr clock g h1 h2 h3 h4 => exact .mp es arr clock g (by rw [e]; exact h1) h2 h3 h4
 | tre T x h0 h1 h2 => exact .tre T x h0 (by rw [e]; exact h1) (h2.mono (fun g hg => ⟨hg, rfl⟩) fun g hg => ⟨hh g b hg, rfl⟩)
 | arrNil k ty h1 => exact .arrNil k ty (by rw [e]; exact h1)
 | arr k ty es hole g cap cur Sf h1 h2 h3 h4 h5 h6 h7 h8 h9 h10 =>
  refine .arr k ty es _ g cap cur Sf (by rw [e]; exact h1) h2 h3 h4 h5 h6 (fun p q hq => hh q b (h7 p q hq)) h8 (fun i e j u x hn => h9 i e j u x fun row hr => hn (renLs ρ row) (by rw [hr]; rfl)) ?_
  intro i row hr
  cases hole with
  | none => cases hr
  | some hole =>
   cases hr
   obtain ⟨g1, g2, g3⟩ := h10 hole.1 hole.2 rfl
   exact ⟨g1, ⟨by rw [renLs_len]; exact g2.1, g2.2⟩, fun j av x ha hx => by rw [renLs_get] at ha; simp only [Option.map_eq_some_iff] at ha; obtain ⟨y, hy, rfl⟩ := ha; exact ren_rep h (g3 j y x hy hx)⟩
 | opn av x h0 h1 h2 => exact .opn _ x h0 (by rw [e]; exact h1) (ren_rep h h2)
theorem BlkRep.mono {I I' : Nat → Prop} {ι : Pl} {w : World} (h : ∀ g, I g → I' g) {b : Nat} {blk : Blk} (hr : BlkRep I ι w b blk) : BlkRep I' ι w b blk := by
 have hm : ∀ g, I g → I' g ∧ w.heap[g]? = w.heap[g]? := fun g hg => ⟨h g hg, rfl⟩
 exact hr.turn hm rfl (fun _ _ _ => rfl) (fun _ hg => ⟨hg, rfl⟩) fun i av x _ hx => hx.mono hm fun _ _ => rfl
def ren (π : List Nat) (nxt b : Nat) : Nat := match π[b]? with | some x => x | none => nxt + (b - π.length)
def kls (kp : List Nat) : Nat → List Nat → List Nat
 | _, [] => []
 | i, b :: r => bif kp.contains i then kls kp (i + 1) r else b :: kls kp (i + 1) r
theorem mem_kls {kp : List Nat} {b : Nat} : ∀ {l : List Nat} {i : Nat}, b ∈ kls kp i l → ∃ j : Nat, l[j]? = some b
 | x :: r, i, h => by
  simp only [kls] at h
  cases hc : kp.contains i with
  | true => rw [hc] at h; obtain ⟨j, hj⟩ := mem_kls (l := r) h; exact ⟨j + 1, by simpa using hj⟩
  | false =>
   rw [hc] at h
   rcases List.mem_cons.1 h with rfl | h
   ·exact ⟨0, rfl⟩
   ·obtain ⟨j, hj⟩ := mem_kls (l := r) h; exact ⟨j + 1, by simpa using hj⟩
theorem kls_mem {kp : List Nat} {b : Nat} : ∀ {l : List Nat} {i j : Nat}, l[j]? = some b → i + j ∉ kp → b ∈ kls kp i l
 | [], i, j, h, _ => by simp at h
 | x :: r, i, 0, h, hn => by
  simp at h
  subst h
  simp only [kls]
  rw [show kp.contains i = false by simpa using hn]
  exact List.mem_cons_self
 | x :: r, i, j + 1, h, hn => by
  have := kls_mem (kp := kp) (l := r) (i := i + 1) (j := j) (by simpa using h) (by rw [show i + 1 + j = i + (j + 1) by omega]; exact hn)
  simp only [kls]
  cases kp.contains i
  ·exact List.mem_cons_of_mem _ this
  ·exact this
def OwnP (ι : Pl) (g : Nat) : Prop := (∃ b c, ι b = some (.at g c)) ∨ ∃ b, ι.hid g = some b
def Owns (ι : Pl) (b g : Nat) : Prop := (∃ c, ι b = some (.at g c)) ∨ ι.hid g = some b
theorem ownP_iff {ι : Pl} {g : Nat} : OwnP ι g ↔ ∃ b, Owns ι b g := by
 constructor
 ·rintro (⟨b, c, h⟩ | ⟨b, h⟩)
  ·exact ⟨b, .inl ⟨c, h⟩⟩
  ·exact ⟨b, .inr h⟩
 ·rintro ⟨b, ⟨c, h⟩ | h⟩
  ·exact .inl ⟨b, c, h⟩
  ·exact .inr ⟨b, h⟩
theorem Ok.own1 {ι : Pl} {w : World} (h : Ok ι w) {b b' g : Nat} (h1 : Owns ι b g) (h2 : Owns ι b' g) : b = b' := by
 rcases h1 with ⟨c, h1⟩ | h1 <;> rcases h2 with ⟨c', h2⟩ | h2
 ·exact h.inj _ _ _ _ _ h1 h2
 ·exact absurd h1 (h.hdis g b' h2 b c)
 ·exact absurd h2 (h.hdis g b h1 b' c')
 ·rw [h1] at h2; cases h2; rfl
theorem Ok.ownLt {ι : Pl} {w : World} (h : Ok ι w) {b g : Nat} (h1 : Owns ι b g) : g < w.heap.size := by
 rcases h1 with ⟨c, h1⟩ | h1
 ·exact h.lt _ _ _ h1
 ·exact h.hlt _ _ h1
theorem Ok.ownLaid {ι : Pl} {w : World} (h : Ok ι w) {b g : Nat} (h1 : Owns ι b g) : ι b ≠ none := by
 rcases h1 with ⟨c, h1⟩ | h1
 ·simp [h1]
 ·exact h.hlaid _ _ h1
theorem still_iff {A : Nat → Prop} {ι : Pl} {w : World} {g : Nat} : Still A ι w g ↔ (A g ∧ g < w.heap.size) ∧ ∀ b, ¬ Owns ι b g := by
 constructor
 ·rintro ⟨⟨⟨h1, h0⟩, h2⟩, h3⟩
  refine ⟨⟨h1, h2⟩, ?_⟩
  rintro b (⟨c, h⟩ | h)
  ·exact h3 b c h
  ·rw [h0] at h; cases h
 ·rintro ⟨⟨h1, h2⟩, h3⟩
  refine ⟨⟨⟨h1, ?_⟩, h2⟩, fun b c h => h3 b (.inl ⟨c, h⟩)⟩
  cases h : ι.hid g with
  | none => rfl
  | some b => exact absurd (.inr h) (h3 b)
theorem plOf_own {ι : Pl} {π : List Nat} {i g : Nat} (h : Owns (plOf ι π) i g) : ∃ b, π[i]? = some b ∧ Owns ι b g := by
 rcases h with ⟨c, h⟩ | h
 ·obtain ⟨b, h1, h2⟩ := plOf_f h; exact ⟨b, h1, .inl ⟨c, h2⟩⟩
 ·obtain ⟨b, h1, h2⟩ := plOf_h h; exact ⟨b, h1, .inr h2⟩
def FnM (P : Program) (f : FuncId) (args : List AV) (H : List Blk) (kp : List Nat) (blks : List Blk) (r : AV) : Prop :=
 PlainFn P f ∧ H.length ≤ blks.length ∧ ∀ (I : Nat → Prop) (ι : Pl) (w : World) (vs : List Value), (∀ g, I g → g < w.heap.size) → Ok ι w → (∀ b, H.length ≤ b → ι b = none) → (∀ g, I g → ι.hid g = none ∧ ∀ b c, ι b ≠ some (.at g c)) →
  (∀ (i : Nat) blk, H[i]? = some blk → BlkRep I ι w i blk) → vs.length = args.length → (∀ (i : Nat) av x, args[i]? = some av → vs[i]? = some x → Rep I ι w av x) →
  Calls P f vs.toArray w fun e w' => ∃ v ι', e = .returned v ∧ Rep (Still (fun g => I g ∨ OwnP ι g ∨ w.heap.size ≤ g) ι' w') ι' w' r v ∧
   (∀ (i : Nat) blk, blks[i]? = some blk → BlkRep (Still (fun g => I g ∨ OwnP ι g ∨ w.heap.size ≤ g) ι' w') ι' w' i blk) ∧
   (∀ b, blks.length ≤ b → ι' b = none) ∧ (∀ b g c, ι' b = some (.at g c) → OwnP ι g ∨ w.heap.size ≤ g) ∧ (∀ g b, ι'.hid g = some b → OwnP ι g ∨ w.heap.size ≤ g) ∧ Ok ι' w' ∧ FrameR (OwnP ι) w w' ∧ (∀ b ∈ kp, ι' b = ι b)
section
variable {A : Nat → Prop} {ι : Pl} {w : World}
theorem FnM.core {P : Program} {f : FuncId} {args : List AV} {H blks : List Blk} {kp : List Nat} {r : AV} (h : FnM P f args H kp blks r) {J : Nat → Prop} {π : List Nat} (hP1 : ∀ g, J g → g < w.heap.size ∧ ∀ b ∈ π, ¬ Owns ι b g)
  (hP2 : (∀ g, J g → Still A ι w g) ∨ (flatAV r ∧ flatBs blks)) {nxt : Nat} (hA : ∀ g, w.heap.size ≤ g → A g) (hmine : ∀ b g, Owns ι b g → A g) (hok : Ok ι w) (hf : ∀ b, nxt ≤ b → ι b = none) (hπ : π.Nodup) (hlt : ∀ b ∈ π, b < nxt) (hlen : π.length = H.length)
  (hH : ∀ (i : Nat) blk, H[i]? = some blk → BlkRep J (plOf ι π) w i blk) {vs : List Value} (hl : vs.length = args.length) (hr : ∀ (i : Nat) av x, args[i]? = some av → vs[i]? = some x → Rep J (plOf ι π) w av x) :
  Calls P f vs.toArray w fun e w' => ∃ v ι₂, e = .returned v ∧ Rep (Still A ι₂ w') ι₂ w' (renAV (ren π nxt) r) v ∧
   StepR ι w ι₂ w' (fun b => ∃ blk, (b, blk) ∈ renBs (ren π nxt) 0 blks) (fun b => b ∈ kls kp 0 π ∨ nxt ≤ b) ∧
   (∀ p ∈ renBs (ren π nxt) 0 blks, BlkRep (Still A ι₂ w') ι₂ w' p.1 p.2) ∧ (∀ b, nxt + (blks.length - π.length) ≤ b → ι₂ b = none) ∧ (∀ k, k ∈ kls kp 0 π → ∃ blk, (k, blk) ∈ renBs (ren π nxt) 0 blks) := by
 have hplok : Ok (plOf ι π) w := plOf_ok hπ hok
 obtain ⟨hplain, hle, hcon⟩ := h
 refine (hcon J (plOf ι π) w vs (fun g hg => (hP1 g hg).1) hplok (fun b hb => by simp [plOf, List.getElem?_eq_none (show π.length ≤ b by omega)]) (fun g hg => ⟨by
  cases hb : (plOf ι π).hid g with
  | none => rfl
  | some i => obtain ⟨b', h1, h2⟩ := plOf_h hb; exact absurd (.inr h2) ((hP1 g hg).2 b' (List.mem_of_getElem? h1)), fun b c hb => by
  obtain ⟨b', h1, h2⟩ := plOf_f hb
  exact (hP1 g hg).2 b' (List.mem_of_getElem? h1) (.inl ⟨c, h2⟩)⟩) hH hl hr).mono fun e w' he => ?_
 obtain ⟨v, ι', rfl, h1, h2, h3, h4, h4', h5, h6, h7⟩ := he
 let ι₂ : Pl := ⟨fun b => match posOf π b with | some i => ι' i | none => if b < nxt then ι b else ι' (π.length + (b - nxt)),
  fun g => match ι'.hid g with | some i => some (ren π nxt i) | none => (ι.hid g).bind fun b => if b ∈ π then none else some b⟩
 have e0 : ∀ b, ι₂ b = (match posOf π b with | some i => ι' i | none => if b < nxt then ι b else ι' (π.length + (b - nxt))) := fun _ => rfl
 have e1 : ∀ i, ι₂ (ren π nxt i) = ι' i := fun i => by
  cases hp : π[i]? with
  | some x =>
   have hr : ren π nxt i = x := by simp only [ren, hp]
   rw [hr, e0, posOf_get hπ hp]
  | none =>
   have hr : ren π nxt i = nxt + (i - π.length) := by simp only [ren, hp]
   have hi : π.length ≤ i := List.getElem?_eq_none_iff.1 hp
   have : posOf π (nxt + (i - π.length)) = none := by
    cases hq : posOf π (nxt + (i - π.length)) with
    | none => rfl
    | some j => have := hlt _ (List.mem_of_getElem? (posOf_some hq)); omega
   rw [hr, e0, this]
   simp only
   rw [if_neg (by omega), show π.length + (nxt + (i - π.length) - nxt) = i by omega]
 have cls : ∀ b, (∃ i, ren π nxt i = b ∧ ι₂ b = ι' i) ∨ (b ∉ π ∧ b < nxt ∧ ι₂ b = ι b) := fun b => by
  cases hp : posOf π b with
  | some i => exact .inl ⟨i, by simp only [ren, posOf_some hp], by simp only [ι₂, hp]⟩
  | none =>
   by_cases hb : b < nxt
   ·exact .inr ⟨posOf_none hp, hb, by simp only [ι₂, hp, if_pos hb]⟩
   ·refine .inl ⟨π.length + (b - nxt), ?_, by simp only [ι₂, hp, if_neg hb]⟩
    simp only [ren, List.getElem?_eq_none (show π.length ≤ π.length + (b - nxt) by omega)]
    omega
 have rinj : ∀ i j, ren π nxt i = ren π nxt j → i = j := fun i j hij => by
  simp only [ren] at hij
  cases hi : π[i]? with
  | some x =>
   cases hj : π[j]? with
   | some y =>
    simp only [hi, hj] at hij
    subst hij
    exact (List.getElem?_inj (List.getElem?_eq_some_iff.1 hi).1 hπ).1 (by rw [hi, hj])
   | none => simp only [hi, hj] at hij; have := hlt _ (List.mem_of_getElem? hi); omega
  | none =>
   cases hj : π[j]? with
   | some y => simp only [hi, hj] at hij; have := hlt _ (List.mem_of_getElem? hj); omega
   | none =>
    simp only [hi, hj] at hij
    have := List.getElem?_eq_none_iff.1 hi
    have := List.getElem?_eq_none_iff.1 hj
    omega
 have rmem : ∀ i b, b ∉ π → b < nxt → ren π nxt i ≠ b := fun i b hb hbn he => by
  simp only [ren] at he
  cases hi : π[i]? with
  | some x => simp only [hi] at he; subst he; exact hb (List.mem_of_getElem? hi)
  | none => simp only [hi] at he; omega
 have hh1 : ∀ g i, ι'.hid g = some i → ι₂.hid g = some (ren π nxt i) := fun g i hi => by simp only [ι₂, hi]
 have hh2 : ∀ g b, ι₂.hid g = some b → (∃ i, ι'.hid g = some i ∧ b = ren π nxt i) ∨ (ι'.hid g = none ∧ b ∉ π ∧ ι.hid g = some b) := fun g b hb => by
  simp only [ι₂] at hb
  cases hi : ι'.hid g with
  | some i => rw [hi] at hb; cases hb; exact .inl ⟨i, rfl, rfl⟩
  | none =>
   rw [hi] at hb
   simp only [Option.bind_eq_some_iff] at hb
   obtain ⟨b', g1, g2⟩ := hb
   split at g2
   ·cases g2
   ·rename_i hn; cases g2; exact .inr ⟨rfl, hn, g1⟩
 have hbn : ∀ b g, Owns ι b g → b < nxt := fun b g hb => Nat.lt_of_not_le fun hle => hok.ownLaid hb (hf b hle)
 have hFt : ∀ g, OwnP (plOf ι π) g → ∃ b ∈ π, Owns ι b g := fun g hg => by
  obtain ⟨i, hi⟩ := ownP_iff.1 hg
  obtain ⟨b, h1, h2⟩ := plOf_own hi
  exact ⟨b, List.mem_of_getElem? h1, h2⟩
 -- what ι' owns is nobody's else
 have h4o : ∀ i g, Owns ι' i g → OwnP (plOf ι π) g ∨ w.heap.size ≤ g := fun i g hi => by
  rcases hi with ⟨c, hi⟩ | hi
  ·exact h4 i g c hi
  ·exact h4' g i hi
 have old : ∀ b g, b ∉ π → Owns ι b g → ∀ i, ¬ Owns ι' i g := fun b g hb hι i hi => by
  rcases h4o i g hi with hg | hg
  ·obtain ⟨b', hb', hι'⟩ := hFt g hg
   have := hok.own1 hι hι'
   subst this
   exact hb hb'
  ·have := hok.ownLt hι; omega
 -- whose is what ι₂ owns
 have cls2 : ∀ b g, Owns ι₂ b g → (∃ i, ren π nxt i = b ∧ Owns ι' i g) ∨ (b ∉ π ∧ b < nxt ∧ Owns ι b g) := fun b g hb => by
  rcases hb with ⟨c, hb⟩ | hb
  ·rcases cls b with ⟨i, hi, e⟩ | ⟨hn, hbn', e⟩ <;> rw [e] at hb
   ·exact .inl ⟨i, hi, .inl ⟨c, hb⟩⟩
   ·exact .inr ⟨hn, hbn', .inl ⟨c, hb⟩⟩
  ·rcases hh2 g b hb with ⟨i, hi, rfl⟩ | ⟨_, hn, hb⟩
   ·exact .inl ⟨i, rfl, .inr hi⟩
   ·exact .inr ⟨hn, hbn b g (.inr hb), .inr hb⟩
 have hwr : ∀ b ∈ π, ∃ blk, (b, blk) ∈ renBs (ren π nxt) 0 blks := fun b hb => by
  obtain ⟨i, hi⟩ := List.getElem?_of_mem hb
  have hlt' : i < blks.length := Nat.lt_of_lt_of_le (by rw [← hlen]; exact (List.getElem?_eq_some_iff.1 hi).1) hle
  have := mem_renBs (ρ := ren π nxt) (i := 0) (List.getElem?_eq_getElem hlt')
  have e : ren π nxt (0 + i) = b := by simp only [ren, Nat.zero_add, hi]
  rw [e] at this
  exact ⟨_, this⟩
 have hfr : ∀ b g, Owns ι₂ b g → OwnP ι g ∨ w.heap.size ≤ g := fun b g hb => by
  rcases cls2 b g hb with ⟨i, _, hi⟩ | ⟨_, _, hb⟩
  ·rcases h4o i g hi with hg | hg
   ·obtain ⟨b', _, h8⟩ := hFt g hg
    exact .inl (ownP_iff.2 ⟨b', h8⟩)
   ·exact .inr hg
  ·exact .inl (ownP_iff.2 ⟨b, hb⟩)
 have hst : StepR ι w ι₂ w' (fun b => ∃ blk, (b, blk) ∈ renBs (ren π nxt) 0 blks) (fun b => b ∈ kls kp 0 π ∨ nxt ≤ b) := by
  refine ⟨h6.os, h6.tape, h6.output, h6.size, fun b hb => ?_, fun b g c hb => hfr b g (.inl ⟨c, hb⟩), fun g hg hn hn2 => h6.block g hg fun hF => ?_, ⟨fun b b' g c c' g1 g2 => ?_, fun b g c g1 => ?_, fun g b g1 => ?_, fun g b g1 b' c g2 => ?_, fun g b g1 => ?_⟩, fun g b hwb hkb hb => ?_, fun g b hb => hfr b g (.inr hb)⟩
  ·rcases cls b with ⟨i, hi, e⟩ | ⟨_, _, e⟩
   ·rw [e]
    cases hp : π[i]? with
    | some x =>
     have hx : x = b := by rw [← hi]; simp only [ren, hp]
     subst hx
     have hk : i ∈ kp := Decidable.byContradiction fun hk => hb (.inl (kls_mem (i := 0) hp (by simpa using hk)))
     rw [h7 i hk, plOf_at hp]
    | none =>
     exfalso
     apply hb
     right
     rw [← hi]
     simp only [ren, hp]
     omega
   ·exact e
  ·obtain ⟨b, hb, hι⟩ := hFt g hF
   rcases hι with ⟨c, hι⟩ | hι
   ·exact hn b c (hwr b hb) hι
   ·exact hn2 b (hwr b hb) hι
  ·rcases cls2 b g (.inl ⟨c, g1⟩) with ⟨i, hi, q1⟩ | ⟨hn, hb, q1⟩ <;> rcases cls2 b' g (.inl ⟨c', g2⟩) with ⟨i', hi', q2⟩ | ⟨hn', hb', q2⟩
   ·have := h5.own1 q1 q2
    subst this
    rw [← hi, ← hi']
   ·exact absurd q1 (old b' g hn' q2 i)
   ·exact absurd q2 (old b g hn q1 i')
   ·exact hok.own1 q1 q2
  ·rcases cls2 b g (.inl ⟨c, g1⟩) with ⟨i, hi, q1⟩ | ⟨hn, hb, q1⟩
   ·exact h5.ownLt q1
   ·exact Nat.lt_of_lt_of_le (hok.ownLt q1) h6.size
  ·rcases cls2 b g (.inr g1) with ⟨i, hi, q1⟩ | ⟨hn, hb, q1⟩
   ·exact h5.ownLt q1
   ·exact Nat.lt_of_lt_of_le (hok.ownLt q1) h6.size
  ·rcases hh2 g b g1 with ⟨i, hi, rfl⟩ | ⟨_, hn, q1⟩
   ·rcases cls b' with ⟨i', _, e⟩ | ⟨hn', hb', e⟩ <;> rw [e] at g2
    ·exact h5.hdis g i hi i' c g2
    ·exact old b' g hn' (.inl ⟨c, g2⟩) i (.inr hi)
   ·rcases cls b' with ⟨i', _, e⟩ | ⟨hn', hb', e⟩ <;> rw [e] at g2
    ·exact old b g hn (.inr q1) i' (.inl ⟨c, g2⟩)
    ·exact hok.hdis g b q1 b' c g2
  ·rcases hh2 g b g1 with ⟨i, hi, rfl⟩ | ⟨_, hn, q1⟩
   ·rw [e1]; exact h5.hlaid g i hi
   ·rcases cls b with ⟨i', hi', e⟩ | ⟨_, _, e⟩
    ·exact absurd hi' (rmem i' b hn (hbn b g (.inr q1)))
    ·rw [e]; exact hok.hlaid g b q1
  ·have hn : b ∉ π := fun hb => hwb (hwr b hb)
   simp only [ι₂]
   cases hi : ι'.hid g with
   | some i => exact absurd (.inr hi) (old b g hn (.inr hb) i)
   | none => simp [hb, hn]
 have hI : (∀ g, J g → Still A ι w g) → ∀ g, Still (fun g => J g ∨ OwnP (plOf ι π) g ∨ w.heap.size ≤ g) ι' w' g → Still A ι₂ w' g := by
  intro hJ g hg
  obtain ⟨⟨hg, hlt'⟩, hn⟩ := still_iff.1 hg
  refine still_iff.2 ⟨⟨?_, hlt'⟩, fun b hb => ?_⟩
  ·rcases hg with hg | hg | hg
   ·exact (hJ g hg).1.1.1
   ·obtain ⟨b, _, hι⟩ := hFt g hg
    exact hmine b g hι
   ·exact hA g hg
  ·rcases cls2 b g hb with ⟨i, hi, q1⟩ | ⟨hnb, hbn, q1⟩
   ·exact hn i q1
   ·rcases hg with hg | hg | hg
    ·exact (still_iff.1 (hJ g hg)).2 b q1
    ·obtain ⟨b', hb', hι⟩ := hFt g hg
     have := hok.own1 q1 hι
     subst this
     exact hnb hb'
    ·have := hok.ownLt q1; omega
 refine ⟨v, ι₂, rfl, ?_, hst, fun p hp => ?_, fun b hb => ?_, fun k hk => ?_⟩
 ·rcases hP2 with hJ | ⟨hfr, _⟩
  ·exact (ren_rep (fun b _ => e1 b) h1).mono (fun g hg => ⟨hI hJ g hg, rfl⟩) fun _ _ => rfl
  ·exact ren_rep (fun b _ => e1 b) (rep_flat h1 hfr)
 ·obtain ⟨j, blk, hj, rfl⟩ := renBs_mem hp
  simp only [Nat.zero_add]
  rcases hP2 with hJ | ⟨_, hfb⟩
  ·exact (ren_blk (fun b _ => e1 b) hh1 (h2 j blk hj)).mono (hI hJ)
  ·exact ren_blk (fun b _ => e1 b) hh1 (blk_flat (h2 j blk hj) (flatBs_get hfb hj))
 ·rcases cls b with ⟨i, hi, e⟩ | ⟨hnb, hbn, e⟩
  ·rw [e]
   apply h3
   cases hp : π[i]? with
   | some x =>
    have : x = b := by rw [← hi]; simp only [ren, hp]
    have := hlt _ (List.mem_of_getElem? hp)
    omega
   | none =>
    have h8 : nxt + (i - π.length) = b := by rw [← hi]; simp only [ren, hp]
    have := List.getElem?_eq_none_iff.1 hp
    omega
  ·omega
 ·obtain ⟨j, hj⟩ := mem_kls hk
  exact hwr k (List.mem_of_getElem? hj)
end
theorem CallK.mut {cx : Cx} {o : Oper} {s : AState} {f : FuncId} {args args' : List AV} {H blks : List Blk} {kp : List Nat} {r : AV} {KK : AState → Prop} {vc vb : Prop} (π : List Nat) (h : FnM cx.P f args' H kp blks r) (hπ : π.Nodup) (hlt : ∀ b ∈ π, b < s.nxt)
  (hH : hzBs π (heapR s.heap π) π = some (vb, H)) (hvb : vb) (ha : frzL (hz1 π (heapR s.heap π)) args = some (vc, args')) (hvc : vc) (hd : match o.dst with | some t => t < cx.n | none => True)
  (hK : KK (s.apply o ⟨some (renAV (ren π s.nxt) r), renBs (ren π s.nxt) 0 blks, kls kp 0 π, s.nxt + (blks.length - π.length)⟩)) : CallK cx o s f args KK := by
 refine ⟨h.1, fun ι a w vs hS hl hr => ?_⟩
 have hJι : ∀ b g c blk, b ∉ π → look (heapR s.heap π) b = some blk → ι b = some (.at g c) → Still cx.A ι w g := fun b g c blk hb hl => by
  rw [look_heapR] at hl
  have : π.contains b = false := by simpa using hb
  rw [this] at hl
  cases hl
 have hJh : ∀ b g blk, b ∉ π → look (heapR s.heap π) b = some blk → ι.hid g = some b → Still cx.A ι w g := fun b g blk hb hl => by
  rw [look_heapR] at hl
  have : π.contains b = false := by simpa using hb
  rw [this] at hl
  cases hl
 have hmine : ∀ b g, Owns ι b g → cx.A g := fun b g hb => by
  rcases hb with ⟨c, hb⟩ | hb
  ·exact hS.base.mine hb
  ·exact hS.base.hmine hb
 have hh : ∀ b blk, look (heapR s.heap π) b = some blk → BlkRep (Still cx.A ι w) ι w b blk := fun b blk hl => by
  rw [look_heapR] at hl
  cases hc : π.contains b with
  | false => rw [hc] at hl; cases hl
  | true => rw [hc] at hl; exact hS.heap b blk hl
 obtain ⟨g1, g2⟩ := hzBs_ok (π := π) (fun g hg => hg) hJι hJh hh hπ (p := 0) (fun j b hj => by simpa using hj) hH hvb
 obtain ⟨g3, g4⟩ := frzL_ok' (J := Still cx.A ι w) (ι' := plOf ι π) (fun av x vc r h hvc hx => hz1_ok (π := π) (fun g hg => hg) hJι hJh hh h hvc hx) ha hvc
 refine (h.core (A := cx.A) (J := Still cx.A ι w) (fun g hg => ⟨hg.1.2, fun b _ => (still_iff.1 hg).2 b⟩) (.inl fun g hg => hg) hS.base.fresh hmine hS.ok hS.free hπ hlt (by omega) (fun i blk hi => by simpa using g2 i blk hi) (by omega) fun i av x hi hx => g4 i av x hi fun av' hav' => hr i av' x hav' hx).mono fun e w' he => ?_
 obtain ⟨v, ι₂, rfl, k1, k2, k3, k4, k5⟩ := he
 exact ⟨v, _, ι₂, rfl, hK, hS.apply k2 k3 k4 k5 k1 (fun t ht => by rw [ht] at hd; exact hd)⟩
def handAV (π : List Nat) (heap : List (Nat × Blk)) (av : AV) : Option (Prop × AV) :=
 match hz1 π heap av with
 | some x => some x
 | none => bif (menAV av).any (fun b => π.contains b) then none else snapAV heap av
theorem FnM.opW {cx : Cx} {o : Oper} {tmps : List (Nat × AV)} {heap : List (Nat × Blk)} {nxt : Nat} {f : FuncId} {args args' : List AV} {H blks : List Blk} {kp : List Nat} {r : AV} {vc vb : Prop} (π : List Nat) (h : FnM cx.P f args' H kp blks r) (hπ : π.Nodup) (hlt : ∀ b ∈ π, b < nxt)
  (hH : hzBs π (heapR heap π) π = some (vb, H)) (hvb : vb) (ha : frzL (hz1 π (heapR heap π)) args = some (vc, args')) (hvc : vc) (hc : calleeAV tmps o.op = some (f, args)) :
  OpW cx o (evT tmps) (look heap) nxt ⟨some (renAV (ren π nxt) r), renBs (ren π nxt) 0 blks, kls kp 0 π, nxt + (blks.length - π.length)⟩ := by
 intro A ι w a hA hmine1 hmine2 hok hf hr hheap Q
 have hmine : ∀ b g, Owns ι b g → A g := fun b g hb => by
  rcases hb with ⟨c, hb⟩ | hb
  ·exact hmine1 b g c hb
  ·exact hmine2 g b hb
 refine ⟨about_trivial cx o a w, ?_⟩
 unfold calleeAV at hc
 split at hc
 ·rename_i g cargs ctypes hop
  split at hc
  ·rename_i g' caps hg
   simp only [Option.some.injEq, Prod.mk.injEq] at hc
   obtain ⟨rfl, rfl⟩ := hc
   have hgr := hr g (by simp [hop, Op.operands, Call.operands])
   rw [hg] at hgr
   obtain ⟨xs, hv, hl, hrx⟩ : ∃ xs : List Value, a.eval g = .func (.func g') #[] xs.toArray ∧ xs.length = caps.length ∧ ∀ (i : Nat) av x, caps[i]? = some av → xs[i]? = some x → Rep (Still A ι w) ι w av x := by
    generalize a.eval g = v at hgr
    cases hgr with
    | clo f caps xs hl hr => exact ⟨xs, rfl, hl, hr⟩
   rw [semAt_plain _ _ _ (by rw [hop]; intro c hc; cases hc)]
   have hexec : (execOp a.eval o).run cx.P w = .ok (.enter g' ((cargs.map a.eval) ++ xs.toArray)) w := by
    unfold execOp
    simp only [hop, resolve, Sem.run_bind, hv, Deferred.ofValue, Sem.run_pure, Result.andThen_ok, invoke]
    rw [run_callFunc h.1]
    simp
   rw [hexec]
   simp only [Oper.uponIn]
   refine ⟨fun hd => by simp [FW, Fence.wide] at hd, ?_⟩
   have hJι : ∀ b g c blk, b ∉ π → look (heapR heap π) b = some blk → ι b = some (.at g c) → Still A ι w g := fun b g c blk hb hl => by
    rw [look_heapR] at hl
    have : π.contains b = false := by simpa using hb
    rw [this] at hl
    cases hl
   have hJh : ∀ b g blk, b ∉ π → look (heapR heap π) b = some blk → ι.hid g = some b → Still A ι w g := fun b g blk hb hl => by
    rw [look_heapR] at hl
    have : π.contains b = false := by simpa using hb
    rw [this] at hl
    cases hl
   have hh : ∀ b blk, look (heapR heap π) b = some blk → BlkRep (Still A ι w) ι w b blk := fun b blk hl => by
    rw [look_heapR] at hl
    cases hc : π.contains b with
    | false => rw [hc] at hl; cases hl
    | true => rw [hc] at hl; exact hheap b blk hl
   obtain ⟨g1, g2⟩ := hzBs_ok (π := π) (fun g hg => hg) hJι hJh hh hπ (p := 0) (fun j b hj => by simpa using hj) hH hvb
   obtain ⟨g3, g4⟩ := frzL_ok' (J := Still A ι w) (ι' := plOf ι π) (fun av x vc r h hvc hx => hz1_ok (π := π) (fun g hg => hg) hJι hJh hh h hvc hx) ha hvc
   have hargs : ∀ (i : Nat) av x, (cargs.toList.map (evT tmps) ++ caps)[i]? = some av → (cargs.toList.map a.eval ++ xs)[i]? = some x → Rep (Still A ι w) ι w av x := fun i av x ha hx => by
    rw [List.getElem?_append] at ha hx
    simp only [List.length_map] at ha hx
    split at ha
    ·rename_i hlt
     rw [if_pos hlt] at hx
     obtain ⟨y, hy, rfl⟩ := getElem?_map' ha
     obtain ⟨z, hz, rfl⟩ := getElem?_map' hx
     have : y = z := by rw [hy] at hz; exact Option.some.inj hz
     subst this
     refine hr y ?_
     have := List.mem_of_getElem? hy
     simp only [hop, Op.operands, Call.operands]
     simpa using Or.inr this
    ·rename_i hlt
     rw [if_neg hlt] at hx
     exact hrx _ av x ha hx
   have hcall' := h.core (A := A) (J := Still A ι w) (vs := cargs.toList.map a.eval ++ xs) (fun g hg => ⟨hg.1.2, fun b _ => (still_iff.1 hg).2 b⟩) (.inl fun g hg => hg) hA hmine hok hf hπ hlt (by omega) (fun i blk hi => by simpa using g2 i blk hi) (by rw [g3]; simp [hl]) fun i av x hi hx => g4 i av x hi fun av' hav' => hargs i av' x hav' hx
   have he : (cargs.toList.map a.eval ++ xs).toArray = cargs.map a.eval ++ xs.toArray := by
    obtain ⟨l⟩ := cargs
    simp [← List.append_toArray]
   rw [he] at hcall'
   have hin : CallsIn Fence.wide (0 - 1) cx.P g' (cargs.map a.eval ++ xs.toArray) w _ := callsIn_wide.2 hcall'
   have hin2 : CallsIn (FW cx.rnd) (0 - 1) cx.P g' (cargs.map a.eval ++ xs.toArray) w _ := hin
   refine hin2.mono fun e w' he' => ?_
   obtain ⟨v, ι₂, rfl, k1, k2, k3, k4, k5⟩ := he'
   exact ⟨v, ι₂, rfl, k1, k2, k3, k4, k5⟩
  ·cases hc
 ·cases hc
def numb : Nat → List Blk → List (Nat × Blk)
 | _, [] => []
 | i, b :: r => (i, b) :: numb (i + 1) r
theorem look_numb {b : Nat} {blk : Blk} : ∀ {l : List Blk} {i : Nat}, look (numb i l) b = some blk → i ≤ b ∧ l[b - i]? = some blk
 | x :: r, i, h => by
  simp only [numb, look] at h
  cases e : i == b with
  | true => simp [e] at h; have := eq_of_beq e; subst this; subst h; simp
  | false =>
   simp [e] at h
   obtain ⟨h1, h2⟩ := look_numb (l := r) h
   refine ⟨by omega, ?_⟩
   rw [show b - i = (b - (i + 1)) + 1 by omega]
   simpa using h2
def cxM (P : Program) (tt : TT) (n : Nat) (w0 : World) (M0 A : Nat → Prop) (hA : ∀ g, w0.heap.size ≤ g → A g) (hM : ∀ g, M0 g → A g) : Cx :=
 { P := P, tt := tt, n := n, eds := [], rnd := none, w0 := w0, M0 := M0, A := A, hA := hA, hM := hM }
section
variable {P : Program} {tt : TT} {n : Nat} {w0 : World} {M0 A : Nat → Prop} {hA : ∀ g, w0.heap.size ≤ g → A g} {hM : ∀ g, M0 g → A g}
theorem cxM_P : (cxM P tt n w0 M0 A hA hM).P = P := rfl
theorem cxM_tt : (cxM P tt n w0 M0 A hA hM).tt = tt := rfl
theorem cxM_n : (cxM P tt n w0 M0 A hA hM).n = n := rfl
end
def pinsL (p : Nat → Plc) : List Nat → List (Nat × Plc)
 | [] => []
 | b :: r => (b, p b) :: pinsL p r
def pinsA (p : Nat → Plc) : List Nat → List AV
 | [] => []
 | b :: r => .pl b (p b) :: pinsA p r
theorem mem_pinsL {p : Nat → Plc} {b : Nat} : ∀ {l : List Nat}, b ∈ l → (b, p b) ∈ pinsL p l
 | x :: r, h => by
  simp only [pinsL]
  rcases List.mem_cons.1 h with rfl | h
  ·exact List.mem_cons_self
  ·exact List.mem_cons_of_mem _ (mem_pinsL h)
theorem pinsA_get {p : Nat → Plc} {av : AV} : ∀ {l : List Nat} {i : Nat}, (pinsA p l)[i]? = some av → ∃ b ∈ l, av = .pl b (p b)
 | [], i, h => by simp [pinsA] at h
 | x :: r, 0, h => by simp [pinsA] at h; exact ⟨x, List.mem_cons_self, h.symm⟩
 | x :: r, i + 1, h => by
  obtain ⟨b, h1, h2⟩ := pinsA_get (l := r) (i := i) (by simpa [pinsA] using h)
  exact ⟨b, List.mem_cons_of_mem _ h1, h2⟩
theorem pinsA_len {p : Nat → Plc} : ∀ l : List Nat, (pinsA p l).length = l.length
 | [] => rfl
 | x :: r => by simp [pinsA, pinsA_len r]
theorem FnM.intro {P : Program} {tt : TT} {f : FuncId} {fn : Func} {c : Code} {args : List AV} {H blks : List Blk} {kp : List Nat} {r : AV} (hf : P.funcs[f]? = some fn) (hb : fn.body = some c) (hnm : (fn.name == "runtime.NumGoroutine") = false) (hn : args.length ≤ fn.ntmps) (hle : H.length ≤ blks.length) (hkp : ∀ b ∈ kp, b < H.length)
  (h : ∀ w0 M0 A hA hM (p : Nat → Plc), Go' (cxM P tt fn.ntmps w0 M0 A hA hM) (RetM (cxM P tt fn.ntmps w0 M0 A hA hM) (pinsL p kp) fn blks r) [.code c] ⟨argT 0 args, numb 0 H ++ [(H.length, .fr (kp.map fun _ => undef) (pinsA p kp))], H.length + 1⟩) : FnM P f args H kp blks r := by
 refine ⟨⟨fn, hf, hnm, by simp [hb]⟩, hle, fun I ι w vs hI hok hfree hdis hH hl hr => ?_⟩
 let M0 : Nat → Prop := OwnP ι
 let A : Nat → Prop := fun g => I g ∨ M0 g ∨ w.heap.size ≤ g
 let ι1 : Pl := ⟨fun b => if b = H.length then some .nil else ι b, ι.hid⟩
 let p : Nat → Plc := fun b => (ι b).getD .nil
 have hat : ∀ b g c, ι1 b = some (.at g c) → ι b = some (.at g c) := fun b g c hb => by
  simp only [ι1] at hb
  split at hb
  ·cases hb
  ·exact hb
 have hlaid : ∀ b, ι b ≠ none → ι1 b = ι b := fun b hb => by
  simp only [ι1]
  rw [if_neg]
  rintro rfl
  exact hb (hfree _ (Nat.le_refl _))
 have hIS : ∀ g, I g → Still A ι1 w g := fun g hg => ⟨⟨⟨.inl hg, (hdis g hg).1⟩, hI g hg⟩, fun b c hb => (hdis g hg).2 b c (hat b g c hb)⟩
 have hrep : ∀ {av x}, Rep I ι w av x → Rep (Still A ι1 w) ι1 w av x := fun hr => hr.mono (fun g hg => ⟨hIS g hg, rfl⟩) fun b hb => hlaid b (hr.men b hb)
 have hsat : Sat (cxM P tt fn.ntmps w M0 A (fun g hg => .inr (.inr hg)) (fun g hg => .inr (.inl hg))) ⟨argT 0 args, numb 0 H ++ [(H.length, .fr (kp.map fun _ => undef) (pinsA p kp))], H.length + 1⟩ { tmps := vs.toArray ++ Array.replicate (fn.ntmps - vs.toArray.size) undef, defers := [] } w := by
  refine ⟨ι1, ⟨fun b b' g c c' h1 h2 => hok.inj _ _ _ _ _ (hat _ _ _ h1) (hat _ _ _ h2), fun b g c h1 => hok.lt _ _ _ (hat _ _ _ h1), hok.hlt, fun g b h1 b' c h2 => hok.hdis g b h1 b' c (hat _ _ _ h2), fun g b h1 => by rw [hlaid b (hok.hlaid g b h1)]; exact hok.hlaid g b h1⟩, fun b hb => ?_, .nil .., ?_, fun t av hl' => ?_, fun b blk hl' => ?_, ⟨rfl, rfl, rfl, Nat.le_refl _, fun g _ _ => rfl, fun b g c h => .inl (.inl ⟨b, c, hat b g c h⟩), fun g b h => .inl (.inr ⟨b, h⟩)⟩⟩
  ·have hb' : H.length + 1 ≤ b := hb
   simp only [ι1]
   rw [if_neg (by omega)]
   exact hfree b (by omega)
  ·simp [cxM]; omega
  ·obtain ⟨_, hget⟩ := look_argT args 0 t av hl'
   simp only [Nat.sub_zero] at hget
   have hlt : t < vs.length := by rw [hl]; exact (List.getElem?_eq_some_iff.1 hget).1
   have hv : vs[t]? = some (vs.getD t undef) := getD_get hlt
   have e : (vs.toArray ++ Array.replicate (fn.ntmps - vs.toArray.size) undef).getD t undef = vs.getD t undef := by
    simp only [Array.getD_eq_getD_getElem?]
    rw [Array.getElem?_append_left (by simpa using hlt)]
    simp [List.getD]
   show Rep _ _ _ _ ((vs.toArray ++ Array.replicate (fn.ntmps - vs.toArray.size) undef).getD t undef)
   rw [e]
   exact hrep (hr t av _ hget hv)
  ·simp only [look_append, Option.or_eq_some_iff] at hl'
   rcases hl' with hl' | ⟨_, hl'⟩
   ·have hb := hH b blk (by simpa using (look_numb hl').2)
    have hm : ∀ g, I g → Still A ι1 w g ∧ w.heap[g]? = w.heap[g]? := fun g hg => ⟨hIS g hg, rfl⟩
    exact hb.turn hm (hlaid b hb.laid) (fun _ _ _ => rfl) (fun _ hg => ⟨hg, rfl⟩) fun i av x _ hx => hrep hx
   ·simp only [look] at hl'
    cases e : H.length == b with
    | false => rw [e] at hl'; cases hl'
    | true =>
     have := eq_of_beq e
     subst this
     simp at hl'
     subst hl'
     refine .fr _ _ (by simp [ι1]) (by simp [pinsA_len]) fun i av x ha hx => ?_
     obtain ⟨b, hb, rfl⟩ := pinsA_get ha
     have hbl := hkp b hb
     have hlb := (hH b _ (List.getElem?_eq_getElem hbl)).laid
     refine .pl b _ x ?_
     rw [hlaid b hlb]
     simp only [p]
     cases hιb : ι b with
     | none => exact absurd hιb hlb
     | some q => rfl
 refine (callsIn_wide.1 (callsIn_of_wp_marks (F := Fence.wide) (n := 0) hf hb trivial (h w M0 A _ _ p _ w hsat))).mono fun e w' he => ?_
 obtain ⟨v, ι', h1, h2, h3, h4, h5, h5', h6, h7, h8⟩ := he
 refine ⟨v, ι', h1, h2, h3, h4, h5, h5', h6, h7, fun b hb => ?_⟩
 have hbl := hkp b hb
 have hlb := (hH b _ (List.getElem?_eq_getElem hbl)).laid
 have := h8 (b, p b) (mem_pinsL hb)
 rw [show ι' b = some (p b) from this]
 simp only [p]
 cases hιb : ι b with
 | none => exact absurd hιb hlb
 | some q => rfl
end Go.Ab
