/-
  A function's contract with what it makes handed over: blocks of its own that become the caller's. Out of its body, and at a call; what is lent for a call.
-/
import Derived.Test.YtpfgofnmkaljaaaMg05
import Derived.Test.YtpfgofnmkaljaaaMg08
set_option linter.unusedVariables false
set_option linter.unusedSimpArgs false
namespace Go.Ab
open Go Go.RowKit
mutual
def menAV : AV → List Nat
 | .own b _ _ _ => [b]
 | .osl b _ _ => [b]
 | .mref b => [b]
 | .ptr b _ => [b]
 | .aptr b _ _ _ => [b]
 | .pl b _ => [b]
 | .tr b => [b]
 | .clo _ caps => menLs caps
 | .agg cs => menLs cs
 | .tup cs => menLs cs
 | .top => []
 | .c _ => []
 | .cel _ => []
def menLs : List AV → List Nat
 | [] => []
 | a :: r => menAV a ++ menLs r
end
mutual
theorem men_mem (b : Nat) : ∀ av : AV, Men b av → b ∈ menAV av
 | .own _ _ _ _, h => by cases h; simp [menAV]
 | .osl _ _ _, h => by cases h; simp [menAV]
 | .mref _, h => by cases h; simp [menAV]
 | .ptr _ _, h => by cases h; simp [menAV]
 | .aptr _ _ _ _, h => by cases h; simp [menAV]
 | .pl _ _, h => by cases h; simp [menAV]
 | .tr _, h => by cases h; simp [menAV]
 | .clo _ caps, h => by cases h with | clo _ _ i av hi hm => simp only [menAV]; exact menLs_mem b caps i av hi hm
 | .agg cs, h => by cases h with | agg _ i av hi hm => simp only [menAV]; exact menLs_mem b cs i av hi hm
 | .tup cs, h => by cases h with | tup _ i av hi hm => simp only [menAV]; exact menLs_mem b cs i av hi hm
 | .top, h => by cases h
 | .c _, h => by cases h
 | .cel _, h => by cases h
theorem menLs_mem (b : Nat) : ∀ (l : List AV) (i : Nat) (av : AV), l[i]? = some av → Men b av → b ∈ menLs l
 | [], i, av, h, _ => by simp at h
 | a :: r, 0, av, h, hm => by
  simp at h
  subst h
  simp only [menLs]
  exact List.mem_append_left _ (men_mem b a hm)
 | a :: r, i + 1, av, h, hm => by
  simp only [menLs]
  exact List.mem_append_right _ (menLs_mem b r i av (by simpa using h) hm)
end
mutual
theorem mem_men (b : Nat) : ∀ av : AV, b ∈ menAV av → Men b av
 | .own _ _ _ _, h => by simp [menAV] at h; subst h; exact .own ..
 | .osl _ _ _, h => by simp [menAV] at h; subst h; exact .osl ..
 | .mref _, h => by simp [menAV] at h; subst h; exact .mref
 | .ptr _ _, h => by simp [menAV] at h; subst h; exact .ptr ..
 | .aptr _ _ _ _, h => by simp [menAV] at h; subst h; exact .aptr ..
 | .pl _ _, h => by simp [menAV] at h; subst h; exact .pl ..
 | .tr _, h => by simp [menAV] at h; subst h; exact .tr
 | .clo f caps, h => by
  simp only [menAV] at h
  obtain ⟨i, av, h1, h2⟩ := mem_menLs b caps h
  exact .clo f caps i av h1 h2
 | .agg cs, h => by
  simp only [menAV] at h
  obtain ⟨i, av, h1, h2⟩ := mem_menLs b cs h
  exact .agg cs i av h1 h2
 | .tup cs, h => by
  simp only [menAV] at h
  obtain ⟨i, av, h1, h2⟩ := mem_menLs b cs h
  exact .tup cs i av h1 h2
 | .top, h => by simp [menAV] at h
 | .c _, h => by simp [menAV] at h
 | .cel _, h => by simp [menAV] at h
theorem mem_menLs (b : Nat) : ∀ l : List AV, b ∈ menLs l → ∃ (i : Nat) (av : AV), l[i]? = some av ∧ Men b av
 | [], h => by simp [menLs] at h
 | a :: r, h => by
  simp only [menLs] at h
  rcases List.mem_append.1 h with h | h
  ·exact ⟨0, a, rfl, mem_men b a h⟩
  ·obtain ⟨i, av, h1, h2⟩ := mem_menLs b r h
   exact ⟨i + 1, av, by simpa using h1, h2⟩
end
mutual
def shiftAV (n : Nat) : AV → AV
 | .own b k off m => .own (n + b) k off m
 | .osl b off m => .osl (n + b) off m
 | .mref b => .mref (n + b)
 | .ptr b off => .ptr (n + b) off
 | .aptr b k i off => .aptr (n + b) k i off
 | .pl b p => .pl (n + b) p
 | .tr b => .tr (n + b)
 | .clo f caps => .clo f (shiftLs n caps)
 | .agg cs => .agg (shiftLs n cs)
 | .tup cs => .tup (shiftLs n cs)
 | .top => .top
 | .c u => .c u
 | .cel cs => .cel cs
def shiftLs (n : Nat) : List AV → List AV
 | [] => []
 | a :: r => shiftAV n a :: shiftLs n r
end
def shiftBlk (n : Nat) : Blk → Blk
 | .box cells ty => .box (shiftLs n cells) ty
 | .acc k es ty => .acc k es ty
 | .raw => .raw
 | .fr arr cells => .fr arr (shiftLs n cells)
 | .lp l rec => .lp l rec
 | .mp es => .mp es
 | .tre T => .tre T
 | .arr k es ty hole => .arr k es ty (hole.map fun h => (h.1, shiftLs n h.2))
 | .opn av => .opn (shiftAV n av)
def shiftBs (n : Nat) : Nat → List Blk → List (Nat × Blk)
 | _, [] => []
 | i, b :: r => (n + i, shiftBlk n b) :: shiftBs n (i + 1) r
theorem shiftLs_get (n : Nat) : ∀ (l : List AV) (i : Nat), (shiftLs n l)[i]? = (l[i]?).map (shiftAV n)
 | [], i => by simp [shiftLs]
 | a :: r, 0 => by simp [shiftLs]
 | a :: r, i + 1 => by simpa [shiftLs] using shiftLs_get n r i
theorem shiftLs_len (n : Nat) : ∀ (l : List AV), (shiftLs n l).length = l.length
 | [] => rfl
 | a :: r => by simp [shiftLs, shiftLs_len n r]
theorem shiftBs_mem {n : Nat} {p : Nat × Blk} : ∀ {l : List Blk} {i : Nat}, p ∈ shiftBs n i l → ∃ (j : Nat) (b : Blk), l[j]? = some b ∧ p = (n + (i + j), shiftBlk n b)
 | [], i, h => by cases h
 | b :: r, i, h => by
  simp only [shiftBs] at h
  rcases List.mem_cons.1 h with rfl | h
  ·exact ⟨0, b, rfl, rfl⟩
  ·obtain ⟨j, b', h1, rfl⟩ := shiftBs_mem h
   exact ⟨j + 1, b', by simpa using h1, by rw [show i + 1 + j = i + (j + 1) by omega]⟩
theorem shift_rep {I : Nat → Prop} {ι ι₂ : Pl} {w : World} {n : Nat} (h : ∀ b, ι b ≠ none → ι₂ (n + b) = ι b) {av x} (hr : Rep I ι w av x) : Rep I ι₂ w (shiftAV n av) x := by
 induction hr with
 | top x => exact .top x
 | c u x hu => exact .c u x hu
 | ownNil b k hb => exact .ownNil _ k (by rw [h b (by simp [hb])]; exact hb)
 | own b k off n' g cap a cc hb h0 h1 h2 hq => exact .own _ k off n' g cap a cc (by rw [h b (by simp [hb])]; exact hb) h0 h1 h2 hq
 | osl b off n' g cap cc hb h2 => exact .osl _ off n' g cap cc (by rw [h b (by simp [hb])]; exact hb) h2
 | mref b g cap hb => exact .mref _ g cap (by rw [h b (by simp [hb])]; exact hb)
 | ptr b off g cap hb => exact .ptr _ off g cap (by rw [h b (by simp [hb])]; exact hb)
 | aptr b k i off g cap hb => exact .aptr _ k i off g cap (by rw [h b (by simp [hb])]; exact hb)
 | pl b p x hb => exact .pl _ p x (by rw [h b (by simp [hb])]; exact hb)
 | tr b x h0 hb => exact .tr _ x h0 (by rw [h b (by simp [hb])]; exact hb)
 | cel cs a hs hI hc hr => exact .cel cs a hs hI hc hr
 | clo f caps xs hl hr ih => exact .clo f _ xs (by rw [shiftLs_len]; exact hl) fun i av x ha hx => by rw [shiftLs_get] at ha; simp only [Option.map_eq_some_iff] at ha; obtain ⟨y, hy, rfl⟩ := ha; exact ih i y x hy hx
 | agg caps xs hl h1 hr ih => exact .agg _ xs (by rw [shiftLs_len]; exact hl) h1 fun i av x ha hx => by rw [shiftLs_get] at ha; simp only [Option.map_eq_some_iff] at ha; obtain ⟨y, hy, rfl⟩ := ha; exact ih i y x hy hx
 | tup caps xs hl hr ih => exact .tup _ xs (by rw [shiftLs_len]; exact hl) fun i av x ha hx => by rw [shiftLs_get] at ha; simp only [Option.map_eq_some_iff] at ha; obtain ⟨y, hy, rfl⟩ := ha; exact ih i y x hy hx
theorem shift_blk {I : Nat → Prop} {ι ι₂ : Pl} {w : World} {n : Nat} (h : ∀ b, ι b ≠ none → ι₂ (n + b) = ι b) (hh : ∀ g b, ι.hid g = some b → ι₂.hid g = some (n + b)) {b : Nat} {blk : Blk} (hr : BlkRep I ι w b blk) : BlkRep I ι₂ w (n + b) (shiftBlk n blk) := by
 have e : ι₂ (n + b) = ι b := h b (by cases hr <;> simp [*])
 cases hr with
 | box cells ty g cur h1 h2 h3 h4 h5 => exact .box _ ty g cur (by rw [e, shiftLs_len]; exact h1) h2 (by rw [shiftLs_len]; exact h3) h4 fun i av x ha hx => by rw [shiftLs_get] at ha; simp only [Option.map_eq_some_iff] at ha; obtain ⟨y, hy, rfl⟩ := ha; exact shift_rep h (h5 i y x hy hx)
 | accNil k ty h1 => exact .accNil k ty (by rw [e]; exact h1)
 | acc k ty es g cap cur h1 h2 h3 h4 h5 h6 h8 => exact .acc k ty es g cap cur (by rw [e]; exact h1) h2 h3 h4 h5 h6 h8
 | raw g cap h1 => exact .raw g cap (by rw [e]; exact h1)
 | fr arr cells h1 h2 h3 => exact .fr arr _ (by rw [e]; exact h1) (by rw [shiftLs_len]; exact h2) fun i av x ha hx => by rw [shiftLs_get] at ha; simp only [Option.map_eq_some_iff] at ha; obtain ⟨y, hy, rfl⟩ := ha; exact shift_rep h (h3 i y x hy hx)
 | lp l rec h1 h2 => exact .lp l rec (by rw [e]; exact h1) h2
 | mp es arr clock g h1 h2 h3 h4 => exact .mp es arr clock g (by rw [e]; exact h1) h2 h3 h4
 | tre T x h0 h1 h2 => exact .tre T x h0 (by rw [e]; exact h1) (h2.mono (fun g hg => ⟨hg, rfl⟩) fun g hg => ⟨hh g b hg, rfl⟩)
 | arrNil k ty h1 => exact .arrNil k ty (by rw [e]; exact h1)
 | arr k ty es hole g cap cur Sf h1 h2 h3 h4 h5 h6 h7 h8 h9 h10 =>
  refine .arr k ty es _ g cap cur Sf (by rw [e]; exact h1) h2 h3 h4 h5 h6 (fun p q hq => hh q b (h7 p q hq)) h8 (fun i e j u x hn => h9 i e j u x fun row hr => hn (shiftLs n row) (by rw [hr]; rfl)) ?_
  intro i row hr
  cases hole with
  | none => cases hr
  | some hole =>
   cases hr
   obtain ⟨g1, g2, g3⟩ := h10 hole.1 hole.2 rfl
   exact ⟨g1, ⟨by rw [shiftLs_len]; exact g2.1, g2.2⟩, fun j av x ha hx => by rw [shiftLs_get] at ha; simp only [Option.map_eq_some_iff] at ha; obtain ⟨y, hy, rfl⟩ := ha; exact shift_rep h (g3 j y x hy hx)⟩
 | opn av x h0 h1 h2 => exact .opn _ x h0 (by rw [e]; exact h1) (shift_rep h h2)
def FlatC (u : CV) : Prop := u = .sl [] ∨ ∃ x, u = .val x
mutual
def flatAV : AV → Prop
 | .c (.val _) => True
 | .c .any => True
 | .c (.sl es) => es = []
 | .cel _ => False
 | .clo _ caps => flatLs caps
 | .agg cs => flatLs cs
 | .tup cs => flatLs cs
 | .top => True
 | .own _ _ _ _ => True
 | .osl _ _ _ => True
 | .mref _ => True
 | .ptr _ _ => True
 | .aptr _ _ _ _ => True
 | .pl _ _ => True
 | .tr _ => True
def flatLs : List AV → Prop
 | [] => True
 | a :: r => flatAV a ∧ flatLs r
end
mutual
def flatT : TV → Prop
 | .cl (.val _) => True
 | .cl .any => True
 | .cl (.sl es) => es = []
 | .own _ es _ => ∀ e ∈ es, ∀ u ∈ e, FlatC u
 | .ow _ es _ => flatTss es
 | .pt cells _ => flatTs cells
def flatTs : List TV → Prop
 | [] => True
 | a :: r => flatT a ∧ flatTs r
def flatTss : List (List TV) → Prop
 | [] => True
 | a :: r => flatTs a ∧ flatTss r
end
def flatBlk : Blk → Prop
 | .box cells _ => flatLs cells
 | .acc _ es _ => ∀ e ∈ es, ∀ u ∈ e, FlatC u
 | .raw => True
 | .fr _ cells => flatLs cells
 | .lp _ _ => True
 | .mp _ => True
 | .tre T => flatT T
 | .arr _ es _ none => flatTss es
 | .arr _ es _ (some h) => flatTss es ∧ flatLs h.2
 | .opn av => flatAV av
def flatBs : List Blk → Prop
 | [] => True
 | b :: r => flatBlk b ∧ flatBs r
theorem flatLs_get : ∀ {l : List AV} {i : Nat} {av : AV}, flatLs l → l[i]? = some av → flatAV av
 | [], i, av, _, h => by simp at h
 | a :: r, 0, av, hf, h => by simp at h; subst h; exact hf.1
 | a :: r, i + 1, av, hf, h => flatLs_get hf.2 (by simpa using h)
theorem flatTs_get : ∀ {l : List TV} {i : Nat} {av : TV}, flatTs l → l[i]? = some av → flatT av
 | [], i, av, _, h => by simp at h
 | a :: r, 0, av, hf, h => by simp at h; subst h; exact hf.1
 | a :: r, i + 1, av, hf, h => flatTs_get hf.2 (by simpa using h)
theorem flatTss_get : ∀ {l : List (List TV)} {i : Nat} {av : List TV}, flatTss l → l[i]? = some av → flatTs av
 | [], i, av, _, h => by simp at h
 | a :: r, 0, av, hf, h => by simp at h; subst h; exact hf.1
 | a :: r, i + 1, av, hf, h => flatTss_get hf.2 (by simpa using h)
theorem flatBs_get : ∀ {l : List Blk} {i : Nat} {b : Blk}, flatBs l → l[i]? = some b → flatBlk b
 | [], i, av, _, h => by simp at h
 | a :: r, 0, av, hf, h => by simp at h; subst h; exact hf.1
 | a :: r, i + 1, av, hf, h => flatBs_get hf.2 (by simpa using h)
theorem crep_flat {I I' : Nat → Prop} {w : World} {u : CV} {x : Value} (h : CRep I w u x) (hf : FlatC u) : CRep I' w u x := by
 rcases hf with rfl | ⟨y, rfl⟩
 ·cases h with
  | nil => exact .nil
  | sl _ a n cap k hn hc hm hk hI hcell hrep => exact .sl [] a n cap k hn hc hm hk (fun h => absurd rfl h) hcell fun i e j u x he => by simp at he
 ·cases h with
  | val _ h1 => exact .val _ h1
theorem trep_flat {I I' : Nat → Prop} {w : World} {S : Nat → Prop} {T : TV} {x : Value} (h : TRep I w S T x) : flatT T → TRep I' w S T x := by
 induction h with
 | cl S u x hu =>
  intro hf
  cases u with
  | val y => exact .cl _ _ _ (crep_flat hu (.inr ⟨y, rfl⟩))
  | any => cases hu with | any _ h1 => exact .cl _ _ _ (.any _ h1)
  | sl es =>
   have : es = [] := by simpa only [flatT] using hf
   subst this
   exact .cl _ _ _ (crep_flat hu (.inl rfl))
 | ownNil S k ty => exact fun _ => .ownNil _ k ty
 | own S k ty es g cap cur h1 h2 h3 h4 h5 h6 h7 => exact fun hf => .own _ k ty es g cap cur h1 h2 h3 h4 h5 h6 fun i e j u x he hu hx => crep_flat (h7 i e j u x he hu hx) ((by simpa only [flatT] using hf : ∀ e ∈ es, ∀ u ∈ e, FlatC u) e (List.mem_of_getElem? he) u (List.mem_of_getElem? hu))
 | owNil S k ty => exact fun _ => .owNil _ k ty
 | ow S k ty es g cap cur Sf h1 h2 h3 h4 h5 h6 h7 h8 h9 ih => exact fun hf => .ow _ k ty es g cap cur Sf h1 h2 h3 h4 h5 h6 h7 h8 fun i e j u x he hu hx => ih i e j u x he hu hx (flatTs_get (flatTss_get (by simpa only [flatT] using hf) he) hu)
 | pt S cells ty g cur Sf h1 h2 h3 h7 h8 h9 ih => exact fun hf => .pt _ cells ty g cur Sf h1 h2 h3 h7 h8 fun j u x hu hx => ih j u x hu hx (flatTs_get (by simpa only [flatT] using hf) hu)
theorem rep_flat {I I' : Nat → Prop} {ι : Pl} {w : World} {av : AV} {x : Value} (h : Rep I ι w av x) : flatAV av → Rep I' ι w av x := by
 induction h with
 | top x => exact fun _ => .top x
 | c u x hu =>
  intro hf
  cases u with
  | val y => exact .c _ _ (crep_flat hu (.inr ⟨y, rfl⟩))
  | any => cases hu with | any _ h1 => exact .c _ _ (.any _ h1)
  | sl es =>
   have : es = [] := by simpa only [flatAV] using hf
   subst this
   exact .c _ _ (crep_flat hu (.inl rfl))
 | ownNil b k hb => exact fun _ => .ownNil b k hb
 | own b k off n g cap a cc hb h0 h1 h2 hq => exact fun _ => .own b k off n g cap a cc hb h0 h1 h2 hq
 | osl b off n g cap cc hb h2 => exact fun _ => .osl b off n g cap cc hb h2
 | mref b g cap hb => exact fun _ => .mref b g cap hb
 | ptr b off g cap hb => exact fun _ => .ptr b off g cap hb
 | aptr b k i off g cap hb => exact fun _ => .aptr b k i off g cap hb
 | pl b p x hb => exact fun _ => .pl b p x hb
 | tr b x h0 hb => exact fun _ => .tr b x h0 hb
 | cel cs a hs hI hc hr => intro hf; exact absurd hf (by simp [flatAV])
 | clo f caps xs hl hr ih => exact fun hf => .clo f caps xs hl fun i av x ha hx => ih i av x ha hx (flatLs_get (by simpa only [flatAV] using hf) ha)
 | agg caps xs hl h1 hr ih => exact fun hf => .agg caps xs hl h1 fun i av x ha hx => ih i av x ha hx (flatLs_get (by simpa only [flatAV] using hf) ha)
 | tup caps xs hl hr ih => exact fun hf => .tup caps xs hl fun i av x ha hx => ih i av x ha hx (flatLs_get (by simpa only [flatAV] using hf) ha)
theorem blk_flat {I I' : Nat → Prop} {ι : Pl} {w : World} {b : Nat} {blk : Blk} (h : BlkRep I ι w b blk) (hf : flatBlk blk) : BlkRep I' ι w b blk := by
 cases h with
 | box cells ty g cur h1 h2 h3 h4 h5 => exact .box cells ty g cur h1 h2 h3 h4 fun i av x ha hx => rep_flat (h5 i av x ha hx) (flatLs_get hf ha)
 | accNil k ty h1 => exact .accNil k ty h1
 | acc k ty es g cap cur h1 h2 h3 h4 h5 h6 h8 => exact .acc k ty es g cap cur h1 h2 h3 h4 h5 h6 fun i e j u x he hu hx => crep_flat (h8 i e j u x he hu hx) (hf e (List.mem_of_getElem? he) u (List.mem_of_getElem? hu))
 | raw g cap h1 => exact .raw g cap h1
 | fr arr cells h1 h2 h3 => exact .fr arr cells h1 h2 fun i av x ha hx => rep_flat (h3 i av x ha hx) (flatLs_get hf ha)
 | lp l rec h1 h2 => exact .lp l rec h1 h2
 | mp es arr clock g h1 h2 h3 h4 => exact .mp es arr clock g h1 h2 h3 h4
 | tre T x h0 h1 h2 => exact .tre T x h0 h1 (trep_flat h2 hf)
 | arrNil k ty h1 => exact .arrNil k ty h1
 | arr k ty es hole g cap cur Sf h1 h2 h3 h4 h5 h6 h7 h8 h9 h10 =>
  have hf1 : flatTss es := by cases hole with | none => exact hf | some hole => exact hf.1
  refine .arr k ty es hole g cap cur Sf h1 h2 h3 h4 h5 h6 h7 h8 (fun i e j u x hn he hu hx => trep_flat (h9 i e j u x hn he hu hx) (flatTs_get (flatTss_get hf1 he) hu)) fun i row hr => ⟨(h10 i row hr).1, (h10 i row hr).2.1, fun j av x ha hx => rep_flat ((h10 i row hr).2.2 j av x ha hx) ?_⟩
  subst hr
  exact flatLs_get hf.2 ha
 | opn av x h0 h1 h2 => exact .opn av x h0 h1 (rep_flat h2 hf)
def FnO (P : Program) (f : FuncId) (args : List AV) (blks : List Blk) (r : AV) : Prop :=
 PlainFn P f ∧ ∀ (I : Nat → Prop) (w : World) (vs : List Value), (∀ g, I g → g < w.heap.size) → vs.length = args.length →
  (∀ (i : Nat) av x, args[i]? = some av → vs[i]? = some x → Rep I noPl w av x) →
  Calls P f vs.toArray w fun e w' => ∃ v ι', e = .returned v ∧ Rep (Still (fun g => I g ∨ w.heap.size ≤ g) ι' w') ι' w' r v ∧
   (∀ (i : Nat) blk, blks[i]? = some blk → BlkRep (Still (fun g => I g ∨ w.heap.size ≤ g) ι' w') ι' w' i blk) ∧
   (∀ b, blks.length ≤ b → ι' b = none) ∧ (∀ b g c, ι' b = some (.at g c) → w.heap.size ≤ g) ∧ (∀ g b, ι'.hid g = some b → w.heap.size ≤ g) ∧ Ok ι' w' ∧ Below w.heap.size w w'
theorem FnP.toO {P : Program} {f : FuncId} {args : List AV} {r : AV} (h : FnP P f args r) : FnO P f args [] r := by
 refine ⟨h.1, fun I w vs hI hl hr => (h.2 I w vs hI hl hr).mono fun e w' he => ?_⟩
 obtain ⟨v, rfl, hrep, hbel⟩ := he
 exact ⟨v, noPl, rfl, hrep.mono (fun g hg => ⟨⟨⟨⟨hg.1, rfl⟩, hg.2⟩, fun b c hb => (noPl_f hb).elim⟩, rfl⟩) fun _ _ => rfl, fun i blk hb => by simp at hb, fun _ _ => rfl, fun b g c hb => (noPl_f hb).elim, fun g b hb => (noPl_h hb).elim, ok_noPl w', hbel⟩
def snap0 (heap : List (Nat × Blk)) : AV → Option (Prop × AV)
 | .own b k off n => match look heap b with
  | some (.acc k' es _) => some (k = k' ∧ off + n ≤ es.length, .c (.sl ((es.drop off).take n)))
  | _ => none
 | .osl b off n => match look heap b with
  | some (.box cells _) => (closedL cells).map fun us => (off + n ≤ us.length ∧ n ≤ maxLen, .c (.sl (((us.drop off).take n).map fun u => [u])))
  | _ => none
 | .c (.val (.slice none 0 0)) => some (True, .c (.sl []))
 | .c u => some (True, .c u)
 | .cel cs => some (True, .cel cs)
 | .clo f [] => some (True, .clo f [])
 | _ => none
def snapC (heap : List (Nat × Blk)) : List AV → Option (Prop × List AV)
 | [] => some (True, [])
 | a :: r => match snap0 heap a, snapC heap r with
  | some (v, x), some (vs, xs) => some (v ∧ vs, x :: xs)
  | _, _ => none
def snapAV (heap : List (Nat × Blk)) : AV → Option (Prop × AV)
 | .agg cs => (snapC heap cs).map fun r => (r.1, .agg r.2)
 | av => snap0 heap av
def snapL (heap : List (Nat × Blk)) : List AV → Option (Prop × List AV)
 | [] => some (True, [])
 | a :: r => match snapAV heap a, snapL heap r with
  | some (v, x), some (vs, xs) => some (v ∧ vs, x :: xs)
  | _, _ => none
end Go.Ab
