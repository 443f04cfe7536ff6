/-
  Values and memory told by what they hold: closed values (immutable slices are lists), open values (over numbered blocks of the call's own), and how they lie in the model's world. Plain definitions and their stability; no program.
-/
import Derived.Control
import Derived.Laws.Sem
import Derived.Laws.World
import Derived.Laws.Rows
import Derived.Below
set_option linter.unusedVariables false
set_option linter.unusedSimpArgs false
namespace Go.Ab
open Go

/-- A closed cell: a plain value, or a slice that nobody writes any more, told by its elements' cells. -/
inductive CV where
  | val (x : Value)
  | sl (es : List (List CV))
instance : Inhabited CV := ⟨.val undef⟩

/-- Where a numbered block lies. -/
inductive Plc where
  | nil
  | at (g cap : Nat)

/-- A value: closed, or over blocks of the call's own (by number). -/
inductive AV where
  | top
  | c (x : CV)
  | own (b k off n : Nat)
  | osl (b off n : Nat)
  | ptr (b off : Nat)
  | aptr (b k i off : Nat)
  | pl (b : Nat) (p : Plc)
  | cel (cs : List CV)
  | clo (f : FuncId) (caps : List AV)
  | agg (cs : List AV)
  | tup (vs : List AV)
instance : Inhabited AV := ⟨.top⟩

/-- A block of the call's own. -/
inductive Blk where
  | box (cells : List AV) (ty : TypeId)
  | acc (k : Nat) (es : List (List CV)) (ty : TypeId)
  | raw
  | fr (arr : List Value) (cells : List AV)
  | lp (l : Nat) (rec : Loop)
instance : Inhabited Blk := ⟨.raw⟩

/-- The values that a block bears. -/
def Blk.avs : Blk → List AV
  | .box cells _ => cells
  | .fr _ cells => cells
  | _ => []

abbrev Pl := Nat → Option Plc

/-- A closed cell in a world: I are the blocks that stay as they are. -/
inductive CRep (I : Nat → Prop) (w : World) : CV → Value → Prop
  | val (x : Value) : x.oneCell' = true → CRep I w (.val x) x
  | nil : CRep I w (.sl []) (.slice none 0 0)
  | sl (es : List (List CV)) (a : Addr) (n cap k : Nat) (hn : n = es.length) (hc : n ≤ cap) (hm : n ≤ maxLen)
      (hk : ∀ (i : Nat) (e : List CV), es[i]? = some e → e.length = k)
      (hI : es ≠ [] → a.spot = none ∧ I a.block)
      (hcell : ∀ (i : Nat) (e : List CV) (j : Nat) (u : CV), es[i]? = some e → e[j]? = some u → ∃ x, w.cell? ⟨a.block, a.off + (i * k + j), none⟩ = some x)
      (hrep : ∀ (i : Nat) (e : List CV) (j : Nat) (u : CV) (x : Value), es[i]? = some e → e[j]? = some u → w.cell? ⟨a.block, a.off + (i * k + j), none⟩ = some x → CRep I w u x) :
      CRep I w (.sl es) (.slice (some a) n cap)

/-- An open value in a world. -/
inductive Rep (I : Nat → Prop) (ι : Pl) (w : World) : AV → Value → Prop
  | top (x : Value) : Rep I ι w .top x
  | c (u : CV) (x : Value) : CRep I w u x → Rep I ι w (.c u) x
  | ownNil (b k : Nat) : ι b = some .nil → Rep I ι w (.own b k 0 0) (.slice none 0 0)
  | own (b k off n g cap : Nat) (a : Addr) (cc : Nat) : ι b = some (.at g cap) → (off = 0 → a = ⟨g, 0, none⟩ ∧ cc = cap) → (n ≠ 0 → a = ⟨g, off * k, none⟩) → n ≤ cc → off + cc ≤ cap →
      Rep I ι w (.own b k off n) (.slice (some a) n cc)
  | osl (b off n g cap cc : Nat) : ι b = some (.at g cap) → n ≤ cc → Rep I ι w (.osl b off n) (.slice (some ⟨g, off, none⟩) n cc)
  | ptr (b off g cap : Nat) : ι b = some (.at g cap) → Rep I ι w (.ptr b off) (.pointer (some ⟨g, off, none⟩))
  | aptr (b k i off g cap : Nat) : ι b = some (.at g cap) → Rep I ι w (.aptr b k i off) (.pointer (some ⟨g, i * k + off, none⟩))
  | pl (b : Nat) (p : Plc) (x : Value) : ι b = some p → Rep I ι w (.pl b p) x
  | cel (cs : List CV) (a : Addr) (hs : a.spot = none) (hI : I a.block)
      (hcell : ∀ (j : Nat) (u : CV), cs[j]? = some u → ∃ x, w.cell? ⟨a.block, a.off + j, none⟩ = some x)
      (hrep : ∀ (j : Nat) (u : CV) (x : Value), cs[j]? = some u → w.cell? ⟨a.block, a.off + j, none⟩ = some x → CRep I w u x) :
      Rep I ι w (.cel cs) (.pointer (some a))
  | clo (f : FuncId) (caps : List AV) (xs : List Value) : xs.length = caps.length → (∀ (i : Nat) (av : AV) (x : Value), caps[i]? = some av → xs[i]? = some x → Rep I ι w av x) →
      Rep I ι w (.clo f caps) (.func (.func f) #[] xs.toArray)
  | agg (cs : List AV) (xs : List Value) : xs.length = cs.length → (∀ x ∈ xs, x.oneCell' = true) → (∀ (i : Nat) (av : AV) (x : Value), cs[i]? = some av → xs[i]? = some x → Rep I ι w av x) →
      Rep I ι w (.agg cs) (.agg xs.toArray)
  | tup (cs : List AV) (xs : List Value) : xs.length = cs.length → (∀ (i : Nat) (av : AV) (x : Value), cs[i]? = some av → xs[i]? = some x → Rep I ι w av x) →
      Rep I ι w (.tup cs) (.tuple xs.toArray)

/-- What a numbered block holds. -/
inductive BlkRep (I : Nat → Prop) (ι : Pl) (w : World) (b : Nat) : Blk → Prop
  | box (cells : List AV) (ty g : Nat) (cur : List Value) : ι b = some (.at g cells.length) → w.heap[g]? = some (.cells cur.toArray ty (0, 0)) → cur.length = cells.length →
      (∀ x ∈ cur, x.oneCell' = true) → (∀ (i : Nat) (av : AV) (x : Value), cells[i]? = some av → cur[i]? = some x → Rep I ι w av x) → BlkRep I ι w b (.box cells ty)
  | accNil (k ty : Nat) : ι b = some .nil → BlkRep I ι w b (.acc k [] ty)
  | acc (k ty : Nat) (es : List (List CV)) (g cap : Nat) (cur : List Value) : ι b = some (.at g cap) → w.heap[g]? = some (.cells cur.toArray ty (0, 0)) → cur.length = cap * k → es.length ≤ cap → cap ≤ maxLen →
      (∀ (i : Nat) (e : List CV), es[i]? = some e → e.length = k) →
      (∀ (i : Nat) (e : List CV) (j : Nat) (u : CV) (x : Value), es[i]? = some e → e[j]? = some u → cur[i * k + j]? = some x → CRep I w u x) → BlkRep I ι w b (.acc k es ty)
  | raw (g cap : Nat) : ι b = some (.at g cap) → BlkRep I ι w b .raw
  | fr (arr : List Value) (cells : List AV) : ι b = some .nil → arr.length = cells.length → (∀ (i : Nat) (av : AV) (x : Value), cells[i]? = some av → arr[i]? = some x → Rep I ι w av x) → BlkRep I ι w b (.fr arr cells)
  | lp (l : Nat) (rec : Loop) : ι b = some (.at l 0) → w.heap[l]? = some (.loop rec) → BlkRep I ι w b (.lp l rec)

/-- The blocks that stay as they are: those of A that stand and are none of the numbered ones. -/
def Still (A : Nat → Prop) (ι : Pl) (w : World) (g : Nat) : Prop := (A g ∧ g < w.heap.size) ∧ ∀ b c, ι b ≠ some (.at g c)

structure Ok (ι : Pl) (w : World) : Prop where
  inj : ∀ b b' g c c', ι b = some (.at g c) → ι b' = some (.at g c') → b = b'
  lt : ∀ b g c, ι b = some (.at g c) → g < w.heap.size

/-- A step of the call: only the numbered blocks of wr may turn; those of kill may be laid elsewhere; new ones are new. -/
structure StepR (ι : Pl) (w : World) (ι' : Pl) (w' : World) (wr kill : Nat → Prop) : Prop where
  os : w'.os = w.os
  tape : w'.tape = w.tape
  output : w'.output = w.output
  size : w.heap.size ≤ w'.heap.size
  keep : ∀ b, ¬ kill b → ι' b = ι b
  fresh : ∀ b g c, ι' b = some (.at g c) → (∃ b' c', ι b' = some (.at g c')) ∨ w.heap.size ≤ g
  block : ∀ g, g < w.heap.size → (∀ b c, wr b → ι b ≠ some (.at g c)) → w'.heap[g]? = w.heap[g]?
  ok : Ok ι' w'

theorem CRep.mono {I I' : Nat → Prop} {w w' : World} (h : ∀ g, I g → I' g ∧ w'.heap[g]? = w.heap[g]?) : ∀ {u x}, CRep I w u x → CRep I' w' u x := by
  intro u x hr
  induction hr with
  | val x h1 => exact .val x h1
  | nil => exact .nil
  | sl es a n cap k hn hc hm hk hI hcell hrep ih =>
    have hne : ∀ (i : Nat) (e : List CV), es[i]? = some e → es ≠ [] := by
      intro i e he h0; simp [h0] at he
    have hc' : ∀ (i : Nat) (e : List CV) (o : Nat), es[i]? = some e → w'.cell? ⟨a.block, o, none⟩ = w.cell? ⟨a.block, o, none⟩ := fun i e o he =>
      World.cell?_of_block (h _ (hI (hne i e he)).2).2
    refine .sl es a n cap k hn hc hm hk (fun h0 => ⟨(hI h0).1, (h _ (hI h0).2).1⟩) (fun i e j u he hu => ?_) (fun i e j u x he hu hx => ?_)
    · rw [hc' i e _ he]; exact hcell i e j u he hu
    · rw [hc' i e _ he] at hx; exact ih i e j u x he hu hx

theorem CRep.one {I : Nat → Prop} {w : World} {u x} (h : CRep I w u x) : x.oneCell' = true := by
  cases h <;> first | assumption | rfl

/-- The numbers that a value bears. -/
inductive Men (b : Nat) : AV → Prop
  | own (k off n) : Men b (.own b k off n)
  | osl (off n) : Men b (.osl b off n)
  | ptr (off) : Men b (.ptr b off)
  | aptr (k i off) : Men b (.aptr b k i off)
  | pl (p) : Men b (.pl b p)
  | clo (f : FuncId) (caps : List AV) (i : Nat) (av : AV) : caps[i]? = some av → Men b av → Men b (.clo f caps)
  | agg (cs : List AV) (i : Nat) (av : AV) : cs[i]? = some av → Men b av → Men b (.agg cs)
  | tup (cs : List AV) (i : Nat) (av : AV) : cs[i]? = some av → Men b av → Men b (.tup cs)

theorem Rep.mono {I I' : Nat → Prop} {ι ι' : Pl} {w w' : World} (h : ∀ g, I g → I' g ∧ w'.heap[g]? = w.heap[g]?) :
    ∀ {av x}, Rep I ι w av x → (∀ b, Men b av → ι' b = ι b) → Rep I' ι' w' av x := by
  intro av x hr
  induction hr with
  | top x => exact fun _ => .top x
  | c u x hu => exact fun _ => .c u x (hu.mono h)
  | ownNil b k hb => exact fun hm => .ownNil b k (by rw [hm b (.own ..)]; exact hb)
  | own b k off n g cap a cc hb h0 h1 h2 hq => exact fun hm => .own b k off n g cap a cc (by rw [hm b (.own ..)]; exact hb) h0 h1 h2 hq
  | osl b off n g cap cc hb h2 => exact fun hm => .osl b off n g cap cc (by rw [hm b (.osl ..)]; exact hb) h2
  | ptr b off g cap hb => exact fun hm => .ptr b off g cap (by rw [hm b (.ptr ..)]; exact hb)
  | aptr b k i off g cap hb => exact fun hm => .aptr b k i off g cap (by rw [hm b (.aptr ..)]; exact hb)
  | pl b p x hb => exact fun hm => .pl b p x (by rw [hm b (.pl ..)]; exact hb)
  | cel cs a hs hI hcell hrep =>
    intro _
    have hc' : ∀ (o : Nat), w'.cell? ⟨a.block, o, none⟩ = w.cell? ⟨a.block, o, none⟩ := fun o => World.cell?_of_block (h _ hI).2
    refine .cel cs a hs (h _ hI).1 (fun j u hu => ?_) (fun j u x hu hx => ?_)
    · rw [hc']; exact hcell j u hu
    · rw [hc'] at hx; exact (hrep j u x hu hx).mono h
  | clo f caps xs hl hr ih => exact fun hm => .clo f caps xs hl fun i av x ha hx => ih i av x ha hx fun b hb => hm b (.clo f caps i av ha hb)
  | agg cs xs hl h1 hr ih => exact fun hm => .agg cs xs hl h1 fun i av x ha hx => ih i av x ha hx fun b hb => hm b (.agg cs i av ha hb)
  | tup cs xs hl hr ih => exact fun hm => .tup cs xs hl fun i av x ha hx => ih i av x ha hx fun b hb => hm b (.tup cs i av ha hb)

theorem StepR.still {ι ι' : Pl} {w w' : World} {wr kill : Nat → Prop} (h : StepR ι w ι' w' wr kill) {A : Nat → Prop} : ∀ g, Still A ι w g → Still A ι' w' g ∧ w'.heap[g]? = w.heap[g]? := by
  intro g ⟨⟨hA, h1⟩, h2⟩
  refine ⟨⟨⟨hA, Nat.lt_of_lt_of_le h1 h.size⟩, fun b c hb => ?_⟩, h.block g h1 fun b c _ => h2 b c⟩
  rcases h.fresh b g c hb with ⟨b', c', hc⟩ | hc
  · exact h2 b' c' hc
  · omega

theorem StepR.rep {ι ι' : Pl} {w w' : World} {wr kill : Nat → Prop} (h : StepR ι w ι' w' wr kill) {A : Nat → Prop} {av x} (hr : Rep (Still A ι w) ι w av x) (hm : ∀ b, Men b av → ¬ kill b) :
    Rep (Still A ι' w') ι' w' av x := hr.mono h.still fun b hb => h.keep b (hm b hb)

theorem StepR.blk {ι ι' : Pl} {w w' : World} {wr kill : Nat → Prop} (h : StepR ι w ι' w' wr kill) (hok : Ok ι w) {A : Nat → Prop} {b blk} (hr : BlkRep (Still A ι w) ι w b blk)
    (hw : ¬ wr b) (hk : ¬ kill b) (hm : ∀ (i : Nat) av, blk.avs[i]? = some av → ∀ b', Men b' av → ¬ kill b') : BlkRep (Still A ι' w') ι' w' b blk := by
  have hb : ∀ g c, ι b = some (.at g c) → w'.heap[g]? = w.heap[g]? := fun g c hg => h.block g (hok.lt _ _ _ hg) fun b' c' hw' hg' => by
    have := hok.inj _ _ _ _ _ hg hg'; subst this; exact hw hw'
  cases hr with
  | box cells ty g cur h1 h2 h3 h4 h5 =>
    exact .box cells ty g cur (by rw [h.keep b hk]; exact h1) (by rw [hb _ _ h1]; exact h2) h3 h4 fun i av x ha hx => h.rep (h5 i av x ha hx) (hm i av ha)
  | accNil k ty h1 => exact .accNil k ty (by rw [h.keep b hk]; exact h1)
  | acc k ty es g cap cur h1 h2 h3 h4 h5 h6 h8 =>
    exact .acc k ty es g cap cur (by rw [h.keep b hk]; exact h1) (by rw [hb _ _ h1]; exact h2) h3 h4 h5 h6 fun i e j u x he hu hx => (h8 i e j u x he hu hx).mono h.still
  | raw g cap h1 => exact .raw g cap (by rw [h.keep b hk]; exact h1)
  | fr arr cells h1 h2 h3 => exact .fr arr cells (by rw [h.keep b hk]; exact h1) h2 fun i av x ha hx => h.rep (h3 i av x ha hx) (hm i av ha)
  | lp l rec h1 h2 => exact .lp l rec (by rw [h.keep b hk]; exact h1) (by rw [hb _ _ h1]; exact h2)

theorem StepR.refl {ι : Pl} {w : World} (h : Ok ι w) (wr kill : Nat → Prop) : StepR ι w ι w wr kill :=
  ⟨rfl, rfl, rfl, Nat.le_refl _, fun _ _ => rfl, fun b g c hb => .inl ⟨b, c, hb⟩, fun _ _ _ => rfl, h⟩

/-- A value without what it says of block b. -/
def kill0 (b : Nat) : AV → AV
  | .own b' k off n => bif b' == b then .top else .own b' k off n
  | .osl b' off n => bif b' == b then .top else .osl b' off n
  | .ptr b' off => bif b' == b then .top else .ptr b' off
  | .aptr b' k i off => bif b' == b then .top else .aptr b' k i off
  | .pl b' p => bif b' == b then .top else .pl b' p
  | .c u => .c u
  | .cel cs => .cel cs
  | _ => .top
def kill1 (b : Nat) : AV → AV
  | .agg cs => .agg (cs.map (kill0 b))
  | .clo f caps => .clo f (caps.map (kill0 b))
  | av => kill0 b av
def killAV (b : Nat) : AV → AV
  | .tup cs => .tup (cs.map (kill1 b))
  | av => kill1 b av

theorem kill0_men {b : Nat} {av : AV} : ¬ Men b (kill0 b av) := by
  intro h
  cases av with
  | own b' k off n => cases e : b' == b <;> simp only [kill0, e, cond_true, cond_false] at h <;> cases h; simp at e
  | osl b' off n => cases e : b' == b <;> simp only [kill0, e, cond_true, cond_false] at h <;> cases h; simp at e
  | ptr b' off => cases e : b' == b <;> simp only [kill0, e, cond_true, cond_false] at h <;> cases h; simp at e
  | aptr b' k i off => cases e : b' == b <;> simp only [kill0, e, cond_true, cond_false] at h <;> cases h; simp at e
  | pl b' p => cases e : b' == b <;> simp only [kill0, e, cond_true, cond_false] at h <;> cases h; simp at e
  | _ => simp only [kill0] at h; cases h

theorem kill1_men {b : Nat} {av : AV} : ¬ Men b (kill1 b av) := by
  intro h
  cases av <;> simp only [kill1] at h <;> first | exact kill0_men h | skip
  all_goals
    cases h
    rename_i hm hi
    rw [List.getElem?_map] at hi
    simp only [Option.map_eq_some_iff] at hi
    obtain ⟨a, _, rfl⟩ := hi
    exact kill0_men hm

theorem killAV_men {b : Nat} {av : AV} : ¬ Men b (killAV b av) := by
  intro h
  cases av <;> simp only [killAV] at h <;> first | exact kill1_men h | skip
  cases h
  rename_i hm hi
  rw [List.getElem?_map] at hi
  simp only [Option.map_eq_some_iff] at hi
  obtain ⟨a, _, rfl⟩ := hi
  exact kill1_men hm

theorem Rep.kill0 {I : Nat → Prop} {ι : Pl} {w : World} {av x} (b : Nat) (h : Rep I ι w av x) : Rep I ι w (kill0 b av) x := by
  cases av with
  | own b' k off n => cases e : b' == b <;> simp only [Ab.kill0, e, cond_true, cond_false] <;> first | exact .top _ | exact h
  | osl b' off n => cases e : b' == b <;> simp only [Ab.kill0, e, cond_true, cond_false] <;> first | exact .top _ | exact h
  | ptr b' off => cases e : b' == b <;> simp only [Ab.kill0, e, cond_true, cond_false] <;> first | exact .top _ | exact h
  | aptr b' k i off => cases e : b' == b <;> simp only [Ab.kill0, e, cond_true, cond_false] <;> first | exact .top _ | exact h
  | pl b' p => cases e : b' == b <;> simp only [Ab.kill0, e, cond_true, cond_false] <;> first | exact .top _ | exact h
  | c u => exact h
  | cel cs => exact h
  | _ => exact .top _

theorem getElem?_map' {α β : Type} {f : α → β} {l : List α} {i : Nat} {y : β} (h : (l.map f)[i]? = some y) : ∃ x, l[i]? = some x ∧ f x = y := by
  rw [List.getElem?_map] at h
  simpa [Option.map_eq_some_iff] using h

theorem Rep.kill1 {I : Nat → Prop} {ι : Pl} {w : World} {av x} (b : Nat) (h : Rep I ι w av x) : Rep I ι w (kill1 b av) x := by
  cases h with
  | agg cs xs hl h1 hr => exact .agg _ xs (by simp [hl]) h1 fun i av x ha hx => by obtain ⟨y, hy, rfl⟩ := getElem?_map' ha; exact (hr i y x hy hx).kill0 b
  | clo f cs xs hl hr => exact .clo f _ xs (by simp [hl]) fun i av x ha hx => by obtain ⟨y, hy, rfl⟩ := getElem?_map' ha; exact (hr i y x hy hx).kill0 b
  | top x => exact .top x
  | c u x hu => exact .c u x hu
  | cel cs a hs hI hc hr => exact .cel cs a hs hI hc hr
  | tup cs xs hl hr => exact .top _
  | ownNil b' k hb => exact (Rep.ownNil b' k hb).kill0 b
  | own b' k off n g cap a cc h1 h2 h3 h4 hq => exact (Rep.own b' k off n g cap a cc h1 h2 h3 h4 hq).kill0 b
  | osl b' off n g cap cc h1 h2 => exact (Rep.osl b' off n g cap cc h1 h2).kill0 b
  | ptr b' off g cap h1 => exact (Rep.ptr b' off g cap h1).kill0 b
  | aptr b' k i off g cap h1 => exact (Rep.aptr b' k i off g cap h1).kill0 b
  | pl b' p x h1 => exact (Rep.pl b' p x h1).kill0 b

theorem Rep.killAV {I : Nat → Prop} {ι : Pl} {w : World} {av x} (b : Nat) (h : Rep I ι w av x) : Rep I ι w (killAV b av) x := by
  cases av with
  | tup cs =>
    cases h with
    | tup cs xs hl hr => exact .tup _ xs (by simp [hl]) fun i av x ha hx => by obtain ⟨y, hy, rfl⟩ := getElem?_map' ha; exact (hr i y x hy hx).kill1 b
  | _ => exact h.kill1 b

end Go.Ab
