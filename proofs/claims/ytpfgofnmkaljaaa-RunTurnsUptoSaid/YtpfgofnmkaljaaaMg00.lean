/-
  Values and memory told by what they hold: closed values (immutable slices are lists), open values (over numbered blocks of the call's own), and how they lie in the model's world. Plain definitions and their stability; no program.
-/
import Derived.Control
import Derived.Laws.Sem
import Derived.Laws.World
import Derived.Laws.Rows
import Derived.Below
set_option linter.unusedVariables false
set_option linter.unusedSimpArgs false
namespace Go.Ab
open Go
inductive CV where
 | val (x : Value)
 | any
 | sl (es : List (List CV))
instance : Inhabited CV := ⟨.val undef⟩
inductive Plc where
 | nil
 | at (g cap : Nat)
 | root (x : Value)
inductive AV where
 | top
 | c (x : CV)
 | own (b k off n : Nat)
 | osl (b off n : Nat)
 | mref (b : Nat)
 | ptr (b off : Nat)
 | aptr (b k i off : Nat)
 | pl (b : Nat) (p : Plc)
 | tr (b : Nat)
 | cel (cs : List CV)
 | clo (f : FuncId) (caps : List AV)
 | agg (cs : List AV)
 | tup (vs : List AV)
instance : Inhabited AV := ⟨.top⟩
inductive TV where
 | cl (u : CV)
 | own (k : Nat) (es : List (List CV)) (ty : TypeId)
 | ow (k : Nat) (es : List (List TV)) (ty : TypeId)
 | pt (cells : List TV) (ty : TypeId)
instance : Inhabited TV := ⟨.cl default⟩
inductive Blk where
 | box (cells : List AV) (ty : TypeId)
 | acc (k : Nat) (es : List (List CV)) (ty : TypeId)
 | raw
 | fr (arr : List Value) (cells : List AV)
 | lp (l : Nat) (rec : Loop)
 | mp (es : List (List (IntKind × Int) × Value))
 | tre (T : TV)
 | arr (k : Nat) (es : List (List TV)) (ty : TypeId) (hole : Option (Nat × List AV))
 | opn (av : AV)
instance : Inhabited Blk := ⟨.raw⟩
def Blk.avs : Blk → List AV
 | .box cells _ => cells
 | .fr _ cells => cells
 | .arr _ _ _ (some h) => h.2
 | .opn av => [av]
 | _ => []
structure Pl where
 f : Nat → Option Plc
 hid : Nat → Option Nat
instance : CoeFun Pl (fun _ => Nat → Option Plc) := ⟨Pl.f⟩
inductive CRep (I : Nat → Prop) (w : World) : CV → Value → Prop
 | val (x : Value) : x.oneCell' = true → CRep I w (.val x) x
 | any (x : Value) : x.oneCell' = true → CRep I w .any x
 | nil : CRep I w (.sl []) (.slice none 0 0)
 | sl (es : List (List CV)) (a : Addr) (n cap k : Nat) (hn : n = es.length) (hc : n ≤ cap) (hm : n ≤ maxLen)
   (hk : ∀ (i : Nat) (e : List CV), es[i]? = some e → e.length = k)
   (hI : es ≠ [] → a.spot = none ∧ I a.block)
   (hcell : ∀ (i : Nat) (e : List CV) (j : Nat) (u : CV), es[i]? = some e → e[j]? = some u → ∃ x, w.cell? ⟨a.block, a.off + (i * k + j), none⟩ = some x)
   (hrep : ∀ (i : Nat) (e : List CV) (j : Nat) (u : CV) (x : Value), es[i]? = some e → e[j]? = some u → w.cell? ⟨a.block, a.off + (i * k + j), none⟩ = some x → CRep I w u x) :
   CRep I w (.sl es) (.slice (some a) n cap)
inductive TRep (I : Nat → Prop) (w : World) : (Nat → Prop) → TV → Value → Prop
 | cl (S : Nat → Prop) (u : CV) (x : Value) : CRep I w u x → TRep I w S (.cl u) x
 | ownNil (S : Nat → Prop) (k ty : Nat) : TRep I w S (.own k [] ty) (.slice none 0 0)
 | own (S : Nat → Prop) (k ty : Nat) (es : List (List CV)) (g cap : Nat) (cur : List Value) : S g → w.heap[g]? = some (.cells cur.toArray ty (0, 0)) → cur.length = cap * k → es.length ≤ cap → cap ≤ maxLen →
   (∀ (i : Nat) (e : List CV), es[i]? = some e → e.length = k) →
   (∀ (i : Nat) (e : List CV) (j : Nat) (u : CV) (x : Value), es[i]? = some e → e[j]? = some u → cur[i * k + j]? = some x → CRep I w u x) →
   TRep I w S (.own k es ty) (.slice (some ⟨g, 0, none⟩) es.length cap)
 | owNil (S : Nat → Prop) (k ty : Nat) : TRep I w S (.ow k [] ty) (.slice none 0 0)
 | ow (S : Nat → Prop) (k ty : Nat) (es : List (List TV)) (g cap : Nat) (cur : List Value) (Sf : Nat → Nat → Prop) : S g → w.heap[g]? = some (.cells cur.toArray ty (0, 0)) → cur.length = cap * k → es.length ≤ cap → cap ≤ maxLen →
   (∀ (i : Nat) (e : List TV), es[i]? = some e → e.length = k) → (∀ p h, Sf p h → S h ∧ h ≠ g) → (∀ p q h, Sf p h → Sf q h → p = q) →
   (∀ (i : Nat) (e : List TV) (j : Nat) (u : TV) (x : Value), es[i]? = some e → e[j]? = some u → cur[i * k + j]? = some x → TRep I w (Sf (i * k + j)) u x) →
   TRep I w S (.ow k es ty) (.slice (some ⟨g, 0, none⟩) es.length cap)
 | pt (S : Nat → Prop) (cells : List TV) (ty g : Nat) (cur : List Value) (Sf : Nat → Nat → Prop) : S g → w.heap[g]? = some (.cells cur.toArray ty (0, 0)) → cur.length = cells.length →
   (∀ p h, Sf p h → S h ∧ h ≠ g) → (∀ p q h, Sf p h → Sf q h → p = q) →
   (∀ (j : Nat) (u : TV) (x : Value), cells[j]? = some u → cur[j]? = some x → TRep I w (Sf j) u x) →
   TRep I w S (.pt cells ty) (.pointer (some ⟨g, 0, none⟩))
inductive Rep (I : Nat → Prop) (ι : Pl) (w : World) : AV → Value → Prop
 | top (x : Value) : Rep I ι w .top x
 | c (u : CV) (x : Value) : CRep I w u x → Rep I ι w (.c u) x
 | ownNil (b k : Nat) : ι b = some .nil → Rep I ι w (.own b k 0 0) (.slice none 0 0)
 | own (b k off n g cap : Nat) (a : Addr) (cc : Nat) : ι b = some (.at g cap) → (off = 0 → a = ⟨g, 0, none⟩ ∧ cc = cap) → (n ≠ 0 → a = ⟨g, off * k, none⟩) → n ≤ cc → off + cc ≤ cap →
   Rep I ι w (.own b k off n) (.slice (some a) n cc)
 | mref (b g cap : Nat) : ι b = some (.at g cap) → Rep I ι w (.mref b) (.map (some g))
 | osl (b off n g cap cc : Nat) : ι b = some (.at g cap) → n ≤ cc → Rep I ι w (.osl b off n) (.slice (some ⟨g, off, none⟩) n cc)
 | ptr (b off g cap : Nat) : ι b = some (.at g cap) → Rep I ι w (.ptr b off) (.pointer (some ⟨g, off, none⟩))
 | aptr (b k i off g cap : Nat) : ι b = some (.at g cap) → Rep I ι w (.aptr b k i off) (.pointer (some ⟨g, i * k + off, none⟩))
 | pl (b : Nat) (p : Plc) (x : Value) : ι b = some p → Rep I ι w (.pl b p) x
 | tr (b : Nat) (x : Value) : x.oneCell' = true → ι b = some (.root x) → Rep I ι w (.tr b) x
 | cel (cs : List CV) (a : Addr) (hs : a.spot = none) (hI : I a.block)
   (hcell : ∀ (j : Nat) (u : CV), cs[j]? = some u → ∃ x, w.cell? ⟨a.block, a.off + j, none⟩ = some x)
   (hrep : ∀ (j : Nat) (u : CV) (x : Value), cs[j]? = some u → w.cell? ⟨a.block, a.off + j, none⟩ = some x → CRep I w u x) :
   Rep I ι w (.cel cs) (.pointer (some a))
 | clo (f : FuncId) (caps : List AV) (xs : List Value) : xs.length = caps.length → (∀ (i : Nat) (av : AV) (x : Value), caps[i]? = some av → xs[i]? = some x → Rep I ι w av x) →
   Rep I ι w (.clo f caps) (.func (.func f) #[] xs.toArray)
 | agg (cs : List AV) (xs : List Value) : xs.length = cs.length → (∀ x ∈ xs, x.oneCell' = true) → (∀ (i : Nat) (av : AV) (x : Value), cs[i]? = some av → xs[i]? = some x → Rep I ι w av x) →
   Rep I ι w (.agg cs) (.agg xs.toArray)
 | tup (cs : List AV) (xs : List Value) : xs.length = cs.length → (∀ (i : Nat) (av : AV) (x : Value), cs[i]? = some av → xs[i]? = some x → Rep I ι w av x) →
   Rep I ι w (.tup cs) (.tuple xs.toArray)
inductive BlkRep (I : Nat → Prop) (ι : Pl) (w : World) (b : Nat) : Blk → Prop
 | box (cells : List AV) (ty g : Nat) (cur : List Value) : ι b = some (.at g cells.length) → w.heap[g]? = some (.cells cur.toArray ty (0, 0)) → cur.length = cells.length →
   (∀ x ∈ cur, x.oneCell' = true) → (∀ (i : Nat) (av : AV) (x : Value), cells[i]? = some av → cur[i]? = some x → Rep I ι w av x) → BlkRep I ι w b (.box cells ty)
 | accNil (k ty : Nat) : ι b = some .nil → BlkRep I ι w b (.acc k [] ty)
 | acc (k ty : Nat) (es : List (List CV)) (g cap : Nat) (cur : List Value) : ι b = some (.at g cap) → w.heap[g]? = some (.cells cur.toArray ty (0, 0)) → cur.length = cap * k → es.length ≤ cap → cap ≤ maxLen →
   (∀ (i : Nat) (e : List CV), es[i]? = some e → e.length = k) →
   (∀ (i : Nat) (e : List CV) (j : Nat) (u : CV) (x : Value), es[i]? = some e → e[j]? = some u → cur[i * k + j]? = some x → CRep I w u x) → BlkRep I ι w b (.acc k es ty)
 | raw (g cap : Nat) : ι b = some (.at g cap) → BlkRep I ι w b .raw
 | fr (arr : List Value) (cells : List AV) : ι b = some .nil → arr.length = cells.length → (∀ (i : Nat) (av : AV) (x : Value), cells[i]? = some av → arr[i]? = some x → Rep I ι w av x) → BlkRep I ι w b (.fr arr cells)
 | lp (l : Nat) (rec : Loop) : ι b = some (.at l 0) → w.heap[l]? = some (.loop rec) → BlkRep I ι w b (.lp l rec)
 | mp (es : List (List (IntKind × Int) × Value)) (arr : Array MapEntry) (clock g : Nat) : ι b = some (.at g 0) → w.heap[g]? = some (.map arr clock) → arr.size = es.length →
   (∀ (i : Nat) p x, es[i]? = some p → arr[i]? = some x → x.key = .agg (p.1.map fun q => Value.int q.1 q.2).toArray ∧ x.val = p.2) → BlkRep I ι w b (.mp es)
 | tre (T : TV) (x : Value) : x.oneCell' = true → ι b = some (.root x) → TRep I w (fun g => ι.hid g = some b) T x → BlkRep I ι w b (.tre T)
 | arrNil (k ty : Nat) : ι b = some .nil → BlkRep I ι w b (.arr k [] ty none)
 | arr (k ty : Nat) (es : List (List TV)) (hole : Option (Nat × List AV)) (g cap : Nat) (cur : List Value) (Sf : Nat → Nat → Prop) : ι b = some (.at g cap) → w.heap[g]? = some (.cells cur.toArray ty (0, 0)) → cur.length = cap * k → es.length ≤ cap → cap ≤ maxLen →
   (∀ (i : Nat) (e : List TV), es[i]? = some e → e.length = k) → (∀ p h, Sf p h → ι.hid h = some b) → (∀ p q h, Sf p h → Sf q h → p = q) →
   (∀ (i : Nat) (e : List TV) (j : Nat) (u : TV) (x : Value), (∀ row, hole ≠ some (i, row)) → es[i]? = some e → e[j]? = some u → cur[i * k + j]? = some x → TRep I w (Sf (i * k + j)) u x) →
   (∀ (i : Nat) (row : List AV), hole = some (i, row) → i < es.length ∧ (row.length = k ∧ ∀ (j : Nat) (x : Value), j < k → cur[i * k + j]? = some x → x.oneCell' = true) ∧ ∀ (j : Nat) (av : AV) (x : Value), row[j]? = some av → cur[i * k + j]? = some x → Rep I ι w av x) →
   BlkRep I ι w b (.arr k es ty hole)
 | opn (av : AV) (x : Value) : x.oneCell' = true → ι b = some (.root x) → Rep I ι w av x → BlkRep I ι w b (.opn av)
def Still (A : Nat → Prop) (ι : Pl) (w : World) (g : Nat) : Prop := ((A g ∧ ι.hid g = none) ∧ g < w.heap.size) ∧ ∀ b c, ι b ≠ some (.at g c)
structure SubPl (ι ι' : Pl) : Prop where
 at' : ∀ b g c, ι' b = some (.at g c) → ∃ b' c', ι b' = some (.at g c')
 hid : ∀ g b, ι'.hid g = some b → ∃ b', ι.hid g = some b'
theorem SubPl.still {ι ι' : Pl} (h : SubPl ι ι') {A : Nat → Prop} {w : World} {g : Nat} (hs : Still A ι w g) : Still A ι' w g := by
 obtain ⟨⟨⟨h1, h2⟩, h3⟩, h4⟩ := hs
 refine ⟨⟨⟨h1, ?_⟩, h3⟩, fun b c hb => by obtain ⟨b', c', hb'⟩ := h.at' b g c hb; exact h4 b' c' hb'⟩
 cases hb : ι'.hid g with
 | none => rfl
 | some b => obtain ⟨b', hc⟩ := h.hid g b hb; rw [h2] at hc; cases hc
structure Ok (ι : Pl) (w : World) : Prop where
 inj : ∀ b b' g c c', ι b = some (.at g c) → ι b' = some (.at g c') → b = b'
 lt : ∀ b g c, ι b = some (.at g c) → g < w.heap.size
 hlt : ∀ g b, ι.hid g = some b → g < w.heap.size
 hdis : ∀ g b, ι.hid g = some b → ∀ b' c, ι b' ≠ some (.at g c)
 hlaid : ∀ g b, ι.hid g = some b → ι b ≠ none
theorem Ok.grow {ι : Pl} {w w' : World} (h : Ok ι w) (hs : w.heap.size ≤ w'.heap.size) : Ok ι w' :=
 ⟨h.inj, fun b g c hb => Nat.lt_of_lt_of_le (h.lt b g c hb) hs, fun g b hb => Nat.lt_of_lt_of_le (h.hlt g b hb) hs, h.hdis, h.hlaid⟩
abbrev noPl : Pl := ⟨fun _ => none, fun _ => none⟩
theorem noPl_f {b : Nat} {p : Plc} (h : noPl b = some p) : False := by simp [noPl] at h
theorem noPl_h {g b : Nat} (h : noPl.hid g = some b) : False := by simp [noPl] at h
theorem ok_noPl (w : World) : Ok noPl w := ⟨fun b b' g c c' h => (noPl_f h).elim, fun b g c h => (noPl_f h).elim, fun g b h => (noPl_h h).elim, fun g b h => (noPl_h h).elim, fun g b h => (noPl_h h).elim⟩
theorem still_new {A : Nat → Prop} {ι : Pl} {w w' : World} (hok : Ok ι w) {g : Nat} (hA : A g) (hg : w.heap.size ≤ g) (hlt : g < w'.heap.size) : Still A ι w' g := by
 refine ⟨⟨⟨hA, ?_⟩, hlt⟩, fun b c hb => by have := hok.lt b g c hb; omega⟩
 cases hb : ι.hid g with
 | none => rfl
 | some b => have := hok.hlt g b hb; omega
structure StepR (ι : Pl) (w : World) (ι' : Pl) (w' : World) (wr kill : Nat → Prop) : Prop where
 os : w'.os = w.os
 tape : w'.tape = w.tape
 output : w'.output = w.output
 size : w.heap.size ≤ w'.heap.size
 keep : ∀ b, ¬ kill b → ι' b = ι b
 fresh : ∀ b g c, ι' b = some (.at g c) → ((∃ b' c', ι b' = some (.at g c')) ∨ ∃ b', ι.hid g = some b') ∨ w.heap.size ≤ g
 block : ∀ g, g < w.heap.size → (∀ b c, wr b → ι b ≠ some (.at g c)) → (∀ b, wr b → ι.hid g ≠ some b) → w'.heap[g]? = w.heap[g]?
 ok : Ok ι' w'
 hkeep : ∀ g b, ¬ wr b → ¬ kill b → ι.hid g = some b → ι'.hid g = some b
 hfresh : ∀ g b, ι'.hid g = some b → ((∃ b' c', ι b' = some (.at g c')) ∨ ∃ b', ι.hid g = some b') ∨ w.heap.size ≤ g
structure StepO (ι : Pl) (w : World) (ι' : Pl) (w' : World) (wr kill : Nat → Prop) : Prop where
 os : w'.os = w.os
 tape : w'.tape = w.tape
 output : w'.output = w.output
 size : w.heap.size ≤ w'.heap.size
 keep : ∀ b, ¬ kill b → ι' b = ι b
 fresh : ∀ b g c, ι' b = some (.at g c) → (∃ b' c', ι b' = some (.at g c')) ∨ w.heap.size ≤ g
 block : ∀ g, g < w.heap.size → (∀ b c, wr b → ι b ≠ some (.at g c)) → w'.heap[g]? = w.heap[g]?
 ok : Ok ι' w'
theorem StepO.R {ι : Pl} {w : World} {ι' : Pl} {w' : World} {wr kill : Nat → Prop} (h : StepO ι w ι' w' wr kill) (hh : ι'.hid = ι.hid) : StepR ι w ι' w' wr kill :=
 ⟨h.os, h.tape, h.output, h.size, h.keep, fun b g c hb => (h.fresh b g c hb).imp .inl id, fun g hg hn _ => h.block g hg hn, h.ok, fun g b _ _ hb => by rw [hh]; exact hb, fun g b hb => .inl (.inr ⟨b, by rw [← hh]; exact hb⟩)⟩
theorem CRep.mono {I I' : Nat → Prop} {w w' : World} (h : ∀ g, I g → I' g ∧ w'.heap[g]? = w.heap[g]?) : ∀ {u x}, CRep I w u x → CRep I' w' u x := by
 intro u x hr
 induction hr with
 | val x h1 => exact .val x h1
 | any x h1 => exact .any x h1
 | nil => exact .nil
 | sl es a n cap k hn hc hm hk hI hcell hrep ih =>
  have hne : ∀ (i : Nat) (e : List CV), es[i]? = some e → es ≠ [] := by
   intro i e he h0; simp [h0] at he
  have hc' : ∀ (i : Nat) (e : List CV) (o : Nat), es[i]? = some e → w'.cell? ⟨a.block, o, none⟩ = w.cell? ⟨a.block, o, none⟩ := fun i e o he =>
   World.cell?_of_block (h _ (hI (hne i e he)).2).2
  refine .sl es a n cap k hn hc hm hk (fun h0 => ⟨(hI h0).1, (h _ (hI h0).2).1⟩) (fun i e j u he hu => ?_) (fun i e j u x he hu hx => ?_)
  ·rw [hc' i e _ he]; exact hcell i e j u he hu
  ·rw [hc' i e _ he] at hx; exact ih i e j u x he hu hx
theorem TRep.mono {I I' : Nat → Prop} {w w' : World} (h : ∀ g, I g → I' g ∧ w'.heap[g]? = w.heap[g]?) : ∀ {S : Nat → Prop} {T : TV} {x : Value}, TRep I w S T x → ∀ {S' : Nat → Prop}, (∀ g, S g → S' g ∧ w'.heap[g]? = w.heap[g]?) → TRep I' w' S' T x := by
 intro S T x hr
 induction hr with
 | cl S u x hu => exact fun _ => .cl _ u x (hu.mono h)
 | ownNil S k ty => exact fun _ => .ownNil _ k ty
 | own S k ty es g cap cur h1 h2 h3 h4 h5 h6 h7 => exact fun hS => .own _ k ty es g cap cur (hS g h1).1 (by rw [(hS g h1).2]; exact h2) h3 h4 h5 h6 fun i e j u x he hu hx => (h7 i e j u x he hu hx).mono h
 | owNil S k ty => exact fun _ => .owNil _ k ty
 | ow S k ty es g cap cur Sf h1 h2 h3 h4 h5 h6 h7 h8 h9 ih => exact fun hS => .ow _ k ty es g cap cur Sf (hS g h1).1 (by rw [(hS g h1).2]; exact h2) h3 h4 h5 h6 (fun p q hq => ⟨(hS q (h7 p q hq).1).1, (h7 p q hq).2⟩) h8 fun i e j u x he hu hx => ih i e j u x he hu hx fun q hq => ⟨hq, (hS q (h7 _ q hq).1).2⟩
 | pt S cells ty g cur Sf h1 h2 h3 h7 h8 h9 ih => exact fun hS => .pt _ cells ty g cur Sf (hS g h1).1 (by rw [(hS g h1).2]; exact h2) h3 (fun p q hq => ⟨(hS q (h7 p q hq).1).1, (h7 p q hq).2⟩) h8 fun j u x hu hx => ih j u x hu hx fun q hq => ⟨hq, (hS q (h7 _ q hq).1).2⟩
theorem CRep.one {I : Nat → Prop} {w : World} {u x} (h : CRep I w u x) : x.oneCell' = true := by
 cases h <;> first | assumption | rfl
theorem TRep.one {I : Nat → Prop} {w : World} {S : Nat → Prop} {T : TV} {x : Value} (h : TRep I w S T x) : x.oneCell' = true := by
 cases h <;> first | rfl | (rename_i h; exact h.one)
inductive Men (b : Nat) : AV → Prop
 | own (k off n) : Men b (.own b k off n)
 | osl (off n) : Men b (.osl b off n)
 | mref : Men b (.mref b)
 | ptr (off) : Men b (.ptr b off)
 | aptr (k i off) : Men b (.aptr b k i off)
 | pl (p) : Men b (.pl b p)
 | tr : Men b (.tr b)
 | clo (f : FuncId) (caps : List AV) (i : Nat) (av : AV) : caps[i]? = some av → Men b av → Men b (.clo f caps)
 | agg (cs : List AV) (i : Nat) (av : AV) : cs[i]? = some av → Men b av → Men b (.agg cs)
 | tup (cs : List AV) (i : Nat) (av : AV) : cs[i]? = some av → Men b av → Men b (.tup cs)
theorem Rep.mono {I I' : Nat → Prop} {ι ι' : Pl} {w w' : World} (h : ∀ g, I g → I' g ∧ w'.heap[g]? = w.heap[g]?) :
  ∀ {av x}, Rep I ι w av x → (∀ b, Men b av → ι' b = ι b) → Rep I' ι' w' av x := by
 intro av x hr
 induction hr with
 | top x => exact fun _ => .top x
 | c u x hu => exact fun _ => .c u x (hu.mono h)
 | ownNil b k hb => exact fun hm => .ownNil b k (by rw [hm b (.own ..)]; exact hb)
 | own b k off n g cap a cc hb h0 h1 h2 hq => exact fun hm => .own b k off n g cap a cc (by rw [hm b (.own ..)]; exact hb) h0 h1 h2 hq
 | osl b off n g cap cc hb h2 => exact fun hm => .osl b off n g cap cc (by rw [hm b (.osl ..)]; exact hb) h2
 | mref b g cap hb => exact fun hm => .mref b g cap (by rw [hm b .mref]; exact hb)
 | ptr b off g cap hb => exact fun hm => .ptr b off g cap (by rw [hm b (.ptr ..)]; exact hb)
 | aptr b k i off g cap hb => exact fun hm => .aptr b k i off g cap (by rw [hm b (.aptr ..)]; exact hb)
 | pl b p x hb => exact fun hm => .pl b p x (by rw [hm b (.pl ..)]; exact hb)
 | tr b x h1 hb => exact fun hm => .tr b x h1 (by rw [hm b .tr]; exact hb)
 | cel cs a hs hI hcell hrep =>
  intro _
  have hc' : ∀ (o : Nat), w'.cell? ⟨a.block, o, none⟩ = w.cell? ⟨a.block, o, none⟩ := fun o => World.cell?_of_block (h _ hI).2
  refine .cel cs a hs (h _ hI).1 (fun j u hu => ?_) (fun j u x hu hx => ?_)
  ·rw [hc']; exact hcell j u hu
  ·rw [hc'] at hx; exact (hrep j u x hu hx).mono h
 | clo f caps xs hl hr ih => exact fun hm => .clo f caps xs hl fun i av x ha hx => ih i av x ha hx fun b hb => hm b (.clo f caps i av ha hb)
 | agg cs xs hl h1 hr ih => exact fun hm => .agg cs xs hl h1 fun i av x ha hx => ih i av x ha hx fun b hb => hm b (.agg cs i av ha hb)
 | tup cs xs hl hr ih => exact fun hm => .tup cs xs hl fun i av x ha hx => ih i av x ha hx fun b hb => hm b (.tup cs i av ha hb)
theorem StepR.still {ι ι' : Pl} {w w' : World} {wr kill : Nat → Prop} (h : StepR ι w ι' w' wr kill) {A : Nat → Prop} : ∀ g, Still A ι w g → Still A ι' w' g ∧ w'.heap[g]? = w.heap[g]? := by
 intro g ⟨⟨hA, h1⟩, h2⟩
 refine ⟨⟨⟨⟨hA.1, ?_⟩, Nat.lt_of_lt_of_le h1 h.size⟩, fun b c hb => ?_⟩, h.block g h1 (fun b c _ => h2 b c) fun b _ => by rw [hA.2]; exact fun e => by cases e⟩
 ·cases hb : ι'.hid g with
  | none => rfl
  | some b =>
   rcases h.hfresh g b hb with (⟨b', c', hc⟩ | ⟨b', hc⟩) | hc
   ·exact absurd hc (h2 b' c')
   ·rw [hA.2] at hc; cases hc
   ·omega
 rcases h.fresh b g c hb with (⟨b', c', hc⟩ | ⟨b', hc⟩) | hc
 ·exact h2 b' c' hc
 ·rw [hA.2] at hc; cases hc
 ·omega
theorem StepR.rep {ι ι' : Pl} {w w' : World} {wr kill : Nat → Prop} (h : StepR ι w ι' w' wr kill) {A : Nat → Prop} {av x} (hr : Rep (Still A ι w) ι w av x) (hm : ∀ b, Men b av → ¬ kill b) :
  Rep (Still A ι' w') ι' w' av x := hr.mono h.still fun b hb => h.keep b (hm b hb)
theorem BlkRep.turn {I I' : Nat → Prop} {ι ι' : Pl} {w w' : World} {b b' : Nat} {blk : Blk} (hr : BlkRep I ι w b blk) (hI : ∀ g, I g → I' g ∧ w'.heap[g]? = w.heap[g]?) (e : ι' b' = ι b)
  (hb : ∀ g c, ι b = some (.at g c) → w'.heap[g]? = w.heap[g]?) (hd : ∀ g, ι.hid g = some b → ι'.hid g = some b' ∧ w'.heap[g]? = w.heap[g]?)
  (hm : ∀ (i : Nat) av x, blk.avs[i]? = some av → Rep I ι w av x → Rep I' ι' w' av x) : BlkRep I' ι' w' b' blk := by
 cases hr with
 | box cells ty g cur h1 h2 h3 h4 h5 => exact .box cells ty g cur (by rw [e]; exact h1) (by rw [hb _ _ h1]; exact h2) h3 h4 fun i av x ha hx => hm i av x ha (h5 i av x ha hx)
 | accNil k ty h1 => exact .accNil k ty (by rw [e]; exact h1)
 | acc k ty es g cap cur h1 h2 h3 h4 h5 h6 h8 =>
  exact .acc k ty es g cap cur (by rw [e]; exact h1) (by rw [hb _ _ h1]; exact h2) h3 h4 h5 h6 fun i e j u x he hu hx => (h8 i e j u x he hu hx).mono hI
 | raw g cap h1 => exact .raw g cap (by rw [e]; exact h1)
 | fr arr cells h1 h2 h3 => exact .fr arr cells (by rw [e]; exact h1) h2 fun i av x ha hx => hm i av x ha (h3 i av x ha hx)
 | lp l rec h1 h2 => exact .lp l rec (by rw [e]; exact h1) (by rw [hb _ _ h1]; exact h2)
 | mp es arr clock g h1 h2 h3 h4 => exact .mp es arr clock g (by rw [e]; exact h1) (by rw [hb _ _ h1]; exact h2) h3 h4
 | tre T x h0 h1 h2 => exact .tre T x h0 (by rw [e]; exact h1) (h2.mono hI hd)
 | arrNil k ty h1 => exact .arrNil k ty (by rw [e]; exact h1)
 | arr k ty es hole g cap cur Sf h1 h2 h3 h4 h5 h6 h7 h8 h9 h10 =>
  refine .arr k ty es hole g cap cur Sf (by rw [e]; exact h1) (by rw [hb _ _ h1]; exact h2) h3 h4 h5 h6 (fun p q hq => (hd q (h7 p q hq)).1) h8 (fun i e j u x hn he hu hx => (h9 i e j u x hn he hu hx).mono hI fun q hq => ⟨hq, (hd q (h7 _ q hq)).2⟩) ?_
  intro i row hr
  subst hr
  exact ⟨(h10 i row rfl).1, (h10 i row rfl).2.1, fun j av x ha hx => hm j av x ha ((h10 i row rfl).2.2 j av x ha hx)⟩
 | opn av x h0 h1 h2 => exact .opn av x h0 (by rw [e]; exact h1) (hm 0 av x rfl h2)
theorem StepR.blk {ι ι' : Pl} {w w' : World} {wr kill : Nat → Prop} (h : StepR ι w ι' w' wr kill) (hok : Ok ι w) {A : Nat → Prop} {b blk} (hr : BlkRep (Still A ι w) ι w b blk)
  (hw : ¬ wr b) (hk : ¬ kill b) (hm : ∀ (i : Nat) av, blk.avs[i]? = some av → ∀ b', Men b' av → ¬ kill b') : BlkRep (Still A ι' w') ι' w' b blk := by
 have hb : ∀ g c, ι b = some (.at g c) → w'.heap[g]? = w.heap[g]? := fun g c hg => h.block g (hok.lt _ _ _ hg) (fun b' c' hw' hg' => by
  have := hok.inj _ _ _ _ _ hg hg'; subst this; exact hw hw') fun b' _ hd => hok.hdis _ _ hd _ _ hg
 have hd : ∀ g, ι.hid g = some b → ι'.hid g = some b ∧ w'.heap[g]? = w.heap[g]? := fun g hg => ⟨h.hkeep g b hw hk hg, h.block g (hok.hlt _ _ hg) (fun b' c' _ => hok.hdis _ _ hg b' c') fun b' hw' hg' => by
  rw [hg] at hg'; cases hg'; exact hw hw'⟩
 exact hr.turn h.still (h.keep b hk) hb hd fun i av x ha hx => h.rep hx (hm i av ha)
theorem StepR.mono {ι ι' : Pl} {w w' : World} {wr wr' kill kill' : Nat → Prop} (h : StepR ι w ι' w' wr kill) (h1 : ∀ b, wr b → wr' b) (h2 : ∀ b, kill b → kill' b) : StepR ι w ι' w' wr' kill' :=
 ⟨h.os, h.tape, h.output, h.size, fun b hb => h.keep b fun hk => hb (h2 b hk), h.fresh, fun g hg hn hn2 => h.block g hg (fun b c hw => hn b c (h1 b hw)) (fun b hw => hn2 b (h1 b hw)), h.ok, fun g b hw hk => h.hkeep g b (fun x => hw (h1 b x)) (fun x => hk (h2 b x)), h.hfresh⟩
theorem StepR.refl {ι : Pl} {w : World} (h : Ok ι w) (wr kill : Nat → Prop) : StepR ι w ι w wr kill :=
 StepO.R ⟨rfl, rfl, rfl, Nat.le_refl _, fun _ _ => rfl, fun b g c hb => .inl ⟨b, c, hb⟩, fun _ _ _ => rfl, h⟩ rfl
def kill0 (b : Nat) : AV → AV
 | .own b' k off n => bif b' == b then .top else .own b' k off n
 | .osl b' off n => bif b' == b then .top else .osl b' off n
 | .mref b' => bif b' == b then .top else .mref b'
 | .ptr b' off => bif b' == b then .top else .ptr b' off
 | .aptr b' k i off => bif b' == b then .top else .aptr b' k i off
 | .pl b' p => bif b' == b then .top else .pl b' p
 | .tr b' => bif b' == b then .top else .tr b'
 | .c u => .c u
 | .cel cs => .cel cs
 | _ => .top
def kill1 (b : Nat) : AV → AV
 | .agg cs => .agg (cs.map (kill0 b))
 | .clo f caps => .clo f (caps.map (kill0 b))
 | av => kill0 b av
def killAV (b : Nat) : AV → AV
 | .tup cs => .tup (cs.map (kill1 b))
 | av => kill1 b av
theorem kill0_men {b : Nat} {av : AV} : ¬ Men b (kill0 b av) := by
 intro h
 cases av with
 | own b' k off n => cases e : b' == b <;> simp only [kill0, e, cond_true, cond_false] at h <;> cases h; simp at e
 | osl b' off n => cases e : b' == b <;> simp only [kill0, e, cond_true, cond_false] at h <;> cases h; simp at e
 | mref b' => cases e : b' == b <;> simp only [kill0, e, cond_true, cond_false] at h <;> cases h; simp at e
 | ptr b' off => cases e : b' == b <;> simp only [kill0, e, cond_true, cond_false] at h <;> cases h; simp at e
 | aptr b' k i off => cases e : b' == b <;> simp only [kill0, e, cond_true, cond_false] at h <;> cases h; simp at e
 | pl b' p => cases e : b' == b <;> simp only [kill0, e, cond_true, cond_false] at h <;> cases h; simp at e
 | tr b' => cases e : b' == b <;> simp only [kill0, e, cond_true, cond_false] at h <;> cases h; simp at e
 | _ => simp only [kill0] at h; cases h
theorem kill1_men {b : Nat} {av : AV} : ¬ Men b (kill1 b av) := by
 intro h
 cases av <;> simp only [kill1] at h <;> first | exact kill0_men h | skip
 all_goals
  cases h
  rename_i hm hi
  rw [List.getElem?_map] at hi
  simp only [Option.map_eq_some_iff] at hi
  obtain ⟨a, _, rfl⟩ := hi
  exact kill0_men hm
theorem killAV_men {b : Nat} {av : AV} : ¬ Men b (killAV b av) := by
 intro h
 cases av <;> simp only [killAV] at h <;> first | exact kill1_men h | skip
 cases h
 rename_i hm hi
 rw [List.getElem?_map] at hi
 simp only [Option.map_eq_some_iff] at hi
 obtain ⟨a, _, rfl⟩ := hi
 exact kill1_men hm
theorem Rep.kill0 {I : Nat → Prop} {ι : Pl} {w : World} {av x} (b : Nat) (h : Rep I ι w av x) : Rep I ι w (kill0 b av) x := by
 cases av with
 | own b' k off n => cases e : b' == b <;> simp only [Ab.kill0, e, cond_true, cond_false] <;> first | exact .top _ | exact h
 | osl b' off n => cases e : b' == b <;> simp only [Ab.kill0, e, cond_true, cond_false] <;> first | exact .top _ | exact h
 | mref b' => cases e : b' == b <;> simp only [Ab.kill0, e, cond_true, cond_false] <;> first | exact .top _ | exact h
 | ptr b' off => cases e : b' == b <;> simp only [Ab.kill0, e, cond_true, cond_false] <;> first | exact .top _ | exact h
 | aptr b' k i off => cases e : b' == b <;> simp only [Ab.kill0, e, cond_true, cond_false] <;> first | exact .top _ | exact h
 | pl b' p => cases e : b' == b <;> simp only [Ab.kill0, e, cond_true, cond_false] <;> first | exact .top _ | exact h
 | tr b' => cases e : b' == b <;> simp only [Ab.kill0, e, cond_true, cond_false] <;> first | exact .top _ | exact h
 | c u => exact h
 | cel cs => exact h
 | _ => exact .top _
theorem getElem?_map' {α β : Type} {f : α → β} {l : List α} {i : Nat} {y : β} (h : (l.map f)[i]? = some y) : ∃ x, l[i]? = some x ∧ f x = y := by
 rw [List.getElem?_map] at h
 simpa [Option.map_eq_some_iff] using h
theorem Rep.kill1 {I : Nat → Prop} {ι : Pl} {w : World} {av x} (b : Nat) (h : Rep I ι w av x) : Rep I ι w (kill1 b av) x := by
 cases h with
 | agg cs xs hl h1 hr => exact .agg _ xs (by simp [hl]) h1 fun i av x ha hx => by obtain ⟨y, hy, rfl⟩ := getElem?_map' ha; exact (hr i y x hy hx).kill0 b
 | clo f cs xs hl hr => exact .clo f _ xs (by simp [hl]) fun i av x ha hx => by obtain ⟨y, hy, rfl⟩ := getElem?_map' ha; exact (hr i y x hy hx).kill0 b
 | top x => exact .top x
 | c u x hu => exact .c u x hu
 | cel cs a hs hI hc hr => exact .cel cs a hs hI hc hr
 | tup cs xs hl hr => exact .top _
 | ownNil b' k hb => exact (Rep.ownNil b' k hb).kill0 b
 | own b' k off n g cap a cc h1 h2 h3 h4 hq => exact (Rep.own b' k off n g cap a cc h1 h2 h3 h4 hq).kill0 b
 | osl b' off n g cap cc h1 h2 => exact (Rep.osl b' off n g cap cc h1 h2).kill0 b
 | mref b' g cap h1 => exact (Rep.mref b' g cap h1).kill0 b
 | ptr b' off g cap h1 => exact (Rep.ptr b' off g cap h1).kill0 b
 | aptr b' k i off g cap h1 => exact (Rep.aptr b' k i off g cap h1).kill0 b
 | pl b' p x h1 => exact (Rep.pl b' p x h1).kill0 b
 | tr b' x h1 h2 => exact (Rep.tr b' x h1 h2).kill0 b
theorem Rep.killAV {I : Nat → Prop} {ι : Pl} {w : World} {av x} (b : Nat) (h : Rep I ι w av x) : Rep I ι w (killAV b av) x := by
 cases av with
 | tup cs =>
  cases h with
  | tup cs xs hl hr => exact .tup _ xs (by simp [hl]) fun i av x ha hx => by obtain ⟨y, hy, rfl⟩ := getElem?_map' ha; exact (hr i y x hy hx).kill1 b
 | _ => exact h.kill1 b
end Go.Ab
