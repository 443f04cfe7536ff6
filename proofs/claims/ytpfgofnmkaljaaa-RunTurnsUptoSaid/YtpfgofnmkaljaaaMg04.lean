/-
  A pure function's contract: out of its body, and at a call.
-/
import Derived.Test.YtpfgofnmkaljaaaMg03
import Derived.RangeFuncLeaves
import Derived.RangeFuncRecord
set_option linter.unusedVariables false
set_option linter.unusedSimpArgs false
namespace Go.Ab
open Go Go.RowKit
def FnP (P : Program) (f : FuncId) (args : List AV) (r : AV) : Prop :=
 PlainFn P f ∧ ∀ (I : Nat → Prop) (w : World) (vs : List Value), (∀ g, I g → g < w.heap.size) → vs.length = args.length →
  (∀ (i : Nat) av x, args[i]? = some av → vs[i]? = some x → Rep I noPl w av x) →
  Calls P f vs.toArray w fun e w' => ∃ v, e = .returned v ∧ Rep (fun g => (I g ∨ w.heap.size ≤ g) ∧ g < w'.heap.size) noPl w' r v ∧ Below w.heap.size w w'
mutual
def eraseT : TV → CV
 | .cl u => u
 | .own _ es _ => .sl es
 | .ow _ es _ => .sl (eraseTss es)
 | .pt _ _ => .any
def eraseTs : List TV → List CV
 | [] => []
 | a :: r => eraseT a :: eraseTs r
def eraseTss : List (List TV) → List (List CV)
 | [] => []
 | a :: r => eraseTs a :: eraseTss r
end
theorem eraseTs_eq : ∀ l : List TV, eraseTs l = l.map eraseT
 | [] => rfl
 | a :: r => by simp [eraseTs, eraseTs_eq r]
theorem eraseTss_eq : ∀ l : List (List TV), eraseTss l = l.map (List.map eraseT)
 | [] => rfl
 | a :: r => by simp [eraseTss, eraseTss_eq r, eraseTs_eq]
theorem row_closed {J : Nat → Prop} {w : World} {g cap k ty n : Nat} {cur : List Value} (es : List (List CV)) (off m cc : Nat) (hJ : J g) (h2 : w.heap[g]? = some (.cells cur.toArray ty (0, 0))) (h3 : cur.length = cap * k) (h4 : es.length ≤ cap) (h5 : cap ≤ maxLen)
  (h6 : ∀ (i : Nat) (e : List CV), es[i]? = some e → e.length = k) (h8 : ∀ (i : Nat) (e : List CV) (j : Nat) (u : CV) (x : Value), es[i]? = some e → e[j]? = some u → cur[i * k + j]? = some x → CRep J w u x)
  (hle : off + m ≤ es.length) (hm : m ≤ cc) : CRep J w (.sl ((es.drop off).take m)) (.slice (some ⟨g, off * k, none⟩) m cc) := by
 have hlen : ((es.drop off).take m).length = m := by rw [List.length_take, List.length_drop]; omega
 have hget : ∀ (i : Nat) e, ((es.drop off).take m)[i]? = some e → es[off + i]? = some e ∧ i < m := fun i e he => by
  rw [List.getElem?_take, List.getElem?_drop] at he
  split at he
  ·exact ⟨he, by assumption⟩
  ·cases he
 have hcell : ∀ (i : Nat) (e : List CV) (j : Nat) (u : CV), ((es.drop off).take m)[i]? = some e → e[j]? = some u → ∃ y, cur[(off + i) * k + j]? = some y ∧ w.cell? ⟨g, off * k + (i * k + j), none⟩ = some y := by
  intro i e j u he hu
  obtain ⟨he', hi⟩ := hget i e he
  have hk := h6 _ e he'
  have hj : j < k := by rw [← hk]; exact (List.getElem?_eq_some_iff.1 hu).1
  have hlt : (off + i) * k + j < cur.length := by
   have h9 : (off + i + 1) * k ≤ cap * k := Nat.mul_le_mul_right k (by have := (List.getElem?_eq_some_iff.1 he').1; omega)
   rw [Nat.add_mul _ 1, Nat.one_mul] at h9
   omega
  refine ⟨cur.getD ((off + i) * k + j) undef, getD_get hlt, ?_⟩
  rw [cell_of_row w g _ _ ty (0, 0) h2, show off * k + (i * k + j) = (off + i) * k + j by rw [Nat.add_mul]; omega]
  simpa using getD_get (d := undef) hlt
 refine .sl _ _ _ _ k hlen.symm hm (by omega) (fun i e he => h6 _ e (hget i e he).1) (fun _ => ⟨rfl, hJ⟩) (fun i e j u he hu => ?_) (fun i e j u x he hu hx => ?_)
 ·obtain ⟨y, _, hy⟩ := hcell i e j u he hu
  exact ⟨y, hy⟩
 ·obtain ⟨y, hy1, hy2⟩ := hcell i e j u he hu
  rw [hx] at hy2
  cases hy2
  exact h8 _ e j u x (hget i e he).1 hu hy1
theorem map_rows {es : List (List TV)} {k : Nat} (h6 : ∀ (i : Nat) (e : List TV), es[i]? = some e → e.length = k) : ∀ (i : Nat) (e : List CV), (eraseTss es)[i]? = some e → e.length = k := fun i e he => by
 rw [eraseTss_eq, List.getElem?_map] at he
 simp only [Option.map_eq_some_iff] at he
 obtain ⟨y, hy, rfl⟩ := he
 simpa using h6 i y hy
theorem map_cell {es : List (List TV)} {i j : Nat} {e : List CV} {u : CV} (he : (eraseTss es)[i]? = some e) (hu : e[j]? = some u) : ∃ e' u', es[i]? = some e' ∧ e'[j]? = some u' ∧ u = eraseT u' := by
 rw [eraseTss_eq, List.getElem?_map] at he
 simp only [Option.map_eq_some_iff] at he
 obtain ⟨y, hy, rfl⟩ := he
 rw [List.getElem?_map] at hu
 simp only [Option.map_eq_some_iff] at hu
 obtain ⟨z, hz, rfl⟩ := hu
 exact ⟨y, z, hy, hz, rfl⟩
theorem TRep.closed {I J : Nat → Prop} {w : World} (hI : ∀ g, I g → J g) {S : Nat → Prop} {T : TV} {x : Value} (h : TRep I w S T x) : (∀ g, S g → J g) → CRep J w (eraseT T) x := by
 induction h with
 | cl S u x hu => exact fun _ => by simp only [eraseT]; exact hu.mono fun g hg => ⟨hI g hg, rfl⟩
 | ownNil S k ty => exact fun _ => .nil
 | own S k ty es g cap cur h1 h2 h3 h4 h5 h6 h7 =>
  intro hS
  have := row_closed (n := 0) es 0 es.length cap (hS g h1) h2 h3 h4 h5 h6 (fun i e j u x he hu hx => (h7 i e j u x he hu hx).mono fun g hg => ⟨hI g hg, rfl⟩) (by omega) h4
  simpa only [eraseT, List.drop_zero, List.take_length, Nat.zero_mul] using this
 | owNil S k ty => exact fun _ => .nil
 | ow S k ty es g cap cur Sf h1 h2 h3 h4 h5 h6 h7 h8 h9 ih =>
  intro hS
  have := row_closed (n := 0) (eraseTss es) 0 es.length cap (hS g h1) h2 h3 (by rw [eraseTss_eq, List.length_map]; exact h4) h5 (map_rows h6) (fun i e j u x he hu hx => by
   obtain ⟨e', u', g1, g2, rfl⟩ := map_cell he hu
   exact ih i e' j u' x g1 g2 hx fun q hq => hS q (h7 _ q hq).1) (by rw [eraseTss_eq, List.length_map]; omega) h4
  have hl : (eraseTss es).length = es.length := by rw [eraseTss_eq, List.length_map]
  have ht : (eraseTss es).take es.length = eraseTss es := by rw [← hl, List.take_length]
  simpa only [eraseT, List.drop_zero, ht, Nat.zero_mul] using this
 | pt S cells ty g cur Sf h1 h2 h3 h7 h8 h9 ih => exact fun _ => .any _ rfl
def frz0 (heap : List (Nat × Blk)) : AV → Option (Prop × AV)
 | .c (.val (.slice none 0 0)) => some (True, .c (.sl []))
 | .c u => some (True, .c u)
 | .own b k off n => match look heap b with
  | some (.acc k' es _) => some (k = k' ∧ off + n ≤ es.length, .c (.sl ((es.drop off).take n)))
  | some (.arr k' es _ none) => some (k = k' ∧ off + n ≤ es.length, .c (.sl (((eraseTss es).drop off).take n)))
  | _ => none
 | .tr b => match look heap b with
  | some (.tre T) => some (True, .c (eraseT T))
  | _ => none
 | .ptr _ _ => some (True, .c .any)
 | .clo f [] => some (True, .clo f [])
 | _ => none
def frzL (fz : AV → Option (Prop × AV)) : List AV → Option (Prop × List AV)
 | [] => some (True, [])
 | a :: r => match fz a, frzL fz r with
  | some (v, x), some (vs, xs) => some (v ∧ vs, x :: xs)
  | _, _ => none
def frz1 (heap : List (Nat × Blk)) : AV → Option (Prop × AV)
 | .agg cs => (frzL (frz0 heap) cs).map fun r => (r.1, .agg r.2)
 | .tup [] => some (True, .tup [])
 | av => frz0 heap av
def frz (heap : List (Nat × Blk)) : AV → Option (Prop × AV)
 | .tup cs => (frzL (frz1 heap) cs).map fun r => (r.1, .tup r.2)
 | av => frz1 heap av
section
variable {A : Nat → Prop} {ι : Pl} {w : World} {heap : List (Nat × Blk)}
theorem own_closed {J : Nat → Prop} (hJ : ∀ g, Still A ι w g → J g) {b k off n : Nat} (hJι : ∀ g c, ι b = some (.at g c) → J g) {x : Value} (hx : Rep (Still A ι w) ι w (.own b k off n) x)
  {es : List (List CV)} {ty : TypeId} (hb : BlkRep (Still A ι w) ι w b (.acc k es ty)) (hle : off + n ≤ es.length) : CRep J w (.sl ((es.drop off).take n)) x := by
 cases hx with
 | ownNil _ _ hι =>
  simp only [List.take_zero]
  exact .nil
 | own _ _ _ _ g cap a cc hι h0 h1 h2 hq =>
  cases hb with
  | accNil _ _ h => rw [hι] at h; cases h
  | acc _ _ _ g' cap' cur h1' h2' h3 h4 h5 h6 h8 =>
   rw [hι] at h1'
   simp only [Option.some.injEq, Plc.at.injEq] at h1'
   obtain ⟨rfl, rfl⟩ := h1'
   by_cases hn : n = 0
   ·subst hn
    simp only [List.take_zero]
    exact .sl [] a 0 cc k rfl h2 (Nat.zero_le _) (fun i e h => by simp at h) (fun h => absurd rfl h) (fun i e j u h => by simp at h) (fun i e j u x h => by simp at h)
   ·have ha := h1 hn
    subst ha
    have hlen : ((es.drop off).take n).length = n := by rw [List.length_take, List.length_drop]; omega
    have hget : ∀ (i : Nat) e, ((es.drop off).take n)[i]? = some e → es[off + i]? = some e ∧ i < n := fun i e he => by
     rw [List.getElem?_take, List.getElem?_drop] at he
     split at he
     ·exact ⟨he, by assumption⟩
     ·cases he
    have hcell : ∀ (i : Nat) (e : List CV) (j : Nat) (u : CV), ((es.drop off).take n)[i]? = some e → e[j]? = some u → ∃ y, cur[(off + i) * k + j]? = some y ∧ w.cell? ⟨g, off * k + (i * k + j), none⟩ = some y := by
     intro i e j u he hu
     obtain ⟨he', hi⟩ := hget i e he
     have hk := h6 _ e he'
     have hj : j < k := by rw [← hk]; exact (List.getElem?_eq_some_iff.1 hu).1
     have hlt : (off + i) * k + j < cur.length := by
      have h9 : (off + i + 1) * k ≤ cap * k := Nat.mul_le_mul_right k (by have := (List.getElem?_eq_some_iff.1 he').1; omega)
      rw [Nat.add_mul _ 1, Nat.one_mul] at h9
      omega
     refine ⟨cur.getD ((off + i) * k + j) undef, getD_get hlt, ?_⟩
     rw [cell_of_row w g _ _ ty (0, 0) h2', show off * k + (i * k + j) = (off + i) * k + j by rw [Nat.add_mul]; omega]
     simpa using getD_get (d := undef) hlt
    refine .sl _ _ _ _ k hlen.symm h2 (by omega) (fun i e he => h6 _ e (hget i e he).1) (fun _ => ⟨rfl, hJι _ _ hι⟩) (fun i e j u he hu => ?_) (fun i e j u x he hu hx => ?_)
    ·obtain ⟨y, _, hy⟩ := hcell i e j u he hu
     exact ⟨y, hy⟩
    ·obtain ⟨y, hy1, hy2⟩ := hcell i e j u he hu
     rw [hx] at hy2
     cases hy2
     exact (h8 _ e j u x (hget i e he).1 hu hy1).mono fun g hg => ⟨hJ g hg, rfl⟩
theorem own_closedT {J : Nat → Prop} (hJ : ∀ g, Still A ι w g → J g) {b k off n : Nat} (hJι : ∀ g c, ι b = some (.at g c) → J g) (hJh : ∀ g, ι.hid g = some b → J g) {x : Value} (hx : Rep (Still A ι w) ι w (.own b k off n) x)
  {es : List (List TV)} {ty : TypeId} (hb : BlkRep (Still A ι w) ι w b (.arr k es ty none)) (hle : off + n ≤ es.length) : CRep J w (.sl (((eraseTss es).drop off).take n)) x := by
 have hl : (eraseTss es).length = es.length := by rw [eraseTss_eq, List.length_map]
 cases hx with
 | ownNil _ _ hι =>
  simp only [List.take_zero]
  exact .nil
 | own _ _ _ _ g cap a cc hι h0 h1 h2 hq =>
  cases hb with
  | arrNil _ _ h => rw [hι] at h; cases h
  | arr _ _ _ _ g' cap' cur Sf g1 g2 g3 g4 g5 g6 g7 g8 g9 g10 =>
   rw [hι] at g1
   simp only [Option.some.injEq, Plc.at.injEq] at g1
   obtain ⟨rfl, rfl⟩ := g1
   by_cases hn : n = 0
   ·subst hn
    simp only [List.take_zero]
    exact .sl [] a 0 cc k rfl h2 (Nat.zero_le _) (fun i e h => by simp at h) (fun h => absurd rfl h) (fun i e j u h => by simp at h) (fun i e j u x h => by simp at h)
   ·have ha := h1 hn
    subst ha
    exact row_closed (n := 0) (eraseTss es) off n cc (hJι _ _ hι) g2 g3 (by rw [hl]; exact g4) g5 (map_rows g6) (fun i e j u x he hu hx => by
     obtain ⟨e', u', q1, q2, rfl⟩ := map_cell he hu
     exact (g9 i e' j u' x (fun row hr => by cases hr) q1 q2 hx).closed hJ fun q hq => hJh q (g7 _ q hq)) (by rw [hl]; exact hle) h2
theorem frz0_ok {J : Nat → Prop} (hJ : ∀ g, Still A ι w g → J g) (hJι : ∀ b g c, ι b = some (.at g c) → J g) (hJh : ∀ g b, ι.hid g = some b → J g) (hh : ∀ b blk, look heap b = some blk → BlkRep (Still A ι w) ι w b blk)
  {av : AV} {x : Value} {vc : Prop} {r : AV} (h : frz0 heap av = some (vc, r)) (hvc : vc) (hx : Rep (Still A ι w) ι w av x) : Rep J noPl w r x := by
 unfold frz0 at h
 split at h
 ·cases h
  cases hx with
  | c _ _ hu => cases hu; exact .c _ _ .nil
 ·cases h
  cases hx with
  | c _ _ hu => exact .c _ _ (hu.mono fun g hg => ⟨hJ g hg, rfl⟩)
 ·split at h
  ·rename_i b k off n k' es ty hl
   cases h
   obtain ⟨rfl, hle⟩ := hvc
   exact .c _ _ (own_closed hJ (fun g c hb => hJι _ g c hb) hx (hh _ _ hl) hle)
  ·rename_i b k off n k' es ty hl
   cases h
   obtain ⟨rfl, hle⟩ := hvc
   exact .c _ _ (own_closedT hJ (fun g c hb => hJι _ g c hb) (fun g hg => hJh g _ hg) hx (hh _ _ hl) hle)
  ·cases h
 ·split at h
  ·rename_i b T hl
   cases h
   have hb := hh _ _ hl
   cases hx with
   | tr _ _ g0 g1 =>
    cases hb with
    | tre _ y g2 g3 g4 =>
     rw [g1] at g3
     cases g3
     exact .c _ _ (g4.closed hJ fun g hg => hJh g _ hg)
  ·cases h
 ·cases h
  cases hx with
  | ptr _ _ g cap h1 => exact .c _ _ (.any _ rfl)
 ·cases h
  cases hx with
  | clo f' caps xs hl hr => exact .clo _ [] xs hl fun i av x ha _ => by simp at ha
 ·cases h
theorem frzL_ok {J : Nat → Prop} {fz : AV → Option (Prop × AV)} (hfz : ∀ av x vc r, fz av = some (vc, r) → vc → Rep (Still A ι w) ι w av x → Rep J noPl w r x) :
  ∀ {l : List AV} {vc : Prop} {l' : List AV}, frzL fz l = some (vc, l') → vc → l'.length = l.length ∧ ∀ (i : Nat) av' x, l'[i]? = some av' → (∀ av, l[i]? = some av → Rep (Still A ι w) ι w av x) → Rep J noPl w av' x
 | [], vc, l', h, hvc => by cases h; exact ⟨rfl, fun i av' x ha => by simp at ha⟩
 | a :: r, vc, l', h, hvc => by
  simp only [frzL] at h
  split at h
  ·rename_i v x vs xs hx hxs
   cases h
   obtain ⟨h1, h2⟩ := frzL_ok hfz hxs hvc.2
   refine ⟨by simp [h1], fun i av' y ha hr => ?_⟩
   cases i with
   | zero => simp at ha; subst ha; exact hfz a y v _ hx hvc.1 (hr a rfl)
   | succ i => exact h2 i av' y (by simpa using ha) fun av hav => hr av (by simpa using hav)
  ·cases h
theorem frz1_ok {J : Nat → Prop} (hJ : ∀ g, Still A ι w g → J g) (hJι : ∀ b g c, ι b = some (.at g c) → J g) (hJh : ∀ g b, ι.hid g = some b → J g) (hh : ∀ b blk, look heap b = some blk → BlkRep (Still A ι w) ι w b blk)
  {av : AV} {x : Value} {vc : Prop} {r : AV} (h : frz1 heap av = some (vc, r)) (hvc : vc) (hx : Rep (Still A ι w) ι w av x) : Rep J noPl w r x := by
 unfold frz1 at h
 split at h
 ·rename_i cs
  cases hf : frzL (frz0 heap) cs with
  | none => rw [hf] at h; cases h
  | some p =>
   rw [hf] at h
   cases h
   obtain ⟨h1, h2⟩ := frzL_ok (fun av x vc r h hvc hx => frz0_ok hJ hJι hJh hh h hvc hx) (l' := p.2) hf hvc
   cases hx with
   | agg _ xs hl h3 hr => exact .agg _ xs (by omega) h3 fun i av x ha hx => h2 i av x ha fun av' hav' => hr i av' x hav' hx
 ·cases h
  cases hx with
  | tup _ xs hl hr => exact .tup [] xs hl fun i av x ha _ => by simp at ha
 ·exact frz0_ok hJ hJι hJh hh h hvc hx
theorem frz_ok {J : Nat → Prop} (hJ : ∀ g, Still A ι w g → J g) (hJι : ∀ b g c, ι b = some (.at g c) → J g) (hJh : ∀ g b, ι.hid g = some b → J g) (hh : ∀ b blk, look heap b = some blk → BlkRep (Still A ι w) ι w b blk)
  {av : AV} {x : Value} {vc : Prop} {r : AV} (h : frz heap av = some (vc, r)) (hvc : vc) (hx : Rep (Still A ι w) ι w av x) : Rep J noPl w r x := by
 unfold frz at h
 split at h
 ·rename_i cs
  cases hf : frzL (frz1 heap) cs with
  | none => rw [hf] at h; cases h
  | some p =>
   rw [hf] at h
   cases h
   obtain ⟨h1, h2⟩ := frzL_ok (fun av x vc r h hvc hx => frz1_ok hJ hJι hJh hh h hvc hx) (l' := p.2) hf hvc
   cases hx with
   | tup _ xs hl hr => exact .tup _ xs (by omega) fun i av x ha hx => h2 i av x ha fun av' hav' => hr i av' x hav' hx
 ·exact frz1_ok hJ hJι hJh hh h hvc hx
end
def resE (tt : TT) (tmps : List (Nat × AV)) (heap : List (Nat × Blk)) : ResultVar → Option (Prop × AV)
 | .tmp t => some (True, (look tmps t).getD .top)
 | .cell a t => match tagg tt t with
  | some (b, n) => loadAV heap b n ((look tmps a).getD .top)
  | none => none
def resL (tt : TT) (tmps : List (Nat × AV)) (heap : List (Nat × Blk)) : List ResultVar → Option (Prop × List AV)
 | [] => some (True, [])
 | r :: rs => match resE tt tmps heap r, resL tt tmps heap rs with
  | some (v, x), some (vs, xs) => some (v ∧ vs, x :: xs)
  | _, _ => none
def retE (tt : TT) (s : AState) (rs : List ResultVar) : Option (Prop × AV) :=
 match resL tt s.tmps s.heap rs with
 | some (vc, [x]) => (frz s.heap x).map fun r => (vc ∧ r.1, r.2)
 | some (vc, xs) => (frz s.heap (.tup xs)).map fun r => (vc ∧ r.1, r.2)
 | none => none
def resV (tmps : Array Value) : ResultVar → Sem Value
 | .tmp t => pure (tmps.getD t undef)
 | .cell a t => do loadVar t (← asAddr (tmps.getD a undef))
theorem results_eq (fn : Func) (tmps : Array Value) : results fn tmps = (do let vs ← fn.results.mapM (resV tmps); pure (if h : vs.size = 1 then vs[0] else .tuple vs) : Sem Value) := by
 unfold results
 rfl
theorem resE_ok {cx : Cx} (htt : TtOk cx.P cx.tt) {s : AState} {ι : Pl} {a : Act} {w : World} (hs : SatI cx s ι a w) {rv : ResultVar} {vc : Prop} {av : AV} (h : resE cx.tt s.tmps s.heap rv = some (vc, av)) (hvc : vc) :
  ∃ v, (resV a.tmps rv).run cx.P w = .ok v w ∧ Rep (Still cx.A ι w) ι w av v := by
 have hrep : ∀ t, Rep (Still cx.A ι w) ι w ((look s.tmps t).getD .top) (a.tmps.getD t undef) := fun t => by
  cases hl : look s.tmps t with
  | none => exact .top _
  | some av => exact hs.tmps t av hl
 cases rv with
 | tmp t =>
  cases h
  exact ⟨_, rfl, hrep t⟩
 | cell ad t =>
  simp only [resE] at h
  split at h
  ·rename_i b n ht
   obtain ⟨v, hv, hr⟩ := loadAV_ok htt ht h hvc (hrep ad) hs.heap
   refine ⟨v, ?_, hr⟩
   have hp : ∃ ad', a.tmps.getD ad undef = .pointer (some ad') := by
    have := hrep ad
    generalize (look s.tmps ad).getD .top = y at this h
    generalize a.tmps.getD ad undef = z at this
    cases this <;> simp only [loadAV] at h <;> first | (cases h; done) | exact ⟨_, rfl⟩
   obtain ⟨ad', hp⟩ := hp
   simp only [resV]
   rw [hp] at hv ⊢
   simpa [Instr.loadAt, Instr.sureAddr, asAddr] using hv
  ·cases h
theorem run_mapM_list {P : Program} {w : World} {α : Type} (f : α → Sem Value) : ∀ (l : List α) (vs : List Value), vs.length = l.length → (∀ (i : Nat) r v, l[i]? = some r → vs[i]? = some v → (f r).run P w = .ok v w) → (l.mapM f).run P w = .ok vs w
 | [], vs, hl, _ => by
  have : vs = [] := by simpa using hl
  subst this
  simp
 | r :: rs, vs, hl, h => by
  match vs, hl with
  | v :: vs, hl =>
   have h0 := h 0 r v rfl rfl
   have ih := run_mapM_list f rs vs (by simpa using hl) fun i r' v' hr hv => h (i + 1) r' v' (by simpa using hr) (by simpa using hv)
   simp [List.mapM_cons, Sem.run_bind, h0, ih]
theorem resL_ok {cx : Cx} (htt : TtOk cx.P cx.tt) {s : AState} {ι : Pl} {a : Act} {w : World} (hs : SatI cx s ι a w) : ∀ {rs : List ResultVar} {vc : Prop} {avs : List AV}, resL cx.tt s.tmps s.heap rs = some (vc, avs) → vc →
  ∃ vs : List Value, vs.length = avs.length ∧ avs.length = rs.length ∧ (∀ (i : Nat) rv v, rs[i]? = some rv → vs[i]? = some v → (resV a.tmps rv).run cx.P w = .ok v w) ∧
   (∀ (i : Nat) av v, avs[i]? = some av → vs[i]? = some v → Rep (Still cx.A ι w) ι w av v)
 | [], vc, avs, h, hvc => by cases h; exact ⟨[], rfl, rfl, fun i rv v h => by simp at h, fun i av v h => by simp at h⟩
 | r :: rs, vc, avs, h, hvc => by
  simp only [resL] at h
  split at h
  ·rename_i v x vs xs hx hxs
   cases h
   obtain ⟨val, h1, h2⟩ := resE_ok htt hs hx hvc.1
   obtain ⟨vals, h3, h4, h5, h6⟩ := resL_ok htt hs hxs hvc.2
   refine ⟨val :: vals, by simp [h3], by simp [h4], fun i rv v hr hv => ?_, fun i av v ha hv => ?_⟩
   ·cases i with
    | zero => simp at hr hv; subst hr hv; exact h1
    | succ i => exact h5 i rv v (by simpa using hr) (by simpa using hv)
   ·cases i with
    | zero => simp at ha hv; subst ha hv; exact h2
    | succ i => exact h6 i av v (by simpa using ha) (by simpa using hv)
  ·cases h
structure Like (ι : Pl) (n0 : Nat) (w w' : World) : Prop where
 os : w'.os = w.os
 tape : w'.tape = w.tape
 output : w'.output = w.output
 size : w'.heap.size = w.heap.size
 cell : ∀ a, w'.cell? a = w.cell? a
 num : ∀ b g c, ι b = some (.at g c) → w'.heap[g]? = w.heap[g]?
 hnum : ∀ g b, ι.hid g = some b → w'.heap[g]? = w.heap[g]?
 old : ∀ g, g < n0 → w'.heap[g]? = w.heap[g]?
theorem Like.refl (ι : Pl) (n0 : Nat) (w : World) : Like ι n0 w w := ⟨rfl, rfl, rfl, rfl, fun _ => rfl, fun _ _ _ _ => rfl, fun _ _ _ => rfl, fun _ _ => rfl⟩
theorem Like.trans {ι : Pl} {n0 : Nat} {w w' w'' : World} (h : Like ι n0 w w') (h' : Like ι n0 w' w'') : Like ι n0 w w'' :=
 ⟨h'.os.trans h.os, h'.tape.trans h.tape, h'.output.trans h.output, h'.size.trans h.size, fun a => (h'.cell a).trans (h.cell a), fun b g c hb => (h'.num b g c hb).trans (h.num b g c hb), fun g b hb => (h'.hnum g b hb).trans (h.hnum g b hb), fun g hg => (h'.old g hg).trans (h.old g hg)⟩
theorem CRep.like {I : Nat → Prop} {w w' : World} (h : ∀ a, w'.cell? a = w.cell? a) {u x} (hr : CRep I w u x) : CRep I w' u x := by
 induction hr with
 | val x h1 => exact .val x h1
 | any x h1 => exact .any x h1
 | nil => exact .nil
 | sl es a n cap k hn hc hm hk hI hcell hrep ih => exact .sl es a n cap k hn hc hm hk hI (fun i e j u he hu => by rw [h]; exact hcell i e j u he hu) fun i e j u x he hu hx => by rw [h] at hx; exact ih i e j u x he hu hx
theorem Rep.like {I : Nat → Prop} {ι : Pl} {w w' : World} (h : ∀ a, w'.cell? a = w.cell? a) {av x} (hr : Rep I ι w av x) : Rep I ι w' av x := by
 induction hr with
 | top x => exact .top x
 | c u x hu => exact .c u x (hu.like h)
 | ownNil b k hb => exact .ownNil b k hb
 | own b k off n g cap a cc hb h0 h1 h2 hq => exact .own b k off n g cap a cc hb h0 h1 h2 hq
 | osl b off n g cap cc hb h2 => exact .osl b off n g cap cc hb h2
 | mref b g cap hb => exact .mref b g cap hb
 | ptr b off g cap hb => exact .ptr b off g cap hb
 | aptr b k i off g cap hb => exact .aptr b k i off g cap hb
 | pl b p x hb => exact .pl b p x hb
 | tr b x h1 hb => exact .tr b x h1 hb
 | cel cs a hs hI hcell hrep => exact .cel cs a hs hI (fun j u hu => by rw [h]; exact hcell j u hu) fun j u x hu hx => by rw [h] at hx; exact (hrep j u x hu hx).like h
 | clo f caps xs hl hr ih => exact .clo f caps xs hl ih
 | agg cs xs hl h1 hr ih => exact .agg cs xs hl h1 ih
 | tup cs xs hl hr ih => exact .tup cs xs hl ih
theorem TRep.like {I : Nat → Prop} {w w' : World} (h : ∀ a, w'.cell? a = w.cell? a) {S : Nat → Prop} {T : TV} {x : Value} (hr : TRep I w S T x) : (∀ g, S g → w'.heap[g]? = w.heap[g]?) → TRep I w' S T x := by
 induction hr with
 | cl S u x hu => exact fun _ => .cl _ u x (hu.like h)
 | ownNil S k ty => exact fun _ => .ownNil _ k ty
 | own S k ty es g cap cur h1 h2 h3 h4 h5 h6 h7 => exact fun hS => .own _ k ty es g cap cur h1 (by rw [hS g h1]; exact h2) h3 h4 h5 h6 fun i e j u x he hu hx => (h7 i e j u x he hu hx).like h
 | owNil S k ty => exact fun _ => .owNil _ k ty
 | ow S k ty es g cap cur Sf h1 h2 h3 h4 h5 h6 h7 h8 h9 ih => exact fun hS => .ow _ k ty es g cap cur Sf h1 (by rw [hS g h1]; exact h2) h3 h4 h5 h6 h7 h8 fun i e j u x he hu hx => ih i e j u x he hu hx fun q hq => hS q (h7 _ q hq).1
 | pt S cells ty g cur Sf h1 h2 h3 h7 h8 h9 ih => exact fun hS => .pt _ cells ty g cur Sf h1 (by rw [hS g h1]; exact h2) h3 h7 h8 fun j u x hu hx => ih j u x hu hx fun q hq => hS q (h7 _ q hq).1
theorem BlkRep.like {I : Nat → Prop} {ι : Pl} {n0 : Nat} {w w' : World} (h : Like ι n0 w w') {b blk} (hr : BlkRep I ι w b blk) : BlkRep I ι w' b blk := by
 cases hr with
 | box cells ty g cur h1 h2 h3 h4 h5 => exact .box cells ty g cur h1 (by rw [h.num _ _ _ h1]; exact h2) h3 h4 fun i av x ha hx => (h5 i av x ha hx).like h.cell
 | accNil k ty h1 => exact .accNil k ty h1
 | acc k ty es g cap cur h1 h2 h3 h4 h5 h6 h8 => exact .acc k ty es g cap cur h1 (by rw [h.num _ _ _ h1]; exact h2) h3 h4 h5 h6 fun i e j u x he hu hx => (h8 i e j u x he hu hx).like h.cell
 | raw g cap h1 => exact .raw g cap h1
 | fr arr cells h1 h2 h3 => exact .fr arr cells h1 h2 fun i av x ha hx => (h3 i av x ha hx).like h.cell
 | lp l rec h1 h2 => exact .lp l rec h1 (by rw [h.num _ _ _ h1]; exact h2)
 | mp es arr clock g h1 h2 h3 h4 => exact .mp es arr clock g h1 (by rw [h.num _ _ _ h1]; exact h2) h3 h4
 | tre T x h0 h1 h2 => exact .tre T x h0 h1 (h2.like h.cell fun g hg => h.hnum g _ hg)
 | arrNil k ty h1 => exact .arrNil k ty h1
 | arr k ty es hole g cap cur Sf h1 h2 h3 h4 h5 h6 h7 h8 h9 h10 =>
  exact .arr k ty es hole g cap cur Sf h1 (by rw [h.num _ _ _ h1]; exact h2) h3 h4 h5 h6 h7 h8 (fun i e j u x hn he hu hx => (h9 i e j u x hn he hu hx).like h.cell fun q hq => h.hnum q _ (h7 _ q hq)) fun i row hr => ⟨(h10 i row hr).1, (h10 i row hr).2.1, fun j av x ha hx => ((h10 i row hr).2.2 j av x ha hx).like h.cell⟩
 | opn av x h0 h1 h2 => exact .opn av x h0 h1 (h2.like h.cell)
theorem still_size {A : Nat → Prop} {ι : Pl} {w w' : World} (h : w'.heap.size = w.heap.size) : Still A ι w' = Still A ι w := by funext g; simp only [Still, h]
theorem SatI.like {cx : Cx} {s : AState} {ι : Pl} {a a' : Act} {w w' : World} (hs : SatI cx s ι a w) (h : Like ι cx.w0.heap.size w w') (ht : a'.tmps = a.tmps) (hd : Marks cx.w0.heap.size ι (a'.defers ++ cx.eds) w') : SatI cx s ι a' w' := by
 refine ⟨hs.ok.grow (Nat.le_of_eq h.size.symm), hs.free, hd, by rw [ht]; exact hs.size, fun t av hl => ?_, fun b blk hl => ?_, ⟨h.os.trans hs.base.os, h.tape.trans hs.base.tape, h.output.trans hs.base.output, by rw [h.size]; exact hs.base.size, fun g hg hm => by rw [h.old g hg]; exact hs.base.block g hg hm, hs.base.own, hs.base.hown⟩⟩
 ·rw [ht, still_size h.size]; exact (hs.tmps t av hl).like h.cell
 ·rw [still_size h.size]; exact (hs.heap b blk hl).like h
theorem putObj_cell {w : World} {D : Nat} {o o' : Obj} (h : w.heap[D]? = some o) (ho : ∀ c e f, o ≠ .cells c e f) (ho' : ∀ c e f, o' ≠ .cells c e f) (a : Addr) : (w.putObj D o').cell? a = w.cell? a := by
 have hlt := (Array.getElem?_eq_some_iff.1 h).1
 by_cases e : a.block = D
 ·unfold World.cell?
  rw [e, World.putObj_heap_same hlt, h]
  cases o <;> cases o' <;> first | rfl | (exfalso; exact ho _ _ _ rfl) | (exfalso; exact ho' _ _ _ rfl)
 ·unfold World.cell?
  rw [World.putObj_heap_other e]
theorem like_shut {ι : Pl} {n0 : Nat} {w : World} {D : Nat} (h : w.heap[D]? = some (.deferred (some []))) (h0 : n0 ≤ D) (hd : ι.hid D = none) (hι : ∀ b c, ι b ≠ some (.at D c)) : Like ι n0 w (w.putObj D (.deferred none)) :=
 ⟨rfl, rfl, rfl, by simp, fun a => putObj_cell h (fun _ _ _ h => by cases h) (fun _ _ _ h => by cases h) a, fun b g c hb => World.putObj_heap_other fun e => hι b c (by rw [← e]; exact hb), fun g b hb => World.putObj_heap_other fun e => (by rw [e, hd] at hb; cases hb), fun g hg => World.putObj_heap_other (by omega)⟩
theorem leaves_marks {P : Program} {fn : Func} {tmps : Array Value} {R : Ending → World → Prop} {n0 : Nat} {ι : Pl} {eds : List Deferred} : ∀ (ds : List Deferred) (w : World), Marks n0 ι (ds ++ eds) w →
  (∀ w', Like ι n0 w w' → Marks n0 ι eds w' → ∃ v, (results fn tmps).run P w' = .ok v w' ∧ R (.returned v) w') → LeavesInM Fence.wide 0 P fn tmps R ds .returning w
 | [], w, hm, h => h w (.refl ..) hm
 | d :: ds, w, hm, h => by
  obtain ⟨D, rfl, h1, h2, h0, h3⟩ := hm.all d (by simp)
  have hlike := like_shut h2 h1 h0 h3
  have hnd := hm.nd
  simp only [List.cons_append, List.map_cons, List.nodup_cons] at hnd
  have hm' : Marks n0 ι (ds ++ eds) (w.putObj D (.deferred none)) := by
   refine ⟨fun d' hd' => ?_, hnd.2⟩
   obtain ⟨D', rfl, g1, g2, g3⟩ := hm.all d' (List.mem_cons_of_mem _ hd')
   refine ⟨D', rfl, g1, ?_, g3⟩
   rw [World.putObj_heap_other]
   ·exact g2
   ·rintro rfl
    exact hnd.1 (List.mem_map.2 ⟨_, hd', rfl⟩)
  refine ⟨by simp, .inl ⟨D, _, rfl, run_takeDeferred h2, leaves_marks ds _ hm' fun w' hl hmk => h w' (hlike.trans hl) hmk⟩⟩
def RetR (cx : Cx) (r : AV) : Ending → World → Prop := fun e w' => ∃ v, e = .returned v ∧ Rep (fun g => cx.A g ∧ g < w'.heap.size) noPl w' r v ∧ Below cx.w0.heap.size cx.w0 w'
def RetQ (cx : Cx) (fn : Func) (r : AV) : Post := bodyPostM Fence.wide 0 cx.P fn (RetR cx r)
theorem leave_of {cx : Cx} {fn : Func} {R : Ending → World → Prop} {s : AState} {a : Act} {w : World} (hs : Sat cx s a w)
  (h : ∀ ι a' w', SatI cx s ι a' w' → a'.tmps = a.tmps → a'.defers = [] → ∃ v, (results fn a.tmps).run cx.P w' = .ok v w' ∧ R (.returned v) w') : bodyPostM Fence.wide 0 cx.P fn R .ret a w := by
 obtain ⟨ι, hs⟩ := hs
 exact leaves_marks (ι := ι) a.defers w hs.defers fun w' hl hm => h ι { a with defers := [] } w' (hs.like hl rfl hm) rfl rfl
theorem retE_ok {cx : Cx} (htt : TtOk cx.P cx.tt) (hM : ∀ g, ¬ cx.M0 g) {fn : Func} {s : AState} {ι : Pl} {a : Act} {w : World} (hs : SatI cx s ι a w) {vc : Prop} {r : AV} (h : retE cx.tt s fn.results.toList = some (vc, r)) (hvc : vc) :
  ∃ v, (results fn a.tmps).run cx.P w = .ok v w ∧ RetR cx r (.returned v) w := by
 have hbelow : Below cx.w0.heap.size cx.w0 w := ⟨hs.base.os, hs.base.tape, hs.base.output, hs.base.size, fun g hg => hs.base.block g hg (hM g)⟩
 have hJ : ∀ g, Still cx.A ι w g → cx.A g ∧ g < w.heap.size := fun g hg => ⟨hg.1.1.1, hg.1.2⟩
 have hJι : ∀ b g c, ι b = some (.at g c) → cx.A g ∧ g < w.heap.size := fun b g c hb => ⟨hs.base.owned hb ((hs.base.own b g c hb).resolve_left (hM g)), hs.ok.lt b g c hb⟩
 have hJh : ∀ g b, ι.hid g = some b → cx.A g ∧ g < w.heap.size := fun g b hb => ⟨hs.base.hmine hb, hs.ok.hlt g b hb⟩
 have key : ∀ vc' avs, resL cx.tt s.tmps s.heap fn.results.toList = some (vc', avs) → vc' → ∃ vs : List Value, vs.length = avs.length ∧ (results fn a.tmps).run cx.P w = .ok (if h : vs.toArray.size = 1 then vs.toArray[0] else .tuple vs.toArray) w ∧
   (∀ (i : Nat) av v, avs[i]? = some av → vs[i]? = some v → Rep (Still cx.A ι w) ι w av v) := by
  intro vc' avs hl hv
  obtain ⟨vs, h1, h2, h3, h4⟩ := resL_ok htt hs hl hv
  refine ⟨vs, h1, ?_, h4⟩
  have := run_mapM_list (P := cx.P) (w := w) (resV a.tmps) fn.results.toList vs (by omega) h3
  rw [results_eq, Sem.run_bind, Array.mapM_eq_mapM_toList, Sem.run_map, this]
  rfl
 unfold retE at h
 split at h
 ·rename_i vc' x hl
  cases hf : frz s.heap x with
  | none => rw [hf] at h; cases h
  | some p =>
   rw [hf] at h
   cases h
   obtain ⟨vs, h1, h2, h3⟩ := key _ _ hl hvc.1
   match vs, h1 with
   | [v], _ =>
    refine ⟨v, ?_, v, rfl, frz_ok hJ hJι hJh hs.heap (r := p.2) hf hvc.2 (h3 0 x v rfl rfl), hbelow⟩
    simpa using h2
 ·rename_i vc' xs hne hl
  cases hf : frz s.heap (.tup xs) with
  | none => rw [hf] at h; cases h
  | some p =>
   rw [hf] at h
   cases h
   obtain ⟨vs, h1, h2, h3⟩ := key _ _ hl hvc.1
   have hsz : ¬ vs.toArray.size = 1 := fun h1' => by
    have h1'' : xs.length = 1 := by rw [← h1]; simpa using h1'
    match xs, h1'' with
    | [x], _ => exact hne x rfl
   rw [dif_neg hsz] at h2
   exact ⟨_, h2, _, rfl, frz_ok hJ hJι hJh hs.heap (r := p.2) hf hvc.2 (.tup xs vs h1 h3), hbelow⟩
 ·cases h
theorem go_return {cx : Cx} (htt : TtOk cx.P cx.tt) (hM : ∀ g, ¬ cx.M0 g) {fn : Func} {s : AState} {k : List K} {vc : Prop} {r r' : AV} (h : retE cx.tt s fn.results.toList = some (vc, r')) (hvc : vc) (hr : r' = r) :
  Go' cx (RetQ cx fn r) (.code .ret :: k) s := go_ret fun a w hs => kpost_ret (leave_of hs fun ι a' w' hs' ht _ => by subst hr; rw [← ht]; exact retE_ok htt hM hs' h hvc) k
def argT : Nat → List AV → List (Nat × AV)
 | _, [] => []
 | i, a :: r => (i, a) :: argT (i + 1) r
theorem look_argT : ∀ (l : List AV) (i t : Nat) (av : AV), look (argT i l) t = some av → i ≤ t ∧ l[t - i]? = some av
 | [], i, t, av, h => by cases h
 | a :: r, i, t, av, h => by
  simp only [argT, look] at h
  cases e : i == t with
  | true => simp [e] at h; have := eq_of_beq e; subst this; subst h; simp
  | false =>
   simp [e] at h
   obtain ⟨h1, h2⟩ := look_argT r (i + 1) t av h
   refine ⟨by omega, ?_⟩
   rw [show t - i = (t - (i + 1)) + 1 by omega]
   simpa using h2
def cx0 (P : Program) (tt : TT) (n : Nat) (w0 : World) (A : Nat → Prop) (hA : ∀ g, w0.heap.size ≤ g → A g) : Cx :=
 { P := P, tt := tt, n := n, eds := [], rnd := none, w0 := w0, M0 := fun _ => False, A := A, hA := hA, hM := fun _ h => h.elim }
section
variable {P : Program} {tt : TT} {n : Nat} {w0 : World} {A : Nat → Prop} {hA : ∀ g, w0.heap.size ≤ g → A g}
theorem cx0_P : (cx0 P tt n w0 A hA).P = P := rfl
theorem cx0_tt : (cx0 P tt n w0 A hA).tt = tt := rfl
theorem cx0_n : (cx0 P tt n w0 A hA).n = n := rfl
end
theorem FnP.intro {P : Program} {tt : TT} {f : FuncId} {fn : Func} {c : Code} {args : List AV} {r : AV} (hf : P.funcs[f]? = some fn) (hb : fn.body = some c) (hnm : (fn.name == "runtime.NumGoroutine") = false) (hn : args.length ≤ fn.ntmps)
  (h : ∀ w0 A hA, Go' (cx0 P tt fn.ntmps w0 A hA) (RetQ (cx0 P tt fn.ntmps w0 A hA) fn r) [.code c] ⟨argT 0 args, [], 0⟩) : FnP P f args r := by
 refine ⟨⟨fn, hf, hnm, by simp [hb]⟩, fun I w vs hI hl hr => ?_⟩
 let A : Nat → Prop := fun g => I g ∨ w.heap.size ≤ g
 have hsat : Sat (cx0 P tt fn.ntmps w A (fun g hg => .inr hg)) ⟨argT 0 args, [], 0⟩ { tmps := vs.toArray ++ Array.replicate (fn.ntmps - vs.toArray.size) undef, defers := [] } w := by
  refine ⟨noPl, ok_noPl w, fun b _ => rfl, .nil .., ?_, fun t av hl' => ?_, fun b blk hl' => (by cases hl'), ⟨rfl, rfl, rfl, Nat.le_refl _, fun g _ _ => rfl, fun b g c h => (noPl_f h).elim, fun g b h => (noPl_h h).elim⟩⟩
  ·simp [cx0]; omega
  ·obtain ⟨_, hget⟩ := look_argT args 0 t av hl'
   simp only [Nat.sub_zero] at hget
   have hlt : t < vs.length := by rw [hl]; exact (List.getElem?_eq_some_iff.1 hget).1
   have hv : vs[t]? = some (vs.getD t undef) := getD_get hlt
   have e : (vs.toArray ++ Array.replicate (fn.ntmps - vs.toArray.size) undef).getD t undef = vs.getD t undef := by
    simp only [Array.getD_eq_getD_getElem?]
    rw [Array.getElem?_append_left (by simpa using hlt)]
    simp [List.getD]
   show Rep _ _ _ _ ((vs.toArray ++ Array.replicate (fn.ntmps - vs.toArray.size) undef).getD t undef)
   rw [e]
   exact (hr t av _ hget hv).mono (fun g hg => ⟨⟨⟨⟨.inl hg, rfl⟩, hI g hg⟩, fun b c hb => (noPl_f hb).elim⟩, rfl⟩) fun b _ => rfl
 exact callsIn_wide.1 (callsIn_of_wp_marks (F := Fence.wide) (n := 0) hf hb trivial (h w A (fun g hg => .inr hg) _ w hsat))
theorem CallK.pure {cx : Cx} {o : Oper} {s : AState} {f : FuncId} {args : List AV} {r : AV} {KK : AState → Prop} (h : FnP cx.P f args r) (hcl : ∀ av ∈ args, ∀ b, ¬ Men b av) (hd : match o.dst with | some t => t < cx.n | none => True)
  (hK : KK (s.apply o ⟨some r, [], [], s.nxt⟩)) : CallK cx o s f args KK := by
 refine ⟨h.1, fun ι a w vs hs hl hr => ?_⟩
 refine (h.2 (Still cx.A ι w) w vs (fun g hg => hg.1.2) hl fun i av x ha hx => (hr i av x ha hx).mono (fun g hg => ⟨hg, rfl⟩) fun b hb => absurd hb (hcl av (List.mem_of_getElem? ha) b)).mono fun e w' he => ?_
 obtain ⟨v, rfl, hrep, hbel⟩ := he
 have hst : StepR ι w ι w' (fun _ => False) (fun _ => False) := StepO.R ⟨hbel.os, hbel.tape, hbel.output, hbel.size, fun _ _ => rfl, fun b g c hb => .inl ⟨b, c, hb⟩, fun g hg _ => hbel.block g hg, hs.ok.grow hbel.size⟩ rfl
 have hst' : StepR ι w ι w' (fun b => ∃ blk, (b, blk) ∈ (⟨some r, [], [], s.nxt⟩ : Eff).wr) ((⟨some r, [], [], s.nxt⟩ : Eff).kills s.nxt) :=
  StepO.R ⟨hst.os, hst.tape, hst.output, hst.size, fun _ _ => rfl, fun b g c hb => .inl ⟨b, c, hb⟩, fun g hg _ => hbel.block g hg, hst.ok⟩ rfl
 refine ⟨v, _, ι, rfl, hK, hs.apply hst' (fun p hp => by simp at hp) hs.free (fun k hk => by cases hk) ?_ (fun t ht => by rw [ht] at hd; exact hd)⟩
 have hmen : ∀ b, Men b r → False := fun b hb => hrep.men b hb rfl
 refine hrep.mono (fun g hg => ⟨?_, rfl⟩) fun b hb => (hmen b hb).elim
 rcases hg with ⟨hg | hg, hlt⟩
 ·exact ⟨⟨hg.1.1, hlt⟩, hg.2⟩
 ·exact still_new hs.ok (hs.base.fresh g hg) hg hlt
end Go.Ab
