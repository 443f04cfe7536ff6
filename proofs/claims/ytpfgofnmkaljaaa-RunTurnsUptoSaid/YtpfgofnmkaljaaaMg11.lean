/-
  A function's contract out of its body, blocks of its own handed over.
-/
import Derived.Test.YtpfgofnmkaljaaaMg10
set_option linter.unusedVariables false
set_option linter.unusedSimpArgs false
namespace Go.Ab
open Go Go.RowKit
def posOf : List Nat → Nat → Option Nat
 | [], _ => none
 | x :: r, b => bif x == b then some 0 else (posOf r b).map (· + 1)
theorem posOf_some {b : Nat} : ∀ {l : List Nat} {i : Nat}, posOf l b = some i → l[i]? = some b
 | x :: r, i, h => by
  simp only [posOf] at h
  cases e : x == b with
  | true => simp [e] at h; subst h; simpa using e
  | false =>
   simp [e] at h
   obtain ⟨j, h1, rfl⟩ := h
   simpa using posOf_some h1
theorem posOf_none {b : Nat} : ∀ {l : List Nat}, posOf l b = none → b ∉ l
 | [], _ => by simp
 | x :: r, h => by
  simp only [posOf] at h
  cases e : x == b with
  | true => simp [e] at h
  | false =>
   simp [e] at h
   intro hm
   cases hm with
   | head => simp at e
   | tail _ hm => exact posOf_none h hm
def hz0 (π : List Nat) (heap : List (Nat × Blk)) : AV → Option (Prop × AV)
 | .own b k off n => match posOf π b with
  | some i => some (True, .own i k off n)
  | none => frz0 heap (.own b k off n)
 | .osl b off n => match posOf π b with
  | some i => some (True, .osl i off n)
  | none => match look heap b with
   | some (.box cells _) => (closedL cells).map fun us => (off + n ≤ us.length ∧ n ≤ maxLen, .c (.sl (((us.drop off).take n).map fun u => [u])))
   | _ => none
 | .mref b => match posOf π b with
  | some i => some (True, .mref i)
  | none => none
 | .ptr b off => match posOf π b with
  | some i => some (True, .ptr i off)
  | none => some (True, .c .any)
 | .tr b => match posOf π b with
  | some i => some (True, .tr i)
  | none => frz0 heap (.tr b)
 | .aptr b k j off => match posOf π b with
  | some i => some (True, .aptr i k j off)
  | none => none
 | .top => some (True, .top)
 | .cel cs => some (True, .cel cs)
 | .pl b p => match posOf π b with
  | some i => some (True, .pl i p)
  | none => some (True, .top)
 | av => frz0 heap av
def hz1 (π : List Nat) (heap : List (Nat × Blk)) : AV → Option (Prop × AV)
 | .agg cs => (frzL (hz0 π heap) cs).map fun r => (r.1, .agg r.2)
 | .clo f caps => (frzL (hz0 π heap) caps).map fun r => (r.1, .clo f r.2)
 | .tup [] => some (True, .tup [])
 | av => hz0 π heap av
def hz (π : List Nat) (heap : List (Nat × Blk)) : AV → Option (Prop × AV)
 | .tup cs => (frzL (hz1 π heap) cs).map fun r => (r.1, .tup r.2)
 | av => hz1 π heap av
def hzB (π : List Nat) (heap : List (Nat × Blk)) : Blk → Option (Prop × Blk)
 | .box cells ty => (frzL (hz1 π heap) cells).map fun r => (r.1, .box r.2 ty)
 | .acc k es ty => some (True, .acc k es ty)
 | .raw => some (True, .raw)
 | .fr arr cells => (frzL (hz1 π heap) cells).map fun r => (r.1, .fr arr r.2)
 | .lp l rec => some (True, .lp l rec)
 | .mp es => some (True, .mp es)
 | .tre T => some (True, .tre T)
 | .arr k es ty none => some (True, .arr k es ty none)
 | .arr k es ty (some h) => (frzL (hz1 π heap) h.2).map fun r => (r.1, .arr k es ty (some (h.1, r.2)))
 | .opn av => (hz1 π heap av).map fun r => (r.1, .opn r.2)
def hzBs (π : List Nat) (heap : List (Nat × Blk)) : List Nat → Option (Prop × List Blk)
 | [] => some (True, [])
 | b :: r => match (look heap b).bind (hzB π heap), hzBs π heap r with
  | some (v, x), some (vs, xs) => some (v ∧ vs, x :: xs)
  | _, _ => none
def retO (tt : TT) (s : AState) (π : List Nat) (rs : List ResultVar) : Option (Prop × List Blk × AV) :=
 match hzBs π s.heap π, resL tt s.tmps s.heap rs with
 | some (vb, bs), some (vc, [x]) => (hz π s.heap x).map fun r => (vb ∧ vc ∧ r.1, bs, r.2)
 | some (vb, bs), some (vc, xs) => (hz π s.heap (.tup xs)).map fun r => (vb ∧ vc ∧ r.1, bs, r.2)
 | _, _ => none
section
variable {A : Nat → Prop} {ι : Pl} {w : World} {heap : List (Nat × Blk)} {π : List Nat}
def plOf (ι : Pl) (π : List Nat) : Pl := ⟨fun i => (π[i]?).bind ι.f, fun g => (ι.hid g).bind (posOf π)⟩
theorem posOf_get {π : List Nat} (hπ : π.Nodup) {i b : Nat} (h : π[i]? = some b) : posOf π b = some i := by
 cases hp : posOf π b with
 | none => exact absurd (List.mem_of_getElem? h) (posOf_none hp)
 | some j =>
  have := posOf_some hp
  have hi := (List.getElem?_eq_some_iff.1 h).1
  have hij : i = j := (List.getElem?_inj hi hπ).1 (h.trans this.symm)
  rw [hij]
theorem plOf_h {g i : Nat} (h : (plOf ι π).hid g = some i) : ∃ b, π[i]? = some b ∧ ι.hid g = some b := by
 simp only [plOf, Option.bind_eq_some_iff] at h
 obtain ⟨b, h1, h2⟩ := h
 exact ⟨b, posOf_some h2, h1⟩
theorem plOf_hid (hπ : π.Nodup) {g b i : Nat} (hi : π[i]? = some b) (h : ι.hid g = some b) : (plOf ι π).hid g = some i := by
 simp only [plOf, h, Option.bind_some]
 exact posOf_get hπ hi
theorem plOf_f {i g c : Nat} (h : plOf ι π i = some (.at g c)) : ∃ b, π[i]? = some b ∧ ι b = some (.at g c) := by
 simp only [plOf, Option.bind_eq_some_iff] at h
 exact h
theorem plOf_sub : SubPl ι (plOf ι π) := ⟨fun b g c hb => by obtain ⟨b', _, h⟩ := plOf_f hb; exact ⟨b', c, h⟩, fun g b hb => by obtain ⟨b', _, h⟩ := plOf_h hb; exact ⟨b', h⟩⟩
theorem plOf_ok (hπ : π.Nodup) (hok : Ok ι w) : Ok (plOf ι π) w := ⟨fun i j g c c' h1 h2 => by
  obtain ⟨b, h3, h4⟩ := plOf_f h1
  obtain ⟨b', h5, h6⟩ := plOf_f h2
  have := hok.inj _ _ _ _ _ h4 h6
  subst this
  have hi := (List.getElem?_eq_some_iff.1 h3).1
  exact (List.getElem?_inj hi hπ).1 (by rw [h3, h5]), fun i g c h1 => by
  obtain ⟨b, h3, h4⟩ := plOf_f h1
  exact hok.lt b g c h4, fun g i h1 => by
  obtain ⟨b, _, h3⟩ := plOf_h h1
  exact hok.hlt g b h3, fun g i h1 j c h2 => by
  obtain ⟨b, _, h3⟩ := plOf_h h1
  obtain ⟨b', _, h4⟩ := plOf_f h2
  exact hok.hdis g b h3 b' c h4, fun g i h1 => by
  obtain ⟨b, h2, h3⟩ := plOf_h h1
  simp only [plOf, h2, Option.bind_some]
  exact hok.hlaid g b h3⟩
theorem plOf_at {i : Nat} {b : Nat} (h : π[i]? = some b) : plOf ι π i = ι b := by simp [plOf, h]
theorem plOf_still (hok : Ok ι w) {b g c : Nat} (hA : A g) (hb : b ∉ π) (h : ι b = some (.at g c)) : Still A (plOf ι π) w g := by
 refine ⟨⟨⟨hA, ?_⟩, hok.lt b g c h⟩, fun i c' hi => ?_⟩
 ·cases hi : (plOf ι π).hid g with
  | none => rfl
  | some i => obtain ⟨b', _, h2⟩ := plOf_h hi; exact absurd h (hok.hdis g b' h2 b c)
 ·obtain ⟨b', h2, h3⟩ := plOf_f hi
  have := hok.inj _ _ _ _ _ h h3
  subst this
  exact hb (List.mem_of_getElem? h2)
theorem plOf_stillH (hok : Ok ι w) {b g : Nat} (hA : A g) (hb : b ∉ π) (h : ι.hid g = some b) : Still A (plOf ι π) w g := by
 refine ⟨⟨⟨hA, ?_⟩, hok.hlt g b h⟩, fun i c' hi => ?_⟩
 ·cases hi : (plOf ι π).hid g with
  | none => rfl
  | some i =>
   obtain ⟨b', h1, h2⟩ := plOf_h hi
   rw [h] at h2
   cases h2
   exact absurd (List.mem_of_getElem? h1) hb
 ·obtain ⟨b', h2, h3⟩ := plOf_f hi
  exact hok.hdis g b h b' c' h3
theorem frzL_ok' {J : Nat → Prop} {ι' : Pl} {fz : AV → Option (Prop × AV)} (hfz : ∀ av x vc r, fz av = some (vc, r) → vc → Rep (Still A ι w) ι w av x → Rep J ι' w r x) :
  ∀ {l : List AV} {vc : Prop} {l' : List AV}, frzL fz l = some (vc, l') → vc → l'.length = l.length ∧ ∀ (i : Nat) av' x, l'[i]? = some av' → (∀ av, l[i]? = some av → Rep (Still A ι w) ι w av x) → Rep J ι' w av' x
 | [], vc, l', h, hvc => by cases h; exact ⟨rfl, fun i av' x ha => by simp at ha⟩
 | a :: r, vc, l', h, hvc => by
  simp only [frzL] at h
  split at h
  ·rename_i v x vs xs hx hxs
   cases h
   obtain ⟨h1, h2⟩ := frzL_ok' hfz hxs hvc.2
   refine ⟨by simp [h1], fun i av' y ha hr => ?_⟩
   cases i with
   | zero => simp at ha; subst ha; exact hfz a y v _ hx hvc.1 (hr a rfl)
   | succ i => exact h2 i av' y (by simpa using ha) fun av hav => hr av (by simpa using hav)
  ·cases h
variable {J : Nat → Prop} (hJ : ∀ g, Still A ι w g → J g) (hJι : ∀ b g c blk, b ∉ π → look heap b = some blk → ι b = some (.at g c) → J g) (hJh : ∀ b g blk, b ∉ π → look heap b = some blk → ι.hid g = some b → J g) (hh : ∀ b blk, look heap b = some blk → BlkRep (Still A ι w) ι w b blk)
include hJ hJι hJh hh
theorem frz0_ok' {av : AV} {x : Value} {vc : Prop} {r : AV} (hm : ∀ b, Men b av → b ∉ π) (h : frz0 heap av = some (vc, r)) (hvc : vc) (hx : Rep (Still A ι w) ι w av x) : Rep J (plOf ι π) w r x := by
 have hmono : ∀ {u : CV} {x : Value}, CRep (Still A ι w) w u x → CRep J w u x := fun hu => hu.mono fun g hg => ⟨hJ g hg, rfl⟩
 unfold frz0 at h
 split at h
 ·cases h
  cases hx with
  | c _ _ hu => cases hu; exact .c _ _ .nil
 ·cases h
  cases hx with
  | c _ _ hu => exact .c _ _ (hmono hu)
 ·split at h
  ·rename_i b k off n _ k' es ty hl
   cases h
   obtain ⟨rfl, hle⟩ := hvc
   exact .c _ _ (own_closed hJ (fun g c hb => hJι _ g c _ (hm _ (.own ..)) hl hb) hx (hh _ _ hl) hle)
  ·rename_i b k off n _ k' es ty hl
   cases h
   obtain ⟨rfl, hle⟩ := hvc
   exact .c _ _ (own_closedT hJ (fun g c hb => hJι _ g c _ (hm _ (.own ..)) hl hb) (fun g hg => hJh _ g _ (hm _ (.own ..)) hl hg) hx (hh _ _ hl) hle)
  ·cases h
 ·split at h
  ·rename_i b _ T hl
   cases h
   have hb := hh _ _ hl
   cases hx with
   | tr _ _ g0 g1 =>
    cases hb with
    | tre _ y g2 g3 g4 =>
     rw [g1] at g3
     cases g3
     exact .c _ _ (g4.closed hJ fun g hg => hJh _ g _ (hm _ .tr) hl hg)
  ·cases h
 ·cases h
  cases hx with
  | ptr _ _ g cap h1 => exact .c _ _ (.any _ rfl)
 ·cases h
  cases hx with
  | clo f' caps xs hl hr => exact .clo _ [] xs hl fun i av x ha _ => by simp at ha
 ·cases h
theorem hz0_ok {av : AV} {x : Value} {vc : Prop} {r : AV} (h : hz0 π heap av = some (vc, r)) (hvc : vc) (hx : Rep (Still A ι w) ι w av x) : Rep J (plOf ι π) w r x := by
 unfold hz0 at h
 split at h
 ·split at h
  ·rename_i i hp
   cases h
   have e := plOf_at (ι := ι) (posOf_some hp)
   cases hx with
   | ownNil _ _ hb => exact .ownNil _ _ (by rw [e]; exact hb)
   | own _ _ _ _ g cap a cc h1 h2 h3 h4 hq => exact .own _ _ _ _ g cap a cc (by rw [e]; exact h1) h2 h3 h4 hq
  ·rename_i hp
   exact frz0_ok' hJ hJι hJh hh (fun b hb => by cases hb; exact posOf_none hp) h hvc hx
 ·rename_i b off n
  split at h
  ·rename_i i hp
   cases h
   have e := plOf_at (ι := ι) (posOf_some hp)
   cases hx with
   | osl _ _ _ g cap cc h1 h2 => exact .osl _ _ _ g cap cc (by rw [e]; exact h1) h2
  ·rename_i hp
   split at h
   ·rename_i cells ty hl
    cases hc : closedL cells with
    | none => rw [hc] at h; cases h
    | some us =>
     rw [hc] at h
     cases h
     obtain ⟨hvc, hmn⟩ := hvc
     have hb := hh _ _ hl
     cases hx with
     | osl _ _ _ g cap cc h1 h2 =>
      cases hb with
      | box _ _ g' cur g1 g2 g3 g4 g5 =>
       rw [h1] at g1
       simp only [Option.some.injEq, Plc.at.injEq] at g1
       obtain ⟨rfl, rfl⟩ := g1
       obtain ⟨h3, h4⟩ := closedL_ok hc g3 g5
       have hget : ∀ (i : Nat) e (j : Nat) u, (((us.drop off).take n).map fun u => [u])[i]? = some e → e[j]? = some u → j = 0 ∧ us[off + i]? = some u ∧ i < n := fun i e j u he hu => by
        rw [List.getElem?_map, List.getElem?_take, List.getElem?_drop] at he
        split at he
        ·cases hus : us[off + i]? with
         | none => rw [hus] at he; cases he
         | some u' =>
          rw [hus] at he
          cases he
          cases j with
          | zero => simp at hu; subst hu; exact ⟨rfl, rfl, by assumption⟩
          | succ j => simp at hu
        ·cases he
       have hlen : (((us.drop off).take n).map fun u => [u]).length = n := by
        replace hvc : off + n ≤ us.length := hvc
        rw [List.length_map, List.length_take, List.length_drop]; omega
       have hcell : ∀ (i : Nat), i < us.length → ∃ y, cur[i]? = some y ∧ w.cell? ⟨g, i, none⟩ = some y := fun i hi => by
        have hlt : i < cur.length := by omega
        refine ⟨cur.getD i undef, getD_get hlt, ?_⟩
        rw [cell_of_row w g _ _ ty (0, 0) g2]
        simpa using getD_get (d := undef) hlt
       refine .c _ _ (.sl _ _ _ _ 1 hlen.symm h2 hmn (fun i e he => ?_) (fun _ => ⟨rfl, hJι _ _ _ _ (posOf_none hp) hl h1⟩) (fun i e j u he hu => ?_) (fun i e j u x he hu hx => ?_))
       ·rw [List.getElem?_map] at he
        simp only [Option.map_eq_some_iff] at he
        obtain ⟨u, _, rfl⟩ := he
        rfl
       ·obtain ⟨rfl, h5, h6⟩ := hget i e j u he hu
        obtain ⟨y, _, hy⟩ := hcell (off + i) (List.getElem?_eq_some_iff.1 h5).1
        exact ⟨y, by simpa using hy⟩
       ·obtain ⟨rfl, h5, h6⟩ := hget i e j u he hu
        obtain ⟨y, hy1, hy2⟩ := hcell (off + i) (List.getElem?_eq_some_iff.1 h5).1
        simp only [Nat.mul_one, Nat.add_zero] at hx
        rw [hx] at hy2
        cases hy2
        exact (h4 _ u x h5 hy1).mono fun g hg => ⟨hJ g hg, rfl⟩
   ·cases h
 ·split at h
  ·rename_i i hp
   cases h
   have e := plOf_at (ι := ι) (posOf_some hp)
   cases hx with
   | mref _ g cap h1 => exact .mref _ g cap (by rw [e]; exact h1)
  ·cases h
 ·split at h
  ·rename_i i hp
   cases h
   have e := plOf_at (ι := ι) (posOf_some hp)
   cases hx with
   | ptr _ _ g cap h1 => exact .ptr _ _ g cap (by rw [e]; exact h1)
  ·cases h
   cases hx with
   | ptr _ _ g cap h1 => exact .c _ _ (.any _ rfl)
 ·split at h
  ·rename_i i hp
   cases h
   have e := plOf_at (ι := ι) (posOf_some hp)
   cases hx with
   | tr _ _ h0 h1 => exact .tr _ _ h0 (by rw [e]; exact h1)
  ·rename_i hp
   exact frz0_ok' hJ hJι hJh hh (fun b hb => by cases hb; exact posOf_none hp) h hvc hx
 ·split at h
  ·rename_i i hp
   cases h
   have e := plOf_at (ι := ι) (posOf_some hp)
   cases hx with
   | aptr _ _ _ _ g cap h1 => exact .aptr _ _ _ _ g cap (by rw [e]; exact h1)
  ·cases h
 ·cases h
  exact .top _
 ·cases h
  cases hx with
  | cel _ a hs hI hc hr => exact .cel _ a hs (hJ _ hI) hc fun j u x h1 h2 => (hr j u x h1 h2).mono fun g hg => ⟨hJ g hg, rfl⟩
 ·split at h
  ·rename_i i hp
   cases h
   have e := plOf_at (ι := ι) (posOf_some hp)
   cases hx with
   | pl _ _ _ h1 => exact .pl _ _ _ (by rw [e]; exact h1)
  ·cases h
   exact .top _
 ·rename_i hn1 hn2 hnM hn3 hn5 hn4 _ _ _
  have hno : ∀ b, Men b av → b ∉ π := by
   intro b hb
   have h' := h
   unfold frz0 at h'
   split at h' <;> first | (cases hb; done) | skip
   ·exact absurd rfl (hn1 _ _ _ _)
   ·exact absurd rfl (hn5 _)
   ·exact absurd rfl (hn3 _ _)
   ·cases hb with | clo _ _ i av hi _ => simp at hi
   ·cases h'
  exact frz0_ok' hJ hJι hJh hh hno h hvc hx
theorem hz1_ok {av : AV} {x : Value} {vc : Prop} {r : AV} (h : hz1 π heap av = some (vc, r)) (hvc : vc) (hx : Rep (Still A ι w) ι w av x) : Rep J (plOf ι π) w r x := by
 unfold hz1 at h
 split at h
 ·rename_i cs
  cases hf : frzL (hz0 π heap) cs with
  | none => rw [hf] at h; cases h
  | some p =>
   rw [hf] at h
   cases h
   obtain ⟨h1, h2⟩ := frzL_ok' (fun av x vc r h hvc hx => hz0_ok hJ hJι hJh hh h hvc hx) (l' := p.2) hf hvc
   cases hx with
   | agg _ xs hl h3 hr => exact .agg _ xs (by omega) h3 fun i av x ha hx => h2 i av x ha fun av' hav' => hr i av' x hav' hx
 ·rename_i f cs
  cases hf : frzL (hz0 π heap) cs with
  | none => rw [hf] at h; cases h
  | some p =>
   rw [hf] at h
   cases h
   obtain ⟨h1, h2⟩ := frzL_ok' (fun av x vc r h hvc hx => hz0_ok hJ hJι hJh hh h hvc hx) (l' := p.2) hf hvc
   cases hx with
   | clo _ _ xs hl hr => exact .clo _ _ xs (by omega) fun i av x ha hx => h2 i av x ha fun av' hav' => hr i av' x hav' hx
 ·cases h
  cases hx with
  | tup _ xs hl hr => exact .tup [] xs hl fun i av x ha _ => by simp at ha
 ·exact hz0_ok hJ hJι hJh hh h hvc hx
theorem hz_ok {av : AV} {x : Value} {vc : Prop} {r : AV} (h : hz π heap av = some (vc, r)) (hvc : vc) (hx : Rep (Still A ι w) ι w av x) : Rep J (plOf ι π) w r x := by
 unfold hz at h
 split at h
 ·rename_i cs
  cases hf : frzL (hz1 π heap) cs with
  | none => rw [hf] at h; cases h
  | some p =>
   rw [hf] at h
   cases h
   obtain ⟨h1, h2⟩ := frzL_ok' (fun av x vc r h hvc hx => hz1_ok hJ hJι hJh hh h hvc hx) (l' := p.2) hf hvc
   cases hx with
   | tup _ xs hl hr => exact .tup _ xs (by omega) fun i av x ha hx => h2 i av x ha fun av' hav' => hr i av' x hav' hx
 ·exact hz1_ok hJ hJι hJh hh h hvc hx
theorem hzB_ok (hπ : π.Nodup) {b i : Nat} (hi : π[i]? = some b) {blk : Blk} {vc : Prop} {r : Blk} (h : hzB π heap blk = some (vc, r)) (hvc : vc) (hx : BlkRep (Still A ι w) ι w b blk) : BlkRep J (plOf ι π) w i r := by
 have e := plOf_at (ι := ι) hi
 cases hx with
 | box cells ty g cur h1 h2 h3 h4 h5 =>
  simp only [hzB] at h
  cases hf : frzL (hz1 π heap) cells with
  | none => rw [hf] at h; cases h
  | some p =>
   rw [hf] at h
   cases h
   obtain ⟨g1, g2⟩ := frzL_ok' (fun av x vc r h hvc hx => hz1_ok hJ hJι hJh hh h hvc hx) (l' := p.2) hf hvc
   exact .box _ ty g cur (by rw [e, g1]; exact h1) h2 (by omega) h4 fun i av x ha hx => g2 i av x ha fun av' hav' => h5 i av' x hav' hx
 | accNil k ty h1 => cases h; exact .accNil k ty (by rw [e]; exact h1)
 | acc k ty es g cap cur h1 h2 h3 h4 h5 h6 h8 => cases h; exact .acc k ty es g cap cur (by rw [e]; exact h1) h2 h3 h4 h5 h6 fun i e j u x he hu hx => (h8 i e j u x he hu hx).mono fun g hg => ⟨hJ g hg, rfl⟩
 | raw g cap h1 => cases h; exact .raw g cap (by rw [e]; exact h1)
 | fr arr cells h1 h2 h3 =>
  simp only [hzB] at h
  cases hf : frzL (hz1 π heap) cells with
  | none => rw [hf] at h; cases h
  | some p =>
   rw [hf] at h
   cases h
   obtain ⟨g1, g2⟩ := frzL_ok' (fun av x vc r h hvc hx => hz1_ok hJ hJι hJh hh h hvc hx) (l' := p.2) hf hvc
   exact .fr arr _ (by rw [e]; exact h1) (by rw [g1]; exact h2) fun i av x ha hx => g2 i av x ha fun av' hav' => h3 i av' x hav' hx
 | lp l rec h1 h2 => cases h; exact .lp l rec (by rw [e]; exact h1) h2
 | mp es arr clock g h1 h2 h3 h4 => cases h; exact .mp es arr clock g (by rw [e]; exact h1) h2 h3 h4
 | tre T x h0 h1 h2 => cases h; exact .tre T x h0 (by rw [e]; exact h1) (h2.mono (fun g hg => ⟨hJ g hg, rfl⟩) fun g hg => ⟨plOf_hid hπ hi hg, rfl⟩)
 | arrNil k ty h1 => cases h; exact .arrNil k ty (by rw [e]; exact h1)
 | arr k ty es hole g cap cur Sf h1 h2 h3 h4 h5 h6 h7 h8 h9 h10 =>
  cases hole with
  | none =>
   cases h
   exact .arr k ty es none g cap cur Sf (by rw [e]; exact h1) h2 h3 h4 h5 h6 (fun p q hq => plOf_hid hπ hi (h7 p q hq)) h8 (fun i e j u x hn he hu hx => (h9 i e j u x hn he hu hx).mono (fun g hg => ⟨hJ g hg, rfl⟩) fun q hq => ⟨hq, rfl⟩) fun i row hr => by cases hr
  | some hole =>
   obtain ⟨i0, row0⟩ := hole
   simp only [hzB] at h
   cases hf : frzL (hz1 π heap) row0 with
   | none => rw [hf] at h; cases h
   | some p =>
    rw [hf] at h
    cases h
    obtain ⟨q1, q2, q3⟩ := h10 i0 row0 rfl
    obtain ⟨g1, g2⟩ := frzL_ok' (fun av x vc r h hvc hx => hz1_ok hJ hJι hJh hh h hvc hx) (l' := p.2) hf hvc
    refine .arr k ty es _ g cap cur Sf (by rw [e]; exact h1) h2 h3 h4 h5 h6 (fun p q hq => plOf_hid hπ hi (h7 p q hq)) h8 (fun i e j u x hn he hu hx => (h9 i e j u x (fun row hr => by cases hr; exact hn _ rfl) he hu hx).mono (fun g hg => ⟨hJ g hg, rfl⟩) fun q hq => ⟨hq, rfl⟩) ?_
    intro i row hr
    cases hr
    exact ⟨q1, ⟨by have := q2.1; omega, q2.2⟩, fun j av x ha hx => g2 j av x ha fun av' hav' => q3 j av' x hav' hx⟩
 | opn av x h0 h1 h2 =>
  simp only [hzB] at h
  cases hf : hz1 π heap av with
  | none => rw [hf] at h; cases h
  | some p =>
   rw [hf] at h
   cases h
   exact .opn _ x h0 (by rw [e]; exact h1) (hz1_ok hJ hJι hJh hh (r := p.2) hf hvc h2)
theorem hzBs_ok (hπ : π.Nodup) : ∀ {l : List Nat} {p : Nat} {vc : Prop} {bs : List Blk}, (∀ j b, l[j]? = some b → π[p + j]? = some b) → hzBs π heap l = some (vc, bs) → vc → bs.length = l.length ∧ ∀ (j : Nat) blk, bs[j]? = some blk → BlkRep J (plOf ι π) w (p + j) blk
 | [], p, vc, bs, _, h, _ => by cases h; exact ⟨rfl, fun j blk h => by simp at h⟩
 | b :: r, p, vc, bs, hp, h, hvc => by
  simp only [hzBs] at h
  split at h
  ·rename_i v x vs xs hx hxs
   cases h
   obtain ⟨g1, g2⟩ := hzBs_ok hπ (l := r) (p := p + 1) (fun j b' hj => by have := hp (j + 1) b' (by simpa using hj); rw [show p + 1 + j = p + (j + 1) by omega]; exact this) hxs hvc.2
   refine ⟨by simp [g1], fun j blk hj => ?_⟩
   cases j with
   | zero =>
    simp at hj
    subst hj
    cases hl : look heap b with
    | none => rw [hl] at hx; cases hx
    | some blk0 =>
     rw [hl] at hx
     exact hzB_ok hJ hJι hJh hh hπ (hp 0 b rfl) hx hvc.1 (hh b blk0 hl)
   | succ j => rw [show p + (j + 1) = p + 1 + j by omega]; exact g2 j blk (by simpa using hj)
  ·cases h
end
structure FrameR (M0 : Nat → Prop) (w w' : World) : Prop where
 os : w'.os = w.os
 tape : w'.tape = w.tape
 output : w'.output = w.output
 size : w.heap.size ≤ w'.heap.size
 block : ∀ g, g < w.heap.size → ¬ M0 g → w'.heap[g]? = w.heap[g]?
theorem FrameR.below {M0 : Nat → Prop} {w w' : World} (h : FrameR M0 w w') (hM : ∀ g, ¬ M0 g) : Below w.heap.size w w' := ⟨h.os, h.tape, h.output, h.size, fun g hg => h.block g hg (hM g)⟩
def RetMR (cx : Cx) (pins : List (Nat × Plc)) (blks : List Blk) (r : AV) : Ending → World → Prop := fun e w' => ∃ v ι', e = .returned v ∧ Rep (Still cx.A ι' w') ι' w' r v ∧
  (∀ (i : Nat) blk, blks[i]? = some blk → BlkRep (Still cx.A ι' w') ι' w' i blk) ∧
  (∀ b, blks.length ≤ b → ι' b = none) ∧ (∀ b g c, ι' b = some (.at g c) → cx.M0 g ∨ cx.w0.heap.size ≤ g) ∧ (∀ g b, ι'.hid g = some b → cx.M0 g ∨ cx.w0.heap.size ≤ g) ∧ Ok ι' w' ∧ FrameR cx.M0 cx.w0 w' ∧ (∀ q ∈ pins, ι' q.1 = some q.2)
def RetM (cx : Cx) (pins : List (Nat × Plc)) (fn : Func) (blks : List Blk) (r : AV) : Post := bodyPostM Fence.wide 0 cx.P fn (RetMR cx pins blks r)
def RetO (cx : Cx) (fn : Func) (blks : List Blk) (r : AV) : Post := RetM cx [] fn blks r
def PinOk (heap : List (Nat × Blk)) (π : List Nat) (q : Nat × Plc) : Prop := π[q.1]? = some q.1 ∧ ∃ m arr cells, look heap m = some (.fr arr cells) ∧ AV.pl q.1 q.2 ∈ cells
theorem retM_ok {cx : Cx} (htt : TtOk cx.P cx.tt) {pins : List (Nat × Plc)} {fn : Func} {s : AState} {ι : Pl} {a : Act} {w : World} (hs : SatI cx s ι a w) {π : List Nat} (hπ : π.Nodup) {vc : Prop} {blks : List Blk} {r : AV} (h : retO cx.tt s π fn.results.toList = some (vc, blks, r)) (hvc : vc)
  (hpin : ∀ q ∈ pins, PinOk s.heap π q) :
  ∃ v, (results fn a.tmps).run cx.P w = .ok v w ∧ RetMR cx pins blks r (.returned v) w := by
 have hframe : FrameR cx.M0 cx.w0 w := ⟨hs.base.os, hs.base.tape, hs.base.output, hs.base.size, fun g hg hm => hs.base.block g hg hm⟩
 have hown : ∀ b g c, ι b = some (.at g c) → cx.M0 g ∨ cx.w0.heap.size ≤ g := fun b g c hb => hs.base.own b g c hb
 have hown' : ∀ b g c, ι b = some (.at g c) → cx.A g := fun b g c hb => hs.base.mine hb
 have hpl : ∀ i g c, plOf ι π i = some (.at g c) → ∃ b, π[i]? = some b ∧ ι b = some (.at g c) := fun i g c hb => plOf_f hb
 have hJ : ∀ g, Still cx.A ι w g → Still cx.A (plOf ι π) w g := fun g hg => plOf_sub.still hg
 have hJι : ∀ b g c blk, b ∉ π → look s.heap b = some blk → ι b = some (.at g c) → Still cx.A (plOf ι π) w g := fun b g c _ hb _ h1 => plOf_still hs.ok (hown' b g c h1) hb h1
 have hJh : ∀ b g blk, b ∉ π → look s.heap b = some blk → ι.hid g = some b → Still cx.A (plOf ι π) w g := fun b g _ hb _ h1 => plOf_stillH hs.ok (hs.base.hmine h1) hb h1
 have hok : Ok (plOf ι π) w := plOf_ok hπ hs.ok
 have hpins : ∀ q ∈ pins, plOf ι π q.1 = some q.2 := fun q hq => by
  obtain ⟨h1, m, arr, cells, h2, h3⟩ := hpin q hq
  rw [plOf_at h1]
  have hb := hs.heap m _ h2
  cases hb with
  | fr _ _ g1 g2 g3 =>
   obtain ⟨j, hj⟩ := List.getElem?_of_mem h3
   have := g3 j _ _ hj (List.getElem?_eq_getElem (by rw [g2]; exact (List.getElem?_eq_some_iff.1 hj).1))
   cases this with
   | pl _ _ _ h => exact h
 have key : ∀ vc' avs, resL cx.tt s.tmps s.heap fn.results.toList = some (vc', avs) → vc' → ∃ vs : List Value, vs.length = avs.length ∧ (results fn a.tmps).run cx.P w = .ok (if h : vs.toArray.size = 1 then vs.toArray[0] else .tuple vs.toArray) w ∧
   (∀ (i : Nat) av v, avs[i]? = some av → vs[i]? = some v → Rep (Still cx.A ι w) ι w av v) := by
  intro vc' avs hl hv
  obtain ⟨vs, h1, h2, h3, h4⟩ := resL_ok htt hs hl hv
  refine ⟨vs, h1, ?_, h4⟩
  have := run_mapM_list (P := cx.P) (w := w) (resV a.tmps) fn.results.toList vs (by omega) h3
  rw [results_eq, Sem.run_bind, Array.mapM_eq_mapM_toList, Sem.run_map, this]
  rfl
 have fin : ∀ {vb : Prop} {bs : List Blk}, hzBs π s.heap π = some (vb, bs) → vb → (∀ (i : Nat) blk, bs[i]? = some blk → BlkRep (Still cx.A (plOf ι π) w) (plOf ι π) w i blk) ∧ (∀ b, bs.length ≤ b → plOf ι π b = none) ∧ (∀ b g c, plOf ι π b = some (.at g c) → cx.M0 g ∨ cx.w0.heap.size ≤ g) ∧ (∀ g b, (plOf ι π).hid g = some b → cx.M0 g ∨ cx.w0.heap.size ≤ g) ∧ Ok (plOf ι π) w ∧ FrameR cx.M0 cx.w0 w ∧ (∀ q ∈ pins, plOf ι π q.1 = some q.2) := by
  intro vb bs hb hv
  obtain ⟨g1, g2⟩ := hzBs_ok hJ hJι hJh hs.heap hπ (p := 0) (fun j b hj => by simpa using hj) hb hv
  refine ⟨fun i blk hi => by simpa using g2 i blk hi, fun b hb => by simp [plOf, List.getElem?_eq_none (show π.length ≤ b by omega)], fun b g c hb => ?_, fun g b hb => ?_, hok, hframe, hpins⟩
  ·obtain ⟨b', _, h2⟩ := hpl b g c hb
   exact hown b' g c h2
  ·obtain ⟨b', _, h2⟩ := plOf_h hb
   exact hs.base.hown g b' h2
 unfold retO at h
 split at h
 ·rename_i vb bs vc' x hbs hl
  cases hf : hz π s.heap x with
  | none => rw [hf] at h; cases h
  | some p =>
   rw [hf] at h
   cases h
   obtain ⟨vs, h1, h2, h3⟩ := key _ _ hl hvc.2.1
   match vs, h1 with
   | [v], _ =>
    refine ⟨v, ?_, v, plOf ι π, rfl, hz_ok hJ hJι hJh hs.heap (r := p.2) hf hvc.2.2 (h3 0 x v rfl rfl), fin hbs hvc.1⟩
    simpa using h2
 ·rename_i vb bs vc' xs hne hbs hl
  cases hf : hz π s.heap (.tup xs) with
  | none => rw [hf] at h; cases h
  | some p =>
   rw [hf] at h
   cases h
   obtain ⟨vs, h1, h2, h3⟩ := key _ _ hl hvc.2.1
   have hsz : ¬ vs.toArray.size = 1 := fun h1' => by
    have h1'' : xs.length = 1 := by rw [← h1]; simpa using h1'
    match xs, h1'' with
    | [x], _ => exact hne x rfl
   rw [dif_neg hsz] at h2
   exact ⟨_, h2, _, plOf ι π, rfl, hz_ok hJ hJι hJh hs.heap (r := p.2) hf hvc.2.2 (.tup xs vs h1 h3), fin hbs hvc.1⟩
 ·cases h
theorem go_returnM {cx : Cx} (π : List Nat) (hπ : π.Nodup) (htt : TtOk cx.P cx.tt) {pins : List (Nat × Plc)} {fn : Func} {s : AState} {k : List K} {vc : Prop} {blks blks' : List Blk} {r r' : AV} (h : retO cx.tt s π fn.results.toList = some (vc, blks', r')) (hvc : vc) (hr : r' = r) (hb : blks' = blks) (hpin : ∀ q ∈ pins, PinOk s.heap π q) :
  Go' cx (RetM cx pins fn blks r) (.code .ret :: k) s := go_ret fun a w hs => kpost_ret (leave_of hs fun ι a' w' hs' ht _ => by subst hr hb; rw [← ht]; exact retM_ok htt hs' hπ h hvc hpin) k
theorem go_returnO {cx : Cx} (π : List Nat) (hπ : π.Nodup) (htt : TtOk cx.P cx.tt) {fn : Func} {s : AState} {k : List K} {vc : Prop} {blks blks' : List Blk} {r r' : AV} (h : retO cx.tt s π fn.results.toList = some (vc, blks', r')) (hvc : vc) (hr : r' = r) (hb : blks' = blks) :
  Go' cx (RetO cx fn blks r) (.code .ret :: k) s := go_returnM π hπ htt h hvc hr hb fun q hq => by cases hq
theorem FnO.intro {P : Program} {tt : TT} {f : FuncId} {fn : Func} {c : Code} {args : List AV} {blks : List Blk} {r : AV} (hf : P.funcs[f]? = some fn) (hb : fn.body = some c) (hnm : (fn.name == "runtime.NumGoroutine") = false) (hn : args.length ≤ fn.ntmps)
  (h : ∀ w0 A hA, Go' (cx0 P tt fn.ntmps w0 A hA) (RetO (cx0 P tt fn.ntmps w0 A hA) fn blks r) [.code c] ⟨argT 0 args, [], 0⟩) : FnO P f args blks r := by
 refine ⟨⟨fn, hf, hnm, by simp [hb]⟩, fun I w vs hI hl hr => ?_⟩
 let A : Nat → Prop := fun g => I g ∨ w.heap.size ≤ g
 have hsat : Sat (cx0 P tt fn.ntmps w A (fun g hg => .inr hg)) ⟨argT 0 args, [], 0⟩ { tmps := vs.toArray ++ Array.replicate (fn.ntmps - vs.toArray.size) undef, defers := [] } w := by
  refine ⟨noPl, ok_noPl w, fun b _ => rfl, .nil .., ?_, fun t av hl' => ?_, fun b blk hl' => (by cases hl'), ⟨rfl, rfl, rfl, Nat.le_refl _, fun g _ _ => rfl, fun b g c h => (noPl_f h).elim, fun g b h => (noPl_h h).elim⟩⟩
  ·simp [cx0]; omega
  ·obtain ⟨_, hget⟩ := look_argT args 0 t av hl'
   simp only [Nat.sub_zero] at hget
   have hlt : t < vs.length := by rw [hl]; exact (List.getElem?_eq_some_iff.1 hget).1
   have hv : vs[t]? = some (vs.getD t undef) := getD_get hlt
   have e : (vs.toArray ++ Array.replicate (fn.ntmps - vs.toArray.size) undef).getD t undef = vs.getD t undef := by
    simp only [Array.getD_eq_getD_getElem?]
    rw [Array.getElem?_append_left (by simpa using hlt)]
    simp [List.getD]
   show Rep _ _ _ _ ((vs.toArray ++ Array.replicate (fn.ntmps - vs.toArray.size) undef).getD t undef)
   rw [e]
   exact (hr t av _ hget hv).mono (fun g hg => ⟨⟨⟨⟨.inl hg, rfl⟩, hI g hg⟩, fun b c hb => (noPl_f hb).elim⟩, rfl⟩) fun b _ => rfl
 refine (callsIn_wide.1 (callsIn_of_wp_marks (F := Fence.wide) (n := 0) hf hb trivial (h w A (fun g hg => .inr hg) _ w hsat))).mono fun e w' he => ?_
 obtain ⟨v, ι', h1, h2, h3, h4, h5, h5', h6, h7, _⟩ := he
 exact ⟨v, ι', h1, h2, h3, h4, fun b g c hb => (h5 b g c hb).resolve_left id, fun g b hb => (h5' g b hb).resolve_left id, h6, h7.below fun g => id⟩
end Go.Ab
