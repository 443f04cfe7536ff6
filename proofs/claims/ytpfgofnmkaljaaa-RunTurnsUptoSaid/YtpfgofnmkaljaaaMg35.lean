/-
  Rows of trees in operations: an opened row is read and written; a slice of slices is made. Laws for any program.
-/
import Derived.Test.YtpfgofnmkaljaaaMg27
import Derived.Test.YtpfgofnmkaljaaaMg34
set_option linter.unusedVariables false
set_option linter.unusedSimpArgs false
namespace Go.Ab
open Go Go.RowKit
def arrLd : ExtF := fun eq tt tmps heap nxt o => match o.op with
 | .load t x => match tagg tt t, evT tmps x with
  | some (b, n), .aptr p k i off => match look heap p with
   | some (.arr k' es ty (some (i', row))) => bif decide (k = k') && (bif b then decide (off + n ≤ row.length) else decide (off < row.length)) then
     some ([i = i'], ⟨some (bif b then .agg ((row.drop off).take n) else row.getD off .top), [], [], nxt⟩) else none
   | _ => none
  | _, _ => none
 | _ => none
section
variable {A : Nat → Prop} {ι : Pl} {w : World}
theorem arr_row {b k : Nat} {es : List (List TV)} {ty : TypeId} {i : Nat} {row : List AV} (h : BlkRep (Still A ι w) ι w b (.arr k es ty (some (i, row)))) :
  ∃ (g cap : Nat) (cur : List Value) (Sf : Nat → Nat → Prop), ι b = some (.at g cap) ∧ w.heap[g]? = some (.cells cur.toArray ty (0, 0)) ∧ cur.length = cap * k ∧ es.length ≤ cap ∧ cap ≤ maxLen ∧ (∀ (i : Nat) (e : List TV), es[i]? = some e → e.length = k) ∧
   (∀ p h, Sf p h → ι.hid h = some b) ∧ (∀ p q h, Sf p h → Sf q h → p = q) ∧ (∀ (i' : Nat) (e : List TV) (j : Nat) (u : TV) (x : Value), i' ≠ i → es[i']? = some e → e[j]? = some u → cur[i' * k + j]? = some x → TRep (Still A ι w) w (Sf (i' * k + j)) u x) ∧
   i < es.length ∧ row.length = k ∧ i * k + k ≤ cur.length ∧ (∀ j, j < k → (cur.getD (i * k + j) undef).oneCell' = true) ∧ ∀ (j : Nat) (av : AV), row[j]? = some av → Rep (Still A ι w) ι w av (cur.getD (i * k + j) undef) := by
 cases h with
 | arr _ _ _ _ g cap cur Sf h1 h2 h3 h4 h5 h6 h7 h8 h9 h10 =>
  obtain ⟨q1, ⟨q2, q2'⟩, q3⟩ := h10 i row rfl
  have hle : i * k + k ≤ cur.length := by
   have : (i + 1) * k ≤ cap * k := Nat.mul_le_mul_right k (by omega)
   rw [Nat.add_mul, Nat.one_mul] at this
   omega
  have hcur : ∀ j, j < k → cur[i * k + j]? = some (cur.getD (i * k + j) undef) := fun j hj => getD_get (by omega)
  refine ⟨g, cap, cur, Sf, h1, h2, h3, h4, h5, h6, h7, h8, fun i' e j u x hne he hu hx => h9 i' e j u x (fun row' hr => by cases hr; exact hne rfl) he hu hx, q1, q2, hle, fun j hj => q2' j _ hj (hcur j hj), fun j av ha => q3 j av _ ha (hcur j (by rw [← q2]; exact (List.getElem?_eq_some_iff.1 ha).1))⟩
end
theorem arrLd_ok {P : Program} : ExtOk P arrLd := by
 intro eq tt heq htt tmps heap nxt o cs e h hc
 unfold arrLd at h
 split at h
 ·rename_i t x hop
  refine ⟨?_, by rw [hop]; intro c hc; cases hc⟩
  split at h
  ·rename_i b n p k i off ht hx
   split at h
   ·rename_i k' es ty i' row hl
    cases hd : (decide (k = k') && (bif b then decide (off + n ≤ row.length) else decide (off < row.length))) with
    | false => rw [hd] at h; cases h
    | true =>
     rw [hd] at h
     cases h
     obtain ⟨rfl, _⟩ := hc
     simp only [Bool.and_eq_true, decide_eq_true_eq] at hd
     obtain ⟨rfl, hb⟩ := hd
     refine Looks.loc (fun A ι w ρ hok hr hh => ?_)
     obtain ⟨g, cap, cur, Sf, h1, h2, h3, h4, h5, h6, h7, h8, h9, q1, q2, hle, hone, q3⟩ := arr_row (hh _ _ hl)
     have hxr := hr x (by simp [hop, Op.operands])
     rw [hx] at hxr
     generalize hρ : ρ x = v at hxr
     cases hxr with
     | aptr _ _ _ _ g' cap' h1' =>
      rw [h1] at h1'
      simp only [Option.some.injEq, Plc.at.injEq] at h1'
      obtain ⟨rfl, rfl⟩ := h1'
      have hcell : ∀ j, off + j < k → w.cell? ⟨g, i * k + off + j, none⟩ = some (cur.getD (i * k + off + j) undef) := fun j hj => by
       rw [cell_of_row w g _ _ ty (0, 0) h2]
       simpa using getD_get (d := undef) (l := cur) (i := i * k + off + j) (by omega)
      have hrep : ∀ j av, row[off + j]? = some av → Rep (Still A ι w) ι w av (cur.getD (i * k + off + j) undef) ∧ (cur.getD (i * k + off + j) undef).oneCell' = true := fun j av ha => by
       have hj : off + j < k := by rw [← q2]; exact (List.getElem?_eq_some_iff.1 ha).1
       have := q3 (off + j) av ha
       rw [← Nat.add_assoc] at this
       have h' := hone (off + j) hj
       rw [← Nat.add_assoc] at h'
       exact ⟨this, h'⟩
      have main : ∃ v, (Instr.loadAt t (.pointer (some ⟨g, i * k + off, none⟩))).run P w = .ok v w ∧ Rep (Still A ι w) ι w (bif b then .agg ((row.drop off).take n) else row.getD off .top) v := by
       cases b with
       | true =>
        replace hb : off + n ≤ row.length := of_decide_eq_true hb
        refine ⟨_, ?_, rep_agg_map (n := n) (fun j => cur.getD (i * k + off + j) undef) (by simp; omega) fun j av ha => ?_⟩
        ·simp only [Instr.loadAt, Instr.sureAddr, Sem.run_bind, Sem.run_pure, Result.andThen_ok]
         exact run_loadVar htt ht rfl _ (fun j hj => hcell j (by simp at hj; omega))
        ·rw [List.getElem?_take, List.getElem?_drop] at ha
         split at ha
         ·exact hrep j av ha
         ·cases ha
       | false =>
        replace hb : off < row.length := of_decide_eq_true hb
        refine ⟨cur.getD (i * k + off + 0) undef, ?_, ?_⟩
        ·simp only [Instr.loadAt, Instr.sureAddr, Sem.run_bind, Sem.run_pure, Result.andThen_ok]
         exact run_loadVar htt ht rfl (fun j => cur.getD (i * k + off + j) undef) (fun j hj => hcell j (by simp at hj; omega))
        ·exact (hrep 0 _ (getD_get hb)).1
      obtain ⟨v, hv, hrep⟩ := main
      exact ⟨v, by simp [execOp, hop, hρ, hv], hrep⟩
   ·cases h
  ·cases h
 ·cases h
abbrev Hint.ldA {P : Program} : Hint P := .ext arrLd arrLd_ok
def arrSt : ExtF := fun eq tt tmps heap nxt o => match o.op with
 | .store t a x => match tsize tt t, cellsOf (evT tmps x), evT tmps a with
  | some n, some us, .aptr p k i off => match look heap p with
   | some (.arr k' es ty (some (i', row))) => bif decide (k = k') && (decide (us.length = n) && decide (off + us.length ≤ row.length)) then
     some ([i = i'], ⟨none, [(p, .arr k' es ty (some (i', setCells row off us)))], [], nxt⟩) else none
   | _ => none
  | _, _, _ => none
 | _ => none
theorem arrSt_ok {P : Program} : ExtOk P arrSt := by
 intro eq tt heq htt tmps heap nxt o cs e h hc
 unfold arrSt at h
 split at h
 ·rename_i t a x hop
  refine ⟨?_, by rw [hop]; intro c hc; cases hc⟩
  split at h
  ·rename_i n us p k i off hn hxs ha
   split at h
   ·rename_i k' es ty i' row hl
    cases hd : (decide (k = k') && (decide (us.length = n) && decide (off + us.length ≤ row.length))) with
    | false => rw [hd] at h; cases h
    | true =>
     rw [hd] at h
     cases h
     obtain ⟨rfl, _⟩ := hc
     simp only [Bool.and_eq_true, decide_eq_true_eq] at hd
     obtain ⟨rfl, hlen, hb⟩ := hd
     intro A ι w ρ hA hok hf hr hh
     obtain ⟨g, cap, cur, Sf, h1, h2, h3, h4, h5, h6, h7, h8, h9, q1, q2, hle, hone, q3⟩ := arr_row (hh _ _ hl)
     have hxr := hr a (by simp [hop, Op.operands])
     rw [ha] at hxr
     obtain ⟨vs, hv, hvl, hv1, hr'⟩ := cellsOf_ok hxs (hr x (by simp [hop, Op.operands]))
     generalize hρ : ρ a = va at hxr
     cases hxr with
     | aptr _ _ _ _ g' cap' h1' =>
      rw [h1] at h1'
      simp only [Option.some.injEq, Plc.at.injEq] at h1'
      obtain ⟨rfl, rfl⟩ := h1'
      have hrun : (execOp ρ o).run P w = .ok .skip (w.setRow g (cur.take (i * k + off) ++ vs ++ cur.drop (i * k + off + vs.length)).toArray) := by
       have hst := run_storeCells_at P g (i * k + off) ty vs 0 cur.toArray w h2 (by simp; omega) hv1
       simp only [Nat.add_zero, List.toList_toArray] at hst
       have hsz : (ρ x).cells.size = n := by rw [hv]; simp; omega
       simp only [execOp, hop, Instr.storeAt, Instr.sureAddr, hρ, Sem.run_bind, Sem.run_pure, Result.andThen_ok, storeVar, htt.size hn w, hsz]
       rw [if_neg (by simp)]
       rw [hv, hst]
       rfl
      have hst : StepR ι w ι (w.setRow g (cur.take (i * k + off) ++ vs ++ cur.drop (i * k + off + vs.length)).toArray) (fun b' => ∃ blk, (b', blk) ∈ [(p, Blk.arr k es ty (some (i, setCells row off us)))]) ((⟨none, [(p, .arr k es ty (some (i, setCells row off us)))], [], nxt⟩ : Eff).kills nxt) :=
       step_row hok h1 _ _ _ ⟨_, List.mem_singleton.2 rfl⟩
      refine ⟨.skip, ι, _, hrun, trivial, hst, ?_, hf, fun k hk => by cases hk⟩
      intro q hq
      simp only [List.mem_singleton] at hq
      subst hq
      have hother : ∀ h, ι.hid h = some p → (w.setRow g (cur.take (i * k + off) ++ vs ++ cur.drop (i * k + off + vs.length)).toArray).heap[h]? = w.heap[h]? := fun h hh' => setRow_other w g h _ fun e => hok.hdis h p hh' p cap (by rw [e]; exact h1)
      refine .arr k ty es _ g cap _ Sf h1 (setRow_heap w g _ _ ty (0, 0) h2) (by simp; omega) h4 h5 h6 h7 h8 (fun i' e j u y hn he hu hy => ?_) ?_
      ·have hne : i' ≠ i := fun e0 => hn _ (by rw [e0])
       have hj : j < k := by rw [← h6 i' e he]; exact (List.getElem?_eq_some_iff.1 hu).1
       rw [cur_set_get _ _ _ (by omega), if_neg] at hy
       ·exact (h9 i' e j u y hne he hu hy).mono hst.still fun q hq => ⟨hq, hother q (h7 _ q hq)⟩
       ·rintro ⟨p1, p2⟩
        rcases Nat.lt_or_gt_of_ne hne with hlt | hgt
        ·have h9' : (i' + 1) * k ≤ i * k := Nat.mul_le_mul_right k (by omega)
         rw [Nat.add_mul, Nat.one_mul] at h9'
         omega
        ·have h9' : (i + 1) * k ≤ i' * k := Nat.mul_le_mul_right k (by omega)
         rw [Nat.add_mul, Nat.one_mul] at h9'
         omega
      ·intro i' row' hr0
       cases hr0
       have hslen : (setCells row off us).length = k := by simp [setCells]; omega
       refine ⟨q1, ⟨hslen, fun j y hj hy => ?_⟩, fun j av y ha' hy => ?_⟩
       ·rw [cur_set_get _ _ _ (by omega)] at hy
        split at hy
        ·exact hv1 y (List.mem_of_getElem? hy)
        ·have := hone j hj
         rw [getD_get (d := undef) (by omega)] at hy
         cases hy
         exact this
       ·have hj : j < k := by rw [← hslen]; exact (List.getElem?_eq_some_iff.1 ha').1
        rw [setCells_get _ _ _ hb] at ha'
        rw [cur_set_get _ _ _ (by omega)] at hy
        have : Rep (Still A ι w) ι w av y := by
         by_cases hin : off ≤ j ∧ j < off + us.length
         ·rw [if_pos hin] at ha'
          rw [if_pos (by omega)] at hy
          exact hr' _ av y ha' (by rw [← hy]; congr 1; omega)
         ·rw [if_neg hin] at ha'
          rw [if_neg (by omega), getD_get (d := undef) (by omega)] at hy
          cases hy
          exact q3 j av ha'
        exact this.mono hst.still fun _ _ => rfl
   ·cases h
  ·cases h
 ·cases h
abbrev Hint.stA {P : Program} : Hint P := .ext arrSt arrSt_ok
def arrMk (k' ty' : Nat) (es' : List (List TV)) (n' : Nat) : ExtF := fun eq tt tmps heap nxt o => match o.op with
 | .makeSlice t l c => match tdesc tt t, evT tmps l, evT tmps c with
  | some (.slice e), .c (.val (.int _ n)), .c (.val (.int _ m)) => match tzero tt e, tbytes tt e, tsize tt e with
   | some [.val (.slice none 0 0)], some by_, some 1 => some ([n = m, 0 ≤ n ∧ n ≤ 9223372036854775807 ∧ (by_ : Int) * n ≤ 281474976710656, List.replicate n.toNat [TV.own k' [] ty'] = es', n.toNat = n'], ⟨some (.own nxt 1 0 n'), [(nxt, .arr 1 es' e none)], [], nxt + 1⟩)
   | some [.sl []], some by_, some 1 => some ([n = m, 0 ≤ n ∧ n ≤ 9223372036854775807 ∧ (by_ : Int) * n ≤ 281474976710656, List.replicate n.toNat [TV.own k' [] ty'] = es', n.toNat = n'], ⟨some (.own nxt 1 0 n'), [(nxt, .arr 1 es' e none)], [], nxt + 1⟩)
   | _, _, _ => none
  | _, _, _ => none
 | _ => none
theorem arrMk_core {P : Program} {tt : TT} (htt : TtOk P tt) {tmps : List (Nat × AV)} {hp : Nat → Option Blk} {nxt : Nat} {o : Oper} {t : TypeId} {l c : Operand} (hp' : o.op = .makeSlice t l c) {e : TypeId} (hd : tdesc tt t = some (.slice e)) {kl kc : IntKind} {n m : Int}
  (hl : evT tmps l = .c (.val (.int kl n))) (hc : evT tmps c = .c (.val (.int kc m))) {z : CV} {by_ : Nat} (hz : tzero tt e = some [z]) (hzz0 : cvVal z = .slice none 0 0) (hb : tbytes tt e = some by_) (hk : tsize tt e = some 1) (k' ty' : Nat)
  (hv : n = m ∧ 0 ≤ n ∧ n ≤ 9223372036854775807 ∧ (by_ : Int) * n ≤ 281474976710656) : Loc P o (evT tmps) hp nxt ⟨some (.own nxt 1 0 n.toNat), [(nxt, .arr 1 (List.replicate n.toNat [TV.own k' [] ty']) e none)], [], nxt + 1⟩ := by
 intro A ι w ρ hA hok hf hr hh
 obtain ⟨rfl, h0, hmax, hbytes⟩ := hv
 obtain ⟨inf, zz, hinf, hsz, hby, hzz, hzc⟩ := tinfo htt hk hb
 have hu : P.underlying t = some (.slice e) := by
  unfold tdesc at hd
  cases htt' : tt t with
  | none => rw [htt'] at hd; cases hd
  | some i => rw [htt'] at hd; have := (htt t i htt').1; simp at hd; rw [this, hd]
 have r1 := hr l (by simp [hp', Op.operands])
 have r2 := hr c (by simp [hp', Op.operands])
 rw [hl] at r1
 rw [hc] at r2
 have hrun := run_make (P := P) w t e inf zz hu hinf hzz kl kc n n h0 (Int.le_refl _) (by rw [hby]; exact hbytes) hmax
 obtain ⟨v0, hv0, hvc, hzs, hone⟩ := tzero_ok htt hz w
 have hzv : zz.cells = ([z].map cvVal).toArray := by
  have : (zeroValue e).run P w = .ok zz w := by simp [zeroValue, typeInfo, hinf, hzz]
  rw [this] at hv0
  cases hv0
  exact hvc
 have hst := step_new hok nxt n.toNat (.cells (madeCells zz.cells (n.toNat * inf.size)) e) (fun b => ∃ blk, (b, blk) ∈ [(nxt, Blk.arr 1 (List.replicate n.toNat [TV.own k' [] ty']) e none)]) ((⟨some (.own nxt 1 0 n.toNat), [(nxt, .arr 1 (List.replicate n.toNat [TV.own k' [] ty']) e none)], [], nxt + 1⟩ : Eff).kills nxt) (.inr (Nat.le_refl _)) (w' := w.alloc (.cells (madeCells zz.cells (n.toNat * inf.size)) e)) rfl rfl rfl rfl
 refine ⟨.value (.slice (some ⟨w.heap.size, 0, none⟩) n.toNat n.toNat), _, _, ?_, ?_, hst, ?_, ?_, fun k hk => by cases hk⟩
 ·simp only [execOp, hp', r1.valOf rfl, r2.valOf rfl, Sem.run_bind, hrun, Result.andThen_ok, Sem.run_pure]
 ·exact .own nxt 1 0 n.toNat w.heap.size n.toNat _ n.toNat (setPl_same _ _ _) (fun _ => ⟨rfl, rfl⟩) (fun _ => by simp) (Nat.le_refl _) (by omega)
 ·intro p hpm
  simp only [List.mem_singleton] at hpm
  subst hpm
  have hcells : madeCells zz.cells (n.toNat * inf.size) = ((madeCells zz.cells (n.toNat * inf.size)).toList).toArray := by simp
  have e1 : madeCells zz.cells (n.toNat * inf.size) = (Array.range (n.toNat * [z].length)).map fun q => ([z].map cvVal).toArray[q % [z].length]! := by
   unfold madeCells
   rw [hzv, hsz]
   simp
  have hx' : ∀ (i : Nat) (x : Value), (madeCells zz.cells (n.toNat * inf.size)).toList[i]? = some x → x = cvVal z := fun i x hx => by
   have hi : i < n.toNat := by
    have := (List.getElem?_eq_some_iff.1 hx).1
    simpa [size_madeCells, hsz] using this
   have hfl := replicate_flat ([z].map cvVal) n.toNat i 0 hi (by simp)
   rw [e1, Array.getElem?_toList] at hx
   simp only [List.length_map] at hfl
   have e3 : i * [z].length + 0 = i := by simp
   rw [e3, hx] at hfl
   simpa using hfl
  refine .arr 1 e _ none w.heap.size n.toNat (madeCells zz.cells (n.toNat * inf.size)).toList (fun _ _ => False) (setPl_same _ _ _) (by rw [← hcells]; exact heap_alloc_new w _) (by simp [size_madeCells, hsz]) (by simp) (by simp only [maxLen]; omega) (fun i e' he => ?_) (fun p h hf => hf.elim) (fun p q h hf => hf.elim) (fun i e' j u x _ he hu hx => ?_) fun i row hr => by cases hr
  ·rw [List.eq_of_mem_replicate (List.mem_of_getElem? he)]; rfl
  ·have e2 := List.eq_of_mem_replicate (List.mem_of_getElem? he)
   subst e2
   cases j with
   | zero =>
    simp at hu
    subst hu
    rw [hx' _ x hx, hzz0]
    exact .ownNil _ k' ty'
   | succ j => simp at hu
 ·intro b hb'
  rw [setPl_other _ _ (by simp at hb'; omega)]
  exact hf b (by simp at hb'; omega)
theorem arrMk_ok {P : Program} (k' ty' : Nat) (es' : List (List TV)) (n' : Nat) : ExtOk P (arrMk k' ty' es' n') := by
 intro eq tt heq htt tmps heap nxt o cs e h hc
 unfold arrMk at h
 split at h
 ·rename_i t l c hop
  refine ⟨?_, by rw [hop]; intro c hc; cases hc⟩
  split at h
  ·rename_i e' _ n _ m h1 h2 h3
   split at h
   ·rename_i by_ h4 h5 h6
    cases h
    obtain ⟨g1, ⟨g2, g3, g4⟩, rfl, rfl, _⟩ := hc
    exact arrMk_core htt hop h1 h2 h3 h4 rfl h5 h6 k' ty' ⟨g1, g2, g3, g4⟩
   ·rename_i by_ h4 h5 h6
    cases h
    obtain ⟨g1, ⟨g2, g3, g4⟩, rfl, rfl, _⟩ := hc
    exact arrMk_core htt hop h1 h2 h3 h4 rfl h5 h6 k' ty' ⟨g1, g2, g3, g4⟩
   ·cases h
  ·cases h
 ·cases h
abbrev Hint.mkA {P : Program} (k' ty' : Nat) (es' : List (List TV)) (n' : Nat) : Hint P := .ext (arrMk k' ty' es' n') (arrMk_ok k' ty' es' n')
theorem go_arrAcc {cx : Cx} {Q : Post} {K : List K} {s : AState} (b : Nat) {k : Nat} {es : List (List TV)} {ty : TypeId} (hb : look s.heap b = some (.arr k es ty none)) (h : Go' cx Q K ⟨s.tmps, (b, .acc k (eraseTss es) ty) :: s.heap, s.nxt⟩) : Go' cx Q K s := by
 refine go_weak ?_ h
 rintro a w ⟨ι, hs⟩
 have hblk := hs.heap b _ hb
 let ι' : Pl := ⟨ι.f, fun g => if ι.hid g = some b then none else ι.hid g⟩
 have hh : ∀ g b', ι'.hid g = some b' → ι.hid g = some b' ∧ b' ≠ b := fun g b' h => by
  simp only [ι'] at h
  split at h
  ·cases h
  ·rename_i hn; exact ⟨h, fun e => hn (by rw [h, e])⟩
 have hok : Ok ι' w := ⟨hs.ok.inj, hs.ok.lt, fun g b' h => hs.ok.hlt g b' (hh g b' h).1, fun g b' h => hs.ok.hdis g b' (hh g b' h).1, fun g b' h => hs.ok.hlaid g b' (hh g b' h).1⟩
 have hst : StepR ι w ι' w (fun b' => ∃ blk, (b', blk) ∈ [(b, Blk.acc k (eraseTss es) ty)]) (fun b' => b' ∈ ([] : List Nat) ∨ s.nxt ≤ b') :=
  ⟨rfl, rfl, rfl, Nat.le_refl _, fun _ _ => rfl, fun b' g c h => .inl (.inl ⟨b', c, h⟩), fun _ _ _ _ => rfl, hok, fun g b' hw hk h => by
   have : b' ≠ b := fun e => hw ⟨_, List.mem_singleton.2 (by rw [e])⟩
   show (if ι.hid g = some b then none else ι.hid g) = some b'
   rw [h, if_neg (fun e => this (by cases e; rfl))], fun g b' h => .inl (.inr ⟨b', (hh g b' h).1⟩)⟩
 have := hs.ghost (ks := []) (next := s.nxt) (new := []) hst (fun p hp => ?_) (fun b' hb' => hs.free b' hb') (fun k' hk' => by cases hk') fun t av hl => by cases hl
 ·exact ⟨_, this⟩
 ·rw [List.mem_singleton.1 hp]
  cases hblk with
  | arrNil _ _ h1 => exact .accNil _ _ h1
  | arr _ _ _ _ g cap cur Sf h1 h2 h3 h4 h5 h6 h7 h8 h9 h10 =>
   have hl : (eraseTss es).length = es.length := by rw [eraseTss_eq, List.length_map]
   refine .acc k ty _ g cap cur h1 h2 h3 (by rw [hl]; exact h4) h5 (map_rows h6) fun i e j u x he hu hx => ?_
   obtain ⟨e', u', q1, q2, rfl⟩ := map_cell he hu
   refine (h9 i e' j u' x (fun row hr => by cases hr) q1 q2 hx).closed (fun g hg => (hst.still g hg).1) fun q hq => ?_
   have hq' := h7 _ q hq
   refine ⟨⟨⟨hs.base.hmine hq', ?_⟩, hs.ok.hlt q b hq'⟩, fun b' c hb' => hs.ok.hdis q b hq' b' c hb'⟩
   show (if ι.hid q = some b then none else ι.hid q) = none
   rw [if_pos hq']
section
variable {cx : Cx} {Q : Post} {K : List K} {s : AState}
theorem go_arrAccE (b : Nat) {k : Nat} {es : List (List TV)} {ty : TypeId} (es' : List (List CV)) (hb : look s.heap b = some (.arr k es ty none)) (he : eraseTss es = es') (h : Go' cx Q K ⟨s.tmps, (b, .acc k es' ty) :: s.heap, s.nxt⟩) : Go' cx Q K s := by
 subst he
 exact go_arrAcc b hb h
theorem go_focusE (b i : Nat) {k : Nat} {es : List (List TV)} {ty : TypeId} (tvs : List TV) (row : List AV) (hb : look s.heap b = some (.arr k es ty none)) (hi : es[i]? = some tvs) (he : openA s.nxt tvs = row)
  (h : Go' cx Q K ⟨s.tmps, (b, .arr k es ty (some (i, row))) :: (openH s.nxt tvs ++ s.heap), s.nxt + tvs.length⟩) : Go' cx Q K s := by
 subst he
 exact go_focus b i tvs hb hi h
theorem go_unfocusE (b : Nat) {i k : Nat} {es : List (List TV)} {ty : TypeId} {row : List AV} (tvs : List TV) (es' : List (List TV)) {ps : List Prop} {ts : List TV} {cs : List (List Nat)} (hb : look s.heap b = some (.arr k es ty (some (i, row)))) (hc : closeL s.heap row = some (ps, ts, cs))
  (hp : AllQ ps) (hle : TLes ts tvs) (hn : (b :: cs.flatten).Nodup) (he : es.set i tvs = es')
  (h : Go' cx Q K ⟨killT cs.flatten s.tmps, (b, .arr k es' ty none) :: (dumb cs.flatten ++ killH cs.flatten s.heap), s.nxt⟩) : Go' cx Q K s := by
 subst he
 exact go_unfocus b tvs hb hc hp hle hn h
end
theorem ftv {α : Type} [Inhabited α] {f : α → List TV} {l : List α} {i : Nat} (h : i < l.length) : (List.map f l)[i]? = some (f (l.getD i default)) := by
 rw [List.getElem?_map, List.getD_eq_getElem?_getD, List.getElem?_eq_getElem h]
 rfl
theorem ptv {α : Type} {f : α → List TV} {l : List α} {i : Nat} {x : α} : (List.map f l).set i (f x) = List.map f (l.set i x) := by simp [List.map_set]
theorem etv {α : Type} {f : α → List TV} {g : α → List CV} {l : List α} (h : ∀ x, eraseTs (f x) = g x) : eraseTss (List.map f l) = List.map g l := by
 rw [eraseTss_eq, List.map_map]
 refine List.map_congr_left fun x _ => ?_
 rw [← h x, eraseTs_eq]
 rfl
theorem mtv {α : Type} {f : α → List TV} {x : α} {n : Int} {n' : Nat} {t : TV} (h : n.toNat = n') (hf : f x = [t]) : List.replicate n.toNat [t] = List.map f (List.replicate n' x) := by
 rw [List.map_replicate, hf, h]
end Go.Ab
