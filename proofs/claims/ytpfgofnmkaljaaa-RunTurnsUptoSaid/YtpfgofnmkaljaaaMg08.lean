/-
  make, slice literals and append, told by values and numbered blocks; the reckoning, whole, is right.
-/
import Derived.Test.YtpfgofnmkaljaaaMg07
set_option linter.unusedVariables false
set_option linter.unusedSimpArgs false
namespace Go.Ab
open Go Go.RowKit
section
variable {P : Program} {tt : TT}
theorem tinfo (htt : TtOk P tt) {t : TypeId} {k b : Nat} (hk : tsize tt t = some k) (hb : tbytes tt t = some b) : ∃ i z, P.info? t = some i ∧ i.size = k ∧ i.bytes = b ∧ i.zero = some z ∧ z.cells.size = k := by
 unfold tsize at hk
 unfold tbytes at hb
 cases ht : tt t with
 | none => rw [ht] at hk; cases hk
 | some i =>
  rw [ht] at hk hb
  cases hk
  cases hb
  obtain ⟨_, _, h3, inf, hi, hs, hb, z, hz, hc⟩ := htt t i ht
  exact ⟨inf, z, hi, hs, hb, hz, by rw [hc]; simpa using h3⟩
theorem append_cells {I : Nat → Prop} {w : World} {k : Nat} {es ns : List (List CV)} {cur : List Value} {fo f : Nat → Value} (hke : ∀ e ∈ es, e.length = k) (hkn : ∀ e ∈ ns, e.length = k)
  (ho : ∀ (i : Nat) e (j : Nat) u, es[i]? = some e → e[j]? = some u → CRep I w u (fo (i * k + j))) (hn : ∀ (i : Nat) e (j : Nat) u, ns[i]? = some e → e[j]? = some u → CRep I w u (f (i * k + j)))
  (h1 : ∀ q, q < es.length * k → cur[q]? = some (fo q)) (h2 : ∀ q, q < ns.length * k → cur[es.length * k + q]? = some (f q)) :
  ∀ (i : Nat) e (j : Nat) u x, (es ++ ns)[i]? = some e → e[j]? = some u → cur[i * k + j]? = some x → CRep I w u x := by
 intro i e j u x he hu hx
 rw [List.getElem?_append] at he
 have bound : ∀ {l : List (List CV)} {i : Nat} {e : List CV}, (∀ e ∈ l, e.length = k) → l[i]? = some e → e[j]? = some u → i * k + j < l.length * k := by
  intro l i e hl he hu
  have hj : j < k := by rw [← hl e (List.mem_of_getElem? he)]; exact (List.getElem?_eq_some_iff.1 hu).1
  have hi := (List.getElem?_eq_some_iff.1 he).1
  have h9 : (i + 1) * k ≤ l.length * k := Nat.mul_le_mul_right k (by omega)
  rw [Nat.add_mul, Nat.one_mul] at h9
  omega
 split at he
 ·have hb := bound hke he hu
  rw [h1 _ hb] at hx
  cases hx
  exact ho i e j u he hu
 ·rename_i hge
  have hb := bound hkn he hu
  have e1 : i * k + j = es.length * k + ((i - es.length) * k + j) := by
   obtain ⟨d, rfl⟩ : ∃ d, i = es.length + d := ⟨i - es.length, by omega⟩
   rw [Nat.add_sub_cancel_left, Nat.add_mul]
   omega
  rw [e1, h2 _ hb] at hx
  cases hx
  exact hn _ e j u he hu
theorem run_append_zero (t ty e : TypeId) {k : Nat} {w : World} (hd : (underlying t).run P w = .ok (.slice e) w) (hs : (sizeOf e).run P w = .ok k w) (base xa : Option Addr) (n cap c : Nat) (h : n ≤ cap) :
  (Builtin.append_ #[t, t] ty #[.slice base n cap, .slice xa 0 c]).run P w = .ok (.slice base n cap) w := by
 cases base <;> cases xa <;> simp [Builtin.append_, hd, hs, Builtin.lenOf, Builtin.firstCells, loadCells, loadCellsFrom, h, storeCells]
theorem run_builtin_append {o : Oper} {s x : Operand} {args : Array Operand} {tys : Array TypeId} (hp : o.op = .call { callee := .builtin .append, args := args, argTypes := tys }) (ha : args.toList = [s, x]) {ρ : Operand → Value} {w w' : World} {v : Value}
  (h : (Builtin.append_ tys o.type #[ρ s, ρ x]).run P w = .ok v w') : (execOp ρ o).run P w = .ok (.value v) w' := by
 have e : args = #[s, x] := by obtain ⟨l⟩ := args; simp at ha; rw [ha]
 subst e
 simp [execOp, hp, resolve, invoke, builtin, h]
theorem news_list {A : Nat → Prop} {ι : Pl} {w : World} {ns : List (List CV)} {k : Nat} (hk : ∀ u ∈ ns, u.length = k) (hk0 : 0 < k) {a : Addr} {f : Nat → Value} (h1 : ∀ q, q < ns.length * k → w.cell? (a.add q) = some (f q))
  (h2 : ∀ (i : Nat) e (j : Nat) u, ns[i]? = some e → e[j]? = some u → CRep (Still A ι w) w u (f (i * k + j))) :
  ((List.range (ns.length * k)).map f).length = ns.length * k ∧ (∀ (j : Nat) v, ((List.range (ns.length * k)).map f)[j]? = some v → w.cell? (a.add j) = some v) ∧ (∀ u ∈ (List.range (ns.length * k)).map f, u.oneCell' = true) ∧
   (∀ q, q < ns.length * k → ((List.range (ns.length * k)).map f)[q]? = some (f q)) := by
 refine ⟨by simp, fun j v hv => ?_, fun u hu => ?_, fun q hq => by simp [hq]⟩
 ·obtain ⟨q, hq, rfl⟩ := getElem?_map' hv
  have hlt := (List.getElem?_eq_some_iff.1 hq).1
  simp at hlt
  have : q = j := by simpa [hlt] using hq.symm
  subst this
  exact h1 q hlt
 ·obtain ⟨q, hq, rfl⟩ := List.mem_map.1 hu
  rw [List.mem_range] at hq
  have hi : q / k < ns.length := (Nat.div_lt_iff_lt_mul hk0).2 hq
  have he : ns[q / k]? = some ns[q / k] := List.getElem?_eq_getElem hi
  have hl := hk _ (List.getElem_mem hi)
  have hj : q % k < ns[q / k].length := by rw [hl]; exact Nat.mod_lt _ hk0
  have := h2 _ _ _ _ he (List.getElem?_eq_getElem hj)
  rw [Nat.div_add_mod' q k] at this
  exact this.one
theorem new_row {A : Nat → Prop} {ι : Pl} {w : World} {k : Nat} {es ns : List (List CV)} {e : TypeId} {f fo : Nat → Value} (hok : Ok ι w) (b need old : Nat) (hneed : need = es.length + ns.length) (hmax : need ≤ 9223372036854775807) (z : Value) (hz : z.cells.size = k)
  (hke : ∀ u ∈ es, u.length = k) (hkn : ∀ u ∈ ns, u.length = k) (ho : ∀ (i : Nat) e (j : Nat) u, es[i]? = some e → e[j]? = some u → CRep (Still A ι w) w u (fo (i * k + j)))
  (hn : ∀ (i : Nat) e (j : Nat) u, ns[i]? = some e → e[j]? = some u → CRep (Still A ι w) w u (f (i * k + j))) (hι : ∀ b' g c, ι b' = some (.at g c) → b' = b ∨ True)
  (wr kill : Nat → Prop) (hk : kill b) (cur : List Value) (hcur : cur = (List.range (es.length * k)).map fo ++ (List.range (ns.length * k)).map f ++ (Builtin.zeroCells z.cells (grownCap w need old e - need)).toList) :
  StepO ι w (setPl ι b (.at w.heap.size (grownCap w need old e))) (w.drew.alloc (.cells cur.toArray e)) wr kill ∧
   BlkRep (Still A (setPl ι b (.at w.heap.size (grownCap w need old e))) (w.drew.alloc (.cells cur.toArray e))) (setPl ι b (.at w.heap.size (grownCap w need old e))) (w.drew.alloc (.cells cur.toArray e)) b (.acc k (es ++ ns) e) := by
 have hst := step_newO hok b (grownCap w need old e) (.cells cur.toArray e) wr kill hk (w' := w.drew.alloc (.cells cur.toArray e)) rfl rfl rfl rfl
 refine ⟨hst, ?_⟩
 have hge := grownCap_ge w need old e
 have hcm := grownCap_le_maxLen w need old e (by simp only [maxLen]; omega)
 have hzl : (Builtin.zeroCells z.cells (grownCap w need old e - need)).toList.length = (grownCap w need old e - need) * k := by rw [Array.length_toList, size_zeroCells, hz]
 refine mk_acc (g := w.heap.size) (cap := grownCap w need old e) (cur := cur) (setPl_same _ _ _) (heap_alloc_new w.drew _) ?_ (by rw [List.length_append]; omega) hcm (fun u hu => ?_) ?_
 ·rw [hcur]
  simp only [List.length_append, List.length_map, List.length_range, hzl]
  rw [← Nat.add_mul, ← Nat.add_mul]
  congr 1
  omega
 ·rcases List.mem_append.1 hu with h | h
  ·exact hke u h
  ·exact hkn u h
 ·have base := append_cells (I := Still A ι w) (w := w) (cur := cur) hke hkn ho hn (fun q hq => by
   rw [hcur, List.getElem?_append_left (by simp; omega), List.getElem?_append_left (by simpa using hq)]
   simp [hq]) (fun q hq => by
   rw [hcur, List.getElem?_append_left (by simp; omega), List.getElem?_append_right (by simp)]
   simp [hq])
  intro i e' j u x he hu hx
  exact (base i e' j u x he hu hx).mono (hst.R rfl).still
theorem append_okO (htt : TtOk P tt) {tmps : List (Nat × AV)} {heap : List (Nat × Blk)} {nxt : Nat} {o : Oper} {args : Array Operand} {tys : Array TypeId} (hp : o.op = .call { callee := .builtin .append, args := args, argTypes := tys }) {s x : Operand} {t t' : TypeId}
  (ha : args.toList = [s, x]) (ht : tys.toList = [t, t']) {e : TypeId} (hd : tdesc tt t = some (.slice e)) {k by_ : Nat} (hk : tsize tt e = some k) (hb : tbytes tt e = some by_) {vs : Prop} {ns : List (List CV)} (hs : srcE heap (evT tmps x) = some (vs, ns))
  {vc : Prop} {ef : Eff} (h : (match evT tmps s with
     | .c (.val (.slice none 0 0)) => some (t = t' ∧ vs ∧ 0 < k ∧ (∀ u ∈ ns, u.length = k) ∧ ns.length * by_ ≤ 140737488355328 ∧ ns.length ≤ 9223372036854775807, (⟨some (.own nxt k 0 ns.length), [(nxt, .acc k ns e)], [], nxt + 1⟩ : Eff))
     | .own b k' off n => match look heap b with
      | some (.acc k'' es ty) => some (t = t' ∧ vs ∧ 0 < k ∧ k' = k ∧ k'' = k ∧ ty = e ∧ off = 0 ∧ n = es.length ∧ (∀ u ∈ ns, u.length = k) ∧ (n + ns.length) * by_ ≤ 140737488355328 ∧ n + ns.length ≤ 9223372036854775807,
        ⟨some (.own b k 0 (n + ns.length)), [(b, .acc k (es ++ ns) e)], [b], nxt⟩)
      | _ => none
     | _ => none) = some (vc, ef)) (hvc : vc) : LocO P o (evT tmps) (look heap) nxt ef := by
 intro A ι w ρ hA hok hf hr hh
 have hargs : args = #[s, x] := by obtain ⟨l⟩ := args; simp at ha; rw [ha]
 have htys : tys = #[t, t'] := by obtain ⟨l⟩ := tys; simp at ht; rw [ht]
 have rs := hr s (by simp [hp, Op.operands, Call.operands, hargs])
 have rx := hr x (by simp [hp, Op.operands, Call.operands, hargs])
 obtain ⟨inf, z, hinf, hsz, hby, hz, hzc⟩ := tinfo htt hk hb
 have hu : P.underlying t = some (.slice e) := by
  unfold tdesc at hd
  cases htt' : tt t with
  | none => rw [htt'] at hd; cases hd
  | some i => rw [htt'] at hd; have := (htt t i htt').1; simp at hd; rw [this, hd]
 have hud := htt.desc hd w
 have hus := htt.size hk w
 split at h
 ·rename_i heq
  cases h
  obtain ⟨rfl, hvs, hk0, hkn, hbytes, hmax⟩ := hvc
  rw [heq] at rs
  have es := rs.valOf rfl
  rcases srcE_ok hh hs hvs rx hkn hk0 with ⟨hx, rfl⟩ | ⟨a, c, f, hx, hcell, hrep⟩
  ·-- nothing is appended
   have hst := step_nilO hok nxt (fun b => ∃ blk, (b, blk) ∈ [(nxt, Blk.acc k [] e)]) ((⟨some (.own nxt k 0 0), [(nxt, .acc k [] e)], [], nxt + 1⟩ : Eff).kills nxt) (.inr (Nat.le_refl _))
   refine ⟨.value (.slice none 0 0), _, w, run_builtin_append hp ha (by rw [htys, es, hx]; exact run_append_zero t _ e hud hus none none 0 0 0 (Nat.le_refl _)), .ownNil nxt k (setPl_same _ _ _), ⟨hst, rfl⟩, ?_, ?_, fun k hk => by cases hk⟩
   ·intro p hp'
    simp only [List.mem_singleton] at hp'
    subst hp'
    exact .accNil k e (setPl_same _ _ _)
   ·intro b hb'
    rw [setPl_other _ _ (by simp at hb'; omega)]
    exact hf b (by simp at hb'; omega)
  ·by_cases hm : ns.length = 0
   ·have hns : ns = [] := List.eq_nil_of_length_eq_zero hm
    subst hns
    have hst := step_nilO hok nxt (fun b => ∃ blk, (b, blk) ∈ [(nxt, Blk.acc k [] e)]) ((⟨some (.own nxt k 0 0), [(nxt, .acc k [] e)], [], nxt + 1⟩ : Eff).kills nxt) (.inr (Nat.le_refl _))
    refine ⟨.value (.slice none 0 0), _, w, run_builtin_append hp ha (by rw [htys, es, hx]; exact run_append_zero t _ e hud hus none (some a) 0 0 c (Nat.le_refl _)), .ownNil nxt k (setPl_same _ _ _), ⟨hst, rfl⟩, ?_, ?_, fun k hk => by cases hk⟩
    ·intro p hp'
     simp only [List.mem_singleton] at hp'
     subst hp'
     exact .accNil k e (setPl_same _ _ _)
    ·intro b hb'
     rw [setPl_other _ _ (by simp at hb'; omega)]
     exact hf b (by simp at hb'; omega)
   ·obtain ⟨n1, n2, n3, n4⟩ := news_list (A := A) (ι := ι) hkn hk0 hcell hrep
    have hrun := run_append_nil (P := P) w t o.type e inf z hu hinf hz a ns.length c _ (by rw [n1, hsz]) n2 (by omega) (by omega) (by rw [hby]; omega)
    obtain ⟨hst, hblk⟩ := new_row (A := A) (ι := ι) (w := w) (es := []) (e := e) (fo := f) hok nxt ns.length 0 (by simp) hmax z hzc (by simp) hkn (fun i e j u h => by simp at h) hrep (fun _ _ _ _ => .inr trivial)
     (fun b => ∃ blk, (b, blk) ∈ [(nxt, Blk.acc k ns e)]) ((⟨some (.own nxt k 0 ns.length), [(nxt, .acc k ns e)], [], nxt + 1⟩ : Eff).kills nxt) (.inr (Nat.le_refl _)) _ rfl
    have hw' : (w.drew.alloc (.cells (((List.range (ns.length * k)).map f).toArray ++ Builtin.zeroCells z.cells (grownCap w ns.length 0 e - ns.length)) e)) =
      w.drew.alloc (.cells (((List.range (([] : List (List CV)).length * k)).map f ++ (List.range (ns.length * k)).map f ++ (Builtin.zeroCells z.cells (grownCap w ns.length 0 e - ns.length)).toList).toArray) e) := by
     congr 2
     simp [← List.append_toArray]
    rw [hw'] at hrun
    refine ⟨.value (.slice (some ⟨w.heap.size, 0, none⟩) ns.length (grownCap w ns.length 0 e)), _, _, run_builtin_append hp ha (by rw [htys, es, hx]; exact hrun), ?_, ⟨hst, rfl⟩, ?_, ?_, fun k hk => by cases hk⟩
    ·exact .own nxt k 0 ns.length w.heap.size _ _ _ (setPl_same _ _ _) (fun _ => ⟨rfl, rfl⟩) (fun _ => by simp) (grownCap_ge w _ _ _) (by omega)
    ·intro p hp'
     simp only [List.mem_singleton] at hp'
     subst hp'
     exact hblk
    ·intro b hb'
     rw [setPl_other _ _ (by simp at hb'; omega)]
     exact hf b (by simp at hb'; omega)
 ·rename_i b k' off n heq
  split at h
  ·rename_i k'' es ty hlk
   cases h
   obtain ⟨e0, hvs, hk0, e1, e2, e3, e4, e5, hkn, hbytes, hmax⟩ := hvc
   subst e0
   have e1' := e1.symm
   subst e1'
   have e2' := e2.symm
   subst e2'
   have e3' := e3.symm
   subst e3'
   subst e4
   rw [heq] at rs
   have hblk := hh _ _ hlk
   have hfree : ∀ b', nxt ≤ b' → b' ≠ b := fun b' hb' e' => by
    subst e'
    have := hf b' hb'
    cases hblk <;> simp_all
   have hkill : (⟨some (.own b k 0 (n + ns.length)), [(b, .acc k (es ++ ns) e)], [b], nxt⟩ : Eff).kills nxt b := .inl (List.mem_singleton.2 rfl)
   have fin : ∀ ι' w', BlkRep (Still A ι' w') ι' w' b (.acc k (es ++ ns) e) → ∀ p ∈ [(b, Blk.acc k (es ++ ns) e)], BlkRep (Still A ι' w') ι' w' p.1 p.2 := by
    intro ι' w' hbr p hp'
    simp only [List.mem_singleton] at hp'
    subst hp'
    exact hbr
   have hkw : ∀ k', k' ∈ [b] → ∃ blk, (k', blk) ∈ [(b, Blk.acc k (es ++ ns) e)] := fun k' hk => by rw [List.mem_singleton.1 hk]; exact ⟨_, List.mem_singleton.2 rfl⟩
   have hfr : ∀ p, ∀ b', nxt ≤ b' → setPl ι b p b' = none := fun p b' hb' => by rw [setPl_other _ _ (hfree b' hb')]; exact hf b' hb'
   generalize hvs' : ρ s = v at rs
   have src := srcE_ok hh hs hvs rx hkn hk0
   -- nothing is appended: all stays
   have zero : ns = [] → (∃ xa c, ρ x = .slice xa 0 c) → ∀ base cap, v = .slice base n cap → n ≤ cap → Rep (Still A ι w) ι w (.own b k 0 n) v → ∃ nx ι' w', (execOp ρ o).run P w = .ok nx w' ∧
     (match (some (.own b k 0 (n + ns.length)) : Option AV), nx with | some av, .value v => Rep (Still A ι' w') ι' w' av v | none, .skip => True | _, _ => False) ∧
     (StepO ι w ι' w' (fun b' => ∃ blk, (b', blk) ∈ [(b, Blk.acc k (es ++ ns) e)]) ((⟨some (.own b k 0 (n + ns.length)), [(b, .acc k (es ++ ns) e)], [b], nxt⟩ : Eff).kills nxt) ∧ ι'.hid = ι.hid) ∧
     (∀ p ∈ [(b, Blk.acc k (es ++ ns) e)], BlkRep (Still A ι' w') ι' w' p.1 p.2) ∧ (∀ b', nxt ≤ b' → ι' b' = none) ∧ (∀ k', k' ∈ [b] → ∃ blk, (k', blk) ∈ [(b, Blk.acc k (es ++ ns) e)]) := by
    rintro rfl ⟨xa, c, hx⟩ base cap hv hle hrep
    refine ⟨.value v, ι, w, run_builtin_append hp ha (by rw [htys, hvs', hx, hv]; exact run_append_zero t _ e hud hus base xa n cap c hle), by simpa using hrep, ⟨⟨rfl, rfl, rfl, Nat.le_refl _, fun _ _ => rfl, fun b g c hb => .inl ⟨b, c, hb⟩, fun _ _ _ => rfl, hok⟩, rfl⟩, fin _ _ (by simpa using hblk), hf, hkw⟩
   -- a new row
   have grow : ∀ old (fo : Nat → Value) a c f, ρ x = .slice (some a) ns.length c → (∀ q, q < ns.length * k → w.cell? (a.add q) = some (f q)) → (∀ (i : Nat) e (j : Nat) u, ns[i]? = some e → e[j]? = some u → CRep (Still A ι w) w u (f (i * k + j))) →
     (∀ (i : Nat) e (j : Nat) u, es[i]? = some e → e[j]? = some u → CRep (Still A ι w) w u (fo (i * k + j))) → (∀ u ∈ es, u.length = k) → 0 < n + ns.length →
     (Builtin.append_ #[t, t] o.type #[v, .slice (some a) ns.length c]).run P w = .ok (.slice (some ⟨w.heap.size, 0, none⟩) (n + ns.length) (grownCap w (n + ns.length) old e))
      (w.drew.alloc (.cells (((List.range (es.length * k)).map fo ++ (List.range (ns.length * k)).map f ++ (Builtin.zeroCells z.cells (grownCap w (n + ns.length) old e - (n + ns.length))).toList).toArray) e)) → ∃ nx ι' w', (execOp ρ o).run P w = .ok nx w' ∧
     (match (some (.own b k 0 (n + ns.length)) : Option AV), nx with | some av, .value v => Rep (Still A ι' w') ι' w' av v | none, .skip => True | _, _ => False) ∧
     (StepO ι w ι' w' (fun b' => ∃ blk, (b', blk) ∈ [(b, Blk.acc k (es ++ ns) e)]) ((⟨some (.own b k 0 (n + ns.length)), [(b, .acc k (es ++ ns) e)], [b], nxt⟩ : Eff).kills nxt) ∧ ι'.hid = ι.hid) ∧
     (∀ p ∈ [(b, Blk.acc k (es ++ ns) e)], BlkRep (Still A ι' w') ι' w' p.1 p.2) ∧ (∀ b', nxt ≤ b' → ι' b' = none) ∧ (∀ k', k' ∈ [b] → ∃ blk, (k', blk) ∈ [(b, Blk.acc k (es ++ ns) e)]) := by
    intro old fo a c f hx hcell hrep ho hke hpos hrun
    obtain ⟨hst, hblk'⟩ := new_row (A := A) (ι := ι) (w := w) (es := es) (ns := ns) (e := e) (fo := fo) (f := f) hok b (n + ns.length) old (by omega) hmax z hzc hke hkn ho hrep (fun _ _ _ _ => .inr trivial)
     (fun b' => ∃ blk, (b', blk) ∈ [(b, Blk.acc k (es ++ ns) e)]) ((⟨some (.own b k 0 (n + ns.length)), [(b, .acc k (es ++ ns) e)], [b], nxt⟩ : Eff).kills nxt) hkill _ rfl
    refine ⟨_, _, _, run_builtin_append hp ha (by rw [htys, hvs', hx]; exact hrun), ?_, ⟨hst, rfl⟩, fin _ _ hblk', hfr _, hkw⟩
    exact .own b k 0 (n + ns.length) w.heap.size _ _ _ (setPl_same _ _ _) (fun _ => ⟨rfl, rfl⟩) (fun _ => by simp) (grownCap_ge w _ _ _) (by omega)
   cases rs with
   | ownNil _ _ hι =>
    have hes : es = [] := List.eq_nil_of_length_eq_zero e5.symm
    subst hes
    rcases src with ⟨hx, rfl⟩ | ⟨a, c, f, hx, hcell, hrep⟩
    ·exact zero rfl ⟨_, _, hx⟩ none 0 rfl (Nat.le_refl _) (.ownNil b k hι)
    ·by_cases hm : ns.length = 0
     ·exact zero (List.eq_nil_of_length_eq_zero hm) ⟨_, _, by rw [hx, hm]⟩ none 0 rfl (Nat.le_refl _) (.ownNil b k hι)
     ·obtain ⟨n1, n2, n3, n4⟩ := news_list (A := A) (ι := ι) hkn hk0 hcell hrep
      have hrun := run_append_nil (P := P) w t o.type e inf z hu hinf hz a ns.length c _ (by rw [n1, hsz]) n2 (by omega) (by omega) (by rw [hby]; simp at hbytes; omega)
      refine grow 0 f a c f hx hcell hrep (fun i e j u h => by simp at h) (by simp) (by omega) ?_
      have hl : (List.map f (List.range (ns.length * k))).toArray ++ Builtin.zeroCells z.cells (grownCap w ns.length 0 e - ns.length) =
        (List.map f (List.range (([] : List (List CV)).length * k)) ++ List.map f (List.range (ns.length * k)) ++ (Builtin.zeroCells z.cells (grownCap w (0 + ns.length) 0 e - (0 + ns.length))).toList).toArray := by
       simp [← List.append_toArray]
      rw [hl] at hrun
      simpa using hrun
   | own _ _ _ _ g cap a0 cc hι h0 h1 h2 hq =>
    obtain ⟨ha0, hcc⟩ := h0 rfl
    subst ha0
    have hcc' := hcc.symm
    subst hcc'
    cases hblk with
    | accNil _ _ g1 => rw [hι] at g1; cases g1
    | acc _ _ _ g' cap' cur g1 g2 g3 g4 g5 g6 g8 =>
     rw [hι] at g1
     simp only [Option.some.injEq, Plc.at.injEq] at g1
     obtain ⟨gg1, gg2⟩ := g1
     subst gg1
     subst gg2
     have hrepv : Rep (Still A ι w) ι w (.own b k 0 n) (.slice (some ⟨g, 0, none⟩) n cap) := .own b k 0 n g cap _ _ hι (fun _ => ⟨rfl, rfl⟩) h1 h2 hq
     rcases src with ⟨hx, rfl⟩ | ⟨a, c, f, hx, hcell, hrep⟩
     ·exact zero rfl ⟨_, _, hx⟩ _ _ rfl h2 hrepv
     ·by_cases hm : ns.length = 0
      ·exact zero (List.eq_nil_of_length_eq_zero hm) ⟨_, _, by rw [hx, hm]⟩ _ _ rfl h2 hrepv
      ·obtain ⟨n1, n2, n3, n4⟩ := news_list (A := A) (ι := ι) hkn hk0 hcell hrep
       have hke : ∀ u ∈ es, u.length = k := fun u hu => by obtain ⟨i, hi⟩ := List.getElem?_of_mem hu; exact g6 i u hi
       have hle : es.length * k ≤ cap * k := Nat.mul_le_mul_right k g4
       have ho : ∀ (i : Nat) e (j : Nat) u, es[i]? = some e → e[j]? = some u → CRep (Still A ι w) w u (cur.getD (i * k + j) undef) := fun i e' j u he hu => by
        have hj : j < k := by rw [← g6 i e' he]; exact (List.getElem?_eq_some_iff.1 hu).1
        have hi := (List.getElem?_eq_some_iff.1 he).1
        have h9 : (i + 1) * k ≤ cap * k := Nat.mul_le_mul_right k (by omega)
        rw [Nat.add_mul, Nat.one_mul] at h9
        exact g8 i e' j u _ he hu (getD_get (by omega))
       by_cases hroom : n + ns.length ≤ cap
       ·-- in place
        have hfit : n * k + ns.length * k ≤ cap * k := by rw [← Nat.add_mul]; exact Nat.mul_le_mul_right k hroom
        have hrun := run_append_room (P := P) w t o.type e inf hu hinf g n cap cur.toArray g2 a ns.length c _ (by rw [n1, hsz]) n2 n3 hroom (by rw [hsz, n1]; simp; omega)
        rw [hsz] at hrun
        have hst := step_rowO hok hι (cur.take (n * k) ++ (List.range (ns.length * k)).map f ++ cur.drop (n * k + ((List.range (ns.length * k)).map f).length)).toArray (fun b' => ∃ blk, (b', blk) ∈ [(b, Blk.acc k (es ++ ns) e)])
         ((⟨some (.own b k 0 (n + ns.length)), [(b, .acc k (es ++ ns) e)], [b], nxt⟩ : Eff).kills nxt) ⟨_, List.mem_singleton.2 rfl⟩
        refine ⟨.value (.slice (some ⟨g, 0, none⟩) (n + ns.length) cap), ι, _, run_builtin_append hp ha (by rw [htys, hvs', hx]; exact hrun), ?_, ⟨hst, rfl⟩, fin _ _ ?_, hf, hkw⟩
        ·exact .own b k 0 (n + ns.length) g cap _ _ hι (fun _ => ⟨rfl, rfl⟩) (fun _ => by simp) hroom (by omega)
        ·subst e5
         refine mk_acc (g := g) (cap := cap) hι (setRow_heap w g _ _ e (0, 0) g2) (by simp; omega) (by rw [List.length_append]; exact hroom) g5 (fun u hu => ?_) ?_
         ·rcases List.mem_append.1 hu with h | h
          ·exact hke u h
          ·exact hkn u h
         ·have base := append_cells (I := Still A ι w) (w := w) (cur := cur.take (es.length * k) ++ (List.range (ns.length * k)).map f ++ cur.drop (es.length * k + ((List.range (ns.length * k)).map f).length)) hke hkn ho hrep (fun q hq => by
           rw [List.getElem?_append_left (by simp; omega), List.getElem?_append_left (by simp; omega), List.getElem?_take, if_pos hq]
           exact getD_get (d := undef) (by omega)) (fun q hq => by
           rw [List.getElem?_append_left (by simp; omega), List.getElem?_append_right (by simp; omega)]
           rw [show es.length * k + q - (List.take (es.length * k) cur).length = q by simp; omega]
           exact n4 q hq)
          intro i e' j u x he hu hx
          exact (base i e' j u x he hu hx).mono (hst.R rfl).still
       ·-- a new row
        have hrun := run_append_grow (P := P) w t o.type e inf z hu hinf hz ⟨g, 0, none⟩ n cap ((List.range (es.length * k)).map fun q => cur.getD q undef) (by rw [hsz, e5]; simp) (fun j v hv => by
         obtain ⟨q, hq, rfl⟩ := getElem?_map' hv
         have hlt := (List.getElem?_eq_some_iff.1 hq).1
         simp at hlt
         have : q = j := by simpa [hlt] using hq.symm
         subst this
         rw [addr_add _ _ rfl, cell_of_row w g _ _ e (0, 0) g2]
         simpa using getD_get (d := undef) (l := cur) (i := q) (by omega)) a ns.length c _ (by rw [n1, hsz]) n2 (by omega) (by omega) (by rw [hby]; exact growslice_fits (by omega) hbytes)
        refine grow cap (fun q => cur.getD q undef) a c f hx hcell hrep ho hke (by omega) ?_
        rw [hrun]
        congr 3
        simp [← List.append_toArray]
  ·cases h
 ·cases h
theorem append_ok (htt : TtOk P tt) {tmps : List (Nat × AV)} {heap : List (Nat × Blk)} {nxt : Nat} {o : Oper} {args : Array Operand} {tys : Array TypeId} (hp : o.op = .call { callee := .builtin .append, args := args, argTypes := tys }) {s x : Operand} {t t' : TypeId}
  (ha : args.toList = [s, x]) (ht : tys.toList = [t, t']) {e : TypeId} (hd : tdesc tt t = some (.slice e)) {k by_ : Nat} (hk : tsize tt e = some k) (hb : tbytes tt e = some by_) {vs : Prop} {ns : List (List CV)} (hs : srcE heap (evT tmps x) = some (vs, ns))
  {vc : Prop} {ef : Eff} (h : (match evT tmps s with
     | .c (.val (.slice none 0 0)) => some (t = t' ∧ vs ∧ 0 < k ∧ (∀ u ∈ ns, u.length = k) ∧ ns.length * by_ ≤ 140737488355328 ∧ ns.length ≤ 9223372036854775807, (⟨some (.own nxt k 0 ns.length), [(nxt, .acc k ns e)], [], nxt + 1⟩ : Eff))
     | .own b k' off n => match look heap b with
      | some (.acc k'' es ty) => some (t = t' ∧ vs ∧ 0 < k ∧ k' = k ∧ k'' = k ∧ ty = e ∧ off = 0 ∧ n = es.length ∧ (∀ u ∈ ns, u.length = k) ∧ (n + ns.length) * by_ ≤ 140737488355328 ∧ n + ns.length ≤ 9223372036854775807,
        ⟨some (.own b k 0 (n + ns.length)), [(b, .acc k (es ++ ns) e)], [b], nxt⟩)
      | _ => none
     | _ => none) = some (vc, ef)) (hvc : vc) : Loc P o (evT tmps) (look heap) nxt ef :=
 (append_okO htt hp ha ht hd hk hb hs h hvc).loc
theorem replicate_flat {α : Type} [Inhabited α] (z : List α) (n : Nat) (i j : Nat) (hi : i < n) (hj : j < z.length) : ((Array.range (n * z.length)).map fun q => z.toArray[q % z.length]!)[i * z.length + j]? = z[j]? := by
 have hlt : i * z.length + j < n * z.length := by
  have h9 : (i + 1) * z.length ≤ n * z.length := Nat.mul_le_mul_right _ (by omega)
  rw [Nat.add_mul, Nat.one_mul] at h9
  omega
 have hm : (i * z.length + j) % z.length = j := by rw [Nat.mul_comm, Nat.mul_add_mod, Nat.mod_eq_of_lt hj]
 simp [hlt, hm, hj]
theorem make_ok (htt : TtOk P tt) {tmps : List (Nat × AV)} {hp : Nat → Option Blk} {nxt : Nat} {o : Oper} {t : TypeId} {l c : Operand} (hp' : o.op = .makeSlice t l c) {e : TypeId} (hd : tdesc tt t = some (.slice e)) {kl kc : IntKind} {n m : Int}
  (hl : evT tmps l = .c (.val (.int kl n))) (hc : evT tmps c = .c (.val (.int kc m))) {z : List CV} {by_ k : Nat} (hz : tzero tt e = some z) (hb : tbytes tt e = some by_) (hk : tsize tt e = some k)
  (hv : n = m ∧ 0 ≤ n ∧ 0 < k ∧ n ≤ 9223372036854775807 ∧ (by_ : Int) * n ≤ 281474976710656) : Loc P o (evT tmps) hp nxt ⟨some (.own nxt k 0 n.toNat), [(nxt, .acc k (List.replicate n.toNat z) e)], [], nxt + 1⟩ := by
 intro A ι w ρ hA hok hf hr hh
 obtain ⟨rfl, h0, hk0, hmax, hbytes⟩ := hv
 obtain ⟨inf, zz, hinf, hsz, hby, hzz, hzc⟩ := tinfo htt hk hb
 have hu : P.underlying t = some (.slice e) := by
  unfold tdesc at hd
  cases htt' : tt t with
  | none => rw [htt'] at hd; cases hd
  | some i => rw [htt'] at hd; have := (htt t i htt').1; simp at hd; rw [this, hd]
 have r1 := hr l (by simp [hp', Op.operands])
 have r2 := hr c (by simp [hp', Op.operands])
 rw [hl] at r1
 rw [hc] at r2
 have hrun := run_make (P := P) w t e inf zz hu hinf hzz kl kc n n h0 (Int.le_refl _) (by rw [hby]; exact hbytes) hmax
 obtain ⟨v0, hv0, hvc, hzs, hone⟩ := tzero_ok htt hz w
 have hzv : zz.cells = (z.map cvVal).toArray := by
  have : (zeroValue e).run P w = .ok zz w := by simp [zeroValue, typeInfo, hinf, hzz]
  rw [this] at hv0
  cases hv0
  exact hvc
 have hzl : z.length = k := by rw [hk] at hzs; exact (Option.some.inj hzs).symm
 have hst := step_new hok nxt n.toNat (.cells (madeCells zz.cells (n.toNat * inf.size)) e) (fun b => ∃ blk, (b, blk) ∈ [(nxt, Blk.acc k (List.replicate n.toNat z) e)]) ((⟨some (.own nxt k 0 n.toNat), [(nxt, .acc k (List.replicate n.toNat z) e)], [], nxt + 1⟩ : Eff).kills nxt) (.inr (Nat.le_refl _)) (w' := w.alloc (.cells (madeCells zz.cells (n.toNat * inf.size)) e)) rfl rfl rfl rfl
 refine ⟨.value (.slice (some ⟨w.heap.size, 0, none⟩) n.toNat n.toNat), _, _, ?_, ?_, hst, ?_, ?_, fun k hk => by cases hk⟩
 ·simp only [execOp, hp', r1.valOf rfl, r2.valOf rfl, Sem.run_bind, hrun, Result.andThen_ok, Sem.run_pure]
 ·exact .own nxt k 0 n.toNat w.heap.size _ _ _ (setPl_same _ _ _) (fun _ => ⟨rfl, rfl⟩) (fun _ => by simp) (Nat.le_refl _) (by omega)
 ·intro p hpm
  simp only [List.mem_singleton] at hpm
  subst hpm
  have hcells : madeCells zz.cells (n.toNat * inf.size) = ((madeCells zz.cells (n.toNat * inf.size)).toList).toArray := by simp
  refine mk_acc (g := w.heap.size) (cap := n.toNat) (cur := (madeCells zz.cells (n.toNat * inf.size)).toList) (setPl_same _ _ _) (by rw [← hcells]; exact heap_alloc_new w _) (by simp [size_madeCells, hsz]) (by simp) (by simp only [maxLen]; omega) (fun u hu => ?_) fun i e' j u x he hu hx => ?_
  ·rw [List.eq_of_mem_replicate hu, hzl]
  ·have hi : i < n.toNat := by have := (List.getElem?_eq_some_iff.1 he).1; simpa using this
   have he' : e' = z := by rw [List.getElem?_replicate, if_pos hi] at he; exact (Option.some.inj he).symm
   subst he'
   have hj : j < e'.length := (List.getElem?_eq_some_iff.1 hu).1
   have hx' : x = cvVal u := by
    have hfl := replicate_flat (e'.map cvVal) n.toNat i j hi (by simpa using hj)
    simp only [List.length_map] at hfl
    have e1 : madeCells zz.cells (n.toNat * inf.size) = (Array.range (n.toNat * e'.length)).map fun q => (e'.map cvVal).toArray[q % e'.length]! := by
     unfold madeCells
     rw [hzv, hsz, hzl]
     simp [hzl]
    rw [e1] at hx
    rw [Array.getElem?_toList, ← hzl, hfl] at hx
    rw [List.getElem?_map, hu] at hx
    simpa using hx.symm
   subst hx'
   exact .zero (hone u (List.mem_of_getElem? hu))
 ·intro b hb'
  rw [setPl_other _ _ (by simp at hb'; omega)]
  exact hf b (by simp at hb'; omega)
theorem partsE_ok {A : Nat → Prop} {ι : Pl} {w : World} {tmps : List (Nat × AV)} {ρ : Operand → Value} : ∀ {i : Nat} {ps : List (Nat × Operand)} {es : List (List CV)}, partsE tmps i ps = some es → (∀ p ∈ ps, Rep (Still A ι w) ι w (evT tmps p.2) (ρ p.2)) →
  ∃ vs : List Value, vs.length = es.length ∧ (ps.map fun p => (p.1, ρ p.2)) = (vs.zipIdx i).map (fun x => (x.2, x.1)) ∧ ∀ (q : Nat) e v, es[q]? = some e → vs[q]? = some v → ∃ xs : List Value, v.cells = xs.toArray ∧ xs.length = e.length ∧ (∀ x ∈ xs, x.oneCell' = true) ∧ ∀ (j : Nat) u x, e[j]? = some u → xs[j]? = some x → CRep (Still A ι w) w u x
 | i, [], es, h, _ => by cases h; exact ⟨[], rfl, rfl, fun q e v h => by simp at h⟩
 | i, (j, x) :: r, es, h, hr => by
  simp only [partsE] at h
  split at h
  ·rename_i us l hus hl
   cases e : i == j with
   | false => simp [e] at h
   | true =>
    simp [e] at h
    subst h
    have := eq_of_beq e
    subst this
    obtain ⟨vs, h1, h2, h3⟩ := partsE_ok hl fun p hp => hr p (List.mem_cons_of_mem _ hp)
    cases hc : cellsOf (evT tmps x) with
    | none => rw [hc] at hus; cases hus
    | some cs =>
     rw [hc] at hus
     obtain ⟨xs, g1, g2, g3, g4⟩ := cellsOf_ok hc (hr _ List.mem_cons_self)
     obtain ⟨c1, c2⟩ := closedL_ok hus g2 g4
     refine ⟨ρ x :: vs, by simp [h1], by simp [h2], fun q e v he hv => ?_⟩
     cases q with
     | zero => simp at he hv; subst he hv; exact ⟨xs, g1, by omega, g3, c2⟩
     | succ q => exact h3 q e v (by simpa using he) (by simpa using hv)
  ·cases h
theorem buildSlice_okO (htt : TtOk P tt) {tmps : List (Nat × AV)} {hp : Nat → Option Blk} {nxt : Nat} {o : Oper} {t : TypeId} {len : Nat} {parts : Array (Nat × Operand)} (hp' : o.op = .buildSlice t len parts) {e : TypeId} (hd : tdesc tt t = some (.slice e))
  {es : List (List CV)} (hes : partsE tmps 0 parts.toList = some es) {k : Nat} (hk : tsize tt e = some k) (hv : es.length = len ∧ 0 < k ∧ len * k ≤ 16777216 ∧ ∀ u ∈ es, u.length = k) :
  LocO P o (evT tmps) hp nxt ⟨some (.own nxt k 0 len), [(nxt, .acc k es e)], [], nxt + 1⟩ := by
 intro A ι w ρ hA hok hf hr hh
 obtain ⟨rfl, hk0, h24, hlen⟩ := hv
 obtain ⟨vs, h1, h2, h3⟩ := partsE_ok (A := A) (ι := ι) (w := w) (ρ := ρ) hes fun p hpm => hr p.2 (by
  simp only [hp', Op.operands]
  exact List.mem_toArray.2 (List.mem_map.2 ⟨p, hpm, rfl⟩))
 have hvs : ∀ v ∈ vs, v.cells.size = k := fun v hv => by
  obtain ⟨q, hq⟩ := List.getElem?_of_mem hv
  have hlt : q < es.length := by rw [← h1]; exact (List.getElem?_eq_some_iff.1 hq).1
  obtain ⟨xs, g1, g2, _, _⟩ := h3 q _ v (List.getElem?_eq_getElem hlt) hq
  rw [g1]
  simp [g2, hlen _ (List.getElem_mem hlt)]
 have hzero : ∃ z, (zeroValue e).run P w = .ok z w := by
  cases hte : tt e with
  | none => rw [tsize, hte] at hk; cases hk
  | some i =>
   obtain ⟨_, _, _, inf, hi, _, _, zz, hzz, _⟩ := htt e i hte
   exact ⟨zz, by simp [zeroValue, typeInfo, hi, hzz]⟩
 obtain ⟨z, hz⟩ := hzero
 have hflat : ∀ (start : Array Value), start.size = es.length * k → Instr.fill (fun i => some (i * k, k)) start (parts.map fun p => (p.1, ρ p.2)).toList = some (vs.flatMap fun v => v.cells.toList).toArray := by
  intro start hs
  have := Great.fill_whole hk0 vs start hvs (by rw [h1, hs])
  rw [Array.toList_map, h2]
  exact this
 have hst := step_newO hok nxt es.length (.cells (vs.flatMap fun v => v.cells.toList).toArray e) (fun b => ∃ blk, (b, blk) ∈ [(nxt, Blk.acc k es e)]) ((⟨some (.own nxt k 0 es.length), [(nxt, .acc k es e)], [], nxt + 1⟩ : Eff).kills nxt) (.inr (Nat.le_refl _)) (w' := w.alloc (.cells (vs.flatMap fun v => v.cells.toList).toArray e)) rfl rfl rfl rfl
 have hget : ∀ q, (vs.flatMap fun v => v.cells.toList)[q]? = (vs[q / k]?).bind (fun v => v.cells[q % k]?) := Great.flat_get hk0 vs hvs
 refine ⟨.value (.slice (some ⟨w.heap.size, 0, none⟩) es.length es.length), _, _, ?_, ?_, ⟨hst, rfl⟩, ?_, ?_, fun k hk => by cases hk⟩
 ·simp only [execOp, hp', Instr.buildSlice, Sem.run_bind, htt.desc hd w, Result.andThen_ok, htt.size hk w]
  rw [if_neg (by omega)]
  simp only [Sem.run_pure, Result.andThen_ok]
  by_cases h0 : es.length * k = 0
  ·have hfl := hflat #[] (by simp [h0])
   rw [if_pos h0]
   have hfl' : Instr.fill (fun i => some (i * k, k)) (Array.map (fun _ : Nat => (default : Value)) (Array.range (es.length * k))) (Array.map (fun p => (p.1, ρ p.2)) parts).toList = some (vs.flatMap fun v => v.cells.toList).toArray := hflat _ (by simp)
   rw [h0] at hfl'
   simp only [Array.toList_map] at hfl'
   simp [h0, hfl', newRow]
  ·rw [if_neg h0]
   simp only [Sem.run_bind, hz, Result.andThen_ok, Sem.run_pure]
   rw [hflat _ (by simp)]
   simp [newRow]
 ·exact .own nxt k 0 es.length w.heap.size _ _ _ (setPl_same _ _ _) (fun _ => ⟨rfl, rfl⟩) (fun _ => by simp) (Nat.le_refl _) (by omega)
 ·intro p hpm
  simp only [List.mem_singleton] at hpm
  subst hpm
  have hlen' : (vs.flatMap fun v => v.cells.toList).length = es.length * k := by
   rw [← h1]
   clear hst hget hflat h2 h3 h1
   induction vs with
   | nil => simp
   | cons v r ih =>
    rw [List.flatMap_cons, List.length_append, ih fun u hu => hvs u (List.mem_cons_of_mem _ hu)]
    have := hvs v List.mem_cons_self
    simp only [Array.length_toList, this, List.length_cons, Nat.add_mul, Nat.one_mul]
    omega
  refine mk_acc (g := w.heap.size) (cap := es.length) (cur := vs.flatMap fun v => v.cells.toList) (setPl_same _ _ _) (heap_alloc_new w _) hlen' (Nat.le_refl _) (by simp only [maxLen]; have : es.length ≤ es.length * k := Nat.le_mul_of_pos_right _ hk0; omega) hlen fun i e' j u x he hu hx => ?_
  have hi := (List.getElem?_eq_some_iff.1 he).1
  have hj : j < k := by rw [← hlen e' (List.mem_of_getElem? he)]; exact (List.getElem?_eq_some_iff.1 hu).1
  rw [hget, show (i * k + j) / k = i by rw [Nat.mul_comm, Nat.mul_add_div hk0, Nat.div_eq_of_lt hj]; omega, show (i * k + j) % k = j by rw [Nat.mul_comm, Nat.mul_add_mod, Nat.mod_eq_of_lt hj]] at hx
  have hvi : vs[i]? = some (vs[i]'(by omega)) := List.getElem?_eq_getElem _
  rw [hvi] at hx
  obtain ⟨xs, g1, g2, g3, g4⟩ := h3 i e' _ he hvi
  simp only [Option.bind_some, g1] at hx
  exact (g4 j u x hu (by simpa using hx)).mono (hst.R rfl).still
 ·intro b hb'
  rw [setPl_other _ _ (by simp at hb'; omega)]
  exact hf b (by simp at hb'; omega)
theorem buildSlice_ok (htt : TtOk P tt) {tmps : List (Nat × AV)} {hp : Nat → Option Blk} {nxt : Nat} {o : Oper} {t : TypeId} {len : Nat} {parts : Array (Nat × Operand)} (hp' : o.op = .buildSlice t len parts) {e : TypeId} (hd : tdesc tt t = some (.slice e))
  {es : List (List CV)} (hes : partsE tmps 0 parts.toList = some es) {k : Nat} (hk : tsize tt e = some k) (hv : es.length = len ∧ 0 < k ∧ len * k ≤ 16777216 ∧ ∀ u ∈ es, u.length = k) :
  Loc P o (evT tmps) hp nxt ⟨some (.own nxt k 0 len), [(nxt, .acc k es e)], [], nxt + 1⟩ := (buildSlice_okO htt hp' hd hes hk hv).loc
theorem newE_ok (htt : TtOk P tt) {tmps : List (Nat × AV)} {heap : List (Nat × Blk)} {nxt : Nat} {o : Oper} {vc : Prop} {e : Eff} (h : newE tt tmps heap nxt o = some (vc, e)) (hvc : vc) : Loc P o (evT tmps) (look heap) nxt e ∧ (∀ c, o.op ≠ .defer c) := by
 unfold newE at h
 have hop : ∀ p, o.op = p → (∀ c, p ≠ .defer c) → ∀ c, o.op ≠ .defer c := fun p hp hd c => by rw [hp]; exact hd c
 split at h
 ·rename_i t hp
  split at h
  ·rename_i z hz
   cases h
   exact ⟨alloc_ok htt hp hz, hop _ hp (by simp)⟩
  ·cases h
 ·rename_i t x hp
  split at h
  ·rename_i cs hc
   cases h
   exact ⟨box_ok hp hc, hop _ hp (by simp)⟩
  ·cases h
 ·rename_i t a x hp
  split at h
  ·rename_i n xs hn hxs
   exact ⟨store_ok htt hp hn hxs h hvc, hop _ hp (by simp)⟩
  ·cases h
 ·rename_i t l c hp
  split at h
  ·rename_i e kl n kc m hd hl hc
   split at h
   ·rename_i z by_ k hz hb hk
    cases h
    exact ⟨make_ok htt hp hd hl hc hz hb hk hvc, hop _ hp (by simp)⟩
   ·cases h
  ·cases h
 ·rename_i t len parts hp
  split at h
  ·rename_i e hd
   split at h
   ·rename_i es k hes hk
    cases h
    exact ⟨buildSlice_ok htt hp hd hes hk hvc, hop _ hp (by simp)⟩
   ·cases h
  ·cases h
 ·rename_i args tys hp
  split at h
  ·rename_i s x t t' ha ht
   split at h
   ·rename_i e hd
    split at h
    ·rename_i k by_ vs ns hk hb hs
     exact ⟨append_ok htt hp ha ht hd hk hb hs h hvc, hop _ hp (by simp)⟩
    ·cases h
   ·cases h
  ·cases h
 ·cases h
theorem reck_ok {eq : EQ} (heq : EqOk P eq) (htt : TtOk P tt) : RkOk P tt (reck eq) := by
 intro tmps heap nxt o vc e hr hvc
 unfold reck at hr
 split at hr
 ·rename_i v av hl
  cases hr
  obtain ⟨h1, h2⟩ := lookE_ok htt hl hvc
  exact ⟨h1.loc, h2⟩
 ·split at hr
  ·rename_i v av hl
   cases hr
   obtain ⟨h1, h2⟩ := lookF_ok heq htt hl hvc
   exact ⟨h1.loc, h2⟩
  ·exact newE_ok htt hr hvc
end
end Go.Ab
