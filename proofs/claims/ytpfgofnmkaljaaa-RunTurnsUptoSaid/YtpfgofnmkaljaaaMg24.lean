/-
  The second reckoning is right.
-/
import Derived.Test.YtpfgofnmkaljaaaMg23
set_option linter.unusedVariables false
set_option linter.unusedSimpArgs false
namespace Go.Ab
open Go Go.RowKit
section
variable {P : Program} {tt : TT} {A : Nat → Prop} {ι : Pl} {w : World}
theorem sinfo (htt : TtOk P tt) {t : TypeId} {k : Nat} (hk : tsize tt t = some k) : ∃ i, P.info? t = some i ∧ i.size = k := by
 unfold tsize at hk
 cases ht : tt t with
 | none => rw [ht] at hk; cases hk
 | some i =>
  rw [ht] at hk
  cases hk
  obtain ⟨_, _, _, inf, hi, hs, _⟩ := htt t i ht
  exact ⟨inf, hi, hs⟩
theorem under_of (htt : TtOk P tt) {t : TypeId} {d : TypeDesc} (hd : tdesc tt t = some d) : P.underlying t = some d := by
 unfold tdesc at hd
 cases htt' : tt t with
 | none => rw [htt'] at hd; cases hd
 | some i => rw [htt'] at hd; have := (htt t i htt').1; simp at hd; rw [this, hd]
theorem blk_ek {I : Nat → Prop} {b k : Nat} {es : List (List CV)} {ty : TypeId} (h : BlkRep I ι w b (.acc k es ty)) : ∀ u ∈ es, u.length = k := by
 intro u hu
 cases h with
 | accNil => cases hu
 | acc _ _ _ g cap cur h1 h2 h3 h4 h5 h6 h8 => obtain ⟨i, hi⟩ := List.getElem?_of_mem hu; exact h6 i u hi
theorem blk_at {I : Nat → Prop} {b k : Nat} {es : List (List CV)} {ty : TypeId} (h : BlkRep I ι w b (.acc k es ty)) (h0 : 0 < es.length) : ∃ g cap, ι b = some (.at g cap) := by
 cases h with
 | accNil => simp at h0
 | acc _ _ _ g cap cur h1 h2 h3 h4 h5 h6 h8 => exact ⟨g, cap, h1⟩
theorem copy_ok (htt : TtOk P tt) {tmps : List (Nat × AV)} {heap : List (Nat × Blk)} {nxt : Nat} {o : Oper} {d x : Operand} {t t' e : TypeId} (hp : o.op = .call { callee := .builtin .copy, args := #[d, x], argTypes := #[t, t'] }) (hd : tdesc tt t = some (.slice e)) {b k off n b' k' off' m k1 k2 : Nat} {es es' : List (List CV)} {ty ty' : TypeId}
  (hde : evT tmps d = .own b k off n) (hxe : evT tmps x = .own b' k' off' m) (hl : look heap b = some (.acc k1 es ty)) (hl' : look heap b' = some (.acc k2 es' ty')) (hk : tsize tt e = some k) (hv : k1 = k ∧ k2 = k ∧ k' = k ∧ 0 < k ∧ 0 < min m n ∧ off ≤ es.length ∧ off' + min m n ≤ es'.length) :
  Loc P o (evT tmps) (look heap) nxt ⟨some (.c (.val (.int .i64 (min m n : Nat)))), [(b, .acc k (spliceL es off ((es'.drop off').take (min m n))) ty)], [], nxt⟩ := by
 intro A ι w ρ hA hok hf hr hh
 obtain ⟨e1, e2, e3, hk0, hc0, hoff, hoff'⟩ := hv
 subst e1 e2 e3
 have rd := hr d (by simp [hp, Op.operands, Call.operands])
 have rx := hr x (by simp [hp, Op.operands, Call.operands])
 rw [hde] at rd
 rw [hxe] at rx
 obtain ⟨a, cc, f, hxv, s1, s2, s3, s4⟩ := src_view hh hl' rx hk0 hc0 (Nat.min_le_left _ _) hoff' (blk_ek (hh _ _ hl'))
 generalize hns : (es'.drop off').take (min m n) = ns at *
 generalize hc : min m n = c at *
 have hcn : c ≤ n := by rw [← hc]; exact Nat.min_le_right _ _
 generalize hdv : ρ d = vd at rd
 cases rd with
 | ownNil => omega
 | own _ _ _ _ g cap a2 cc2 hι h1 h2 h3 h4 =>
  have ha2 := h2 (by omega)
  subst ha2
  obtain ⟨cur, R⟩ := row_of (hh _ _ hl) hι
  rw [← s1] at s3
  obtain ⟨n1, n2, n3, n4⟩ := news_list (A := A) (ι := ι) s2 hk0 s3 s4
  obtain ⟨inf, hinf, hsz⟩ := sinfo htt hk
  have hfit : off * k' + ns.length * k' ≤ cap * k' := by rw [← Nat.add_mul]; exact Nat.mul_le_mul_right k' (by omega)
  have hrun := run_copy_row (P := P) (w := w) t t' o.type e (under_of htt hd) hinf hsz g (off * k') n cc2 a m cc c hc _ (by rw [n1, s1]) n2 n3 cur ty R.hp (by rw [n1, R.len]; exact hfit)
  obtain ⟨hst, hblk⟩ := R.write hok off ns hoff (by omega) s2 _ n1 (fun i e' j u y he hu hy => by
   have hj : j < k' := by rw [← s2 e' (List.mem_of_getElem? he)]; exact (List.getElem?_eq_some_iff.1 hu).1
   have hi := (List.getElem?_eq_some_iff.1 he).1
   have h9 : (i + 1) * k' ≤ ns.length * k' := Nat.mul_le_mul_right k' (by omega)
   rw [Nat.add_mul, Nat.one_mul] at h9
   rw [n4 _ (by omega)] at hy
   cases hy
   exact s4 i e' j u he hu) (fun b' => ∃ blk, (b', blk) ∈ [(b, Blk.acc k' (spliceL es off ns) ty)]) ((⟨some (.c (.val (.int .i64 (c : Nat)))), [(b, .acc k' (spliceL es off ns) ty)], [], nxt⟩ : Eff).kills nxt) ⟨_, List.mem_singleton.2 rfl⟩
  refine ⟨.value (goInt c), ι, _, ?_, .c _ _ (.val _ rfl), hst, ?_, hf, fun k hk => by cases hk⟩
  ·simp [execOp, hp, resolve, invoke, builtin, hdv, hxv, hrun]
  ·intro p hpm
   simp only [List.mem_singleton] at hpm
   subst hpm
   exact hblk
theorem take_ok (htt : TtOk P tt) {tmps : List (Nat × AV)} {heap : List (Nat × Blk)} {nxt : Nat} {o : Oper} {s x : Operand} {t t' e : TypeId} (hp : o.op = .call { callee := .builtin .append, args := #[s, x], argTypes := #[t, t'] }) (hd : tdesc tt t = some (.slice e)) {b k n k' off' m k1 : Nat} {es : List (List CV)} {ty : TypeId}
  (hse : evT tmps s = .own b k 0 n) (hxe : evT tmps x = .own b k' off' m) (hl : look heap b = some (.acc k1 es ty)) (hv : t = t' ∧ tsize tt e = some k ∧ k1 = k ∧ k' = k ∧ ty = e ∧ 0 < k ∧ n + m ≤ es.length ∧ off' + m ≤ es.length ∧ 0 < es.length) :
  Loc P o (evT tmps) (look heap) nxt ⟨some (.own b k 0 (n + m)), [(b, .acc k (spliceL es n ((es.drop off').take m)) ty)], [], nxt⟩ := by
 intro A ι w ρ hA hok hf hr hh
 obtain ⟨e0, hk, e1, e2, e3, hk0, hfit, hoff, hpos⟩ := hv
 subst e0 e1 e2 e3
 have rs := hr s (by simp [hp, Op.operands, Call.operands])
 have rx := hr x (by simp [hp, Op.operands, Call.operands])
 rw [hse] at rs
 rw [hxe] at rx
 obtain ⟨g0, cap0, hι0⟩ := blk_at (hh _ _ hl) hpos
 generalize hsv : ρ s = vs at rs
 cases rs with
 | ownNil _ _ h => rw [hι0] at h; cases h
 | own _ _ _ _ g cap a2 cc2 hι h1 h2 h3 h4 =>
  obtain ⟨ha2, hcc⟩ := h1 rfl
  subst ha2 hcc
  obtain ⟨cur, R⟩ := row_of (hh _ _ hl) hι
  have hu := under_of htt hd
  obtain ⟨inf, hinf, hsz⟩ := sinfo htt hk
  have hle := R.le
  have hres : Rep (Still A ι w) ι w (.own b k' 0 n) (.slice (some ⟨g, 0, none⟩) n cc2) := .own b k' 0 n g cc2 _ _ hι (fun _ => ⟨rfl, rfl⟩) h2 h3 h4
  by_cases hm : m = 0
  ·subst hm
   have hx0 : ∃ xa c, ρ x = .slice xa 0 c := by
    generalize ρ x = vx at rx
    cases rx with
    | ownNil => exact ⟨_, _, rfl⟩
    | own => exact ⟨_, _, rfl⟩
   obtain ⟨xa, c, hxv⟩ := hx0
   have hrun := run_append_zero (P := P) (w := w) t o.type ty (htt.desc hd w) (htt.size hk w) (some ⟨g, 0, none⟩) xa n cc2 c h3
   refine ⟨.value (.slice (some ⟨g, 0, none⟩) n cc2), ι, w, ?_, ?_, StepR.refl hok _ _, ?_, hf, fun k hk => by cases hk⟩
   ·simp [execOp, hp, resolve, invoke, builtin, hsv, hxv, hrun]
   ·simpa using hres
   ·intro p hpm
    simp only [List.mem_singleton] at hpm
    subst hpm
    have : spliceL es n ((es.drop off').take 0) = es := by simp [spliceL]
    rw [this]
    exact hh _ _ hl
  ·obtain ⟨a, cc, f, hxv, s1, s2, s3, s4⟩ := src_view hh hl rx hk0 (by omega) (Nat.le_refl m) hoff (blk_ek (hh _ _ hl))
   generalize hns : (es.drop off').take m = ns at *
   rw [← s1] at s3
   obtain ⟨n1, n2, n3, n4⟩ := news_list (A := A) (ι := ι) s2 hk0 s3 s4
   have hft : n * k' + ns.length * k' ≤ cc2 * k' := by rw [← Nat.add_mul]; exact Nat.mul_le_mul_right k' (by omega)
   have hrun := run_append_room (P := P) w t o.type ty inf hu hinf g n cc2 cur.toArray R.hp a ns.length cc _ (by rw [n1, hsz]) n2 n3 (by omega) (by rw [hsz, n1]; simp; rw [R.len]; exact hft)
   rw [hsz] at hrun
   obtain ⟨hst, hblk⟩ := R.write hok n ns (by omega) (by omega) s2 _ n1 (fun i e' j u y he hu hy => by
    have hj : j < k' := by rw [← s2 e' (List.mem_of_getElem? he)]; exact (List.getElem?_eq_some_iff.1 hu).1
    have hi := (List.getElem?_eq_some_iff.1 he).1
    have h9 : (i + 1) * k' ≤ ns.length * k' := Nat.mul_le_mul_right k' (by omega)
    rw [Nat.add_mul, Nat.one_mul] at h9
    rw [n4 _ (by omega)] at hy
    cases hy
    exact s4 i e' j u he hu) (fun b' => ∃ blk, (b', blk) ∈ [(b, Blk.acc k' (spliceL es n ns) ty)]) ((⟨some (.own b k' 0 (n + m)), [(b, .acc k' (spliceL es n ns) ty)], [], nxt⟩ : Eff).kills nxt) ⟨_, List.mem_singleton.2 rfl⟩
   simp only [List.toList_toArray] at hrun
   rw [s1] at hrun
   refine ⟨.value (.slice (some ⟨g, 0, none⟩) (n + m) cc2), ι, _, ?_, ?_, hst, ?_, hf, fun k hk => by cases hk⟩
   ·simp [execOp, hp, resolve, invoke, builtin, hsv, hxv, s1, hrun]
   ·exact .own b k' 0 (n + m) g cc2 _ _ hι (fun _ => ⟨rfl, rfl⟩) (fun _ => by simp) (by omega) h4
   ·intro p hpm
    simp only [List.mem_singleton] at hpm
    subst hpm
    exact hblk
theorem zero_cells (htt : TtOk P tt) {e : TypeId} {z : List CV} {k : Nat} (hz : tzero tt e = some z) (hk : tsize tt e = some k) (hk0 : 0 < k) (w : World) : ∃ zz : Value, (zeroValue e).run P w = .ok zz w ∧ (∀ inf, P.info? e = some inf → ∃ y, inf.zero = some y ∧ y = zz) ∧ zz.cells.size = k ∧ z.length = k ∧ (∀ c, (Builtin.zeroCells zz.cells c).toList.length = c * k) ∧
  (∀ c, ∀ v ∈ (Builtin.zeroCells zz.cells c).toList, v.oneCell' = true) ∧
  (∀ (c : Nat) (J : Nat → Prop) (w' : World) (i : Nat) (e' : List CV) (j : Nat) (u : CV) (x : Value), (List.replicate c z)[i]? = some e' → e'[j]? = some u → (Builtin.zeroCells zz.cells c).toList[i * k + j]? = some x → CRep J w' u x) := by
 obtain ⟨zz, hv0, hvc, hzs, hone⟩ := tzero_ok htt hz w
 have hzl : z.length = k := by rw [hk] at hzs; exact (Option.some.inj hzs).symm
 have hsize : zz.cells.size = k := by rw [hvc]; simpa using hzl
 have hform : ∀ c, Builtin.zeroCells zz.cells c = (Array.range (c * z.length)).map fun q => (z.map cvVal).toArray[q % z.length]! := fun c => by
  unfold Builtin.zeroCells
  rw [hvc]
  simp
 refine ⟨zz, hv0, fun inf hi => ?_, hsize, hzl, fun c => by rw [Array.length_toList, size_zeroCells, hsize], fun c v hv => ?_, fun c J w' i e' j u x he hu hx => ?_⟩
 ·simp only [zeroValue, typeInfo, Sem.run_bind] at hv0
  have h2 : ∃ y, inf.zero = some y ∧ y = zz := by
   cases hy : inf.zero with
   | none => simp [hi, hy] at hv0
   | some y => simp [hi, hy] at hv0; exact ⟨y, rfl, hv0⟩
  exact h2
 ·rw [hform] at hv
  simp only [Array.toList_map, Array.toList_range, List.mem_map, List.mem_range] at hv
  obtain ⟨q, hq, rfl⟩ := hv
  have hlt : q % z.length < z.length := Nat.mod_lt _ (by omega)
  have : (z.map cvVal).toArray[q % z.length]! = cvVal z[q % z.length] := by simp [hlt]
  rw [this]
  exact (CRep.zero (I := fun _ => True) (w := w) (hone _ (List.getElem_mem hlt))).one
 ·have hi : i < c := by have := (List.getElem?_eq_some_iff.1 he).1; simpa using this
  have he' : e' = z := by rw [List.getElem?_replicate, if_pos hi] at he; exact (Option.some.inj he).symm
  subst he'
  have hj : j < e'.length := (List.getElem?_eq_some_iff.1 hu).1
  have hfl := replicate_flat (e'.map cvVal) c i j hi (by simpa using hj)
  simp only [List.length_map] at hfl
  rw [hform, Array.getElem?_toList, ← hzl, hfl, List.getElem?_map, hu] at hx
  simp only [Option.map_some, Option.some.injEq] at hx
  subst hx
  exact .zero (hone u (List.mem_of_getElem? hu))
theorem clear_ok (htt : TtOk P tt) {tmps : List (Nat × AV)} {heap : List (Nat × Blk)} {nxt : Nat} {o : Oper} {x : Operand} {t e : TypeId} (hp : o.op = .call { callee := .builtin .clear, args := #[x], argTypes := #[t] }) (hd : tdesc tt t = some (.slice e)) {b k off n k1 : Nat} {es : List (List CV)} {ty : TypeId} {z : List CV}
  (hxe : evT tmps x = .own b k off n) (hl : look heap b = some (.acc k1 es ty)) (hz : tzero tt e = some z) (hv : k1 = k ∧ tsize tt e = some k ∧ 0 < k ∧ 0 < n ∧ off + n ≤ es.length) :
  Loc P o (evT tmps) (look heap) nxt ⟨some (.tup []), [(b, .acc k (spliceL es off (List.replicate n z)) ty)], [], nxt⟩ := by
 intro A ι w ρ hA hok hf hr hh
 obtain ⟨e1, hk, hk0, hn0, hfit⟩ := hv
 subst e1
 have rx := hr x (by simp [hp, Op.operands, Call.operands])
 rw [hxe] at rx
 obtain ⟨zz, z1, z2, z3, z4, z5, z6, z7⟩ := zero_cells htt hz hk hk0 w
 generalize hxv : ρ x = vx at rx
 cases rx with
 | ownNil => omega
 | own _ _ _ _ g cap a2 cc2 hι h1 h2 h3 h4 =>
  have ha2 := h2 (by omega)
  subst ha2
  obtain ⟨cur, R⟩ := row_of (hh _ _ hl) hι
  have hle := R.le
  have hlen : (Builtin.zeroCells zz.cells n).toList.length = (List.replicate n z).length * k1 := by rw [z5, List.length_replicate]
  have hft : off * k1 + n * k1 ≤ cap * k1 := by rw [← Nat.add_mul]; exact Nat.mul_le_mul_right k1 (by omega)
  have hst0 := run_storeCells_at P g (off * k1) ty (Builtin.zeroCells zz.cells n).toList 0 cur.toArray w R.hp (by rw [z5]; simp; rw [R.len]; exact hft) (z6 n)
  simp only [Nat.add_zero, List.toList_toArray] at hst0
  obtain ⟨hst, hblk⟩ := R.write hok off (List.replicate n z) (by omega) (by rw [List.length_replicate]; omega) (fun u hu => by rw [List.eq_of_mem_replicate hu, z4]) _ hlen (fun i e' j u y he hu hy => z7 n _ _ i e' j u y he hu hy)
   (fun b' => ∃ blk, (b', blk) ∈ [(b, Blk.acc k1 (spliceL es off (List.replicate n z)) ty)]) ((⟨some (.tup []), [(b, .acc k1 (spliceL es off (List.replicate n z)) ty)], [], nxt⟩ : Eff).kills nxt) ⟨_, List.mem_singleton.2 rfl⟩
  refine ⟨.value (.tuple #[]), ι, _, ?_, .tup [] [] rfl (fun i av x h _ => by simp at h), hst, ?_, hf, fun k hk => by cases hk⟩
  ·cases n with
   | zero => omega
   | succ n => simp [execOp, hp, resolve, invoke, builtin, hxv, Builtin.clear_, htt.desc hd w, z1, hst0]
  ·intro p hpm
   simp only [List.mem_singleton] at hpm
   subst hpm
   exact hblk
theorem zeros_ok (htt : TtOk P tt) {tmps : List (Nat × AV)} {heap : List (Nat × Blk)} {nxt : Nat} {o : Oper} {s x : Operand} {t t' e : TypeId} {kn kq : IntKind} (hp : o.op = .call { callee := .builtin .append, args := #[s, x], argTypes := #[t, t'] }) (hd : tdesc tt t = some (.slice e)) (hd' : tdesc tt t' = some (.int kn)) {b k n k1 k2 by_ cap : Nat} {c : Int} {es : List (List CV)} {ty : TypeId} {z : List CV} {q : Nat}
  (hse : evT tmps s = .own b k 0 n) (hxe : evT tmps x = .c (.val (.int kq c))) (hl : look heap b = some (.acc k1 es ty)) (hpin : pinOf q heap b = some cap) (hz : tzero tt e = some z) (hby : tbytes tt e = some by_) (hk : tsize tt e = some k2)
  (hv : k1 = k ∧ k2 = k ∧ 0 < k ∧ 0 < c ∧ n ≤ es.length ∧ (cap : Int) < n + c ∧ (n + c) * by_ ≤ 140737488355328 ∧ n + c ≤ 4611686018427387904) :
  Loc P o (evT tmps) (look heap) nxt ⟨some (.own nxt k 0 (n + c.toNat)), [(nxt, .acc k (es.take n ++ List.replicate c.toNat z) e)], [], nxt + 1⟩ := by
 intro A ι w ρ hA hok hf hr hh
 obtain ⟨e1, e2, hk0, hc0, hne, hcap, hbytes, hbig⟩ := hv
 subst e1 e2
 have rs := hr s (by simp [hp, Op.operands, Call.operands])
 have rx := hr x (by simp [hp, Op.operands, Call.operands])
 rw [hse] at rs
 rw [hxe] at rx
 have hxv : ρ x = .int kq c := rx.valOf rfl
 obtain ⟨c, rfl⟩ : ∃ m : Nat, c = m := ⟨c.toNat, by omega⟩
 simp only [Int.toNat_natCast]
 -- where the block lies
 obtain ⟨g, hι⟩ : ∃ g, ι b = some (.at g cap) := by
  unfold pinOf at hpin
  split at hpin
  ·rename_i b' g' cap' hlq
   rename_i arr
   cases hbb : b' == b with
   | false => rw [hbb] at hpin; cases hpin
   | true =>
    rw [hbb] at hpin
    cases hpin
    have := eq_of_beq hbb
    subst this
    have hq := hh _ _ hlq
    cases hq with
    | fr _ _ q1 q2 q3 =>
     match arr, q2 with
     | [y], _ =>
      have := q3 0 _ y rfl rfl
      cases this with
      | pl _ _ _ h => exact ⟨_, h⟩
  ·cases hpin
 generalize hsv : ρ s = vs at rs
 cases rs with
 | ownNil _ _ h => rw [hι] at h; cases h
 | own _ _ _ _ g' cap' a2 cc2 hι' h1 h2 h3 h4 =>
  rw [hι] at hι'
  simp only [Option.some.injEq, Plc.at.injEq] at hι'
  obtain ⟨rfl, rfl⟩ := hι'
  obtain ⟨ha2, hcc⟩ := h1 rfl
  subst ha2 hcc
  obtain ⟨cur, R⟩ := row_of (hh _ _ hl) hι
  have hu := under_of htt hd
  have hu' := under_of htt hd'
  obtain ⟨inf, zz, hinf, hsz, hbyt, hzz, hzc⟩ := tinfo htt hk hby
  obtain ⟨zz', z1, z2, z3, z4, z5, z6, z7⟩ := zero_cells htt hz hk hk0 w
  have hzeq : zz' = zz := by
   obtain ⟨y, q1, q2⟩ := z2 inf hinf
   rw [hzz] at q1
   cases q1
   exact q2.symm
  subst hzeq
  have hle := R.le
  have hmul : n * k2 ≤ cc2 * k2 := Nat.mul_le_mul_right k2 (by omega)
  have hold : (Builtin.firstCells inf.size n (.slice (some ⟨g, 0, none⟩) n cc2)).run P w.drew = .ok ((List.range (n * k2)).map fun q => cur.getD q undef).toArray w.drew := by
   have := run_loadCells (P := P) w.drew ⟨g, 0, none⟩ (n * k2) (fun q => cur.getD q undef) (fun j hj => by
    have hc : w.drew.cell? ((⟨g, 0, none⟩ : Addr).add j) = w.cell? ((⟨g, 0, none⟩ : Addr).add j) := rfl
    rw [hc, addr_add _ _ rfl, cell_of_row w g _ _ ty (0, 0) R.hp]
    have hlen := R.len
    simpa using getD_get (d := undef) (l := cur) (i := j) (by omega))
   simp only [Builtin.firstCells, hsz]
   exact this
  have hrun := Go.Lib.run_append_grow_zeros (P := P) w t t' o.type e inf zz' kq kn hu hu' hinf hzz (some ⟨g, 0, none⟩) n cc2 _ hold c (by omega) (by rw [hsz]; exact hk0) (by omega) (by omega) (by
   have : c * by_ ≤ (n + c) * by_ := Nat.mul_le_mul_right _ (by omega)
   have h9 : (n + c) * by_ ≤ 140737488355328 := by rw [← Int.natCast_add, ← Int.natCast_mul] at hbytes; omega
   rw [hbyt]; omega) (by
   rw [hbyt]
   exact growslice_fits (by omega) (by rw [← Int.natCast_add, ← Int.natCast_mul] at hbytes; omega))
  obtain ⟨hst, hblk⟩ := new_row (A := A) (ι := ι) (w := w) (es := es.take n) (ns := List.replicate c z) (e := e) (fo := fun q => cur.getD q undef) (f := fun q => (Builtin.zeroCells zz'.cells c).toList.getD q undef) hok nxt (n + c) cc2 (by rw [List.length_take, List.length_replicate]; omega) (by omega) zz' hzc
   (fun u hu => blk_ek (hh _ _ hl) u (List.mem_of_mem_take hu)) (fun u hu => by rw [List.eq_of_mem_replicate hu, z4])
   (fun i e' j u he hu => by
    have hi : i < n := by have := (List.getElem?_eq_some_iff.1 he).1; rw [List.length_take] at this; omega
    rw [List.getElem?_take, if_pos hi] at he
    have hj : j < k2 := by rw [← R.ek i e' he]; exact (List.getElem?_eq_some_iff.1 hu).1
    have h9 : (i + 1) * k2 ≤ n * k2 := Nat.mul_le_mul_right k2 (by omega)
    rw [Nat.add_mul, Nat.one_mul] at h9
    have hlen := R.len
    exact R.rep i e' j u _ he hu (getD_get (by omega)))
   (fun i e' j u he hu => by
    have hi : i < c := by have := (List.getElem?_eq_some_iff.1 he).1; simpa using this
    have he' : e' = z := by rw [List.getElem?_replicate, if_pos hi] at he; exact (Option.some.inj he).symm
    have hj : j < k2 := by rw [← z4, ← he']; exact (List.getElem?_eq_some_iff.1 hu).1
    have h9 : (i + 1) * k2 ≤ c * k2 := Nat.mul_le_mul_right k2 (by omega)
    rw [Nat.add_mul, Nat.one_mul] at h9
    exact z7 c _ _ i e' j u _ he hu (getD_get (by rw [z5]; omega)))
   (fun _ _ _ _ => .inr trivial) (fun b' => ∃ blk, (b', blk) ∈ [(nxt, Blk.acc k2 (es.take n ++ List.replicate c z) e)]) ((⟨some (.own nxt k2 0 (n + c)), [(nxt, .acc k2 (es.take n ++ List.replicate c z) e)], [], nxt + 1⟩ : Eff).kills nxt) (.inr (Nat.le_refl _)) _ rfl
  have hcells : ((List.map (fun q => cur.getD q undef) (List.range (n * k2))).toArray ++ Builtin.zeroCells zz'.cells c ++ Builtin.zeroCells zz'.cells (grownCap w (n + c) cc2 e - (n + c))) =
    (List.map (fun q => cur.getD q undef) (List.range ((es.take n).length * k2)) ++ List.map (fun q => (Builtin.zeroCells zz'.cells c).toList.getD q undef) (List.range ((List.replicate c z).length * k2)) ++ (Builtin.zeroCells zz'.cells (grownCap w (n + c) cc2 e - (n + c))).toList).toArray := by
   have e1 : (es.take n).length = n := by rw [List.length_take]; omega
   have e2 : List.map (fun q => (Builtin.zeroCells zz'.cells c).toList.getD q undef) (List.range ((List.replicate c z).length * k2)) = (Builtin.zeroCells zz'.cells c).toList := by
    rw [List.length_replicate, ← z5 c]
    apply List.ext_getElem (by simp)
    intro i h1 h2
    have h3 : i < (Builtin.zeroCells zz'.cells c).size := by simpa using h2
    simp [h3]
   rw [e1, e2]
   simp [← List.append_toArray]
  rw [hcells] at hrun
  refine ⟨.value (.slice (some ⟨w.heap.size, 0, none⟩) (n + c) (grownCap w (n + c) cc2 e)), _, _, ?_, ?_, hst.R rfl, ?_, ?_, fun k hk => by cases hk⟩
  ·simp [execOp, hp, resolve, invoke, builtin, hsv, hxv, hrun]
  ·exact .own nxt k2 0 (n + c) w.heap.size _ _ _ (setPl_same _ _ _) (fun _ => ⟨rfl, rfl⟩) (fun _ => by simp) (grownCap_ge w _ _ _) (by omega)
  ·intro p hpm
   simp only [List.mem_singleton] at hpm
   subst hpm
   exact hblk
  ·intro b' hb'
   have hb2 : nxt + 1 ≤ b' := hb'
   rw [setPl_other _ _ (by omega)]
   exact hf b' (by omega)
theorem pin_at {heap : List (Nat × Blk)} (hh : ∀ b blk, look heap b = some blk → BlkRep (Still A ι w) ι w b blk) {q b cap : Nat} (hpin : pinOf q heap b = some cap) : ∃ g, ι b = some (.at g cap) := by
 unfold pinOf at hpin
 split at hpin
 ·rename_i arr b' g' cap' hlq
  cases hbb : b' == b with
  | false => rw [hbb] at hpin; cases hpin
  | true =>
   rw [hbb] at hpin
   cases hpin
   have := eq_of_beq hbb
   subst this
   have hq := hh _ _ hlq
   cases hq with
   | fr _ _ q1 q2 q3 =>
    match arr, q2 with
    | [y], _ =>
     have := q3 0 _ y rfl rfl
     cases this with
     | pl _ _ _ h => exact ⟨_, h⟩
 ·cases hpin
theorem cap_ok (htt : TtOk P tt) {tmps : List (Nat × AV)} {heap : List (Nat × Blk)} {nxt : Nat} {o : Oper} {x : Operand} {t e : TypeId} (hp : o.op = .call { callee := .builtin .cap, args := #[x], argTypes := #[t] }) (hd : tdesc tt t = some (.slice e)) {b k n cap q : Nat}
  (hxe : evT tmps x = .own b k 0 n) (hpin : pinOf q heap b = some cap) : Loc P o (evT tmps) (look heap) nxt ⟨some (.c (.val (.int .i64 cap))), [], [], nxt⟩ := by
 intro A ι w ρ hA hok hf hr hh
 have rx := hr x (by simp [hp, Op.operands, Call.operands])
 rw [hxe] at rx
 obtain ⟨g, hι⟩ := pin_at hh hpin
 generalize hxv : ρ x = vx at rx
 cases rx with
 | ownNil _ _ h => rw [hι] at h; cases h
 | own _ _ _ _ g' cap' a2 cc2 hι' h1 h2 h3 h4 =>
  rw [hι] at hι'
  simp only [Option.some.injEq, Plc.at.injEq] at hι'
  obtain ⟨rfl, rfl⟩ := hι'
  obtain ⟨ha2, hcc⟩ := h1 rfl
  subst ha2 hcc
  refine ⟨.value (.int .i64 cc2), ι, w, ?_, .c _ _ (.val _ rfl), StepR.refl hok _ _, fun p hpm => by simp at hpm, hf, fun k hk => by cases hk⟩
  simp [execOp, hp, resolve, invoke, builtin, hxv, Builtin.cap_, htt.desc hd w, goInt]
theorem cut_ok (htt : TtOk P tt) {tmps : List (Nat × AV)} {heap : List (Nat × Blk)} {nxt : Nat} {o : Oper} {x h : Operand} {lo : Option Operand} {t e : TypeId} (hp : o.op = .slice t x lo (some h) none) (hd : tdesc tt t = some (.slice e)) {b k n k1 q : Nat} {es : List (List CV)} {ty : TypeId} {kh : IntKind} {hi l : Int}
  (hxe : evT tmps x = .own b k 0 n) (hhe : evT tmps h = .c (.val (.int kh hi))) (hlo : (lo = none ∧ l = 0) ∨ ∃ y kl, lo = some y ∧ evT tmps y = .c (.val (.int kl l))) (hl : look heap b = some (.acc k1 es ty))
  (hv : k1 = k ∧ tsize tt e = some k ∧ 0 ≤ l ∧ l ≤ hi ∧ (hi ≤ es.length ∨ ∃ cap, pinOf q heap b = some cap ∧ hi ≤ cap) ∧ 0 < es.length) : Loc P o (evT tmps) (look heap) nxt ⟨some (.own b k l.toNat (hi.toNat - l.toNat)), [], [], nxt⟩ := by
 intro A ι w ρ hA hok hf hr hh
 obtain ⟨e1, hk, hl0, hlh, hcap, hn0⟩ := hv
 subst e1
 have rx := hr x (by simp [hp, Op.operands])
 have rh := hr h (by simp [hp, Op.operands])
 rw [hxe] at rx
 rw [hhe] at rh
 have hhv : ρ h = .int kh hi := rh.valOf rfl
 obtain ⟨hi, rfl⟩ : ∃ m : Nat, hi = m := ⟨hi.toNat, by omega⟩
 obtain ⟨l, rfl⟩ : ∃ m : Nat, l = m := ⟨l.toNat, by omega⟩
 simp only [Int.toNat_natCast]
 obtain ⟨g0, cap0, hι0⟩ := blk_at (w := w) (hh _ _ hl) hn0
 generalize hxv : ρ x = vx at rx
 cases rx with
 | ownNil _ _ h => rw [hι0] at h; cases h
 | own _ _ _ _ g cap a2 cc2 hι h1 h2 h3 h4 =>
  obtain ⟨ha2, hcc⟩ := h1 rfl
  subst ha2 hcc
  obtain ⟨cur, R⟩ := row_of (hh _ _ hl) hι
  have hle := R.le
  have hic : hi ≤ cc2 := by
   rcases hcap with h | ⟨c, hc, h⟩
   ·omega
   ·obtain ⟨g', hι'⟩ := pin_at hh hc
    rw [hι] at hι'
    simp only [Option.some.injEq, Plc.at.injEq] at hι'
    omega
  have hlo' : (lo.map ρ = none ∧ l = 0) ∨ ∃ k, lo.map ρ = some (.int k l) := by
   rcases hlo with ⟨rfl, h⟩ | ⟨y, kl, rfl, hy⟩
   ·exact .inl ⟨rfl, by omega⟩
   ·have ry := hr y (by simp [hp, Op.operands])
    rw [hy] at ry
    exact .inr ⟨kl, by simp [ry.valOf rfl]⟩
  have hbd := run_sliceBounds (P := P) (w := w) (b := true) (n := n) (cap := cc2) (l := l) (h := hi) hlo' (.inr ⟨kh, rfl⟩) (by omega) hic
  have hse := htt.size hk w
  refine ⟨.value (.slice (some (if cc2 = l then ⟨g, 0, none⟩ else (⟨g, 0, none⟩ : Addr).add (l * k1))) (hi - l) (cc2 - l)), ι, w, ?_, ?_, StepR.refl hok _ _, fun p hpm => by simp at hpm, hf, fun k hk => by cases hk⟩
  ·simp only [execOp, hp, hxv, Option.map_some, Option.map_none, hhv, Instr.sliceAt, Instr.slice, Sem.run_bind, htt.desc hd w, Result.andThen_ok, hbd, hse, Sem.run_pure]
   split <;> rfl
  ·refine .own b k1 l (hi - l) g cc2 _ _ hι (fun h0 => ?_) (fun hne => ?_) (by omega) (by omega)
   ·subst h0
    refine ⟨?_, by omega⟩
    split
    ·rfl
    ·rw [addr_add _ _ rfl]; simp
   ·rw [if_neg (by omega), addr_add _ _ rfl, Nat.zero_add]
theorem slice3_ok (htt : TtOk P tt) {tmps : List (Nat × AV)} {heap : List (Nat × Blk)} {nxt : Nat} {o : Oper} {x lo hi mx : Operand} {t e : TypeId} (hp : o.op = .slice t x (some lo) (some hi) (some mx)) (hd : tdesc tt t = some (.slice e)) {b k off n : Nat} {kl kh km : IntKind} {l h m : Int}
  (hxe : evT tmps x = .own b k off n) (hle : evT tmps lo = .c (.val (.int kl l))) (hhe : evT tmps hi = .c (.val (.int kh h))) (hme : evT tmps mx = .c (.val (.int km m))) (hv : (tsize tt e).isSome = true ∧ 0 ≤ l ∧ l ≤ h ∧ h ≤ m ∧ m ≤ n) : Loc P o (evT tmps) (look heap) nxt ⟨some .top, [], [], nxt⟩ := by
 intro A ι w ρ hA hok hf hr hh
 obtain ⟨hk, h0, h1, h2, h3⟩ := hv
 obtain ⟨sz, hk⟩ := Option.isSome_iff_exists.1 hk
 have rx := hr x (by simp [hp, Op.operands])
 have r1 := hr lo (by simp [hp, Op.operands])
 have r2 := hr hi (by simp [hp, Op.operands])
 have r3 := hr mx (by simp [hp, Op.operands])
 rw [hxe] at rx
 rw [hle] at r1
 rw [hhe] at r2
 rw [hme] at r3
 have v1 : ρ lo = .int kl l := r1.valOf rfl
 have v2 : ρ hi = .int kh h := r2.valOf rfl
 have v3 : ρ mx = .int km m := r3.valOf rfl
 obtain ⟨a, cc, hx, hcc⟩ : ∃ a cc, ρ x = .slice a n cc ∧ n ≤ cc := by
  generalize ρ x = vx at rx
  cases rx with
  | ownNil => exact ⟨_, _, rfl, Nat.le_refl _⟩
  | own _ _ _ _ g cap a2 cc2 hι h1 h2 h3 h4 => exact ⟨_, _, rfl, h3⟩
 have hb : ∀ (k : IntKind) (i : Int) (y : Nat) code, 0 ≤ i → i ≤ y → (Instr.sliceBound (.int k i) y code).run P w = .ok i.toNat w := fun k i y code h0 hle => by
  simp only [Instr.sliceBound, asIntOf, Sem.run_bind, Sem.run_pure, Result.andThen_ok]
  rw [if_pos ⟨h0, hle⟩]
  rfl
 have hbd : (Instr.sliceBounds true n cc (some (ρ lo)) (some (ρ hi)) (some (ρ mx))).run P w = .ok (l.toNat, h.toNat, m.toNat) w := by
  unfold Instr.sliceBounds
  simp only [v1, v2, v3, Sem.run_bind, Sem.run_pure, Result.andThen_ok, Option.isSome_some, if_true]
  rw [hb _ _ _ _ (by omega) (by omega)]
  simp only [Result.andThen_ok]
  rw [hb _ _ _ _ (by omega) (by omega)]
  simp only [Result.andThen_ok]
  rw [hb _ _ _ _ (by omega) (by omega)]
  rfl
 refine ⟨.value (.slice (if m.toNat = l.toNat then a else a.map (·.add (l.toNat * sz))) (h.toNat - l.toNat) (m.toNat - l.toNat)), ι, w, ?_, .top _, StepR.refl hok _ _, fun p hpm => by simp at hpm, hf, fun k hk => by cases hk⟩
 simp only [execOp, hp, hx, Option.map_some, Instr.sliceAt, Instr.slice, Sem.run_bind, htt.desc hd w, Result.andThen_ok, hbd, htt.size hk w, Sem.run_pure]
end
theorem arr2 {α : Type} {a : Array α} {x y : α} (h : a.toList = [x, y]) : a = #[x, y] := by obtain ⟨l⟩ := a; simp at h; rw [h]
theorem arr1 {α : Type} {a : Array α} {x : α} (h : a.toList = [x]) : a = #[x] := by obtain ⟨l⟩ := a; simp at h; rw [h]
theorem moreE_ok {P : Program} {tt : TT} (htt : TtOk P tt) {q : Nat} {tmps : List (Nat × AV)} {heap : List (Nat × Blk)} {nxt : Nat} {o : Oper} {vc : Prop} {e : Eff} (h : moreE q tt tmps heap nxt o = some (vc, e)) (hvc : vc) : Loc P o (evT tmps) (look heap) nxt e ∧ (∀ c, o.op ≠ .defer c) := by
 have hop : ∀ p, o.op = p → (∀ c, p ≠ .defer c) → ∀ c, o.op ≠ .defer c := fun p hp hd c => by rw [hp]; exact hd c
 unfold moreE at h
 split at h
 ·rename_i t x lo hh hp
  unfold cutE at h
  split at h
  ·rename_i b k n kh hi l hxe hhe hlo
   split at h
   ·rename_i k1 es ty e' hlk hd
    cases h
    refine ⟨cut_ok htt hp hd hxe hhe ?_ hlk hvc, hop _ hp (by simp)⟩
    cases lo with
    | none => simp at hlo; exact .inl ⟨rfl, hlo.symm⟩
    | some y =>
     simp only at hlo
     split at hlo
     ·rename_i kl l' hy
      cases hlo
      exact .inr ⟨y, kl, rfl, hy⟩
     ·cases hlo
   ·cases h
  ·cases h
 ·rename_i t x l hh m hp
  split at h
  ·rename_i b k off n kl l' kh h' km m' hxe hle hhe hme
   split at h
   ·rename_i e' hd
    cases h
    exact ⟨slice3_ok htt hp hd hxe hle hhe hme hvc, hop _ hp (by simp)⟩
   ·cases h
  ·cases h
 ·rename_i args tys hp
  split at h
  ·rename_i x t ha ht
   split at h
   ·rename_i b k n e' hxe hd
    cases hpn : pinOf q heap b with
    | none => rw [hpn] at h; cases h
    | some cap =>
     rw [hpn] at h
     cases h
     rw [arr1 ha, arr1 ht] at hp
     exact ⟨cap_ok htt hp hd hxe hpn, hop _ hp (by simp)⟩
   ·cases h
  ·cases h
 ·rename_i args tys hp
  split at h
  ·rename_i d x t t' ha ht
   split at h
   ·rename_i e' hd
    split at h
    ·rename_i b k off n hde
     rw [hde] at h
     unfold copyE at h
     split at h
     ·rename_i b2 k2 off2 n2 b' k' off' m heq hxe
      cases heq
      split at h
      ·rename_i k1 es ty k3 es' ty' hl hl'
       simp only [Option.map_some, Option.some.injEq, Prod.mk.injEq] at h
       obtain ⟨rfl, rfl⟩ := h
       rw [arr2 ha, arr2 ht] at hp
       exact ⟨copy_ok htt hp hd hde hxe hl hl' hvc.1 hvc.2, hop _ hp (by simp)⟩
      ·cases h
     ·cases h
    ·cases h
   ·cases h
  ·cases h
 ·rename_i args tys hp
  split at h
  ·rename_i s x t t' ha ht
   rw [arr2 ha, arr2 ht] at hp
   refine ⟨?_, hop _ hp (by simp)⟩
   split at h
   ·rename_i r hr
    cases h
    unfold takeE at hr
    split at hr
    ·rename_i b k n b' k' off' m hse hxe
     cases hbb : b' == b with
     | false => rw [hbb] at hr; cases hr
     | true =>
      have := eq_of_beq hbb
      subst this
      rw [hbb] at hr
      simp only [cond_true] at hr
      split at hr
      ·rename_i k1 es ty e' hl hd
       cases hr
       exact take_ok htt hp hd hse hxe hl hvc
      ·cases hr
    ·cases hr
   ·unfold zerosE at h
    split at h
    ·rename_i b k n kq c hse hxe
     split at h
     ·rename_i k1 es ty e' kn cap hl hd hd' hpn
      split at h
      ·rename_i z by_ k2 hz hby hk
       cases h
       exact zeros_ok htt hp hd hd' hse hxe hl hpn hz hby hk hvc
      ·cases h
     ·cases h
    ·cases h
  ·cases h
 ·rename_i args tys hp
  split at h
  ·rename_i x t ha ht
   rw [arr1 ha, arr1 ht] at hp
   refine ⟨?_, hop _ hp (by simp)⟩
   unfold clearE at h
   split at h
   ·rename_i b k off n hxe
    split at h
    ·rename_i k1 es ty e' hl hd
     cases hz : tzero tt e' with
     | none => rw [hz] at h; cases h
     | some z =>
      rw [hz] at h
      cases h
      exact clear_ok htt hp hd hxe hl hz hvc
    ·cases h
   ·cases h
  ·cases h
 ·cases h
theorem reckX_ok {P : Program} {tt : TT} {eq : EQ} (q : Nat) (heq : EqOk P eq) (htt : TtOk P tt) : RkOk P tt (reckX q eq) := by
 intro tmps heap nxt o vc e hr hvc
 unfold reckX at hr
 split at hr
 ·rename_i r hm
  cases hr
  exact moreE_ok htt hm hvc
 ·exact reckB_ok heq htt _ _ _ _ _ _ hr hvc
end Go.Ab
