/-
  Maps whose keys are structs of whole numbers, held by the call alone. Theorems for any program.
  Structs of whole numbers compared (printed by gen_eq.py, a program of this work).
-/
import Derived.Test.YtpfgofnmkaljaaaMg25
import Derived.MapKept
import Derived.Test.YtpfgofnmkaljaaaMg21
import Derived.Test.YtpfgofnmkaljaaaMg22
import Derived.Test.YtpfgofnmkaljaaaMg23
import Derived.Laws.StructEq
set_option linter.unusedVariables false
set_option linter.unusedSimpArgs false
namespace Go.Ab
open Go Go.RowKit
def keyVal (ks : List (IntKind × Int)) : Value := .agg (ks.map fun q => Value.int q.1 q.2).toArray
def findM : List (List (IntKind × Int) × Value) → List Int → Option (Nat × Value)
 | [], _ => none
 | p :: r, ns => bif decide (ns = p.1.map (·.2)) then some (0, p.2) else (findM r ns).map fun q => (q.1 + 1, q.2)
def putM (es : List (List (IntKind × Int) × Value)) (ks : List (IntKind × Int)) (v : Value) : List (List (IntKind × Int) × Value) :=
 match findM es (ks.map (·.2)) with
 | some (i, _) => es.set i (ks, v)
 | none => es ++ [(ks, v)]
def lookM (es : List (List (IntKind × Int) × Value)) (ks : List (IntKind × Int)) (d : Value) : Value := match findM es (ks.map (·.2)) with | some (_, v) => v | none => d
def ZeroOk (P : Program) (e : TypeId) (z : Value) : Prop := ∀ w : World, (zeroValue e).run P w = .ok z w
def KeyOk (P : Program) (k : TypeId) (n : Nat) : Prop := ∀ (w : World) (e : Bool) (ks : List (IntKind × Int)), ks.length = n → (Instr.checkKey e 10000 k (keyVal ks)).run P w = .ok () w
def SameK (es : List (List (IntKind × Int) × Value)) (ks : List (IntKind × Int)) : Prop := ∀ p ∈ es, ks.map (·.1) = p.1.map (·.1)
theorem sameBits_ints : ∀ (n : Nat) (ks : List (IntKind × Int)), ((ks.map (fun q => Value.int q.1 q.2)).zip (ks.map fun q => Value.int q.1 q.2)).all (fun p => Instr.sameBits n p.1 p.2) = true
 | n, [] => rfl
 | n, q :: r => by
  simp only [List.map_cons, List.zip_cons_cons, List.all_cons, Bool.and_eq_true]
  refine ⟨?_, sameBits_ints n r⟩
  cases n <;> simp [Instr.sameBits]
theorem sameBits_key (ks : List (IntKind × Int)) : Instr.sameBits 10000 (keyVal ks) (keyVal ks) = true := by
 have := sameBits_ints 9999 ks
 show Instr.sameBits (9999 + 1) _ _ = true
 unfold keyVal
 rw [Instr.sameBits]
 simpa using this
section
variable {P : Program} {eq : EQ}
theorem run_findAsking (heq : EqOk P eq) {k : TypeId} {n : Nat} (he : eq k = some n) {ks : List (IntKind × Int)} (hl : ks.length = n) (w : World) :
  ∀ (arr : List MapEntry) (es : List (List (IntKind × Int) × Value)) (i : Nat), arr.length = es.length → (∀ (i : Nat) p x, es[i]? = some p → arr[i]? = some x → x.key = keyVal p.1 ∧ x.val = p.2) → SameK es ks →
  (Instr.findAsking k (keyVal ks) arr i).run P w = .ok ((findM es (ks.map (·.2))).map fun p => (i + p.1, p.2)) w
 | [], [], i, _, _, _ => by simp [Instr.findAsking, findM]
 | x :: arr, p :: es, i, hlen, hrel, hk => by
  obtain ⟨h1, h2⟩ := hrel 0 p x rfl rfl
  have heq' := (heq k n he w ks p.1 default default hl (hk p List.mem_cons_self)).2.2
  have ih := run_findAsking heq he hl w arr es (i + 1) (by simpa using hlen) (fun j p x hp hx => hrel (j + 1) p x (by simpa using hp) (by simpa using hx)) (fun q hq => hk q (List.mem_cons_of_mem _ hq))
  rw [Instr.findAsking]
  rw [h1]
  unfold keyVal at ih ⊢
  rw [Sem.run_bind, heq', Result.andThen_ok]
  simp only [findM]
  cases hd : decide (ks.map (·.2) = p.1.map (·.2)) with
  | true => simp [h2]
  | false =>
   simp only [Bool.false_eq_true, if_false, cond_false]
   rw [ih]
   cases findM es (ks.map (·.2)) with
   | none => rfl
   | some q => simp; omega
 | [], _ :: _, _, h, _, _ => by simp at h
 | _ :: _, [], _, h, _, _ => by simp at h
theorem run_findKey (heq : EqOk P eq) {k : TypeId} {n : Nat} (he : eq k = some n) {fs : Array Field} (hu : P.underlying k = some (.struct fs)) {ks : List (IntKind × Int)} (hl : ks.length = n) (w : World)
  {arr : List MapEntry} {es : List (List (IntKind × Int) × Value)} (hlen : arr.length = es.length) (hrel : ∀ (i : Nat) p x, es[i]? = some p → arr[i]? = some x → x.key = keyVal p.1 ∧ x.val = p.2) (hk : SameK es ks) :
  (Instr.findKey k (keyVal ks) arr).run P w = .ok (findM es (ks.map (·.2))) w := by
 unfold Instr.findKey
 rw [Sem.run_bind, run_underlying hu, Result.andThen_ok]
 cases arr with
 | nil =>
  have : es = [] := by
   cases es with
   | nil => rfl
   | cons p r => simp at hlen
  subst this
  rfl
 | cons x arr =>
  have hnow : Instr.findNow (.struct fs) (keyVal ks) (x :: arr) 0 = none := by
   rw [Instr.findNow]
   rfl
  rw [hnow]
  simp only
  rw [run_findAsking heq he hl w (x :: arr) es 0 hlen hrel hk]
  cases findM es (ks.map (·.2)) with
  | none => rfl
  | some q => simp
theorem findM_lt : ∀ {es : List (List (IntKind × Int) × Value)} {ns : List Int} {q : Nat × Value}, findM es ns = some q → ∃ p, es[q.1]? = some p ∧ p.1.map (·.2) = ns ∧ p.2 = q.2
 | [], ns, q, h => by cases h
 | p :: r, ns, q, h => by
  simp only [findM] at h
  cases hd : decide (ns = p.1.map (·.2)) with
  | true => rw [hd] at h; cases h; exact ⟨p, rfl, (of_decide_eq_true hd).symm, rfl⟩
  | false =>
   rw [hd] at h
   simp only [cond_false, Option.map_eq_some_iff] at h
   obtain ⟨q', h1, rfl⟩ := h
   obtain ⟨p', h2, h3, h4⟩ := findM_lt h1
   exact ⟨p', by simpa using h2, h3, h4⟩
theorem keys_eq {a b : List (IntKind × Int)} (h1 : a.map (·.1) = b.map (·.1)) (h2 : a.map (·.2) = b.map (·.2)) : a = b := by
 induction a generalizing b with
 | nil => cases b with | nil => rfl | cons x r => simp at h1
 | cons x r ih =>
  cases b with
  | nil => simp at h1
  | cons y s =>
   simp only [List.map_cons, List.cons.injEq] at h1 h2
   rw [ih h1.2 h2.2, Prod.ext h1.1 h2.1]
variable {tt : TT}
theorem makeMap_ok {tmps : List (Nat × AV)} {hp : Nat → Option Blk} {nxt : Nat} {o : Oper} {t : TypeId} (hop : o.op = .makeMap t none) : Loc P o (evT tmps) hp nxt ⟨some (.mref nxt), [(nxt, .mp [])], [], nxt + 1⟩ := by
 intro A ι w ρ hA hok hf hr hh
 have hst := step_new hok nxt 0 (.map #[] 0) (fun b => ∃ blk, (b, blk) ∈ [(nxt, Blk.mp [])]) ((⟨some (.mref nxt), [(nxt, .mp [])], [], nxt + 1⟩ : Eff).kills nxt) (.inr (Nat.le_refl _)) (w' := w.alloc (.map #[] 0)) rfl rfl rfl rfl
 refine ⟨.value (.map (some w.heap.size)), setPl ι nxt (.at w.heap.size 0), w.alloc (.map #[] 0), ?_, ?_, hst, ?_, ?_, fun k hk => by cases hk⟩
 ·simp [execOp, hop, Instr.makeMap]
 ·exact .mref nxt w.heap.size 0 (setPl_same _ _ _)
 ·intro p hp
  rw [List.mem_singleton.1 hp]
  exact .mp [] #[] 0 w.heap.size (setPl_same _ _ _) (heap_alloc_new w _) rfl fun i p x hp => by simp at hp
 ·intro b hb
  have hb' : nxt + 1 ≤ b := hb
  rw [setPl_other _ _ (by omega)]
  exact hf b (by omega)
theorem aggInts {I : Nat → Prop} {ι : Pl} {w : World} {cs : List AV} {x : Value} {ks : List (IntKind × Int)} (hx : Rep I ι w (.agg cs) x) (hi : intsOf cs = some ks) : x = keyVal ks := by
 cases hx with
 | agg _ xs h1 h2 h3 =>
  rw [intsOf_ok hi h1 h3]
  rfl
theorem lookup_ok (heq : EqOk P eq) (htt : TtOk P tt) {tmps : List (Nat × AV)} {heap : List (Nat × Blk)} {nxt : Nat} {o : Oper} {t k e : TypeId} {m i : Operand} {n b : Nat} {cs : List AV} {ks : List (IntKind × Int)} {es : List (List (IntKind × Int) × Value)} {fs : Array Field} {z : Value}
  (hop : o.op = .lookup t m i false) (hd : tdesc tt t = some (.map k e)) (hk : tdesc tt k = some (.struct fs)) (he : eq k = some n) (hkey : KeyOk P k n) (hm : evT tmps m = .mref b) (hi : evT tmps i = .agg cs) (hc : intsOf cs = some ks) (hb : look heap b = some (.mp es))
  (hz : ZeroOk P e z) (hl : ks.length = n) (hs : SameK es ks) (hone : (lookM es ks z).oneCell' = true) : Loc P o (evT tmps) (look heap) nxt ⟨some (.c (.val (lookM es ks z))), [], [], nxt⟩ := by
 intro A ι w ρ hA hok hf hr hh
 have hmr := hr m (by simp [hop, Op.operands])
 have hir := hr i (by simp [hop, Op.operands])
 rw [hm] at hmr
 rw [hi] at hir
 have hix := aggInts hir hc
 generalize hρm : ρ m = vm at hmr
 cases hmr with
 | mref _ g cap hι =>
  have hblk := hh b _ hb
  cases hblk with
  | mp _ arr clock g' h1 h2 h3 h4 =>
   rw [hι] at h1
   cases h1
   have hrel : ∀ (i : Nat) p x, es[i]? = some p → arr.toList[i]? = some x → x.key = keyVal p.1 ∧ x.val = p.2 := fun i p x hp hx => h4 i p x hp (by simpa using hx)
   have hfind := run_findKey heq he (fs := fs) (by
    unfold tdesc at hk
    cases ht : tt k with
    | none => simp [ht] at hk
    | some i => simp [ht] at hk; rw [← hk]; exact (htt k i ht).1) hl w (arr := arr.toList) (by simpa using h3) hrel hs
   have hzero := hz w
   refine ⟨.value (lookM es ks z), ι, w, ?_, .c _ _ (.val _ hone), StepR.refl hok _ _, fun p hp => by simp at hp, hf, fun k hk => by cases hk⟩
   simp only [execOp, hop, hρm, hix, Instr.lookup, Sem.run_bind, htt.desc hd w, Result.andThen_ok, Sem.run_pure, MapKept.run_getObj_map h2, hkey w _ ks hl, hfind]
   unfold lookM
   cases findM es (ks.map (·.2)) with
   | none => simp [hzero, Result.andThen_ok]
   | some q => simp [Result.andThen_ok]
theorem mapUpdate_ok (heq : EqOk P eq) (htt : TtOk P tt) {tmps : List (Nat × AV)} {heap : List (Nat × Blk)} {nxt : Nat} {o : Oper} {t k e : TypeId} {m i y : Operand} {n b : Nat} {cs : List AV} {ks : List (IntKind × Int)} {es : List (List (IntKind × Int) × Value)} {fs : Array Field} {v : Value}
  (hop : o.op = .mapUpdate t m i y) (hd : tdesc tt t = some (.map k e)) (hk : tdesc tt k = some (.struct fs)) (he : eq k = some n) (hkey : KeyOk P k n) (hm : evT tmps m = .mref b) (hi : evT tmps i = .agg cs) (hc : intsOf cs = some ks) (hb : look heap b = some (.mp es))
  (hy : evT tmps y = .c (.val v)) (hl : ks.length = n) (hs : SameK es ks) : Loc P o (evT tmps) (look heap) nxt ⟨none, [(b, .mp (putM es ks v))], [], nxt⟩ := by
 intro A ι w ρ hA hok hf hr hh
 have hmr := hr m (by simp [hop, Op.operands])
 have hir := hr i (by simp [hop, Op.operands])
 have hyr := hr y (by simp [hop, Op.operands])
 rw [hm] at hmr
 rw [hi] at hir
 rw [hy] at hyr
 have hix := aggInts hir hc
 have hyx : ρ y = v := hyr.valOf rfl
 generalize hρm : ρ m = vm at hmr
 cases hmr with
 | mref _ g cap hι =>
  have hblk := hh b _ hb
  cases hblk with
  | mp _ arr clock g' h1 h2 h3 h4 =>
   rw [hι] at h1
   cases h1
   have hrel : ∀ (i : Nat) p x, es[i]? = some p → arr.toList[i]? = some x → x.key = keyVal p.1 ∧ x.val = p.2 := fun i p x hp hx => h4 i p x hp (by simpa using hx)
   have hfind := run_findKey heq he (fs := fs) (by
    unfold tdesc at hk
    cases ht : tt k with
    | none => simp [ht] at hk
    | some i => simp [ht] at hk; rw [← hk]; exact (htt k i ht).1) hl w (arr := arr.toList) (by simpa using h3) hrel hs
   have hlt : g < w.heap.size := (Array.getElem?_eq_some_iff.1 h2).1
   have hst : ∀ ob, StepR ι w ι { w with heap := w.heap.setIfInBounds g ob } (fun b' => ∃ blk, (b', blk) ∈ [(b, Blk.mp (putM es ks v))]) ((⟨none, [(b, .mp (putM es ks v))], [], nxt⟩ : Eff).kills nxt) := fun ob =>
    StepO.R ⟨rfl, rfl, rfl, by simp, fun _ _ => rfl, fun b' g c h => .inl ⟨b', c, h⟩, fun g1 hg hn => by
     have hne : g ≠ g1 := fun e => hn b 0 ⟨_, List.mem_singleton.2 rfl⟩ (by rw [← e]; exact hι)
     simp [Array.getElem?_setIfInBounds_ne hne], hok.grow (by simp)⟩ rfl
   have hnew : ∀ (arr' : Array MapEntry) (clock' : Nat), arr'.size = (putM es ks v).length → (∀ (i : Nat) p x, (putM es ks v)[i]? = some p → arr'[i]? = some x → x.key = keyVal p.1 ∧ x.val = p.2) →
     BlkRep (Still A ι { w with heap := w.heap.setIfInBounds g (.map arr' clock') }) ι { w with heap := w.heap.setIfInBounds g (.map arr' clock') } b (.mp (putM es ks v)) := fun arr' clock' q1 q2 =>
    .mp _ arr' clock' g hι (by simp [hlt]) q1 q2
   cases hq : findM es (ks.map (·.2)) with
   | none =>
    refine ⟨.skip, ι, { w with heap := w.heap.setIfInBounds g (.map (arr.push { key := keyVal ks, val := v, born := clock }) (clock + 1)) }, ?_, trivial, hst _, ?_, hf, fun k hk => by cases hk⟩
    ·simp only [execOp, hop, hρm, hix, hyx, Instr.mapUpdate, Sem.run_bind, htt.desc hd w, Result.andThen_ok, MapKept.run_getObj_map h2, hkey w _ ks hl, hfind, hq, MapKept.run_setObj_map _ h2, Sem.run_pure]
    ·intro p hp
     rw [List.mem_singleton.1 hp]
     refine hnew _ _ (by simp [putM, hq, h3]) fun i p x hp hx => ?_
     simp only [putM, hq] at hp
     by_cases hi : i < es.length
     ·rw [List.getElem?_append_left hi] at hp
      rw [Array.getElem?_push_lt (by omega)] at hx
      exact h4 i p x hp (by rw [← hx]; simp [h3, hi])
     ·rw [List.getElem?_append_right (by omega)] at hp
      have hie : i = es.length := by
       have := (List.getElem?_eq_some_iff.1 hp).1
       simp at this
       omega
      subst hie
      simp at hp
      subst hp
      rw [← h3] at hx
      simp at hx
      subst hx
      exact ⟨rfl, rfl⟩
   | some q =>
    obtain ⟨p0, e1, e2, e3⟩ := findM_lt hq
    have hp0 : ks = p0.1 := keys_eq (hs p0 (List.mem_of_getElem? e1)) e2.symm
    have hqlt : q.1 < arr.size := by rw [h3]; exact (List.getElem?_eq_some_iff.1 e1).1
    have hkx : arr[q.1].key = keyVal ks := by
     rw [hp0]
     exact (h4 q.1 p0 _ e1 (Array.getElem?_eq_getElem hqlt)).1
    refine ⟨.skip, ι, { w with heap := w.heap.setIfInBounds g (.map (arr.modify q.1 fun e => { e with key := keyVal ks, val := v }) clock) }, ?_, trivial, hst _, ?_, hf, fun k hk => by cases hk⟩
    ·have hstay : (Instr.keyThatStays (((arr[q.1]?).map (·.key)).getD (keyVal ks)) (keyVal ks)).run P w = .ok (keyVal ks) w := by
      rw [Array.getElem?_eq_getElem hqlt]
      simp only [Option.map_some, Option.getD_some, hkx, Instr.keyThatStays, sameBits_key, if_true]
      rfl
     simp only [execOp, hop, hρm, hix, hyx, Instr.mapUpdate, Sem.run_bind, htt.desc hd w, Result.andThen_ok, MapKept.run_getObj_map h2, hkey w _ ks hl, hfind, hq, hstay, MapKept.run_setObj_map _ h2, Sem.run_pure]
    ·intro p hp
     rw [List.mem_singleton.1 hp]
     refine hnew _ _ (by simp [putM, hq, h3]) fun i p x hp hx => ?_
     simp only [putM, hq] at hp
     rw [Array.getElem?_modify] at hx
     by_cases hi : q.1 = i
     ·subst hi
      rw [List.getElem?_set_self (by rw [← h3]; exact hqlt)] at hp
      cases hp
      rw [if_pos rfl, Array.getElem?_eq_getElem hqlt] at hx
      cases hx
      exact ⟨rfl, rfl⟩
     ·rw [List.getElem?_set_ne hi] at hp
      rw [if_neg hi] at hx
      exact h4 i p x hp hx
end
end Go.Ab

set_option linter.unusedVariables false
set_option linter.unusedSimpArgs false
namespace Go.Ab.Try
open Go Go.Proofs Go.Ab
def eqF : EQ := fun t => match t with | 61 => some 4 | 34 => some 2 | 171 => some 3 | 78 => some 2 | _ => none
theorem held_no : ∀ t ∈ ([61, 34, 171, 78] : List TypeId), Try.prog.stoodInHeld t = false := fun t ht => by
    rcases List.mem_cons.1 ht with rfl | ht
    · kernel_rfl
    · rcases List.mem_cons.1 ht with rfl | ht
      · kernel_rfl
      · rcases List.mem_cons.1 ht with rfl | ht
        · kernel_rfl
        · rcases List.mem_cons.1 ht with rfl | ht
          · kernel_rfl
          · cases ht
theorem eqS {t n : Nat} (ht : eqCells [61, 34, 171, 78] tt 3 t = some n) (ha : tagg tt t = some (true, n)) (h0 : Try.prog.eqGuardType Try.prog.depth t = false) (w : World) (xs ys : List (IntKind × Int)) (x y : Operand) (hl : xs.length = n) (hk : xs.map (·.1) = ys.map (·.1)) :
    (eqGuard .eql t x y (.agg (vals xs).toArray) (.agg (vals ys).toArray)).run Try.prog w = .ok () w ∧
    (eqGuard .neq t x y (.agg (vals xs).toArray) (.agg (vals ys).toArray)).run Try.prog w = .ok () w ∧
    (Op.equal t (.agg (vals xs).toArray) (.agg (vals ys).toArray)).run Try.prog w = .ok (decide (xs.map (·.2) = ys.map (·.2))) w := by
  have hg : ∀ op a b, (eqGuard op t x y (.agg a) (.agg b)).run Try.prog w = .ok () w := by
    intro op a b
    unfold eqGuard
    cases op <;> simp [h0]
  refine ⟨hg _ _ _, hg _ _ _, ?_⟩
  exact eqCells_run ttOk [61, 34, 171, 78] held_no 3 t n ht 10000 (by decide) w true xs ys ha hl hk
theorem eqOk : EqOk Try.prog eqF := by
  intro t n h w xs ys x y hl hk
  unfold eqF at h
  split at h
  · cases h
    exact eqS (by rfl) (by rfl) (by kernel_rfl) w xs ys x y hl hk
  · cases h
    exact eqS (by rfl) (by rfl) (by kernel_rfl) w xs ys x y hl hk
  · cases h
    exact eqS (by rfl) (by rfl) (by kernel_rfl) w xs ys x y hl hk
  · cases h
    exact eqS (by rfl) (by rfl) (by kernel_rfl) w xs ys x y hl hk
  · cases h
theorem part_int {t : TypeId} (ha : tagg tt t = some (false, 1)) {cs : Array Value} {off : Nat} {v : Value} (h : cs[off]? = some v) (w : World) : (part t cs off).run Try.prog w = .ok v w := by
  unfold part
  rw [Sem.run_bind, (ttOk.agg ha w).1, Result.andThen_ok]
  simp [h]
theorem check_int {t : TypeId} {k : IntKind} (hd : tdesc tt t = some (.int k)) (n : Nat) (e : Bool) (j : IntKind) (x : Int) (w : World) : (Instr.checkKey e (n + 1) t (.int j x)).run Try.prog w = .ok () w := by
  rw [Instr.checkKey.eq_def]
  simp only [Sem.run_bind, ttOk.desc hd w, Result.andThen_ok]
  rfl
theorem zero_ok {t : TypeId} {z : Value} (h : (Try.prog.info? t).map (fun i => i.zero) = some (some z)) : ZeroOk Try.prog t z := by
  intro w
  cases hi : Try.prog.info? t with
  | none => rw [hi] at h; cases h
  | some i =>
    rw [hi] at h
    have h2 : i.zero = some z := by simpa using h
    simp [zeroValue, typeInfo, hi, h2]
theorem keyOk78 : KeyOk Try.prog 78 2 := by
  intro w e ks hl
  match ks, hl with
  | [a0, a1], _ =>
    show (Instr.checkKey e (9999 + 1) 78 (.agg #[.int a0.1 a0.2, .int a1.1 a1.2])).run Try.prog w = .ok () w
    rw [Instr.checkKey.eq_def]
    simp only [Sem.run_bind, run_underlying k78.1, i78, Result.andThen_ok]
    simp
    simp only [Sem.run_bind, part_int (t := 3) (v := .int a0.1 a0.2) rfl (show (#[Value.int a0.1 a0.2, Value.int a1.1 a1.2] : Array Value)[0]? = some _ from rfl), part_int (t := 3) (v := .int a1.1 a1.2) rfl (show (#[Value.int a0.1 a0.2, Value.int a1.1 a1.2] : Array Value)[1]? = some _ from rfl), Result.andThen_ok, check_int (t := 3) rfl 9998]
theorem zeroOk4 : ZeroOk Try.prog 4 (.bool false) := zero_ok (by kernel_rfl)
theorem EVA : type_of% (And.intro @EV1 (And.intro @EV2 (And.intro @EV3 (And.intro @EV4 (And.intro @EV5 (And.intro @EV6 (And.intro @EV7 (And.intro @EV8 (And.intro @EV9 (And.intro @EV10 @EV11)))))))))) :=
  And.intro @EV1 (And.intro @EV2 (And.intro @EV3 (And.intro @EV4 (And.intro @EV5 (And.intro @EV6 (And.intro @EV7 (And.intro @EV8 (And.intro @EV9 (And.intro @EV10 @EV11)))))))))
theorem EVB : type_of% (And.intro @EVA (And.intro @List.length_map.{0,0} (And.intro @Bool.and_true (And.intro @Bool.true_and (And.intro @Bool.and_false (And.intro @Bool.false_and (And.intro @Int.toNat_natCast (And.intro @ne_eq.{1} (not_false_eq_true))))))))) := And.intro @EVA (And.intro @List.length_map.{0,0} (And.intro @Bool.and_true (And.intro @Bool.true_and (And.intro @Bool.and_false (And.intro @Bool.false_and (And.intro @Int.toNat_natCast (And.intro @ne_eq.{1} (not_false_eq_true))))))))
end Go.Ab.Try
