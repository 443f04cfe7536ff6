/-
  A literal slice whose elements are one cell each, over blocks of the call's own.
-/
import Derived.Test.YtnlpmpndhngimaaB6
import Derived.Test.YtnlpmpndhngimaaN1
set_option linter.unusedVariables false
set_option linter.unusedSimpArgs false
namespace Go.Ab
open Go Go.RowKit

theorem SpecK.loc {cx : Cx} {o : Oper} {KK : AState → Prop} {s : AState} {e : Eff} (hloc : Loc cx.P o (evT s.tmps) (look s.heap) s.nxt e) (hnd : ∀ c, o.op ≠ .defer c) (hd : match o.dst with | some t => t < cx.n | none => True) (hK : KK (s.apply o e)) : SpecK cx o KK s := by
  intro ι a w next Q hs hn
  refine ⟨about_trivial cx o a w, ?_⟩
  rw [semAt_plain _ _ _ hnd]
  obtain ⟨nx, ι', w', hrun, hres, hst, hwr, hfr, hkw⟩ := hloc cx.A ι w a.eval hs.base.fresh hs.ok hs.free (fun x _ => hs.ev x) hs.heap
  rw [hrun]
  have hd' : ∀ t, o.dst = some t → t < cx.n := fun t ht => by rw [ht] at hd; exact hd
  cases hres' : e.res with
  | some av =>
    rw [hres'] at hres
    cases nx <;> simp only at hres
    rename_i v
    simp only [Oper.uponIn]
    exact hn _ ι' _ w' hK (hs.apply hst hwr hfr hkw (by rw [hres']; exact hres) hd')
  | none =>
    rw [hres'] at hres
    cases nx <;> simp only at hres
    simp only [Oper.uponIn]
    exact hn _ ι' _ w' hK (hs.apply hst hwr hfr hkw (by rw [hres']; exact .tup [] [] rfl (fun i av x ha _ => by simp at ha)) hd')

def partsB (tmps : List (Nat × AV)) : Nat → List (Nat × Operand) → Option (List AV)
  | _, [] => some []
  | i, (j, x) :: r => match cellsOf (evT tmps x), partsB tmps (i + 1) r with
    | some [u], some l => bif i == j then some (u :: l) else none
    | _, _ => none

theorem partsB_ok {A : Nat → Prop} {ι : Pl} {w : World} {tmps : List (Nat × AV)} {ρ : Operand → Value} : ∀ {i : Nat} {ps : List (Nat × Operand)} {cs : List AV}, partsB tmps i ps = some cs → (∀ p ∈ ps, Rep (Still A ι w) ι w (evT tmps p.2) (ρ p.2)) →
    ∃ vs xs : List Value, vs.length = cs.length ∧ xs.length = cs.length ∧ (ps.map fun p => (p.1, ρ p.2)) = (vs.zipIdx i).map (fun x => (x.2, x.1)) ∧ (vs.flatMap fun v => v.cells.toList) = xs ∧ (∀ v ∈ vs, v.cells.size = 1) ∧ (∀ x ∈ xs, x.oneCell' = true) ∧ ∀ (q : Nat) u x, cs[q]? = some u → xs[q]? = some x → Rep (Still A ι w) ι w u x
  | i, [], cs, h, _ => by cases h; exact ⟨[], [], rfl, rfl, rfl, rfl, fun v hv => (by cases hv), fun x hx => (by cases hx), fun q u x h => (by simp at h)⟩
  | i, (j, x) :: r, cs, h, hr => by
    simp only [partsB] at h
    split at h
    · rename_i u l hu hl
      cases e : i == j with
      | false => simp [e] at h
      | true =>
        simp [e] at h
        subst h
        have := eq_of_beq e
        subst this
        obtain ⟨ys, g1, g2, g3, g4⟩ := cellsOf_ok hu (hr (i, x) List.mem_cons_self)
        obtain ⟨vs, xs, k1, k2, k3, k4, k5, k6, k7⟩ := partsB_ok hl fun p hp => hr p (List.mem_cons_of_mem _ hp)
        match ys, g2 with
        | [y], _ =>
          refine ⟨ρ x :: vs, y :: xs, by simp [k1], by simp [k2], ?_, ?_, fun v hv => ?_, fun z hz => ?_, fun q u' x' hq hx' => ?_⟩
          · simp only [List.map_cons, List.zipIdx_cons, k3]
          · rw [List.flatMap_cons, k4, g1]; rfl
          · rcases List.mem_cons.1 hv with rfl | hv
            · rw [g1]; rfl
            · exact k5 v hv
          · rcases List.mem_cons.1 hz with rfl | hz
            · exact g3 _ List.mem_cons_self
            · exact k6 z hz
          · cases q with
            | zero => simp at hq hx'; subst hq hx'; exact g4 0 _ _ rfl rfl
            | succ q => exact k7 q u' x' (by simpa using hq) (by simpa using hx')
    · cases h

theorem buildBox_ok {P : Program} {tt : TT} (htt : TtOk P tt) {tmps : List (Nat × AV)} {hp : Nat → Option Blk} {nxt : Nat} {o : Oper} {t : TypeId} {len : Nat} {parts : Array (Nat × Operand)} (hp' : o.op = .buildSlice t len parts) {e : TypeId} (hd : tdesc tt t = some (.slice e))
    {cs : List AV} (hes : partsB tmps 0 parts.toList = some cs) (hk : tsize tt e = some 1) (hv : cs.length = len ∧ 0 < len ∧ len ≤ 16777216) :
    Loc P o (evT tmps) hp nxt ⟨some (.osl nxt 0 len), [(nxt, .box cs e)], [], nxt + 1⟩ := by
  intro A ι w ρ hA hok hf hr hh
  obtain ⟨rfl, hk0, h24⟩ := hv
  obtain ⟨vs, xs, h1, h1', h2, h3, h4, h5, h6⟩ := partsB_ok (A := A) (ι := ι) (w := w) (ρ := ρ) hes fun p hpm => hr p.2 (by
    simp only [hp', Op.operands]
    exact List.mem_toArray.2 (List.mem_map.2 ⟨p, hpm, rfl⟩))
  have hzero : ∃ z, (zeroValue e).run P w = .ok z w := by
    cases hte : tt e with
    | none => rw [tsize, hte] at hk; cases hk
    | some i =>
      obtain ⟨_, _, _, inf, hi, _, _, zz, hzz, _⟩ := htt e i hte
      exact ⟨zz, by simp [zeroValue, typeInfo, hi, hzz]⟩
  obtain ⟨z, hz⟩ := hzero
  have hflat : ∀ (start : Array Value), start.size = cs.length * 1 → Instr.fill (fun i => some (i * 1, 1)) start (parts.map fun p => (p.1, ρ p.2)).toList = some xs.toArray := by
    intro start hs
    have := Great.fill_whole (show 0 < 1 by decide) vs start h4 (by rw [h1, hs])
    rw [Array.toList_map, h2, ← h3]
    exact this
  have hb := new_box (A := A) (nxt := nxt) hA hok hf cs xs e h1' h5 h6 (fun b => ∃ blk, (b, blk) ∈ [(nxt, Blk.box cs e)]) ((⟨some (.osl nxt 0 cs.length), [(nxt, .box cs e)], [], nxt + 1⟩ : Eff).kills nxt) (fun b hb => .inr hb)
  refine ⟨.value (.slice (some ⟨w.heap.size, 0, none⟩) cs.length cs.length), _, _, ?_, ?_, hb.1, ?_, ?_, fun k hk => by cases hk⟩
  · simp only [execOp, hp', Instr.buildSlice, Sem.run_bind, htt.desc hd w, Result.andThen_ok, htt.size hk w]
    rw [if_neg (by omega)]
    simp only [Sem.run_pure, Result.andThen_ok]
    rw [if_neg (by omega)]
    simp only [Sem.run_bind, hz, Result.andThen_ok, Sem.run_pure]
    rw [hflat _ (by simp)]
    simp [newRow]
  · exact .osl nxt 0 cs.length w.heap.size _ _ (setPl_same _ _ _) (Nat.le_refl _)
  · intro p hpm
    simp only [List.mem_singleton] at hpm
    subst hpm
    exact hb.2
  · intro b hb'
    rw [setPl_other _ _ (by simp at hb'; omega)]
    exact hf b (by simp at hb'; omega)

/-- A literal slice of cells that may be pointers to own blocks. -/
theorem spec_buildBox {cx : Cx} {o : Oper} {KK : AState → Prop} {s : AState} (htt : TtOk cx.P cx.tt) {t e : TypeId} {len : Nat} {parts : Array (Nat × Operand)} {cs : List AV} (hp : o.op = .buildSlice t len parts) (hd : tdesc cx.tt t = some (.slice e)) (hk : tsize cx.tt e = some 1)
    (hes : partsB s.tmps 0 parts.toList = some cs) (hv : cs.length = len ∧ 0 < len ∧ len ≤ 16777216) (hdst : match o.dst with | some t => t < cx.n | none => True)
    (hK : KK (s.apply o ⟨some (.osl s.nxt 0 len), [(s.nxt, .box cs e)], [], s.nxt + 1⟩)) : SpecK cx o KK s :=
  SpecK.loc (buildBox_ok htt hp hd hes hk hv) (by rw [hp]; intro c h; cases h) hdst hK
end Go.Ab
