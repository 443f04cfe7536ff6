/-
  Regions told operation by operation; whether slices of two rows overlap.
-/
import Derived.Test.YtipiagjhijnmhaaN8
import Derived.Lib.Overlaps
set_option linter.unusedVariables false
set_option linter.unusedSimpArgs false
namespace Go.Ab
open Go Go.RowKit

/-- Operations without guards, each by a law. -/
def opsS (cx : Cx) (R : AState → Prop) : List Oper → AState → Prop
  | [], s => R s
  | o :: r, s => o.guard = none ∧ SpecK cx o (opsS cx R r) s
theorem opsS_sound {cx : Cx} {all : Array Oper} {R : AState → Prop} {Q : Post} (hR : ∀ s' ι' a' w', R s' → SatI cx s' ι' a' w' → Q .normal a' w') :
    ∀ (l : List Oper) (s : AState) (ι : Pl) (a : Act) (w : World), opsS cx R l s → SatI cx s ι a w → wpListIn (FW cx.rnd) 0 cx.P all Q l a w
  | [], s, ι, a, w, h, hs => hR s ι a w h hs
  | o :: r, s, ι, a, w, h, hs => by
    simp only [wpListIn]
    rw [if_pos (by simp [Region.wanted, h.1])]
    exact h.2 ι a w _ _ hs fun s' ι' a' w' hK hS => opsS_sound hR r s' ι' a' w' hK hS
theorem go_regionS {cx : Cx} {Q : Post} {k : List K} {s : AState} {id : Nat} {ops : Array Oper} (h : opsS cx (Go' cx Q k) ops.toList s) : Go' cx Q (.code (.region id ops false) :: k) s := fun a w ⟨ι, hs⟩ =>
  wpIn_region_list (opsS_sound (fun s' ι' a' w' hR hS => hR a' w' ⟨ι', hS⟩) _ s ι a w h hs)
theorem spec_rk {rk : Reck} {cx : Cx} (hrk : RkOk cx.P cx.tt rk) {o : Oper} {KK : AState → Prop} {s : AState} (h : doP rk cx o KK s) : SpecK cx o KK s := fun ι a w next Q hs hn => doP_sound hrk h hs hn

theorem spec_overlaps {cx : Cx} {o : Oper} {KK : AState → Prop} {s : AState} (htt : TtOk cx.P cx.tt) {f : FuncId} {fn : Func} {t tR e : TypeId} {v x : Operand} {tys : Array TypeId} (hf : cx.P.funcs[f]? = some fn) (hnm : (fn.name == "runtime.NumGoroutine") = false) (hbody : fn.body.isNone = true)
    (hnext : (Extern.findNext fn).isNone = true) (hfind : Extern.find fn = some (Extern.SlicesOverlaps.overlaps #[t, t] #[tR])) (hp : o.op = .call { callee := .value (.func f), args := #[v, x], argTypes := tys })
    {b1 b2 k off1 off2 n1 n2 : Nat} {es1 es2 : List (List CV)} {ty1 ty2 : TypeId} (hv : evT s.tmps v = .own b1 k off1 n1) (hx : evT s.tmps x = .own b2 k off2 n2) (hb1 : look s.heap b1 = some (.acc k es1 ty1)) (hb2 : look s.heap b2 = some (.acc k es2 ty2))
    (hd : tdesc cx.tt t = some (.slice e)) (hk : tsize cx.tt e = some k) (hne : b1 ≠ b2 ∧ 0 < k ∧ 0 < n1 ∧ 0 < n2 ∧ 0 < es2.length) (hdst : match o.dst with | some t => t < cx.n | none => True) (hK : KK (s.apply o ⟨some (.c (.val (.bool false))), [], [], s.nxt⟩)) : SpecK cx o KK s := by
  intro ι a w next Q hs hnx
  obtain ⟨hne, hk0, hn1, hn2, hes⟩ := hne
  refine ⟨about_trivial cx o a w, ?_⟩
  rw [semAt_plain _ _ _ (by rw [hp]; intro c h; cases h)]
  have r1 := hs.ev v
  have r2 := hs.ev x
  rw [hv] at r1
  rw [hx] at r2
  generalize hv1 : a.eval v = y1 at r1
  generalize hv2 : a.eval x = y2 at r2
  cases r1 with
  | ownNil => omega
  | own _ _ _ _ g1 cap1 a1 cc1 hι1 h11 h12 h13 h14 =>
    cases r2 with
    | ownNil => omega
    | own _ _ _ _ g2 cap2 a2 cc2 hι2 h21 h22 h23 h24 =>
      have e1 := h12 (by omega)
      have e2 := h22 (by omega)
      subst e1 e2
      obtain ⟨cur1, R1⟩ := row_of (hs.heap _ _ hb1) hι1
      obtain ⟨cur2, R2⟩ := row_of (hs.heap _ _ hb2) hι2
      have hgg : g1 ≠ g2 := fun h => by subst h; exact hne (hs.ok.inj _ _ _ _ _ hι1 hι2)
      have hsa : w.shape? g1 = some (ty1, cur1.length) := by simp [World.shape?, R1.hp]
      have hsb : w.shape? g2 = some (ty2, cur2.length) := by simp [World.shape?, R2.hp]
      have hk2 : cur2.length ≠ 0 := by
        have := R2.le
        have h9 : 1 * 1 ≤ cap2 * k := Nat.mul_le_mul (by omega) hk0
        rw [R2.len]; omega
      have hrun := Go.Lib.run_overlaps_apart (P := cx.P) w t tR e (under_of htt hd) k (fun w => htt.size hk w) ⟨g1, off1 * k, none⟩ ⟨g2, off2 * k, none⟩ n1 cc1 n2 cc2 hgg ty1 ty2 cur1.length cur2.length hsa hsb hk2 (by simp [World.frozen?, R1.hp]) (by simp [World.frozen?, R1.hp])
      have hexec : (execOp a.eval o).run cx.P w = .ok (.value (.bool false)) w := by
        have hfn : a.eval (.func f) = .func (.func f) #[] #[] := rfl
        have hnn : Extern.findNext fn = none := by simpa using hnext
        have hc := run_callFunc_extern (P := cx.P) (f := f) (e := Extern.SlicesOverlaps.overlaps #[t, t] #[tR]) hf hnm hbody hnn hfind
        unfold execOp
        simp only [hp, resolve, Sem.run_bind, hfn, Deferred.ofValue, Sem.run_pure, Result.andThen_ok, invoke]
        simp [hc, hv1, hv2, hrun]
      rw [hexec]
      simp only [Oper.uponIn]
      exact hnx _ ι _ w hK (hs.put0 (.c _ _ (.val _ rfl)) hdst)
end Go.Ab
