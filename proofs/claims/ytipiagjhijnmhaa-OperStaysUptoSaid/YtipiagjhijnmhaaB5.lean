/-
  A slice against nil; a literal's bytes taken as they are.
-/
import Derived.Test.YtipiagjhijnmhaaB4
set_option linter.unusedVariables false
set_option linter.unusedSimpArgs false
namespace Go.Ab
open Go Go.RowKit

theorem SatI.put0 {cx : Cx} {s : AState} {ι : Pl} {a : Act} {w : World} (h : SatI cx s ι a w) {o : Oper} {av : AV} {v : Value} (hv : Rep (Still cx.A ι w) ι w av v) (hd : match o.dst with | some t => t < cx.n | none => True) :
    SatI cx (s.apply o ⟨some av, [], [], s.nxt⟩) ι (a.put o.dst v) w :=
  h.apply (StepR.refl h.ok _ _) (fun p hp => by simp at hp) h.free (fun k hk => by cases hk) hv (fun t ht => by rw [ht] at hd; exact hd)

/-- What is left open of a slice: whether it is nil. -/
def nilP : AV → Option Prop
  | .c (.sl es) => some (es = [])
  | .own _ _ _ n => some (n = 0)
  | _ => none

theorem nilP_ok {I : Nat → Prop} {ι : Pl} {w : World} {av : AV} {p : Prop} {v : Value} (h : nilP av = some p) (hv : Rep I ι w av v) : (v = .slice none 0 0 ∧ p) ∨ ∃ a n c, v = .slice (some a) n c := by
  unfold nilP at h
  split at h
  · cases h
    cases hv with
    | c _ _ hu =>
      cases hu with
      | nil => exact .inl ⟨rfl, rfl⟩
      | sl _ a n cap k => exact .inr ⟨a, n, cap, rfl⟩
  · cases h
    cases hv with
    | ownNil _ _ hb => exact .inl ⟨rfl, rfl⟩
    | own _ _ _ _ g cap a cc => exact .inr ⟨a, _, cc, rfl⟩
  · cases h

theorem run_eqGuard_slice {P : Program} {w : World} {op : BinOp} {t : TypeId} {x y : Operand} {a b : Option Addr} {n c m d : Nat} : (eqGuard op t x y (.slice a n c) (.slice b m d)).run P w = .ok () w := by
  unfold eqGuard
  cases op <;> simp

theorem spec_eqnil {cx : Cx} {o : Oper} {KK : AState → Prop} {s : AState} {t t' e : TypeId} {x : Operand} {p : Prop} (htt : TtOk cx.P cx.tt) (hp : o.op = .binOp .eql t x (.const (.slice none 0 0)) t') (hx : nilP (evT s.tmps x) = some p) (hd : tdesc cx.tt t = some (.slice e))
    (hdst : match o.dst with | some t => t < cx.n | none => True) (hK : ∀ b : Bool, (b = true → p) → KK (s.apply o ⟨some (.c (.val (.bool b))), [], [], s.nxt⟩)) : SpecK cx o KK s := by
  intro ι a w next Q hs hn
  refine ⟨about_trivial cx o a w, ?_⟩
  rw [semAt_plain _ _ _ (by rw [hp]; simp)]
  have key : ∀ b : Bool, (execOp a.eval o).run cx.P w = .ok (.value (.bool b)) w → (b = true → p) → Oper.uponIn (FW cx.rnd) 0 cx.P o a next Q ((execOp a.eval o).run cx.P w) := by
    intro b hrun hb
    rw [hrun]
    simp only [Oper.uponIn]
    exact hn _ ι _ w (hK b hb) (hs.put0 (.c _ _ (.val _ rfl)) hdst)
  rcases nilP_ok hx (hs.ev x) with ⟨hv, hp'⟩ | ⟨ad, n, c, hv⟩
  · refine key true ?_ (fun _ => hp')
    have he : a.eval (.const (.slice none 0 0)) = .slice none 0 0 := rfl
    simp only [execOp, hp, hv, he, Sem.run_bind, run_eqGuard_slice, Result.andThen_ok, binOp, eq_nilslice (htt.desc hd w), Sem.run_pure]
  · refine key false ?_ (fun h => by cases h)
    have he : a.eval (.const (.slice none 0 0)) = .slice none 0 0 := rfl
    simp only [execOp, hp, hv, he, Sem.run_bind, run_eqGuard_slice, Result.andThen_ok, binOp, eq_slicenil (htt.desc hd w), Sem.run_pure]

/-- '[]byte(..)' of a literal's fresh bytes. -/
theorem spec_lit {cx : Cx} {o : Oper} {KK : AState → Prop} {s : AState} {t e : TypeId} {x : Operand} {b k n : Nat} {es : List (List CV)} {ty : TypeId} (htt : TtOk cx.P cx.tt) (hp : o.op = .convert t t x) (hx : evT s.tmps x = .own b k 0 n) (hb : look s.heap b = some (.acc k es ty))
    (hn : n = es.length ∧ 0 < n) (hd : tdesc cx.tt t = some (.slice e)) (he : tdesc cx.tt e = some (.int .u8)) (hdst : match o.dst with | some t => t < cx.n | none => True)
    (hK : KK (s.apply o ⟨some (.c (.sl es)), [(b, .acc k [] ty)], [b], s.nxt⟩)) : SpecK cx o KK s := by
  intro ι a w next Q hs hnx
  refine ⟨about_trivial cx o a w, ?_⟩
  rw [semAt_plain _ _ _ (by rw [hp]; simp)]
  obtain ⟨hn1, hn0⟩ := hn
  have hrep := hs.ev x
  rw [hx] at hrep
  have hblk := hs.heap b _ hb
  generalize hv : a.eval x = v at hrep
  cases hrep with
  | ownNil => omega
  | own _ _ _ _ g cap ad cc hι h0 h1 h2 hq =>
    obtain ⟨rfl, rfl⟩ := h0 rfl
    subst hn1
    cases hblk with
    | accNil _ _ h => rw [hι] at h; cases h
    | acc _ _ _ g' cap' cur g1 g2 g3 g4 g5 g6 g8 =>
      rw [hι] at g1
      simp only [Option.some.injEq, Plc.at.injEq] at g1
      obtain ⟨rfl, rfl⟩ := g1
      have hlt := hs.ok.lt b g _ hι
      let w' := w.freeze ⟨g, cur.length, none⟩ 1
      have hshape : w.shape? g = some (ty, cur.length) := by simp [World.shape?, g2]
      have hrun : (execOp a.eval o).run cx.P w = .ok (.value (.slice (some ⟨g, 0, none⟩) es.length cc)) w' := by
        simp only [execOp, hp, hv, Sem.run_bind, convert, htt.desc hd w, htt.desc he w, Result.andThen_ok, beq_self_eq_true, markStringish, run_shape, hshape, run_freeze, Sem.run_pure]
        rfl
      rw [hrun]
      simp only [Oper.uponIn]
      have hheap : ∀ g', g' ≠ g → w'.heap[g']? = w.heap[g']? := fun g' hne => by
        simp only [w', World.freeze, Nat.one_ne_zero, if_false]
        rw [Array.getElem?_modify, if_neg (fun h => hne h.symm)]
      have hcell : ∀ (ad : Addr), w'.cell? ad = w.cell? ad := fun ad => by
        by_cases hg : ad.block = g
        · have : ∃ fr, w'.heap[g]? = some (.cells cur.toArray ty fr) := by
            simp only [w', World.freeze, Nat.one_ne_zero, if_false]
            rw [Array.getElem?_modify, if_pos rfl, g2]
            exact ⟨_, rfl⟩
          obtain ⟨fr, hfr⟩ := this
          simp only [World.cell?, hg, hfr, g2]
        · simp only [World.cell?, hheap _ hg]
      have hsize : w'.heap.size = w.heap.size := by simp [w', World.freeze]
      let ι' : Pl := fun b' => if b' = b then some .nil else ι b'
      have hst : StepR ι w ι' w' (fun b' => ∃ blk, (b', blk) ∈ [(b, Blk.acc k [] ty)]) ((⟨some (.c (.sl es)), [(b, .acc k [] ty)], [b], s.nxt⟩ : Eff).kills s.nxt) := by
        refine ⟨by simp [w', World.freeze], by simp [w', World.freeze], by simp [w', World.freeze], by rw [hsize]; exact Nat.le_refl _, fun b' hb' => ?_, fun b' g' c hb' => ?_, fun g' _ hw => ?_, ⟨fun b1 b2 g' c1 c2 h1 h2 => ?_, fun b' g' c h1 => ?_⟩⟩
        · simp only [ι']
          rw [if_neg (fun h => hb' (.inl (by rw [h]; exact List.mem_singleton.2 rfl)))]
        · simp only [ι'] at hb'
          split at hb'
          · cases hb'
          · exact .inl ⟨_, c, hb'⟩
        · exact hheap g' fun h => hw b _ ⟨_, List.mem_singleton.2 rfl⟩ (by rw [h]; exact hι)
        · simp only [ι'] at h1 h2
          split at h1 <;> split at h2 <;> first | (cases h1; done) | (cases h2; done) | exact hs.ok.inj _ _ _ _ _ h1 h2
        · simp only [ι'] at h1
          split at h1
          · cases h1
          · rw [hsize]; exact hs.ok.lt _ _ _ h1
      have hA : Still cx.A ι' w' g := ⟨⟨hs.base.mine hι, by rw [hsize]; exact hlt⟩, fun b' c hb' => by
        simp only [ι'] at hb'
        split at hb'
        · cases hb'
        · rename_i hne
          exact hne (hs.ok.inj _ _ _ _ _ hb' hι)⟩
      have hres : Rep (Still cx.A ι' w') ι' w' (.c (.sl es)) (.slice (some ⟨g, 0, none⟩) es.length cc) := by
        have hc := own_closed (J := fun g' => Still cx.A ι w g' ∨ g' = g) (fun g' h => .inl h) (b := b) (k := k) (off := 0) (n := es.length) (x := .slice (some ⟨g, 0, none⟩) es.length cc) (fun g' c h => by rw [hι] at h; cases h; exact .inr rfl)
          (.own b k 0 es.length g cc _ cc hι (fun _ => ⟨rfl, rfl⟩) (fun _ => by simp) h2 hq) (.acc k ty es g cc cur hι g2 g3 g4 g5 g6 g8) (by omega)
        simp only [List.drop_zero, List.take_length] at hc
        have key : ∀ {u : CV} {y : Value}, CRep (fun g' => Still cx.A ι w g' ∨ g' = g) w u y → CRep (Still cx.A ι' w') w' u y := by
          intro u y hu
          induction hu with
          | val y h1 => exact .val y h1
          | nil => exact .nil
          | sl es' a' n' cap' k' e1 e2 em e3 e4 e5 e6 ih =>
            refine .sl es' a' n' cap' k' e1 e2 em e3 (fun h => ⟨(e4 h).1, ?_⟩) (fun i e j u he hu => by rw [hcell]; exact e5 i e j u he hu) (fun i e j u y he hu hy => by rw [hcell] at hy; exact ih i e j u y he hu hy)
            rcases (e4 h).2 with hg | hg
            · exact (hst.still _ hg).1
            · rw [hg]; exact hA
        exact .c _ _ (key hc)
      exact hnx _ ι' _ w' hK (hs.apply hst (fun p hp' => by
        simp only [List.mem_singleton] at hp'
        subst hp'
        exact .accNil k ty (by simp [ι'])) (fun b' hb' => by
        simp only [ι']
        split
        · rename_i h
          subst h
          have := hs.free b' hb'
          rw [hι] at this; cases this
        · exact hs.free b' hb') (fun k' hk' => by rw [List.mem_singleton.1 hk']; exact ⟨_, List.mem_singleton.2 rfl⟩) hres (fun t ht => by rw [ht] at hdst; exact hdst))
end Go.Ab
