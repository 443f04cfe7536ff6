/-
  An append to nil whose slice is told closed at once. A law for any program.
  The program's values as they are told: printed by wg.py, a program of this work.
  How the inputs read: printed by rd.py, a program of this work.
-/
import Derived.Test.YtpfgofnmkaljaaaMg35
import Derived.Test.YtpfgofnmkaljaaaMg26
import Derived.Test.YtpfgofnmkaljaaaMg22
import Derived.Test.YtpfgofnmkaljaaaMg20
set_option linter.unusedVariables false
set_option linter.unusedSimpArgs false
namespace Go.Ab
open Go Go.RowKit
def dropPl (ι : Pl) (b : Nat) : Pl := ⟨fun b' => bif b' == b then none else ι b', ι.hid⟩
theorem dropPl_same (ι : Pl) (b : Nat) : dropPl ι b b = none := by simp [dropPl]
theorem dropPl_other (ι : Pl) {b b' : Nat} (h : b' ≠ b) : dropPl ι b b' = ι b' := by
 have e : (b' == b) = false := by simpa using h
 simp [dropPl, e]
theorem dropPl_at {ι : Pl} {b b' g c : Nat} (h : dropPl ι b b' = some (.at g c)) : b' ≠ b ∧ ι b' = some (.at g c) := by
 by_cases e : b' = b
 ·subst e; rw [dropPl_same] at h; cases h
 ·rw [dropPl_other _ e] at h; exact ⟨e, h⟩
theorem Loc.closeNew {P : Program} {o : Oper} {ev : Operand → AV} {hp : Nat → Option Blk} {nxt k : Nat} {es : List (List CV)} {ty : TypeId}
  (h : LocO P o ev hp nxt ⟨some (.own nxt k 0 es.length), [(nxt, .acc k es ty)], [], nxt + 1⟩) : Loc P o ev hp nxt ⟨some (.c (.sl es)), [], [], nxt⟩ := by
 intro A ι w ρ hA hok hf hr hh
 obtain ⟨nx, ι', w', h1, h2, ⟨h3, h3'⟩, h4, h5, h6⟩ := h A ι w ρ hA hok hf hr hh
 have hb := h4 _ (List.mem_singleton.2 rfl)
 have hnone : ι nxt = none := hf nxt (Nat.le_refl _)
 have hkp : ∀ b, b ≠ nxt → ι' b = ι b := fun b hb' => by
  by_cases e : nxt + 1 ≤ b
  ·rw [h5 b e, hf b (by omega)]
  ·exact h3.keep b (by simp only [Eff.kills, List.not_mem_nil, false_or]; omega)
 have hok' : Ok (dropPl ι' nxt) w' := ⟨fun b1 b2 g c c' e1 e2 => h3.ok.inj _ _ _ _ _ (dropPl_at e1).2 (dropPl_at e2).2, fun b g c e => h3.ok.lt _ _ _ (dropPl_at e).2, h3.ok.hlt,
  fun g b hg b' c e => h3.ok.hdis g b hg b' c (dropPl_at e).2, fun g b hg => by
   have hg' : ι.hid g = some b := by rw [← h3']; exact hg
   have hl := hok.hlaid g b hg'
   have hne : b ≠ nxt := fun e => hl (e ▸ hnone)
   rw [dropPl_other _ hne, hkp b hne]
   exact hl⟩
 refine ⟨nx, dropPl ι' nxt, w', h1, ?_, ?_, fun p hp' => by simp at hp', fun b hb' => ?_, fun k hk => by cases hk⟩
 ·cases nx with
  | value v =>
   refine .c _ _ ?_
   have := own_closed (A := A) (ι := ι') (w := w') (J := Still A (dropPl ι' nxt) w') (fun g hg => ⟨hg.1, fun b c e => hg.2 b c (dropPl_at e).2⟩) (fun g c hg => ?_) h2 hb (by omega)
   ·rwa [List.drop_zero, List.take_length] at this
   ·have hlt := h3.ok.lt _ _ _ hg
    refine ⟨⟨⟨?_, ?_⟩, hlt⟩, fun b c' e => ?_⟩
    ·rcases h3.fresh _ _ _ hg with ⟨b', c', e⟩ | hge
     ·have hb' : b' ≠ nxt := fun e' => by rw [e', hnone] at e; cases e
      have := h3.ok.inj _ _ _ _ _ hg ((hkp b' hb').trans e)
      exact absurd this.symm hb'
     ·exact hA g hge
    ·cases hq : (dropPl ι' nxt).hid g with
     | none => rfl
     | some b => exact absurd hg (h3.ok.hdis g b hq nxt c)
    ·obtain ⟨e1, e2⟩ := dropPl_at e
     exact e1 (h3.ok.inj _ _ _ _ _ e2 hg)
  | _ => exact h2
 ·refine ⟨h3.os, h3.tape, h3.output, h3.size, fun b hb' => ?_, fun b g c hb' => ?_, fun g hg _ _ => h3.block g hg fun b c ⟨blk, hm⟩ => ?_, hok', fun g b _ _ hg => ?_, fun g b hg => .inl (.inr ⟨b, by rw [← h3']; exact hg⟩)⟩
  ·have : b ≠ nxt := fun e => hb' (.inr (by omega))
   rw [dropPl_other _ this]
   exact hkp b this
  ·exact (h3.fresh b g c (dropPl_at hb').2).imp .inl id
  ·simp only [List.mem_singleton, Prod.mk.injEq] at hm
   rw [hm.1, hnone]
   intro e; cases e
  ·show ι'.hid g = some b
   rw [h3']; exact hg
 ·show dropPl ι' nxt b = none
  by_cases e : b = nxt
  ·rw [e, dropPl_same]
  ·rw [dropPl_other _ e]
   exact h5 b (by simp only at hb' ⊢; omega)
def bsC : ExtF := fun eq tt tmps heap nxt o => match o.op with
 | .buildSlice t len parts => match tdesc tt t with
  | some (.slice e) => match partsE tmps 0 parts.toList, tsize tt e with
   | some es, some k => bif decide (es.length = len) && (decide (0 < k) && (decide (len * k ≤ 16777216) && es.all fun u => decide (u.length = k))) then some ([], ⟨some (.c (.sl es)), [], [], nxt⟩) else none
   | _, _ => none
  | _ => none
 | _ => none
theorem bsC_ok {P : Program} : ExtOk P bsC := by
 intro eq tt heq htt tmps heap nxt o cs e h hc
 unfold bsC at h
 split at h
 ·rename_i t len parts hop
  refine ⟨?_, by rw [hop]; intro c hc; cases hc⟩
  split at h
  ·rename_i e' hd
   split at h
   ·rename_i es k hes hk
    cases hd' : (decide (es.length = len) && (decide (0 < k) && (decide (len * k ≤ 16777216) && es.all fun u => decide (u.length = k)))) with
    | false => rw [hd'] at h; cases h
    | true =>
     rw [hd'] at h
     cases h
     simp only [Bool.and_eq_true, decide_eq_true_eq, List.all_eq_true] at hd'
     obtain ⟨rfl, g2, g3, g4⟩ := hd'
     exact Loc.closeNew (k := k) (ty := e') (buildSlice_okO htt hop hd hes hk ⟨rfl, g2, g3, g4⟩)
   ·cases h
  ·cases h
 ·cases h
abbrev Hint.bsC {P : Program} : Hint P := .ext Go.Ab.bsC bsC_ok
theorem take_snoc {α : Type} [Inhabited α] (l : List α) (p : Nat) (h : p < l.length) : List.take p l ++ [List.getD l p default] = List.take (p + 1) l := by
 rw [List.take_add_one, List.getElem?_eq_getElem h, List.getD_eq_getElem?_getD, List.getElem?_eq_getElem h]
 rfl
end Go.Ab

set_option linter.unusedVariables false
set_option linter.unusedSimpArgs false
namespace Go.Ab.Try
open Go Go.Proofs Go.Ab
structure SRecord where
  Key : Int
  Val : Int
deriving DecidableEq
instance : Inhabited SRecord := ⟨(SRecord.mk 0 0)⟩
structure SEdge where
  From : Int
  Port : Int
deriving DecidableEq
instance : Inhabited SEdge := ⟨(SEdge.mk 0 0)⟩
structure SOp where
  Kind : Int
  Part : Int
  Fn : Int
  Arg : Int
  In : (List SEdge)
deriving DecidableEq
instance : Inhabited SOp := ⟨(SOp.mk 0 0 0 0 [])⟩
structure SKeyState where
  Key : Int
  Count : Int
  Acc : Int
deriving DecidableEq
instance : Inhabited SKeyState := ⟨(SKeyState.mk 0 0 0)⟩
structure SOpState where
  Keys : (List SKeyState)
  Turn : Int
deriving DecidableEq
instance : Inhabited SOpState := ⟨(SOpState.mk [] 0)⟩
structure SGraph where
  Parts : Int
  Ops : (List SOp)
deriving DecidableEq
instance : Inhabited SGraph := ⟨(SGraph.mk 0 [])⟩
structure SPut where
  Port : Int
  Record : SRecord
deriving DecidableEq
instance : Inhabited SPut := ⟨(SPut.mk 0 (SRecord.mk 0 0))⟩
structure STaskState where
  State : SOpState
  Buffers : (List (List SRecord))
deriving DecidableEq
instance : Inhabited STaskState := ⟨(STaskState.mk (SOpState.mk [] 0) [])⟩
structure Srun_made where
  ports_ : (List (List SRecord))
  state_ : STaskState
deriving DecidableEq
instance : Inhabited Srun_made := ⟨(Srun_made.mk [] (STaskState.mk (SOpState.mk [] 0) []))⟩
def SKeyState.cells (x : SKeyState) : List CV := [.val (.int .i64 x.Key), .val (.int .i64 x.Count), .val (.int .i64 x.Acc)]
def SEdge.cells (x : SEdge) : List CV := [.val (.int .i64 x.From), .val (.int .i64 x.Port)]
def SOp.cells (x : SOp) : List CV := [.val (.int .i64 x.Kind), .val (.int .i64 x.Part), .val (.int .i64 x.Fn), .val (.int .i64 x.Arg), .sl (List.map SEdge.cells x.In)]
def cI64 (x : Int) : List CV := [.val (.int .i64 x)]
def SEdge.mkv (x : SEdge) : List (IntKind × Int) × Value := ([(.i64, x.From), (.i64, x.Port)], .bool true)
def SRecord.cells (x : SRecord) : List CV := [.val (.int .i64 x.Key), .val (.int .i64 x.Val)]
def cSl_SRecord_cells (x : (List SRecord)) : List CV := [.sl (List.map SRecord.cells x)]
def SPut.cells (x : SPut) : List CV := [.val (.int .i64 x.Port), .val (.int .i64 x.Record.Key), .val (.int .i64 x.Record.Val)]
def tSl_SRecord_cells (x : (List SRecord)) : List TV := [.own 2 (List.map SRecord.cells x) 34]
def cSl_cSl_SRecord_cells (x : (List (List SRecord))) : List CV := [.sl (List.map cSl_SRecord_cells x)]
def STaskState.cells (x : STaskState) : List CV := [.sl (List.map SKeyState.cells x.State.Keys), .val (.int .i64 x.State.Turn), .sl (List.map cSl_SRecord_cells x.Buffers)]
def Srun_made.cells (x : Srun_made) : List CV := [.sl (List.map cSl_SRecord_cells x.ports_), .sl (List.map SKeyState.cells x.state_.State.Keys), .val (.int .i64 x.state_.State.Turn), .sl (List.map cSl_SRecord_cells x.state_.Buffers)]
def SOpState.Sz (x : SOpState) : Prop := x.Keys.length ≤ 4294967296
def SOp.Sz (x : SOp) : Prop := x.In.length ≤ 4294967296
def SGraph.Sz (x : SGraph) : Prop := (x.Ops.length ≤ 4294967296 ∧ ∀ y ∈ x.Ops, SOp.Sz y)
def STaskState.Sz (x : STaskState) : Prop := SOpState.Sz x.State ∧ (x.Buffers.length ≤ 4294967296 ∧ ∀ y ∈ x.Buffers, y.length ≤ 4294967296)
def Srun_made.Sz (x : Srun_made) : Prop := (x.ports_.length ≤ 4294967296 ∧ ∀ y ∈ x.ports_, y.length ≤ 4294967296) ∧ STaskState.Sz x.state_
def SRecord.avs (x : SRecord) : List AV := [(iV x.Key), (iV x.Val)]
def SEdge.avs (x : SEdge) : List AV := [(iV x.From), (iV x.Port)]
def SOp.avs (x : SOp) : List AV := [(iV x.Kind), (iV x.Part), (iV x.Fn), (iV x.Arg), (sL SEdge.cells x.In)]
def SKeyState.avs (x : SKeyState) : List AV := [(iV x.Key), (iV x.Count), (iV x.Acc)]
def SOpState.avs (x : SOpState) : List AV := [(sL SKeyState.cells x.Keys), (iV x.Turn)]
def SGraph.avs (x : SGraph) : List AV := [(iV x.Parts), (sL SOp.cells x.Ops)]
def SPut.avs (x : SPut) : List AV := [(iV x.Port), (iV x.Record.Key), (iV x.Record.Val)]
def STaskState.avs (x : STaskState) : List AV := [(sL SKeyState.cells x.State.Keys), (iV x.State.Turn), (sL cSl_SRecord_cells x.Buffers)]
def Srun_made.avs (x : Srun_made) : List AV := [(sL cSl_SRecord_cells x.ports_), (sL SKeyState.cells x.state_.State.Keys), (iV x.state_.State.Turn), (sL cSl_SRecord_cells x.state_.Buffers)]
theorem AVS : type_of% (And.intro @iV.eq_1 (And.intro @bo.eq_1 (And.intro @nS.eq_1 (And.intro @sL.eq_1 (And.intro @SRecord.avs.eq_1 (And.intro @SEdge.avs.eq_1 (And.intro @SOp.avs.eq_1 (And.intro @SKeyState.avs.eq_1 (And.intro @SOpState.avs.eq_1 (And.intro @SGraph.avs.eq_1 (And.intro @SPut.avs.eq_1 (And.intro @STaskState.avs.eq_1 (@Srun_made.avs.eq_1))))))))))))) := And.intro @iV.eq_1 (And.intro @bo.eq_1 (And.intro @nS.eq_1 (And.intro @sL.eq_1 (And.intro @SRecord.avs.eq_1 (And.intro @SEdge.avs.eq_1 (And.intro @SOp.avs.eq_1 (And.intro @SKeyState.avs.eq_1 (And.intro @SOpState.avs.eq_1 (And.intro @SGraph.avs.eq_1 (And.intro @SPut.avs.eq_1 (And.intro @STaskState.avs.eq_1 (@Srun_made.avs.eq_1))))))))))))
theorem CELLS : type_of% (And.intro @SKeyState.cells.eq_1 (And.intro @SEdge.cells.eq_1 (And.intro @SOp.cells.eq_1 (And.intro @cI64.eq_1 (And.intro @SEdge.mkv.eq_1 (And.intro @SRecord.cells.eq_1 (And.intro @cSl_SRecord_cells.eq_1 (And.intro @SPut.cells.eq_1 (And.intro @tSl_SRecord_cells.eq_1 (And.intro @cSl_cSl_SRecord_cells.eq_1 (And.intro @STaskState.cells.eq_1 (@Srun_made.cells.eq_1)))))))))))) := And.intro @SKeyState.cells.eq_1 (And.intro @SEdge.cells.eq_1 (And.intro @SOp.cells.eq_1 (And.intro @cI64.eq_1 (And.intro @SEdge.mkv.eq_1 (And.intro @SRecord.cells.eq_1 (And.intro @cSl_SRecord_cells.eq_1 (And.intro @SPut.cells.eq_1 (And.intro @tSl_SRecord_cells.eq_1 (And.intro @cSl_cSl_SRecord_cells.eq_1 (And.intro @STaskState.cells.eq_1 (@Srun_made.cells.eq_1)))))))))))
theorem SZD : type_of% (And.intro @SOpState.Sz.eq_1 (And.intro @SOp.Sz.eq_1 (And.intro @SGraph.Sz.eq_1 (And.intro @STaskState.Sz.eq_1 (@Srun_made.Sz.eq_1))))) := And.intro @SOpState.Sz.eq_1 (And.intro @SOp.Sz.eq_1 (And.intro @SGraph.Sz.eq_1 (And.intro @STaskState.Sz.eq_1 (@Srun_made.Sz.eq_1))))
set_option maxRecDepth 10000 in
theorem _root_.Go.Ab.Weak.cn {cx : Cx} {s s' : AState} (π ts : List Nat) {vb vt : Prop} {bs : List Blk} {T : List (Nat × AV)} (hB : hzBs π s.heap π = some (vb, bs)) (hT : hzT π s.heap s.tmps ts = some (vt, T)) (en : bs.length = s'.nxt) (hπ : π.Nodup := by decide) (hvb : vb := by simp) (hvt : vt := by simp) (eT : T = s'.tmps := by first | rfl | (simp only [NM, CELLS] <;> rfl) | (simp [NM, CELLS]; done) | (simp [NM, CELLS, AVS]; done) | (simp [NM, CELLS, AVS, numb]; done)) (eB : numb 0 bs = s'.heap := by first | rfl | (simp only [NM, CELLS] <;> rfl) | (simp [NM, CELLS]; done) | (simp [NM, CELLS, AVS]; done) | (simp [NM, CELLS, AVS, numb]; done)) : Weak cx s s' := Weak.canon π ts hπ hB hvb hT hvt eT eB en
set_option maxRecDepth 10000 in
theorem _root_.Go.Ab.Weak.cs {cx : Cx} {s s' : AState} (π ts : List Nat) {vb vt : Prop} {bs : List Blk} {T : List (Nat × AV)} (hB : hzBs π s.heap π = some (vb, bs)) (hT : hzT π s.heap s.tmps ts = some (vt, T)) (en : bs.length = s'.nxt) (hπ : π.Nodup := by decide) (hvb : vb := by (repeat' apply And.intro) <;> first | trivial | rfl | exact Nat.le_of_ble_eq_true rfl | omega | (intro u hu; obtain ⟨x, _, rfl⟩ := List.mem_map.1 hu; rfl) | (intro u hu; simp only [List.mem_cons, List.not_mem_nil, or_false] at hu; subst hu; rfl) | (simp only [NM]; omega) | (simp; done)) (hvt : vt := by (repeat' apply And.intro) <;> first | trivial | rfl | exact Nat.le_of_ble_eq_true rfl | omega | (intro u hu; obtain ⟨x, _, rfl⟩ := List.mem_map.1 hu; rfl) | (intro u hu; simp only [List.mem_cons, List.not_mem_nil, or_false] at hu; subst hu; rfl) | (simp only [NM]; omega) | (simp; done)) (eT : T = s'.tmps := by first | rfl | (simp only [NM, CELLS] <;> rfl) | (simp [NM, CELLS]; done) | (simp [NM, CELLS, AVS]; done) | (simp [NM, CELLS, AVS, numb]; done)) (eB : numb 0 bs = s'.heap := by first | rfl | (simp only [NM, CELLS] <;> rfl) | (simp [NM, CELLS]; done) | (simp [NM, CELLS, AVS]; done) | (simp [NM, CELLS, AVS, numb]; done)) : Weak cx s s' := Weak.canon π ts hπ hB hvb hT hvt eT eB en
set_option maxRecDepth 10000 in
theorem go_ret1 {n : Nat} {w0 : World} {A : Nat → Prop} {hA : ∀ (g : Nat), w0.heap.size ≤ g → A g} {fn : Func} {s : AState} {k : List K} {vc : Prop} {r r' : AV} (h : retE tt s fn.results.toList = some (vc, r')) (hvc : vc := by (repeat' apply And.intro) <;> first | trivial | exact Nat.le_of_ble_eq_true rfl | omega | (simp only [NM]; omega) | (simp only [NM, List.length_replicate]; omega) | (simp; done)) (hr : r' = r := by first | rfl | (simp only [NM, CELLS] <;> rfl) | (simp only [take_map_len, CELLS] <;> rfl) | (simp [sL, nS, iV, bo]; done) | (simp [sL, nS, iV, bo, AVS]; rw [List.take_of_length_le (by simp)])) : Go' (cx0 Try.prog tt n w0 A hA) (RetQ (cx0 Try.prog tt n w0 A hA) fn r) (.code .ret :: k) s := go_return ttOk (fun _ h => h) h hvc hr
theorem GZ : type_of% (And.intro GN (And.intro @beq_iff_eq.{0} (And.intro @beq_eq_false_iff_ne.{0} (And.intro @bne_iff_ne.{0} @bne_eq_false_iff_eq.{0})))) := And.intro GN (And.intro @beq_iff_eq.{0} (And.intro @beq_eq_false_iff_ne.{0} (And.intro @bne_iff_ne.{0} @bne_eq_false_iff_eq.{0})))
end Go.Ab.Try

set_option linter.unusedVariables false
set_option linter.unusedSimpArgs false
namespace Go.Ab.Try
open Go Go.Proofs Go.Ab
def SGraph.cells (x : SGraph) : List CV := [.val (.int .i64 x.Parts), .sl (List.map SOp.cells x.Ops)]
def sh_I_i64 : Sh := .int .i64
def sh_SRecord : Sh := .st [sh_I_i64, sh_I_i64]
def SRecord.InP (x : SRecord) : Prop := (IntKind.i64.min ≤ x.Key ∧ x.Key ≤ IntKind.i64.max) ∧ (IntKind.i64.min ≤ x.Val ∧ x.Val ≤ IntKind.i64.max)
def sh_L_SRecord : Sh := .sl (sh_SRecord)
def sh_L_L_SRecord : Sh := .sl (sh_L_SRecord)
def SEdge.InP (x : SEdge) : Prop := (IntKind.i64.min ≤ x.From ∧ x.From ≤ IntKind.i64.max) ∧ (IntKind.i64.min ≤ x.Port ∧ x.Port ≤ IntKind.i64.max)
def SOp.InP (x : SOp) : Prop := (IntKind.i64.min ≤ x.Kind ∧ x.Kind ≤ IntKind.i64.max) ∧ (IntKind.i64.min ≤ x.Part ∧ x.Part ≤ IntKind.i64.max) ∧ (IntKind.i64.min ≤ x.Fn ∧ x.Fn ≤ IntKind.i64.max) ∧ (IntKind.i64.min ≤ x.Arg ∧ x.Arg ≤ IntKind.i64.max) ∧ (x.In.length ≤ 1048576 ∧ ∀ y ∈ x.In, SEdge.InP y)
def SGraph.InP (x : SGraph) : Prop := (IntKind.i64.min ≤ x.Parts ∧ x.Parts ≤ IntKind.i64.max) ∧ (x.Ops.length ≤ 1048576 ∧ ∀ y ∈ x.Ops, SOp.InP y)
theorem has_I_i64_2 : HasSh Try.prog sh_I_i64 2 := by
  unfold sh_I_i64
  simp only [HasSh]
  exact k2.1
theorem has_SRecord_34 : HasSh Try.prog sh_SRecord 34 := by
  unfold sh_SRecord
  simp only [HasSh, HasFs]
  exact ⟨_, k34.1, by kernel_rfl, ⟨_, _, rfl, rfl, by kernel_rfl, has_I_i64_2, ⟨_, _, rfl, rfl, by kernel_rfl, has_I_i64_2, rfl⟩⟩⟩
theorem has_L_SRecord_23 : HasSh Try.prog sh_L_SRecord 23 := by
  unfold sh_L_SRecord
  simp only [HasSh]
  exact ⟨_, k23.1, by kernel_rfl, by decide, has_SRecord_34⟩
theorem has_L_L_SRecord_22 : HasSh Try.prog sh_L_L_SRecord 22 := by
  unfold sh_L_L_SRecord
  simp only [HasSh]
  exact ⟨_, k22.1, by kernel_rfl, by decide, has_L_SRecord_23⟩
theorem in_I_i64 {us : List CV} (h : Typed 1048576 sh_I_i64 us) : ∃ x : Int, us = cI64 x ∧ (IntKind.i64.min ≤ x ∧ x ≤ IntKind.i64.max) := by
  unfold sh_I_i64 at h
  simp only [Typed] at h
  obtain ⟨n, rfl, h1, h2⟩ := h
  exact ⟨n, rfl, h1, h2⟩
theorem in_SRecord {us : List CV} (h : Typed 1048576 sh_SRecord us) : ∃ x : SRecord, us = SRecord.cells x ∧ SRecord.InP x := by
  unfold sh_SRecord at h
  simp only [Typed, TypedL] at h
  obtain ⟨u0, v0, rfl, s0, ⟨u1, v1, rfl, s1, rfl⟩⟩ := h
  obtain ⟨x0, rfl, g0⟩ := in_I_i64 s0
  obtain ⟨x1, rfl, g1⟩ := in_I_i64 s1
  exact ⟨SRecord.mk x0 x1, rfl, g0, g1⟩
theorem in_L_SRecord {us : List CV} (h : Typed 1048576 sh_L_SRecord us) : ∃ x : (List SRecord), us = [.sl (List.map SRecord.cells x)] ∧ (x.length ≤ 1048576 ∧ ∀ y ∈ x, SRecord.InP y) := by
  unfold sh_L_SRecord at h
  simp only [Typed] at h
  obtain ⟨es, rfl, h1, h2⟩ := h
  obtain ⟨l, rfl, h3⟩ := typed_list SRecord.cells (fun y => SRecord.InP y) (fun r h => in_SRecord h) es h2
  rw [List.length_map] at h1
  exact ⟨l, rfl, h1, h3⟩
theorem in_L_L_SRecord {us : List CV} (h : Typed 1048576 sh_L_L_SRecord us) : ∃ x : (List (List SRecord)), us = [.sl (List.map cSl_SRecord_cells x)] ∧ (x.length ≤ 1048576 ∧ ∀ y ∈ x, (y.length ≤ 1048576 ∧ ∀ y1 ∈ y, SRecord.InP y1)) := by
  unfold sh_L_L_SRecord at h
  simp only [Typed] at h
  obtain ⟨es, rfl, h1, h2⟩ := h
  obtain ⟨l, rfl, h3⟩ := typed_list cSl_SRecord_cells (fun y => (y.length ≤ 1048576 ∧ ∀ y1 ∈ y, SRecord.InP y1)) (fun r h => in_L_SRecord h) es h2
  rw [List.length_map] at h1
  exact ⟨l, rfl, h1, h3⟩
end Go.Ab.Try
