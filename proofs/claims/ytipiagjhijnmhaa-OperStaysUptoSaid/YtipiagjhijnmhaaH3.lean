/-
  Folding two runs of records, one after the other.
-/
import Derived.Test.YtipiagjhijnmhaaO0
import Derived.Test.YtipiagjhijnmhaaO1
import Derived.Test.YtipiagjhijnmhaaO2
import Derived.Test.YtipiagjhijnmhaaN10
set_option linter.unusedVariables false
set_option linter.unusedSimpArgs false
namespace Go.Ab.Try
open Go Go.Proofs Go.Ab

/-- All the records, one by one. -/
def runs (a0 : SOp) : SOpState → List SRecord → SOpState × List SPut
  | s, [] => (s, [])
  | s, r :: l => ((runs a0 (oper_Step a0 s r).1 l).1, (oper_Step a0 s r).2 ++ (runs a0 (oper_Step a0 s r).1 l).2)
theorem runs_append (a0 : SOp) (l1 l2 : List SRecord) (s : SOpState) : runs a0 s (l1 ++ l2) = ((runs a0 (runs a0 s l1).1 l2).1, (runs a0 s l1).2 ++ (runs a0 (runs a0 s l1).1 l2).2) := by
  induction l1 generalizing s with
  | nil => rfl
  | cons r l ih => simp only [List.cons_append, runs, ih, List.append_assoc]
theorem drop_getD' {α : Type} [Inhabited α] (l : List α) (i : Nat) (h : i < l.length) : l.drop i = l.getD i default :: l.drop (i + 1) := by
  rw [List.drop_eq_getElem_cons h, List.getD_eq_getElem?_getD, List.getElem?_eq_getElem h]
  rfl
theorem L0_runs (a0 : SOp) (a2 : List SRecord) (i : Nat) (ks : List SKeyState) (t : Int) (ps : List SPut) : oper_All_L0 a0 a2 i ks t ps = ((runs a0 ⟨ks, t⟩ (a2.drop i)).1.Keys, (runs a0 ⟨ks, t⟩ (a2.drop i)).1.Turn, ps ++ (runs a0 ⟨ks, t⟩ (a2.drop i)).2) := by
  rw [oper_All_L0.eq_def]
  by_cases h : i < a2.length
  · rw [dif_pos (decide_eq_true (by omega)), letIn, L0_runs, drop_getD' a2 i h]
    simp only [runs, List.append_assoc]
  · rw [dif_neg (by simp; omega), List.drop_of_length_le (by omega)]
    simp only [runs, List.append_nil]
termination_by a2.length - i
theorem all_runs (a0 : SOp) (s : SOpState) (l : List SRecord) : oper_All a0 s l = runs a0 s l := by
  simp only [oper_All, letIn, clone_id, L0_runs, List.drop_zero, List.nil_append]
theorem runs_sz (a0 : SOp) (l : List SRecord) (s : SOpState) : (runs a0 s l).1.Keys.length ≤ s.Keys.length + l.length ∧ (runs a0 s l).2.length ≤ l.length := by
  induction l generalizing s with
  | nil => exact ⟨Nat.le_refl _, Nat.le_refl _⟩
  | cons r l ih =>
    have h1 := oper_Step_sz a0 s r
    have h2 := ih (oper_Step a0 s r).1
    simp only [runs, List.length_cons, List.length_append]
    omega
theorem all_sz (a0 : SOp) (s : SOpState) (l : List SRecord) : (oper_All a0 s l).1.Keys.length ≤ s.Keys.length + l.length ∧ (oper_All a0 s l).2.length ≤ l.length := by
  rw [all_runs]
  exact runs_sz a0 l s

theorem same_L0_self (s : SOpState) (i : Nat) : pontoonref07_Same_L0 s s i = Sum.inr () := by
  rw [pontoonref07_Same_L0.eq_def]
  by_cases h : i < s.Keys.length
  · rw [dif_pos (decide_eq_true (by omega)), dif_neg (by simp), same_L0_self s (i + 1)]
  · rw [dif_neg (by simp; omega)]
termination_by s.Keys.length - i
theorem same_self (s : SOpState) : pontoonref07_Same s s = true := by
  simp [pontoonref07_Same, letIn, same_L0_self]
theorem sameputs_L0_self (s : List SPut) (i : Nat) : pontoonref07_SamePuts_L0 s s i = Sum.inr () := by
  rw [pontoonref07_SamePuts_L0.eq_def]
  by_cases h : i < s.length
  · rw [dif_pos (decide_eq_true (by omega)), dif_neg (by simp), sameputs_L0_self s (i + 1)]
  · rw [dif_neg (by simp; omega)]
termination_by s.length - i
theorem sameputs_self (l : List SPut) : pontoonref07_SamePuts l l = true := by
  simp [pontoonref07_SamePuts, letIn, sameputs_L0_self]
set_option maxRecDepth 100000 in
theorem live_true : pontoonlaw07_live = true := by
  rw [pontoonlaw07_live, all_runs]
  decide

set_option maxRecDepth 10000 in
set_option maxHeartbeats 8000000 in
theorem operJoins_t (a0 : SOp) (a1 a2 : List SRecord) (z0 : SOp.Sz a0) (z1 : a1.length ≤ 10000000) (z2 : a2.length ≤ 10000000) : FnP Try.prog 7 [.agg (SOp.avs a0), sL SRecord.cells a1, sL SRecord.cells a2] (bo true) := by
 refine FnP.intro (tt := tt) Try.func7 rfl (by kernel_rfl) (by simp [Try.ntmps7]) fun w0 A hA => ?_
 have hR := reckB_ok eqOk ttOk
 simp only [argT, Try.ntmps7]
 have hs1 := all_sz a0 ⟨[], 0⟩ a1
 have L := pontoonlaw07_live_t
 rw [live_true] at L
 have C1 := oper_All_t a0 ⟨[], 0⟩ a1 z0 (by show 0 + a1.length ≤ _; omega) (by omega)
 have C2 := oper_All_t a0 (oper_All a0 ⟨[], 0⟩ a1).1 a2 z0 (by have : ([] : List SKeyState).length = 0 := rfl; simp only at hs1; omega) (by omega)
 have C3 := oper_All_t a0 ⟨[], 0⟩ (a1 ++ a2) z0 (by rw [List.length_append]; show 0 + _ ≤ _; omega) (by rw [List.length_append]; omega)
 have he : oper_All a0 ⟨[], 0⟩ (a1 ++ a2) = ((oper_All a0 (oper_All a0 ⟨[], 0⟩ a1).1 a2).1, (oper_All a0 ⟨[], 0⟩ a1).2 ++ (oper_All a0 (oper_All a0 ⟨[], 0⟩ a1).1 a2).2) := by
  simp only [all_runs, runs_append]
 rw [he] at C3
 have hs2 := all_sz a0 (oper_All a0 ⟨[], 0⟩ a1).1 a2
 generalize oper_All a0 (oper_All a0 ⟨[], 0⟩ a1).1 a2 = r2 at *
 generalize oper_All a0 ⟨[], 0⟩ a1 = r1 at *
 obtain ⟨s1, p1⟩ := r1
 obtain ⟨s2, p2⟩ := r2
 try dsimp only at C1 C2 C3 hs1 hs2
 have S := pontoonref07_Same_t s2 s2
 rw [same_self] at S
 have P := pontoonref07_SamePuts_t (p1 ++ p2) (p1 ++ p2)
 rw [sameputs_self] at P
 (repeat (first | refine go_seq ?_ | refine go_skip ?_ | refine go_blk ?_ | refine go_block ?_ | refine go_scope (fun _ _ _ h => h) ?_ | refine go_label ?_))
 refine go_regionJ hR ⟨[(1, sL SRecord.cells a1), (2, sL SRecord.cells a2), (3, .ptr 0 0)], [(0, .box (SOp.avs a0) 57)], 1⟩ ?_ ?_
 ·simp only [AVS, bits_i64, EVB, eqF, Op.operands, IntKind.bits, descF, sizeF, bytesF, zeroF, seval, reduceCtorEq, ↓reduceIte]
  exact (Weak.sub' (by repeat (first | exact trivial | refine ⟨rfl, ?_⟩)) (by repeat (first | exact trivial | refine ⟨rfl, ?_⟩)) (by exact Nat.le_of_ble_eq_true rfl))
 (repeat (first | refine go_seq ?_ | refine go_skip ?_ | refine go_blk ?_ | refine go_block ?_ | refine go_scope (fun _ _ _ h => h) ?_ | refine go_label ?_))
 refine go_regionJ hR ⟨[(1, sL SRecord.cells a1), (2, sL SRecord.cells a2), (3, .ptr 0 0), (14, bo false)], [(0, .box (SOp.avs a0) 57)], 1⟩ ?_ ?_
 ·simp only [AVS, bits_i64, EVB, eqF, Op.operands, IntKind.bits, descF, sizeF, bytesF, zeroF, seval, reduceCtorEq, ↓reduceIte]
  refine CallK.freshE L.toO rfl (by first | rfl | (simp only [NM]; done) | (simp only [AVS, NM]; done)) (by (repeat' apply And.intro) <;> first | trivial | rfl | omega | (simp only [NM]; omega)) (.inl rfl) (by exact Nat.le_of_ble_eq_true rfl) ?_
  simp only [AVS, bits_i64, EVB, eqF, Op.operands, IntKind.bits, descF, sizeF, bytesF, zeroF, seval, reduceCtorEq, ↓reduceIte]
  exact (Weak.sub' (by repeat (first | exact trivial | refine ⟨rfl, ?_⟩)) (by repeat (first | exact trivial | refine ⟨rfl, ?_⟩)) (by exact Nat.le_of_ble_eq_true rfl))
 refine go_cond (by rfl) (fun h => absurd h (by simp)) (fun h => ?_)
 (repeat (first | refine go_seq ?_ | refine go_skip ?_ | refine go_blk ?_ | refine go_block ?_ | refine go_scope (fun _ _ _ h => h) ?_ | refine go_label ?_))
 refine go_regionJ hR ⟨[(1, sL SRecord.cells a1), (2, sL SRecord.cells a2), (3, .ptr 0 0), (7, .ptr 1 0), (8, sL SPut.cells p1)], [(0, .box (SOp.avs a0) 57), (1, .box (SOpState.avs s1) 60)], 2⟩ ?_ ?_
 ·simp only [AVS, bits_i64, EVB, eqF, Op.operands, IntKind.bits, descF, sizeF, bytesF, zeroF, seval, reduceCtorEq, ↓reduceIte]
  refine CallK.freshE C1.toO rfl (by first | rfl | (simp only [NM]; done) | (simp only [AVS, NM]; done)) (by (repeat' apply And.intro) <;> first | trivial | rfl | omega | (simp only [NM]; omega)) (.inl rfl) (by exact Nat.le_of_ble_eq_true rfl) ?_
  simp only [AVS, bits_i64, EVB, eqF, Op.operands, IntKind.bits, descF, sizeF, bytesF, zeroF, seval, reduceCtorEq, ↓reduceIte]
  exact (Weak.sub' (by repeat (first | exact trivial | refine ⟨rfl, ?_⟩)) (by repeat (first | exact trivial | refine ⟨rfl, ?_⟩)) (by exact Nat.le_of_ble_eq_true rfl))
 (repeat (first | refine go_seq ?_ | refine go_skip ?_ | refine go_blk ?_ | refine go_block ?_ | refine go_scope (fun _ _ _ h => h) ?_ | refine go_label ?_))
 refine go_regionJ hR ⟨[(1, sL SRecord.cells a1), (2, sL SRecord.cells a2), (3, .ptr 0 0), (8, sL SPut.cells p1), (9, .ptr 2 0), (10, sL SPut.cells p2)], [(0, .box (SOp.avs a0) 57), (2, .box (SOpState.avs s2) 60)], 3⟩ ?_ ?_
 ·simp only [AVS, bits_i64, EVB, eqF, Op.operands, IntKind.bits, descF, sizeF, bytesF, zeroF, seval, reduceCtorEq, ↓reduceIte]
  refine CallK.freshE C2.toO rfl (by first | rfl | (simp only [NM]; done) | (simp only [AVS, NM]; done)) (by (repeat' apply And.intro) <;> first | trivial | rfl | omega | (simp only [NM]; omega)) (.inl rfl) (by exact Nat.le_of_ble_eq_true rfl) ?_
  simp only [AVS, bits_i64, EVB, eqF, Op.operands, IntKind.bits, descF, sizeF, bytesF, zeroF, seval, reduceCtorEq, ↓reduceIte]
  exact (Weak.sub' (by repeat (first | exact trivial | refine ⟨rfl, ?_⟩)) (by repeat (first | exact trivial | refine ⟨rfl, ?_⟩)) (by exact Nat.le_of_ble_eq_true rfl))
 (repeat (first | refine go_seq ?_ | refine go_skip ?_ | refine go_blk ?_ | refine go_block ?_ | refine go_scope (fun _ _ _ h => h) ?_ | refine go_label ?_))
 refine go_drawJ hR rfl ⟨[(8, sL SPut.cells p1), (9, .ptr 2 0), (10, sL SPut.cells p2), (11, .ptr 4 0), (12, sL SPut.cells (p1 ++ p2))], [(2, .box (SOpState.avs s2) 60), (4, .box (SOpState.avs s2) 60)], 5⟩ ?_ ?_
 ·simp only [AVS, bits_i64, EVB, eqF, Op.operands, IntKind.bits, descF, sizeF, bytesF, zeroF, seval, reduceCtorEq, ↓reduceIte]
  have e : List.take (a1.length + a2.length) (List.drop 0 (List.map SRecord.cells a1 ++ List.map SRecord.cells a2)) = List.map SRecord.cells (a1 ++ a2) := by
   rw [List.drop_zero, List.map_append, List.take_of_length_le (by simp)]
  have M : FnM Try.prog 21 [.agg (SOp.avs a0), .agg [sL SKeyState.cells [], iV 0], .own 0 2 0 (a1.length + a2.length)] [.acc 2 (List.map SRecord.cells a1 ++ List.map SRecord.cells a2) 68] [] [.acc 2 [] 68] (.tup [.agg (SOpState.avs s2), sL SPut.cells (p1 ++ p2)]) := by
   refine FnP.closeM (ar := [.agg (SOp.avs a0), .agg [sL SKeyState.cells [], iV 0], .c (.sl (List.take (a1.length + a2.length) (List.drop 0 (List.map SRecord.cells a1 ++ List.map SRecord.cells a2))))]) ?_ rfl ?_ ?_
   ·rw [e]
    exact C3
   ·exact ⟨⟨trivial, trivial, trivial, trivial, trivial, trivial⟩, ⟨trivial, trivial, trivial⟩, ⟨rfl, by simp⟩, trivial⟩
   ·intro av hav b hm
    have hm := men_mem b av hm
    simp only [List.mem_cons, List.not_mem_nil, or_false] at hav
    rcases hav with rfl | rfl | rfl <;> exact absurd hm (by simp [menAV, menLs, SOp.avs, iV, sL])
  refine ⟨?_, ?_, .inr ⟨_, FnM.opW [3] M (by decide) (by intro b hb; simp at hb ⊢; omega) rfl ?_ rfl ?_ rfl, ?_⟩⟩
  ·exact ⟨fun u hu => by obtain ⟨x, _, rfl⟩ := List.mem_map.1 hu; rfl, by omega, by omega⟩
  ·exact ⟨fun u hu => by obtain ⟨x, _, rfl⟩ := List.mem_map.1 hu; rfl, by omega, by omega⟩
  ·exact ⟨trivial, trivial⟩
  ·exact ⟨⟨trivial, trivial, trivial, trivial, trivial, trivial⟩, ⟨trivial, trivial, trivial⟩, trivial, trivial⟩
  simp only [AVS, bits_i64, EVB, eqF, Op.operands, IntKind.bits, descF, sizeF, bytesF, zeroF, seval, reduceCtorEq, ↓reduceIte]
  refine ⟨chkD_of (by kernel_rfl), ?_⟩
  exact (Weak.sub' (by repeat (first | exact trivial | refine ⟨rfl, ?_⟩)) (by repeat (first | exact trivial | refine ⟨rfl, ?_⟩)) (by exact Nat.le_of_ble_eq_true rfl))
 (repeat (first | refine go_seq ?_ | refine go_skip ?_ | refine go_blk ?_ | refine go_block ?_ | refine go_scope (fun _ _ _ h => h) ?_ | refine go_label ?_))
 refine go_region hR ?_
 simp only [AVS, bits_i64, EVB, eqF, Op.operands, IntKind.bits, descF, sizeF, bytesF, zeroF, seval, reduceCtorEq, ↓reduceIte]
 refine CallK.freshE S.toO rfl (by first | rfl | (simp only [NM]; done) | (simp only [AVS, NM]; done)) (by (repeat' apply And.intro) <;> first | trivial | rfl | omega | (simp only [NM]; omega)) (.inl rfl) (by exact Nat.le_of_ble_eq_true rfl) ?_
 simp only [AVS, bits_i64, EVB, eqF, Op.operands, IntKind.bits, descF, sizeF, bytesF, zeroF, seval, reduceCtorEq, ↓reduceIte]
 have e : List.take (p1.length + p2.length) (List.drop 0 (List.map SPut.cells p1 ++ List.map SPut.cells p2)) = List.map SPut.cells (p1 ++ p2) := by
  rw [List.drop_zero, List.map_append, List.take_of_length_le (by simp)]
 have hb : s1.Keys.length ≤ 10000000 ∧ p1.length ≤ 10000000 := by
  have : ([] : List SKeyState).length = 0 := rfl
  omega
 refine ⟨⟨fun u hu => by obtain ⟨x, _, rfl⟩ := List.mem_map.1 hu; rfl, by omega, by omega⟩, ⟨fun u hu => by obtain ⟨x, _, rfl⟩ := List.mem_map.1 hu; rfl, by omega, by omega⟩, ?_⟩
 refine CallK.freshE P.toO rfl ?_ ?_ (.inr ⟨by exact (by (repeat' apply And.intro) <;> first | trivial | rfl), by exact (by (repeat' apply And.intro) <;> first | trivial | rfl)⟩) (by exact Nat.le_of_ble_eq_true rfl) ?_
 ·rw [e]
  rfl
 ·exact ⟨⟨rfl, by simp⟩, trivial, trivial⟩
 simp only [AVS, bits_i64, EVB, eqF, Op.operands, IntKind.bits, descF, sizeF, bytesF, zeroF, seval, reduceCtorEq, ↓reduceIte]
 refine go_return ttOk (fun _ h => h) rfl ?_ ?_
 ·exact (by (repeat' apply And.intro) <;> first | trivial | exact Nat.le_of_ble_eq_true rfl | omega | (simp only [NM]; omega))
 ·first | rfl | (simp only [NM, CELLS] <;> rfl)
end Go.Ab.Try
