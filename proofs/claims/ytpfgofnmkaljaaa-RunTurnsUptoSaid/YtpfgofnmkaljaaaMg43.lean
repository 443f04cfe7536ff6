/-
  A record folded into a state of keys.
-/
import Derived.Test.YtpfgofnmkaljaaaMg41
import Derived.Test.YtpfgofnmkaljaaaMg42
set_option linter.unusedVariables false
set_option linter.unusedSimpArgs false
namespace Go.Ab.Try
open Go Go.Proofs Go.Ab
set_option maxRecDepth 10000 in
set_option maxHeartbeats 8000000 in
theorem oper_Clone_o (a0 : SOpState) (z0 : SOpState.Sz a0) : FnO Try.prog 94 [.agg (SOpState.avs a0)] [.acc 3 (kC a0.Keys) 171] (.agg [.own 0 3 0 a0.Keys.length, iV a0.Turn]) := by
 refine FnO.intro (tt := tt) Try.func94 rfl (by kernel_rfl) (by simp [Try.ntmps94]) fun w0 A hA => ?_
 have hR := reckB_ok eqOk ttOk
 simp only [argT, Try.ntmps94]
 try simp only [SZD] at z0
 refine go_seq ?_
 refine go_regionJ hR ⟨[(1, .ptr 0 0), (2, .ptr 1 0)], [(0, .box (SOpState.avs a0) 48), (1, .box [nS, (iV 0)] 48)], 2⟩ ?_ ?_
 ·simp only [AVS, bits_i64, EVB, eqF, Op.operands, IntKind.bits, descF, sizeF, bytesF, zeroF, seval, reduceCtorEq, ↓reduceIte]
  exact Weak.sub' ⟨rfl, rfl, trivial⟩ ⟨rfl, rfl, trivial⟩ (Nat.le_of_ble_eq_true rfl)
 refine go_seq ?_
 have C := slices_Clone_KeyState_o a0.Keys z0
 refine go_regionJ hR ⟨[(1, .ptr 0 0), (2, .ptr 1 0)], [(0, .box [.own 2 3 0 a0.Keys.length, (iV a0.Turn)] 48), (1, .box [nS, (iV 0)] 48), (2, .acc 3 (kC a0.Keys) 171)], 3⟩ ?_ ?_
 ·simp only [AVS, bits_i64, EVB, eqF, Op.operands, IntKind.bits, descF, sizeF, bytesF, zeroF, seval, reduceCtorEq, ↓reduceIte]
  refine CallK.freshE C rfl rfl (by (repeat' apply And.intro) <;> first | trivial | rfl | omega | (simp only [NM]; omega)) (.inl rfl) (by exact Nat.le_of_ble_eq_true rfl) ?_
  simp only [AVS, bits_i64, EVB, eqF, Op.operands, IntKind.bits, descF, sizeF, bytesF, zeroF, seval, reduceCtorEq, ↓reduceIte]
  exact Weak.sub' ⟨rfl, rfl, trivial⟩ ⟨rfl, rfl, rfl, trivial⟩ (Nat.le_of_ble_eq_true rfl)
 refine go_seq ?_
 refine go_regionJ hR ⟨[(2, .ptr 1 0)], [(1, .box [.own 2 3 0 a0.Keys.length, (iV a0.Turn)] 48), (2, .acc 3 (kC a0.Keys) 171)], 3⟩ ?_ ?_
 ·simp only [AVS, bits_i64, EVB, eqF, Op.operands, IntKind.bits, descF, sizeF, bytesF, zeroF, seval, reduceCtorEq, ↓reduceIte]
  exact Weak.sub' ⟨rfl, trivial⟩ ⟨rfl, rfl, trivial⟩ (Nat.le_of_ble_eq_true rfl)
 refine go_returnO [2] (by decide) ttOk rfl ?_ rfl rfl
 exact (by (repeat' apply And.intro) <;> first | trivial | rfl | exact Nat.le_of_ble_eq_true rfl)
def fnd : List SKeyState → Int → Nat × Bool
  | [], _ => (0, false)
  | k :: r, q => bif k.Key == q then (0, true) else ((fnd r q).1 + 1, (fnd r q).2)
def pos : List SKeyState → Int → Nat
  | [], _ => 0
  | k :: r, q => bif decide (k.Key ≤ q) then pos r q + 1 else 0
def foldK (a0 : SOp) (k : SKeyState) (v : Int) : SKeyState :=
  ⟨k.Key, bif decide (k.Count < 9007199254740992) then IntKind.i64.wrap (k.Count + 1) else k.Count, oper_Acc a0.Fn k v⟩
def fullK (a0 : SOp) (k : SKeyState) : Bool := (a0.Kind == 6) && decide (k.Count ≥ a0.Arg)
def keyK (ks : List SKeyState) (q : Int) : SKeyState := bif (fnd ks q).2 then ks.getD (fnd ks q).1 default else ⟨q, 0, 0⟩
def oper_fold (a0 : SOp) (a1 : SOpState) (a2 : SRecord) : SOpState × List SPut :=
  (⟨bif (fnd a1.Keys a2.Key).2 then (bif fullK a0 (foldK a0 (keyK a1.Keys a2.Key) a2.Val) then delK a1.Keys (fnd a1.Keys a2.Key).1 else a1.Keys.set (fnd a1.Keys a2.Key).1 (foldK a0 (keyK a1.Keys a2.Key) a2.Val))
     else (bif fullK a0 (foldK a0 (keyK a1.Keys a2.Key) a2.Val) then a1.Keys else insK a1.Keys (pos a1.Keys a2.Key) (foldK a0 (keyK a1.Keys a2.Key) a2.Val)), a1.Turn⟩,
   bif (a0.Kind == 6) && !fullK a0 (foldK a0 (keyK a1.Keys a2.Key) a2.Val) then [] else [⟨0, ⟨a2.Key, (foldK a0 (keyK a1.Keys a2.Key) a2.Val).Acc⟩⟩])
theorem fnd_le (ks : List SKeyState) (q : Int) : (fnd ks q).1 ≤ ks.length := by
  induction ks with
  | nil => exact Nat.le_refl _
  | cons k r ih =>
    simp only [fnd]
    cases k.Key == q with
    | true => exact Nat.zero_le _
    | false => exact Nat.succ_le_succ ih
theorem fnd_lt (ks : List SKeyState) (q : Int) (h : (fnd ks q).2 = true) : (fnd ks q).1 < ks.length := by
  induction ks with
  | nil => cases h
  | cons k r ih =>
    simp only [fnd] at h ⊢
    cases hk : k.Key == q with
    | true => exact Nat.succ_pos _
    | false => rw [hk] at h; exact Nat.succ_lt_succ (ih h)
theorem pos_le (ks : List SKeyState) (q : Int) : pos ks q ≤ ks.length := by
  induction ks with
  | nil => exact Nat.le_refl _
  | cons k r ih =>
    simp only [pos]
    cases decide (k.Key ≤ q) with
    | true => exact Nat.succ_le_succ ih
    | false => exact Nat.zero_le _
theorem oper_fold_sz (a0 : SOp) (a1 : SOpState) (a2 : SRecord) : (oper_fold a0 a1 a2).1.Keys.length ≤ a1.Keys.length + 1 ∧ (oper_fold a0 a1 a2).2.length ≤ 1 := by
  unfold oper_fold
  constructor
  · have h1 := fnd_le a1.Keys a2.Key
    have h2 := pos_le a1.Keys a2.Key
    cases (fnd a1.Keys a2.Key).2 <;> cases fullK a0 (foldK a0 (keyK a1.Keys a2.Key) a2.Val) <;> simp only [cond_true, cond_false, delK, insK, List.length_append, List.length_cons, List.length_take, List.length_drop, List.length_set] <;> omega
  · cases (a0.Kind == 6) && !fullK a0 (foldK a0 (keyK a1.Keys a2.Key) a2.Val) <;> simp
theorem setElem_map (l : List SKeyState) (i : Nat) (x : SKeyState) (h : i < l.length) : setElem (kC l) i 0 (SKeyState.cells x) = kC (l.set i x) := by
  unfold setElem
  simp only [kC]
  rw [map_getD SKeyState.cells l i default h, List.map_set]
  rfl
theorem drop_getD {α : Type} [Inhabited α] (l : List α) (i : Nat) (h : i < l.length) : l.drop i = l.getD i default :: l.drop (i + 1) := by
  rw [List.drop_eq_getElem_cons h, List.getD_eq_getElem?_getD, List.getElem?_eq_getElem h]
  rfl
set_option maxRecDepth 10000 in
set_option maxHeartbeats 16000000 in
theorem oper_fold_t (a0 : SOp) (a1 : SOpState) (a2 : SRecord) (z0 : SOp.Sz a0) (z1 : a1.Keys.length ≤ 1000000000) : FnP Try.prog 108 [.agg (SOp.avs a0), .agg (SOpState.avs a1), .agg (SRecord.avs a2)] (.tup [.agg (SOpState.avs (oper_fold a0 a1 a2).1), sL SPut.cells (oper_fold a0 a1 a2).2]) := by
 refine FnP.intro (tt := tt) Try.func108 rfl (by kernel_rfl) (by simp [Try.ntmps108]) fun w0 A hA => ?_
 have hR := reckB_ok eqOk ttOk
 simp only [argT, Try.ntmps108]
 refine go_seq ?_
 refine go_regionJ hR ⟨[(3, .ptr 0 0), (4, .ptr 1 0), (5, .ptr 2 0), (6, .ptr 3 0)], [(0, .box (SOp.avs a0) 55), (1, .box (SOpState.avs a1) 48), (2, .box (SRecord.avs a2) 34), (3, .box [nS, (iV 0)] 48)], 4⟩ ?_ ?_
 ·simp only [AVS, bits_i64, EVB, eqF, Op.operands, IntKind.bits, descF, sizeF, bytesF, zeroF, seval, reduceCtorEq, ↓reduceIte]
  exact Weak.sub' ⟨rfl, rfl, rfl, rfl, trivial⟩ ⟨rfl, rfl, rfl, rfl, trivial⟩ (Nat.le_of_ble_eq_true rfl)
 (repeat (first | refine go_seq ?_ | refine go_skip ?_ | refine go_blk ?_ | refine go_block ?_ | refine go_scope (fun _ _ _ h => h) ?_ | refine go_label ?_))
 have C := oper_Clone_o a1 (by simp only [SZD]; omega)
 refine go_regionJ hR ⟨[(3, .ptr 0 0), (4, .ptr 1 0), (5, .ptr 2 0), (6, .ptr 3 0)], [(0, .box (SOp.avs a0) 55), (1, .box [.own 4 3 0 a1.Keys.length, iV a1.Turn] 48), (2, .box (SRecord.avs a2) 34), (3, .box [nS, (iV 0)] 48), (4, .acc 3 (kC a1.Keys) 171)], 5⟩ ?_ ?_
 ·simp only [AVS, bits_i64, EVB, eqF, Op.operands, IntKind.bits, descF, sizeF, bytesF, zeroF, seval, reduceCtorEq, ↓reduceIte]
  refine CallK.freshE C rfl (by first | rfl | (simp only [NM]; done) | (simp only [AVS, NM]; done)) (by (repeat' apply And.intro) <;> first | trivial | rfl | omega | (simp only [NM]; omega)) (.inl rfl) (by exact Nat.le_of_ble_eq_true rfl) ?_
  simp only [AVS, bits_i64, EVB, eqF, Op.operands, IntKind.bits, descF, sizeF, bytesF, zeroF, seval, reduceCtorEq, ↓reduceIte]
  exact Weak.sub' ⟨rfl, rfl, rfl, rfl, trivial⟩ ⟨rfl, rfl, rfl, rfl, rfl, trivial⟩ (Nat.le_of_ble_eq_true rfl)
 (repeat (first | refine go_seq ?_ | refine go_skip ?_ | refine go_blk ?_ | refine go_block ?_ | refine go_scope (fun _ _ _ h => h) ?_ | refine go_label ?_))
 refine go_regionJ hR ⟨[(3, .ptr 0 0), (4, .ptr 1 0), (5, .ptr 2 0), (6, .ptr 3 0), (8, iV 0), (9, bo false)], [(0, .box (SOp.avs a0) 55), (1, .box [.own 4 3 0 a1.Keys.length, iV a1.Turn] 48), (2, .box (SRecord.avs a2) 34), (3, .box [nS, (iV 0)] 48), (4, .acc 3 (kC a1.Keys) 171)], 5⟩ ?_ ?_
 ·simp only [AVS, bits_i64, EVB, eqF, Op.operands, IntKind.bits, descF, sizeF, bytesF, zeroF, seval, reduceCtorEq, ↓reduceIte]
  exact Weak.sub' ⟨rfl, rfl, rfl, rfl, rfl, rfl, trivial⟩ ⟨rfl, rfl, rfl, rfl, rfl, trivial⟩ (Nat.le_of_ble_eq_true rfl)
 refine go_seq ?_
 refine go_label ?_
 refine go_seq ?_
 refine go_join (⟨[(3, .ptr 0 0), (4, .ptr 1 0), (5, .ptr 2 0), (6, .ptr 3 0), (8, iV ((fnd a1.Keys a2.Key).1 : Nat)), (9, bo (fnd a1.Keys a2.Key).2)], [(0, .box (SOp.avs a0) 55), (1, .box [.own 4 3 0 a1.Keys.length, iV a1.Turn] 48), (2, .box (SRecord.avs a2) 34), (3, .box [nS, (iV 0)] 48), (4, .acc 3 (kC a1.Keys) 171)], 5⟩) True ?_ (fun _ => ?_)
 ·refine go_block ?_
  refine go_loop (fun p : Nat => ⟨[(3, .ptr 0 0), (4, .ptr 1 0), (5, .ptr 2 0), (6, .ptr 3 0), (8, iV (p : Nat)), (9, bo false)], [(0, .box (SOp.avs a0) 55), (1, .box [.own 4 3 0 a1.Keys.length, iV a1.Turn] 48), (2, .box (SRecord.avs a2) 34), (3, .box [nS, (iV 0)] 48), (4, .acc 3 (kC a1.Keys) 171)], 5⟩) (fun p : Nat => p ≤ a1.Keys.length ∧ fnd a1.Keys a2.Key = (p + (fnd (a1.Keys.drop p) a2.Key).1, (fnd (a1.Keys.drop p) a2.Key).2)) (fun p : Nat => a1.Keys.length - p) 0 ⟨Nat.zero_le _, by simp⟩ (Weak.sub' (by repeat (first | exact trivial | refine ⟨rfl, ?_⟩)) (by repeat (first | exact trivial | refine ⟨rfl, ?_⟩)) (by exact Nat.le_of_ble_eq_true rfl)) ?_
  rintro p ⟨hp, hf⟩
  (repeat (first | refine go_seq ?_ | refine go_skip ?_ | refine go_blk ?_ | refine go_block ?_ | refine go_scope (fun _ _ _ h => h) ?_ | refine go_label ?_))
  refine go_regionJ hR ⟨[(3, .ptr 0 0), (4, .ptr 1 0), (5, .ptr 2 0), (6, .ptr 3 0), (8, iV (p : Nat)), (9, bo false), (19, bo (decide ((p : Int) < (a1.Keys.length : Int))))], [(0, .box (SOp.avs a0) 55), (1, .box [.own 4 3 0 a1.Keys.length, iV a1.Turn] 48), (2, .box (SRecord.avs a2) 34), (3, .box [nS, (iV 0)] 48), (4, .acc 3 (kC a1.Keys) 171)], 5⟩ ?_ ?_
  ·simp only [AVS, bits_i64, EVB, eqF, Op.operands, IntKind.bits, descF, sizeF, bytesF, zeroF, seval, reduceCtorEq, ↓reduceIte]
   exact Weak.sub' ⟨rfl, rfl, rfl, rfl, rfl, rfl, rfl, trivial⟩ ⟨rfl, rfl, rfl, rfl, rfl, trivial⟩ (Nat.le_of_ble_eq_true rfl)
  (repeat (first | refine go_seq ?_ | refine go_skip ?_ | refine go_blk ?_ | refine go_block ?_ | refine go_scope (fun _ _ _ h => h) ?_ | refine go_label ?_))
  refine go_cond (by rfl) (fun h => ?_) (fun h => ?_)
  ·have h := of_decide_eq_true h
   have hpl : p < a1.Keys.length := by omega
   have hd := drop_getD a1.Keys p hpl
   (repeat (first | refine go_seq ?_ | refine go_skip ?_ | refine go_blk ?_ | refine go_block ?_ | refine go_scope (fun _ _ _ h => h) ?_ | refine go_label ?_))
   have q20 := map_getD SKeyState.cells a1.Keys p default hpl
   refine go_drawJ hR rfl ⟨[(3, .ptr 0 0), (4, .ptr 1 0), (5, .ptr 2 0), (6, .ptr 3 0), (8, iV (p : Nat)), (9, bo false), (28, bo ((a1.Keys.getD p default).Key == a2.Key))], [(0, .box (SOp.avs a0) 55), (1, .box [.own 4 3 0 a1.Keys.length, iV a1.Turn] 48), (2, .box (SRecord.avs a2) 34), (3, .box [nS, (iV 0)] 48), (4, .acc 3 (kC a1.Keys) 171)], 5⟩ ?_ ?_
   ·simp only [kC, q20, AVS, bits_i64, EVB, eqF, Op.operands, IntKind.bits, descF, sizeF, bytesF, zeroF, seval, reduceCtorEq, ↓reduceIte, CELLS]
    refine ⟨⟨by omega, by omega⟩, hpl, by kernel_rfl, ?_⟩
    exact Weak.sub' ⟨rfl, rfl, rfl, rfl, rfl, rfl, rfl, trivial⟩ ⟨rfl, rfl, rfl, rfl, rfl, trivial⟩ (Nat.le_of_ble_eq_true rfl)
   (repeat (first | refine go_seq ?_ | refine go_skip ?_ | refine go_blk ?_ | refine go_block ?_ | refine go_scope (fun _ _ _ h => h) ?_ | refine go_label ?_))
   refine go_cond (by rfl) (fun h2 => ?_) (fun h2 => ?_)
   ·(repeat (first | refine go_seq ?_ | refine go_skip ?_ | refine go_blk ?_ | refine go_block ?_ | refine go_scope (fun _ _ _ h => h) ?_ | refine go_label ?_))
    refine go_regionJ hR ⟨[(3, .ptr 0 0), (4, .ptr 1 0), (5, .ptr 2 0), (6, .ptr 3 0), (8, iV (p : Nat)), (9, bo true)], [(0, .box (SOp.avs a0) 55), (1, .box [.own 4 3 0 a1.Keys.length, iV a1.Turn] 48), (2, .box (SRecord.avs a2) 34), (3, .box [nS, (iV 0)] 48), (4, .acc 3 (kC a1.Keys) 171)], 5⟩ ?_ ?_
    ·simp only [AVS, bits_i64, EVB, eqF, Op.operands, IntKind.bits, descF, sizeF, bytesF, zeroF, seval, reduceCtorEq, ↓reduceIte]
     exact Weak.sub' ⟨rfl, rfl, rfl, rfl, rfl, rfl, trivial⟩ ⟨rfl, rfl, rfl, rfl, rfl, trivial⟩ (Nat.le_of_ble_eq_true rfl)
    refine go_exit rfl ?_
    rw [hd] at hf
    simp only [fnd, h2, cond_true, Nat.add_zero] at hf
    refine go_fin ⟨trivial, ?_⟩
    rw [hf]
    exact (Weak.sub' (by repeat (first | exact trivial | refine ⟨rfl, ?_⟩)) (by repeat (first | exact trivial | refine ⟨rfl, ?_⟩)) (by exact Nat.le_of_ble_eq_true rfl))
   ·(repeat (first | refine go_seq ?_ | refine go_skip ?_ | refine go_blk ?_ | refine go_block ?_ | refine go_scope (fun _ _ _ h => h) ?_ | refine go_label ?_))
    have hw : IntKind.i64.wrap ((p : Int) + 1) = ((p + 1 : Nat) : Int) := by rw [IntKind.wrap_i64]; omega
    refine go_regionJ hR ⟨[(3, .ptr 0 0), (4, .ptr 1 0), (5, .ptr 2 0), (6, .ptr 3 0), (8, iV (p + 1 : Nat)), (9, bo false)], [(0, .box (SOp.avs a0) 55), (1, .box [.own 4 3 0 a1.Keys.length, iV a1.Turn] 48), (2, .box (SRecord.avs a2) 34), (3, .box [nS, (iV 0)] 48), (4, .acc 3 (kC a1.Keys) 171)], 5⟩ ?_ ?_
    ·simp only [hw, AVS, bits_i64, EVB, eqF, Op.operands, IntKind.bits, descF, sizeF, bytesF, zeroF, seval, reduceCtorEq, ↓reduceIte]
     exact Weak.sub' ⟨rfl, rfl, rfl, rfl, rfl, rfl, trivial⟩ ⟨rfl, rfl, rfl, rfl, rfl, trivial⟩ (Nat.le_of_ble_eq_true rfl)
    (repeat (first | refine go_seq ?_ | refine go_skip ?_ | refine go_blk ?_ | refine go_block ?_ | refine go_scope (fun _ _ _ h => h) ?_ | refine go_label ?_))
    have hn : fnd a1.Keys a2.Key = ((p + 1) + (fnd (a1.Keys.drop (p + 1)) a2.Key).1, (fnd (a1.Keys.drop (p + 1)) a2.Key).2) := by
     rw [hf, hd]
     simp only [fnd, h2, cond_false]
     rw [Nat.add_assoc, Nat.add_comm 1]
    exact go_fin ⟨p + 1, ⟨hpl, hn⟩, by omega, (Weak.sub' (by repeat (first | exact trivial | refine ⟨rfl, ?_⟩)) (by repeat (first | exact trivial | refine ⟨rfl, ?_⟩)) (by exact Nat.le_of_ble_eq_true rfl))⟩
  ·have h := of_decide_eq_false h
   have hpl : a1.Keys.length ≤ p := by omega
   rw [List.drop_of_length_le hpl] at hf
   simp only [fnd, Nat.add_zero] at hf
   refine go_exit rfl ?_
   refine go_fin ⟨trivial, ?_⟩
   rw [hf]
   exact (Weak.sub' (by repeat (first | exact trivial | refine ⟨rfl, ?_⟩)) (by repeat (first | exact trivial | refine ⟨rfl, ?_⟩)) (by exact Nat.le_of_ble_eq_true rfl))
 (repeat (first | refine go_seq ?_ | refine go_skip ?_ | refine go_blk ?_ | refine go_block ?_ | refine go_scope (fun _ _ _ h => h) ?_ | refine go_label ?_))
 refine go_regionJ hR ⟨[(3, .ptr 0 0), (4, .ptr 1 0), (5, .ptr 2 0), (6, .ptr 3 0), (8, iV ((fnd a1.Keys a2.Key).1 : Nat)), (9, bo (fnd a1.Keys a2.Key).2), (10, .ptr 5 0)], [(0, .box (SOp.avs a0) 55), (1, .box [.own 4 3 0 a1.Keys.length, iV a1.Turn] 48), (2, .box (SRecord.avs a2) 34), (3, .box [nS, (iV 0)] 48), (4, .acc 3 (kC a1.Keys) 171), (5, .box [iV a2.Key, iV 0, iV 0] 171)], 6⟩ ?_ ?_
 ·simp only [AVS, bits_i64, EVB, eqF, Op.operands, IntKind.bits, descF, sizeF, bytesF, zeroF, seval, reduceCtorEq, ↓reduceIte]
  exact Weak.sub' ⟨rfl, rfl, rfl, rfl, rfl, rfl, rfl, trivial⟩ ⟨rfl, rfl, rfl, rfl, rfl, rfl, trivial⟩ (Nat.le_of_ble_eq_true rfl)
 (repeat (first | refine go_seq ?_ | refine go_skip ?_ | refine go_blk ?_ | refine go_block ?_ | refine go_scope (fun _ _ _ h => h) ?_ | refine go_label ?_))
 refine go_regionJ hR ⟨[(3, .ptr 0 0), (4, .ptr 1 0), (5, .ptr 2 0), (6, .ptr 3 0), (8, iV ((fnd a1.Keys a2.Key).1 : Nat)), (9, bo (fnd a1.Keys a2.Key).2), (10, .ptr 5 0), (34, bo (fnd a1.Keys a2.Key).2)], [(0, .box (SOp.avs a0) 55), (1, .box [.own 4 3 0 a1.Keys.length, iV a1.Turn] 48), (2, .box (SRecord.avs a2) 34), (3, .box [nS, (iV 0)] 48), (4, .acc 3 (kC a1.Keys) 171), (5, .box [iV a2.Key, iV 0, iV 0] 171)], 6⟩ ?_ ?_
 ·simp only [AVS, bits_i64, EVB, eqF, Op.operands, IntKind.bits, descF, sizeF, bytesF, zeroF, seval, reduceCtorEq, ↓reduceIte]
  exact Weak.sub' ⟨rfl, rfl, rfl, rfl, rfl, rfl, rfl, rfl, trivial⟩ ⟨rfl, rfl, rfl, rfl, rfl, rfl, trivial⟩ (Nat.le_of_ble_eq_true rfl)
 refine go_join (⟨[(3, .ptr 0 0), (4, .ptr 1 0), (5, .ptr 2 0), (6, .ptr 3 0), (8, iV ((fnd a1.Keys a2.Key).1 : Nat)), (9, bo (fnd a1.Keys a2.Key).2), (10, .ptr 5 0)], [(0, .box (SOp.avs a0) 55), (1, .box [.own 4 3 0 a1.Keys.length, iV a1.Turn] 48), (2, .box (SRecord.avs a2) 34), (3, .box [nS, (iV 0)] 48), (4, .acc 3 (kC a1.Keys) 171), (5, .box (SKeyState.avs (keyK a1.Keys a2.Key)) 171)], 6⟩) True ?_ (fun _ => ?_)
 ·refine go_cond (by rfl) (fun h => ?_) (fun h => ?_)
  ·have hpl := fnd_lt _ _ h
   have q20 := map_getD SKeyState.cells a1.Keys (fnd a1.Keys a2.Key).1 default hpl
   have hk : keyK a1.Keys a2.Key = a1.Keys.getD (fnd a1.Keys a2.Key).1 default := by simp only [keyK, h, cond_true]
   rw [hk]
   refine go_regionJ hR ⟨[(3, .ptr 0 0), (4, .ptr 1 0), (5, .ptr 2 0), (6, .ptr 3 0), (8, iV ((fnd a1.Keys a2.Key).1 : Nat)), (9, bo (fnd a1.Keys a2.Key).2), (10, .ptr 5 0)], [(0, .box (SOp.avs a0) 55), (1, .box [.own 4 3 0 a1.Keys.length, iV a1.Turn] 48), (2, .box (SRecord.avs a2) 34), (3, .box [nS, (iV 0)] 48), (4, .acc 3 (kC a1.Keys) 171), (5, .box (SKeyState.avs (a1.Keys.getD (fnd a1.Keys a2.Key).1 default)) 171)], 6⟩ ?_ ?_
   ·simp only [kC, q20, AVS, bits_i64, EVB, eqF, Op.operands, IntKind.bits, descF, sizeF, bytesF, zeroF, seval, reduceCtorEq, ↓reduceIte, CELLS]
    refine ⟨⟨by omega, by omega⟩, hpl, ?_⟩
    exact Weak.sub' ⟨rfl, rfl, rfl, rfl, rfl, rfl, rfl, trivial⟩ ⟨rfl, rfl, rfl, rfl, rfl, rfl, trivial⟩ (Nat.le_of_ble_eq_true rfl)
   exact go_fin ⟨trivial, (Weak.sub' (by repeat (first | exact trivial | refine ⟨rfl, ?_⟩)) (by repeat (first | exact trivial | refine ⟨rfl, ?_⟩)) (by exact Nat.le_of_ble_eq_true rfl))⟩
  ·have hk : keyK a1.Keys a2.Key = ⟨a2.Key, 0, 0⟩ := by simp only [keyK, h, cond_false]
   rw [hk]
   (repeat (first | refine go_seq ?_ | refine go_skip ?_ | refine go_blk ?_ | refine go_block ?_ | refine go_scope (fun _ _ _ h => h) ?_ | refine go_label ?_))
   exact go_fin ⟨trivial, (Weak.sub' (by repeat (first | exact trivial | refine ⟨rfl, ?_⟩)) (by repeat (first | exact trivial | refine ⟨rfl, ?_⟩)) (by exact Nat.le_of_ble_eq_true rfl))⟩
 generalize hk : keyK a1.Keys a2.Key = k
 (repeat (first | refine go_seq ?_ | refine go_skip ?_ | refine go_blk ?_ | refine go_block ?_ | refine go_scope (fun _ _ _ h => h) ?_ | refine go_label ?_))
 have A := oper_Acc_t a0.Fn k a2.Val
 refine go_regionJ hR ⟨[(3, .ptr 0 0), (4, .ptr 1 0), (5, .ptr 2 0), (6, .ptr 3 0), (8, iV ((fnd a1.Keys a2.Key).1 : Nat)), (9, bo (fnd a1.Keys a2.Key).2), (10, .ptr 5 0)], [(0, .box (SOp.avs a0) 55), (1, .box [.own 4 3 0 a1.Keys.length, iV a1.Turn] 48), (2, .box (SRecord.avs a2) 34), (3, .box [nS, (iV 0)] 48), (4, .acc 3 (kC a1.Keys) 171), (5, .box [iV k.Key, iV k.Count, iV (oper_Acc a0.Fn k a2.Val)] 171)], 6⟩ ?_ ?_
 ·simp only [AVS, bits_i64, EVB, eqF, Op.operands, IntKind.bits, descF, sizeF, bytesF, zeroF, seval, reduceCtorEq, ↓reduceIte]
  refine CallK.freshE A.toO rfl (by first | rfl | (simp only [NM]; done) | (simp only [AVS, NM]; done)) (by (repeat' apply And.intro) <;> first | trivial | rfl | omega | (simp only [NM]; omega)) (.inl rfl) (by exact Nat.le_of_ble_eq_true rfl) ?_
  simp only [AVS, bits_i64, EVB, eqF, Op.operands, IntKind.bits, descF, sizeF, bytesF, zeroF, seval, reduceCtorEq, ↓reduceIte]
  exact Weak.sub' ⟨rfl, rfl, rfl, rfl, rfl, rfl, rfl, trivial⟩ ⟨rfl, rfl, rfl, rfl, rfl, rfl, trivial⟩ (Nat.le_of_ble_eq_true rfl)
 (repeat (first | refine go_seq ?_ | refine go_skip ?_ | refine go_blk ?_ | refine go_block ?_ | refine go_scope (fun _ _ _ h => h) ?_ | refine go_label ?_))
 refine go_regionJ hR ⟨[(3, .ptr 0 0), (4, .ptr 1 0), (5, .ptr 2 0), (6, .ptr 3 0), (8, iV ((fnd a1.Keys a2.Key).1 : Nat)), (9, bo (fnd a1.Keys a2.Key).2), (10, .ptr 5 0), (49, bo (decide (k.Count < 9007199254740992)))], [(0, .box (SOp.avs a0) 55), (1, .box [.own 4 3 0 a1.Keys.length, iV a1.Turn] 48), (2, .box (SRecord.avs a2) 34), (3, .box [nS, (iV 0)] 48), (4, .acc 3 (kC a1.Keys) 171), (5, .box [iV k.Key, iV k.Count, iV (oper_Acc a0.Fn k a2.Val)] 171)], 6⟩ ?_ ?_
 ·simp only [AVS, bits_i64, EVB, eqF, Op.operands, IntKind.bits, descF, sizeF, bytesF, zeroF, seval, reduceCtorEq, ↓reduceIte]
  exact Weak.sub' ⟨rfl, rfl, rfl, rfl, rfl, rfl, rfl, rfl, trivial⟩ ⟨rfl, rfl, rfl, rfl, rfl, rfl, trivial⟩ (Nat.le_of_ble_eq_true rfl)
 refine go_join (⟨[(3, .ptr 0 0), (4, .ptr 1 0), (5, .ptr 2 0), (6, .ptr 3 0), (8, iV ((fnd a1.Keys a2.Key).1 : Nat)), (9, bo (fnd a1.Keys a2.Key).2), (10, .ptr 5 0)], [(0, .box (SOp.avs a0) 55), (1, .box [.own 4 3 0 a1.Keys.length, iV a1.Turn] 48), (2, .box (SRecord.avs a2) 34), (3, .box [nS, (iV 0)] 48), (4, .acc 3 (kC a1.Keys) 171), (5, .box (SKeyState.avs (foldK a0 k a2.Val)) 171)], 6⟩) True ?_ (fun _ => ?_)
 ·refine go_cond (by rfl) (fun h => ?_) (fun h => ?_)
  ·refine go_regionJ hR ⟨[(3, .ptr 0 0), (4, .ptr 1 0), (5, .ptr 2 0), (6, .ptr 3 0), (8, iV ((fnd a1.Keys a2.Key).1 : Nat)), (9, bo (fnd a1.Keys a2.Key).2), (10, .ptr 5 0)], [(0, .box (SOp.avs a0) 55), (1, .box [.own 4 3 0 a1.Keys.length, iV a1.Turn] 48), (2, .box (SRecord.avs a2) 34), (3, .box [nS, (iV 0)] 48), (4, .acc 3 (kC a1.Keys) 171), (5, .box [iV k.Key, iV (IntKind.i64.wrap (k.Count + 1)), iV (oper_Acc a0.Fn k a2.Val)] 171)], 6⟩ ?_ ?_
   ·simp only [AVS, bits_i64, EVB, eqF, Op.operands, IntKind.bits, descF, sizeF, bytesF, zeroF, seval, reduceCtorEq, ↓reduceIte]
    exact Weak.sub' ⟨rfl, rfl, rfl, rfl, rfl, rfl, rfl, trivial⟩ ⟨rfl, rfl, rfl, rfl, rfl, rfl, trivial⟩ (Nat.le_of_ble_eq_true rfl)
   simp only [foldK, h, cond_true, SKeyState.avs]
   exact go_fin ⟨trivial, (Weak.sub' (by repeat (first | exact trivial | refine ⟨rfl, ?_⟩)) (by repeat (first | exact trivial | refine ⟨rfl, ?_⟩)) (by exact Nat.le_of_ble_eq_true rfl))⟩
  ·(repeat (first | refine go_seq ?_ | refine go_skip ?_ | refine go_blk ?_ | refine go_block ?_ | refine go_scope (fun _ _ _ h => h) ?_ | refine go_label ?_))
   simp only [foldK, h, cond_false, SKeyState.avs]
   exact go_fin ⟨trivial, (Weak.sub' (by repeat (first | exact trivial | refine ⟨rfl, ?_⟩)) (by repeat (first | exact trivial | refine ⟨rfl, ?_⟩)) (by exact Nat.le_of_ble_eq_true rfl))⟩
 generalize hk2 : foldK a0 k a2.Val = k2
 (repeat (first | refine go_seq ?_ | refine go_skip ?_ | refine go_blk ?_ | refine go_block ?_ | refine go_scope (fun _ _ _ h => h) ?_ | refine go_label ?_))
 refine go_regionJ hR ⟨[(3, .ptr 0 0), (4, .ptr 1 0), (5, .ptr 2 0), (6, .ptr 3 0), (8, iV ((fnd a1.Keys a2.Key).1 : Nat)), (9, bo (fnd a1.Keys a2.Key).2), (10, .ptr 5 0), (11, .own 6 3 0 1)], [(0, .box (SOp.avs a0) 55), (1, .box [.own 4 3 0 a1.Keys.length, iV a1.Turn] 48), (2, .box (SRecord.avs a2) 34), (3, .box [nS, (iV 0)] 48), (4, .acc 3 (kC a1.Keys) 171), (5, .box (SKeyState.avs k2) 171), (6, .acc 3 (List.map SPut.cells [⟨0, ⟨a2.Key, k2.Acc⟩⟩]) 167)], 7⟩ ?_ ?_
 ·simp only [AVS, bits_i64, EVB, eqF, Op.operands, IntKind.bits, descF, sizeF, bytesF, zeroF, seval, reduceCtorEq, ↓reduceIte]
  refine ⟨(by (repeat' apply And.intro) <;> first | trivial | rfl | exact Nat.le_of_ble_eq_true rfl | omega | (intro u hu; obtain ⟨x, _, rfl⟩ := List.mem_map.1 hu; rfl) | (intro u hu; simp only [List.mem_cons, List.not_mem_nil, or_false] at hu; subst hu; rfl) | (simp only [NM]; omega) | (simp; done)), ?_⟩
  exact Weak.sub' ⟨rfl, rfl, rfl, rfl, rfl, rfl, rfl, rfl, trivial⟩ ⟨rfl, rfl, rfl, rfl, rfl, rfl, rfl, trivial⟩ (Nat.le_of_ble_eq_true rfl)
 (repeat (first | refine go_seq ?_ | refine go_skip ?_ | refine go_blk ?_ | refine go_block ?_ | refine go_scope (fun _ _ _ h => h) ?_ | refine go_label ?_))
 refine go_regionJ hR ⟨[(3, .ptr 0 0), (4, .ptr 1 0), (5, .ptr 2 0), (6, .ptr 3 0), (8, iV ((fnd a1.Keys a2.Key).1 : Nat)), (9, bo (fnd a1.Keys a2.Key).2), (10, .ptr 5 0), (11, .own 6 3 0 1), (12, bo (fullK a0 k2))], [(0, .box (SOp.avs a0) 55), (1, .box [.own 4 3 0 a1.Keys.length, iV a1.Turn] 48), (2, .box (SRecord.avs a2) 34), (3, .box [nS, (iV 0)] 48), (4, .acc 3 (kC a1.Keys) 171), (5, .box (SKeyState.avs k2) 171), (6, .acc 3 (List.map SPut.cells [⟨0, ⟨a2.Key, k2.Acc⟩⟩]) 167)], 7⟩ ?_ ?_
 ·rcases Bool.eq_false_or_eq_true (a0.Kind == 6) with h1 | h1
  ·simp only [fullK, h1, AVS, bits_i64, EVB, eqF, Op.operands, IntKind.bits, descF, sizeF, bytesF, zeroF, seval, reduceCtorEq, ↓reduceIte, Bool.true_and]
   try simp only [h1, BM]
   exact Weak.sub' ⟨rfl, rfl, rfl, rfl, rfl, rfl, rfl, rfl, rfl, trivial⟩ ⟨rfl, rfl, rfl, rfl, rfl, rfl, rfl, trivial⟩ (Nat.le_of_ble_eq_true rfl)
  ·simp only [fullK, h1, AVS, bits_i64, EVB, eqF, Op.operands, IntKind.bits, descF, sizeF, bytesF, zeroF, seval, reduceCtorEq, ↓reduceIte, Bool.false_and]
   try simp only [h1, BM]
   exact Weak.sub' ⟨rfl, rfl, rfl, rfl, rfl, rfl, rfl, rfl, rfl, trivial⟩ ⟨rfl, rfl, rfl, rfl, rfl, rfl, rfl, trivial⟩ (Nat.le_of_ble_eq_true rfl)
 have hi := fnd_le a1.Keys a2.Key
 have hj := pos_le a1.Keys a2.Key
 have hil := fnd_lt a1.Keys a2.Key
 have he : oper_fold a0 a1 a2 = (⟨bif (fnd a1.Keys a2.Key).2 then (bif fullK a0 k2 then delK a1.Keys (fnd a1.Keys a2.Key).1 else a1.Keys.set (fnd a1.Keys a2.Key).1 k2)
     else (bif fullK a0 k2 then a1.Keys else insK a1.Keys (pos a1.Keys a2.Key) k2), a1.Turn⟩, bif (a0.Kind == 6) && !fullK a0 k2 then [] else [⟨0, ⟨a2.Key, k2.Acc⟩⟩]) := by
  simp only [oper_fold, hk, hk2]
 generalize hKS : (bif (fnd a1.Keys a2.Key).2 then (bif fullK a0 k2 then delK a1.Keys (fnd a1.Keys a2.Key).1 else a1.Keys.set (fnd a1.Keys a2.Key).1 k2)
     else (bif fullK a0 k2 then a1.Keys else insK a1.Keys (pos a1.Keys a2.Key) k2)) = KS at he
 simp only [he]
 generalize hF : (fnd a1.Keys a2.Key).2 = F at *
 generalize hG : fullK a0 k2 = G at *
 refine go_seq ?_
 refine go_join (⟨[(3, .ptr 0 0), (4, .ptr 1 0), (6, .ptr 2 0), (11, .own 4 3 0 1), (12, bo G)], [(0, .box (SOp.avs a0) 55), (1, .box [.own 3 3 0 KS.length, iV a1.Turn] 48), (2, .box [sL SKeyState.cells [], (iV 0)] 48), (3, .acc 3 (kC KS) 171), (4, .acc 3 (List.map SPut.cells [⟨0, ⟨a2.Key, k2.Acc⟩⟩]) 167)], 5⟩) True ?_ (fun _ => ?_)
 ·cases F with
  | true =>
   cases G with
   | true =>
    simp only [cond_true] at hKS
    (repeat (first | refine go_seq ?_ | refine go_skip ?_ | refine go_blk ?_ | refine go_block ?_ | refine go_scope (fun _ _ _ h => h) ?_ | refine go_label ?_))
    refine go_region hR ?_
    simp only [AVS, bits_i64, EVB, eqF, Op.operands, IntKind.bits, descF, sizeF, bytesF, zeroF, seval, reduceCtorEq, ↓reduceIte]
    refine go_cond (by rfl) (fun h => ?_) (fun h => absurd h (by simp))
    have hw : IntKind.i64.wrap (((fnd a1.Keys a2.Key).1 : Int) + 1) = (((fnd a1.Keys a2.Key).1 + 1 : Nat) : Int) := by rw [IntKind.wrap_i64]; omega
    have D := del_t a1.Keys (fnd a1.Keys a2.Key).1 (hil rfl) (by omega)
    refine go_region hR ?_
    simp only [AVS, bits_i64, EVB, eqF, Op.operands, IntKind.bits, descF, sizeF, bytesF, zeroF, seval, reduceCtorEq, ↓reduceIte, hw]
    refine CallK.mut [4] D (by decide) (by intro b hb; simp at hb ⊢; omega) rfl ⟨trivial, trivial⟩ rfl ⟨trivial, trivial, trivial, trivial⟩ (by exact Nat.le_of_ble_eq_true rfl) ?_
    simp only [AVS, bits_i64, EVB, eqF, Op.operands, IntKind.bits, descF, sizeF, bytesF, zeroF, seval, reduceCtorEq, ↓reduceIte]
    rw [hKS]
    (repeat (first | refine go_seq ?_ | refine go_skip ?_ | refine go_blk ?_ | refine go_block ?_ | refine go_scope (fun _ _ _ h => h) ?_ | refine go_label ?_))
    exact go_fin (Weak.canon [0, 1, 3, 4, 6] [3, 4, 6, 11, 12] (by decide) rfl (by simp) rfl (by simp) rfl rfl rfl)
   | false =>
    simp only [cond_true, cond_false] at hKS
    (repeat (first | refine go_seq ?_ | refine go_skip ?_ | refine go_blk ?_ | refine go_block ?_ | refine go_scope (fun _ _ _ h => h) ?_ | refine go_label ?_))
    refine go_region hR ?_
    simp only [AVS, bits_i64, EVB, eqF, Op.operands, IntKind.bits, descF, sizeF, bytesF, zeroF, seval, reduceCtorEq, ↓reduceIte]
    refine go_cond (by rfl) (fun h => absurd h (by simp)) (fun h => ?_)
    (repeat (first | refine go_seq ?_ | refine go_skip ?_ | refine go_blk ?_ | refine go_block ?_ | refine go_scope (fun _ _ _ h => h) ?_ | refine go_label ?_))
    refine go_region hR ?_
    simp only [AVS, bits_i64, EVB, eqF, Op.operands, IntKind.bits, descF, sizeF, bytesF, zeroF, seval, reduceCtorEq, ↓reduceIte]
    refine go_cond (by rfl) (fun h => ?_) (fun h => absurd h (by simp))
    refine go_region hR ?_
    simp only [AVS, bits_i64, EVB, eqF, Op.operands, IntKind.bits, descF, sizeF, bytesF, zeroF, seval, reduceCtorEq, ↓reduceIte]
    refine ⟨⟨by omega, by have := hil rfl; omega⟩, ⟨hil rfl, ?_⟩, ?_⟩
    ·rw [kC, map_getD SKeyState.cells a1.Keys _ default (hil rfl)]
     exact Nat.le_refl _
    rw [show [CV.val (Value.int IntKind.i64 k2.Key), CV.val (Value.int IntKind.i64 k2.Count), CV.val (Value.int IntKind.i64 k2.Acc)] = SKeyState.cells k2 from rfl, setElem_map a1.Keys _ k2 (hil rfl), hKS]
    have hl : a1.Keys.length = KS.length := by rw [← hKS, List.length_set]
    rw [hl]
    (repeat (first | refine go_seq ?_ | refine go_skip ?_ | refine go_blk ?_ | refine go_block ?_ | refine go_scope (fun _ _ _ h => h) ?_ | refine go_label ?_))
    exact go_fin (Weak.canon [0, 1, 3, 4, 6] [3, 4, 6, 11, 12] (by decide) rfl (by simp) rfl (by simp) rfl rfl rfl)
  | false =>
   cases G with
   | true =>
    simp only [cond_true, cond_false] at hKS
    subst hKS
    (repeat (first | refine go_seq ?_ | refine go_skip ?_ | refine go_blk ?_ | refine go_block ?_ | refine go_scope (fun _ _ _ h => h) ?_ | refine go_label ?_))
    refine go_region hR ?_
    simp only [AVS, bits_i64, EVB, eqF, Op.operands, IntKind.bits, descF, sizeF, bytesF, zeroF, seval, reduceCtorEq, ↓reduceIte]
    refine go_cond (by rfl) (fun h => absurd h (by simp)) (fun h => ?_)
    (repeat (first | refine go_seq ?_ | refine go_skip ?_ | refine go_blk ?_ | refine go_block ?_ | refine go_scope (fun _ _ _ h => h) ?_ | refine go_label ?_))
    refine go_region hR ?_
    simp only [AVS, bits_i64, EVB, eqF, Op.operands, IntKind.bits, descF, sizeF, bytesF, zeroF, seval, reduceCtorEq, ↓reduceIte]
    refine go_cond (by rfl) (fun h => absurd h (by simp)) (fun h => ?_)
    (repeat (first | refine go_seq ?_ | refine go_skip ?_ | refine go_blk ?_ | refine go_block ?_ | refine go_scope (fun _ _ _ h => h) ?_ | refine go_label ?_))
    refine go_region hR ?_
    simp only [AVS, bits_i64, EVB, eqF, Op.operands, IntKind.bits, descF, sizeF, bytesF, zeroF, seval, reduceCtorEq, ↓reduceIte]
    refine go_cond (by rfl) (fun h => absurd h (by simp)) (fun h => ?_)
    (repeat (first | refine go_seq ?_ | refine go_skip ?_ | refine go_blk ?_ | refine go_block ?_ | refine go_scope (fun _ _ _ h => h) ?_ | refine go_label ?_))
    exact go_fin (Weak.canon [0, 1, 3, 4, 6] [3, 4, 6, 11, 12] (by decide) rfl (by simp) rfl (by simp) rfl rfl rfl)
   | false =>
    simp only [cond_true, cond_false] at hKS
    (repeat (first | refine go_seq ?_ | refine go_skip ?_ | refine go_blk ?_ | refine go_block ?_ | refine go_scope (fun _ _ _ h => h) ?_ | refine go_label ?_))
    refine go_region hR ?_
    simp only [AVS, bits_i64, EVB, eqF, Op.operands, IntKind.bits, descF, sizeF, bytesF, zeroF, seval, reduceCtorEq, ↓reduceIte]
    refine go_cond (by rfl) (fun h => absurd h (by simp)) (fun h => ?_)
    (repeat (first | refine go_seq ?_ | refine go_skip ?_ | refine go_blk ?_ | refine go_block ?_ | refine go_scope (fun _ _ _ h => h) ?_ | refine go_label ?_))
    refine go_region hR ?_
    simp only [AVS, bits_i64, EVB, eqF, Op.operands, IntKind.bits, descF, sizeF, bytesF, zeroF, seval, reduceCtorEq, ↓reduceIte]
    refine go_cond (by rfl) (fun h => absurd h (by simp)) (fun h => ?_)
    (repeat (first | refine go_seq ?_ | refine go_skip ?_ | refine go_blk ?_ | refine go_block ?_ | refine go_scope (fun _ _ _ h => h) ?_ | refine go_label ?_))
    refine go_region hR ?_
    simp only [AVS, bits_i64, EVB, eqF, Op.operands, IntKind.bits, descF, sizeF, bytesF, zeroF, seval, reduceCtorEq, ↓reduceIte]
    refine go_cond (by rfl) (fun h => ?_) (fun h => absurd h (by simp))
    (repeat (first | refine go_seq ?_ | refine go_skip ?_ | refine go_blk ?_ | refine go_block ?_ | refine go_scope (fun _ _ _ h => h) ?_ | refine go_label ?_))
    refine go_regionJ hR ⟨[(3, .ptr 0 0), (4, .ptr 1 0), (5, .ptr 2 0), (6, .ptr 3 0), (8, iV 0), (10, .ptr 5 0), (11, .own 6 3 0 1), (12, bo false)], [(0, .box (SOp.avs a0) 55), (1, .box [.own 4 3 0 a1.Keys.length, iV a1.Turn] 48), (2, .box (SRecord.avs a2) 34), (3, .box [nS, (iV 0)] 48), (4, .acc 3 (kC a1.Keys) 171), (5, .box (SKeyState.avs k2) 171), (6, .acc 3 (List.map SPut.cells [⟨0, ⟨a2.Key, k2.Acc⟩⟩]) 167)], 7⟩ ?_ ?_
    ·simp only [AVS, bits_i64, EVB, eqF, Op.operands, IntKind.bits, descF, sizeF, bytesF, zeroF, seval, reduceCtorEq, ↓reduceIte]
     exact (Weak.sub' (by repeat (first | exact trivial | refine ⟨rfl, ?_⟩)) (by repeat (first | exact trivial | refine ⟨rfl, ?_⟩)) (by exact Nat.le_of_ble_eq_true rfl))
    refine go_seq ?_
    refine go_join ⟨[(3, .ptr 0 0), (4, .ptr 1 0), (5, .ptr 2 0), (6, .ptr 3 0), (8, iV (pos a1.Keys a2.Key : Nat)), (10, .ptr 5 0), (11, .own 6 3 0 1), (12, bo false)], [(0, .box (SOp.avs a0) 55), (1, .box [.own 4 3 0 a1.Keys.length, iV a1.Turn] 48), (2, .box (SRecord.avs a2) 34), (3, .box [nS, (iV 0)] 48), (4, .acc 3 (kC a1.Keys) 171), (5, .box (SKeyState.avs k2) 171), (6, .acc 3 (List.map SPut.cells [⟨0, ⟨a2.Key, k2.Acc⟩⟩]) 167)], 7⟩ True ?_ (fun _ => ?_)
    ·refine go_block ?_
     refine go_loop (fun p : Nat => ⟨[(3, .ptr 0 0), (4, .ptr 1 0), (5, .ptr 2 0), (6, .ptr 3 0), (8, iV (p : Nat)), (10, .ptr 5 0), (11, .own 6 3 0 1), (12, bo false)], [(0, .box (SOp.avs a0) 55), (1, .box [.own 4 3 0 a1.Keys.length, iV a1.Turn] 48), (2, .box (SRecord.avs a2) 34), (3, .box [nS, (iV 0)] 48), (4, .acc 3 (kC a1.Keys) 171), (5, .box (SKeyState.avs k2) 171), (6, .acc 3 (List.map SPut.cells [⟨0, ⟨a2.Key, k2.Acc⟩⟩]) 167)], 7⟩) (fun p : Nat => p ≤ a1.Keys.length ∧ pos a1.Keys a2.Key = p + pos (a1.Keys.drop p) a2.Key) (fun p : Nat => a1.Keys.length - p) 0 ⟨Nat.zero_le _, by simp⟩ (Weak.sub' (by repeat (first | exact trivial | refine ⟨rfl, ?_⟩)) (by repeat (first | exact trivial | refine ⟨rfl, ?_⟩)) (by exact Nat.le_of_ble_eq_true rfl)) ?_
     rintro p ⟨hp, hf⟩
     (repeat (first | refine go_seq ?_ | refine go_skip ?_ | refine go_blk ?_ | refine go_block ?_ | refine go_scope (fun _ _ _ h => h) ?_ | refine go_label ?_))
     refine go_drawJ hR rfl ⟨[(3, .ptr 0 0), (4, .ptr 1 0), (5, .ptr 2 0), (6, .ptr 3 0), (8, iV (p : Nat)), (10, .ptr 5 0), (11, .own 6 3 0 1), (12, bo false), (108, bo (decide ((p : Int) < (a1.Keys.length : Int)) && decide ((a1.Keys.getD p default).Key ≤ a2.Key)))], [(0, .box (SOp.avs a0) 55), (1, .box [.own 4 3 0 a1.Keys.length, iV a1.Turn] 48), (2, .box (SRecord.avs a2) 34), (3, .box [nS, (iV 0)] 48), (4, .acc 3 (kC a1.Keys) 171), (5, .box (SKeyState.avs k2) 171), (6, .acc 3 (List.map SPut.cells [⟨0, ⟨a2.Key, k2.Acc⟩⟩]) 167)], 7⟩ ?_ ?_
     ·rcases Bool.eq_false_or_eq_true (decide ((p : Int) < (a1.Keys.length : Int))) with h1 | h1
      ·have h1' := of_decide_eq_true h1
       have hpl : p < a1.Keys.length := by omega
       have q20 := map_getD SKeyState.cells a1.Keys p default hpl
       simp only [h1, kC, q20, AVS, bits_i64, EVB, eqF, Op.operands, IntKind.bits, descF, sizeF, bytesF, zeroF, seval, reduceCtorEq, ↓reduceIte, CELLS, Bool.true_and]
       refine ⟨⟨by omega, by omega⟩, hpl, chkD_of (by kernel_rfl), ?_⟩
       exact (Weak.sub' (by repeat (first | exact trivial | refine ⟨rfl, ?_⟩)) (by repeat (first | exact trivial | refine ⟨rfl, ?_⟩)) (by exact Nat.le_of_ble_eq_true rfl))
      ·simp only [h1, kC, AVS, bits_i64, EVB, eqF, Op.operands, IntKind.bits, descF, sizeF, bytesF, zeroF, seval, reduceCtorEq, ↓reduceIte, CELLS, Bool.false_and]
       refine ⟨chkD_of (by kernel_rfl), ?_⟩
       exact (Weak.sub' (by repeat (first | exact trivial | refine ⟨rfl, ?_⟩)) (by repeat (first | exact trivial | refine ⟨rfl, ?_⟩)) (by exact Nat.le_of_ble_eq_true rfl))
     (repeat (first | refine go_seq ?_ | refine go_skip ?_ | refine go_blk ?_ | refine go_block ?_ | refine go_scope (fun _ _ _ h => h) ?_ | refine go_label ?_))
     refine go_cond (by rfl) (fun h => ?_) (fun h => ?_)
     ·obtain ⟨h1, h2⟩ := Bool.and_eq_true_iff.1 h
      have h1 := of_decide_eq_true h1
      have hpl : p < a1.Keys.length := by omega
      have hd := drop_getD a1.Keys p hpl
      have hw : IntKind.i64.wrap ((p : Int) + 1) = ((p + 1 : Nat) : Int) := by rw [IntKind.wrap_i64]; omega
      (repeat (first | refine go_seq ?_ | refine go_skip ?_ | refine go_blk ?_ | refine go_block ?_ | refine go_scope (fun _ _ _ h => h) ?_ | refine go_label ?_))
      refine go_regionJ hR ⟨[(3, .ptr 0 0), (4, .ptr 1 0), (5, .ptr 2 0), (6, .ptr 3 0), (8, iV (p + 1 : Nat)), (10, .ptr 5 0), (11, .own 6 3 0 1), (12, bo false)], [(0, .box (SOp.avs a0) 55), (1, .box [.own 4 3 0 a1.Keys.length, iV a1.Turn] 48), (2, .box (SRecord.avs a2) 34), (3, .box [nS, (iV 0)] 48), (4, .acc 3 (kC a1.Keys) 171), (5, .box (SKeyState.avs k2) 171), (6, .acc 3 (List.map SPut.cells [⟨0, ⟨a2.Key, k2.Acc⟩⟩]) 167)], 7⟩ ?_ ?_
      ·simp only [hw, AVS, bits_i64, EVB, eqF, Op.operands, IntKind.bits, descF, sizeF, bytesF, zeroF, seval, reduceCtorEq, ↓reduceIte]
       exact (Weak.sub' (by repeat (first | exact trivial | refine ⟨rfl, ?_⟩)) (by repeat (first | exact trivial | refine ⟨rfl, ?_⟩)) (by exact Nat.le_of_ble_eq_true rfl))
      (repeat (first | refine go_seq ?_ | refine go_skip ?_ | refine go_blk ?_ | refine go_block ?_ | refine go_scope (fun _ _ _ h => h) ?_ | refine go_label ?_))
      have hn : pos a1.Keys a2.Key = (p + 1) + pos (a1.Keys.drop (p + 1)) a2.Key := by
       rw [hf, hd]
       simp only [pos, h2, cond_true]
       rw [Nat.add_assoc, Nat.add_comm 1]
      exact go_fin ⟨p + 1, ⟨hpl, hn⟩, by omega, (Weak.sub' (by repeat (first | exact trivial | refine ⟨rfl, ?_⟩)) (by repeat (first | exact trivial | refine ⟨rfl, ?_⟩)) (by exact Nat.le_of_ble_eq_true rfl))⟩
     ·have hn : pos a1.Keys a2.Key = p := by
       rw [hf]
       rcases Nat.lt_or_ge p a1.Keys.length with hpl | hpl
       ·rw [drop_getD a1.Keys p hpl] at *
        have h1 : decide ((p : Int) < (a1.Keys.length : Int)) = true := decide_eq_true (by omega)
        rw [h1, Bool.true_and] at h
        simp only [pos, h, cond_false, Nat.add_zero]
       ·rw [List.drop_of_length_le hpl]
        rfl
      rw [hn]
      refine go_exit rfl ?_
      exact go_fin ⟨trivial, (Weak.sub' (by repeat (first | exact trivial | refine ⟨rfl, ?_⟩)) (by repeat (first | exact trivial | refine ⟨rfl, ?_⟩)) (by exact Nat.le_of_ble_eq_true rfl))⟩
    (repeat (first | refine go_seq ?_ | refine go_skip ?_ | refine go_blk ?_ | refine go_block ?_ | refine go_scope (fun _ _ _ h => h) ?_ | refine go_label ?_))
    have I := ins_t a1.Keys (pos a1.Keys a2.Key) k2 hj (by omega)
    refine go_region hR ?_
    simp only [AVS, bits_i64, EVB, eqF, Op.operands, IntKind.bits, descF, sizeF, bytesF, zeroF, seval, reduceCtorEq, ↓reduceIte]
    refine ⟨by intro u hu; simp only [List.mem_cons, List.not_mem_nil, or_false] at hu; subst hu; rfl, ?_⟩
    refine CallK.mut [4, 7] I (by decide) (by intro b hb; simp at hb ⊢; omega) rfl ?_ rfl ?_ (by exact Nat.le_of_ble_eq_true rfl) ?_
    ·exact (by (repeat' apply And.intro) <;> first | trivial | rfl)
    ·exact (by (repeat' apply And.intro) <;> first | trivial | rfl)
    simp only [AVS, bits_i64, EVB, eqF, Op.operands, IntKind.bits, descF, sizeF, bytesF, zeroF, seval, reduceCtorEq, ↓reduceIte]
    rw [hKS]
    (repeat (first | refine go_seq ?_ | refine go_skip ?_ | refine go_blk ?_ | refine go_block ?_ | refine go_scope (fun _ _ _ h => h) ?_ | refine go_label ?_))
    exact go_fin (Weak.canon [0, 1, 3, 4, 6] [3, 4, 6, 11, 12] (by decide) rfl (by simp) rfl (by simp) rfl rfl rfl)
 (repeat (first | refine go_seq ?_ | refine go_skip ?_ | refine go_blk ?_ | refine go_block ?_ | refine go_scope (fun _ _ _ h => h) ?_ | refine go_label ?_))
 refine go_regionJ hR ⟨[(3, .ptr 0 0), (4, .ptr 1 0), (6, .ptr 2 0), (11, .own 4 3 0 1), (12, bo G), (124, bo ((a0.Kind == 6) && !G))], [(0, .box (SOp.avs a0) 55), (1, .box [.own 3 3 0 KS.length, iV a1.Turn] 48), (2, .box [sL SKeyState.cells [], (iV 0)] 48), (3, .acc 3 (kC KS) 171), (4, .acc 3 (List.map SPut.cells [⟨0, ⟨a2.Key, k2.Acc⟩⟩]) 167)], 5⟩ ?_ ?_
 ·rcases Bool.eq_false_or_eq_true (a0.Kind == 6) with h1 | h1
  ·simp only [h1, AVS, bits_i64, EVB, eqF, Op.operands, IntKind.bits, descF, sizeF, bytesF, zeroF, seval, reduceCtorEq, ↓reduceIte, Bool.true_and]
   try simp only [h1, BM]
   exact Weak.sub' ⟨rfl, rfl, rfl, rfl, rfl, rfl, trivial⟩ ⟨rfl, rfl, rfl, rfl, rfl, trivial⟩ (Nat.le_of_ble_eq_true rfl)
  ·simp only [h1, AVS, bits_i64, EVB, eqF, Op.operands, IntKind.bits, descF, sizeF, bytesF, zeroF, seval, reduceCtorEq, ↓reduceIte, Bool.false_and]
   try simp only [h1, BM]
   exact Weak.sub' ⟨rfl, rfl, rfl, rfl, rfl, rfl, trivial⟩ ⟨rfl, rfl, rfl, rfl, rfl, trivial⟩ (Nat.le_of_ble_eq_true rfl)
 refine go_cond (by rfl) (fun h => ?_) (fun h => ?_)
 ·simp only [h, cond_true]
  (repeat (first | refine go_seq ?_ | refine go_skip ?_ | refine go_blk ?_ | refine go_block ?_ | refine go_scope (fun _ _ _ h => h) ?_ | refine go_label ?_))
  refine go_regionJ hR ⟨[(6, .ptr 2 0), (7, nS)], [(2, .box [.own 3 3 0 KS.length, (iV a1.Turn)] 48), (3, .acc 3 (kC KS) 171)], 5⟩ ?_ ?_
  ·simp only [AVS, bits_i64, EVB, eqF, Op.operands, IntKind.bits, descF, sizeF, bytesF, zeroF, seval, reduceCtorEq, ↓reduceIte]
   exact Weak.sub' ⟨rfl, rfl, trivial⟩ ⟨rfl, rfl, trivial⟩ (Nat.le_of_ble_eq_true rfl)
  refine go_return ttOk (fun _ h => h) rfl ?_ ?_
  ·exact (by (repeat' apply And.intro) <;> first | trivial | rfl | exact Nat.le_of_ble_eq_true rfl | omega | (simp only [kC_len]; omega))
  ·simp only [List.drop_zero, take_map_len, kC]
   rfl
 ·simp only [h, cond_false]
  (repeat (first | refine go_seq ?_ | refine go_skip ?_ | refine go_blk ?_ | refine go_block ?_ | refine go_scope (fun _ _ _ h => h) ?_ | refine go_label ?_))
  refine go_regionJ hR ⟨[(6, .ptr 2 0), (7, .own 4 3 0 1)], [(2, .box [.own 3 3 0 KS.length, (iV a1.Turn)] 48), (3, .acc 3 (kC KS) 171), (4, .acc 3 (List.map SPut.cells [⟨0, ⟨a2.Key, k2.Acc⟩⟩]) 167)], 5⟩ ?_ ?_
  ·simp only [AVS, bits_i64, EVB, eqF, Op.operands, IntKind.bits, descF, sizeF, bytesF, zeroF, seval, reduceCtorEq, ↓reduceIte]
   exact Weak.sub' ⟨rfl, rfl, trivial⟩ ⟨rfl, rfl, rfl, trivial⟩ (Nat.le_of_ble_eq_true rfl)
  refine go_return ttOk (fun _ h => h) rfl ?_ ?_
  ·exact (by (repeat' apply And.intro) <;> first | trivial | rfl | exact Nat.le_of_ble_eq_true rfl | omega | (simp only [kC_len]; omega))
  ·simp only [List.drop_zero, take_map_len, kC]
   rfl
end Go.Ab.Try
