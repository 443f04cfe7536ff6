/-
  A region whose order is drawn, run by the kernel. Theorems for any program.
-/
import Derived.Test.YtpfgofnmkaljaaaMg31
set_option linter.unusedVariables false
set_option linter.unusedSimpArgs false
namespace Go.Ab
open Go Go.RowKit
def runD (P : Program) (eq : EQ) (tt : TT) (n : Nat) (hs : List (Nat × Hint P)) : Nat → List Oper → AState → List Rc → Option (List Prop × AState × List Rc)
 | _, [], s, l => some ([], s, l)
 | i, o :: r, s, l => match o.guard with
  | some _ => none
  | none => match stepK P eq tt s.tmps (heapR s.heap (seen o s)) s.nxt o (look hs i) with
   | some (cs, e) => bif (match o.dst with | some t => decide (t < n) | none => true) then match runD P eq tt n hs (i + 1) r (s.apply o e) (l ++ [rcOf o s e]) with
     | some (cs', s', l') => some (cs ++ cs', s', l')
     | none => none
    else none
   | none => none
def keepA {α : Type} (l : List (Nat × α)) : List Nat → Option (List (Nat × α))
 | [] => some []
 | t :: r => match look l t, keepA l r with
  | some v, some m => some ((t, v) :: m)
  | _, _ => none
def drawK (P : Program) (eq : EQ) (tt : TT) (n : Nat) (ops : Array Oper) (hs : List (Nat × Hint P)) (s : AState) (ts bs : List Nat) : Option (List Prop × AState) :=
 match runD P eq tt n hs 0 ops.toList s [] with
 | some (cs, s', l) => bif chkM ops l then match keepA s'.tmps ts, keepA s'.heap bs with
   | some T, some B => some (cs, ⟨T, B, s'.nxt⟩)
   | _, _ => none
  else none
 | none => none
def rk0 : Reck := fun _ _ _ _ _ => none
theorem rk0_ok {P : Program} {tt : TT} : RkOk P tt rk0 := fun _ _ _ _ _ _ h => by cases h
theorem runD_ok {cx : Cx} {eq : EQ} (heq : EqOk cx.P eq) (htt : TtOk cx.P cx.tt) {all : Array Oper} {hs : List (Nat × Hint cx.P)} {R : AState → Prop} {sE : AState} {lE : List Rc} (hchk : chkD all lE = true) (hR : R sE) :
  ∀ (ops : List Oper) (i : Nat) (s : AState) (l : List Rc) (cs : List Prop), runD cx.P eq cx.tt cx.n hs i ops s l = some (cs, sE, lE) → AllP cs → opsD rk0 cx all R ops l s
 | [], i, s, l, cs, h, hc => by cases h; exact ⟨hchk, hR⟩
 | o :: r, i, s, l, cs, h, hc => by
  simp only [runD] at h
  split at h
  ·cases h
  ·rename_i hg
   split at h
   ·rename_i cs1 e he
    generalize hb : (match o.dst with | some t => decide (t < cx.n) | none => true) = b at h
    cases b with
    | false => cases h
    | true =>
     simp only [cond_true] at h
     split at h
     ·rename_i cs2 s2 l2 hr
      cases h
      obtain ⟨hc1, hc2⟩ := AllP_app.1 hc
      have hop := stepK_ok heq htt he hc1
      have ih := runD_ok heq htt hchk hR r (i + 1) _ _ _ hr hc2
      simp only [opsD]
      refine ⟨?_, ?_⟩
      ·cases hd : o.dst with
       | none => trivial
       | some t => rw [hd] at hb; exact of_decide_eq_true hb
      ·rw [hg]
       simp only [doD]
       cases hca : calleeAV s.tmps o.op with
       | none => exact ⟨e, hop, ih⟩
       | some p => exact .inr ⟨e, hop, ih⟩
     ·cases h
   ·cases h
theorem keepA_ok {α : Type} {l : List (Nat × α)} : ∀ {ts : List Nat} {T : List (Nat × α)} {t : Nat} {v : α}, keepA l ts = some T → look T t = some v → look l t = some v
 | [], T, t, v, h, hl => by cases h; cases hl
 | u :: r, T, t, v, h, hl => by
  simp only [keepA] at h
  split at h
  ·rename_i x m h1 h2
   cases h
   simp only [look] at hl
   cases e : u == t with
   | false => simp [e] at hl; exact keepA_ok h2 hl
   | true => simp [e] at hl; have := eq_of_beq e; subst this; subst hl; exact h1
  ·cases h
theorem go_dk {cx : Cx} {eq : EQ} (heq : EqOk cx.P eq) (htt : TtOk cx.P cx.tt) (hm : cx.P.follows .mixedOrders = true) {Q : Post} {k : List K} {s : AState} {id : Nat} {ops : Array Oper} (hs : List (Nat × Hint cx.P)) (cs : List Prop) (s1 : AState)
  (h : drawK cx.P eq cx.tt cx.n ops hs s (s1.tmps.map (·.1)) (s1.heap.map (·.1)) = some (cs, s1)) (hc : AllP cs) (hk : Go' cx Q k s1) : Go' cx Q (.code (.region id ops true) :: k) s := by
 unfold drawK at h
 split at h
 ·rename_i cs' s' l hr
  cases hch : chkM ops l with
  | false => rw [hch] at h; cases h
  | true =>
   rw [hch] at h
   simp only [cond_true] at h
   split at h
   ·rename_i T B hT hB
    cases h
    refine go_draw rk0_ok hm (runD_ok heq htt (chkD_of hch) ?_ _ 0 s [] _ hr hc)
    exact go_weak (s' := ⟨T, B, s'.nxt⟩) (fun a w ⟨ι, hS⟩ => ⟨ι, hS.ok, hS.free, hS.defers, hS.size, fun t av hl => hS.tmps t av (keepA_ok hT hl), fun b blk hl => hS.heap b blk (keepA_ok hB hl), hS.base⟩) hk
   ·cases h
 ·cases h
def LN {α : Type} (f : α → List CV) (l : List α) : Prop := AV.c (.val (.int .i64 ((List.map f l).length : Nat))) = iV (l.length : Nat)
theorem ln {α : Type} {f : α → List CV} {l : List α} : LN f l := by simp [LN, iV]
def IX {α : Type} [Inhabited α] (f : α → List CV) (l : List α) (i : Int) : Prop := IdxC i (List.map f l) (f (l.getD i.toNat default))
theorem ix {α : Type} [Inhabited α] {f : α → List CV} {l : List α} {i : Int} (h0 : 0 ≤ i) (h : i < l.length) : IX f l i :=
 ⟨h0, by simpa using h, map_getD f l _ _ (by omega)⟩
theorem ixn {α : Type} [Inhabited α] {f : α → List CV} {l : List α} {i : Nat} (h : i < l.length) : IX f l (i : Int) := ix (by omega) (by omega)
def RX {α : Type} [Inhabited α] (f : α → List CV) (l : List α) (i : Nat) : Prop := RowC i (List.map f l) (f (l.getD i default))
theorem rx {α : Type} [Inhabited α] {f : α → List CV} {l : List α} {i : Nat} (h : i < l.length) : RX f l i := ⟨by simpa using h, map_getD f l _ _ h⟩
def PX {α : Type} (f : α → List CV) (l : List α) (i : Nat) (cs : List CV) (x : α) : Prop := (List.map f l).set i cs = List.map f (l.set i x)
theorem px {α : Type} {f : α → List CV} {l : List α} {i : Nat} {x : α} : PX f l i (f x) x := by simp [PX, List.map_set]
theorem ixo {i : Nat} {n : Nat} (h : i < n) : IxO (i : Int) n := ⟨by omega, by omega⟩
theorem ixoI {i : Int} {n : Nat} (h0 : 0 ≤ i) (h : i < n) : IxO i n := ⟨h0, h⟩
def WR (x y : Int) : Prop := AV.c (.val (.int .i64 (IntKind.i64.wrap x))) = iV y
theorem wr {x y : Int} (h : x = y) (h1 : -9223372036854775808 ≤ y) (h2 : y < 9223372036854775808) : WR x y := by
 have : IntKind.i64.wrap x = y := by rw [IntKind.wrap_i64]; omega
 simp [WR, iV, this]
def DV (b : Int) : Prop := b ≠ 0 ∧ (IntKind.i64 = IntKind.i64 ∨ isShift .quo = true)
theorem dv {b : Int} (h : b ≠ 0) : DV b := ⟨h, .inl rfl⟩
def SX {α : Type} (v1 v2 : Prop) (l h size : Nat) (f : α → List CV) (x y : List α) : Prop := SlC v1 v2 l h size (List.map f x) (List.map f y)
theorem sx {α : Type} {v1 v2 : Prop} {l h size : Nat} {f : α → List CV} {x y : List α} (h1 : v1) (h2 : v2) (hl : l ≤ h) (hh : h ≤ x.length) (hf : ∀ x, (f x).length = size) (hy : (x.drop l).take (h - l) = y) : SX v1 v2 l h size f x y := by
 refine ⟨h1, h2, ⟨hl, by simpa using hh, fun e he => ?_⟩, by rw [← hy, List.map_take, List.map_drop]⟩
 obtain ⟨u, _, rfl⟩ := List.mem_map.1 he
 exact hf u
def OX {α : Type} (f : α → List CV) (l : List α) (off n : Nat) (l' : List α) : Prop := OwnC off n (List.map f l) (List.map f l')
theorem ox {α : Type} {f : α → List CV} {l : List α} : OX f l 0 l.length l := ⟨by simp, by rw [List.drop_zero, take_map_len]⟩
def AX {α : Type} (k by_ : Nat) (f : α → List CV) (l m : List α) : Prop := AppC k by_ (List.map f l) (List.map f m) (List.map f (l ++ m)) l.length (l ++ m).length
theorem ax {α : Type} {k by_ : Nat} {f : α → List CV} {l m : List α} (hf : ∀ x, (f x).length = k) (hb : by_ ≤ 16384) (h : l.length + m.length ≤ 8589934592) : AX k by_ f l m := by
 have h2 : (l.length + m.length) * by_ ≤ 8589934592 * 16384 := Nat.mul_le_mul h hb
 refine ⟨fun u hu => ?_, by simp, by simpa using h2, ?_, by simp, by simp⟩
 ·obtain ⟨x, _, rfl⟩ := List.mem_map.1 hu
  exact hf x
 ·simp only [List.length_map]
  omega
def MX {α : Type} (by_ : Nat) (n : Int) (f : α → List CV) (x : α) (n' : Nat) : Prop := MkC by_ n (f x) (List.map f (List.replicate n' x)) n'
theorem mx {α : Type} {by_ : Nat} {n : Nat} {f : α → List CV} {x : α} (hb : by_ ≤ 16384) (h : n ≤ 8589934592) : MX by_ (n : Int) f x n := by
 have h2 : by_ * n ≤ 16384 * 8589934592 := Nat.mul_le_mul hb h
 refine ⟨by omega, by omega, ?_, by simp, by simp⟩
 have : ((by_ * n : Nat) : Int) ≤ 281474976710656 := by omega
 simpa using this
end Go.Ab
