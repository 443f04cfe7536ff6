/-
  Regions told operation by operation; whether slices of two rows overlap.
  Pointers lent to be read: the function sees the cells as they stand. A pointer to closed cells is not nil.
  The check of a drawn region by bit sets: quick where regions are long.
  Words of whole numbers' bits; a pin; a block cut short.
-/
import Derived.Test.YtpfgofnmkaljaaaMg24
import Derived.Lib.Overlaps
import Derived.Test.YtpfgofnmkaljaaaMg15
import Derived.Test.YtpfgofnmkaljaaaMg17
import Derived.Test.YtpfgofnmkaljaaaMg14
import Derived.Test.YtpfgofnmkaljaaaMg19
set_option linter.unusedVariables false
set_option linter.unusedSimpArgs false
namespace Go.Ab
open Go Go.RowKit
def opsS (cx : Cx) (R : AState → Prop) : List Oper → AState → Prop
 | [], s => R s
 | o :: r, s => o.guard = none ∧ SpecK cx o (opsS cx R r) s
theorem opsS_sound {cx : Cx} {all : Array Oper} {R : AState → Prop} {Q : Post} (hR : ∀ s' ι' a' w', R s' → SatI cx s' ι' a' w' → Q .normal a' w') :
  ∀ (l : List Oper) (s : AState) (ι : Pl) (a : Act) (w : World), opsS cx R l s → SatI cx s ι a w → wpListIn (FW cx.rnd) 0 cx.P all Q l a w
 | [], s, ι, a, w, h, hs => hR s ι a w h hs
 | o :: r, s, ι, a, w, h, hs => by
  simp only [wpListIn]
  rw [if_pos (by simp [Region.wanted, h.1])]
  exact h.2 ι a w _ _ hs fun s' ι' a' w' hK hS => opsS_sound hR r s' ι' a' w' hK hS
theorem go_regionS {cx : Cx} {Q : Post} {k : List K} {s : AState} {id : Nat} {ops : Array Oper} (h : opsS cx (Go' cx Q k) ops.toList s) : Go' cx Q (.code (.region id ops false) :: k) s := fun a w ⟨ι, hs⟩ =>
 wpIn_region_list (opsS_sound (fun s' ι' a' w' hR hS => hR a' w' ⟨ι', hS⟩) _ s ι a w h hs)
theorem spec_rk {rk : Reck} {cx : Cx} (hrk : RkOk cx.P cx.tt rk) {o : Oper} {KK : AState → Prop} {s : AState} (h : doP rk cx o KK s) : SpecK cx o KK s := fun ι a w next Q hs hn => doP_sound hrk h hs hn
theorem spec_overlaps {cx : Cx} {o : Oper} {KK : AState → Prop} {s : AState} (htt : TtOk cx.P cx.tt) {f : FuncId} {fn : Func} {t tR e : TypeId} {v x : Operand} {tys : Array TypeId} (hf : cx.P.funcs[f]? = some fn) (hnm : (fn.name == "runtime.NumGoroutine") = false) (hbody : fn.body.isNone = true)
  (hnext : (Extern.findNext fn).isNone = true) (hfind : Extern.find fn = some (Extern.SlicesOverlaps.overlaps #[t, t] #[tR])) (hp : o.op = .call { callee := .value (.func f), args := #[v, x], argTypes := tys })
  {b1 b2 k off1 off2 n1 n2 : Nat} {es1 es2 : List (List CV)} {ty1 ty2 : TypeId} (hv : evT s.tmps v = .own b1 k off1 n1) (hx : evT s.tmps x = .own b2 k off2 n2) (hb1 : look s.heap b1 = some (.acc k es1 ty1)) (hb2 : look s.heap b2 = some (.acc k es2 ty2))
  (hd : tdesc cx.tt t = some (.slice e)) (hk : tsize cx.tt e = some k) (hne : b1 ≠ b2 ∧ 0 < k ∧ 0 < n1 ∧ 0 < n2 ∧ 0 < es2.length) (hdst : match o.dst with | some t => t < cx.n | none => True) (hK : KK (s.apply o ⟨some (.c (.val (.bool false))), [], [], s.nxt⟩)) : SpecK cx o KK s := by
 intro ι a w next Q hs hnx
 obtain ⟨hne, hk0, hn1, hn2, hes⟩ := hne
 refine ⟨about_trivial cx o a w, ?_⟩
 rw [semAt_plain _ _ _ (by rw [hp]; intro c h; cases h)]
 have r1 := hs.ev v
 have r2 := hs.ev x
 rw [hv] at r1
 rw [hx] at r2
 generalize hv1 : a.eval v = y1 at r1
 generalize hv2 : a.eval x = y2 at r2
 cases r1 with
 | ownNil => omega
 | own _ _ _ _ g1 cap1 a1 cc1 hι1 h11 h12 h13 h14 =>
  cases r2 with
  | ownNil => omega
  | own _ _ _ _ g2 cap2 a2 cc2 hι2 h21 h22 h23 h24 =>
   have e1 := h12 (by omega)
   have e2 := h22 (by omega)
   subst e1 e2
   obtain ⟨cur1, R1⟩ := row_of (hs.heap _ _ hb1) hι1
   obtain ⟨cur2, R2⟩ := row_of (hs.heap _ _ hb2) hι2
   have hgg : g1 ≠ g2 := fun h => by subst h; exact hne (hs.ok.inj _ _ _ _ _ hι1 hι2)
   have hsa : w.shape? g1 = some (ty1, cur1.length) := by simp [World.shape?, R1.hp]
   have hsb : w.shape? g2 = some (ty2, cur2.length) := by simp [World.shape?, R2.hp]
   have hk2 : cur2.length ≠ 0 := by
    have := R2.le
    have h9 : 1 * 1 ≤ cap2 * k := Nat.mul_le_mul (by omega) hk0
    rw [R2.len]; omega
   have hrun := Go.Lib.run_overlaps_apart (P := cx.P) w t tR e (under_of htt hd) k (fun w => htt.size hk w) ⟨g1, off1 * k, none⟩ ⟨g2, off2 * k, none⟩ n1 cc1 n2 cc2 hgg ty1 ty2 cur1.length cur2.length hsa hsb hk2 (by simp [World.frozen?, R1.hp]) (by simp [World.frozen?, R1.hp])
   have hexec : (execOp a.eval o).run cx.P w = .ok (.value (.bool false)) w := by
    have hfn : a.eval (.func f) = .func (.func f) #[] #[] := rfl
    have hnn : Extern.findNext fn = none := by simpa using hnext
    have hc := run_callFunc_extern (P := cx.P) (f := f) (e := Extern.SlicesOverlaps.overlaps #[t, t] #[tR]) hf hnm hbody hnn hfind
    unfold execOp
    simp only [hp, resolve, Sem.run_bind, hfn, Deferred.ofValue, Sem.run_pure, Result.andThen_ok, invoke]
    simp [hc, hv1, hv2, hrun]
   rw [hexec]
   simp only [Oper.uponIn]
   exact hnx _ ι _ w hK (hs.put0 (.c _ _ (.val _ rfl)) hdst)
end Go.Ab

set_option linter.unusedVariables false
set_option linter.unusedSimpArgs false
namespace Go.Ab
open Go Go.RowKit
def snapP (heap : List (Nat × Blk)) : AV → Option (Prop × AV)
 | .ptr b off => match look heap b with
  | some (.box cells _) => match snapC heap (cells.drop off) with
   | some (v, xs) => (closedL xs).map fun us => (v, .cel us)
   | none => none
  | _ => none
 | av => snapAV heap av
def snapPL (heap : List (Nat × Blk)) : List AV → Option (Prop × List AV)
 | [] => some (True, [])
 | a :: r => match snapP heap a, snapPL heap r with
  | some (v, x), some (vs, xs) => some (v ∧ vs, x :: xs)
  | _, _ => none
section
variable {A : Nat → Prop} {ι : Pl} {w : World} {heap : List (Nat × Blk)}
theorem snapP_ok {J : Nat → Prop} (hJ : ∀ g, Still A ι w g → J g) (hJι : ∀ b g c, ι b = some (.at g c) → J g) (hh : ∀ b blk, look heap b = some blk → BlkRep (Still A ι w) ι w b blk)
  {av : AV} {x : Value} {vc : Prop} {r : AV} (h : snapP heap av = some (vc, r)) (hvc : vc) (hx : Rep (Still A ι w) ι w av x) : Rep J noPl w r x := by
 unfold snapP at h
 split at h
 ·split at h
  ·rename_i b off _ cells ty hl
   split at h
   ·rename_i v xs hs
    cases hc : closedL xs with
    | none => rw [hc] at h; cases h
    | some us =>
     rw [hc] at h
     cases h
     cases hx with
     | ptr _ _ g cap hι =>
      have hb := hh _ _ hl
      cases hb with
      | box _ _ g' cur h1 h2 h3 h4 h5 =>
       rw [hι] at h1
       simp only [Option.some.injEq, Plc.at.injEq] at h1
       obtain ⟨rfl, rfl⟩ := h1
       obtain ⟨k1, k2⟩ := snapC_ok (A := A) (J := J) hJ hh (l := cells.drop off) (fun av hav b' hm g'' c hb' => hJι b' g'' c hb') hs hvc
       have hlen : (cur.drop off).length = xs.length := by rw [k1, List.length_drop, List.length_drop, h3]
       obtain ⟨q1, q2⟩ := closedL_ok (I := J) (ι := noPl) (w := w) hc hlen fun i av y ha hy => k2 i av y ha fun av' hav' => by
        rw [List.getElem?_drop] at hav' hy
        exact h5 _ av' y hav' hy
       have hcell : ∀ (j : Nat) (u : CV), us[j]? = some u → ∃ y, (cur.drop off)[j]? = some y ∧ w.cell? ⟨g, off + j, none⟩ = some y := fun j u hu => by
        have hj : j < (cur.drop off).length := by rw [hlen, ← q1]; exact (List.getElem?_eq_some_iff.1 hu).1
        have hg := List.getElem?_eq_getElem hj
        refine ⟨_, hg, ?_⟩
        rw [cell_of_row w g _ _ ty (0, 0) h2]
        simp
       refine .cel us ⟨g, off, none⟩ rfl (hJι _ _ _ hι) (fun j u hu => ?_) fun j u y hu hy => ?_
       ·obtain ⟨y, _, h7⟩ := hcell j u hu
        exact ⟨y, h7⟩
       ·obtain ⟨y', h6, h7⟩ := hcell j u hu
        rw [hy] at h7
        cases h7
        exact q2 j u y hu h6
   ·cases h
  ·cases h
 ·exact snapAV_ok hJ hh (fun b _ g c hb => hJι b g c hb) h hvc hx
theorem snapPL_ok {J : Nat → Prop} (hJ : ∀ g, Still A ι w g → J g) (hJι : ∀ b g c, ι b = some (.at g c) → J g) (hh : ∀ b blk, look heap b = some blk → BlkRep (Still A ι w) ι w b blk) :
  ∀ {l : List AV} {vc : Prop} {l' : List AV}, snapPL heap l = some (vc, l') → vc →
   l'.length = l.length ∧ ∀ (i : Nat) av' x, l'[i]? = some av' → (∀ av, l[i]? = some av → Rep (Still A ι w) ι w av x) → Rep J noPl w av' x
 | [], vc, l', h, hvc => by cases h; exact ⟨rfl, fun i av' x ha => by simp at ha⟩
 | a :: r, vc, l', h, hvc => by
  simp only [snapPL] at h
  split at h
  ·rename_i v x vs xs hx hxs
   cases h
   obtain ⟨h1, h2⟩ := snapPL_ok hJ hJι hh hxs hvc.2
   refine ⟨by simp [h1], fun i av' y ha hr => ?_⟩
   cases i with
   | zero => simp at ha; subst ha; exact snapP_ok hJ hJι hh hx hvc.1 (hr a rfl)
   | succ i => exact h2 i av' y (by simpa using ha) fun av hav => hr av (by simpa using hav)
  ·cases h
theorem FnP.coreP {P : Program} {f : FuncId} {args args' : List AV} {r : AV} (h : FnP P f args' r) {vc : Prop} (hs : snapPL heap args = some (vc, args')) (hvc : vc) (hfl : flatAV r)
  (hok : Ok ι w) (hh : ∀ b blk, look heap b = some blk → BlkRep (Still A ι w) ι w b blk) {vs : List Value} (hl : vs.length = args.length)
  (hr : ∀ (i : Nat) av x, args[i]? = some av → vs[i]? = some x → Rep (Still A ι w) ι w av x) :
  Calls P f vs.toArray w fun e w' => ∃ v, e = .returned v ∧ Rep (Still A ι w') ι w' r v ∧ StepR ι w ι w' (fun _ => False) (fun _ => False) := by
 let J : Nat → Prop := fun g => g < w.heap.size
 have hsn := snapPL_ok (J := J) (fun g hg => hg.1.2) (fun b g c hb => hok.lt b g c hb) hh hs hvc
 refine (h.2 J w vs (fun g hg => hg) (by rw [hl, hsn.1]) fun i av x ha hx => hsn.2 i av x ha fun av' hav' => hr i av' x hav' hx).mono fun e w' he => ?_
 obtain ⟨v, rfl, h1, hbel⟩ := he
 exact ⟨v, rfl, (rep_flat (I' := Still A ι w') h1 hfl).mono (fun g hg => ⟨hg, rfl⟩) fun b hb => absurd rfl (h1.men b hb), StepO.R ⟨hbel.os, hbel.tape, hbel.output, hbel.size, fun _ _ => rfl, fun b g c hb => .inl ⟨b, c, hb⟩, fun g hg _ => hbel.block g hg, hok.grow hbel.size⟩ rfl⟩
end
theorem CallK.look {cx : Cx} {o : Oper} {s : AState} {f : FuncId} {args args' : List AV} {r : AV} {KK : AState → Prop} {vc : Prop} (h : FnP cx.P f args' r) (hs : snapPL s.heap args = some (vc, args')) (hvc : vc) (hfl : flatAV r)
  (hd : match o.dst with | some t => t < cx.n | none => True) (hK : KK (s.apply o ⟨some r, [], [], s.nxt⟩)) : CallK cx o s f args KK := by
 refine ⟨h.1, fun ι a w vs hS hl hr => ?_⟩
 refine (h.coreP (A := cx.A) hs hvc hfl hS.ok hS.heap hl hr).mono fun e w' he => ?_
 obtain ⟨v, rfl, h1, h2⟩ := he
 exact ⟨v, _, ι, rfl, hK, hS.apply (e := ⟨some r, [], [], s.nxt⟩) (h2.mono (fun _ h => h.elim) fun _ h => h.elim) (fun p hp => by simp at hp) hS.free (fun k hk => by cases hk) h1 (fun t ht => by rw [ht] at hd; exact hd)⟩
end Go.Ab

set_option linter.unusedVariables false
set_option linter.unusedSimpArgs false
namespace Go.Ab
open Go
def maskL (all : Array Oper) : Nat → List Nat
 | 0 => []
 | n + 1 => let l := maskL all n; l ++ [match all[n]? with | some o => (direct o).foldl (fun m d => (m ||| (1 <<< d)) ||| l.getD d 0) 0 | none => 0]
def chkPairM (all : Array Oper) (anc : List Nat) (l : List Rc) (p q : Nat) : Bool :=
 match all[p]?, all[q]?, l[p]?, l[q]? with
 | some op, some oq, some rp, some rq => (!confl all op oq rp rq || (anc.getD q 0).testBit p) && (match op.dst with | some d => oq.dst != some d | none => true)
 | _, _, _, _ => false
def chkM (all : Array Oper) (l : List Rc) : Bool :=
 let anc := maskL all all.size
 (List.range all.size).all fun q => chk1 all l q && (List.range q).all fun p => chkPairM all anc l p q
theorem fold_bit (l : List Nat) (p : Nat) : ∀ (ds : List Nat) (m : Nat), (ds.foldl (fun m d => (m ||| (1 <<< d)) ||| l.getD d 0) m).testBit p = true → m.testBit p = true ∨ ∃ d ∈ ds, p = d ∨ (l.getD d 0).testBit p = true
 | [], m, h => .inl h
 | d :: ds, m, h => by
  rcases fold_bit l p ds _ h with h | ⟨d', h1, h2⟩
  ·simp only [Nat.testBit_or, Bool.or_eq_true] at h
   rcases h with (h | h) | h
   ·exact .inl h
   ·refine .inr ⟨d, List.mem_cons_self, .inl ?_⟩
    rw [Nat.one_shiftLeft, Nat.testBit_two_pow] at h
    exact (of_decide_eq_true h).symm
   ·exact .inr ⟨d, List.mem_cons_self, .inr h⟩
  ·exact .inr ⟨d', List.mem_cons_of_mem _ h1, h2⟩
theorem maskL_ok (all : Array Oper) : ∀ n, (maskL all n).length = n ∧ (ancL all n).length = n ∧ ∀ q p, ((maskL all n).getD q 0).testBit p = true → p ∈ (ancL all n).getD q []
 | 0 => ⟨rfl, rfl, fun q p h => by simp [maskL] at h⟩
 | n + 1 => by
  obtain ⟨h1, h2, h3⟩ := maskL_ok all n
  refine ⟨by simp [maskL, h1], by simp [ancL, h2], fun q p h => ?_⟩
  simp only [maskL, ancL, List.getD_eq_getElem?_getD] at h ⊢
  by_cases hq : q < n
  ·rw [List.getElem?_append_left (by omega)] at h ⊢
   have := h3 q p (by rw [List.getD_eq_getElem?_getD]; exact h)
   rwa [List.getD_eq_getElem?_getD] at this
  ·by_cases he : q = n
   ·subst he
    rw [List.getElem?_append_right (by omega)] at h ⊢
    rw [h1, Nat.sub_self] at h
    rw [h2, Nat.sub_self]
    cases hall : all[q]? with
    | none => rw [hall] at h; simp at h
    | some o =>
     rw [hall] at h
     simp only [List.getElem?_cons_zero, Option.getD_some] at h ⊢
     rcases fold_bit _ p _ _ (by simpa only [List.getD_eq_getElem?_getD] using h) with h | ⟨d, g1, g2⟩
     ·simp at h
     ·rcases g2 with rfl | g2
      ·exact List.mem_append_left _ g1
      ·refine List.mem_append_right _ (List.mem_flatMap.2 ⟨d, g1, ?_⟩)
       have := h3 d p g2
       rwa [List.getD_eq_getElem?_getD] at this
   ·rw [List.getElem?_eq_none (by simp [h1]; omega)] at h
    simp at h
theorem chkD_of {all : Array Oper} {l : List Rc} (h : chkM all l = true) : chkD all l = true := by
 simp only [chkM, chkD, List.all_eq_true, Bool.and_eq_true] at h ⊢
 refine fun q hq => ⟨(h q hq).1, fun p hp => ?_⟩
 have := (h q hq).2 p hp
 unfold chkPairM at this
 unfold chkPair
 split at this
 ·rename_i op oq rp rq e1 e2 e3 e4
  simp only [e1, e2, e3, e4, Bool.and_eq_true, Bool.or_eq_true] at this ⊢
  refine ⟨?_, this.2⟩
  rcases this.1 with h | h
  ·exact .inl h
  ·refine .inr ?_
   have := (maskL_ok all all.size).2.2 q p h
   simpa using this
 ·cases this
end Go.Ab

set_option linter.unusedVariables false
set_option linter.unusedSimpArgs false
namespace Go.Ab
open Go Go.RowKit
def xorI (a b : Int) : Int := IntKind.i64.wrap ((BitVec.ofInt 64 a ^^^ BitVec.ofInt 64 b).toNat : Int)
def andI (a b : Int) : Int := IntKind.i64.wrap ((BitVec.ofInt 64 a &&& BitVec.ofInt 64 b).toNat : Int)
theorem bits_i64 (x : BitVec 64) : bitsV .i64 x = .int .i64 (IntKind.i64.wrap (x.toNat : Int)) := rfl
theorem opsS_cons {cx : Cx} {R : AState → Prop} {o : Oper} {r : List Oper} {s : AState} (hg : o.guard = none) (h : SpecK cx o (opsS cx R r) s) : opsS cx R (o :: r) s := ⟨hg, h⟩
theorem opsS_nil {cx : Cx} {R : AState → Prop} {s : AState} (h : R s) : opsS cx R [] s := h
theorem go_pin {cx : Cx} {Q : Post} {K : List K} {s : AState} (b : Nat) {k : Nat} {es : List (List CV)} {ty : TypeId} (hb : look s.heap b = some (.acc k es ty)) (h0 : 0 < es.length)
  (h : ∀ g cap, es.length ≤ cap → cap ≤ maxLen → Go' cx Q K ⟨s.tmps, (s.nxt, .fr [undef] [.pl b (.at g cap)]) :: s.heap, s.nxt + 1⟩) : Go' cx Q K s := by
 rintro a w ⟨ι, hs⟩
 have hblk := hs.heap b _ hb
 have hlt : b < s.nxt := Nat.lt_of_not_le fun hle => hblk.laid (hs.free b hle)
 obtain ⟨g, cap, hι⟩ := blk_at (w := w) hblk h0
 obtain ⟨cur, R⟩ := row_of hblk hι
 have hst : StepR ι w (setPl ι s.nxt .nil) w (fun b' => ∃ blk, (b', blk) ∈ [(s.nxt, Blk.fr [undef] [.pl b (.at g cap)])]) (fun b' => b' ∈ ([] : List Nat) ∨ s.nxt ≤ b') := step_nil hs.ok s.nxt _ _ (.inr (Nat.le_refl _))
 have := hs.ghost (ks := []) (next := s.nxt + 1) (new := []) hst (fun p hp => ?_) (fun b' hb' => ?_) (fun k' hk' => by cases hk') fun t av hl => by cases hl
 ·exact h g cap R.le R.mx a w ⟨_, this⟩
 ·rw [List.mem_singleton.1 hp]
  refine .fr _ _ (setPl_same _ _ _) rfl fun i av x ha hx => ?_
  cases i with
  | zero => simp at ha hx; subst ha; exact .pl _ _ _ (by rw [setPl_other _ _ (by omega)]; exact hι)
  | succ i => simp at ha
 ·have hb'' : s.nxt + 1 ≤ b' := hb'
  rw [setPl_other _ _ (by omega)]
  exact hs.free b' (by omega)
theorem go_shrink {cx : Cx} {Q : Post} {K : List K} {s : AState} (b n : Nat) {k : Nat} {es : List (List CV)} {ty : TypeId} (hb : look s.heap b = some (.acc k es ty)) (h : Go' cx Q K ⟨s.tmps, (b, .acc k (es.take n) ty) :: s.heap, s.nxt⟩) : Go' cx Q K s := by
 refine go_weak ?_ h
 rintro a w ⟨ι, hs⟩
 refine ⟨ι, hs.ok, hs.free, hs.defers, hs.size, hs.tmps, fun b' blk hl => ?_, hs.base⟩
 simp only [look] at hl
 cases e : b == b' with
 | false => simp [e] at hl; exact hs.heap b' blk hl
 | true =>
  simp [e] at hl
  have := eq_of_beq e
  subst this
  subst hl
  have hblk := hs.heap b _ hb
  cases hblk with
  | accNil _ _ h1 => rw [List.take_nil]; exact .accNil _ _ h1
  | acc _ _ _ g cap cur h1 h2 h3 h4 h5 h6 h8 =>
   have hget : ∀ (i : Nat) e, (es.take n)[i]? = some e → es[i]? = some e := fun i e he => by
    rw [List.getElem?_take] at he
    split at he
    ·exact he
    ·cases he
   exact .acc _ _ _ g cap cur h1 h2 h3 (by rw [List.length_take]; omega) h5 (fun i e he => h6 i e (hget i e he)) fun i e j u x he hu hx => h8 i e j u x (hget i e he) hu hx
end Go.Ab
