/-
  Structs and arrays built, strings out of bytes; a slice against nil; a literal's bytes.
  A slice against nil; a literal's bytes taken as they are.
-/
import Derived.Test.YtpfgofnmkaljaaaMg11
import Derived.Laws.Tables
import Derived.Laws.BytesArg
set_option linter.unusedVariables false
set_option linter.unusedSimpArgs false
namespace Go.Ab
open Go Go.RowKit
def placesL (tt : TT) : List Field → Option (List (Nat × Nat))
 | [] => some []
 | f :: r => match tsize tt f.type, placesL tt r with
  | some n, some l => some ((f.offset, n) :: l)
  | _, _ => none
def placesE (tt : TT) (d : TypeDesc) (i : Nat) : Option (Nat × Nat) :=
 match d with
 | .array _ e => match tsize tt e with | some k => some (i * k, k) | none => none
 | .struct fs => match placesL tt fs.toList with | some l => l[i]? | none => none
 | _ => none
def placesOk (tt : TT) (d : TypeDesc) : Bool :=
 match d with
 | .array _ e => (tsize tt e).isSome
 | .struct fs => (placesL tt fs.toList).isSome
 | _ => false
def fillE (pl : Nat → Option (Nat × Nat)) (tmps : List (Nat × AV)) : List AV → List (Nat × Operand) → Option (Prop × List AV)
 | cells, [] => some (True, cells)
 | cells, (i, x) :: r => match pl i, cellsOf (evT tmps x) with
  | some (off, size), some cs => match fillE pl tmps (setCells cells off cs) r with
   | some (v, l) => some ((cs.length = size ∧ off + cs.length ≤ cells.length) ∧ v, l)
   | none => none
  | _, _ => none
def numOf : List CV → Int
 | [.val (.int _ n)] => n
 | _ => 0
def strOf (es : List (List CV)) : ByteArray := strOfNums (es.map numOf)
def Byteful (es : List (List CV)) : Prop := ∀ e ∈ es, ∃ n, e = [.val (.int .u8 n)]
def lookG (tt : TT) (tmps : List (Nat × AV)) (heap : List (Nat × Blk)) (o : Oper) : Option (Prop × AV) :=
 match o.op with
 | .build t parts => match tdesc tt t, tzero tt t with
  | some d, some z => match fillE (placesE tt d) tmps (z.map .c) parts.toList with
   | some (v, l) => some (placesOk tt d = true ∧ v, .agg l)
   | none => none
  | _, _ => none
 | .convert src dst x => match tdesc tt src, tdesc tt dst, snapAV heap (evT tmps x) with
  | some (.slice e), some .string, some (v, .c (.sl es)) => match tdesc tt e with
   | some (.int .u8) => some (v ∧ Byteful es, .c (.val (.string (strOf es))))
   | _ => none
  | _, _, _ => none
 | _ => none
def reckB (eq : EQ) : Reck := fun tt tmps heap nxt o =>
 match lookG tt tmps heap o with
 | some (v, av) => some (v, ⟨some av, [], [], nxt⟩)
 | none => reck eq tt tmps heap nxt o
section
variable {P : Program} {tt : TT}
theorem placesL_ok (htt : TtOk P tt) : ∀ {fs : List Field} {l : List (Nat × Nat)}, placesL tt fs = some l → fs.mapM (fun f => (P.info? f.type).map fun i => (f.offset, i.size)) = some l
 | [], l, h => by cases h; rfl
 | f :: r, l, h => by
  simp only [placesL] at h
  split at h
  ·rename_i n l' hn hl
   cases h
   have ih := placesL_ok htt hl
   have hi : ∃ inf, P.info? f.type = some inf ∧ inf.size = n := by
    unfold tsize at hn
    cases ht : tt f.type with
    | none => simp [ht] at hn
    | some i =>
     simp [ht] at hn
     subst hn
     obtain ⟨_, _, _, inf, h1, h2, _⟩ := htt f.type i ht
     exact ⟨inf, h1, h2⟩
   obtain ⟨inf, h1, h2⟩ := hi
   simp only [List.mapM_cons, h1, Option.map_some, ih, h2]
   rfl
  ·cases h
theorem fillE_ok {I : Nat → Prop} {ι : Pl} {w : World} {ρ : Operand → Value} {tmps : List (Nat × AV)} {pl : Nat → Option (Nat × Nat)} : ∀ {parts : List (Nat × Operand)} {cells out : List AV} {vc : Prop} {cur : List Value},
  fillE pl tmps cells parts = some (vc, out) → vc → (∀ p ∈ parts, Rep I ι w (evT tmps p.2) (ρ p.2)) → cur.length = cells.length → (∀ x ∈ cur, x.oneCell' = true) →
  (∀ (i : Nat) av x, cells[i]? = some av → cur[i]? = some x → Rep I ι w av x) →
  ∃ xs : List Value, Instr.fill pl cur.toArray (parts.map fun p => (p.1, ρ p.2)) = some xs.toArray ∧ xs.length = out.length ∧ (∀ x ∈ xs, x.oneCell' = true) ∧ ∀ (i : Nat) av x, out[i]? = some av → xs[i]? = some x → Rep I ι w av x
 | [], cells, out, vc, cur, h, _, _, hl, h1, hr => by cases h; exact ⟨cur, rfl, hl, h1, hr⟩
 | (i, x) :: r, cells, out, vc, cur, h, hvc, hp, hl, h1, hr => by
  simp only [fillE] at h
  split at h
  ·rename_i off size cs hpl hcs
   split at h
   ·rename_i v l hf
    cases h
    obtain ⟨⟨hsz, hle⟩, hv⟩ := hvc
    obtain ⟨xs, g1, g2, g3, g4⟩ := cellsOf_ok hcs (hp (i, x) List.mem_cons_self)
    have hxs : xs.length = size := by omega
    have hle' : off + xs.length ≤ cur.length := by omega
    obtain ⟨ys, k1, k2, k3, k4⟩ := fillE_ok (cur := cur.take off ++ xs ++ cur.drop (off + xs.length)) hf hv (fun p hpm => hp p (List.mem_cons_of_mem _ hpm)) (by simp [setCells]; omega)
     (fun y hy => by
      simp only [List.mem_append] at hy
      rcases hy with (hy | hy) | hy
      ·exact h1 y (List.mem_of_mem_take hy)
      ·exact g3 y hy
      ·exact h1 y (List.mem_of_mem_drop hy))
     (fun j av y ha hy => by
      rw [setCells_get _ _ _ hle] at ha
      rw [cur_set_get _ _ _ hle', g2] at hy
      split at ha
      ·rename_i hin
       rw [if_pos hin] at hy
       exact g4 _ av y ha hy
      ·rename_i hin
       rw [if_neg hin] at hy
       exact hr _ av y ha hy)
    refine ⟨ys, ?_, k2, k3, k4⟩
    simp only [List.map_cons, Instr.fill, hpl, g1, List.size_toArray]
    rw [if_neg (by simp; omega), ← k1]
    congr 1
    obtain ⟨s1, s2⟩ := Great.foldl_set off xs 0 cur.toArray
    rw [← Array.foldl_toList, Array.toList_zipIdx]
    apply Array.ext_getElem?
    intro j
    rw [s2 j, List.getElem?_toArray, List.getElem?_toArray, cur_set_get _ _ _ hle']
    simp only [Nat.add_zero, List.size_toArray]
    by_cases hin : off ≤ j ∧ j < off + xs.length
    ·rw [if_pos hin, if_pos ⟨hin.1, hin.2, by omega⟩]
    ·rw [if_neg hin, if_neg (by omega)]
   ·cases h
  ·cases h
theorem lookG_ok (htt : TtOk P tt) {tmps : List (Nat × AV)} {heap : List (Nat × Blk)} {o : Oper} {vc : Prop} {av : AV} (h : lookG tt tmps heap o = some (vc, av)) (hvc : vc) :
  Looks P o (evT tmps) (look heap) av ∧ (∀ c, o.op ≠ .defer c) := by
 unfold lookG at h
 have hop : ∀ p, o.op = p → (∀ c, p ≠ .defer c) → ∀ c, o.op ≠ .defer c := fun p hp hd c => by rw [hp]; exact hd c
 split at h
 ·rename_i t parts hp
  split at h
  ·rename_i d z hd hz
   split at h
   ·rename_i v l hf
    cases h
    obtain ⟨hpo, hv⟩ := hvc
    refine ⟨fun A ι w ρ hok hr hh => ?_, hop _ hp (by simp)⟩
    unfold tdesc at hd
    unfold tzero at hz
    cases ht : tt t with
    | none => simp [ht] at hd
    | some ti =>
     simp [ht] at hd hz
     subst hd hz
     obtain ⟨hu, hzs, hzl, inf, hi, hsz, hby, zz, hzz, hzc⟩ := htt t ti ht
     obtain ⟨xs, k1, k2, k3, k4⟩ := fillE_ok (I := Still A ι w) (ι := ι) (w := w) (ρ := ρ) (cur := ti.zero.map cvVal) hf hv (fun p hpm => hr p.2 (by
       simp only [hp, Op.operands]
       exact List.mem_toArray.2 (List.mem_map.2 ⟨p, hpm, rfl⟩))) (by simp) (fun x hx => by
       obtain ⟨u, hu', rfl⟩ := List.mem_map.1 hx
       rcases hzs u hu' with ⟨y, rfl, hy⟩ | rfl
       ·exact hy
       ·rfl) (fun i av x ha hx => by
       obtain ⟨u, hu', rfl⟩ := getElem?_map' ha
       obtain ⟨u2, hu2, rfl⟩ := getElem?_map' hx
       rw [hu'] at hu2
       cases hu2
       rcases hzs u (List.mem_of_getElem? hu') with ⟨y, rfl, hy⟩ | rfl
       ·exact .c _ _ (.val y hy)
       ·exact .c _ _ .nil)
     refine ⟨.agg xs.toArray, ?_, .agg _ xs k2 k3 k4⟩
     have hb : P.built t (parts.map fun (p : Nat × Operand) => (p.1, ρ p.2)).toList = some xs.toArray := by
      unfold Program.built
      simp only [hi, hu]
      rw [Array.toList_map]
      have hzz' : inf.zero = some zz := hzz
      generalize hdd : ti.desc = dd at *
      cases dd with
      | array n e =>
       simp only [placesOk] at hpo
       cases hk : tsize tt e with
       | none => rw [hk] at hpo; cases hpo
       | some k =>
        have hie : ∃ ie, P.info? e = some ie ∧ ie.size = k := by
         unfold tsize at hk
         cases ht' : tt e with
         | none => simp [ht'] at hk
         | some i' =>
          simp [ht'] at hk
          subst hk
          obtain ⟨_, _, _, inf', h1, h2, _⟩ := htt e i' ht'
          exact ⟨inf', h1, h2⟩
        obtain ⟨ie, hie, hke⟩ := hie
        simp only [hzz', hie, hzc, hke]
        have e1 : placesE tt (.array n e) = fun i => some (i * k, k) := by funext i; simp only [placesE, hk]
        rw [e1] at k1
        exact k1
      | struct fs =>
       simp only [placesOk] at hpo
       cases hk : placesL tt fs.toList with
       | none => rw [hk] at hpo; cases hpo
       | some l =>
        simp only [hzz', placesL_ok htt hk, hzc]
        have e1 : placesE tt (.struct fs) = fun i => l[i]? := by funext i; simp only [placesE, hk]
        rw [e1] at k1
        simpa using k1
      | _ => cases hpo
     have hrun := run_build (P := P) w t (parts.map fun (p : Nat × Operand) => (p.1, ρ p.2)) _ hb
     simp only [execOp, hp]
     have e2 : (parts.map fun (x : Nat × Operand) => match x with | (i, x) => (i, ρ x)) = parts.map fun (p : Nat × Operand) => (p.1, ρ p.2) := rfl
     rw [Sem.run_bind]
     rw [hrun]
     rfl
   ·cases h
  ·cases h
 ·rename_i src dst x hp
  split at h
  ·rename_i e v es hs hd hsn
   split at h
   ·rename_i he
    cases h
    obtain ⟨hv, hby⟩ := hvc
    refine ⟨fun A ι w ρ hok hr hh => ?_, hop _ hp (by simp)⟩
    have hrep := snapAV_ok (J := fun _ => True) (A := A) (ι := ι) (w := w) (fun _ _ => trivial) hh (fun _ _ _ _ _ => trivial) hsn hv (hr x (by simp [hp, Op.operands]))
    refine ⟨.string (strOf es), ?_, .c _ _ (.val _ rfl)⟩
    have under : ∀ {t d}, tdesc tt t = some d → P.underlying t = some d := fun {t d} hd => by
     unfold tdesc at hd
     cases ht : tt t with
     | none => simp [ht] at hd
     | some i => simp [ht] at hd; subst hd; exact (htt t i ht).1
    have hconv : (convert src dst (ρ x)).run P w = .ok (.string (strOf es)) w := by
     generalize ρ x = y at hrep
     cases hrep with
     | c _ _ hc =>
      cases hc with
      | nil =>
       rw [run_convert_bytes_nil w src e (under hs) (under he) 0 0 dst (under hd)]
       rfl
      | sl _ a n cap k hn hcap hmx hk hI hcell hrep =>
       subst hn
       have hall : ∀ (i : Nat), i < es.length → ∃ m, es[i]? = some [.val (.int .u8 m)] ∧ (es.map numOf).getD i 0 = m ∧ k = 1 := fun i hi => by
        have hget : es[i]? = some es[i] := List.getElem?_eq_getElem hi
        obtain ⟨m, hm⟩ := hby _ (List.getElem_mem hi)
        refine ⟨m, by rw [hget, hm], ?_, ?_⟩
        ·rw [List.getD_eq_getElem?_getD, List.getElem?_map, hget, hm]; rfl
        ·rw [← hk i _ hget, hm]; rfl
       have hl : (loadCells a es.length).run P w = .ok ((es.map numOf).map (Value.int .u8)).toArray w := by
        have := run_loadCells_list (P := P) w a ((es.map numOf).map (Value.int .u8)) (fun j v hj => by
         have hjl : j < es.length := by
          have := (List.getElem?_eq_some_iff.1 hj).1
          simpa using this
         obtain ⟨m, h1, h2, h3⟩ := hall j hjl
         subst h3
         have hne : es ≠ [] := fun h0 => by simp [h0] at hjl
         obtain ⟨y, hy⟩ := hcell j _ 0 _ h1 rfl
         have hr0 := hrep j _ 0 _ y h1 rfl hy
         cases hr0
         rw [addr_add _ _ (hI hne).1]
         simp only [Nat.mul_one, Nat.add_zero] at hy
         rw [hy]
         rw [List.getElem?_map, List.getElem?_map, h1] at hj
         simpa [numOf] using hj)
        simpa using this
       rw [run_convert_bytes_string w src dst e _ es.length cap (under hs) (under he) (under hd), run_bytesToString w _ es.length cap _ hl, foldl_push_bytes]
       simp [strOf, strOfNums, ByteArray.empty, ByteArray.emptyWithCapacity]
       rfl
    simp only [execOp, hp, Sem.run_bind, hconv]
    rfl
   ·cases h
  ·cases h
 ·cases h
theorem reckB_ok {eq : EQ} (heq : EqOk P eq) (htt : TtOk P tt) : RkOk P tt (reckB eq) := by
 intro tmps heap nxt o vc e hr hvc
 unfold reckB at hr
 split at hr
 ·rename_i v av hl
  cases hr
  obtain ⟨h1, h2⟩ := lookG_ok htt hl hvc
  exact ⟨h1.loc, h2⟩
 ·exact reck_ok heq htt tmps heap nxt o vc e hr hvc
end
end Go.Ab

set_option linter.unusedVariables false
set_option linter.unusedSimpArgs false
namespace Go.Ab
open Go Go.RowKit
theorem SatI.put0 {cx : Cx} {s : AState} {ι : Pl} {a : Act} {w : World} (h : SatI cx s ι a w) {o : Oper} {av : AV} {v : Value} (hv : Rep (Still cx.A ι w) ι w av v) (hd : match o.dst with | some t => t < cx.n | none => True) :
  SatI cx (s.apply o ⟨some av, [], [], s.nxt⟩) ι (a.put o.dst v) w :=
 h.apply (StepR.refl h.ok _ _) (fun p hp => by simp at hp) h.free (fun k hk => by cases hk) hv (fun t ht => by rw [ht] at hd; exact hd)
def nilP : AV → Option Prop
 | .c (.sl es) => some (es = [])
 | .own _ _ _ n => some (n = 0)
 | _ => none
theorem nilP_ok {I : Nat → Prop} {ι : Pl} {w : World} {av : AV} {p : Prop} {v : Value} (h : nilP av = some p) (hv : Rep I ι w av v) : (v = .slice none 0 0 ∧ p) ∨ ∃ a n c, v = .slice (some a) n c := by
 unfold nilP at h
 split at h
 ·cases h
  cases hv with
  | c _ _ hu =>
   cases hu with
   | nil => exact .inl ⟨rfl, rfl⟩
   | sl _ a n cap k => exact .inr ⟨a, n, cap, rfl⟩
 ·cases h
  cases hv with
  | ownNil _ _ hb => exact .inl ⟨rfl, rfl⟩
  | own _ _ _ _ g cap a cc => exact .inr ⟨a, _, cc, rfl⟩
 ·cases h
theorem run_eqGuard_slice {P : Program} {w : World} {op : BinOp} {t : TypeId} {x y : Operand} {a b : Option Addr} {n c m d : Nat} : (eqGuard op t x y (.slice a n c) (.slice b m d)).run P w = .ok () w := by
 unfold eqGuard
 cases op <;> simp
theorem spec_eqnil {cx : Cx} {o : Oper} {KK : AState → Prop} {s : AState} {t t' e : TypeId} {x : Operand} {p : Prop} (htt : TtOk cx.P cx.tt) (hp : o.op = .binOp .eql t x (.const (.slice none 0 0)) t') (hx : nilP (evT s.tmps x) = some p) (hd : tdesc cx.tt t = some (.slice e))
  (hdst : match o.dst with | some t => t < cx.n | none => True) (hK : ∀ b : Bool, (b = true → p) → KK (s.apply o ⟨some (.c (.val (.bool b))), [], [], s.nxt⟩)) : SpecK cx o KK s := by
 intro ι a w next Q hs hn
 refine ⟨about_trivial cx o a w, ?_⟩
 rw [semAt_plain _ _ _ (by rw [hp]; simp)]
 have key : ∀ b : Bool, (execOp a.eval o).run cx.P w = .ok (.value (.bool b)) w → (b = true → p) → Oper.uponIn (FW cx.rnd) 0 cx.P o a next Q ((execOp a.eval o).run cx.P w) := by
  intro b hrun hb
  rw [hrun]
  simp only [Oper.uponIn]
  exact hn _ ι _ w (hK b hb) (hs.put0 (.c _ _ (.val _ rfl)) hdst)
 rcases nilP_ok hx (hs.ev x) with ⟨hv, hp'⟩ | ⟨ad, n, c, hv⟩
 ·refine key true ?_ (fun _ => hp')
  have he : a.eval (.const (.slice none 0 0)) = .slice none 0 0 := rfl
  simp only [execOp, hp, hv, he, Sem.run_bind, run_eqGuard_slice, Result.andThen_ok, binOp, eq_nilslice (htt.desc hd w), Sem.run_pure]
 ·refine key false ?_ (fun h => by cases h)
  have he : a.eval (.const (.slice none 0 0)) = .slice none 0 0 := rfl
  simp only [execOp, hp, hv, he, Sem.run_bind, run_eqGuard_slice, Result.andThen_ok, binOp, eq_slicenil (htt.desc hd w), Sem.run_pure]
end Go.Ab
