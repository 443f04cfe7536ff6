/-
  More operations that only look: slicing, fields, indexes, addresses, function values, minimum and maximum, equality of structs of whole numbers.
-/
import Derived.Test.YtpfgofnmkaljaaaMg04
set_option linter.unusedVariables false
set_option linter.unusedSimpArgs false
namespace Go.Ab
open Go Go.RowKit
abbrev EQ := TypeId → Option Nat
def boundE (tmps : List (Nat × AV)) (d : Nat) : Option Operand → Option (Prop × Nat)
 | none => some (True, d)
 | some x => match evT tmps x with
  | .c (.val (.int _ i)) => some (0 ≤ i, i.toNat)
  | _ => none
def sliceAV (d : TypeDesc) (size l h : Nat) (hiSome : Bool) : AV → Option (Prop × AV)
 | .c (.sl es) => match d with
  | .slice _ => let h := bif hiSome then h else es.length
   some (l ≤ h ∧ h ≤ es.length ∧ ∀ e ∈ es, e.length = size, .c (.sl ((es.drop l).take (h - l))))
  | _ => none
 | .c (.val (.slice none 0 0)) => match d with
  | .slice _ => let h := bif hiSome then h else 0
   some (l ≤ h ∧ h = 0, .c (.val (.slice none 0 0)))
  | _ => none
 | .c (.val (.string s)) => match d with
  | .string => let h := bif hiSome then h else s.size
   some (l ≤ h ∧ h ≤ s.size, .c (.val (.string (s.extract l h))))
  | _ => none
 | .own b k off n => match d with
  | .slice _ => let h := bif hiSome then h else n
   some (l ≤ h ∧ h ≤ n ∧ k = size, .own b k (off + l) (h - l))
  | _ => none
 | .ptr b off => match d with
  | .array n _ => let h := bif hiSome then h else n
   some (l < n ∧ l ≤ h ∧ h ≤ n, .osl b (off + l * size) (h - l))
  | _ => none
 | _ => none
def fieldOf (d : TypeDesc) (f : Nat) : Option (TypeId × Nat) :=
 match d with
 | .struct fs => (fs[f]?).map fun x => (x.type, x.offset)
 | _ => none
def addrPlus (n : Nat) : AV → Option AV
 | .ptr b off => some (.ptr b (off + n))
 | .aptr b k i off => some (.aptr b k i (off + n))
 | .cel cs => some (.cel (cs.drop n))
 | _ => none
def partAV (agg : Bool) (size off : Nat) : AV → Option (Prop × AV)
 | .agg cs => bif agg then some (off + size ≤ cs.length, .agg ((cs.drop off).take size)) else some (off < cs.length, cs.getD off .top)
 | _ => none
def intsOf : List AV → Option (List (IntKind × Int))
 | [] => some []
 | .c (.val (.int k n)) :: r => (intsOf r).map fun l => (k, n) :: l
 | _ :: _ => none
def lookF (eq : EQ) (tt : TT) (tmps : List (Nat × AV)) (heap : List (Nat × Blk)) (o : Oper) : Option (Prop × AV) :=
 match o.op with
 | .slice t x lo hi none => match tdesc tt t, boundE tmps 0 lo, boundE tmps 0 hi with
  | some d, some (v1, l), some (v2, h) => match (match elemT d with | some e => tsize tt e | none => some 1) with
   | some size => (sliceAV d size l h hi.isSome (evT tmps x)).map fun r => (v1 ∧ v2 ∧ r.1, r.2)
   | none => none
  | _, _, _ => none
 | .fieldAddr s x f => match (tdesc tt s).bind fun d => fieldOf d f with
  | some (ft, off) => match tsize tt ft, addrPlus off (evT tmps x) with
   | some n, some av => some (n ≠ 0, av)
   | _, _ => none
  | none => none
 | .field s x f => match (tdesc tt s).bind fun d => fieldOf d f with
  | some (ft, off) => match tagg tt ft with
   | some (b, n) => partAV b n off (evT tmps x)
   | none => none
  | none => none
 | .nilCheck x => match evT tmps x with
  | .ptr b off => One (.ptr b off)
  | .aptr b k i off => One (.aptr b k i off)
  | .cel cs => One (.cel cs)
  | .clo f caps => One (.clo f caps)
  | _ => none
 | .makeFunc (.func f) first captured => match first.toList with
  | [] => One (.clo f (captured.toList.map (evT tmps)))
  | _ => none
 | .call { callee := .builtin .min, args, .. } => match args.toList.map (evT tmps) with
  | [.c (.val (.int k a)), .c (.val (.int k' b))] => some (k = k', .c (.val (.int k (if b < a then b else a))))
  | _ => none
 | .call { callee := .builtin .max, args, .. } => match args.toList.map (evT tmps) with
  | [.c (.val (.int k a)), .c (.val (.int k' b))] => some (k = k', .c (.val (.int k (if b > a then b else a))))
  | _ => none
 | .binOp op t x y _ => match evT tmps x, evT tmps y with
  | .agg xs, .agg ys => match op, eq t, intsOf xs, intsOf ys with
   | .eql, some n, some as, some bs => some (as.length = n ∧ as.map (·.1) = bs.map (·.1), .c (.val (.bool (decide (as.map (·.2) = bs.map (·.2))))))
   | .neq, some n, some as, some bs => some (as.length = n ∧ as.map (·.1) = bs.map (·.1), .c (.val (.bool (!decide (as.map (·.2) = bs.map (·.2))))))
   | _, _, _, _ => none
  | .c (.val (.bool a)), .c (.val (.bool b)) => match tdesc tt t, op with
   | some .bool, .eql => One (.c (.val (.bool (a == b))))
   | some .bool, .neq => One (.c (.val (.bool (!(a == b)))))
   | _, _ => none
  | .c (.val (.string a)), .c (.val (.string b)) => match op with
   | .eql => One (.c (.val (.bool (a.toList == b.toList))))
   | .neq => One (.c (.val (.bool (!(a.toList == b.toList)))))
   | _ => none
  | .c (.val (.slice none 0 0)), .c (.val (.slice none 0 0)) => match tdesc tt t, op with
   | some (.slice _), .eql => One (.c (.val (.bool true)))
   | some (.slice _), .neq => One (.c (.val (.bool false)))
   | _, _ => none
  | .ptr _ _, .c (.val (.pointer none)) => match tdesc tt t, op with
   | some (.pointer _), .eql => One (.c (.val (.bool false)))
   | some (.pointer _), .neq => One (.c (.val (.bool true)))
   | _, _ => none
  | .c (.val (.pointer none)), .c (.val (.pointer none)) => match tdesc tt t, op with
   | some (.pointer _), .eql => One (.c (.val (.bool true)))
   | some (.pointer _), .neq => One (.c (.val (.bool false)))
   | _, _ => none
  | _, _ => none
 | .sliceToArrayPointer t x => match tdesc tt t, evT tmps x with
  | some (.array n _), .c (.sl es) => some (0 < n ∧ n ≤ es.length ∧ ∀ e ∈ es, e.length = 1, .cel (es.take n).flatten)
  | _, _ => none
 | .index t x i => match tdesc tt t, evT tmps x, evT tmps i with
  | some (.array n e), .agg cs, .c (.val (.int _ j)) => match tagg tt e with
   | some (false, size) => some (0 ≤ j ∧ j < n ∧ size = 1 ∧ cs.length = n, cs.getD j.toNat .top)
   | _ => none
  | _, _, _ => none
 | _ => none
def EqOk (P : Program) (eq : EQ) : Prop := ∀ t n, eq t = some n → ∀ (w : World) (as bs : List (IntKind × Int)) (x y : Operand), as.length = n → as.map (·.1) = bs.map (·.1) →
 (eqGuard .eql t x y (.agg (as.map fun p => Value.int p.1 p.2).toArray) (.agg (bs.map fun p => Value.int p.1 p.2).toArray)).run P w = .ok () w ∧
 (eqGuard .neq t x y (.agg (as.map fun p => Value.int p.1 p.2).toArray) (.agg (bs.map fun p => Value.int p.1 p.2).toArray)).run P w = .ok () w ∧
 (Op.equal t (.agg (as.map fun p => Value.int p.1 p.2).toArray) (.agg (bs.map fun p => Value.int p.1 p.2).toArray)).run P w = .ok (decide (as.map (·.2) = bs.map (·.2))) w
theorem intsOf_ok {I : Nat → Prop} {ι : Pl} {w : World} : ∀ {cs : List AV} {l : List (IntKind × Int)} {xs : List Value}, intsOf cs = some l → xs.length = cs.length →
  (∀ (i : Nat) av x, cs[i]? = some av → xs[i]? = some x → Rep I ι w av x) → xs = l.map fun p => Value.int p.1 p.2
 | [], l, xs, h, hl, _ => by
  cases h
  simpa using hl
 | c :: r, l, xs, h, hl, hr => by
  unfold intsOf at h
  split at h
  ·rename_i heq; cases heq
  ·rename_i k n r' heq
   cases heq
   cases hi : intsOf r with
   | none => rw [hi] at h; cases h
   | some l' =>
    rw [hi] at h
    cases h
    match xs, hl with
    | x :: xs, hl =>
     have h0 := (hr 0 _ x rfl rfl).valOf (x := .int k n) rfl
     subst h0
     simp only [List.map_cons]
     congr 1
     exact intsOf_ok hi (by simpa using hl) fun i av x ha hx => hr (i + 1) av x (by simpa using ha) (by simpa using hx)
  ·cases h
theorem boundE_ok {A : Nat → Prop} {ι : Pl} {w : World} {tmps : List (Nat × AV)} {ρ : Operand → Value} {d : Nat} {x : Option Operand} {vc : Prop} {n : Nat} (h : boundE tmps d x = some (vc, n)) (hvc : vc)
  (hr : ∀ y, x = some y → Rep (Still A ι w) ι w (evT tmps y) (ρ y)) : (x = none ∧ n = d) ∨ ∃ y k, x = some y ∧ ρ y = .int k (n : Int) := by
 cases x with
 | none => cases h; exact .inl ⟨rfl, rfl⟩
 | some y =>
  simp only [boundE] at h
  split at h
  ·rename_i k i hy
   cases h
   have h1 := hr y rfl
   rw [hy] at h1
   refine .inr ⟨y, k, rfl, ?_⟩
   rw [h1.valOf rfl, Int.toNat_of_nonneg hvc]
  ·cases h
theorem run_sliceBounds {P : Program} {w : World} {b : Bool} {n cap l h : Nat} {lo hi : Option Value} (hlo : (lo = none ∧ l = 0) ∨ ∃ k, lo = some (.int k l)) (hhi : (hi = none ∧ h = n) ∨ ∃ k, hi = some (.int k h))
  (h1 : l ≤ h) (h2 : h ≤ cap) : (Instr.sliceBounds b n cap lo hi none).run P w = .ok (l, h, cap) w := by
 have hb : ∀ (k : IntKind) (i y : Nat) code, i ≤ y → (Instr.sliceBound (.int k i) y code).run P w = .ok i w := fun k i y code hle => by
  simp only [Instr.sliceBound, asIntOf, Sem.run_bind, Sem.run_pure, Result.andThen_ok]
  rw [if_pos ⟨by omega, by omega⟩]
  simp
 unfold Instr.sliceBounds
 rcases hhi with ⟨rfl, rfl⟩ | ⟨k, rfl⟩ <;> rcases hlo with ⟨rfl, rfl⟩ | ⟨k', rfl⟩ <;> simp only [Sem.run_bind, Sem.run_pure, Result.andThen_ok, Option.isSome_none, Bool.false_eq_true, if_false]
 ·rw [hb _ _ _ _ h1]; rfl
 ·rw [hb _ _ _ _ h2]; rfl
 ·rw [hb _ _ _ _ h2]
  simp only [Result.andThen_ok]
  rw [hb _ _ _ _ h1]; rfl
theorem sliceAV_ok {P : Program} {tt : TT} (htt : TtOk P tt) {A : Nat → Prop} {ι : Pl} {w : World} {t : TypeId} {d : TypeDesc} (hd : tdesc tt t = some d) {size : Nat} (hsz : (match elemT d with | some e => tsize tt e | none => some 1) = some size)
  {l h : Nat} {lo hi : Option Value} {b : Bool} {av : AV} {x : Value} {vc : Prop} {r : AV} (hs : sliceAV d size l h b av = some (vc, r)) (hvc : vc) (hx : Rep (Still A ι w) ι w av x)
  (hlo : (lo = none ∧ l = 0) ∨ ∃ k, lo = some (.int k l)) (hhi : (hi = none ∧ b = false) ∨ ((∃ k, hi = some (.int k h)) ∧ b = true)) :
  ∃ v, (Instr.sliceAt t x lo hi none).run P w = .ok v w ∧ Rep (Still A ι w) ι w r v := by
 have hu := htt.desc hd w
 have hse : ∀ e, elemT d = some e → (sizeOf e).run P w = .ok size w := fun e he => htt.size (by rw [he] at hsz; exact hsz) w
 have hhi' : ∀ n, (hi = none ∧ (bif b then h else n) = n) ∨ ∃ k, hi = some (.int k ((bif b then h else n : Nat) : Int)) := fun n => by
  rcases hhi with ⟨h1, h2⟩ | ⟨⟨k, h1⟩, h2⟩
  ·exact .inl ⟨h1, by rw [h2]; rfl⟩
  ·exact .inr ⟨k, by rw [h1, h2]; rfl⟩
 cases hx <;> simp only [sliceAV] at hs <;> (try (cases hs; done))
 case c u hu' =>
  cases hu' with
  | any y h1 => simp [sliceAV] at hs
  | val y h1 =>
   split at hs
   ·rename_i heq; cases heq
   ·rename_i heq
    cases heq
    cases d <;> simp only at hs <;> (try (cases hs; done))
    rename_i e
    cases hs
    obtain ⟨h1, h2⟩ := hvc
    generalize hh : (bif b then h else 0) = hh' at *
    subst h2
    have hl : l = 0 := by omega
    subst hl
    refine ⟨.slice none 0 0, ?_, .c _ _ (.val _ rfl)⟩
    have hbd := run_sliceBounds (P := P) (w := w) (b := true) (n := 0) (cap := 0) (l := 0) (h := 0) hlo (by have := hhi' 0; rw [hh] at this; simpa using this) (Nat.le_refl _) (Nat.le_refl _)
    simp [Instr.sliceAt, Instr.slice, Sem.run_bind, hu, hbd, hse e rfl]
   ·rename_i s heq
    cases heq
    cases d <;> simp only at hs <;> (try (cases hs; done))
    cases hs
    obtain ⟨h1, h2⟩ := hvc
    generalize hh : (bif b then h else s.size) = hh' at *
    refine ⟨.string (s.extract l hh'), ?_, .c _ _ (.val _ rfl)⟩
    have hbd := run_sliceBounds (P := P) (w := w) (b := false) (n := s.size) (cap := s.size) (l := l) (h := hh') hlo (by have := hhi' s.size; rw [hh] at this; exact this) h1 h2
    simp [Instr.sliceAt, Instr.slice, Sem.run_bind, hu, hbd]
   all_goals first | (cases hs; done) | (rename_i heq; cases heq)
  | nil =>
   cases d <;> simp only at hs <;> (try (cases hs; done))
   rename_i e
   simp only [List.length_nil] at hs
   cases hs
   obtain ⟨h1, h2, _⟩ := hvc
   generalize hh : (bif b then h else 0) = hh' at *
   have hl : l = 0 := by omega
   have hh0 : hh' = 0 := by omega
   subst hl hh0
   refine ⟨.slice none 0 0, ?_, .c _ _ (by simpa using CRep.nil)⟩
   have hbd := run_sliceBounds (P := P) (w := w) (b := true) (n := 0) (cap := 0) (l := 0) (h := 0) hlo (by have := hhi' 0; rw [hh] at this; simpa using this) (Nat.le_refl _) (Nat.le_refl _)
   simp [Instr.sliceAt, Instr.slice, Sem.run_bind, hu, hbd, hse e rfl]
  | sl es a n cap kk hn hc hm hk hI hcell hrep =>
   cases d <;> simp only at hs <;> (try (cases hs; done))
   rename_i e
   cases hs
   obtain ⟨h1, h2, h3⟩ := hvc
   subst hn
   generalize hh : (bif b then h else es.length) = hh' at *
   have hbd := run_sliceBounds (P := P) (w := w) (b := true) (n := es.length) (cap := cap) (l := l) (h := hh') hlo (by have := hhi' es.length; rw [hh] at this; exact this) h1 (by omega)
   refine ⟨.slice (if cap = l then some a else some (a.add (l * size))) (hh' - l) (cap - l), ?_, ?_⟩
   ·simp only [Instr.sliceAt, Instr.slice, Sem.run_bind, hu, Result.andThen_ok, hbd, hse e rfl, Sem.run_pure]
    split <;> rfl
   ·have hlen : ((es.drop l).take (hh' - l)).length = hh' - l := by rw [List.length_take, List.length_drop]; omega
    have hif : (if cap = l then some a else some (a.add (l * size))) = some (if cap = l then a else a.add (l * size)) := by split <;> rfl
    rw [hif]
    have hget : ∀ (i : Nat) e', ((es.drop l).take (hh' - l))[i]? = some e' → es[l + i]? = some e' ∧ i < hh' - l := fun i e' he => by
     rw [List.getElem?_take, List.getElem?_drop] at he
     split at he
     ·exact ⟨he, by assumption⟩
     ·cases he
    by_cases h0 : hh' - l = 0
    ·rw [h0, List.take_zero]
     exact .c _ _ (.sl [] _ 0 _ kk rfl (by omega) (Nat.zero_le _) (fun i e h => by simp at h) (fun h => absurd rfl h) (fun i e j u h => by simp at h) (fun i e j u x h => by simp at h))
    ·have hne : es ≠ [] := fun h => by subst h; simp at h2; omega
     obtain ⟨hsp, hIa⟩ := hI hne
     have hkk : kk = size := by
      have h0' : 0 < es.length := by omega
      rw [← hk 0 _ (List.getElem?_eq_getElem h0')]
      exact h3 _ (List.getElem_mem h0')
     rw [if_neg (by omega), addr_add a _ hsp]
     subst hkk
     refine .c _ _ (.sl _ _ _ _ kk hlen.symm (by omega) (by omega) (fun i e' he => hk _ e' (hget i e' he).1) (fun _ => ⟨rfl, hIa⟩) (fun i e' j u he hu => ?_) (fun i e' j u x he hu hx => ?_))
     ·obtain ⟨x, hx⟩ := hcell _ e' j u (hget i e' he).1 hu
      exact ⟨x, by rw [← hx, show a.off + l * kk + (i * kk + j) = a.off + ((l + i) * kk + j) by rw [Nat.add_mul]; omega]⟩
     ·exact hrep _ e' j u x (hget i e' he).1 hu (by rw [← hx, show a.off + l * kk + (i * kk + j) = a.off + ((l + i) * kk + j) by rw [Nat.add_mul]; omega])
 case ownNil b' k hb =>
  cases d <;> simp only at hs <;> (try (cases hs; done))
  rename_i e
  cases hs
  obtain ⟨h1, h2, h3⟩ := hvc
  generalize hh : (bif b then h else 0) = hh' at *
  have hl : l = 0 := by omega
  have hh0 : hh' = 0 := by omega
  subst hl hh0
  refine ⟨.slice none 0 0, ?_, .ownNil b' k hb⟩
  have hbd := run_sliceBounds (P := P) (w := w) (b := true) (n := 0) (cap := 0) (l := 0) (h := 0) hlo (by have := hhi' 0; rw [hh] at this; simpa using this) (Nat.le_refl _) (Nat.le_refl _)
  simp [Instr.sliceAt, Instr.slice, Sem.run_bind, hu, hbd, hse e rfl]
 case own b' k off n g cap a cc hb h0' h1' h2' hq' =>
  cases d <;> simp only at hs <;> (try (cases hs; done))
  rename_i e
  cases hs
  obtain ⟨h1, h2, h3⟩ := hvc
  subst h3
  generalize hh : (bif b then h else n) = hh' at *
  have hbd := run_sliceBounds (P := P) (w := w) (b := true) (n := n) (cap := cc) (l := l) (h := hh') hlo (by have := hhi' n; rw [hh] at this; exact this) h1 (by omega)
  refine ⟨.slice (some (if cc = l then a else a.add (l * k))) (hh' - l) (cc - l), ?_, ?_⟩
  ·simp only [Instr.sliceAt, Instr.slice, Sem.run_bind, hu, Result.andThen_ok, hbd, hse e rfl, Sem.run_pure]
   split <;> rfl
  ·refine .own b' k (off + l) (hh' - l) g cap _ _ hb (fun h0 => ?_) (fun hne => ?_) (by omega) (by omega)
   ·obtain ⟨rfl, rfl⟩ : off = 0 ∧ l = 0 := by omega
    obtain ⟨ha, hcc⟩ := h0' rfl
    refine ⟨?_, by omega⟩
    subst ha
    split
    ·rfl
    ·rw [addr_add _ _ rfl]; simp
   ·have ha := h1' (by omega)
    subst ha
    rw [if_neg (by omega), addr_add _ _ rfl, Nat.add_mul]
 case ptr b' off g cap hb =>
  cases d <;> simp only at hs <;> (try (cases hs; done))
  rename_i n e
  cases hs
  obtain ⟨h0, h1, h2⟩ := hvc
  generalize hh : (bif b then h else n) = hh' at *
  have hbd := run_sliceBounds (P := P) (w := w) (b := false) (n := n) (cap := n) (l := l) (h := hh') hlo (by have := hhi' n; rw [hh] at this; exact this) h1 h2
  refine ⟨.slice (some ⟨g, off + l * size, none⟩) (hh' - l) (n - l), ?_, .osl b' _ _ g cap _ hb (by omega)⟩
  simp only [Instr.sliceAt, Sem.run_bind, hu, Result.andThen_ok, Instr.sureAddr, hbd, hse e rfl, Sem.run_pure]
  rw [if_neg (by omega), addr_add _ _ rfl]
theorem run_fieldPlace {P : Program} {w : World} {tt : TT} (htt : TtOk P tt) {a : Addr} {f : Field} {n : Nat} (hn : tsize tt f.type = some n) (h0 : n ≠ 0) : (fieldPlace a f).run P w = .ok (a.add f.offset) w := by
 unfold fieldPlace
 rw [Sem.run_bind, htt.size hn w, Result.andThen_ok, if_neg h0]
 rfl
theorem addrPlus_ok {A : Nat → Prop} {ι : Pl} {w : World} {n : Nat} {av r : AV} {x : Value} (h : addrPlus n av = some r) (hx : Rep (Still A ι w) ι w av x) : ∃ a, x = .pointer (some a) ∧ Rep (Still A ι w) ι w r (.pointer (some (a.add n))) := by
 cases hx <;> simp only [addrPlus] at h <;> (try (cases h; done))
 case ptr b off g cap hb => cases h; exact ⟨_, rfl, by rw [addr_add _ _ rfl]; exact .ptr b _ g cap hb⟩
 case aptr b k i off g cap hb => cases h; exact ⟨_, rfl, by rw [addr_add _ _ rfl, Nat.add_assoc]; exact .aptr b k i _ g cap hb⟩
 case cel cs a hs hI hcell hrep =>
  cases h
  refine ⟨a, rfl, ?_⟩
  rw [addr_add _ _ hs]
  refine .cel _ _ rfl hI (fun j u hu => ?_) (fun j u x hu hx => ?_)
  ·rw [List.getElem?_drop] at hu
   obtain ⟨x, hx⟩ := hcell _ u hu
   exact ⟨x, by rw [← hx, Nat.add_assoc]⟩
  ·rw [List.getElem?_drop] at hu
   exact hrep _ u x hu (by rw [← hx, Nat.add_assoc])
theorem partAV_ok {P : Program} {tt : TT} (htt : TtOk P tt) {A : Nat → Prop} {ι : Pl} {w : World} {t : TypeId} {b : Bool} {n off : Nat} (ht : tagg tt t = some (b, n)) {av r : AV} {x : Value} {vc : Prop} (h : partAV b n off av = some (vc, r)) (hvc : vc)
  (hx : Rep (Still A ι w) ι w av x) : ∃ cs v, x = .agg cs ∧ (part t cs off).run P w = .ok v w ∧ Rep (Still A ι w) ι w r v := by
 cases hx <;> simp only [partAV] at h <;> (try (cases h; done))
 case agg cs xs hl h1 hr =>
  obtain ⟨ha, hsz⟩ := htt.agg ht w
  cases b with
  | true =>
   simp only [cond_true, Option.some.injEq, Prod.mk.injEq] at h
   obtain ⟨rfl, rfl⟩ := h
   refine ⟨_, .agg ((xs.drop off).take n).toArray, rfl, ?_, ?_⟩
   ·unfold part
    rw [Sem.run_bind, ha, Result.andThen_ok, if_pos rfl, Sem.run_bind, hsz, Result.andThen_ok, Sem.run_pure]
    congr 2
    simp [List.extract_eq_take_drop]
   ·refine .agg _ _ (by simp [hl]) (fun x hx => h1 x (List.mem_of_mem_drop (List.mem_of_mem_take hx))) fun i av x ha hx => ?_
    rw [List.getElem?_take] at ha hx
    split at ha
    ·rename_i hlt
     rw [if_pos hlt] at hx
     rw [List.getElem?_drop] at ha hx
     exact hr _ av x ha hx
    ·cases ha
  | false =>
   simp only [cond_false, Option.some.injEq, Prod.mk.injEq] at h
   obtain ⟨rfl, rfl⟩ := h
   have hlt : off < xs.length := by omega
   refine ⟨_, xs.getD off undef, rfl, ?_, hr off _ _ (getD_get hvc) (getD_get hlt)⟩
   unfold part
   rw [Sem.run_bind, ha, Result.andThen_ok, if_neg (by simp)]
   simp [List.getElem?_eq_getElem hlt]
section
variable {P : Program} {w : World} {t : TypeId}
theorem eq_bool (h : (underlying t).run P w = .ok .bool w) (a b : Bool) : (Op.equal t (.bool a) (.bool b)).run P w = .ok (a == b) w := by
 have : ∀ d, (Op.equalIn (d + 1) t (.bool a) (.bool b)).run P w = .ok (a == b) w := fun d => by simp only [Op.equalIn, Sem.run_bind, h, Result.andThen_ok, Sem.run_pure]
 exact this 9999
theorem eq_nilslice {e : TypeId} (h : (underlying t).run P w = .ok (.slice e) w) : (Op.equal t (.slice none 0 0) (.slice none 0 0)).run P w = .ok true w := by
 have : ∀ d, (Op.equalIn (d + 1) t (.slice none 0 0) (.slice none 0 0)).run P w = .ok true w := fun d => by simp only [Op.equalIn, Sem.run_bind, h, Result.andThen_ok, Sem.run_pure, Option.isNone_none]
 exact this 9999
theorem eq_slicenil {e : TypeId} (h : (underlying t).run P w = .ok (.slice e) w) (a : Addr) (n c : Nat) : (Op.equal t (.slice (some a) n c) (.slice none 0 0)).run P w = .ok false w := by
 have : ∀ d, (Op.equalIn (d + 1) t (.slice (some a) n c) (.slice none 0 0)).run P w = .ok false w := fun d => by simp only [Op.equalIn, Sem.run_bind, h, Result.andThen_ok, Sem.run_pure]
 exact this 9999
theorem eq_ptrnil {e : TypeId} (h : (underlying t).run P w = .ok (.pointer e) w) (a : Addr) : (Op.equal t (.pointer (some a)) (.pointer none)).run P w = .ok false w := by
 have : ∀ d, (Op.equalIn (d + 1) t (.pointer (some a)) (.pointer none)).run P w = .ok false w := fun d => by simp only [Op.equalIn, Sem.run_bind, h, Result.andThen_ok, Sem.run_pure]
 exact this 9999
theorem eq_nilnil {e : TypeId} (h : (underlying t).run P w = .ok (.pointer e) w) : (Op.equal t (.pointer none) (.pointer none)).run P w = .ok true w := by
 have : ∀ d, (Op.equalIn (d + 1) t (.pointer none) (.pointer none)).run P w = .ok true w := fun d => by simp only [Op.equalIn, Sem.run_bind, h, Result.andThen_ok, Sem.run_pure, Option.isNone_none]
 exact this 9999
end
theorem lookF_ok {P : Program} {eq : EQ} (heq : EqOk P eq) {tt : TT} (htt : TtOk P tt) {tmps : List (Nat × AV)} {heap : List (Nat × Blk)} {o : Oper} {vc : Prop} {av : AV} (h : lookF eq tt tmps heap o = some (vc, av)) (hvc : vc) :
  Looks P o (evT tmps) (look heap) av ∧ (∀ c, o.op ≠ .defer c) := by
 unfold lookF at h
 have hop : ∀ p, o.op = p → (∀ c, p ≠ .defer c) → ∀ c, o.op ≠ .defer c := fun p hp hd c => by rw [hp]; exact hd c
 split at h
 case h_1 t x lo hi hp =>
  split at h
  ·rename_i d v1 l v2 hh hd hlo hhi
   split at h
   ·rename_i size hsz
    cases hs : sliceAV d size l hh hi.isSome (evT tmps x) with
    | none => rw [hs] at h; cases h
    | some p =>
     rw [hs] at h
     cases h
     refine ⟨fun A ι w ρ hok hr hh' => ?_, hop _ hp (by simp)⟩
     have hlo' := boundE_ok (A := A) (ι := ι) (w := w) (ρ := ρ) hlo hvc.1 fun y hy => hr y (by simp [hp, Op.operands, hy])
     have hhi' := boundE_ok (A := A) (ι := ι) (w := w) (ρ := ρ) hhi hvc.2.1 fun y hy => hr y (by simp [hp, Op.operands, hy])
     obtain ⟨v, hv, hrep⟩ := sliceAV_ok (lo := lo.map ρ) (hi := hi.map ρ) htt hd hsz (r := p.2) hs hvc.2.2 (hr x (by simp [hp, Op.operands])) (by
      rcases hlo' with ⟨rfl, rfl⟩ | ⟨y, k, rfl, hy⟩
      ·exact .inl ⟨rfl, rfl⟩
      ·exact .inr ⟨k, by simp [hy]⟩) (by
      rcases hhi' with ⟨rfl, rfl⟩ | ⟨y, k, rfl, hy⟩
      ·exact .inl ⟨rfl, rfl⟩
      ·exact .inr ⟨⟨k, by simp [hy]⟩, rfl⟩)
     exact ⟨v, by simp [execOp, hp, hv], hrep⟩
   ·cases h
  ·cases h
 case h_2 s x f hp =>
  split at h
  ·rename_i ft off hfo
   split at h
   ·rename_i n av' hn hav
    cases h
    refine ⟨fun A ι w ρ hok hr hh' => ?_, hop _ hp (by simp)⟩
    obtain ⟨a, hx, hrep⟩ := addrPlus_ok hav (hr x (by simp [hp, Op.operands]))
    cases hd : tdesc tt s with
    | none => rw [hd] at hfo; cases hfo
    | some d =>
     rw [hd] at hfo
     simp only [Option.bind_some, fieldOf] at hfo
     split at hfo
     ·rename_i fs
      cases hf : fs[f]? with
      | none => rw [hf] at hfo; cases hfo
      | some fl =>
       rw [hf] at hfo
       cases hfo
       refine ⟨.pointer (some (a.add fl.offset)), ?_, hrep⟩
       simp [execOp, hp, Instr.fieldAt, htt.desc hd w, hf, hx, Instr.sureAddr, run_fieldPlace htt hn hvc]
     ·cases hfo
   ·cases h
  ·cases h
 case h_3 s x f hp =>
  split at h
  ·rename_i ft off hfo
   split at h
   ·rename_i b n ht
    refine ⟨fun A ι w ρ hok hr hh' => ?_, hop _ hp (by simp)⟩
    obtain ⟨cs, v, hx, hrun, hrep⟩ := partAV_ok htt ht h hvc (hr x (by simp [hp, Op.operands]))
    cases hd : tdesc tt s with
    | none => rw [hd] at hfo; cases hfo
    | some d =>
     rw [hd] at hfo
     simp only [Option.bind_some, fieldOf] at hfo
     split at hfo
     ·rename_i fs
      cases hf : fs[f]? with
      | none => rw [hf] at hfo; cases hfo
      | some fl =>
       rw [hf] at hfo
       cases hfo
       exact ⟨v, by simp [execOp, hp, Instr.field, htt.desc hd w, hf, hx, asAgg, hrun], hrep⟩
     ·cases hfo
   ·cases h
  ·cases h
 case h_4 x hp =>
  refine ⟨?_, hop _ hp (by simp)⟩
  intro A ι w ρ hok hr hh'
  have h1 := hr x (by simp [hp, Op.operands])
  split at h
  all_goals first | (cases h; done) | skip
  all_goals
   rename_i hx
   cases h
   rw [hx] at h1
   generalize hρ : ρ x = v at h1
   have h1' := h1
   cases h1
   exact ⟨_, by simp [execOp, hp, hρ], h1'⟩
 case h_5 f first captured hp =>
  split at h
  ·rename_i hf
   cases h
   refine ⟨fun A ι w ρ hok hr hh' => ?_, hop _ hp (by simp)⟩
   have hfe : first = #[] := by obtain ⟨l⟩ := first; simpa using hf
   subst hfe
   refine ⟨.func (.func f) #[] (captured.map ρ), by simp [execOp, hp, Instr.makeFunc], ?_⟩
   have he : captured.map ρ = (captured.toList.map ρ).toArray := by obtain ⟨l⟩ := captured; simp
   rw [he]
   refine .clo f _ _ (by simp) fun i av x ha hx => ?_
   obtain ⟨y, hy, rfl⟩ := getElem?_map' ha
   obtain ⟨z, hz, rfl⟩ := getElem?_map' hx
   have : y = z := by rw [hy] at hz; exact Option.some.inj hz
   subst this
   exact hr y (by simp only [hp, Op.operands]; exact Array.mem_append.2 (.inr (by simpa using List.mem_of_getElem? hy)))
  ·cases h
 case h_6 args _ hp =>
  split at h
  ·rename_i k a k' b hx
   cases h
   subst hvc
   refine ⟨fun A ι w ρ hok hr hh' => ?_, hop _ hp (by simp)⟩
   obtain ⟨l⟩ := args
   obtain ⟨x, y, rfl⟩ : ∃ x y, l = [x, y] := by
    have hl : l.length = 2 := by simpa using congrArg List.length hx
    match l, hl with
    | [x, y], _ => exact ⟨x, y, rfl⟩
   ·simp only [List.map_cons, List.map_nil, List.cons.injEq, and_true] at hx
    have h1 := hr x (by simp [hp, Op.operands, Call.operands])
    have h2 := hr y (by simp [hp, Op.operands, Call.operands])
    rw [hx.1] at h1
    rw [hx.2] at h2
    exact ⟨_, by simp [execOp, hp, resolve, invoke, builtin, Builtin.min_, Builtin.min2, h1.valOf rfl, h2.valOf rfl], .c _ _ (.val _ rfl)⟩
  ·cases h
 case h_7 args _ hp =>
  split at h
  ·rename_i k a k' b hx
   cases h
   subst hvc
   refine ⟨fun A ι w ρ hok hr hh' => ?_, hop _ hp (by simp)⟩
   obtain ⟨l⟩ := args
   obtain ⟨x, y, rfl⟩ : ∃ x y, l = [x, y] := by
    have hl : l.length = 2 := by simpa using congrArg List.length hx
    match l, hl with
    | [x, y], _ => exact ⟨x, y, rfl⟩
   ·simp only [List.map_cons, List.map_nil, List.cons.injEq, and_true] at hx
    have h1 := hr x (by simp [hp, Op.operands, Call.operands])
    have h2 := hr y (by simp [hp, Op.operands, Call.operands])
    rw [hx.1] at h1
    rw [hx.2] at h2
    exact ⟨_, by simp [execOp, hp, resolve, invoke, builtin, Builtin.max_, Builtin.max2, h1.valOf rfl, h2.valOf rfl], .c _ _ (.val _ rfl)⟩
  ·cases h
 case h_8 op t x y yt hp =>
  refine ⟨?_, hop _ hp (by simp)⟩
  intro A ι w ρ hok hr hh'
  have r1 := hr x (by simp [hp, Op.operands])
  have r2 := hr y (by simp [hp, Op.operands])
  split at h
  ·rename_i xs ys hx hy
   rw [hx] at r1
   rw [hy] at r2
   have key : ∀ as bs, intsOf xs = some as → intsOf ys = some bs → ρ x = .agg (as.map fun p => Value.int p.1 p.2).toArray ∧ ρ y = .agg (bs.map fun p => Value.int p.1 p.2).toArray := by
    intro as bs ha hb
    generalize ρ x = vx at r1
    generalize ρ y = vy at r2
    cases r1 with
    | agg _ vxs hl1 _ hr1 =>
     cases r2 with
     | agg _ vys hl2 _ hr2 => exact ⟨by rw [intsOf_ok ha hl1 hr1], by rw [intsOf_ok hb hl2 hr2]⟩
   split at h
   ·rename_i n as bs hn ha hb
    cases h
    obtain ⟨e1, e2⟩ := key _ _ ha hb
    obtain ⟨g1, g2, g3⟩ := heq t n hn w as bs x y hvc.1 hvc.2
    exact ⟨_, by simp [execOp, hp, e1, e2, g1, binOp, g3], .c _ _ (.val _ rfl)⟩
   ·rename_i n as bs hn ha hb
    cases h
    obtain ⟨e1, e2⟩ := key _ _ ha hb
    obtain ⟨g1, g2, g3⟩ := heq t n hn w as bs x y hvc.1 hvc.2
    exact ⟨_, by simp [execOp, hp, e1, e2, g2, binOp, g3], .c _ _ (.val _ rfl)⟩
   ·cases h
  ·rename_i a b hx hy
   rw [hx] at r1
   rw [hy] at r2
   have e1 := r1.valOf rfl
   have e2 := r2.valOf rfl
   split at h
   ·rename_i hd
    cases h
    exact ⟨_, by simp [execOp, hp, e1, e2, eqGuard, binOp, eq_bool (htt.desc hd w)], .c _ _ (.val _ rfl)⟩
   ·rename_i hd
    cases h
    exact ⟨_, by simp [execOp, hp, e1, e2, eqGuard, binOp, eq_bool (htt.desc hd w)], .c _ _ (.val _ rfl)⟩
   ·cases h
  ·rename_i a b hx hy
   rw [hx] at r1
   rw [hy] at r2
   have e1 := r1.valOf rfl
   have e2 := r2.valOf rfl
   split at h
   ·cases h
    exact ⟨_, by simp [execOp, hp, e1, e2, eqGuard, binOp, Op.stringOp], .c _ _ (.val _ rfl)⟩
   ·cases h
    exact ⟨_, by simp [execOp, hp, e1, e2, eqGuard, binOp, Op.stringOp], .c _ _ (.val _ rfl)⟩
   ·cases h
  ·rename_i hx hy
   rw [hx] at r1
   rw [hy] at r2
   have e1 := r1.valOf rfl
   have e2 := r2.valOf rfl
   split at h
   ·rename_i hd
    cases h
    exact ⟨_, by simp [execOp, hp, e1, e2, eqGuard, binOp, eq_nilslice (htt.desc hd w)], .c _ _ (.val _ rfl)⟩
   ·rename_i hd
    cases h
    exact ⟨_, by simp [execOp, hp, e1, e2, eqGuard, binOp, eq_nilslice (htt.desc hd w)], .c _ _ (.val _ rfl)⟩
   ·cases h
  ·rename_i hx hy
   rw [hx] at r1
   rw [hy] at r2
   have e2 := r2.valOf rfl
   have e1 : ∃ a, ρ x = .pointer (some a) := by
    generalize ρ x = vx at r1
    cases r1
    exact ⟨_, rfl⟩
   obtain ⟨a, e1⟩ := e1
   split at h
   ·rename_i hd
    cases h
    exact ⟨_, by simp [execOp, hp, e1, e2, eqGuard, binOp, eq_ptrnil (htt.desc hd w)], .c _ _ (.val _ rfl)⟩
   ·rename_i hd
    cases h
    exact ⟨_, by simp [execOp, hp, e1, e2, eqGuard, binOp, eq_ptrnil (htt.desc hd w)], .c _ _ (.val _ rfl)⟩
   ·cases h
  ·rename_i hx hy
   rw [hx] at r1
   rw [hy] at r2
   have e1 := r1.valOf rfl
   have e2 := r2.valOf rfl
   split at h
   ·rename_i hd
    cases h
    exact ⟨_, by simp [execOp, hp, e1, e2, eqGuard, binOp, eq_nilnil (htt.desc hd w)], .c _ _ (.val _ rfl)⟩
   ·rename_i hd
    cases h
    exact ⟨_, by simp [execOp, hp, e1, e2, eqGuard, binOp, eq_nilnil (htt.desc hd w)], .c _ _ (.val _ rfl)⟩
   ·cases h
  ·cases h
 case h_9 t x hp =>
  split at h
  ·rename_i n e es hd hx
   cases h
   refine ⟨fun A ι w ρ hok hr hh' => ?_, hop _ hp (by simp)⟩
   obtain ⟨h0, h1, h2⟩ := hvc
   have hr1 := hr x (by simp [hp, Op.operands])
   rw [hx] at hr1
   generalize hρ : ρ x = v at hr1
   cases hr1 with
   | c _ _ hu =>
    cases hu with
    | nil => simp at h1; omega
    | sl _ a m cap kk hn hc hm hk hI hcell hrep =>
     have hne : es ≠ [] := fun h => by subst h; simp at h1; omega
     obtain ⟨hsp, hIa⟩ := hI hne
     have hkk : kk = 1 := by
      have h0' : 0 < es.length := by omega
      rw [← hk 0 _ (List.getElem?_eq_getElem h0')]
      exact h2 _ (List.getElem_mem h0')
     subst hkk
     have hfl : ∀ (l : List (List CV)), (∀ e ∈ l, e.length = 1) → ∀ (j : Nat) u, l.flatten[j]? = some u → ∃ e, l[j]? = some e ∧ e[0]? = some u := by
      intro l
      induction l with
      | nil => intro _ j u h; simp at h
      | cons e r ih =>
       intro hl j u hu
       have he := hl e List.mem_cons_self
       match e, he with
       | [c], _ =>
        cases j with
        | zero => simp at hu; subst hu; exact ⟨[c], rfl, rfl⟩
        | succ j =>
         obtain ⟨e', h1, h2⟩ := ih (fun e he => hl e (List.mem_cons_of_mem _ he)) j u (by simpa using hu)
         exact ⟨e', by simpa using h1, h2⟩
     have hget : ∀ (j : Nat) u, (es.take n).flatten[j]? = some u → ∃ e, es[j]? = some e ∧ e[0]? = some u := fun j u hu => by
      obtain ⟨e, he, hu'⟩ := hfl _ (fun e he => h2 e (List.mem_of_mem_take he)) j u hu
      rw [List.getElem?_take] at he
      split at he
      ·exact ⟨e, he, hu'⟩
      ·cases he
     refine ⟨.pointer (some a), ?_, .cel _ a hsp hIa (fun j u hu => ?_) (fun j u x hu hx => ?_)⟩
     ·simp only [execOp, hp, hρ, Instr.arrayAt, Sem.run_bind, htt.desc hd w, Result.andThen_ok]
      rw [if_neg (by omega)]
      rfl
     ·obtain ⟨e, he, hu'⟩ := hget j u hu
      obtain ⟨x, hx⟩ := hcell j e 0 u he hu'
      exact ⟨x, by simpa using hx⟩
     ·obtain ⟨e, he, hu'⟩ := hget j u hu
      exact hrep j e 0 u x he hu' (by simpa using hx)
  ·cases h
 case h_10 t x i hp =>
  split at h
  ·rename_i n e cs k j hd hx hi
   split at h
   ·rename_i size ht
    cases h
    refine ⟨fun A ι w ρ hok hr hh' => ?_, hop _ hp (by simp)⟩
    obtain ⟨h0, h1, h2, h3⟩ := hvc
    have hr1 := hr x (by simp [hp, Op.operands])
    have hr2 := hr i (by simp [hp, Op.operands])
    rw [hx] at hr1
    rw [hi] at hr2
    have e2 := hr2.valOf rfl
    generalize hρ : ρ x = v at hr1
    subst h2
    obtain ⟨ha, hsz⟩ := htt.agg ht w
    cases hr1 with
    | agg _ xs hl h1' hr' =>
     have hlt : j.toNat < xs.length := by omega
     refine ⟨xs.getD j.toNat undef, ?_, hr' j.toNat _ _ (getD_get (by omega)) (getD_get hlt)⟩
     simp only [execOp, hp, hρ, e2, Instr.index, asIntOf, Sem.run_bind, Sem.run_pure, Result.andThen_ok, htt.desc hd w]
     rw [if_pos ⟨h0, h1⟩]
     simp only [Sem.run_bind, hsz, Result.andThen_ok, part, ha, Bool.false_eq_true, if_false, Nat.mul_one]
     simp [List.getElem?_eq_getElem hlt]
   ·cases h
  ·cases h
 case h_11 => cases h
end Go.Ab
