/-
  What a law's arguments read as: whole numbers, truth values, strings, slices and structs of these, told by closed cells of a shape.
-/
import Derived.Test.YtpfgofnmkaljaaaMg19
import Derived.Test.YtpfgofnmkaljaaaRows
import Derived.Deep.Slices
import Derived.ChangeSlices
import Derived.ProofKit
import Derived.OpenShut
import Derived.DataReads
set_option linter.unusedVariables false
set_option linter.unusedSimpArgs false
namespace Go.Ab
open Go Go.Proofs Go.Proofs.Ytpfgofnmkaljaaa Go.Deep Go.ChangeShapes Go.WideShapes Go.ChangeAt Go.RowKit
inductive Sh where
 | int (k : IntKind)
 | bool
 | str
 | sl (e : Sh)
 | st (fs : List Sh)
mutual
def Sh.n : Sh → Nat
 | .int _ => 1
 | .bool => 1
 | .str => 1
 | .sl _ => 1
 | .st fs => Sh.nL fs
def Sh.nL : List Sh → Nat
 | [] => 0
 | s :: r => s.n + Sh.nL r
end
mutual
def HasSh (P : Program) : Sh → TypeId → Prop
 | .int k, t => P.underlying t = some (.int k)
 | .bool, t => P.underlying t = some .bool
 | .str, t => P.underlying t = some .string
 | .sl e, t => ∃ t', P.underlying t = some (.slice t') ∧ P.cellsOf t' = e.n ∧ 0 < e.n ∧ HasSh P e t'
 | .st fs, t => ∃ F, P.underlying t = some (.struct F) ∧ P.cellsOf t = Sh.nL fs ∧ HasFs P fs 0 F.toList
def HasFs (P : Program) : List Sh → Nat → List Field → Prop
 | [], _, fl => fl = []
 | s :: r, off, fl => ∃ f fl', fl = f :: fl' ∧ f.offset = off ∧ P.cellsOf f.type = s.n ∧ HasSh P s f.type ∧ HasFs P r (off + s.n) fl'
end
mutual
def Typed (B : Nat) : Sh → List CV → Prop
 | .int k, us => ∃ n, us = [.val (.int k n)] ∧ k.min ≤ n ∧ n ≤ k.max
 | .bool, us => ∃ b, us = [.val (.bool b)]
 | .str, us => ∃ s : ByteArray, us = [.val (.string s)] ∧ s.size ≤ B
 | .sl e, us => ∃ es, us = [.sl es] ∧ es.length ≤ B ∧ ∀ r ∈ es, Typed B e r
 | .st fs, us => TypedL B fs us
def TypedL (B : Nat) : List Sh → List CV → Prop
 | [], us => us = []
 | s :: r, us => ∃ a b, us = a ++ b ∧ Typed B s a ∧ TypedL B r b
end
mutual
theorem Typed.len {B : Nat} : ∀ {s : Sh} {us : List CV}, Typed B s us → us.length = s.n
 | .int _, us, h => by obtain ⟨n, rfl, _⟩ := h; simp [Sh.n]
 | .bool, us, h => by obtain ⟨n, rfl⟩ := h; simp [Sh.n]
 | .str, us, h => by obtain ⟨n, rfl, _⟩ := h; simp [Sh.n]
 | .sl _, us, h => by obtain ⟨n, rfl, _⟩ := h; simp [Sh.n]
 | .st fs, us, h => by simp only [Typed] at h; simpa [Sh.n] using TypedL.len h
theorem TypedL.len {B : Nat} : ∀ {s : List Sh} {us : List CV}, TypedL B s us → us.length = Sh.nL s
 | [], us, h => by simp only [TypedL] at h; subst h; simp [Sh.nL]
 | s :: r, us, h => by
  simp only [TypedL] at h
  obtain ⟨a, b, rfl, h1, h2⟩ := h
  simp [Sh.nL, Typed.len h1, TypedL.len h2]
end
section
variable {H : Type} {enc : TypeId × Value → H} {P : Program} {w : World} {base : Nat} {spare : Nat → Bool} {held : Bool}
theorem cell_spot' {a : Addr} {v : Value} (h : w.cell? a = some v) : a.spot = none ∧ a.block < w.heap.size := by
 unfold World.cell? at h
 split at h
 ·rename_i c _ _ hh
  refine ⟨?_, (Array.getElem?_eq_some_iff.1 hh).1⟩
  split at h
  ·cases h
  ·rename_i hs
   simpa using hs
 ·cases h
theorem bulk_pos : ∀ (d : DataW H), 1 ≤ Rows.uptoBulk d := by
 intro d
 cases d with
 | lit l => cases l <;> simp [Rows.uptoBulk]
 | _ => simp [Rows.uptoBulk]
theorem bulkAll_mem : ∀ {l : List (DataW H)} {d : DataW H}, d ∈ l → Rows.uptoBulk d ≤ Rows.uptoBulkAll l
 | x :: r, d, h => by
  simp only [Rows.uptoBulkAll]
  rcases List.mem_cons.1 h with rfl | h
  ·omega
  ·have := bulkAll_mem h; omega
theorem bulkAll_len : ∀ (l : List (DataW H)), l.length ≤ Rows.uptoBulkAll l
 | [] => Nat.zero_le _
 | x :: r => by
  have := bulkAll_len r
  have := bulk_pos x
  simp only [Rows.uptoBulkAll, List.length_cons]
  omega
mutual
def wCV : CV → Nat
 | .val _ => 1
 | .any => 1
 | .sl es => 1 + wLL es
def wLL : List (List CV) → Nat
 | [] => 0
 | r :: t => wL r + wLL t
def wL : List CV → Nat
 | [] => 0
 | u :: r => wCV u + wL r
end
theorem wL_app : ∀ (a b : List CV), wL (a ++ b) = wL a + wL b
 | [], b => by simp [wL]
 | u :: a, b => by simp only [List.cons_append, wL, wL_app a b]; omega
theorem wLL_sum : ∀ (n : Nat) (U : Nat → List CV) (D : Nat → DataW H), (∀ i, i < n → wL (U i) ≤ Rows.uptoBulk (D i)) → wLL ((List.range n).map U) ≤ Rows.uptoBulkAll ((List.range n).map D) := by
 have key : ∀ (l : List Nat) (U : Nat → List CV) (D : Nat → DataW H), (∀ i ∈ l, wL (U i) ≤ Rows.uptoBulk (D i)) → wLL (l.map U) ≤ Rows.uptoBulkAll (l.map D) := by
  intro l U D h
  induction l with
  | nil => simp [wLL, Rows.uptoBulkAll]
  | cons i l ih =>
   have h1 := h i List.mem_cons_self
   have h2 := ih fun j hj => h j (List.mem_cons_of_mem _ hj)
   simp only [List.map_cons, wLL, Rows.uptoBulkAll]
   omega
 exact fun n U D h => key _ U D fun i hi => h i (List.mem_range.1 hi)
theorem bulkAll_app : ∀ (a b : List (DataW H)), Rows.uptoBulkAll (a ++ b) = Rows.uptoBulkAll a + Rows.uptoBulkAll b
 | [], b => by simp [Rows.uptoBulkAll]
 | x :: a, b => by simp only [List.cons_append, Rows.uptoBulkAll, bulkAll_app a b]; omega
theorem bulkAll_le {len m : Nat} (h : len ≤ m) (D : Nat → DataW H) : Rows.uptoBulkAll ((List.range len).map D) ≤ Rows.uptoBulkAll ((List.range m).map D) := by
 obtain ⟨k, rfl⟩ := Nat.exists_eq_add_of_le h
 rw [List.range_add, List.map_append, bulkAll_app]
 exact Nat.le_add_right _ _
def Reads (P : Program) (enc : TypeId × Value → H) (w : World) (base : Nat) (spare : Nat → Bool) (held : Bool) (B : Nat) (s : Sh) (t : TypeId) : Prop :=
 ∀ (fuel : Nat) (cs : List Value) (x : DataW H × List MemPlace), DataW.trod enc P w base spare held fuel t cs = some x → Rows.uptoBulk x.1 ≤ B →
  ∃ us, us.length = cs.length ∧ (∀ (i : Nat) u v, us[i]? = some u → cs[i]? = some v → CRep (fun g => g < w.heap.size) w u v) ∧ Typed B s us ∧ wL us ≤ Rows.uptoBulk x.1
theorem reads_sl {B : Nat} {e : Sh} {t t' : TypeId} (hB : B ≤ maxLen) (ht : P.underlying t = some (.slice t')) (hc : P.cellsOf t' = e.n) (hp : 0 < e.n) (ih : Reads P enc w base spare held B e t') : Reads P enc w base spare held B (.sl e) t := by
 intro fuel cs x h hb
 rcases open_slice ht h with ⟨rfl, rfl⟩ | ⟨a, len, cap, m, n, D, Pl, rfl, hba, hl, hm, hmm, rfl, hV⟩
 ·exact ⟨[.sl []], rfl, fun i u v hu hv => by
   cases i with
   | zero => simp at hu hv; subst hu hv; exact .nil
   | succ i => simp at hu, by simp [Typed], by simp [wL, wCV, wLL, bulk_pos]⟩
 ·have hle : len ≤ m := by rw [hmm]; split <;> omega
  simp only [Rows.uptoBulk] at hb
  have hblk : ∀ i, i < len → Rows.uptoBulk (D i) ≤ B := fun i hi => by
   have := bulkAll_mem (l := (List.range len).map D) (List.mem_map.2 ⟨i, List.mem_range.2 hi, rfl⟩)
   omega
  have hlen : len ≤ B := by
   have := bulkAll_len ((List.range len).map D)
   simp at this
   omega
  have hall : ∀ i, ∃ us : List CV, i < len → ∃ cs', w.cells? base (a.add (i * e.n)) e.n = some cs' ∧ us.length = cs'.length ∧ (∀ (j : Nat) u v, us[j]? = some u → cs'[j]? = some v → CRep (fun g => g < w.heap.size) w u v) ∧ Typed B e us ∧ wL us ≤ Rows.uptoBulk (D i) := by
   intro i
   by_cases hi : i < len
   ·obtain ⟨cs', h1, h2⟩ := hV i (by omega)
    obtain ⟨us, h3, h4, h5, h6⟩ := ih n cs' _ h2 (hblk i hi)
    rw [hc] at h1
    exact ⟨us, fun _ => ⟨cs', h1, h3, h4, h5, h6⟩⟩
   ·exact ⟨[], fun h => absurd h hi⟩
  let U : Nat → List CV := fun i => Classical.choose (hall i)
  have hU : ∀ i, i < len → ∃ cs', w.cells? base (a.add (i * e.n)) e.n = some cs' ∧ (U i).length = cs'.length ∧ (∀ (j : Nat) u v, (U i)[j]? = some u → cs'[j]? = some v → CRep (fun g => g < w.heap.size) w u v) ∧ Typed B e (U i) ∧ wL (U i) ≤ Rows.uptoBulk (D i) := fun i => Classical.choose_spec (hall i)
  let es := (List.range len).map U
  have hll : es.length = len := by simp [es]
  have hget : ∀ (i : Nat) (r : List CV), es[i]? = some r → i < len ∧ r = U i := fun i r he => by
   have hi : i < len := by have := (List.getElem?_eq_some_iff.1 he).1; rw [hll] at this; exact this
   refine ⟨hi, ?_⟩
   simp only [es, List.getElem?_map, List.getElem?_range hi, Option.map_some, Option.some.injEq] at he
   exact he.symm
  have hcellU : ∀ i j u, i < len → (U i)[j]? = some u → ∃ y, w.cell? ((a.add (i * e.n)).add j) = some y ∧ CRep (fun g => g < w.heap.size) w u y := fun i j u hi hu => by
   obtain ⟨cs', h1, h2, h3, h4, _⟩ := hU i hi
   obtain ⟨h5, h6, h7⟩ := World.cells?_some h1
   have hj : j < cs'.length := by rw [← h2]; exact (List.getElem?_eq_some_iff.1 hu).1
   have h8 : cs'[j]? = some cs'[j] := List.getElem?_eq_getElem hj
   exact ⟨_, by rw [h7 j (by omega), h8], h3 j u _ hu h8⟩
  have hsp : 0 < len → a.spot = none ∧ a.block < w.heap.size := fun h0 => by
   obtain ⟨cs', h1, h2, h3, h4, _⟩ := hU 0 h0
   have hl0 := h4.len
   obtain ⟨y, hy, _⟩ := hcellU 0 0 _ h0 (List.getElem?_eq_getElem (by omega : 0 < (U 0).length))
   have e0 : (a.add (0 * e.n)).add 0 = a := by simp [Addr.add]
   rw [e0] at hy
   exact cell_spot' hy
  have hadd : ∀ i j, 0 < len → (a.add (i * e.n)).add j = ⟨a.block, a.off + (i * e.n + j), none⟩ := fun i j h0 => by
   rw [Deep.add_add, addr_add _ _ (hsp h0).1]
  refine ⟨[.sl es], rfl, fun i u v hu hv => ?_, ?_, ?_⟩
  ·cases i with
   | succ i => simp at hu
   | zero =>
    simp at hu hv
    subst hu hv
    refine .sl es a len cap e.n hll.symm hl (by omega) (fun i r he => ?_) (fun hne => ?_) (fun i r j u he hu => ?_) (fun i r j u y he hu hy => ?_)
    ·obtain ⟨hi, rfl⟩ := hget i r he
     obtain ⟨_, _, _, _, h5, _⟩ := hU i hi
     exact h5.len
    ·refine hsp ?_
     rcases Nat.eq_zero_or_pos len with h0 | h0
     ·exact absurd (List.length_eq_zero_iff.1 (by omega)) hne
     ·exact h0
    ·obtain ⟨hi, rfl⟩ := hget i r he
     obtain ⟨y, hy, _⟩ := hcellU i j u hi hu
     rw [hadd i j (by omega)] at hy
     exact ⟨y, hy⟩
    ·obtain ⟨hi, rfl⟩ := hget i r he
     obtain ⟨y', hy', hc'⟩ := hcellU i j u hi hu
     rw [hadd i j (by omega)] at hy'
     rw [hy] at hy'
     cases hy'
     exact hc'
  ·simp only [Typed]
   exact ⟨es, rfl, by omega, fun r hr => by
    obtain ⟨i, hi⟩ := List.getElem?_of_mem hr
    obtain ⟨h1, rfl⟩ := hget i r hi
    obtain ⟨_, _, _, _, h5, _⟩ := hU i h1
    exact h5⟩
  ·have h1 := wLL_sum len U D fun i hi => by obtain ⟨_, _, _, _, _, h6⟩ := hU i hi; exact h6
   have h2 := bulkAll_le hle D
   simp only [wL, wCV, Rows.uptoBulk, es]
   omega
theorem reads_int {B : Nat} {k : IntKind} {t : TypeId} (ht : P.underlying t = some (.int k)) : Reads P enc w base spare held B (.int k) t := by
 intro fuel cs x h hb
 cases fuel with
 | zero => simp [DataW.trod] at h
 | succ n =>
  unfold DataW.trod at h
  rw [ht] at h
  split at h <;> first | (rename_i h1; cases h1; done) | (cases h; done) | skip
  all_goals rename_i hh
  all_goals try (cases hh; done)
  split at h
  ·rename_i k' n' hw
   cases hh
   obtain ⟨rfl, hw⟩ := hw
   refine ⟨[.val (.int k' n')], rfl, fun i u v hu hv => ?_, ?_, by simp [wL, wCV, bulk_pos]⟩
   ·cases i with
    | zero => simp at hu hv; subst hu hv; exact .val _ rfl
    | succ i => simp at hu
   ·simp only [Typed]
    simp only [Lit.wf, Bool.and_eq_true, decide_eq_true_eq] at hw
    exact ⟨n', rfl, hw.1, hw.2⟩
  ·cases h
theorem reads_bool {B : Nat} {t : TypeId} (ht : P.underlying t = some .bool) : Reads P enc w base spare held B .bool t := by
 intro fuel cs x h hb
 cases fuel with
 | zero => simp [DataW.trod] at h
 | succ n =>
  unfold DataW.trod at h
  rw [ht] at h
  split at h <;> first | (rename_i h1; cases h1; done) | (cases h; done) | skip
  rename_i b hh
  refine ⟨[.val (.bool b)], rfl, fun i u v hu hv => ?_, ⟨b, rfl⟩, by simp [wL, wCV, bulk_pos]⟩
  cases i with
  | zero => simp at hu hv; subst hu hv; exact .val _ rfl
  | succ i => simp at hu
theorem reads_str {B : Nat} {t : TypeId} (ht : P.underlying t = some .string) : Reads P enc w base spare held B .str t := by
 intro fuel cs x h hb
 cases fuel with
 | zero => simp [DataW.trod] at h
 | succ n =>
  unfold DataW.trod at h
  rw [ht] at h
  split at h <;> first | (rename_i h1; cases h1; done) | (cases h; done) | skip
  rename_i b hh
  split at h
  ·cases h
   refine ⟨[.val (.string b)], rfl, fun i u v hu hv => ?_, ⟨b, rfl, ?_⟩, by simp [wL, wCV, bulk_pos]⟩
   ·cases i with
    | zero => simp at hu hv; subst hu hv; exact .val _ rfl
    | succ i => simp at hu
   ·simp only [Rows.uptoBulk] at hb
    simp at hb
    have : b.size = b.data.size := rfl
    omega
  ·cases h
theorem trod_st {n : Nat} {t : TypeId} {F : Array Field} {cs : List Value} {x : DataW H × List MemPlace} (ht : P.underlying t = some (.struct F)) (h : DataW.trod enc P w base spare held (n + 1) t cs = some x) :
  cs.length = P.cellsOf t ∧ ∃ xs, (F.toList.mapM fun f => DataW.trod enc P w base spare held n f.type ((cs.drop f.offset).take (P.cellsOf f.type))) = some xs ∧ x = (.agg (xs.map (·.1)), xs.flatMap (·.2)) := by
 unfold DataW.trod at h
 rw [ht] at h
 simp only at h
 split at h
 ·rename_i hl
  simp only [Option.map_eq_some_iff] at h
  obtain ⟨xs, h1, rfl⟩ := h
  exact ⟨hl, xs, h1, rfl⟩
 ·cases h
mutual
theorem read_shW {B : Nat} (hB : B ≤ maxLen) : ∀ (s : Sh) (t : TypeId), HasSh P s t → Reads P enc w base spare held B s t
 | .int k, t, h => reads_int (by simpa only [HasSh] using h)
 | .bool, t, h => reads_bool (by simpa only [HasSh] using h)
 | .str, t, h => reads_str (by simpa only [HasSh] using h)
 | .sl e, t, h => by
  simp only [HasSh] at h
  obtain ⟨t', h1, h2, h3, h4⟩ := h
  exact reads_sl hB h1 h2 h3 (read_shW hB e t' h4)
 | .st fs, t, h => by
  simp only [HasSh] at h
  obtain ⟨F, h1, h2, h3⟩ := h
  intro fuel cs x hx hb
  cases fuel with
  | zero => simp [DataW.trod] at hx
  | succ n =>
   have hx' := trod_st h1 hx
   clear hx
   obtain ⟨hlen, xs, hm, rfl⟩ := hx'
   simp only [Rows.uptoBulk] at hb
   obtain ⟨us, g1, g2, g3, g4⟩ := read_fs hB fs 0 F.toList h3 n cs xs hm (by omega) (by omega)
   refine ⟨us, by omega, fun i u v hu hv => g2 i u v hu (by rw [Nat.zero_add]; exact hv), ?_, ?_⟩
   ·simp only [Typed]
    exact g3
   ·simp only [Rows.uptoBulk]
    omega
theorem read_fs {B : Nat} (hB : B ≤ maxLen) : ∀ (fs : List Sh) (off : Nat) (fl : List Field), HasFs P fs off fl → ∀ (n : Nat) (cs : List Value) (xs : List (DataW H × List MemPlace)),
  (fl.mapM fun f => DataW.trod enc P w base spare held n f.type ((cs.drop f.offset).take (P.cellsOf f.type))) = some xs → cs.length = off + Sh.nL fs → Rows.uptoBulkAll (xs.map (·.1)) ≤ B →
  ∃ us, us.length = Sh.nL fs ∧ (∀ (i : Nat) u v, us[i]? = some u → cs[off + i]? = some v → CRep (fun g => g < w.heap.size) w u v) ∧ TypedL B fs us ∧ wL us ≤ Rows.uptoBulkAll (xs.map (·.1))
 | [], off, fl, h, n, cs, xs, hm, hl, hb => ⟨[], rfl, fun i u v hu => by simp at hu, by simp [TypedL], by simp [wL]⟩
 | s :: r, off, fl, h, n, cs, xs, hm, hl, hb => by
  simp only [HasFs] at h
  obtain ⟨f, fl', rfl, h1, h2, h3, h4⟩ := h
  simp only [List.mapM_cons] at hm
  cases ha : DataW.trod enc P w base spare held n f.type ((cs.drop f.offset).take (P.cellsOf f.type)) with
  | none => rw [ha] at hm; simp at hm
  | some x =>
   rw [ha] at hm
   cases hr : fl'.mapM fun f => DataW.trod enc P w base spare held n f.type ((cs.drop f.offset).take (P.cellsOf f.type)) with
   | none => simp only [hr] at hm; simp at hm
   | some xs' =>
    simp only [hr] at hm
    simp at hm
    subst hm
    simp only [List.map_cons, Rows.uptoBulkAll] at hb
    simp only [Sh.nL] at hl
    obtain ⟨us1, g1, g2, g3, g7⟩ := read_shW hB s f.type h3 n _ x ha (by omega)
    obtain ⟨us2, g4, g5, g6, g8⟩ := read_fs hB r (off + s.n) fl' h4 n cs xs' hr (by omega) (by omega)
    have e1 : us1.length = s.n := g3.len
    refine ⟨us1 ++ us2, by simp [Sh.nL, e1, g4], fun i u v hu hv => ?_, ?_, ?_⟩
    ·by_cases hi : i < us1.length
     ·rw [List.getElem?_append_left hi] at hu
      refine g2 i u v hu ?_
      rw [List.getElem?_take, if_pos (by omega), List.getElem?_drop, h1]
      exact hv
     ·rw [List.getElem?_append_right (by omega)] at hu
      refine g5 (i - us1.length) u v hu ?_
      rw [← hv]
      congr 1
      omega
    ·simp only [TypedL]
     exact ⟨us1, us2, rfl, g3, g6⟩
    ·rw [wL_app]
     simp only [List.map_cons, Rows.uptoBulkAll]
     omega
end
theorem typed_list {α : Type} {B : Nat} {e : Sh} (f : α → List CV) (S : α → Prop) (h : ∀ r, Typed B e r → ∃ x, r = f x ∧ S x) : ∀ (es : List (List CV)), (∀ r ∈ es, Typed B e r) → ∃ l : List α, es = l.map f ∧ ∀ x ∈ l, S x
 | [], _ => ⟨[], rfl, fun x hx => by cases hx⟩
 | r :: es, hr => by
  obtain ⟨x, rfl, hx⟩ := h r (hr r List.mem_cons_self)
  obtain ⟨l, rfl, hl⟩ := typed_list f S h es fun r hr' => hr r (List.mem_cons_of_mem _ hr')
  exact ⟨x :: l, rfl, fun y hy => by
   rcases List.mem_cons.1 hy with rfl | hy
   ·exact hx
   ·exact hl y hy⟩
end
theorem intWide {P : Program} {w : World} {r : Reach} {base : Nat} {t : TypeId} {v : Value} {k : IntKind} (ht : P.underlying t = some (.int k)) (h : Value.okWide P w r base t v) : ∃ n, v = .int k n ∧ k.min ≤ n ∧ n ≤ k.max := by
 simp only [Value.okWide, ht, Cell.okWide] at h
 cases v <;> simp only [Cell.ok, ht] at h
 obtain ⟨rfl, h1, h2⟩ := h
 exact ⟨_, rfl, h1, h2⟩
end Go.Ab
