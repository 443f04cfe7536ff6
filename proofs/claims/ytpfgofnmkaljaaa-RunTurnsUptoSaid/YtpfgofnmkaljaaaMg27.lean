/-
  Trees: what a tree's blocks are is opened under numbers of its own and shut again; rules without a step of the program.
-/
import Derived.Test.YtpfgofnmkaljaaaMg19
set_option linter.unusedVariables false
set_option linter.unusedSimpArgs false
namespace Go.Ab
open Go Go.RowKit
section
variable {ι : Pl} {w : World}
theorem rehide (hok : Ok ι w) {b n k : Nat} (hf : ∀ i, n ≤ i → ι i = none) (hb : b < n) (pc : Nat → Option Plc) (S : Nat → Nat → Prop) (hS : ∀ j g, j < k → S j g → ι.hid g = some b)
  (hdis : ∀ j j' g, j < k → j' < k → S j g → S j' g → j = j') (hat : ∀ j g c, j < k → pc j = some (.at g c) → S j g) (hlaid : ∀ j g, j < k → S j g → pc j ≠ none) :
  ∃ ι' : Pl, (∀ i, i < n → ι' i = ι i) ∧ (∀ j, j < k → ι' (n + j) = pc j) ∧ (∀ i, n + k ≤ i → ι' i = none) ∧
   (∀ j g, j < k → S j g → (∀ c, pc j ≠ some (.at g c)) → ι'.hid g = some (n + j)) ∧ (∀ g, (∀ j, j < k → ¬ S j g) → ι'.hid g = ι.hid g) ∧ (∀ j g c, j < k → pc j = some (.at g c) → ι'.hid g = none) ∧
   ∀ wr kill : Nat → Prop, wr b → (∀ i, n ≤ i → kill i) → StepR ι w ι' w wr kill := by
 classical
 let ι' : Pl := ⟨fun i => if i < n then ι i else if i < n + k then pc (i - n) else none,
  fun g => if h : ∃ j, j < k ∧ S j g then (if ∃ c, pc h.choose = some (.at g c) then none else some (n + h.choose)) else ι.hid g⟩
 have f1 : ∀ i, i < n → ι' i = ι i := fun i hi => by simp only [ι', if_pos hi]
 have f2 : ∀ j, j < k → ι' (n + j) = pc j := fun j hj => by simp only [ι']; rw [if_neg (by omega), if_pos (by omega), show n + j - n = j by omega]
 have f3 : ∀ i, n + k ≤ i → ι' i = none := fun i hi => by simp only [ι']; rw [if_neg (by omega), if_neg (by omega)]
 have cho : ∀ j g (h : ∃ j, j < k ∧ S j g), j < k → S j g → h.choose = j := fun j g h hj hs => hdis _ _ g h.choose_spec.1 hj h.choose_spec.2 hs
 have h1 : ∀ j g, j < k → S j g → (∀ c, pc j ≠ some (.at g c)) → ι'.hid g = some (n + j) := fun j g hj hs hp => by
  have h : ∃ j, j < k ∧ S j g := ⟨j, hj, hs⟩
  simp only [ι', dif_pos h, cho j g h hj hs]
  rw [if_neg (fun ⟨c, hc⟩ => hp c hc)]
 have h2 : ∀ g, (∀ j, j < k → ¬ S j g) → ι'.hid g = ι.hid g := fun g hn => by
  simp only [ι']
  rw [dif_neg (fun ⟨j, hj, hs⟩ => hn j hj hs)]
 have h3 : ∀ j g c, j < k → pc j = some (.at g c) → ι'.hid g = none := fun j g c hj hp => by
  have hs := hat j g c hj hp
  have h : ∃ j, j < k ∧ S j g := ⟨j, hj, hs⟩
  simp only [ι', dif_pos h, cho j g h hj hs]
  rw [if_pos ⟨c, hp⟩]
 -- whose a block is now
 have cls : ∀ g b', ι'.hid g = some b' → (∃ j, j < k ∧ S j g ∧ b' = n + j ∧ ∀ c, pc j ≠ some (.at g c)) ∨ ((∀ j, j < k → ¬ S j g) ∧ ι.hid g = some b') := fun g b' hb' => by
  by_cases h : ∃ j, j < k ∧ S j g
  ·left
   obtain ⟨j, hj, hs⟩ := h
   by_cases hp : ∃ c, pc j = some (.at g c)
   ·obtain ⟨c, hc⟩ := hp
    rw [h3 j g c hj hc] at hb'; cases hb'
   ·rw [h1 j g hj hs (fun c hc => hp ⟨c, hc⟩)] at hb'
    cases hb'
    exact ⟨j, hj, hs, rfl, fun c hc => hp ⟨c, hc⟩⟩
  ·right
   have hn : ∀ j, j < k → ¬ S j g := fun j hj hs => h ⟨j, hj, hs⟩
   rw [h2 g hn] at hb'
   exact ⟨hn, hb'⟩
 have clsA : ∀ i g c, ι' i = some (.at g c) → (i < n ∧ ι i = some (.at g c)) ∨ ∃ j, j < k ∧ i = n + j ∧ pc j = some (.at g c) ∧ S j g := fun i g c hi => by
  by_cases h : i < n
  ·rw [f1 i h] at hi; exact .inl ⟨h, hi⟩
  ·by_cases h' : i < n + k
   ·have e := f2 (i - n) (by omega)
    rw [show n + (i - n) = i by omega, hi] at e
    exact .inr ⟨i - n, by omega, by omega, e.symm, hat _ g c (by omega) e.symm⟩
   ·rw [f3 i (by omega)] at hi; cases hi
 have hlt : ∀ g b', ι.hid g = some b' → b' < n := fun g b' h => Nat.lt_of_not_le fun hle => hok.hlaid g b' h (hf b' hle)
 refine ⟨ι', f1, f2, f3, h1, h2, h3, fun wr kill hwr hkill => ⟨rfl, rfl, rfl, Nat.le_refl _, fun i hi => f1 i (Nat.lt_of_not_le fun hle => hi (hkill i hle)), fun i g c hi => ?_, fun _ _ _ _ => rfl, ⟨?_, ?_, ?_, ?_, ?_⟩, fun g b' hw hk hb' => ?_, fun g b' hb' => ?_⟩⟩
 ·rcases clsA i g c hi with ⟨_, h⟩ | ⟨j, hj, _, _, hs⟩
  ·exact .inl (.inl ⟨i, c, h⟩)
  ·exact .inl (.inr ⟨b, hS j g hj hs⟩)
 ·intro i i' g c c' e1 e2
  rcases clsA i g c e1 with ⟨_, q1⟩ | ⟨j, hj, rfl, _, q1⟩ <;> rcases clsA i' g c' e2 with ⟨_, q2⟩ | ⟨j', hj', rfl, _, q2⟩
  ·exact hok.inj _ _ _ _ _ q1 q2
  ·exact absurd q1 (hok.hdis g b (hS j' g hj' q2) i c)
  ·exact absurd q2 (hok.hdis g b (hS j g hj q1) i' c')
  ·rw [hdis j j' g hj hj' q1 q2]
 ·intro i g c e1
  rcases clsA i g c e1 with ⟨_, q1⟩ | ⟨j, hj, rfl, _, q1⟩
  ·exact hok.lt _ _ _ q1
  ·exact hok.hlt g b (hS j g hj q1)
 ·intro g b' e1
  rcases cls g b' e1 with ⟨j, hj, hs, _⟩ | ⟨_, h⟩
  ·exact hok.hlt g b (hS j g hj hs)
  ·exact hok.hlt g b' h
 ·intro g b' e1 i c e2
  rcases cls g b' e1 with ⟨j, hj, hs, rfl, hp⟩ | ⟨hn, h⟩ <;> rcases clsA i g c e2 with ⟨_, q2⟩ | ⟨j', hj', rfl, hp', q2⟩
  ·exact hok.hdis g b (hS j g hj hs) i c q2
  ·rw [hdis j j' g hj hj' hs q2] at hp
   exact hp c hp'
  ·exact hok.hdis g b' h i c q2
  ·exact hn j' hj' q2
 ·intro g b' e1
  rcases cls g b' e1 with ⟨j, hj, hs, rfl, hp⟩ | ⟨hn, h⟩
  ·rw [f2 j hj]; exact hlaid j g hj hs
  ·rw [f1 b' (hlt g b' h)]; exact hok.hlaid g b' h
 ·rw [h2 g (fun j hj hs => hw (by have := hS j g hj hs; rw [this] at hb'; cases hb'; exact hwr))]
  exact hb'
 ·rcases cls g b' hb' with ⟨j, hj, hs, _⟩ | ⟨_, h⟩
  ·exact .inl (.inr ⟨b, hS j g hj hs⟩)
  ·exact .inl (.inr ⟨b', h⟩)
def Has (ι : Pl) (b g : Nat) : Prop := (∃ c, ι b = some (.at g c)) ∨ ι.hid g = some b
theorem Ok.has1 (h : Ok ι w) {b b' g : Nat} (h1 : Has ι b g) (h2 : Has ι b' g) : b = b' := by
 rcases h1 with ⟨c, h1⟩ | h1 <;> rcases h2 with ⟨c', h2⟩ | h2
 ·exact h.inj _ _ _ _ _ h1 h2
 ·exact absurd h1 (h.hdis g b' h2 b c)
 ·exact absurd h2 (h.hdis g b h1 b' c')
 ·rw [h1] at h2; cases h2; rfl
theorem Ok.hasLt (h : Ok ι w) {b g : Nat} (h1 : Has ι b g) : g < w.heap.size := by
 rcases h1 with ⟨c, h1⟩ | h1
 ·exact h.lt _ _ _ h1
 ·exact h.hlt _ _ h1
theorem absorb (hok : Ok ι w) {b : Nat} (cs : List Nat) (hb : b ∉ cs) (hl : ι b ≠ none) :
  ∃ ι' : Pl, (∀ i, i ∉ cs → ι' i = ι i) ∧ (∀ c ∈ cs, ι' c = some .nil) ∧ (∀ c g, c ∈ cs → Has ι c g → ι'.hid g = some b) ∧ (∀ g, ι.hid g = some b → ι'.hid g = some b) ∧
   ∀ wr kill : Nat → Prop, wr b → (∀ c ∈ cs, wr c ∧ kill c) → StepR ι w ι' w wr kill := by
 classical
 let ι' : Pl := ⟨fun i => if i ∈ cs then some .nil else ι i, fun g => if ∃ c ∈ cs, Has ι c g then some b else ι.hid g⟩
 have f1 : ∀ i, i ∉ cs → ι' i = ι i := fun i hi => by simp only [ι', if_neg hi]
 have f2 : ∀ c ∈ cs, ι' c = some .nil := fun c hc => by simp only [ι', if_pos hc]
 have h1 : ∀ c g, c ∈ cs → Has ι c g → ι'.hid g = some b := fun c g hc hg => by simp only [ι']; rw [if_pos ⟨c, hc, hg⟩]
 have cls : ∀ g b', ι'.hid g = some b' → (∃ c ∈ cs, Has ι c g ∧ b' = b) ∨ ((∀ c ∈ cs, ¬ Has ι c g) ∧ ι.hid g = some b') := fun g b' hb' => by
  by_cases h : ∃ c ∈ cs, Has ι c g
  ·obtain ⟨c, hc, hg⟩ := h
   rw [h1 c g hc hg] at hb'
   cases hb'
   exact .inl ⟨c, hc, hg, rfl⟩
  ·simp only [ι', if_neg h] at hb'
   exact .inr ⟨fun c hc hg => h ⟨c, hc, hg⟩, hb'⟩
 have clsA : ∀ i g c, ι' i = some (.at g c) → i ∉ cs ∧ ι i = some (.at g c) := fun i g c hi => by
  by_cases h : i ∈ cs
  ·rw [f2 i h] at hi; cases hi
  ·rw [f1 i h] at hi; exact ⟨h, hi⟩
 have own : ∀ c g, Has ι c g → ((∃ b' c', ι b' = some (.at g c')) ∨ ∃ b', ι.hid g = some b') := fun c g hg => hg.imp (fun ⟨x, h⟩ => ⟨c, x, h⟩) fun h => ⟨c, h⟩
 refine ⟨ι', f1, f2, h1, fun g hg => ?_, fun wr kill hwr hcs => ⟨rfl, rfl, rfl, Nat.le_refl _, fun i hi => f1 i fun hc => hi (hcs i hc).2, fun i g c hi => .inl (.inl ⟨i, c, (clsA i g c hi).2⟩), fun _ _ _ _ => rfl, ⟨?_, ?_, ?_, ?_, ?_⟩, fun g b' hw hk hb' => ?_, fun g b' hb' => ?_⟩⟩
 ·by_cases h : ∃ c ∈ cs, Has ι c g
  ·obtain ⟨c, hc, hg'⟩ := h; exact h1 c g hc hg'
  ·simp only [ι', if_neg h]; exact hg
 ·exact fun i i' g c c' e1 e2 => hok.inj _ _ _ _ _ (clsA _ _ _ e1).2 (clsA _ _ _ e2).2
 ·exact fun i g c e1 => hok.lt _ _ _ (clsA _ _ _ e1).2
 ·intro g b' e1
  rcases cls g b' e1 with ⟨c, hc, hg, _⟩ | ⟨_, h⟩
  ·exact hok.hasLt hg
  ·exact hok.hlt g b' h
 ·intro g b' e1 i c e2
  obtain ⟨hn, e2⟩ := clsA i g c e2
  rcases cls g b' e1 with ⟨c', hc, hg, _⟩ | ⟨_, h⟩
  ·have := hok.has1 hg (.inl ⟨c, e2⟩)
   subst this
   exact hn hc
  ·exact hok.hdis g b' h i c e2
 ·intro g b' e1
  rcases cls g b' e1 with ⟨c, hc, hg, rfl⟩ | ⟨hn, h⟩
  ·rw [f1 _ hb]; exact hl
  ·rw [f1 b' (fun hc => hn b' hc (.inr h))]; exact hok.hlaid g b' h
 ·have : ¬ ∃ c ∈ cs, Has ι c g := fun ⟨c, hc, hg⟩ => by
   have := hok.has1 hg (.inr hb')
   subst this
   exact hw (hcs _ hc).1
  simp only [ι', if_neg this]
  exact hb'
 ·rcases cls g b' hb' with ⟨c, hc, hg, _⟩ | ⟨_, h⟩
  ·exact .inl (own c g hg)
  ·exact .inl (.inr ⟨b', h⟩)
end
def openAV (n : Nat) : TV → AV
 | .cl u => .c u
 | .own k es _ => .own n k 0 es.length
 | .ow k es _ => .own n k 0 es.length
 | .pt _ _ => .tr n
def openB : TV → Option Blk
 | .cl _ => none
 | .own k es ty => some (.acc k es ty)
 | .ow k es ty => some (.arr k es ty none)
 | .pt cells ty => some (.tre (.pt cells ty))
def openA : Nat → List TV → List AV
 | _, [] => []
 | n, t :: r => openAV n t :: openA (n + 1) r
def openH : Nat → List TV → List (Nat × Blk)
 | _, [] => []
 | n, t :: r => match openB t with | some blk => (n, blk) :: openH (n + 1) r | none => openH (n + 1) r
theorem openA_len : ∀ (l : List TV) (n : Nat), (openA n l).length = l.length
 | [], n => rfl
 | t :: r, n => by simp [openA, openA_len r]
theorem openA_get : ∀ (l : List TV) (n j : Nat), (openA n l)[j]? = (l[j]?).map (openAV (n + j))
 | [], n, j => by simp [openA]
 | t :: r, n, 0 => by simp [openA]
 | t :: r, n, j + 1 => by simp only [openA, List.getElem?_cons_succ, openA_get r (n + 1) j]; rw [show n + 1 + j = n + (j + 1) by omega]
theorem openH_mem : ∀ {l : List TV} {n : Nat} {p : Nat × Blk}, p ∈ openH n l → ∃ j t, l[j]? = some t ∧ openB t = some p.2 ∧ p.1 = n + j
 | [], n, p, h => by cases h
 | t :: r, n, p, h => by
  simp only [openH] at h
  cases hb : openB t with
  | none =>
   rw [hb] at h
   obtain ⟨j, t', h1, h2, h3⟩ := openH_mem h
   exact ⟨j + 1, t', by simpa using h1, h2, by omega⟩
  | some blk =>
   rw [hb] at h
   rcases List.mem_cons.1 h with rfl | h
   ·exact ⟨0, t, rfl, hb, rfl⟩
   ·obtain ⟨j, t', h1, h2, h3⟩ := openH_mem h
    exact ⟨j + 1, t', by simpa using h1, h2, by omega⟩
def plcT : TV → Value → Option Plc
 | .cl _, _ => none
 | .own _ _ _, .slice (some a) _ cap => some (.at a.block cap)
 | .own _ _ _, _ => some .nil
 | .ow _ _ _, .slice (some a) _ cap => some (.at a.block cap)
 | .ow _ _ _, _ => some .nil
 | .pt _ _, x => some (.root x)
theorem plcT_at {I : Nat → Prop} {w : World} {S : Nat → Prop} {T : TV} {x : Value} (h : TRep I w S T x) {g c : Nat} (hp : plcT T x = some (.at g c)) : S g := by
 cases h <;> simp only [plcT] at hp <;> first | (cases hp; done) | (cases hp; assumption)
theorem open1 {I J : Nat → Prop} {ι' : Pl} {w : World} {S : Nat → Prop} {T : TV} {x : Value} (h : TRep I w S T x) {m : Nat} (hp : plcT T x ≠ none → ι' m = plcT T x) (hI : ∀ g, I g → J g)
  (hh : ∀ g, plcT T x ≠ none → S g → (∀ c, plcT T x ≠ some (.at g c)) → ι'.hid g = some m) : Rep J ι' w (openAV m T) x ∧ ∀ blk, openB T = some blk → BlkRep J ι' w m blk := by
 have hm : ∀ g, I g → J g ∧ w.heap[g]? = w.heap[g]? := fun g hg => ⟨hI g hg, rfl⟩
 cases h with
 | cl _ u _ hu => exact ⟨.c u x (hu.mono hm), fun blk hb => by cases hb⟩
 | ownNil _ k ty =>
  have e := hp (by simp [plcT])
  exact ⟨.ownNil m k e, fun blk hb => by cases hb; exact .accNil k ty e⟩
 | own _ k ty es g cap cur h1 h2 h3 h4 h5 h6 h7 =>
  have e := hp (by simp [plcT])
  exact ⟨.own m k 0 es.length g cap _ _ e (fun _ => ⟨rfl, rfl⟩) (fun _ => by simp) h4 (by omega), fun blk hb => by cases hb; exact .acc k ty es g cap cur e h2 h3 h4 h5 h6 fun i e j u x he hu hx => (h7 i e j u x he hu hx).mono hm⟩
 | owNil _ k ty =>
  have e := hp (by simp [plcT])
  exact ⟨.ownNil m k e, fun blk hb => by cases hb; exact .arrNil k ty e⟩
 | ow _ k ty es g cap cur Sf h1 h2 h3 h4 h5 h6 h7 h8 h9 =>
  have e := hp (by simp [plcT])
  refine ⟨.own m k 0 es.length g cap _ _ e (fun _ => ⟨rfl, rfl⟩) (fun _ => by simp) h4 (by omega), fun blk hb => ?_⟩
  cases hb
  refine .arr k ty es none g cap cur Sf e h2 h3 h4 h5 h6 (fun p q hq => hh q (by simp [plcT]) (h7 p q hq).1 fun c hc => ?_) h8 (fun i e j u x hn he hu hx => (h9 i e j u x he hu hx).mono hm fun q hq => ⟨hq, rfl⟩) fun i row hr => by cases hr
  simp only [plcT, Option.some.injEq, Plc.at.injEq] at hc
  exact (h7 p q hq).2 hc.1.symm
 | pt _ cells ty g cur Sf h1 h2 h3 h7 h8 h9 =>
  have e := hp (by simp [plcT])
  refine ⟨.tr m _ rfl e, fun blk hb => ?_⟩
  cases hb
  refine .tre _ _ rfl e (.pt _ cells ty g cur Sf (hh g (by simp [plcT]) h1 fun c hc => by simp [plcT] at hc) h2 h3 (fun p q hq => ⟨hh q (by simp [plcT]) (h7 p q hq).1 fun c hc => by simp [plcT] at hc, (h7 p q hq).2⟩) h8 fun j u x hu hx => (h9 j u x hu hx).mono hm fun q hq => ⟨hq, rfl⟩)
theorem row_inj {i i' j j' k : Nat} (hj : j < k) (hj' : j' < k) (h : i * k + j = i' * k + j') : i = i' ∧ j = j' := by
 have h1 : (i * k + j) / k = i := by rw [Nat.mul_comm, Nat.mul_add_div (by omega), Nat.div_eq_of_lt hj]; omega
 have h2 : (i' * k + j') / k = i' := by rw [Nat.mul_comm, Nat.mul_add_div (by omega), Nat.div_eq_of_lt hj']; omega
 have : i = i' := by rw [← h1, ← h2, h]
 subst this
 exact ⟨rfl, by omega⟩
def AllQ : List Prop → Prop
 | [] => True
 | p :: r => p ∧ AllQ r
theorem AllQ_app : ∀ {l m : List Prop}, AllQ (l ++ m) → AllQ l ∧ AllQ m
 | [], m, h => ⟨trivial, h⟩
 | p :: r, m, h => ⟨⟨h.1, (AllQ_app h.2).1⟩, (AllQ_app h.2).2⟩
def close1 (heap : List (Nat × Blk)) : AV → Option (List Prop × TV × List Nat)
 | .c u => some ([], .cl u, [])
 | .own c k off n => match look heap c with
  | some (.acc k' es ty) => some ([k = k' ∧ off = 0 ∧ n = es.length], .own k es ty, [c])
  | some (.arr k' es ty none) => some ([k = k' ∧ off = 0 ∧ n = es.length], .ow k es ty, [c])
  | _ => none
 | .tr c => match look heap c with
  | some (.tre T) => some ([], T, [c])
  | _ => none
 | _ => none
def closeL (heap : List (Nat × Blk)) : List AV → Option (List Prop × List TV × List (List Nat))
 | [] => some ([], [], [])
 | a :: r => match close1 heap a, closeL heap r with
  | some (p, t, c), some (ps, ts, cs) => some (p ++ ps, t :: ts, c :: cs)
  | _, _ => none
inductive TLe : TV → TV → Prop
 | refl (t : TV) : TLe t t
 | nilO (k ty : Nat) : TLe (.cl (.val (.slice none 0 0))) (.own k [] ty)
 | nilW (k ty : Nat) : TLe (.cl (.val (.slice none 0 0))) (.ow k [] ty)
def TLes : List TV → List TV → Prop
 | [], [] => True
 | t :: r, t' :: r' => TLe t t' ∧ TLes r r'
 | _, _ => False
theorem TLe.rep {I : Nat → Prop} {w : World} {S : Nat → Prop} {t t' : TV} {x : Value} (h : TLe t t') (hr : TRep I w S t x) : TRep I w S t' x := by
 cases h with
 | refl => exact hr
 | nilO k ty => cases hr with | cl _ _ _ hu => cases hu; exact .ownNil _ k ty
 | nilW k ty => cases hr with | cl _ _ _ hu => cases hu; exact .owNil _ k ty
theorem TLes.get : ∀ {l l' : List TV}, TLes l l' → l.length = l'.length ∧ ∀ (j : Nat) (t' : TV), l'[j]? = some t' → ∃ t, l[j]? = some t ∧ TLe t t'
 | [], [], _ => ⟨rfl, fun j t' h => by simp at h⟩
 | t :: r, t' :: r', h => by
  obtain ⟨h1, h2⟩ := TLes.get h.2
  refine ⟨by simp [h1], fun j u hu => ?_⟩
  cases j with
  | zero => simp at hu; subst hu; exact ⟨t, rfl, h.1⟩
  | succ j => exact h2 j u (by simpa using hu)
 | [], _ :: _, h => h.elim
 | _ :: _, [], h => h.elim
section
variable {A : Nat → Prop} {ι : Pl} {w : World} {heap : List (Nat × Blk)}
theorem close1_ok (hok : Ok ι w) (hh : ∀ b blk, look heap b = some blk → BlkRep (Still A ι w) ι w b blk) {av : AV} {x : Value} {ps : List Prop} {t : TV} {cs : List Nat} (h : close1 heap av = some (ps, t, cs)) (hp : AllQ ps) (hx : Rep (Still A ι w) ι w av x) :
  TRep (Still A ι w) w (fun g => ∃ c ∈ cs, Has ι c g) t x := by
 unfold close1 at h
 split at h
 ·cases h
  cases hx with
  | c _ _ hu => exact .cl _ _ _ hu
 ·rename_i c k off n
  split at h
  ·rename_i k' es ty hl
   cases h
   obtain ⟨⟨rfl, rfl, rfl⟩, _⟩ := hp
   have hb := hh _ _ hl
   generalize hes : es.length = m at hx
   cases hx with
   | ownNil _ _ hι =>
    cases hb with
    | accNil _ _ h => exact .ownNil _ _ _
    | acc _ _ _ g cap cur h1 => rw [hι] at h1; cases h1
   | own _ _ _ _ g cap a cc hι h0 h1 h2 hq =>
    obtain ⟨rfl, rfl⟩ := h0 rfl
    cases hb with
    | accNil _ _ h => rw [hι] at h; cases h
    | acc _ _ _ g' cap' cur g1 g2 g3 g4 g5 g6 g8 =>
     rw [hι] at g1
     simp only [Option.some.injEq, Plc.at.injEq] at g1
     obtain ⟨rfl, rfl⟩ := g1
     rw [← hes]
     exact .own _ k ty es g cc cur ⟨c, List.mem_singleton.2 rfl, .inl ⟨cc, hι⟩⟩ g2 g3 g4 g5 g6 g8
  ·rename_i k' es ty hl
   cases h
   obtain ⟨⟨rfl, rfl, rfl⟩, _⟩ := hp
   have hb := hh _ _ hl
   generalize hes : es.length = m at hx
   cases hx with
   | ownNil _ _ hι =>
    cases hb with
    | arrNil _ _ h => exact .owNil _ _ _
    | arr _ _ _ _ g cap cur Sf h1 => rw [hι] at h1; cases h1
   | own _ _ _ _ g cap a cc hι h0 h1 h2 hq =>
    obtain ⟨rfl, rfl⟩ := h0 rfl
    cases hb with
    | arrNil _ _ h => rw [hι] at h; cases h
    | arr _ _ _ _ g' cap' cur Sf g1 g2 g3 g4 g5 g6 g7 g8 g9 g10 =>
     rw [hι] at g1
     simp only [Option.some.injEq, Plc.at.injEq] at g1
     obtain ⟨rfl, rfl⟩ := g1
     rw [← hes]
     exact .ow _ k ty es g cc cur Sf ⟨c, List.mem_singleton.2 rfl, .inl ⟨cc, hι⟩⟩ g2 g3 g4 g5 g6 (fun p q hq => ⟨⟨c, List.mem_singleton.2 rfl, .inr (g7 p q hq)⟩, fun e => hok.hdis q c (g7 p q hq) c cc (by rw [e]; exact hι)⟩) g8 fun i e j u x he hu hx => g9 i e j u x (fun row hr => by cases hr) he hu hx
  ·cases h
 ·rename_i c
  split at h
  ·rename_i T hl
   cases h
   have hb := hh _ _ hl
   cases hx with
   | tr _ _ g0 g1 =>
    cases hb with
    | tre _ y g2 g3 g4 =>
     rw [g1] at g3
     cases g3
     exact g4.mono (fun g hg => ⟨hg, rfl⟩) fun g hg => ⟨⟨c, List.mem_singleton.2 rfl, .inr hg⟩, rfl⟩
  ·cases h
 ·cases h
theorem closeL_ok (hok : Ok ι w) (hh : ∀ b blk, look heap b = some blk → BlkRep (Still A ι w) ι w b blk) : ∀ {l : List AV} {ps : List Prop} {ts : List TV} {cs : List (List Nat)}, closeL heap l = some (ps, ts, cs) → AllQ ps →
  ts.length = l.length ∧ cs.length = l.length ∧ ∀ (j : Nat) (t : TV) (x : Value), ts[j]? = some t → (∀ av, l[j]? = some av → Rep (Still A ι w) ι w av x) → TRep (Still A ι w) w (fun g => ∃ c ∈ cs.getD j [], Has ι c g) t x
 | [], ps, ts, cs, h, _ => by cases h; exact ⟨rfl, rfl, fun j t x h => by simp at h⟩
 | a :: r, ps, ts, cs, h, hp => by
  simp only [closeL] at h
  split at h
  ·rename_i p t c ps' ts' cs' h1 h2
   cases h
   obtain ⟨q1, q2⟩ := AllQ_app hp
   obtain ⟨k1, k2, k3⟩ := closeL_ok hok hh h2 q2
   refine ⟨by simp [k1], by simp [k2], fun j u x hu hr => ?_⟩
   cases j with
   | zero => simp at hu; subst hu; exact close1_ok hok hh h1 q1 (hr a rfl)
   | succ j => exact k3 j u x (by simpa using hu) fun av hav => hr av (by simpa using hav)
  ·cases h
theorem closeL_look : ∀ {l : List AV} {ps : List Prop} {ts : List TV} {cs : List (List Nat)} {c : Nat}, closeL heap l = some (ps, ts, cs) → c ∈ cs.flatten → ∃ blk, look heap c = some blk
 | [], ps, ts, cs, c, h, hc => by cases h; simp at hc
 | a :: r, ps, ts, cs, c, h, hc => by
  simp only [closeL] at h
  split at h
  ·rename_i p t c' ps' ts' cs' h1 h2
   cases h
   simp only [List.flatten_cons, List.mem_append] at hc
   rcases hc with hc | hc
   ·unfold close1 at h1
    split at h1
    ·cases h1; cases hc
    ·split at h1
     ·rename_i hl; cases h1; rw [List.mem_singleton.1 hc]; exact ⟨_, hl⟩
     ·rename_i hl; cases h1; rw [List.mem_singleton.1 hc]; exact ⟨_, hl⟩
     ·cases h1
    ·split at h1
     ·rename_i hl; cases h1; rw [List.mem_singleton.1 hc]; exact ⟨_, hl⟩
     ·cases h1
    ·cases h1
   ·exact closeL_look h2 hc
  ·cases h
theorem flat_disj : ∀ {cs : List (List Nat)} {j j' c : Nat}, cs.flatten.Nodup → c ∈ cs.getD j [] → c ∈ cs.getD j' [] → j = j'
 | [], j, j', c, _, h, _ => by simp at h
 | a :: r, 0, 0, c, _, _, _ => rfl
 | a :: r, 0, j' + 1, c, hn, h, h' => by
  simp only [List.flatten_cons, List.nodup_append] at hn
  have h1 : c ∈ a := by simpa using h
  have h2 : c ∈ r.flatten := by
   have h3 : c ∈ r.getD j' [] := by simpa using h'
   rw [List.getD_eq_getElem?_getD] at h3
   cases hr : r[j']? with
   | none => rw [hr] at h3; simp at h3
   | some l => rw [hr] at h3; exact List.mem_flatten.2 ⟨l, List.mem_of_getElem? hr, by simpa using h3⟩
  exact absurd rfl (hn.2.2 c h1 c h2)
 | a :: r, j + 1, 0, c, hn, h, h' => (flat_disj hn h' h).symm
 | a :: r, j + 1, j' + 1, c, hn, h, h' => by
  simp only [List.flatten_cons, List.nodup_append] at hn
  rw [flat_disj (cs := r) (j := j) (j' := j') hn.2.1 (by simpa using h) (by simpa using h')]
theorem getD_flat {cs : List (List Nat)} {j c : Nat} (h : c ∈ cs.getD j []) : c ∈ cs.flatten := by
 rw [List.getD_eq_getElem?_getD] at h
 cases hr : cs[j]? with
 | none => rw [hr] at h; simp at h
 | some l => rw [hr] at h; exact List.mem_flatten.2 ⟨l, List.mem_of_getElem? hr, by simpa using h⟩
end
def dumb : List Nat → List (Nat × Blk)
 | [] => []
 | c :: r => (c, .acc 0 [] 0) :: dumb r
theorem dumb_mem : ∀ {cs : List Nat} {p : Nat × Blk}, p ∈ dumb cs → p.1 ∈ cs ∧ p.2 = .acc 0 [] 0
 | c :: r, p, h => by
  simp only [dumb] at h
  rcases List.mem_cons.1 h with rfl | h
  ·exact ⟨List.mem_cons_self, rfl⟩
  ·exact ⟨List.mem_cons_of_mem _ (dumb_mem h).1, (dumb_mem h).2⟩
theorem mem_dumb : ∀ {cs : List Nat} {c : Nat}, c ∈ cs → (c, Blk.acc 0 [] 0) ∈ dumb cs
 | c :: r, x, h => by
  simp only [dumb]
  rcases List.mem_cons.1 h with rfl | h
  ·exact List.mem_cons_self
  ·exact List.mem_cons_of_mem _ (mem_dumb h)
section
variable {cx : Cx} {Q : Post} {K : List K} {s : AState}
theorem go_focus (b i : Nat) {k : Nat} {es : List (List TV)} {ty : TypeId} (tvs : List TV) (hb : look s.heap b = some (.arr k es ty none)) (hi : es[i]? = some tvs)
  (h : Go' cx Q K ⟨s.tmps, (b, .arr k es ty (some (i, openA s.nxt tvs))) :: (openH s.nxt tvs ++ s.heap), s.nxt + tvs.length⟩) : Go' cx Q K s := by
 refine go_weak ?_ h
 rintro a w ⟨ι, hs⟩
 have hblk := hs.heap b _ hb
 have hlt : b < s.nxt := Nat.lt_of_not_le fun hle => hblk.laid (hs.free b hle)
 cases hblk with
 | arrNil => simp at hi
 | arr _ _ _ _ g cap cur Sf h1 h2 h3 h4 h5 h6 h7 h8 h9 h10 =>
  have hk : tvs.length = k := h6 i tvs hi
  have hil : i < es.length := (List.getElem?_eq_some_iff.1 hi).1
  have hcur : ∀ j, j < k → cur[i * k + j]? = some (cur.getD (i * k + j) undef) := fun j hj => getD_get (by
   have : (i + 1) * k ≤ cap * k := Nat.mul_le_mul_right k (by omega)
   rw [Nat.add_mul, Nat.one_mul] at this
   omega)
  have hT : ∀ j t, tvs[j]? = some t → TRep (Still cx.A ι w) w (Sf (i * k + j)) t (cur.getD (i * k + j) undef) := fun j t ht =>
   h9 i tvs j t _ (fun row hr => by cases hr) hi ht (hcur j (by rw [← hk]; exact (List.getElem?_eq_some_iff.1 ht).1))
  let pc : Nat → Option Plc := fun j => (tvs[j]?).bind fun t => plcT t (cur.getD (i * k + j) undef)
  have hpc : ∀ j t, tvs[j]? = some t → pc j = plcT t (cur.getD (i * k + j) undef) := fun j t ht => by simp only [pc, ht, Option.bind_some]
  obtain ⟨ι', f1, f2, f3, g1, g2, g3, hstep⟩ := rehide hs.ok (b := b) (n := s.nxt) (k := tvs.length) hs.free hlt pc (fun j g => pc j ≠ none ∧ Sf (i * k + j) g) (fun j g _ hg => h7 _ g hg.2)
   (fun j j' g hj hj' q q' => (row_inj (by omega) (by omega) (h8 _ _ g q.2 q'.2)).2) (fun j g c hj hp => by
    have ht : tvs[j]? = some tvs[j] := List.getElem?_eq_getElem hj
    refine ⟨by rw [hp]; simp, plcT_at (hT j _ ht) (by rw [← hpc j _ ht]; exact hp)⟩) (fun j g _ hg => hg.1)
  have hst := hstep (fun b' => ∃ blk, (b', blk) ∈ (b, Blk.arr k es ty (some (i, openA s.nxt tvs))) :: openH s.nxt tvs) (fun b' => b' ∈ ([] : List Nat) ∨ s.nxt ≤ b') ⟨_, List.mem_cons_self⟩ (fun i hi => .inr hi)
  have hI : ∀ g, Still cx.A ι w g → Still cx.A ι' w g := fun g hg => (hst.still g hg).1
  have hopen : ∀ j t, tvs[j]? = some t → Rep (Still cx.A ι' w) ι' w (openAV (s.nxt + j) t) (cur.getD (i * k + j) undef) ∧ ∀ blk, openB t = some blk → BlkRep (Still cx.A ι' w) ι' w (s.nxt + j) blk := fun j t ht => by
   have hj : j < tvs.length := (List.getElem?_eq_some_iff.1 ht).1
   refine open1 (hT j t ht) (fun _ => by rw [f2 j hj, hpc j t ht]) hI fun g hp hg hc => g1 j g hj ⟨by rw [hpc j t ht]; exact hp, hg⟩ fun c => by rw [hpc j t ht]; exact hc c
  have := hs.ghost (ks := []) (next := s.nxt + tvs.length) (new := []) hst (fun p hp => ?_) f3 (fun k' hk' => by cases hk') fun t av hl => by cases hl
  ·exact ⟨_, this⟩
  ·rcases List.mem_cons.1 hp with rfl | hp
   ·refine .arr k ty es _ g cap cur (fun p q => Sf p q ∧ ι'.hid q = some b) (by rw [f1 b hlt]; exact h1) h2 h3 h4 h5 h6 (fun p q hq => hq.2) (fun p p' q hq hq' => h8 p p' q hq.1 hq'.1) (fun i' e j u x hn he hu hx => ?_) ?_
    ·refine (h9 i' e j u x (fun row hr => by cases hr) he hu hx).mono hst.still fun q hq => ⟨⟨hq, ?_⟩, rfl⟩
     rw [g2 q fun j' hj' hs' => ?_]
     ·exact h7 _ q hq
     ·have hj : j < k := by rw [← h6 i' e he]; exact (List.getElem?_eq_some_iff.1 hu).1
      have := (row_inj (by omega) hj (h8 _ _ q hs'.2 hq)).1
      exact hn (openA s.nxt tvs) (by rw [this])
    ·intro i' row hr
     cases hr
     refine ⟨hil, ⟨by rw [openA_len, hk], fun j x hj hx => by have := (hT j _ (List.getElem?_eq_getElem (show j < tvs.length by omega))).one; rw [hcur j hj] at hx; cases hx; exact this⟩, fun j av x ha hx => ?_⟩
     rw [openA_get] at ha
     simp only [Option.map_eq_some_iff] at ha
     obtain ⟨t, ht, rfl⟩ := ha
     have e := hcur j (by rw [← hk]; exact (List.getElem?_eq_some_iff.1 ht).1)
     rw [e] at hx
     cases hx
     exact (hopen j t ht).1
   ·obtain ⟨j, t, q1, q2, q3⟩ := openH_mem hp
    rw [q3]
    exact (hopen j t q1).2 _ q2
theorem go_unfocus (b : Nat) {i k : Nat} {es : List (List TV)} {ty : TypeId} {row : List AV} (tvs : List TV) {ps : List Prop} {ts : List TV} {cs : List (List Nat)} (hb : look s.heap b = some (.arr k es ty (some (i, row)))) (hc : closeL s.heap row = some (ps, ts, cs))
  (hp : AllQ ps) (hle : TLes ts tvs) (hn : (b :: cs.flatten).Nodup)
  (h : Go' cx Q K ⟨killT cs.flatten s.tmps, (b, .arr k (es.set i tvs) ty none) :: (dumb cs.flatten ++ killH cs.flatten s.heap), s.nxt⟩) : Go' cx Q K s := by
 refine go_weak ?_ h
 rintro a w ⟨ι, hs⟩
 have hblk := hs.heap b _ hb
 have hlt : b < s.nxt := Nat.lt_of_not_le fun hle => hblk.laid (hs.free b hle)
 obtain ⟨hbn, hnd⟩ := List.nodup_cons.1 hn
 have hlaid := hblk.laid
 cases hblk with
 | arr _ _ _ _ g cap cur Sf h1 h2 h3 h4 h5 h6 h7 h8 h9 h10 =>
  obtain ⟨q1, ⟨q2, q2'⟩, q3⟩ := h10 i row rfl
  obtain ⟨r1, r2, r3⟩ := closeL_ok hs.ok hs.heap hc hp
  obtain ⟨l1, l2⟩ := TLes.get hle
  have hcur : ∀ j, j < k → cur[i * k + j]? = some (cur.getD (i * k + j) undef) := fun j hj => getD_get (by
   have : (i + 1) * k ≤ cap * k := Nat.mul_le_mul_right k (by omega)
   rw [Nat.add_mul, Nat.one_mul] at this
   omega)
  obtain ⟨ι', f1, f2, g1, g2, hstep⟩ := absorb hs.ok (b := b) cs.flatten hbn hlaid
  have hst := hstep (fun b' => ∃ blk, (b', blk) ∈ (b, Blk.arr k (es.set i tvs) ty none) :: dumb cs.flatten) (fun b' => b' ∈ cs.flatten ∨ s.nxt ≤ b') ⟨_, List.mem_cons_self⟩ (fun c hc => ⟨⟨_, List.mem_cons_of_mem _ (mem_dumb hc)⟩, .inl hc⟩)
  have hcl : ∀ c ∈ cs.flatten, c < s.nxt := fun c hc' => by
   obtain ⟨blk, hl⟩ := closeL_look hc hc'
   exact Nat.lt_of_not_le fun hle => (hs.heap c blk hl).laid (hs.free c hle)
  have := hs.ghost (ks := cs.flatten) (next := s.nxt) (new := []) hst (fun p hp => ?_) (fun b' hb' => ?_) (fun k' hk' => ⟨_, List.mem_cons_of_mem _ (mem_dumb hk')⟩) fun t av hl => by cases hl
  ·exact ⟨_, this⟩
  ·rcases List.mem_cons.1 hp with rfl | hp
   ·refine .arr k ty _ none g cap cur (fun p q => (p / k ≠ i ∧ Sf p q) ∨ ∃ j, j < k ∧ p = i * k + j ∧ ∃ c ∈ cs.getD j [], Has ι c q) (by rw [f1 b hbn]; exact h1) h2 h3 (by rw [List.length_set]; exact h4) h5 (fun i' e he => ?_) ?_ ?_ (fun i' e j u x _ he hu hx => ?_) fun i' row hr => by cases hr
    ·rw [List.getElem?_set] at he
     split at he
     ·rename_i e0
      subst e0
      cases he
      omega
     ·exact h6 i' e he
    ·rintro p q (⟨_, hq⟩ | ⟨j, hj, rfl, c, hc', hq⟩)
     ·exact g2 q (h7 p q hq)
     ·exact g1 c q (getD_flat hc') hq
    ·have far : ∀ p q c, Sf p q → c ∈ cs.flatten → Has ι c q → False := fun p q c hq hc' hq' => by
      have := hs.ok.has1 (.inr (h7 p q hq)) hq'
      subst this
      exact hbn hc'
     rintro p p' q (⟨_, hq⟩ | ⟨j, hj, rfl, c, hc', hq⟩) (⟨_, hq'⟩ | ⟨j', hj', rfl, c', hc2, hq'⟩)
     ·exact h8 p p' q hq hq'
     ·exact (far p q c' hq (getD_flat hc2) hq').elim
     ·exact (far p' q c hq' (getD_flat hc') hq).elim
     ·have := hs.ok.has1 hq hq'
      subst this
      rw [flat_disj hnd hc' hc2]
    ·rw [List.getElem?_set] at he
     split at he
     ·rename_i e0
      subst e0
      cases he
      obtain ⟨t, ht, hle'⟩ := l2 j u hu
      have hj : j < k := by rw [← q2, ← r1, l1]; exact (List.getElem?_eq_some_iff.1 hu).1
      have := r3 j t x ht fun av hav => q3 j av x hav hx
      exact (hle'.rep this).mono hst.still fun q hq => ⟨.inr ⟨j, hj, rfl, hq⟩, rfl⟩
     ·rename_i hne
      have hj : j < k := by rw [← h6 i' e he]; exact (List.getElem?_eq_some_iff.1 hu).1
      refine (h9 i' e j u x (fun row' hr => by cases hr; exact hne rfl) he hu hx).mono hst.still fun q hq => ⟨.inl ⟨?_, hq⟩, rfl⟩
      rw [Nat.mul_comm, Nat.mul_add_div (by omega), Nat.div_eq_of_lt hj]
      simpa using fun e => hne e.symm
   ·obtain ⟨d1, d2⟩ := dumb_mem hp
    rw [d2]
    exact .accNil _ _ (f2 _ d1)
  ·have hn' : b' ∉ cs.flatten := fun hc' => by have := hcl b' hc'; omega
   rw [f1 b' hn']
   exact hs.free b' hb'
end
end Go.Ab
