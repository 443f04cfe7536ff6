/-
  Functions, and what they compute: printed by wg.py, a program of this work.
-/
import Derived.Test.YtpfgofnmkaljaaaMg36
set_option linter.unusedVariables false
set_option linter.unusedSimpArgs false
namespace Go.Ab.Try
open Go Go.Proofs Go.Ab
def pontoonref05_Ports (a0 : SOp) : Int :=
  (bif (((a0.Kind == 7) && (decide (a0.Arg ≥ 2))) && (decide (a0.Arg ≤ 4))) then a0.Arg else (bif ((((a0.Kind == 7) || (a0.Kind == 9)) || (decide (a0.Kind < 1))) || (decide (a0.Kind > 9))) then 0 else 1))
def pontoonref05_fields (a0 : SOp) (a1 : Int) : Bool :=
  (bif ((a0.Kind != 1) && (a0.Part != 0)) then false else (bif (a0.Kind == 1) then ((((decide (a0.Part ≥ 0)) && (decide (a0.Part < a1))) && (a0.Fn == 0)) && (a0.Arg == 0)) else (bif (a0.Kind == 2) then (((decide (a0.Fn ≥ 1)) && (decide (a0.Fn ≤ 4))) && ((a0.Fn != 3) || (a0.Arg == 0))) else (bif (a0.Kind == 3) then (((decide (a0.Fn ≥ 1)) && (decide (a0.Fn ≤ 4))) && ((a0.Fn != 3) || (a0.Arg == 0))) else (bif (a0.Kind == 4) then (bif ((a0.Fn == 2) || (a0.Fn == 3)) then (decide (a0.Arg ≥ 1)) else ((a0.Fn == 4) || ((a0.Fn == 1) && (a0.Arg == 0)))) else (bif (a0.Kind == 5) then (((decide (a0.Fn ≥ 1)) && (decide (a0.Fn ≤ 5))) && (a0.Arg == 0)) else (bif (a0.Kind == 6) then ((((decide (a0.Fn ≥ 1)) && (decide (a0.Fn ≤ 5))) && (decide (a0.Arg ≥ 1))) && (decide (a0.Arg ≤ 64))) else (bif (a0.Kind == 7) then (((a0.Fn == 0) && (decide (a0.Arg ≥ 2))) && (decide (a0.Arg ≤ 4))) else ((a0.Fn == 0) && (a0.Arg == 0))))))))))
def pontoonref05_inputs_L0 (a0 : SGraph) (a1 : Int) (x14 : Nat) : Sum Bool Unit :=
  (if h15 : (decide (((x14 : Nat) : Int) < ((((List.getD a0.Ops (Int.toNat a1) default).In).length : Nat) : Int))) = true then (if h19 : ((((decide ((List.getD ((List.getD a0.Ops (Int.toNat a1) default).In) x14 default).From < 0)) || (decide ((List.getD ((List.getD a0.Ops (Int.toNat a1) default).In) x14 default).From ≥ a1))) || (decide ((List.getD ((List.getD a0.Ops (Int.toNat a1) default).In) x14 default).Port < 0))) || (decide ((List.getD ((List.getD a0.Ops (Int.toNat a1) default).In) x14 default).Port ≥ (pontoonref05_Ports (List.getD a0.Ops (Int.toNat ((List.getD ((List.getD a0.Ops (Int.toNat a1) default).In) x14 default).From)) default))))) = true then (Sum.inl false) else (pontoonref05_inputs_L0 a0 a1 (x14 + 1))) else (Sum.inr ()))
termination_by ((List.getD a0.Ops (Int.toNat a1) default).In).length - x14
decreasing_by all_goals (try simp only [GZ] at *) <;> omega
def pontoonref05_inputs (a0 : SGraph) (a1 : Int) : Bool :=
  letIn ((bif ((List.getD a0.Ops (Int.toNat a1) default).Kind == 1) then (0, 0) else (1, 1))) fun o1 => letIn ((bif ((List.getD a0.Ops (Int.toNat a1) default).Kind == 8) then (2, 4) else (o1.1, o1.2))) fun o3 => (bif ((decide (((((List.getD a0.Ops (Int.toNat a1) default).In).length : Nat) : Int) < ((o3.1 : Nat) : Int))) || (decide (((((List.getD a0.Ops (Int.toNat a1) default).In).length : Nat) : Int) > ((o3.2 : Nat) : Int)))) then false else letIn (pontoonref05_inputs_L0 a0 a1 0) fun o7s => Sum.elim (fun q => q) (fun o7 => true) o7s)
def pontoonref05_many_L1 (a0 : SGraph) (a2 : SEdge) (x15 : Nat) (x22 : Nat) (x23 : Nat) : Nat :=
  (if h24 : (decide (((x23 : Nat) : Int) < ((((List.getD a0.Ops x15 default).In).length : Nat) : Int))) = true then letIn ((if h26 : (decide ([(List.getD ((List.getD a0.Ops x15 default).In) x23 default).From, (List.getD ((List.getD a0.Ops x15 default).In) x23 default).Port] = [a2.From, a2.Port])) = true then x22 + 1 else x22)) fun o25 => (pontoonref05_many_L1 a0 a2 x15 o25 (x23 + 1)) else x22)
termination_by ((List.getD a0.Ops x15 default).In).length - x23
decreasing_by all_goals (try simp only [GZ] at *) <;> omega
def pontoonref05_many_L0 (a0 : SGraph) (a1 : Int) (a2 : SEdge) (x14 : Nat) (x15 : Nat) : Nat :=
  (if h16 : (decide (((x15 : Nat) : Int) < a1)) = true then letIn (pontoonref05_many_L1 a0 a2 x15 x14 0) fun o17 => (pontoonref05_many_L0 a0 a1 a2 o17 (x15 + 1)) else x14)
termination_by (Int.toNat a1) - x15
decreasing_by all_goals (try simp only [GZ] at *) <;> omega
def pontoonref05_many (a0 : SGraph) (a1 : Int) (a2 : SEdge) : Int :=
  letIn (pontoonref05_many_L0 a0 a1 a2 0 0) fun o1 => ((o1 : Nat) : Int)
def pontoonref05_Check_L1 (a0 : SGraph) (x18 : Nat) (x28 : Nat) : Sum (Int × Int) Unit :=
  (if h29 : (decide (((x28 : Nat) : Int) < ((((List.getD a0.Ops x18 default).In).length : Nat) : Int))) = true then (if h30 : (decide ((pontoonref05_many a0 ((x18 + 1 : Nat) : Int) (List.getD ((List.getD a0.Ops x18 default).In) x28 default)) > 1)) = true then (Sum.inl (((x18 : Nat) : Int), 53)) else (pontoonref05_Check_L1 a0 x18 (x28 + 1))) else (Sum.inr ()))
termination_by ((List.getD a0.Ops x18 default).In).length - x28
decreasing_by all_goals (try simp only [GZ] at *) <;> omega
def pontoonref05_Check_L0 (a0 : SGraph) (x18 : Nat) : Sum (Int × Int) Unit :=
  (if h19 : (decide (((x18 : Nat) : Int) < ((a0.Ops.length : Nat) : Int))) = true then letIn ((if h22 : ((decide ((List.getD a0.Ops x18 default).Kind < 1)) || (decide ((List.getD a0.Ops x18 default).Kind > 9))) = true then (Sum.inl (((x18 : Nat) : Int), 50)) else (if h23 : (!(pontoonref05_fields (List.getD a0.Ops x18 default) a0.Parts)) = true then (Sum.inl (((x18 : Nat) : Int), 51)) else (if h24 : (!(pontoonref05_inputs a0 ((x18 : Nat) : Int))) = true then (Sum.inl (((x18 : Nat) : Int), 52)) else pontoonref05_Check_L1 a0 x18 0)))) fun o20s => Sum.elim (fun q => Sum.inl q) (fun o20 => (pontoonref05_Check_L0 a0 (x18 + 1))) o20s else (Sum.inr ()))
termination_by a0.Ops.length - x18
decreasing_by all_goals (try simp only [GZ] at *) <;> omega
def pontoonref05_Check_L3 (a0 : SGraph) (x41 : Nat) (x47 : Nat) : Sum (Int × Int) Unit :=
  (if h48 : (decide (((x47 : Nat) : Int) < (pontoonref05_Ports (List.getD a0.Ops x41 default)))) = true then (if h49 : ((pontoonref05_many a0 ((a0.Ops.length : Nat) : Int) (SEdge.mk ((x41 : Nat) : Int) ((x47 : Nat) : Int))) == 0) = true then (Sum.inl (((x41 : Nat) : Int), 54)) else (pontoonref05_Check_L3 a0 x41 (x47 + 1))) else (Sum.inr ()))
termination_by (Int.toNat (pontoonref05_Ports (List.getD a0.Ops x41 default))) - x47
decreasing_by all_goals (try simp only [GZ] at *) <;> omega
def pontoonref05_Check_L2 (a0 : SGraph) (x41 : Nat) : Sum (Int × Int) Unit :=
  (if h42 : (decide (((x41 : Nat) : Int) < ((a0.Ops.length : Nat) : Int))) = true then letIn (pontoonref05_Check_L3 a0 x41 0) fun o43s => Sum.elim (fun q => Sum.inl q) (fun o43 => (pontoonref05_Check_L2 a0 (x41 + 1))) o43s else (Sum.inr ()))
termination_by a0.Ops.length - x41
decreasing_by all_goals (try simp only [GZ] at *) <;> omega
def pontoonref05_Check_L5 (a0 : SGraph) (x73 : Nat) (x85 : Nat) (x86 : Nat) (x87 : Nat) : Nat × Nat :=
  (if h88 : (decide (((x87 : Nat) : Int) < ((a0.Ops.length : Nat) : Int))) = true then letIn (letIn ((if h92 : (((List.getD a0.Ops x87 default).Kind == 1) && ((List.getD a0.Ops x87 default).Part == ((x73 : Nat) : Int))) = true then x86 + 1 else x86)) fun o91 => (if h94 : ((((x73 : Nat) : Int) == 0) && ((List.getD a0.Ops x87 default).Kind == 9)) = true then (x85 + 1, o91) else (x85, o91))) fun o89 => (pontoonref05_Check_L5 a0 x73 o89.1 o89.2 (x87 + 1)) else (x85, x86))
termination_by a0.Ops.length - x87
decreasing_by all_goals (try simp only [GZ] at *) <;> omega
def pontoonref05_Check_L4 (a0 : SGraph) (x72 : Nat) (x73 : Nat) : Sum (Int × Int) Nat :=
  (if h74 : (decide (((x73 : Nat) : Int) < a0.Parts)) = true then letIn (letIn (pontoonref05_Check_L5 a0 x73 x72 0 0) fun o76 => (if h95 : (((o76.2 : Nat) : Int) != 1) = true then (Sum.inl (0, 55)) else (Sum.inr o76.1))) fun o75s => Sum.elim (fun q => Sum.inl q) (fun o75 => (pontoonref05_Check_L4 a0 o75 (x73 + 1))) o75s else (Sum.inr x72))
termination_by (Int.toNat a0.Parts) - x73
decreasing_by all_goals (try simp only [GZ] at *) <;> omega
def pontoonref05_Check (a0 : SGraph) : Int × Int :=
  (bif ((decide (a0.Parts < 1)) || (decide (a0.Parts > 4))) then (0, 1) else (bif (decide (((a0.Ops.length : Nat) : Int) > 24)) then (0, 3) else letIn (pontoonref05_Check_L0 a0 0) fun o4s => Sum.elim (fun q => q) (fun o4 => letIn (pontoonref05_Check_L2 a0 0) fun o31s => Sum.elim (fun q => q) (fun o31 => letIn (pontoonref05_Check_L4 a0 0 0) fun o50s => Sum.elim (fun q => q) (fun o50 => (bif (((o50 : Nat) : Int) != 1) then (0, 56) else (0, 0))) o50s) o31s) o4s))
def pontoonref05_Sink_L0 (a0 : SGraph) (x5 : Nat) : Sum (Int × Bool) Unit :=
  (if h6 : (decide (((x5 : Nat) : Int) < ((a0.Ops.length : Nat) : Int))) = true then (if h7 : ((List.getD a0.Ops x5 default).Kind == 9) = true then (Sum.inl (((x5 : Nat) : Int), true)) else (pontoonref05_Sink_L0 a0 (x5 + 1))) else (Sum.inr ()))
termination_by a0.Ops.length - x5
decreasing_by all_goals (try simp only [GZ] at *) <;> omega
def pontoonref05_Sink (a0 : SGraph) : Int × Bool :=
  letIn (pontoonref05_Sink_L0 a0 0) fun o1s => Sum.elim (fun q => q) (fun o1 => (0, false)) o1s
end Go.Ab.Try
