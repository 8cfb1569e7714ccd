/-
  Texts of this session, one behind the other: CoEnv, CoWorks, CoFirst, CoS, CoG1, CoC1, CoG2, CoC2, CoPure, CoG3, CoL5.
-/
import Derived.Test.YtdgadbhgcpfajaaDoorPart10
import Derived.Test.YtdgadbhgcpfajaaDoorProg
import Derived.KernelRfl
namespace Go.Proofs.YtdgadbhgcpfajaaDoor
open Go Go.Am
def std : Std := { ix := some 101, ct := some 93, ne := some 77, mz := some (78, 5) }
set_option maxRecDepth 100000 in
theorem std_ok : std.Ok Tryd.prog where
  mixed := by kernel_rfl
  names := by kernel_rfl
  ix f h := by
    have : 101 = f := by simpa [std] using h
    subst this
    exact ⟨⟨_, rfl, by kernel_rfl, by kernel_rfl, by kernel_rfl, rfl⟩⟩
  ct f h := by
    have : 93 = f := by simpa [std] using h
    subst this
    exact ⟨⟨_, rfl, by kernel_rfl, by kernel_rfl, by kernel_rfl, rfl⟩⟩
  ne f h := by
    have : 77 = f := by simpa [std] using h
    subst this
    exact ⟨⟨_, rfl, by kernel_rfl, by kernel_rfl, by kernel_rfl, rfl⟩⟩
  mz f e h := by
    have : 78 = f ∧ 5 = e := by simpa [std] using h
    obtain ⟨rfl, rfl⟩ := this
    exact ⟨_, _, ⟨⟨_, rfl, by kernel_rfl, by kernel_rfl, by kernel_rfl, rfl⟩⟩, by kernel_rfl, by kernel_rfl⟩
noncomputable def E : Env := stdEnv Tryd.prog std
theorem E_ok : E.Ok := stdEnv_ok std_ok
end Go.Proofs.YtdgadbhgcpfajaaDoor

namespace Go.Proofs.YtdgadbhgcpfajaaDoor
open Go Go.Am
theorem works_eval : evCall E 1000 9 [] [] = some (.pure (.bool true)) := by kernel_rfl
noncomputable def E1 : Env := E.know 9 fun a => match a with | [] => some (.bool true) | _ => none
theorem E1_ok : E1.Ok := E_ok.knowEval works_eval rfl
end Go.Proofs.YtdgadbhgcpfajaaDoor

/-
  Chapter 2: the first sixteen colours, as known calls; what symbolic evaluation stands upon.
-/
namespace Go.Proofs.YtdgadbhgcpfajaaDoor
open Go Go.Am

def first3 : List (Int × Int × Int) := [(0, 0, 0), (205, 0, 0), (0, 205, 0), (205, 205, 0), (0, 0, 238), (205, 0, 205), (0, 205, 205), (229, 229, 229),
  (127, 127, 127), (255, 0, 0), (0, 255, 0), (255, 255, 0), (92, 92, 255), (255, 0, 255), (0, 255, 255), (255, 255, 255)]
def vOf (t : Int × Int × Int) : V := .agg [.int .u16 (t.1 * 257), .int .u16 (t.2.1 * 257), .int .u16 (t.2.2 * 257)]
def firstTab : List (List V × V) := (List.range 16).map fun i => ([.int .i64 (i : Nat)], vOf (first3.getD i (0, 0, 0)))
set_option maxRecDepth 100000 in
theorem first_eval : ((List.range 16).map fun i : Nat => evCall E1 1000 32 [.int .i64 i] []) = (List.range 16).map fun i => some (.pure (vOf (first3.getD i (0, 0, 0)))) := by kernel_rfl
noncomputable def E2 : Env := E1.know 32 (tabS firstTab)
theorem E2_ok : E2.Ok := E1_ok.knowTab firstTab fun p hp => by
  obtain ⟨i, hi, rfl⟩ := List.mem_map.1 hp
  exact ⟨⟨1000, List.map_inj_left.1 first_eval i hi⟩, rfl⟩

abbrev C3 : Ty := .pair (.int .u16) (.pair (.int .u16) (.pair (.int .u16) .unit))
def firstF (i : Int) : Int × Int × Int × PUnit := ((first3.getD i.toNat (0, 0, 0)).1 * 257, (first3.getD i.toNat (0, 0, 0)).2.1 * 257, (first3.getD i.toNat (0, 0, 0)).2.2 * 257, ⟨⟩)
def cFirst : Ctr := ctr1 (.int .i64) [C3] (fun x => [decide (0 ≤ x), decide (x < 16)]) fun x => [⟨C3, firstF x⟩]
theorem first_fin (x : Int) (h0 : 0 ≤ x) (h1 : x < 16) : ∃ vs v, SV.flatL [.v (.int .i64 x)] = some vs ∧ E2.orc 32 vs = some v ∧ (tupY [instH C3 (firstF x)]).flat? = some v ∧ v.flat = true := by
  obtain ⟨j, rfl⟩ : ∃ j : Nat, x = (j : Int) := ⟨x.toNat, by omega⟩
  have hj : j < 16 := by omega
  match j, hj with
  | 0, _ | 1, _ | 2, _ | 3, _ | 4, _ | 5, _ | 6, _ | 7, _ | 8, _ | 9, _ | 10, _ | 11, _ | 12, _ | 13, _ | 14, _ | 15, _ => exact ⟨_, _, rfl, rfl, rfl, rfl⟩
  | k + 16, h => omega
theorem cFirst_ok : CtrOk E2 32 cFirst := ctr_orc fun ds gs ds' args sv hr hg hargs hsv => by
  obtain ⟨x, rfl, rfl, rfl⟩ := ctr1_res hr
  simp only [List.all_cons, id, List.all_nil, Bool.and_true, Bool.and_eq_true, decide_eq_true_eq] at hg
  have e1 : args = [.v (.int .i64 x)] := by
    have : instPL [] [.hole (.int .i64)] [⟨.int .i64, x⟩] = some ([SV.v (.int .i64 x)], []) := by
      unfold instPL instP
      rw [show popD (Ty.int .i64) [⟨Ty.int .i64, x⟩] = some (x, []) from popD_self (t := .int .i64)]
      rfl
    have e : instPL [] [.hole (.int .i64)] [⟨.int .i64, x⟩] = some (args, []) := hargs
    rw [this] at e
    exact (Prod.mk.inj (Option.some.inj e)).1.symm
  have e2 : sv = [instH C3 (firstF x)] := by
    have : instTy [C3] [⟨C3, firstF x⟩] = some [instH C3 (firstF x)] := by
      unfold instTy
      rw [show popD C3 [⟨C3, firstF x⟩] = some (firstF x, []) from popD_self (t := C3)]
      rfl
    exact instTy_exact hsv this
  subst e1 e2
  exact first_fin x hg.1 hg.2

end Go.Proofs.YtdgadbhgcpfajaaDoor

/-
  Chapter 2: what symbolic evaluation stands upon.
-/
namespace Go.Proofs.YtdgadbhgcpfajaaDoor
open Go Go.Am
def ctrs0 : FuncId → List Ctr := addCtr (addCtr (fun _ => []) 9 (ctr0 [.bool] [⟨.bool, true⟩])) 32 cFirst
theorem ctrs0_ok : ∀ g ct, ct ∈ ctrs0 g → CtrOk E2 g ct := addCtr_ok (addCtr_ok (fun g ct h => by cases h) (ctr0_orcB rfl)) cFirst_ok
theorem G2 : GFlat E2 := fun g cs h => by cases h
theorem orc2 : ∀ g, E2.full g = true → ∀ vs, E2.orc g vs = none := fun g h => by cases h
theorem S_ok {ctr : FuncId → List Ctr} {tm : FuncId → Nat → Option Tm} {un : Nat} (h : ∀ g ct, ct ∈ ctr g → CtrOk E2 g ct) : SOkE { E := E2, ctr := ctr, tm := tm, un := un } := ⟨G2, h, orc2⟩
end Go.Proofs.YtdgadbhgcpfajaaDoor

/-
  Printed by a tool of this session: what functions come to.
-/
namespace Go.Proofs.YtdgadbhgcpfajaaDoor
open Go Go.Am
set_option linter.unusedVariables false
def tmOf : FuncId → Nat → Option Tm := fun g i => match Nat.beq g 33 with
  | true => none
  | false => none
noncomputable def SOf : SE := { E := Go.Proofs.YtdgadbhgcpfajaaDoor.E2, ctr := Go.Proofs.YtdgadbhgcpfajaaDoor.ctrs0, tm := tmOf, un := 300 }
theorem Of_fn (n : Nat) (n0 : Int) (n1 : Int) (n2 : Int) :
    fnY SOf loopY [(.hole (.int .u8)), (.hole (.int .u8)), (.hole (.int .u8))] [(.pair (.int .u16) (.pair (.int .u16) (.pair (.int .u16) .unit)))] n 33 [⟨(.int .u8), n0⟩, ⟨(.int .u8), n1⟩, ⟨(.int .u8), n2⟩] =
    (some [⟨(.pair (.int .u16) (.pair (.int .u16) (.pair (.int .u16) .unit))), ((Go.IntKind.wrap Go.IntKind.u16 (Go.IntKind.wrap Go.IntKind.u16 n0 * (257 : Int)), Go.IntKind.wrap Go.IntKind.u16 (Go.IntKind.wrap Go.IntKind.u16 n1 * (257 : Int)), Go.IntKind.wrap Go.IntKind.u16 (Go.IntKind.wrap Go.IntKind.u16 n2 * (257 : Int)), PUnit.unit) : Int × Int × Int × PUnit)⟩]) := by kernel_rfl

def tmSp : FuncId → Nat → Option Tm := fun g i => match Nat.beq g 34 with
  | true => none
  | false => none
noncomputable def SSp : SE := { E := Go.Proofs.YtdgadbhgcpfajaaDoor.E2, ctr := Go.Proofs.YtdgadbhgcpfajaaDoor.ctrs0, tm := tmSp, un := 300 }
theorem Sp_fn (n : Nat) (n0 : Int) :
    fnY SSp loopY [(.hole (.int .i64))] [(.int .u8)] n 34 [⟨(.int .i64), n0⟩] =
    (bif (n0 == (0 : Int)) then
      some [⟨(.int .u8), ((0 : Int) : Int)⟩]
    else
      some [⟨(.int .u8), (Go.IntKind.wrap Go.IntKind.u8 (Go.IntKind.wrap Go.IntKind.i64 ((55 : Int) + Go.IntKind.wrap Go.IntKind.i64 ((40 : Int) * n0))) : Int)⟩]) := by kernel_rfl

def tmFa : FuncId → Nat → Option Tm := fun g i => match Nat.beq g 11 with
  | true => none
  | false => none
noncomputable def SFa : SE := { E := Go.Proofs.YtdgadbhgcpfajaaDoor.E2, ctr := Go.Proofs.YtdgadbhgcpfajaaDoor.ctrs0, tm := tmFa, un := 300 }
theorem Fa_fn (n : Nat) (p0 : Int × Int × Int × PUnit) (p1 : Int × Int × Int × PUnit) :
    fnY SFa loopY [(.hole (.pair (.int .u16) (.pair (.int .u16) (.pair (.int .u16) .unit)))), (.hole (.pair (.int .u16) (.pair (.int .u16) (.pair (.int .u16) .unit))))] [(.int .i64)] n 11 [⟨(.pair (.int .u16) (.pair (.int .u16) (.pair (.int .u16) .unit))), p0⟩, ⟨(.pair (.int .u16) (.pair (.int .u16) (.pair (.int .u16) .unit))), p1⟩] =
    (some [⟨(.int .i64), (Go.IntKind.wrap Go.IntKind.i64 (Go.IntKind.wrap Go.IntKind.i64 (Go.IntKind.wrap Go.IntKind.i64 ((0 : Int) + Go.IntKind.wrap Go.IntKind.i64 (Go.IntKind.wrap Go.IntKind.i64 (Go.IntKind.wrap Go.IntKind.i64 (Go.IntKind.wrap Go.IntKind.u16 (Int.tdiv (Prod.fst p0) (257 : Int))) - Go.IntKind.wrap Go.IntKind.i64 (Go.IntKind.wrap Go.IntKind.u16 (Int.tdiv (Prod.fst p1) (257 : Int)))) * Go.IntKind.wrap Go.IntKind.i64 (Go.IntKind.wrap Go.IntKind.i64 (Go.IntKind.wrap Go.IntKind.u16 (Int.tdiv (Prod.fst p0) (257 : Int))) - Go.IntKind.wrap Go.IntKind.i64 (Go.IntKind.wrap Go.IntKind.u16 (Int.tdiv (Prod.fst p1) (257 : Int)))))) + Go.IntKind.wrap Go.IntKind.i64 (Go.IntKind.wrap Go.IntKind.i64 (Go.IntKind.wrap Go.IntKind.i64 (Go.IntKind.wrap Go.IntKind.u16 (Int.tdiv (Prod.fst (Prod.snd p0)) (257 : Int))) - Go.IntKind.wrap Go.IntKind.i64 (Go.IntKind.wrap Go.IntKind.u16 (Int.tdiv (Prod.fst (Prod.snd p1)) (257 : Int)))) * Go.IntKind.wrap Go.IntKind.i64 (Go.IntKind.wrap Go.IntKind.i64 (Go.IntKind.wrap Go.IntKind.u16 (Int.tdiv (Prod.fst (Prod.snd p0)) (257 : Int))) - Go.IntKind.wrap Go.IntKind.i64 (Go.IntKind.wrap Go.IntKind.u16 (Int.tdiv (Prod.fst (Prod.snd p1)) (257 : Int)))))) + Go.IntKind.wrap Go.IntKind.i64 (Go.IntKind.wrap Go.IntKind.i64 (Go.IntKind.wrap Go.IntKind.i64 (Go.IntKind.wrap Go.IntKind.u16 (Int.tdiv (Prod.fst (Prod.snd (Prod.snd p0))) (257 : Int))) - Go.IntKind.wrap Go.IntKind.i64 (Go.IntKind.wrap Go.IntKind.u16 (Int.tdiv (Prod.fst (Prod.snd (Prod.snd p1))) (257 : Int)))) * Go.IntKind.wrap Go.IntKind.i64 (Go.IntKind.wrap Go.IntKind.i64 (Go.IntKind.wrap Go.IntKind.u16 (Int.tdiv (Prod.fst (Prod.snd (Prod.snd p0))) (257 : Int))) - Go.IntKind.wrap Go.IntKind.i64 (Go.IntKind.wrap Go.IntKind.u16 (Int.tdiv (Prod.fst (Prod.snd (Prod.snd p1))) (257 : Int)))))) : Int)⟩]) := by kernel_rfl

end Go.Proofs.YtdgadbhgcpfajaaDoor

/-
  Chapter 2: contracts of of, step, Far.
-/
namespace Go.Proofs.YtdgadbhgcpfajaaDoor
open Go Go.Am

abbrev D3 : Type := Int × Int × Int × PUnit
/-- A colour of three bytes. -/
def of3 (a b c : Int) : D3 := (IntKind.u16.wrap (IntKind.u16.wrap a * 257), IntKind.u16.wrap (IntKind.u16.wrap b * 257), IntKind.u16.wrap (IntKind.u16.wrap c * 257), ⟨⟩)
def stepF (x : Int) : Int := if x = 0 then 0 else IntKind.u8.wrap (IntKind.i64.wrap (55 + IntKind.i64.wrap (40 * x)))
theorem sp_ok (n : Nat) (x : Int) : fnY SSp loopY [.hole (.int .i64)] [.int .u8] n 34 [⟨.int .i64, x⟩] = some [⟨.int .u8, stepF x⟩] := by
  rw [Sp_fn]
  unfold stepF
  refine bc (fun h => ret1 (dyI ?_)) fun h => ret1 (dyI ?_)
  · rw [if_pos (by simpa using h)]
  · rw [if_neg (by simpa using h)]
/-- A part's distance. -/
def dst (a b : Int) : Int := IntKind.i64.wrap (IntKind.i64.wrap (IntKind.u16.wrap (Int.tdiv a 257)) - IntKind.i64.wrap (IntKind.u16.wrap (Int.tdiv b 257)))
/-- How far two colours are. -/
def farF (p q : D3) : Int := IntKind.i64.wrap (IntKind.i64.wrap (IntKind.i64.wrap (0 + IntKind.i64.wrap (dst p.1 q.1 * dst p.1 q.1)) + IntKind.i64.wrap (dst p.2.1 q.2.1 * dst p.2.1 q.2.1)) + IntKind.i64.wrap (dst p.2.2.1 q.2.2.1 * dst p.2.2.1 q.2.2.1))
theorem fa_ok (n : Nat) (p q : D3) : fnY SFa loopY [.hole C3, .hole C3] [.int .i64] n 11 [⟨C3, p⟩, ⟨C3, q⟩] = some [⟨.int .i64, farF p q⟩] := Fa_fn n p q

def ctrs1 : FuncId → List Ctr := addCtr (addCtr (addCtr ctrs0
  33 (ctr3 (.int .u8) (.int .u8) (.int .u8) [C3] (fun (_ _ _ : Int) => []) fun (a b c : Int) => [⟨C3, of3 a b c⟩]))
  34 (ctr1 (.int .i64) [.int .u8] (fun (_ : Int) => []) fun (x : Int) => [⟨.int .u8, stepF x⟩]))
  11 (ctr2 C3 C3 [.int .i64] (fun (_ _ : D3) => []) fun (p q : D3) => [⟨.int .i64, farF p q⟩])
theorem ctrs1_ok : ∀ g ct, ct ∈ ctrs1 g → CtrOk E2 g ct :=
  addCtr_ok (addCtr_ok (addCtr_ok ctrs0_ok
    (ctr3_ok (S := SOf) (t := .int .u8) (u := .int .u8) (w := .int .u8) (S_ok ctrs0_ok) (fun _ => rfl) rfl fun (a b c : Int) _ => ⟨1, Of_fn 1 a b c⟩))
    (ctr1_ok (S := SSp) (t := .int .i64) (S_ok ctrs0_ok) (fun _ => rfl) rfl fun (x : Int) _ => ⟨1, sp_ok 1 x⟩))
    (ctr2_ok (S := SFa) (t := C3) (u := C3) (S_ok ctrs0_ok) (fun _ => rfl) rfl fun (p q : D3) _ => ⟨1, fa_ok 1 p q⟩)
end Go.Proofs.YtdgadbhgcpfajaaDoor

/-
  Printed by a tool of this session: what functions come to.
-/
namespace Go.Proofs.YtdgadbhgcpfajaaDoor
open Go Go.Am
set_option linter.unusedVariables false
def tmDe : FuncId → Nat → Option Tm := fun g i => match Nat.beq g 15 with
  | true => none
  | false => none
noncomputable def SDe : SE := { E := Go.Proofs.YtdgadbhgcpfajaaDoor.E2, ctr := Go.Proofs.YtdgadbhgcpfajaaDoor.ctrs1, tm := tmDe, un := 300 }
theorem De_fn (n : Nat) (n0 : Int) :
    fnY SDe loopY [(.hole (.int .i64))] [(.pair (.int .u16) (.pair (.int .u16) (.pair (.int .u16) .unit))), .bool] n 15 [⟨(.int .i64), n0⟩] =
    (bif (Decidable.decide (n0 < (0 : Int)) || Decidable.decide ((256 : Int) ≤ n0)) then
      some [⟨(.pair (.int .u16) (.pair (.int .u16) (.pair (.int .u16) .unit))), (((0 : Int), (0 : Int), (0 : Int), PUnit.unit) : Int × Int × Int × PUnit)⟩, ⟨.bool, (Bool.false : Bool)⟩]
    else
      bif (Decidable.decide (n0 < (16 : Int))) then
        need (Decidable.decide ((0 : Int) ≤ n0)) <|
        need (Decidable.decide (n0 < (16 : Int))) <|
        some [⟨(.pair (.int .u16) (.pair (.int .u16) (.pair (.int .u16) .unit))), ((Prod.fst (List.getD Go.Proofs.YtdgadbhgcpfajaaDoor.first3 (Int.toNat n0) ((0 : Int), (0 : Int), (0 : Int))) * (257 : Int), Prod.fst (Prod.snd (List.getD Go.Proofs.YtdgadbhgcpfajaaDoor.first3 (Int.toNat n0) ((0 : Int), (0 : Int), (0 : Int)))) * (257 : Int), Prod.snd (Prod.snd (List.getD Go.Proofs.YtdgadbhgcpfajaaDoor.first3 (Int.toNat n0) ((0 : Int), (0 : Int), (0 : Int)))) * (257 : Int), PUnit.unit) : Int × Int × Int × PUnit)⟩, ⟨.bool, (Bool.true : Bool)⟩]
      else
        bif (Decidable.decide (n0 < (232 : Int))) then
          some [⟨(.pair (.int .u16) (.pair (.int .u16) (.pair (.int .u16) .unit))), ((Go.IntKind.wrap Go.IntKind.u16 (Go.IntKind.wrap Go.IntKind.u16 (Go.Proofs.YtdgadbhgcpfajaaDoor.stepF (Go.IntKind.wrap Go.IntKind.i64 (Int.tdiv (Go.IntKind.wrap Go.IntKind.i64 (Int.tdiv (Go.IntKind.wrap Go.IntKind.i64 (n0 - (16 : Int))) (6 : Int))) (6 : Int)))) * (257 : Int)), Go.IntKind.wrap Go.IntKind.u16 (Go.IntKind.wrap Go.IntKind.u16 (Go.Proofs.YtdgadbhgcpfajaaDoor.stepF (Int.tmod (Go.IntKind.wrap Go.IntKind.i64 (Int.tdiv (Go.IntKind.wrap Go.IntKind.i64 (n0 - (16 : Int))) (6 : Int))) (6 : Int))) * (257 : Int)), Go.IntKind.wrap Go.IntKind.u16 (Go.IntKind.wrap Go.IntKind.u16 (Go.Proofs.YtdgadbhgcpfajaaDoor.stepF (Int.tmod (Go.IntKind.wrap Go.IntKind.i64 (n0 - (16 : Int))) (6 : Int))) * (257 : Int)), PUnit.unit) : Int × Int × Int × PUnit)⟩, ⟨.bool, (Bool.true : Bool)⟩]
        else
          some [⟨(.pair (.int .u16) (.pair (.int .u16) (.pair (.int .u16) .unit))), ((Go.IntKind.wrap Go.IntKind.u16 (Go.IntKind.wrap Go.IntKind.u16 (Go.IntKind.wrap Go.IntKind.u8 (Go.IntKind.wrap Go.IntKind.i64 ((8 : Int) + Go.IntKind.wrap Go.IntKind.i64 ((10 : Int) * Go.IntKind.wrap Go.IntKind.i64 (n0 - (232 : Int)))))) * (257 : Int)), Go.IntKind.wrap Go.IntKind.u16 (Go.IntKind.wrap Go.IntKind.u16 (Go.IntKind.wrap Go.IntKind.u8 (Go.IntKind.wrap Go.IntKind.i64 ((8 : Int) + Go.IntKind.wrap Go.IntKind.i64 ((10 : Int) * Go.IntKind.wrap Go.IntKind.i64 (n0 - (232 : Int)))))) * (257 : Int)), Go.IntKind.wrap Go.IntKind.u16 (Go.IntKind.wrap Go.IntKind.u16 (Go.IntKind.wrap Go.IntKind.u8 (Go.IntKind.wrap Go.IntKind.i64 ((8 : Int) + Go.IntKind.wrap Go.IntKind.i64 ((10 : Int) * Go.IntKind.wrap Go.IntKind.i64 (n0 - (232 : Int)))))) * (257 : Int)), PUnit.unit) : Int × Int × Int × PUnit)⟩, ⟨.bool, (Bool.true : Bool)⟩]) := by kernel_rfl

def Ne_T0 : Tm := { tmps := [(10, (.hole (.int .i64))), (9, (.hole (.int .i64))), (8, (.hole (.list 29 (.pair (.int .u16) (.pair (.int .u16) (.pair (.int .u16) .unit)))))), (5, (.hole (.int .i64))), (2, (.ptr 0 0)), (1, (.hole (.list 29 (.pair (.int .u16) (.pair (.int .u16) (.pair (.int .u16) .unit))))))], objs := [.cells [(.hole (.int .u16)), (.hole (.int .u16)), (.hole (.int .u16))] 29 true] }
def tmNe : FuncId → Nat → Option Tm := fun g i => match Nat.beq g 10 with
  | true => match Nat.beq i 0 with | true => some Ne_T0 | false => none
  | false => none
noncomputable def SNe : SE := { E := Go.Proofs.YtdgadbhgcpfajaaDoor.E2, ctr := Go.Proofs.YtdgadbhgcpfajaaDoor.ctrs1, tm := tmNe, un := 300 }
theorem Ne_L0 (n : Nat) (nx : Nat → List Dy → Option (List Dy)) (m : Nat) (n0 : Int) (n1 : Int) (n2 : Int) (n3 : Int) (n4 : Int) (l5 : List (Int × Int × Int × PUnit)) (n6 : Int) (l7 : List (Int × Int × Int × PUnit)) :
    RL SNe [(.int .i64)] n 10 0 nx (m + 1) [⟨(.int .u16), n0⟩, ⟨(.int .u16), n1⟩, ⟨(.int .u16), n2⟩, ⟨(.int .i64), n3⟩, ⟨(.int .i64), n4⟩, ⟨(.list 29 (.pair (.int .u16) (.pair (.int .u16) (.pair (.int .u16) .unit)))), l5⟩, ⟨(.int .i64), n6⟩, ⟨(.list 29 (.pair (.int .u16) (.pair (.int .u16) (.pair (.int .u16) .unit)))), l7⟩] =
    (bif (Decidable.decide (n3 < n4)) then
      need (Decidable.decide ((0 : Int) ≤ n3)) <|
      need (Decidable.decide (n3 < (↑(List.length l5) : Int))) <|
      need (Decidable.decide (Int.toNat n3 < List.length l5)) <|
      bif (Decidable.decide (n6 < (0 : Int))) then
        RL SNe [(.int .i64)] n 10 0 nx m [⟨(.int .u16), (n0 : Int)⟩, ⟨(.int .u16), (n1 : Int)⟩, ⟨(.int .u16), (n2 : Int)⟩, ⟨(.int .i64), (Go.IntKind.wrap Go.IntKind.i64 (n3 + (1 : Int)) : Int)⟩, ⟨(.int .i64), (n4 : Int)⟩, ⟨(.list 29 (.pair (.int .u16) (.pair (.int .u16) (.pair (.int .u16) .unit)))), (l5 : List (Int × Int × Int × PUnit))⟩, ⟨(.int .i64), (n3 : Int)⟩, ⟨(.list 29 (.pair (.int .u16) (.pair (.int .u16) (.pair (.int .u16) .unit)))), (l7 : List (Int × Int × Int × PUnit))⟩]
      else
        need (Decidable.decide ((0 : Int) ≤ n6)) <|
        need (Decidable.decide (n6 < (↑(List.length l7) : Int))) <|
        need (Decidable.decide (Int.toNat n6 < List.length l7)) <|
        bif (Decidable.decide (Go.Proofs.YtdgadbhgcpfajaaDoor.farF (n0, n1, n2, PUnit.unit) (Prod.fst (List.getD l5 (Int.toNat n3) ((0 : Int), (0 : Int), (0 : Int), PUnit.unit)), Prod.fst (Prod.snd (List.getD l5 (Int.toNat n3) ((0 : Int), (0 : Int), (0 : Int), PUnit.unit))), Prod.fst (Prod.snd (Prod.snd (List.getD l5 (Int.toNat n3) ((0 : Int), (0 : Int), (0 : Int), PUnit.unit)))), PUnit.unit) < Go.Proofs.YtdgadbhgcpfajaaDoor.farF (n0, n1, n2, PUnit.unit) (Prod.fst (List.getD l7 (Int.toNat n6) ((0 : Int), (0 : Int), (0 : Int), PUnit.unit)), Prod.fst (Prod.snd (List.getD l7 (Int.toNat n6) ((0 : Int), (0 : Int), (0 : Int), PUnit.unit))), Prod.fst (Prod.snd (Prod.snd (List.getD l7 (Int.toNat n6) ((0 : Int), (0 : Int), (0 : Int), PUnit.unit)))), PUnit.unit))) then
          RL SNe [(.int .i64)] n 10 0 nx m [⟨(.int .u16), (n0 : Int)⟩, ⟨(.int .u16), (n1 : Int)⟩, ⟨(.int .u16), (n2 : Int)⟩, ⟨(.int .i64), (Go.IntKind.wrap Go.IntKind.i64 (n3 + (1 : Int)) : Int)⟩, ⟨(.int .i64), (n4 : Int)⟩, ⟨(.list 29 (.pair (.int .u16) (.pair (.int .u16) (.pair (.int .u16) .unit)))), (l5 : List (Int × Int × Int × PUnit))⟩, ⟨(.int .i64), (n3 : Int)⟩, ⟨(.list 29 (.pair (.int .u16) (.pair (.int .u16) (.pair (.int .u16) .unit)))), (l7 : List (Int × Int × Int × PUnit))⟩]
        else
          RL SNe [(.int .i64)] n 10 0 nx m [⟨(.int .u16), (n0 : Int)⟩, ⟨(.int .u16), (n1 : Int)⟩, ⟨(.int .u16), (n2 : Int)⟩, ⟨(.int .i64), (Go.IntKind.wrap Go.IntKind.i64 (n3 + (1 : Int)) : Int)⟩, ⟨(.int .i64), (n4 : Int)⟩, ⟨(.list 29 (.pair (.int .u16) (.pair (.int .u16) (.pair (.int .u16) .unit)))), (l5 : List (Int × Int × Int × PUnit))⟩, ⟨(.int .i64), (n6 : Int)⟩, ⟨(.list 29 (.pair (.int .u16) (.pair (.int .u16) (.pair (.int .u16) .unit)))), (l7 : List (Int × Int × Int × PUnit))⟩]
    else
      some [⟨(.int .i64), (n6 : Int)⟩]) := by kernel_rfl
theorem Ne_fn (n : Nat) (p0 : Int × Int × Int × PUnit) (l1 : List (Int × Int × Int × PUnit)) :
    fnY SNe loopY [(.hole (.pair (.int .u16) (.pair (.int .u16) (.pair (.int .u16) .unit)))), (.hole (.list 29 (.pair (.int .u16) (.pair (.int .u16) (.pair (.int .u16) .unit)))))] [(.int .i64)] n 10 [⟨(.pair (.int .u16) (.pair (.int .u16) (.pair (.int .u16) .unit))), p0⟩, ⟨(.list 29 (.pair (.int .u16) (.pair (.int .u16) (.pair (.int .u16) .unit)))), l1⟩] =
    (RL SNe [(.int .i64)] n 10 0 noNx n [⟨(.int .u16), (Prod.fst p0 : Int)⟩, ⟨(.int .u16), (Prod.fst (Prod.snd p0) : Int)⟩, ⟨(.int .u16), (Prod.fst (Prod.snd (Prod.snd p0)) : Int)⟩, ⟨(.int .i64), ((0 : Int) : Int)⟩, ⟨(.int .i64), ((↑(List.length l1) : Int) : Int)⟩, ⟨(.list 29 (.pair (.int .u16) (.pair (.int .u16) (.pair (.int .u16) .unit)))), (l1 : List (Int × Int × Int × PUnit))⟩, ⟨(.int .i64), ((-1 : Int) : Int)⟩, ⟨(.list 29 (.pair (.int .u16) (.pair (.int .u16) (.pair (.int .u16) .unit)))), (l1 : List (Int × Int × Int × PUnit))⟩]) := by kernel_rfl

def tmRe : FuncId → Nat → Option Tm := fun g i => match Nat.beq g 17 with
  | true => none
  | false => none
noncomputable def SRe : SE := { E := Go.Proofs.YtdgadbhgcpfajaaDoor.E2, ctr := Go.Proofs.YtdgadbhgcpfajaaDoor.ctrs1, tm := tmRe, un := 300 }
theorem Re_fn (n : Nat) (p0 : UInt8 × UInt8 × UInt8 × UInt8 × PUnit) (l1 : List (Int × Int × Int × PUnit)) (p2 : Int × Int × Int × PUnit) :
    fnY SRe loopY [(.hole (.pair .byte (.pair .byte (.pair .byte (.pair .byte .unit))))), (.hole (.list 29 (.pair (.int .u16) (.pair (.int .u16) (.pair (.int .u16) .unit))))), (.hole (.pair (.int .u16) (.pair (.int .u16) (.pair (.int .u16) .unit))))] [(.pair (.int .u16) (.pair (.int .u16) (.pair (.int .u16) .unit)))] n 17 [⟨(.pair .byte (.pair .byte (.pair .byte (.pair .byte .unit)))), p0⟩, ⟨(.list 29 (.pair (.int .u16) (.pair (.int .u16) (.pair (.int .u16) .unit)))), l1⟩, ⟨(.pair (.int .u16) (.pair (.int .u16) (.pair (.int .u16) .unit))), p2⟩] =
    (bif ((↑(UInt8.toNat (Prod.fst p0)) : Int) == (2 : Int)) then
      some [⟨(.pair (.int .u16) (.pair (.int .u16) (.pair (.int .u16) .unit))), ((Go.IntKind.wrap Go.IntKind.u16 (Go.IntKind.wrap Go.IntKind.u16 (↑(UInt8.toNat (Prod.fst (Prod.snd p0))) : Int) * (257 : Int)), Go.IntKind.wrap Go.IntKind.u16 (Go.IntKind.wrap Go.IntKind.u16 (↑(UInt8.toNat (Prod.fst (Prod.snd (Prod.snd p0)))) : Int) * (257 : Int)), Go.IntKind.wrap Go.IntKind.u16 (Go.IntKind.wrap Go.IntKind.u16 (↑(UInt8.toNat (Prod.fst (Prod.snd (Prod.snd (Prod.snd p0))))) : Int) * (257 : Int)), PUnit.unit) : Int × Int × Int × PUnit)⟩]
    else
      bif ((↑(UInt8.toNat (Prod.fst p0)) : Int) == (1 : Int) && Decidable.decide (Go.IntKind.wrap Go.IntKind.i64 (↑(UInt8.toNat (Prod.fst (Prod.snd p0))) : Int) < (↑(List.length l1) : Int))) then
        need (Decidable.decide ((↑(UInt8.toNat (Prod.fst (Prod.snd p0))) : Int) < (↑(List.length l1) : Int))) <|
        need (Decidable.decide (Int.toNat (↑(UInt8.toNat (Prod.fst (Prod.snd p0))) : Int) < List.length l1)) <|
        some [⟨(.pair (.int .u16) (.pair (.int .u16) (.pair (.int .u16) .unit))), ((Prod.fst (List.getD l1 (Int.toNat (↑(UInt8.toNat (Prod.fst (Prod.snd p0))) : Int)) ((0 : Int), (0 : Int), (0 : Int), PUnit.unit)), Prod.fst (Prod.snd (List.getD l1 (Int.toNat (↑(UInt8.toNat (Prod.fst (Prod.snd p0))) : Int)) ((0 : Int), (0 : Int), (0 : Int), PUnit.unit))), Prod.fst (Prod.snd (Prod.snd (List.getD l1 (Int.toNat (↑(UInt8.toNat (Prod.fst (Prod.snd p0))) : Int)) ((0 : Int), (0 : Int), (0 : Int), PUnit.unit)))), PUnit.unit) : Int × Int × Int × PUnit)⟩]
      else
        some [⟨(.pair (.int .u16) (.pair (.int .u16) (.pair (.int .u16) .unit))), ((Prod.fst p2, Prod.fst (Prod.snd p2), Prod.fst (Prod.snd (Prod.snd p2)), PUnit.unit) : Int × Int × Int × PUnit)⟩]) := by kernel_rfl

end Go.Proofs.YtdgadbhgcpfajaaDoor

/-
  Chapter 2: contracts of Default, Nearest, Resolve.
-/
namespace Go.Proofs.YtdgadbhgcpfajaaDoor
open Go Go.Am

abbrev z3 : D3 := (0, 0, 0, ⟨⟩)
/-- The palette at first. -/
def defF (i : Int) : D3 :=
  if i < 16 then firstF i
  else if i < 232 then
    of3 (stepF (IntKind.i64.wrap (Int.tdiv (IntKind.i64.wrap (Int.tdiv (IntKind.i64.wrap (i - 16)) 6)) 6))) (stepF (Int.tmod (IntKind.i64.wrap (Int.tdiv (IntKind.i64.wrap (i - 16)) 6)) 6)) (stepF (Int.tmod (IntKind.i64.wrap (i - 16)) 6))
  else of3 (IntKind.u8.wrap (IntKind.i64.wrap (8 + IntKind.i64.wrap (10 * IntKind.i64.wrap (i - 232))))) (IntKind.u8.wrap (IntKind.i64.wrap (8 + IntKind.i64.wrap (10 * IntKind.i64.wrap (i - 232))))) (IntKind.u8.wrap (IntKind.i64.wrap (8 + IntKind.i64.wrap (10 * IntKind.i64.wrap (i - 232)))))
theorem dyC {p q : D3} (h : p = q) : (⟨C3, p⟩ : Dy) = ⟨C3, q⟩ := by rw [h]
theorem de_ok (n : Nat) (i : Int) (h0 : 0 ≤ i) (h1 : i < 256) : fnY SDe loopY [.hole (.int .i64)] [C3, .bool] n 15 [⟨.int .i64, i⟩] = some [⟨C3, defF i⟩, ⟨.bool, true⟩] := by
  rw [De_fn]
  unfold defF
  refine bn (by rw [decide_eq_false (by omega), decide_eq_false (by omega)]; rfl) (bcd (fun h2 => nd (by omega) (nd (by omega) (ret2 (dyC ?_) rfl))) fun h2 => bcd (fun h3 => ret2 (dyC ?_) rfl) fun h3 => ret2 (dyC ?_) rfl)
  · rw [if_pos h2]; rfl
  · rw [if_neg h2, if_pos h3]; rfl
  · rw [if_neg h2, if_neg h3]; rfl

/-- The nearest one, from place i on. -/
def nearGo (p : D3) (l : List D3) : Nat → Nat → Int → Int
  | 0, _, cur => cur
  | k + 1, i, cur => nearGo p l k (i + 1) (if cur < 0 then i else if farF p (l.getD i z3) < farF p (l.getD cur.toNat z3) then i else cur)
def nearF (p : D3) (l : List D3) : Int := nearGo p l l.length 0 (-1)
set_option maxRecDepth 100000 in
theorem ne_loop (n : Nat) (nx : Nat → List Dy → Option (List Dy)) (p : D3) (l : List D3) (hl : l.length ≤ 1000000000) : ∀ (k i : Nat) (cur : Int), i + k = l.length → cur < l.length →
    RL SNe [.int .i64] n 10 0 nx (k + 1) [⟨.int .u16, p.1⟩, ⟨.int .u16, p.2.1⟩, ⟨.int .u16, p.2.2.1⟩, ⟨.int .i64, (i : Int)⟩, ⟨.int .i64, (l.length : Int)⟩, ⟨.list 29 C3, l⟩, ⟨.int .i64, cur⟩, ⟨.list 29 C3, l⟩] = some [⟨.int .i64, nearGo p l k i cur⟩] := by
  intro k
  induction k with
  | zero =>
    intro i cur hi hc
    refine (Ne_L0 n nx 0 _ _ _ _ _ l _ l).trans (bnd (by omega) rfl)
  | succ k ih =>
    intro i cur hi hc
    refine (Ne_L0 n nx (k + 1) _ _ _ _ _ l _ l).trans ?_
    have w : IntKind.i64.wrap ((i : Int) + 1) = ((i + 1 : Nat) : Int) := by rw [w64 (by omega)]; omega
    rw [w, Int.toNat_natCast]
    refine bpd (by omega) (nd (by omega) (nd (by omega) (nd (by omega) (bcd (fun h => ?_) fun h => nd (by omega) (nd (by omega) (nd (by omega) (bcd (fun h2 => ?_) fun h2 => ?_)))))))
    · refine (ih (i + 1) i (by omega) (by omega)).trans ?_
      simp only [nearGo]
      rw [if_pos h]
    · refine (ih (i + 1) i (by omega) (by omega)).trans ?_
      simp only [nearGo]
      rw [if_neg h, if_pos (show farF p (l.getD i z3) < farF p (l.getD cur.toNat z3) from h2)]
    · refine (ih (i + 1) cur (by omega) (by omega)).trans ?_
      simp only [nearGo]
      rw [if_neg h, if_neg (show ¬ farF p (l.getD i z3) < farF p (l.getD cur.toNat z3) from h2)]
set_option maxRecDepth 100000 in
theorem ne_ok (p : D3) (l : List D3) (hl : l.length ≤ 1000000000) : ∃ n, fnY SNe loopY [.hole C3, .hole (.list 29 C3)] [.int .i64] n 10 [⟨C3, p⟩, ⟨.list 29 C3, l⟩] = some [⟨.int .i64, nearF p l⟩] := by
  refine ⟨l.length + 1, ?_⟩
  refine (Ne_fn _ p l).trans (ne_loop _ _ p l hl l.length 0 (-1) (by omega) (by omega))

abbrev Sp4 : Ty := .pair .byte (.pair .byte (.pair .byte (.pair .byte .unit)))
/-- What a spec comes to. -/
def resF (s : UInt8 × UInt8 × UInt8 × UInt8 × PUnit) (l : List D3) (d : D3) : D3 :=
  if (s.1.toNat : Int) = 2 then of3 s.2.1.toNat s.2.2.1.toNat s.2.2.2.1.toNat
  else if (s.1.toNat : Int) = 1 ∧ (s.2.1.toNat : Int) < l.length then l.getD s.2.1.toNat z3 else d
theorem re_ok (n : Nat) (s : UInt8 × UInt8 × UInt8 × UInt8 × PUnit) (l : List D3) (d : D3) : fnY SRe loopY [.hole Sp4, .hole (.list 29 C3), .hole C3] [C3] n 17 [⟨Sp4, s⟩, ⟨.list 29 C3, l⟩, ⟨C3, d⟩] = some [⟨C3, resF s l d⟩] := by
  refine (Re_fn n s l d).trans ?_
  have h := s.2.1.toNat_lt
  rw [w64 (n := (s.2.1.toNat : Int)) (by omega)]
  unfold resF
  refine bc (fun h2 => ret1 (dyC ?_)) fun h2 => bc (fun h3 => ?_) fun h3 => ret1 (dyC ?_)
  · rw [if_pos (by simpa using h2)]; rfl
  · simp only [Bool.and_eq_true, decide_eq_true_eq, beq_iff_eq] at h3
    refine nd (by omega) (nd (by omega) (ret1 (dyC ?_)))
    rw [if_neg (by omega), if_pos h3]
    rfl
  · have h2' : ¬ (s.1.toNat : Int) = 2 := by simpa using h2
    have h3' : ¬ ((s.1.toNat : Int) = 1 ∧ (s.2.1.toNat : Int) < l.length) := fun e => by
      rw [beq_iff_eq.2 e.1, decide_eq_true e.2] at h3
      cases h3
    rw [if_neg h2', if_neg h3']
def ctrs2 : FuncId → List Ctr := addCtr (addCtr (addCtr ctrs1
  15 (ctr1 (.int .i64) [C3, .bool] (fun (i : Int) => [decide (0 ≤ i), decide (i < 256)]) fun (i : Int) => [⟨C3, defF i⟩, ⟨.bool, true⟩]))
  10 (ctr2 C3 (.list 29 C3) [.int .i64] (fun (_ : D3) (l : List D3) => [decide (l.length ≤ 1000000000)]) fun (p : D3) (l : List D3) => [⟨.int .i64, nearF p l⟩]))
  17 (ctr3 Sp4 (.list 29 C3) C3 [C3] (fun (_ : UInt8 × UInt8 × UInt8 × UInt8 × PUnit) (_ : List D3) (_ : D3) => []) fun (s : UInt8 × UInt8 × UInt8 × UInt8 × PUnit) (l : List D3) (d : D3) => [⟨C3, resF s l d⟩])
theorem ctrs2_ok : ∀ g ct, ct ∈ ctrs2 g → CtrOk E2 g ct :=
  addCtr_ok (addCtr_ok (addCtr_ok ctrs1_ok
    (ctr1_ok (S := SDe) (t := .int .i64) (S_ok ctrs1_ok) (fun _ => rfl) rfl fun (i : Int) h => by
      simp only [List.all_cons, id, decide_eq_true_eq, List.all_nil, Bool.and_true, Bool.and_eq_true] at h
      exact ⟨1, de_ok 1 i h.1 h.2⟩))
    (ctr2_ok (S := SNe) (t := C3) (u := .list 29 C3) (S_ok ctrs1_ok) (fun _ => rfl) rfl fun (p : D3) (l : List D3) h => by
      simp only [List.all_cons, id, decide_eq_true_eq, List.all_nil, Bool.and_true] at h
      exact ne_ok p l h))
    (ctr3_ok (S := SRe) (t := Sp4) (u := .list 29 C3) (w := C3) (S_ok ctrs1_ok) (fun _ => rfl) rfl fun (s : UInt8 × UInt8 × UInt8 × UInt8 × PUnit) (l : List D3) (d : D3) _ => ⟨1, re_ok 1 s l d⟩)
end Go.Proofs.YtdgadbhgcpfajaaDoor

/-
  Chapter 2: plain facts of the palette at first, and of the nearest colour.
-/
namespace Go.Proofs.YtdgadbhgcpfajaaDoor
open Go Go.Am

/-- A part that a colour of the palette may have. -/
def OkPart (c : Int) : Prop := 0 ≤ c ∧ c ≤ 65535 ∧ Int.tmod c 257 = 0
instance (c : Int) : Decidable (OkPart c) := by unfold OkPart; exact inferInstance
def OkC (p : D3) : Prop := OkPart p.1 ∧ OkPart p.2.1 ∧ OkPart p.2.2.1
instance (p : D3) : Decidable (OkC p) := by unfold OkC; exact inferInstance
theorem def_ok : ∀ i : Nat, i < 256 → OkC (defF (i : Int)) := by decide +kernel

def cubeP (x : Int) : Int := IntKind.u16.wrap (IntKind.u16.wrap (stepF x) * 257)
def greyP (k : Int) : Int := IntKind.u16.wrap (IntKind.u16.wrap (IntKind.u8.wrap (IntKind.i64.wrap (8 + IntKind.i64.wrap (10 * k)))) * 257)
theorem cube_rise : ∀ x : Nat, x < 6 → ∀ y : Nat, y < 6 → decide (cubeP (x : Int) < cubeP (y : Int)) = decide ((x : Int) < (y : Int)) := by decide +kernel
theorem grey_rise : ∀ x : Nat, x < 24 → ∀ y : Nat, y < 24 → decide (greyP (x : Int) < greyP (y : Int)) = decide ((x : Int) < (y : Int)) := by decide +kernel

theorem def_cube (a : Nat) (h1 : 16 ≤ a) (h2 : a < 232) : defF (a : Int) = (cubeP ((a - 16) / 36 : Nat), cubeP ((a - 16) / 6 % 6 : Nat), cubeP ((a - 16) % 6 : Nat), ⟨⟩) := by
  unfold defF
  rw [if_neg (by omega), if_pos (by omega)]
  have e1 : IntKind.i64.wrap ((a : Int) - 16) = ((a - 16 : Nat) : Int) := by rw [w64 (by omega)]; omega
  have e2 : Int.tdiv ((a - 16 : Nat) : Int) 6 = (((a - 16) / 6 : Nat) : Int) := rfl
  have e3 : IntKind.i64.wrap (((a - 16) / 6 : Nat) : Int) = (((a - 16) / 6 : Nat) : Int) := w64 (by omega)
  have e4 : Int.tdiv (((a - 16) / 6 : Nat) : Int) 6 = (((a - 16) / 6 / 6 : Nat) : Int) := rfl
  have e5 : IntKind.i64.wrap (((a - 16) / 6 / 6 : Nat) : Int) = (((a - 16) / 36 : Nat) : Int) := by rw [w64 (by omega)]; omega
  have e6 : Int.tmod (((a - 16) / 6 : Nat) : Int) 6 = (((a - 16) / 6 % 6 : Nat) : Int) := rfl
  have e7 : Int.tmod ((a - 16 : Nat) : Int) 6 = (((a - 16) % 6 : Nat) : Int) := rfl
  rw [e1, e2, e3, e4, e5, e6, e7]
  rfl
theorem def_grey (a : Nat) (h1 : 232 ≤ a) (h2 : a < 256) : defF (a : Int) = (greyP ((a - 232 : Nat) : Int), greyP ((a - 232 : Nat) : Int), greyP ((a - 232 : Nat) : Int), ⟨⟩) := by
  unfold defF
  rw [if_neg (by omega), if_neg (by omega)]
  have e1 : IntKind.i64.wrap ((a : Int) - 232) = ((a - 232 : Nat) : Int) := by rw [w64 (by omega)]; omega
  rw [e1]
  rfl

/-- How far, without what the machine makes of great numbers. -/
theorem far_eq (p q : D3) (hp : OkC p) (hq : OkC q) : farF p q = (p.1 / 257 - q.1 / 257) * (p.1 / 257 - q.1 / 257) + (p.2.1 / 257 - q.2.1 / 257) * (p.2.1 / 257 - q.2.1 / 257) + (p.2.2.1 / 257 - q.2.2.1 / 257) * (p.2.2.1 / 257 - q.2.2.1 / 257) := by
  have d : ∀ a b : Int, OkPart a → OkPart b → dst a b = a / 257 - b / 257 ∧ -255 ≤ a / 257 - b / 257 ∧ a / 257 - b / 257 ≤ 255 := by
    intro a b ⟨a0, a1, _⟩ ⟨b0, b1, _⟩
    unfold dst
    rw [Int.tdiv_eq_ediv_of_nonneg a0, Int.tdiv_eq_ediv_of_nonneg b0, wu16 (by omega), wu16 (by omega), w64 (n := a / 257) (by omega), w64 (n := b / 257) (by omega), w64 (by omega)]
    omega
  have sq : ∀ x : Int, -255 ≤ x → x ≤ 255 → 0 ≤ x * x ∧ x * x ≤ 65025 := by
    intro x h1 h2
    have h3 : x * x = (x.natAbs : Int) * (x.natAbs : Int) := (Int.natAbs_mul_self' x).symm
    have h4 : x.natAbs ≤ 255 := by omega
    have h5 := Nat.mul_le_mul h4 h4
    rw [h3]
    constructor
    · exact Int.mul_nonneg (by omega) (by omega)
    · have : ((x.natAbs * x.natAbs : Nat) : Int) ≤ 65025 := by omega
      rwa [Int.natCast_mul] at this
  unfold farF
  obtain ⟨d1, l1, u1⟩ := d _ _ hp.1 hq.1
  obtain ⟨d2, l2, u2⟩ := d _ _ hp.2.1 hq.2.1
  obtain ⟨d3, l3, u3⟩ := d _ _ hp.2.2 hq.2.2
  have s1 := sq _ l1 u1
  have s2 := sq _ l2 u2
  have s3 := sq _ l3 u3
  rw [d1, d2, d3]
  generalize (p.1 / 257 - q.1 / 257) * (p.1 / 257 - q.1 / 257) = X at s1 ⊢
  generalize (p.2.1 / 257 - q.2.1 / 257) * (p.2.1 / 257 - q.2.1 / 257) = Y at s2 ⊢
  generalize (p.2.2.1 / 257 - q.2.2.1 / 257) * (p.2.2.1 / 257 - q.2.2.1 / 257) = Z at s3 ⊢
  rw [w64 (n := X) (by omega), w64 (n := 0 + X) (by omega), w64 (n := Y) (by omega), w64 (n := 0 + X + Y) (by omega), w64 (n := Z) (by omega), w64 (by omega)]
  omega
theorem sq_zero {x : Int} (h : x * x = 0) : x = 0 := by
  rcases Int.mul_eq_zero.1 h with h | h <;> exact h
theorem sq_pos (x : Int) : 0 ≤ x * x := by
  rcases Int.le_total 0 x with h | h
  · exact Int.mul_nonneg h h
  · exact Int.mul_nonneg_of_nonpos_of_nonpos h h
theorem far_self (p : D3) (hp : OkC p) : farF p p = 0 := by
  rw [far_eq p p hp hp]
  simp
theorem far_zero (p q : D3) (hp : OkC p) (hq : OkC q) (h : farF p q ≤ 0) : q = p := by
  rw [far_eq p q hp hq] at h
  have a := sq_pos (p.1 / 257 - q.1 / 257)
  have b := sq_pos (p.2.1 / 257 - q.2.1 / 257)
  have c := sq_pos (p.2.2.1 / 257 - q.2.2.1 / 257)
  have x := sq_zero (x := p.1 / 257 - q.1 / 257) (by omega)
  have y := sq_zero (x := p.2.1 / 257 - q.2.1 / 257) (by omega)
  have z := sq_zero (x := p.2.2.1 / 257 - q.2.2.1 / 257) (by omega)
  have key : ∀ u v : Int, OkPart u → OkPart v → u / 257 - v / 257 = 0 → v = u := by
    intro u v ⟨u0, u1, u2⟩ ⟨v0, v1, v2⟩ h
    rw [Int.tmod_eq_emod_of_nonneg u0] at u2
    rw [Int.tmod_eq_emod_of_nonneg v0] at v2
    omega
  exact Prod.ext (key _ _ hp.1 hq.1 x) (Prod.ext (key _ _ hp.2.1 hq.2.1 y) (Prod.ext (key _ _ hp.2.2 hq.2.2 z) rfl))

/-- The nearest one is one of them, and no other is nearer. -/
theorem nearGo_spec (p : D3) (l : List D3) : ∀ (k i : Nat) (cur : Int), i + k = l.length → (cur < 0 ∧ i = 0 ∨ 0 ≤ cur ∧ cur < i ∧ ∀ j, j < i → farF p (l.getD cur.toNat z3) ≤ farF p (l.getD j z3)) →
    (l = [] ∨ 0 ≤ nearGo p l k i cur ∧ nearGo p l k i cur < l.length ∧ ∀ j, j < l.length → farF p (l.getD (nearGo p l k i cur).toNat z3) ≤ farF p (l.getD j z3))
  | 0, i, cur, hi, h => by
    simp only [nearGo]
    rcases h with ⟨_, h0⟩ | ⟨h0, h1, h2⟩
    · exact .inl (List.eq_nil_of_length_eq_zero (by omega))
    · exact .inr ⟨h0, by omega, fun j hj => h2 j (by omega)⟩
  | k + 1, i, cur, hi, h => by
    simp only [nearGo]
    refine nearGo_spec p l k (i + 1) _ (by omega) (.inr ?_)
    rcases h with ⟨h0, h1⟩ | ⟨h0, h1, h2⟩
    · rw [if_pos h0]
      refine ⟨by omega, by omega, fun j hj => ?_⟩
      have : j = i := by omega
      rw [this, Int.toNat_natCast]
      exact Int.le_refl _
    · rw [if_neg (by omega)]
      split
      · rename_i h3
        refine ⟨by omega, by omega, fun j hj => ?_⟩
        rw [Int.toNat_natCast]
        by_cases e : j = i
        · rw [e]; exact Int.le_refl _
        · have := h2 j (by omega); omega
      · rename_i h3
        refine ⟨by omega, by omega, fun j hj => ?_⟩
        by_cases e : j = i
        · rw [e]; omega
        · exact h2 j (by omega)
end Go.Proofs.YtdgadbhgcpfajaaDoor

/-
  Printed by a tool of this session: what functions come to.
-/
namespace Go.Proofs.YtdgadbhgcpfajaaDoor
open Go Go.Am
set_option linter.unusedVariables false
def L5_T0 : Tm := { tmps := [(8, (.hole (.int .i64))), (7, .h 1), (5, (.ptr 0 0)), (0, (.hole (.int .u8))), (1, (.hole (.int .u8)))], objs := [.cells [(.hole (.int .u8)), (.hole (.int .u8)), (.hole (.int .u8))] 52 true, .lst 29 (.pair (.int .u16) (.pair (.int .u16) (.pair (.int .u16) .unit))) true], prep := [(7, 29)] }
def tmL5 : FuncId → Nat → Option Tm := fun g i => match Nat.beq g 5 with
  | true => match Nat.beq i 0 with | true => some L5_T0 | false => none
  | false => none
noncomputable def SL5 : SE := { E := Go.Proofs.YtdgadbhgcpfajaaDoor.E2, ctr := Go.Proofs.YtdgadbhgcpfajaaDoor.ctrs2, tm := tmL5, un := 300 }
theorem L5_L0 (n : Nat) (nx : Nat → List Dy → Option (List Dy)) (m : Nat) (l0 : List (Int × Int × Int × PUnit)) (n1 : Int) (n2 : Int) (n3 : Int) (n4 : Int) (n5 : Int) (n6 : Int) :
    RL SL5 [.bool] n 5 0 nx (m + 1) [⟨(.list 29 (.pair (.int .u16) (.pair (.int .u16) (.pair (.int .u16) .unit)))), l0⟩, ⟨(.int .u8), n1⟩, ⟨(.int .u8), n2⟩, ⟨(.int .u8), n3⟩, ⟨(.int .i64), n4⟩, ⟨(.int .u8), n5⟩, ⟨(.int .u8), n6⟩] =
    (bif (Decidable.decide (n4 < (256 : Int))) then
      need (Decidable.decide ((0 : Int) ≤ n4)) <|
      need (Decidable.decide (n4 < (256 : Int))) <|
      bif (Int.tmod (Prod.fst (Go.Proofs.YtdgadbhgcpfajaaDoor.defF n4)) (257 : Int) != (0 : Int)) then
        some [⟨.bool, (Bool.false : Bool)⟩]
      else
        bif (Int.tmod (Prod.fst (Prod.snd (Go.Proofs.YtdgadbhgcpfajaaDoor.defF n4))) (257 : Int) != (0 : Int)) then
          some [⟨.bool, (Bool.false : Bool)⟩]
        else
          bif (Int.tmod (Prod.fst (Prod.snd (Prod.snd (Go.Proofs.YtdgadbhgcpfajaaDoor.defF n4)))) (257 : Int) != (0 : Int)) then
            some [⟨.bool, (Bool.false : Bool)⟩]
          else
            need (Decidable.decide ((List.length l0 + List.length [(Prod.fst (Go.Proofs.YtdgadbhgcpfajaaDoor.defF n4), Prod.fst (Prod.snd (Go.Proofs.YtdgadbhgcpfajaaDoor.defF n4)), Prod.fst (Prod.snd (Prod.snd (Go.Proofs.YtdgadbhgcpfajaaDoor.defF n4))), (PUnit.unit : PUnit.{1}))]) * (6 : Nat) ≤ (140737488355328 : Nat))) <|
            need (Decidable.decide (List.length l0 + List.length [(Prod.fst (Go.Proofs.YtdgadbhgcpfajaaDoor.defF n4), Prod.fst (Prod.snd (Go.Proofs.YtdgadbhgcpfajaaDoor.defF n4)), Prod.fst (Prod.snd (Prod.snd (Go.Proofs.YtdgadbhgcpfajaaDoor.defF n4))), (PUnit.unit : PUnit.{1}))] ≤ (140737488355328 : Nat))) <|
            RL SL5 [.bool] n 5 0 nx m [⟨(.list 29 (.pair (.int .u16) (.pair (.int .u16) (.pair (.int .u16) .unit)))), (l0 ++ [(Prod.fst (Go.Proofs.YtdgadbhgcpfajaaDoor.defF n4), Prod.fst (Prod.snd (Go.Proofs.YtdgadbhgcpfajaaDoor.defF n4)), Prod.fst (Prod.snd (Prod.snd (Go.Proofs.YtdgadbhgcpfajaaDoor.defF n4))), (PUnit.unit : PUnit.{1}))] : List (Int × Int × Int × PUnit))⟩, ⟨(.int .u8), (n1 : Int)⟩, ⟨(.int .u8), (n2 : Int)⟩, ⟨(.int .u8), (n3 : Int)⟩, ⟨(.int .i64), (Go.IntKind.wrap Go.IntKind.i64 (n4 + (1 : Int)) : Int)⟩, ⟨(.int .u8), (n5 : Int)⟩, ⟨(.int .u8), (n6 : Int)⟩]
    else
      need (Decidable.decide ((0 : Int) ≤ n5)) <|
      need (Decidable.decide (n5 < (↑(List.length l0) : Int))) <|
      need (Decidable.decide (Int.toNat n5 < List.length l0)) <|
      need (Decidable.decide ((0 : Int) ≤ n6)) <|
      need (Decidable.decide (n6 < (↑(List.length l0) : Int))) <|
      need (Decidable.decide (Int.toNat n6 < List.length l0)) <|
      bif (Decidable.decide ((16 : Int) ≤ n5) && Decidable.decide (n5 < (232 : Int)) && Decidable.decide ((16 : Int) ≤ n6) && Decidable.decide (n6 < (232 : Int))) then
        need (!Decidable.decide (Prod.fst (List.getD l0 (Int.toNat n5) ((0 : Int), (0 : Int), (0 : Int), (PUnit.unit : PUnit.{1}))) < Prod.fst (List.getD l0 (Int.toNat n6) ((0 : Int), (0 : Int), (0 : Int), (PUnit.unit : PUnit.{1})))) == Decidable.decide (Go.IntKind.wrap Go.IntKind.i64 (Int.tdiv (Go.IntKind.wrap Go.IntKind.i64 (Go.IntKind.wrap Go.IntKind.i64 n5 - (16 : Int))) (36 : Int)) < Go.IntKind.wrap Go.IntKind.i64 (Int.tdiv (Go.IntKind.wrap Go.IntKind.i64 (Go.IntKind.wrap Go.IntKind.i64 n6 - (16 : Int))) (36 : Int))) || Bool.true) <|
        need (!Decidable.decide (Prod.fst (List.getD l0 (Int.toNat n5) ((0 : Int), (0 : Int), (0 : Int), (PUnit.unit : PUnit.{1}))) < Prod.fst (List.getD l0 (Int.toNat n6) ((0 : Int), (0 : Int), (0 : Int), (PUnit.unit : PUnit.{1})))) == Decidable.decide (Go.IntKind.wrap Go.IntKind.i64 (Int.tdiv (Go.IntKind.wrap Go.IntKind.i64 (Go.IntKind.wrap Go.IntKind.i64 n5 - (16 : Int))) (36 : Int)) < Go.IntKind.wrap Go.IntKind.i64 (Int.tdiv (Go.IntKind.wrap Go.IntKind.i64 (Go.IntKind.wrap Go.IntKind.i64 n6 - (16 : Int))) (36 : Int))) || Bool.true) <|
        need (!Decidable.decide (Prod.fst (List.getD l0 (Int.toNat n5) ((0 : Int), (0 : Int), (0 : Int), (PUnit.unit : PUnit.{1}))) < Prod.fst (List.getD l0 (Int.toNat n6) ((0 : Int), (0 : Int), (0 : Int), (PUnit.unit : PUnit.{1})))) == Decidable.decide (Go.IntKind.wrap Go.IntKind.i64 (Int.tdiv (Go.IntKind.wrap Go.IntKind.i64 (Go.IntKind.wrap Go.IntKind.i64 n5 - (16 : Int))) (36 : Int)) < Go.IntKind.wrap Go.IntKind.i64 (Int.tdiv (Go.IntKind.wrap Go.IntKind.i64 (Go.IntKind.wrap Go.IntKind.i64 n6 - (16 : Int))) (36 : Int))) || Bool.true) <|
        need (!Decidable.decide (Prod.fst (List.getD l0 (Int.toNat n5) ((0 : Int), (0 : Int), (0 : Int), (PUnit.unit : PUnit.{1}))) < Prod.fst (List.getD l0 (Int.toNat n6) ((0 : Int), (0 : Int), (0 : Int), (PUnit.unit : PUnit.{1})))) == Decidable.decide (Go.IntKind.wrap Go.IntKind.i64 (Int.tdiv (Go.IntKind.wrap Go.IntKind.i64 (Go.IntKind.wrap Go.IntKind.i64 n5 - (16 : Int))) (36 : Int)) < Go.IntKind.wrap Go.IntKind.i64 (Int.tdiv (Go.IntKind.wrap Go.IntKind.i64 (Go.IntKind.wrap Go.IntKind.i64 n6 - (16 : Int))) (36 : Int))) || Bool.true) <|
        need (!Decidable.decide (Prod.fst (List.getD l0 (Int.toNat n5) ((0 : Int), (0 : Int), (0 : Int), (PUnit.unit : PUnit.{1}))) < Prod.fst (List.getD l0 (Int.toNat n6) ((0 : Int), (0 : Int), (0 : Int), (PUnit.unit : PUnit.{1})))) == Decidable.decide (Go.IntKind.wrap Go.IntKind.i64 (Int.tdiv (Go.IntKind.wrap Go.IntKind.i64 (Go.IntKind.wrap Go.IntKind.i64 n5 - (16 : Int))) (36 : Int)) < Go.IntKind.wrap Go.IntKind.i64 (Int.tdiv (Go.IntKind.wrap Go.IntKind.i64 (Go.IntKind.wrap Go.IntKind.i64 n6 - (16 : Int))) (36 : Int))) || Bool.true) <|
        need (!Decidable.decide (Prod.fst (List.getD l0 (Int.toNat n5) ((0 : Int), (0 : Int), (0 : Int), (PUnit.unit : PUnit.{1}))) < Prod.fst (List.getD l0 (Int.toNat n6) ((0 : Int), (0 : Int), (0 : Int), (PUnit.unit : PUnit.{1})))) == Decidable.decide (Go.IntKind.wrap Go.IntKind.i64 (Int.tdiv (Go.IntKind.wrap Go.IntKind.i64 (Go.IntKind.wrap Go.IntKind.i64 n5 - (16 : Int))) (36 : Int)) < Go.IntKind.wrap Go.IntKind.i64 (Int.tdiv (Go.IntKind.wrap Go.IntKind.i64 (Go.IntKind.wrap Go.IntKind.i64 n6 - (16 : Int))) (36 : Int))) || Bool.true) <|
        need (!Decidable.decide (Prod.fst (List.getD l0 (Int.toNat n5) ((0 : Int), (0 : Int), (0 : Int), (PUnit.unit : PUnit.{1}))) < Prod.fst (List.getD l0 (Int.toNat n6) ((0 : Int), (0 : Int), (0 : Int), (PUnit.unit : PUnit.{1})))) == Decidable.decide (Go.IntKind.wrap Go.IntKind.i64 (Int.tdiv (Go.IntKind.wrap Go.IntKind.i64 (Go.IntKind.wrap Go.IntKind.i64 n5 - (16 : Int))) (36 : Int)) < Go.IntKind.wrap Go.IntKind.i64 (Int.tdiv (Go.IntKind.wrap Go.IntKind.i64 (Go.IntKind.wrap Go.IntKind.i64 n6 - (16 : Int))) (36 : Int))) || Bool.true) <|
        need (!Decidable.decide (Prod.fst (List.getD l0 (Int.toNat n5) ((0 : Int), (0 : Int), (0 : Int), (PUnit.unit : PUnit.{1}))) < Prod.fst (List.getD l0 (Int.toNat n6) ((0 : Int), (0 : Int), (0 : Int), (PUnit.unit : PUnit.{1})))) == Decidable.decide (Go.IntKind.wrap Go.IntKind.i64 (Int.tdiv (Go.IntKind.wrap Go.IntKind.i64 (Go.IntKind.wrap Go.IntKind.i64 n5 - (16 : Int))) (36 : Int)) < Go.IntKind.wrap Go.IntKind.i64 (Int.tdiv (Go.IntKind.wrap Go.IntKind.i64 (Go.IntKind.wrap Go.IntKind.i64 n6 - (16 : Int))) (36 : Int))) || Bool.true) <|
        need (!Decidable.decide (Prod.fst (List.getD l0 (Int.toNat n5) ((0 : Int), (0 : Int), (0 : Int), (PUnit.unit : PUnit.{1}))) < Prod.fst (List.getD l0 (Int.toNat n6) ((0 : Int), (0 : Int), (0 : Int), (PUnit.unit : PUnit.{1})))) == Decidable.decide (Go.IntKind.wrap Go.IntKind.i64 (Int.tdiv (Go.IntKind.wrap Go.IntKind.i64 (Go.IntKind.wrap Go.IntKind.i64 n5 - (16 : Int))) (36 : Int)) < Go.IntKind.wrap Go.IntKind.i64 (Int.tdiv (Go.IntKind.wrap Go.IntKind.i64 (Go.IntKind.wrap Go.IntKind.i64 n6 - (16 : Int))) (36 : Int))) || !Decidable.decide (Prod.fst (Prod.snd (List.getD l0 (Int.toNat n5) ((0 : Int), (0 : Int), (0 : Int), (PUnit.unit : PUnit.{1})))) < Prod.fst (Prod.snd (List.getD l0 (Int.toNat n6) ((0 : Int), (0 : Int), (0 : Int), (PUnit.unit : PUnit.{1}))))) == Decidable.decide (Int.tmod (Go.IntKind.wrap Go.IntKind.i64 (Int.tdiv (Go.IntKind.wrap Go.IntKind.i64 (Go.IntKind.wrap Go.IntKind.i64 n5 - (16 : Int))) (6 : Int))) (6 : Int) < Int.tmod (Go.IntKind.wrap Go.IntKind.i64 (Int.tdiv (Go.IntKind.wrap Go.IntKind.i64 (Go.IntKind.wrap Go.IntKind.i64 n6 - (16 : Int))) (6 : Int))) (6 : Int)) || Bool.true) <|
        need (!Decidable.decide (Prod.fst (List.getD l0 (Int.toNat n5) ((0 : Int), (0 : Int), (0 : Int), (PUnit.unit : PUnit.{1}))) < Prod.fst (List.getD l0 (Int.toNat n6) ((0 : Int), (0 : Int), (0 : Int), (PUnit.unit : PUnit.{1})))) == Decidable.decide (Go.IntKind.wrap Go.IntKind.i64 (Int.tdiv (Go.IntKind.wrap Go.IntKind.i64 (Go.IntKind.wrap Go.IntKind.i64 n5 - (16 : Int))) (36 : Int)) < Go.IntKind.wrap Go.IntKind.i64 (Int.tdiv (Go.IntKind.wrap Go.IntKind.i64 (Go.IntKind.wrap Go.IntKind.i64 n6 - (16 : Int))) (36 : Int))) || !Decidable.decide (Prod.fst (Prod.snd (List.getD l0 (Int.toNat n5) ((0 : Int), (0 : Int), (0 : Int), (PUnit.unit : PUnit.{1})))) < Prod.fst (Prod.snd (List.getD l0 (Int.toNat n6) ((0 : Int), (0 : Int), (0 : Int), (PUnit.unit : PUnit.{1}))))) == Decidable.decide (Int.tmod (Go.IntKind.wrap Go.IntKind.i64 (Int.tdiv (Go.IntKind.wrap Go.IntKind.i64 (Go.IntKind.wrap Go.IntKind.i64 n5 - (16 : Int))) (6 : Int))) (6 : Int) < Int.tmod (Go.IntKind.wrap Go.IntKind.i64 (Int.tdiv (Go.IntKind.wrap Go.IntKind.i64 (Go.IntKind.wrap Go.IntKind.i64 n6 - (16 : Int))) (6 : Int))) (6 : Int)) || Bool.true) <|
        need (!Decidable.decide (Prod.fst (List.getD l0 (Int.toNat n5) ((0 : Int), (0 : Int), (0 : Int), (PUnit.unit : PUnit.{1}))) < Prod.fst (List.getD l0 (Int.toNat n6) ((0 : Int), (0 : Int), (0 : Int), (PUnit.unit : PUnit.{1})))) == Decidable.decide (Go.IntKind.wrap Go.IntKind.i64 (Int.tdiv (Go.IntKind.wrap Go.IntKind.i64 (Go.IntKind.wrap Go.IntKind.i64 n5 - (16 : Int))) (36 : Int)) < Go.IntKind.wrap Go.IntKind.i64 (Int.tdiv (Go.IntKind.wrap Go.IntKind.i64 (Go.IntKind.wrap Go.IntKind.i64 n6 - (16 : Int))) (36 : Int))) || !Decidable.decide (Prod.fst (Prod.snd (List.getD l0 (Int.toNat n5) ((0 : Int), (0 : Int), (0 : Int), (PUnit.unit : PUnit.{1})))) < Prod.fst (Prod.snd (List.getD l0 (Int.toNat n6) ((0 : Int), (0 : Int), (0 : Int), (PUnit.unit : PUnit.{1}))))) == Decidable.decide (Int.tmod (Go.IntKind.wrap Go.IntKind.i64 (Int.tdiv (Go.IntKind.wrap Go.IntKind.i64 (Go.IntKind.wrap Go.IntKind.i64 n5 - (16 : Int))) (6 : Int))) (6 : Int) < Int.tmod (Go.IntKind.wrap Go.IntKind.i64 (Int.tdiv (Go.IntKind.wrap Go.IntKind.i64 (Go.IntKind.wrap Go.IntKind.i64 n6 - (16 : Int))) (6 : Int))) (6 : Int)) || Bool.true) <|
        need (!Decidable.decide (Prod.fst (List.getD l0 (Int.toNat n5) ((0 : Int), (0 : Int), (0 : Int), (PUnit.unit : PUnit.{1}))) < Prod.fst (List.getD l0 (Int.toNat n6) ((0 : Int), (0 : Int), (0 : Int), (PUnit.unit : PUnit.{1})))) == Decidable.decide (Go.IntKind.wrap Go.IntKind.i64 (Int.tdiv (Go.IntKind.wrap Go.IntKind.i64 (Go.IntKind.wrap Go.IntKind.i64 n5 - (16 : Int))) (36 : Int)) < Go.IntKind.wrap Go.IntKind.i64 (Int.tdiv (Go.IntKind.wrap Go.IntKind.i64 (Go.IntKind.wrap Go.IntKind.i64 n6 - (16 : Int))) (36 : Int))) || !Decidable.decide (Prod.fst (Prod.snd (List.getD l0 (Int.toNat n5) ((0 : Int), (0 : Int), (0 : Int), (PUnit.unit : PUnit.{1})))) < Prod.fst (Prod.snd (List.getD l0 (Int.toNat n6) ((0 : Int), (0 : Int), (0 : Int), (PUnit.unit : PUnit.{1}))))) == Decidable.decide (Int.tmod (Go.IntKind.wrap Go.IntKind.i64 (Int.tdiv (Go.IntKind.wrap Go.IntKind.i64 (Go.IntKind.wrap Go.IntKind.i64 n5 - (16 : Int))) (6 : Int))) (6 : Int) < Int.tmod (Go.IntKind.wrap Go.IntKind.i64 (Int.tdiv (Go.IntKind.wrap Go.IntKind.i64 (Go.IntKind.wrap Go.IntKind.i64 n6 - (16 : Int))) (6 : Int))) (6 : Int)) || Bool.true) <|
        need (!Decidable.decide (Prod.fst (List.getD l0 (Int.toNat n5) ((0 : Int), (0 : Int), (0 : Int), (PUnit.unit : PUnit.{1}))) < Prod.fst (List.getD l0 (Int.toNat n6) ((0 : Int), (0 : Int), (0 : Int), (PUnit.unit : PUnit.{1})))) == Decidable.decide (Go.IntKind.wrap Go.IntKind.i64 (Int.tdiv (Go.IntKind.wrap Go.IntKind.i64 (Go.IntKind.wrap Go.IntKind.i64 n5 - (16 : Int))) (36 : Int)) < Go.IntKind.wrap Go.IntKind.i64 (Int.tdiv (Go.IntKind.wrap Go.IntKind.i64 (Go.IntKind.wrap Go.IntKind.i64 n6 - (16 : Int))) (36 : Int))) || !Decidable.decide (Prod.fst (Prod.snd (List.getD l0 (Int.toNat n5) ((0 : Int), (0 : Int), (0 : Int), (PUnit.unit : PUnit.{1})))) < Prod.fst (Prod.snd (List.getD l0 (Int.toNat n6) ((0 : Int), (0 : Int), (0 : Int), (PUnit.unit : PUnit.{1}))))) == Decidable.decide (Int.tmod (Go.IntKind.wrap Go.IntKind.i64 (Int.tdiv (Go.IntKind.wrap Go.IntKind.i64 (Go.IntKind.wrap Go.IntKind.i64 n5 - (16 : Int))) (6 : Int))) (6 : Int) < Int.tmod (Go.IntKind.wrap Go.IntKind.i64 (Int.tdiv (Go.IntKind.wrap Go.IntKind.i64 (Go.IntKind.wrap Go.IntKind.i64 n6 - (16 : Int))) (6 : Int))) (6 : Int)) || Bool.true) <|
        need (!Decidable.decide (Prod.fst (List.getD l0 (Int.toNat n5) ((0 : Int), (0 : Int), (0 : Int), (PUnit.unit : PUnit.{1}))) < Prod.fst (List.getD l0 (Int.toNat n6) ((0 : Int), (0 : Int), (0 : Int), (PUnit.unit : PUnit.{1})))) == Decidable.decide (Go.IntKind.wrap Go.IntKind.i64 (Int.tdiv (Go.IntKind.wrap Go.IntKind.i64 (Go.IntKind.wrap Go.IntKind.i64 n5 - (16 : Int))) (36 : Int)) < Go.IntKind.wrap Go.IntKind.i64 (Int.tdiv (Go.IntKind.wrap Go.IntKind.i64 (Go.IntKind.wrap Go.IntKind.i64 n6 - (16 : Int))) (36 : Int))) || !Decidable.decide (Prod.fst (Prod.snd (List.getD l0 (Int.toNat n5) ((0 : Int), (0 : Int), (0 : Int), (PUnit.unit : PUnit.{1})))) < Prod.fst (Prod.snd (List.getD l0 (Int.toNat n6) ((0 : Int), (0 : Int), (0 : Int), (PUnit.unit : PUnit.{1}))))) == Decidable.decide (Int.tmod (Go.IntKind.wrap Go.IntKind.i64 (Int.tdiv (Go.IntKind.wrap Go.IntKind.i64 (Go.IntKind.wrap Go.IntKind.i64 n5 - (16 : Int))) (6 : Int))) (6 : Int) < Int.tmod (Go.IntKind.wrap Go.IntKind.i64 (Int.tdiv (Go.IntKind.wrap Go.IntKind.i64 (Go.IntKind.wrap Go.IntKind.i64 n6 - (16 : Int))) (6 : Int))) (6 : Int)) || Bool.true) <|
        bif (!Decidable.decide (Prod.fst (List.getD l0 (Int.toNat n5) ((0 : Int), (0 : Int), (0 : Int), (PUnit.unit : PUnit.{1}))) < Prod.fst (List.getD l0 (Int.toNat n6) ((0 : Int), (0 : Int), (0 : Int), (PUnit.unit : PUnit.{1})))) == Decidable.decide (Go.IntKind.wrap Go.IntKind.i64 (Int.tdiv (Go.IntKind.wrap Go.IntKind.i64 (Go.IntKind.wrap Go.IntKind.i64 n5 - (16 : Int))) (36 : Int)) < Go.IntKind.wrap Go.IntKind.i64 (Int.tdiv (Go.IntKind.wrap Go.IntKind.i64 (Go.IntKind.wrap Go.IntKind.i64 n6 - (16 : Int))) (36 : Int))) || !Decidable.decide (Prod.fst (Prod.snd (List.getD l0 (Int.toNat n5) ((0 : Int), (0 : Int), (0 : Int), (PUnit.unit : PUnit.{1})))) < Prod.fst (Prod.snd (List.getD l0 (Int.toNat n6) ((0 : Int), (0 : Int), (0 : Int), (PUnit.unit : PUnit.{1}))))) == Decidable.decide (Int.tmod (Go.IntKind.wrap Go.IntKind.i64 (Int.tdiv (Go.IntKind.wrap Go.IntKind.i64 (Go.IntKind.wrap Go.IntKind.i64 n5 - (16 : Int))) (6 : Int))) (6 : Int) < Int.tmod (Go.IntKind.wrap Go.IntKind.i64 (Int.tdiv (Go.IntKind.wrap Go.IntKind.i64 (Go.IntKind.wrap Go.IntKind.i64 n6 - (16 : Int))) (6 : Int))) (6 : Int)) || !Decidable.decide (Prod.fst (Prod.snd (Prod.snd (List.getD l0 (Int.toNat n5) ((0 : Int), (0 : Int), (0 : Int), (PUnit.unit : PUnit.{1}))))) < Prod.fst (Prod.snd (Prod.snd (List.getD l0 (Int.toNat n6) ((0 : Int), (0 : Int), (0 : Int), (PUnit.unit : PUnit.{1})))))) == Decidable.decide (Int.tmod (Go.IntKind.wrap Go.IntKind.i64 (Go.IntKind.wrap Go.IntKind.i64 n5 - (16 : Int))) (6 : Int) < Int.tmod (Go.IntKind.wrap Go.IntKind.i64 (Go.IntKind.wrap Go.IntKind.i64 n6 - (16 : Int))) (6 : Int))) then
          some [⟨.bool, (Bool.false : Bool)⟩]
        else
          need (!(Decidable.decide ((232 : Int) ≤ n5) && Decidable.decide ((232 : Int) ≤ n6)) || Bool.true) <|
          need (!(Decidable.decide ((232 : Int) ≤ n5) && Decidable.decide ((232 : Int) ≤ n6)) || Bool.true) <|
          need (!(Decidable.decide ((232 : Int) ≤ n5) && Decidable.decide ((232 : Int) ≤ n6)) || Bool.true) <|
          need (!(Decidable.decide ((232 : Int) ≤ n5) && Decidable.decide ((232 : Int) ≤ n6)) || Bool.true) <|
          need (Decidable.decide ((232 : Int) ≤ n5) && Decidable.decide ((232 : Int) ≤ n6) && !Decidable.decide (Prod.fst (List.getD l0 (Int.toNat n5) ((0 : Int), (0 : Int), (0 : Int), (PUnit.unit : PUnit.{1}))) < Prod.fst (List.getD l0 (Int.toNat n6) ((0 : Int), (0 : Int), (0 : Int), (PUnit.unit : PUnit.{1})))) == Decidable.decide (n5 < n6) || (!Decidable.decide ((232 : Int) ≤ n5) || Bool.true)) <|
          need (Decidable.decide ((232 : Int) ≤ n5) && Decidable.decide ((232 : Int) ≤ n6) && !Decidable.decide (Prod.fst (List.getD l0 (Int.toNat n5) ((0 : Int), (0 : Int), (0 : Int), (PUnit.unit : PUnit.{1}))) < Prod.fst (List.getD l0 (Int.toNat n6) ((0 : Int), (0 : Int), (0 : Int), (PUnit.unit : PUnit.{1})))) == Decidable.decide (n5 < n6) || (!Decidable.decide ((232 : Int) ≤ n5) || Bool.true)) <|
          need (Decidable.decide ((232 : Int) ≤ n5) && Decidable.decide ((232 : Int) ≤ n6) && !Decidable.decide (Prod.fst (List.getD l0 (Int.toNat n5) ((0 : Int), (0 : Int), (0 : Int), (PUnit.unit : PUnit.{1}))) < Prod.fst (List.getD l0 (Int.toNat n6) ((0 : Int), (0 : Int), (0 : Int), (PUnit.unit : PUnit.{1})))) == Decidable.decide (n5 < n6) || (!Decidable.decide ((232 : Int) ≤ n5) || Bool.true)) <|
          need (Decidable.decide ((232 : Int) ≤ n5) && Decidable.decide ((232 : Int) ≤ n6) && !Decidable.decide (Prod.fst (List.getD l0 (Int.toNat n5) ((0 : Int), (0 : Int), (0 : Int), (PUnit.unit : PUnit.{1}))) < Prod.fst (List.getD l0 (Int.toNat n6) ((0 : Int), (0 : Int), (0 : Int), (PUnit.unit : PUnit.{1})))) == Decidable.decide (n5 < n6) || (!Decidable.decide ((232 : Int) ≤ n5) || Bool.true)) <|
          need (Decidable.decide ((232 : Int) ≤ n5) && Decidable.decide ((232 : Int) ≤ n6) && !Decidable.decide (Prod.fst (List.getD l0 (Int.toNat n5) ((0 : Int), (0 : Int), (0 : Int), (PUnit.unit : PUnit.{1}))) < Prod.fst (List.getD l0 (Int.toNat n6) ((0 : Int), (0 : Int), (0 : Int), (PUnit.unit : PUnit.{1})))) == Decidable.decide (n5 < n6) || (!Decidable.decide ((232 : Int) ≤ n5) || (Prod.fst (List.getD l0 (Int.toNat n5) ((0 : Int), (0 : Int), (0 : Int), (PUnit.unit : PUnit.{1}))) != Prod.fst (Prod.snd (List.getD l0 (Int.toNat n5) ((0 : Int), (0 : Int), (0 : Int), (PUnit.unit : PUnit.{1})))) || Bool.true))) <|
          need (Decidable.decide ((232 : Int) ≤ n5) && Decidable.decide ((232 : Int) ≤ n6) && !Decidable.decide (Prod.fst (List.getD l0 (Int.toNat n5) ((0 : Int), (0 : Int), (0 : Int), (PUnit.unit : PUnit.{1}))) < Prod.fst (List.getD l0 (Int.toNat n6) ((0 : Int), (0 : Int), (0 : Int), (PUnit.unit : PUnit.{1})))) == Decidable.decide (n5 < n6) || (!Decidable.decide ((232 : Int) ≤ n5) || (Prod.fst (List.getD l0 (Int.toNat n5) ((0 : Int), (0 : Int), (0 : Int), (PUnit.unit : PUnit.{1}))) != Prod.fst (Prod.snd (List.getD l0 (Int.toNat n5) ((0 : Int), (0 : Int), (0 : Int), (PUnit.unit : PUnit.{1})))) || Bool.true))) <|
          need (Decidable.decide ((232 : Int) ≤ n5) && Decidable.decide ((232 : Int) ≤ n6) && !Decidable.decide (Prod.fst (List.getD l0 (Int.toNat n5) ((0 : Int), (0 : Int), (0 : Int), (PUnit.unit : PUnit.{1}))) < Prod.fst (List.getD l0 (Int.toNat n6) ((0 : Int), (0 : Int), (0 : Int), (PUnit.unit : PUnit.{1})))) == Decidable.decide (n5 < n6) || (!Decidable.decide ((232 : Int) ≤ n5) || (Prod.fst (List.getD l0 (Int.toNat n5) ((0 : Int), (0 : Int), (0 : Int), (PUnit.unit : PUnit.{1}))) != Prod.fst (Prod.snd (List.getD l0 (Int.toNat n5) ((0 : Int), (0 : Int), (0 : Int), (PUnit.unit : PUnit.{1})))) || Bool.true))) <|
          need (Decidable.decide ((232 : Int) ≤ n5) && Decidable.decide ((232 : Int) ≤ n6) && !Decidable.decide (Prod.fst (List.getD l0 (Int.toNat n5) ((0 : Int), (0 : Int), (0 : Int), (PUnit.unit : PUnit.{1}))) < Prod.fst (List.getD l0 (Int.toNat n6) ((0 : Int), (0 : Int), (0 : Int), (PUnit.unit : PUnit.{1})))) == Decidable.decide (n5 < n6) || (!Decidable.decide ((232 : Int) ≤ n5) || (Prod.fst (List.getD l0 (Int.toNat n5) ((0 : Int), (0 : Int), (0 : Int), (PUnit.unit : PUnit.{1}))) != Prod.fst (Prod.snd (List.getD l0 (Int.toNat n5) ((0 : Int), (0 : Int), (0 : Int), (PUnit.unit : PUnit.{1})))) || Bool.true))) <|
          bif (Decidable.decide ((232 : Int) ≤ n5) && Decidable.decide ((232 : Int) ≤ n6) && !Decidable.decide (Prod.fst (List.getD l0 (Int.toNat n5) ((0 : Int), (0 : Int), (0 : Int), (PUnit.unit : PUnit.{1}))) < Prod.fst (List.getD l0 (Int.toNat n6) ((0 : Int), (0 : Int), (0 : Int), (PUnit.unit : PUnit.{1})))) == Decidable.decide (n5 < n6) || Decidable.decide ((232 : Int) ≤ n5) && (Prod.fst (List.getD l0 (Int.toNat n5) ((0 : Int), (0 : Int), (0 : Int), (PUnit.unit : PUnit.{1}))) != Prod.fst (Prod.snd (List.getD l0 (Int.toNat n5) ((0 : Int), (0 : Int), (0 : Int), (PUnit.unit : PUnit.{1})))) || Prod.fst (Prod.snd (List.getD l0 (Int.toNat n5) ((0 : Int), (0 : Int), (0 : Int), (PUnit.unit : PUnit.{1})))) != Prod.fst (Prod.snd (Prod.snd (List.getD l0 (Int.toNat n5) ((0 : Int), (0 : Int), (0 : Int), (PUnit.unit : PUnit.{1}))))))) then
            some [⟨.bool, (Bool.false : Bool)⟩]
          else
            need (Decidable.decide ((0 : Int) ≤ n1)) <|
            need (Decidable.decide (n1 < (256 : Int))) <|
            need (Decidable.decide ((0 : Int) ≤ n2)) <|
            need (Decidable.decide (n2 < (256 : Int))) <|
            need (Decidable.decide ((0 : Int) ≤ n3)) <|
            need (Decidable.decide (n3 < (256 : Int))) <|
            bif (Go.IntKind.wrap Go.IntKind.u16 (Go.IntKind.wrap Go.IntKind.u16 (↑(UInt8.toNat (UInt8.ofNat (Int.toNat n1))) : Int) * (257 : Int)) != Go.IntKind.wrap Go.IntKind.u16 (Go.IntKind.wrap Go.IntKind.u16 n1 * (257 : Int))) then
              some [⟨.bool, (Bool.false : Bool)⟩]
            else
              bif (Go.IntKind.wrap Go.IntKind.u16 (Go.IntKind.wrap Go.IntKind.u16 (↑(UInt8.toNat (UInt8.ofNat (Int.toNat n2))) : Int) * (257 : Int)) != Go.IntKind.wrap Go.IntKind.u16 (Go.IntKind.wrap Go.IntKind.u16 n2 * (257 : Int))) then
                some [⟨.bool, (Bool.false : Bool)⟩]
              else
                bif (Go.IntKind.wrap Go.IntKind.u16 (Go.IntKind.wrap Go.IntKind.u16 (↑(UInt8.toNat (UInt8.ofNat (Int.toNat n3))) : Int) * (257 : Int)) != Go.IntKind.wrap Go.IntKind.u16 (Go.IntKind.wrap Go.IntKind.u16 n3 * (257 : Int))) then
                  some [⟨.bool, (Bool.false : Bool)⟩]
                else
                  need (Decidable.decide (List.length l0 ≤ (1000000000 : Nat))) <|
                  need (Decidable.decide ((0 : Int) ≤ Go.Proofs.YtdgadbhgcpfajaaDoor.nearF (Prod.fst (List.getD l0 (Int.toNat n5) ((0 : Int), (0 : Int), (0 : Int), (PUnit.unit : PUnit.{1}))), Prod.fst (Prod.snd (List.getD l0 (Int.toNat n5) ((0 : Int), (0 : Int), (0 : Int), (PUnit.unit : PUnit.{1})))), Prod.fst (Prod.snd (Prod.snd (List.getD l0 (Int.toNat n5) ((0 : Int), (0 : Int), (0 : Int), (PUnit.unit : PUnit.{1}))))), (PUnit.unit : PUnit.{1})) l0)) <|
                  need (Decidable.decide (Go.Proofs.YtdgadbhgcpfajaaDoor.nearF (Prod.fst (List.getD l0 (Int.toNat n5) ((0 : Int), (0 : Int), (0 : Int), (PUnit.unit : PUnit.{1}))), Prod.fst (Prod.snd (List.getD l0 (Int.toNat n5) ((0 : Int), (0 : Int), (0 : Int), (PUnit.unit : PUnit.{1})))), Prod.fst (Prod.snd (Prod.snd (List.getD l0 (Int.toNat n5) ((0 : Int), (0 : Int), (0 : Int), (PUnit.unit : PUnit.{1}))))), (PUnit.unit : PUnit.{1})) l0 < (↑(List.length l0) : Int))) <|
                  need (Decidable.decide (Int.toNat (Go.Proofs.YtdgadbhgcpfajaaDoor.nearF (Prod.fst (List.getD l0 (Int.toNat n5) ((0 : Int), (0 : Int), (0 : Int), (PUnit.unit : PUnit.{1}))), Prod.fst (Prod.snd (List.getD l0 (Int.toNat n5) ((0 : Int), (0 : Int), (0 : Int), (PUnit.unit : PUnit.{1})))), Prod.fst (Prod.snd (Prod.snd (List.getD l0 (Int.toNat n5) ((0 : Int), (0 : Int), (0 : Int), (PUnit.unit : PUnit.{1}))))), (PUnit.unit : PUnit.{1})) l0) < List.length l0)) <|
                  bif (Prod.fst (List.getD l0 (Int.toNat (Go.Proofs.YtdgadbhgcpfajaaDoor.nearF (Prod.fst (List.getD l0 (Int.toNat n5) ((0 : Int), (0 : Int), (0 : Int), (PUnit.unit : PUnit.{1}))), Prod.fst (Prod.snd (List.getD l0 (Int.toNat n5) ((0 : Int), (0 : Int), (0 : Int), (PUnit.unit : PUnit.{1})))), Prod.fst (Prod.snd (Prod.snd (List.getD l0 (Int.toNat n5) ((0 : Int), (0 : Int), (0 : Int), (PUnit.unit : PUnit.{1}))))), (PUnit.unit : PUnit.{1})) l0)) ((0 : Int), (0 : Int), (0 : Int), (PUnit.unit : PUnit.{1}))) == Prod.fst (List.getD l0 (Int.toNat n5) ((0 : Int), (0 : Int), (0 : Int), (PUnit.unit : PUnit.{1}))) && (Prod.fst (Prod.snd (List.getD l0 (Int.toNat (Go.Proofs.YtdgadbhgcpfajaaDoor.nearF (Prod.fst (List.getD l0 (Int.toNat n5) ((0 : Int), (0 : Int), (0 : Int), (PUnit.unit : PUnit.{1}))), Prod.fst (Prod.snd (List.getD l0 (Int.toNat n5) ((0 : Int), (0 : Int), (0 : Int), (PUnit.unit : PUnit.{1})))), Prod.fst (Prod.snd (Prod.snd (List.getD l0 (Int.toNat n5) ((0 : Int), (0 : Int), (0 : Int), (PUnit.unit : PUnit.{1}))))), (PUnit.unit : PUnit.{1})) l0)) ((0 : Int), (0 : Int), (0 : Int), (PUnit.unit : PUnit.{1})))) == Prod.fst (Prod.snd (List.getD l0 (Int.toNat n5) ((0 : Int), (0 : Int), (0 : Int), (PUnit.unit : PUnit.{1})))) && (Prod.fst (Prod.snd (Prod.snd (List.getD l0 (Int.toNat (Go.Proofs.YtdgadbhgcpfajaaDoor.nearF (Prod.fst (List.getD l0 (Int.toNat n5) ((0 : Int), (0 : Int), (0 : Int), (PUnit.unit : PUnit.{1}))), Prod.fst (Prod.snd (List.getD l0 (Int.toNat n5) ((0 : Int), (0 : Int), (0 : Int), (PUnit.unit : PUnit.{1})))), Prod.fst (Prod.snd (Prod.snd (List.getD l0 (Int.toNat n5) ((0 : Int), (0 : Int), (0 : Int), (PUnit.unit : PUnit.{1}))))), (PUnit.unit : PUnit.{1})) l0)) ((0 : Int), (0 : Int), (0 : Int), (PUnit.unit : PUnit.{1}))))) == Prod.fst (Prod.snd (Prod.snd (List.getD l0 (Int.toNat n5) ((0 : Int), (0 : Int), (0 : Int), (PUnit.unit : PUnit.{1}))))) && Bool.true))) then
                    need (Decidable.decide ((0 : Int) ≤ n5)) <|
                    need (Decidable.decide (n5 < (256 : Int))) <|
                    bif (Prod.fst (Go.Proofs.YtdgadbhgcpfajaaDoor.resF (UInt8.ofNat (1 : Nat), UInt8.ofNat (Int.toNat n5), UInt8.ofNat (0 : Nat), UInt8.ofNat (0 : Nat), (PUnit.unit : PUnit.{1})) l0 (Prod.fst (List.getD l0 (Int.toNat n6) ((0 : Int), (0 : Int), (0 : Int), (PUnit.unit : PUnit.{1}))), Prod.fst (Prod.snd (List.getD l0 (Int.toNat n6) ((0 : Int), (0 : Int), (0 : Int), (PUnit.unit : PUnit.{1})))), Prod.fst (Prod.snd (Prod.snd (List.getD l0 (Int.toNat n6) ((0 : Int), (0 : Int), (0 : Int), (PUnit.unit : PUnit.{1}))))), (PUnit.unit : PUnit.{1}))) == Prod.fst (List.getD l0 (Int.toNat n5) ((0 : Int), (0 : Int), (0 : Int), (PUnit.unit : PUnit.{1}))) && (Prod.fst (Prod.snd (Go.Proofs.YtdgadbhgcpfajaaDoor.resF (UInt8.ofNat (1 : Nat), UInt8.ofNat (Int.toNat n5), UInt8.ofNat (0 : Nat), UInt8.ofNat (0 : Nat), (PUnit.unit : PUnit.{1})) l0 (Prod.fst (List.getD l0 (Int.toNat n6) ((0 : Int), (0 : Int), (0 : Int), (PUnit.unit : PUnit.{1}))), Prod.fst (Prod.snd (List.getD l0 (Int.toNat n6) ((0 : Int), (0 : Int), (0 : Int), (PUnit.unit : PUnit.{1})))), Prod.fst (Prod.snd (Prod.snd (List.getD l0 (Int.toNat n6) ((0 : Int), (0 : Int), (0 : Int), (PUnit.unit : PUnit.{1}))))), (PUnit.unit : PUnit.{1})))) == Prod.fst (Prod.snd (List.getD l0 (Int.toNat n5) ((0 : Int), (0 : Int), (0 : Int), (PUnit.unit : PUnit.{1})))) && (Prod.fst (Prod.snd (Prod.snd (Go.Proofs.YtdgadbhgcpfajaaDoor.resF (UInt8.ofNat (1 : Nat), UInt8.ofNat (Int.toNat n5), UInt8.ofNat (0 : Nat), UInt8.ofNat (0 : Nat), (PUnit.unit : PUnit.{1})) l0 (Prod.fst (List.getD l0 (Int.toNat n6) ((0 : Int), (0 : Int), (0 : Int), (PUnit.unit : PUnit.{1}))), Prod.fst (Prod.snd (List.getD l0 (Int.toNat n6) ((0 : Int), (0 : Int), (0 : Int), (PUnit.unit : PUnit.{1})))), Prod.fst (Prod.snd (Prod.snd (List.getD l0 (Int.toNat n6) ((0 : Int), (0 : Int), (0 : Int), (PUnit.unit : PUnit.{1}))))), (PUnit.unit : PUnit.{1}))))) == Prod.fst (Prod.snd (Prod.snd (List.getD l0 (Int.toNat n5) ((0 : Int), (0 : Int), (0 : Int), (PUnit.unit : PUnit.{1}))))) && Bool.true))) then
                      some [⟨.bool, (Prod.fst (List.getD l0 (Int.toNat n6) ((0 : Int), (0 : Int), (0 : Int), (PUnit.unit : PUnit.{1}))) == Prod.fst (List.getD l0 (Int.toNat n6) ((0 : Int), (0 : Int), (0 : Int), (PUnit.unit : PUnit.{1}))) && (Prod.fst (Prod.snd (List.getD l0 (Int.toNat n6) ((0 : Int), (0 : Int), (0 : Int), (PUnit.unit : PUnit.{1})))) == Prod.fst (Prod.snd (List.getD l0 (Int.toNat n6) ((0 : Int), (0 : Int), (0 : Int), (PUnit.unit : PUnit.{1})))) && (Prod.fst (Prod.snd (Prod.snd (List.getD l0 (Int.toNat n6) ((0 : Int), (0 : Int), (0 : Int), (PUnit.unit : PUnit.{1}))))) == Prod.fst (Prod.snd (Prod.snd (List.getD l0 (Int.toNat n6) ((0 : Int), (0 : Int), (0 : Int), (PUnit.unit : PUnit.{1}))))) && Bool.true)) : Bool)⟩]
                    else
                      some [⟨.bool, (Bool.false : Bool)⟩]
                  else
                    some [⟨.bool, (Bool.false : Bool)⟩]
      else
        need (!(Decidable.decide ((232 : Int) ≤ n5) && Decidable.decide ((232 : Int) ≤ n6)) || Bool.true) <|
        need (!(Decidable.decide ((232 : Int) ≤ n5) && Decidable.decide ((232 : Int) ≤ n6)) || Bool.true) <|
        need (!(Decidable.decide ((232 : Int) ≤ n5) && Decidable.decide ((232 : Int) ≤ n6)) || Bool.true) <|
        need (!(Decidable.decide ((232 : Int) ≤ n5) && Decidable.decide ((232 : Int) ≤ n6)) || Bool.true) <|
        need (Decidable.decide ((232 : Int) ≤ n5) && Decidable.decide ((232 : Int) ≤ n6) && !Decidable.decide (Prod.fst (List.getD l0 (Int.toNat n5) ((0 : Int), (0 : Int), (0 : Int), (PUnit.unit : PUnit.{1}))) < Prod.fst (List.getD l0 (Int.toNat n6) ((0 : Int), (0 : Int), (0 : Int), (PUnit.unit : PUnit.{1})))) == Decidable.decide (n5 < n6) || (!Decidable.decide ((232 : Int) ≤ n5) || Bool.true)) <|
        need (Decidable.decide ((232 : Int) ≤ n5) && Decidable.decide ((232 : Int) ≤ n6) && !Decidable.decide (Prod.fst (List.getD l0 (Int.toNat n5) ((0 : Int), (0 : Int), (0 : Int), (PUnit.unit : PUnit.{1}))) < Prod.fst (List.getD l0 (Int.toNat n6) ((0 : Int), (0 : Int), (0 : Int), (PUnit.unit : PUnit.{1})))) == Decidable.decide (n5 < n6) || (!Decidable.decide ((232 : Int) ≤ n5) || Bool.true)) <|
        need (Decidable.decide ((232 : Int) ≤ n5) && Decidable.decide ((232 : Int) ≤ n6) && !Decidable.decide (Prod.fst (List.getD l0 (Int.toNat n5) ((0 : Int), (0 : Int), (0 : Int), (PUnit.unit : PUnit.{1}))) < Prod.fst (List.getD l0 (Int.toNat n6) ((0 : Int), (0 : Int), (0 : Int), (PUnit.unit : PUnit.{1})))) == Decidable.decide (n5 < n6) || (!Decidable.decide ((232 : Int) ≤ n5) || Bool.true)) <|
        need (Decidable.decide ((232 : Int) ≤ n5) && Decidable.decide ((232 : Int) ≤ n6) && !Decidable.decide (Prod.fst (List.getD l0 (Int.toNat n5) ((0 : Int), (0 : Int), (0 : Int), (PUnit.unit : PUnit.{1}))) < Prod.fst (List.getD l0 (Int.toNat n6) ((0 : Int), (0 : Int), (0 : Int), (PUnit.unit : PUnit.{1})))) == Decidable.decide (n5 < n6) || (!Decidable.decide ((232 : Int) ≤ n5) || Bool.true)) <|
        need (Decidable.decide ((232 : Int) ≤ n5) && Decidable.decide ((232 : Int) ≤ n6) && !Decidable.decide (Prod.fst (List.getD l0 (Int.toNat n5) ((0 : Int), (0 : Int), (0 : Int), (PUnit.unit : PUnit.{1}))) < Prod.fst (List.getD l0 (Int.toNat n6) ((0 : Int), (0 : Int), (0 : Int), (PUnit.unit : PUnit.{1})))) == Decidable.decide (n5 < n6) || (!Decidable.decide ((232 : Int) ≤ n5) || (Prod.fst (List.getD l0 (Int.toNat n5) ((0 : Int), (0 : Int), (0 : Int), (PUnit.unit : PUnit.{1}))) != Prod.fst (Prod.snd (List.getD l0 (Int.toNat n5) ((0 : Int), (0 : Int), (0 : Int), (PUnit.unit : PUnit.{1})))) || Bool.true))) <|
        need (Decidable.decide ((232 : Int) ≤ n5) && Decidable.decide ((232 : Int) ≤ n6) && !Decidable.decide (Prod.fst (List.getD l0 (Int.toNat n5) ((0 : Int), (0 : Int), (0 : Int), (PUnit.unit : PUnit.{1}))) < Prod.fst (List.getD l0 (Int.toNat n6) ((0 : Int), (0 : Int), (0 : Int), (PUnit.unit : PUnit.{1})))) == Decidable.decide (n5 < n6) || (!Decidable.decide ((232 : Int) ≤ n5) || (Prod.fst (List.getD l0 (Int.toNat n5) ((0 : Int), (0 : Int), (0 : Int), (PUnit.unit : PUnit.{1}))) != Prod.fst (Prod.snd (List.getD l0 (Int.toNat n5) ((0 : Int), (0 : Int), (0 : Int), (PUnit.unit : PUnit.{1})))) || Bool.true))) <|
        need (Decidable.decide ((232 : Int) ≤ n5) && Decidable.decide ((232 : Int) ≤ n6) && !Decidable.decide (Prod.fst (List.getD l0 (Int.toNat n5) ((0 : Int), (0 : Int), (0 : Int), (PUnit.unit : PUnit.{1}))) < Prod.fst (List.getD l0 (Int.toNat n6) ((0 : Int), (0 : Int), (0 : Int), (PUnit.unit : PUnit.{1})))) == Decidable.decide (n5 < n6) || (!Decidable.decide ((232 : Int) ≤ n5) || (Prod.fst (List.getD l0 (Int.toNat n5) ((0 : Int), (0 : Int), (0 : Int), (PUnit.unit : PUnit.{1}))) != Prod.fst (Prod.snd (List.getD l0 (Int.toNat n5) ((0 : Int), (0 : Int), (0 : Int), (PUnit.unit : PUnit.{1})))) || Bool.true))) <|
        need (Decidable.decide ((232 : Int) ≤ n5) && Decidable.decide ((232 : Int) ≤ n6) && !Decidable.decide (Prod.fst (List.getD l0 (Int.toNat n5) ((0 : Int), (0 : Int), (0 : Int), (PUnit.unit : PUnit.{1}))) < Prod.fst (List.getD l0 (Int.toNat n6) ((0 : Int), (0 : Int), (0 : Int), (PUnit.unit : PUnit.{1})))) == Decidable.decide (n5 < n6) || (!Decidable.decide ((232 : Int) ≤ n5) || (Prod.fst (List.getD l0 (Int.toNat n5) ((0 : Int), (0 : Int), (0 : Int), (PUnit.unit : PUnit.{1}))) != Prod.fst (Prod.snd (List.getD l0 (Int.toNat n5) ((0 : Int), (0 : Int), (0 : Int), (PUnit.unit : PUnit.{1})))) || Bool.true))) <|
        bif (Decidable.decide ((232 : Int) ≤ n5) && Decidable.decide ((232 : Int) ≤ n6) && !Decidable.decide (Prod.fst (List.getD l0 (Int.toNat n5) ((0 : Int), (0 : Int), (0 : Int), (PUnit.unit : PUnit.{1}))) < Prod.fst (List.getD l0 (Int.toNat n6) ((0 : Int), (0 : Int), (0 : Int), (PUnit.unit : PUnit.{1})))) == Decidable.decide (n5 < n6) || Decidable.decide ((232 : Int) ≤ n5) && (Prod.fst (List.getD l0 (Int.toNat n5) ((0 : Int), (0 : Int), (0 : Int), (PUnit.unit : PUnit.{1}))) != Prod.fst (Prod.snd (List.getD l0 (Int.toNat n5) ((0 : Int), (0 : Int), (0 : Int), (PUnit.unit : PUnit.{1})))) || Prod.fst (Prod.snd (List.getD l0 (Int.toNat n5) ((0 : Int), (0 : Int), (0 : Int), (PUnit.unit : PUnit.{1})))) != Prod.fst (Prod.snd (Prod.snd (List.getD l0 (Int.toNat n5) ((0 : Int), (0 : Int), (0 : Int), (PUnit.unit : PUnit.{1}))))))) then
          some [⟨.bool, (Bool.false : Bool)⟩]
        else
          need (Decidable.decide ((0 : Int) ≤ n1)) <|
          need (Decidable.decide (n1 < (256 : Int))) <|
          need (Decidable.decide ((0 : Int) ≤ n2)) <|
          need (Decidable.decide (n2 < (256 : Int))) <|
          need (Decidable.decide ((0 : Int) ≤ n3)) <|
          need (Decidable.decide (n3 < (256 : Int))) <|
          bif (Go.IntKind.wrap Go.IntKind.u16 (Go.IntKind.wrap Go.IntKind.u16 (↑(UInt8.toNat (UInt8.ofNat (Int.toNat n1))) : Int) * (257 : Int)) != Go.IntKind.wrap Go.IntKind.u16 (Go.IntKind.wrap Go.IntKind.u16 n1 * (257 : Int))) then
            some [⟨.bool, (Bool.false : Bool)⟩]
          else
            bif (Go.IntKind.wrap Go.IntKind.u16 (Go.IntKind.wrap Go.IntKind.u16 (↑(UInt8.toNat (UInt8.ofNat (Int.toNat n2))) : Int) * (257 : Int)) != Go.IntKind.wrap Go.IntKind.u16 (Go.IntKind.wrap Go.IntKind.u16 n2 * (257 : Int))) then
              some [⟨.bool, (Bool.false : Bool)⟩]
            else
              bif (Go.IntKind.wrap Go.IntKind.u16 (Go.IntKind.wrap Go.IntKind.u16 (↑(UInt8.toNat (UInt8.ofNat (Int.toNat n3))) : Int) * (257 : Int)) != Go.IntKind.wrap Go.IntKind.u16 (Go.IntKind.wrap Go.IntKind.u16 n3 * (257 : Int))) then
                some [⟨.bool, (Bool.false : Bool)⟩]
              else
                need (Decidable.decide (List.length l0 ≤ (1000000000 : Nat))) <|
                need (Decidable.decide ((0 : Int) ≤ Go.Proofs.YtdgadbhgcpfajaaDoor.nearF (Prod.fst (List.getD l0 (Int.toNat n5) ((0 : Int), (0 : Int), (0 : Int), (PUnit.unit : PUnit.{1}))), Prod.fst (Prod.snd (List.getD l0 (Int.toNat n5) ((0 : Int), (0 : Int), (0 : Int), (PUnit.unit : PUnit.{1})))), Prod.fst (Prod.snd (Prod.snd (List.getD l0 (Int.toNat n5) ((0 : Int), (0 : Int), (0 : Int), (PUnit.unit : PUnit.{1}))))), (PUnit.unit : PUnit.{1})) l0)) <|
                need (Decidable.decide (Go.Proofs.YtdgadbhgcpfajaaDoor.nearF (Prod.fst (List.getD l0 (Int.toNat n5) ((0 : Int), (0 : Int), (0 : Int), (PUnit.unit : PUnit.{1}))), Prod.fst (Prod.snd (List.getD l0 (Int.toNat n5) ((0 : Int), (0 : Int), (0 : Int), (PUnit.unit : PUnit.{1})))), Prod.fst (Prod.snd (Prod.snd (List.getD l0 (Int.toNat n5) ((0 : Int), (0 : Int), (0 : Int), (PUnit.unit : PUnit.{1}))))), (PUnit.unit : PUnit.{1})) l0 < (↑(List.length l0) : Int))) <|
                need (Decidable.decide (Int.toNat (Go.Proofs.YtdgadbhgcpfajaaDoor.nearF (Prod.fst (List.getD l0 (Int.toNat n5) ((0 : Int), (0 : Int), (0 : Int), (PUnit.unit : PUnit.{1}))), Prod.fst (Prod.snd (List.getD l0 (Int.toNat n5) ((0 : Int), (0 : Int), (0 : Int), (PUnit.unit : PUnit.{1})))), Prod.fst (Prod.snd (Prod.snd (List.getD l0 (Int.toNat n5) ((0 : Int), (0 : Int), (0 : Int), (PUnit.unit : PUnit.{1}))))), (PUnit.unit : PUnit.{1})) l0) < List.length l0)) <|
                bif (Prod.fst (List.getD l0 (Int.toNat (Go.Proofs.YtdgadbhgcpfajaaDoor.nearF (Prod.fst (List.getD l0 (Int.toNat n5) ((0 : Int), (0 : Int), (0 : Int), (PUnit.unit : PUnit.{1}))), Prod.fst (Prod.snd (List.getD l0 (Int.toNat n5) ((0 : Int), (0 : Int), (0 : Int), (PUnit.unit : PUnit.{1})))), Prod.fst (Prod.snd (Prod.snd (List.getD l0 (Int.toNat n5) ((0 : Int), (0 : Int), (0 : Int), (PUnit.unit : PUnit.{1}))))), (PUnit.unit : PUnit.{1})) l0)) ((0 : Int), (0 : Int), (0 : Int), (PUnit.unit : PUnit.{1}))) == Prod.fst (List.getD l0 (Int.toNat n5) ((0 : Int), (0 : Int), (0 : Int), (PUnit.unit : PUnit.{1}))) && (Prod.fst (Prod.snd (List.getD l0 (Int.toNat (Go.Proofs.YtdgadbhgcpfajaaDoor.nearF (Prod.fst (List.getD l0 (Int.toNat n5) ((0 : Int), (0 : Int), (0 : Int), (PUnit.unit : PUnit.{1}))), Prod.fst (Prod.snd (List.getD l0 (Int.toNat n5) ((0 : Int), (0 : Int), (0 : Int), (PUnit.unit : PUnit.{1})))), Prod.fst (Prod.snd (Prod.snd (List.getD l0 (Int.toNat n5) ((0 : Int), (0 : Int), (0 : Int), (PUnit.unit : PUnit.{1}))))), (PUnit.unit : PUnit.{1})) l0)) ((0 : Int), (0 : Int), (0 : Int), (PUnit.unit : PUnit.{1})))) == Prod.fst (Prod.snd (List.getD l0 (Int.toNat n5) ((0 : Int), (0 : Int), (0 : Int), (PUnit.unit : PUnit.{1})))) && (Prod.fst (Prod.snd (Prod.snd (List.getD l0 (Int.toNat (Go.Proofs.YtdgadbhgcpfajaaDoor.nearF (Prod.fst (List.getD l0 (Int.toNat n5) ((0 : Int), (0 : Int), (0 : Int), (PUnit.unit : PUnit.{1}))), Prod.fst (Prod.snd (List.getD l0 (Int.toNat n5) ((0 : Int), (0 : Int), (0 : Int), (PUnit.unit : PUnit.{1})))), Prod.fst (Prod.snd (Prod.snd (List.getD l0 (Int.toNat n5) ((0 : Int), (0 : Int), (0 : Int), (PUnit.unit : PUnit.{1}))))), (PUnit.unit : PUnit.{1})) l0)) ((0 : Int), (0 : Int), (0 : Int), (PUnit.unit : PUnit.{1}))))) == Prod.fst (Prod.snd (Prod.snd (List.getD l0 (Int.toNat n5) ((0 : Int), (0 : Int), (0 : Int), (PUnit.unit : PUnit.{1}))))) && Bool.true))) then
                  need (Decidable.decide ((0 : Int) ≤ n5)) <|
                  need (Decidable.decide (n5 < (256 : Int))) <|
                  bif (Prod.fst (Go.Proofs.YtdgadbhgcpfajaaDoor.resF (UInt8.ofNat (1 : Nat), UInt8.ofNat (Int.toNat n5), UInt8.ofNat (0 : Nat), UInt8.ofNat (0 : Nat), (PUnit.unit : PUnit.{1})) l0 (Prod.fst (List.getD l0 (Int.toNat n6) ((0 : Int), (0 : Int), (0 : Int), (PUnit.unit : PUnit.{1}))), Prod.fst (Prod.snd (List.getD l0 (Int.toNat n6) ((0 : Int), (0 : Int), (0 : Int), (PUnit.unit : PUnit.{1})))), Prod.fst (Prod.snd (Prod.snd (List.getD l0 (Int.toNat n6) ((0 : Int), (0 : Int), (0 : Int), (PUnit.unit : PUnit.{1}))))), (PUnit.unit : PUnit.{1}))) == Prod.fst (List.getD l0 (Int.toNat n5) ((0 : Int), (0 : Int), (0 : Int), (PUnit.unit : PUnit.{1}))) && (Prod.fst (Prod.snd (Go.Proofs.YtdgadbhgcpfajaaDoor.resF (UInt8.ofNat (1 : Nat), UInt8.ofNat (Int.toNat n5), UInt8.ofNat (0 : Nat), UInt8.ofNat (0 : Nat), (PUnit.unit : PUnit.{1})) l0 (Prod.fst (List.getD l0 (Int.toNat n6) ((0 : Int), (0 : Int), (0 : Int), (PUnit.unit : PUnit.{1}))), Prod.fst (Prod.snd (List.getD l0 (Int.toNat n6) ((0 : Int), (0 : Int), (0 : Int), (PUnit.unit : PUnit.{1})))), Prod.fst (Prod.snd (Prod.snd (List.getD l0 (Int.toNat n6) ((0 : Int), (0 : Int), (0 : Int), (PUnit.unit : PUnit.{1}))))), (PUnit.unit : PUnit.{1})))) == Prod.fst (Prod.snd (List.getD l0 (Int.toNat n5) ((0 : Int), (0 : Int), (0 : Int), (PUnit.unit : PUnit.{1})))) && (Prod.fst (Prod.snd (Prod.snd (Go.Proofs.YtdgadbhgcpfajaaDoor.resF (UInt8.ofNat (1 : Nat), UInt8.ofNat (Int.toNat n5), UInt8.ofNat (0 : Nat), UInt8.ofNat (0 : Nat), (PUnit.unit : PUnit.{1})) l0 (Prod.fst (List.getD l0 (Int.toNat n6) ((0 : Int), (0 : Int), (0 : Int), (PUnit.unit : PUnit.{1}))), Prod.fst (Prod.snd (List.getD l0 (Int.toNat n6) ((0 : Int), (0 : Int), (0 : Int), (PUnit.unit : PUnit.{1})))), Prod.fst (Prod.snd (Prod.snd (List.getD l0 (Int.toNat n6) ((0 : Int), (0 : Int), (0 : Int), (PUnit.unit : PUnit.{1}))))), (PUnit.unit : PUnit.{1}))))) == Prod.fst (Prod.snd (Prod.snd (List.getD l0 (Int.toNat n5) ((0 : Int), (0 : Int), (0 : Int), (PUnit.unit : PUnit.{1}))))) && Bool.true))) then
                    some [⟨.bool, (Prod.fst (List.getD l0 (Int.toNat n6) ((0 : Int), (0 : Int), (0 : Int), (PUnit.unit : PUnit.{1}))) == Prod.fst (List.getD l0 (Int.toNat n6) ((0 : Int), (0 : Int), (0 : Int), (PUnit.unit : PUnit.{1}))) && (Prod.fst (Prod.snd (List.getD l0 (Int.toNat n6) ((0 : Int), (0 : Int), (0 : Int), (PUnit.unit : PUnit.{1})))) == Prod.fst (Prod.snd (List.getD l0 (Int.toNat n6) ((0 : Int), (0 : Int), (0 : Int), (PUnit.unit : PUnit.{1})))) && (Prod.fst (Prod.snd (Prod.snd (List.getD l0 (Int.toNat n6) ((0 : Int), (0 : Int), (0 : Int), (PUnit.unit : PUnit.{1}))))) == Prod.fst (Prod.snd (Prod.snd (List.getD l0 (Int.toNat n6) ((0 : Int), (0 : Int), (0 : Int), (PUnit.unit : PUnit.{1}))))) && Bool.true)) : Bool)⟩]
                  else
                    some [⟨.bool, (Bool.false : Bool)⟩]
                else
                  some [⟨.bool, (Bool.false : Bool)⟩]) := by kernel_rfl
theorem L5_fn (n : Nat) (c0 : UInt8) (c1 : UInt8) (p2 : UInt8 × UInt8 × UInt8 × PUnit) :
    fnY SL5 loopY [(.hole .byte), (.hole .byte), (.hole (.pair .byte (.pair .byte (.pair .byte .unit))))] [.bool] n 5 [⟨.byte, c0⟩, ⟨.byte, c1⟩, ⟨(.pair .byte (.pair .byte (.pair .byte .unit))), p2⟩] =
    (RL SL5 [.bool] n 5 0 noNx n [⟨(.list 29 (.pair (.int .u16) (.pair (.int .u16) (.pair (.int .u16) .unit)))), ([] : List (Int × Int × Int × PUnit))⟩, ⟨(.int .u8), ((↑(UInt8.toNat (Prod.fst p2)) : Int) : Int)⟩, ⟨(.int .u8), ((↑(UInt8.toNat (Prod.fst (Prod.snd p2))) : Int) : Int)⟩, ⟨(.int .u8), ((↑(UInt8.toNat (Prod.fst (Prod.snd (Prod.snd p2)))) : Int) : Int)⟩, ⟨(.int .i64), ((0 : Int) : Int)⟩, ⟨(.int .u8), ((↑(UInt8.toNat c0) : Int) : Int)⟩, ⟨(.int .u8), ((↑(UInt8.toNat c1) : Int) : Int)⟩]) := by kernel_rfl

end Go.Proofs.YtdgadbhgcpfajaaDoor

/-
  Chapter 2: the law of the palette at first.
-/
namespace Go.Proofs.YtdgadbhgcpfajaaDoor
open Go Go.Am

def pal (i : Nat) : List D3 := (List.range i).map fun j : Nat => defF (j : Int)
theorem pal_len (i : Nat) : (pal i).length = i := by simp [pal]
theorem pal_succ (i : Nat) : pal (i + 1) = pal i ++ [defF (i : Int)] := by simp [pal, List.range_succ]
theorem pal_at (i j : Nat) (h : j < i) : (pal i).getD j z3 = defF (j : Int) := by
  rw [List.getD_eq_getElem?_getD]
  simp [pal, h]

theorem near_pal (a : Nat) (ha : a < 256) : 0 ≤ nearF (defF a) (pal 256) ∧ nearF (defF a) (pal 256) < 256 ∧ (pal 256).getD (nearF (defF a) (pal 256)).toNat z3 = defF (a : Int) := by
  have h := nearGo_spec (defF a) (pal 256) (pal 256).length 0 (-1) (by omega) (.inl ⟨by omega, rfl⟩)
  rcases h with h | ⟨h1, h2, h3⟩
  · have := pal_len 256
    rw [h] at this
    cases this
  · change 0 ≤ nearF (defF a) (pal 256) at h1
    change nearF (defF a) (pal 256) < _ at h2
    rw [pal_len] at h2
    have h4 := h3 a (by rw [pal_len]; exact ha)
    change farF (defF a) ((pal 256).getD (nearF (defF a) (pal 256)).toNat z3) ≤ _ at h4
    generalize nearF (defF a) (pal 256) = r at h1 h2 h4 ⊢
    rw [pal_at 256 a ha, far_self _ (def_ok a ha), pal_at 256 r.toNat (by omega)] at h4
    refine ⟨h1, h2, ?_⟩
    rw [pal_at 256 r.toNat (by omega)]
    exact far_zero _ _ (def_ok a ha) (def_ok r.toNat (by omega)) h4

theorem byte_back (x : Nat) (h : x < 256) : ((UInt8.ofNat (Int.toNat (x : Int))).toNat : Int) = (x : Int) := by
  rw [Int.toNat_natCast, UInt8.toNat_ofNat']
  omega

set_option maxRecDepth 100000 in
theorem loop5 (n : Nat) (nx : Nat → List Dy → Option (List Dy)) (a b x y z : Nat) (ha : a < 256) (hb : b < 256) (hx : x < 256) (hy : y < 256) (hz : z < 256) : ∀ (k i : Nat), i + k = 256 →
    RL SL5 [.bool] n 5 0 nx (k + 1) [⟨.list 29 C3, pal i⟩, ⟨.int .u8, (x : Int)⟩, ⟨.int .u8, (y : Int)⟩, ⟨.int .u8, (z : Int)⟩, ⟨.int .i64, (i : Int)⟩, ⟨.int .u8, (a : Int)⟩, ⟨.int .u8, (b : Int)⟩] = some [⟨.bool, true⟩] := by
  intro k
  induction k with
  | zero =>
    intro i hi
    obtain rfl : i = 256 := by omega
    refine (L5_L0 n nx 0 (pal 256) _ _ _ _ _ _).trans ?_
    have wa : IntKind.i64.wrap (a : Int) = (a : Int) := w64 (by omega)
    have wb : IntKind.i64.wrap (b : Int) = (b : Int) := w64 (by omega)
    have la := pal_at 256 a ha
    have lb := pal_at 256 b hb
    obtain ⟨n1, n2, n3⟩ := near_pal a ha
    rw [byte_back x hx, byte_back y hy, byte_back z hz, wa, wb, Int.toNat_natCast, Int.toNat_natCast, la, lb, pal_len]
    have eta : ∀ p : D3, (p.1, p.2.1, p.2.2.1, PUnit.unit) = p := fun p => rfl
    rw [eta, eta, n3]
    have er : resF (UInt8.ofNat 1, UInt8.ofNat a, UInt8.ofNat 0, UInt8.ofNat 0, (PUnit.unit : PUnit.{1})) (pal 256) (defF b) = defF a := by
      have e1 : (UInt8.ofNat a).toNat = a := by rw [UInt8.toNat_ofNat']; omega
      unfold resF
      dsimp only
      rw [if_neg (by decide), if_pos (by rw [e1, pal_len]; exact ⟨by decide, by omega⟩), e1, la]
    rw [er]
    refine bnd (by omega) (nd (by omega) (nd (by omega) (nd (by omega) (nd (by omega) (nd (by omega) (nd (by omega) ?_))))))
    have grey : (decide ((232 : Int) ≤ a) && decide ((232 : Int) ≤ b) && !(decide ((defF a).1 < (defF b).1) == decide ((a : Int) < b)) || decide ((232 : Int) ≤ a) && ((defF a).1 != (defF a).2.1 || (defF a).2.1 != (defF a).2.2.1)) = false := by
      by_cases h1 : 232 ≤ a
      · rw [def_grey a h1 ha]
        by_cases h2 : 232 ≤ b
        · rw [def_grey b h2 hb]
          dsimp only
          rw [grey_rise (a - 232) (by omega) (b - 232) (by omega), show decide (((a - 232 : Nat) : Int) < ((b - 232 : Nat) : Int)) = decide ((a : Int) < b) from decide_eq_decide.2 (by omega)]
          simp
        · rw [decide_eq_false (p := (232 : Int) ≤ b) (by omega)]
          simp
      · rw [decide_eq_false (p := (232 : Int) ≤ a) (by omega)]
        simp
    refine bc (fun h => ?_) fun h => ?_
    · simp only [Bool.and_eq_true, decide_eq_true_eq] at h
      have cube : (!(decide ((defF a).1 < (defF b).1) == decide (IntKind.i64.wrap (Int.tdiv (IntKind.i64.wrap ((a : Int) - 16)) 36) < IntKind.i64.wrap (Int.tdiv (IntKind.i64.wrap ((b : Int) - 16)) 36))) ||
          !(decide ((defF a).2.1 < (defF b).2.1) == decide (Int.tmod (IntKind.i64.wrap (Int.tdiv (IntKind.i64.wrap ((a : Int) - 16)) 6)) 6 < Int.tmod (IntKind.i64.wrap (Int.tdiv (IntKind.i64.wrap ((b : Int) - 16)) 6)) 6)) ||
          !(decide ((defF a).2.2.1 < (defF b).2.2.1) == decide (Int.tmod (IntKind.i64.wrap ((a : Int) - 16)) 6 < Int.tmod (IntKind.i64.wrap ((b : Int) - 16)) 6))) = false := by
        have e : ∀ c : Nat, 16 ≤ c → c < 232 → IntKind.i64.wrap ((c : Int) - 16) = ((c - 16 : Nat) : Int) ∧ IntKind.i64.wrap (Int.tdiv ((c - 16 : Nat) : Int) 36) = (((c - 16) / 36 : Nat) : Int) ∧ IntKind.i64.wrap (Int.tdiv ((c - 16 : Nat) : Int) 6) = (((c - 16) / 6 : Nat) : Int) := by
          intro c h1 h2
          have e2 : Int.tdiv ((c - 16 : Nat) : Int) 36 = (((c - 16) / 36 : Nat) : Int) := rfl
          have e3 : Int.tdiv ((c - 16 : Nat) : Int) 6 = (((c - 16) / 6 : Nat) : Int) := rfl
          rw [e2, e3, w64 (by omega), w64 (by omega), w64 (by omega)]
          exact ⟨by omega, rfl, rfl⟩
        obtain ⟨a1, a2, a3⟩ := e a (by omega) (by omega)
        obtain ⟨b1, b2, b3⟩ := e b (by omega) (by omega)
        rw [def_cube a (by omega) (by omega), def_cube b (by omega) (by omega), a1, b1, a2, b2, a3, b3]
        dsimp only
        rw [cube_rise _ (by omega) _ (by omega), cube_rise _ (by omega) _ (by omega), cube_rise _ (by omega) _ (by omega)]
        have t1 : ∀ u : Nat, Int.tmod (u : Int) 6 = ((u % 6 : Nat) : Int) := fun u => rfl
        rw [t1, t1, t1, t1]
        simp
      repeat (refine np (by simp only [Bool.or_true]) ?_)
      refine bn cube ?_
      repeat (refine np (by simp only [Bool.or_true]) ?_)
      refine bn grey (nd (by omega) (nd (by omega) (nd (by omega) (nd (by omega) (nd (by omega) (nd (by omega) (bn (by simp) (bn (by simp) (bn (by simp) (nd (by omega) (nd n1 (nd n2 (nd (by omega) ?_)))))))))))))
      refine bp (by simp) (nd (by omega) (nd (by omega) (bp (by simp) (ret1 (dyB (by simp))))))
    · repeat (refine np (by simp only [Bool.or_true]) ?_)
      refine bn grey (nd (by omega) (nd (by omega) (nd (by omega) (nd (by omega) (nd (by omega) (nd (by omega) (bn (by simp) (bn (by simp) (bn (by simp) (nd (by omega) (nd n1 (nd n2 (nd (by omega) ?_)))))))))))))
      refine bp (by simp) (nd (by omega) (nd (by omega) (bp (by simp) (ret1 (dyB (by simp))))))
  | succ k ih =>
    intro i hi
    refine (L5_L0 n nx (k + 1) (pal i) _ _ _ _ _ _).trans ?_
    have w : IntKind.i64.wrap ((i : Int) + 1) = ((i + 1 : Nat) : Int) := by rw [w64 (by omega)]; omega
    have hd := def_ok i (by omega)
    rw [w]
    refine bpd (by omega) (nd (by omega) (nd (by omega) (bn (by simp [hd.1.2.2]) (bn (by simp [hd.2.1.2.2]) (bn (by simp [hd.2.2.2.2]) (nd (by rw [pal_len]; simp; omega) (nd (by rw [pal_len]; simp; omega) ?_)))))))
    have := ih (i + 1) (by omega)
    rw [pal_succ] at this
    exact this

abbrev tysPal : List Ty := [.byte, .byte, .pair .byte (.pair .byte (.pair .byte .unit))]
set_option maxRecDepth 100000 in
theorem pal_law (ds : List Dy) (h : OkDs tysPal ds) : ∃ n, fnY SL5 loopY (tysPal.map .hole) [.bool] n 5 ds = some [⟨.bool, true⟩] := by
  obtain ⟨c0, _, rfl, _, c1, _, rfl, _, p2, _, rfl, _, rfl⟩ := h
  refine ⟨257, ?_⟩
  refine (L5_fn 257 c0 c1 p2).trans ?_
  exact loop5 257 noNx c0.toNat c1.toNat p2.1.toNat p2.2.1.toNat p2.2.2.1.toNat (UInt8.toNat_lt c0) (UInt8.toNat_lt c1) (UInt8.toNat_lt p2.1) (UInt8.toNat_lt p2.2.1) (UInt8.toNat_lt p2.2.2.1) 256 0 rfl

end Go.Proofs.YtdgadbhgcpfajaaDoor
