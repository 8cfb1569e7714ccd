/-
  Texts of this session, one behind the other: CoEnv, CoWorks, CoFirst, CoS, CoG1, CoC1, CoG2, CoC2, CoPure, CoG4, CoNear.
-/
import Derived.Test.YtdgadbhgcpfajaaDoorPart10
import Derived.Test.YtdgadbhgcpfajaaDoorProg
import Derived.KernelRfl
namespace Go.Proofs.YtdgadbhgcpfajaaDoor
open Go Go.Am
def std : Std := { ix := some 101, ct := some 93, ne := some 77, mz := some (78, 5) }
set_option maxRecDepth 100000 in
theorem std_ok : std.Ok Tryd.prog where
  mixed := by kernel_rfl
  names := by kernel_rfl
  ix f h := by
    have : 101 = f := by simpa [std] using h
    subst this
    exact ⟨⟨_, rfl, by kernel_rfl, by kernel_rfl, by kernel_rfl, rfl⟩⟩
  ct f h := by
    have : 93 = f := by simpa [std] using h
    subst this
    exact ⟨⟨_, rfl, by kernel_rfl, by kernel_rfl, by kernel_rfl, rfl⟩⟩
  ne f h := by
    have : 77 = f := by simpa [std] using h
    subst this
    exact ⟨⟨_, rfl, by kernel_rfl, by kernel_rfl, by kernel_rfl, rfl⟩⟩
  mz f e h := by
    have : 78 = f ∧ 5 = e := by simpa [std] using h
    obtain ⟨rfl, rfl⟩ := this
    exact ⟨_, _, ⟨⟨_, rfl, by kernel_rfl, by kernel_rfl, by kernel_rfl, rfl⟩⟩, by kernel_rfl, by kernel_rfl⟩
noncomputable def E : Env := stdEnv Tryd.prog std
theorem E_ok : E.Ok := stdEnv_ok std_ok
end Go.Proofs.YtdgadbhgcpfajaaDoor

namespace Go.Proofs.YtdgadbhgcpfajaaDoor
open Go Go.Am
theorem works_eval : evCall E 1000 9 [] [] = some (.pure (.bool true)) := by kernel_rfl
noncomputable def E1 : Env := E.know 9 fun a => match a with | [] => some (.bool true) | _ => none
theorem E1_ok : E1.Ok := E_ok.knowEval works_eval rfl
end Go.Proofs.YtdgadbhgcpfajaaDoor

/-
  Chapter 2: the first sixteen colours, as known calls; what symbolic evaluation stands upon.
-/
namespace Go.Proofs.YtdgadbhgcpfajaaDoor
open Go Go.Am

def first3 : List (Int × Int × Int) := [(0, 0, 0), (205, 0, 0), (0, 205, 0), (205, 205, 0), (0, 0, 238), (205, 0, 205), (0, 205, 205), (229, 229, 229),
  (127, 127, 127), (255, 0, 0), (0, 255, 0), (255, 255, 0), (92, 92, 255), (255, 0, 255), (0, 255, 255), (255, 255, 255)]
def vOf (t : Int × Int × Int) : V := .agg [.int .u16 (t.1 * 257), .int .u16 (t.2.1 * 257), .int .u16 (t.2.2 * 257)]
def firstTab : List (List V × V) := (List.range 16).map fun i => ([.int .i64 (i : Nat)], vOf (first3.getD i (0, 0, 0)))
set_option maxRecDepth 100000 in
theorem first_eval : ((List.range 16).map fun i : Nat => evCall E1 1000 32 [.int .i64 i] []) = (List.range 16).map fun i => some (.pure (vOf (first3.getD i (0, 0, 0)))) := by kernel_rfl
noncomputable def E2 : Env := E1.know 32 (tabS firstTab)
theorem E2_ok : E2.Ok := E1_ok.knowTab firstTab fun p hp => by
  obtain ⟨i, hi, rfl⟩ := List.mem_map.1 hp
  exact ⟨⟨1000, List.map_inj_left.1 first_eval i hi⟩, rfl⟩

abbrev C3 : Ty := .pair (.int .u16) (.pair (.int .u16) (.pair (.int .u16) .unit))
def firstF (i : Int) : Int × Int × Int × PUnit := ((first3.getD i.toNat (0, 0, 0)).1 * 257, (first3.getD i.toNat (0, 0, 0)).2.1 * 257, (first3.getD i.toNat (0, 0, 0)).2.2 * 257, ⟨⟩)
def cFirst : Ctr := ctr1 (.int .i64) [C3] (fun x => [decide (0 ≤ x), decide (x < 16)]) fun x => [⟨C3, firstF x⟩]
theorem first_fin (x : Int) (h0 : 0 ≤ x) (h1 : x < 16) : ∃ vs v, SV.flatL [.v (.int .i64 x)] = some vs ∧ E2.orc 32 vs = some v ∧ (tupY [instH C3 (firstF x)]).flat? = some v ∧ v.flat = true := by
  obtain ⟨j, rfl⟩ : ∃ j : Nat, x = (j : Int) := ⟨x.toNat, by omega⟩
  have hj : j < 16 := by omega
  match j, hj with
  | 0, _ | 1, _ | 2, _ | 3, _ | 4, _ | 5, _ | 6, _ | 7, _ | 8, _ | 9, _ | 10, _ | 11, _ | 12, _ | 13, _ | 14, _ | 15, _ => exact ⟨_, _, rfl, rfl, rfl, rfl⟩
  | k + 16, h => omega
theorem cFirst_ok : CtrOk E2 32 cFirst := ctr_orc fun ds gs ds' args sv hr hg hargs hsv => by
  obtain ⟨x, rfl, rfl, rfl⟩ := ctr1_res hr
  simp only [List.all_cons, id, List.all_nil, Bool.and_true, Bool.and_eq_true, decide_eq_true_eq] at hg
  have e1 : args = [.v (.int .i64 x)] := by
    have : instPL [] [.hole (.int .i64)] [⟨.int .i64, x⟩] = some ([SV.v (.int .i64 x)], []) := by
      unfold instPL instP
      rw [show popD (Ty.int .i64) [⟨Ty.int .i64, x⟩] = some (x, []) from popD_self (t := .int .i64)]
      rfl
    have e : instPL [] [.hole (.int .i64)] [⟨.int .i64, x⟩] = some (args, []) := hargs
    rw [this] at e
    exact (Prod.mk.inj (Option.some.inj e)).1.symm
  have e2 : sv = [instH C3 (firstF x)] := by
    have : instTy [C3] [⟨C3, firstF x⟩] = some [instH C3 (firstF x)] := by
      unfold instTy
      rw [show popD C3 [⟨C3, firstF x⟩] = some (firstF x, []) from popD_self (t := C3)]
      rfl
    exact instTy_exact hsv this
  subst e1 e2
  exact first_fin x hg.1 hg.2

end Go.Proofs.YtdgadbhgcpfajaaDoor

/-
  Chapter 2: what symbolic evaluation stands upon.
-/
namespace Go.Proofs.YtdgadbhgcpfajaaDoor
open Go Go.Am
def ctrs0 : FuncId → List Ctr := addCtr (addCtr (fun _ => []) 9 (ctr0 [.bool] [⟨.bool, true⟩])) 32 cFirst
theorem ctrs0_ok : ∀ g ct, ct ∈ ctrs0 g → CtrOk E2 g ct := addCtr_ok (addCtr_ok (fun g ct h => by cases h) (ctr0_orcB rfl)) cFirst_ok
theorem G2 : GFlat E2 := fun g cs h => by cases h
theorem orc2 : ∀ g, E2.full g = true → ∀ vs, E2.orc g vs = none := fun g h => by cases h
theorem S_ok {ctr : FuncId → List Ctr} {tm : FuncId → Nat → Option Tm} {un : Nat} (h : ∀ g ct, ct ∈ ctr g → CtrOk E2 g ct) : SOkE { E := E2, ctr := ctr, tm := tm, un := un } := ⟨G2, h, orc2⟩
end Go.Proofs.YtdgadbhgcpfajaaDoor

/-
  Printed by a tool of this session: what functions come to.
-/
namespace Go.Proofs.YtdgadbhgcpfajaaDoor
open Go Go.Am
set_option linter.unusedVariables false
def tmOf : FuncId → Nat → Option Tm := fun g i => match Nat.beq g 33 with
  | true => none
  | false => none
noncomputable def SOf : SE := { E := Go.Proofs.YtdgadbhgcpfajaaDoor.E2, ctr := Go.Proofs.YtdgadbhgcpfajaaDoor.ctrs0, tm := tmOf, un := 300 }
theorem Of_fn (n : Nat) (n0 : Int) (n1 : Int) (n2 : Int) :
    fnY SOf loopY [(.hole (.int .u8)), (.hole (.int .u8)), (.hole (.int .u8))] [(.pair (.int .u16) (.pair (.int .u16) (.pair (.int .u16) .unit)))] n 33 [⟨(.int .u8), n0⟩, ⟨(.int .u8), n1⟩, ⟨(.int .u8), n2⟩] =
    (some [⟨(.pair (.int .u16) (.pair (.int .u16) (.pair (.int .u16) .unit))), ((Go.IntKind.wrap Go.IntKind.u16 (Go.IntKind.wrap Go.IntKind.u16 n0 * (257 : Int)), Go.IntKind.wrap Go.IntKind.u16 (Go.IntKind.wrap Go.IntKind.u16 n1 * (257 : Int)), Go.IntKind.wrap Go.IntKind.u16 (Go.IntKind.wrap Go.IntKind.u16 n2 * (257 : Int)), PUnit.unit) : Int × Int × Int × PUnit)⟩]) := by kernel_rfl

def tmSp : FuncId → Nat → Option Tm := fun g i => match Nat.beq g 34 with
  | true => none
  | false => none
noncomputable def SSp : SE := { E := Go.Proofs.YtdgadbhgcpfajaaDoor.E2, ctr := Go.Proofs.YtdgadbhgcpfajaaDoor.ctrs0, tm := tmSp, un := 300 }
theorem Sp_fn (n : Nat) (n0 : Int) :
    fnY SSp loopY [(.hole (.int .i64))] [(.int .u8)] n 34 [⟨(.int .i64), n0⟩] =
    (bif (n0 == (0 : Int)) then
      some [⟨(.int .u8), ((0 : Int) : Int)⟩]
    else
      some [⟨(.int .u8), (Go.IntKind.wrap Go.IntKind.u8 (Go.IntKind.wrap Go.IntKind.i64 ((55 : Int) + Go.IntKind.wrap Go.IntKind.i64 ((40 : Int) * n0))) : Int)⟩]) := by kernel_rfl

def tmFa : FuncId → Nat → Option Tm := fun g i => match Nat.beq g 11 with
  | true => none
  | false => none
noncomputable def SFa : SE := { E := Go.Proofs.YtdgadbhgcpfajaaDoor.E2, ctr := Go.Proofs.YtdgadbhgcpfajaaDoor.ctrs0, tm := tmFa, un := 300 }
theorem Fa_fn (n : Nat) (p0 : Int × Int × Int × PUnit) (p1 : Int × Int × Int × PUnit) :
    fnY SFa loopY [(.hole (.pair (.int .u16) (.pair (.int .u16) (.pair (.int .u16) .unit)))), (.hole (.pair (.int .u16) (.pair (.int .u16) (.pair (.int .u16) .unit))))] [(.int .i64)] n 11 [⟨(.pair (.int .u16) (.pair (.int .u16) (.pair (.int .u16) .unit))), p0⟩, ⟨(.pair (.int .u16) (.pair (.int .u16) (.pair (.int .u16) .unit))), p1⟩] =
    (some [⟨(.int .i64), (Go.IntKind.wrap Go.IntKind.i64 (Go.IntKind.wrap Go.IntKind.i64 (Go.IntKind.wrap Go.IntKind.i64 ((0 : Int) + Go.IntKind.wrap Go.IntKind.i64 (Go.IntKind.wrap Go.IntKind.i64 (Go.IntKind.wrap Go.IntKind.i64 (Go.IntKind.wrap Go.IntKind.u16 (Int.tdiv (Prod.fst p0) (257 : Int))) - Go.IntKind.wrap Go.IntKind.i64 (Go.IntKind.wrap Go.IntKind.u16 (Int.tdiv (Prod.fst p1) (257 : Int)))) * Go.IntKind.wrap Go.IntKind.i64 (Go.IntKind.wrap Go.IntKind.i64 (Go.IntKind.wrap Go.IntKind.u16 (Int.tdiv (Prod.fst p0) (257 : Int))) - Go.IntKind.wrap Go.IntKind.i64 (Go.IntKind.wrap Go.IntKind.u16 (Int.tdiv (Prod.fst p1) (257 : Int)))))) + Go.IntKind.wrap Go.IntKind.i64 (Go.IntKind.wrap Go.IntKind.i64 (Go.IntKind.wrap Go.IntKind.i64 (Go.IntKind.wrap Go.IntKind.u16 (Int.tdiv (Prod.fst (Prod.snd p0)) (257 : Int))) - Go.IntKind.wrap Go.IntKind.i64 (Go.IntKind.wrap Go.IntKind.u16 (Int.tdiv (Prod.fst (Prod.snd p1)) (257 : Int)))) * Go.IntKind.wrap Go.IntKind.i64 (Go.IntKind.wrap Go.IntKind.i64 (Go.IntKind.wrap Go.IntKind.u16 (Int.tdiv (Prod.fst (Prod.snd p0)) (257 : Int))) - Go.IntKind.wrap Go.IntKind.i64 (Go.IntKind.wrap Go.IntKind.u16 (Int.tdiv (Prod.fst (Prod.snd p1)) (257 : Int)))))) + Go.IntKind.wrap Go.IntKind.i64 (Go.IntKind.wrap Go.IntKind.i64 (Go.IntKind.wrap Go.IntKind.i64 (Go.IntKind.wrap Go.IntKind.u16 (Int.tdiv (Prod.fst (Prod.snd (Prod.snd p0))) (257 : Int))) - Go.IntKind.wrap Go.IntKind.i64 (Go.IntKind.wrap Go.IntKind.u16 (Int.tdiv (Prod.fst (Prod.snd (Prod.snd p1))) (257 : Int)))) * Go.IntKind.wrap Go.IntKind.i64 (Go.IntKind.wrap Go.IntKind.i64 (Go.IntKind.wrap Go.IntKind.u16 (Int.tdiv (Prod.fst (Prod.snd (Prod.snd p0))) (257 : Int))) - Go.IntKind.wrap Go.IntKind.i64 (Go.IntKind.wrap Go.IntKind.u16 (Int.tdiv (Prod.fst (Prod.snd (Prod.snd p1))) (257 : Int)))))) : Int)⟩]) := by kernel_rfl

end Go.Proofs.YtdgadbhgcpfajaaDoor

/-
  Chapter 2: contracts of of, step, Far.
-/
namespace Go.Proofs.YtdgadbhgcpfajaaDoor
open Go Go.Am

abbrev D3 : Type := Int × Int × Int × PUnit
/-- A colour of three bytes. -/
def of3 (a b c : Int) : D3 := (IntKind.u16.wrap (IntKind.u16.wrap a * 257), IntKind.u16.wrap (IntKind.u16.wrap b * 257), IntKind.u16.wrap (IntKind.u16.wrap c * 257), ⟨⟩)
def stepF (x : Int) : Int := if x = 0 then 0 else IntKind.u8.wrap (IntKind.i64.wrap (55 + IntKind.i64.wrap (40 * x)))
theorem sp_ok (n : Nat) (x : Int) : fnY SSp loopY [.hole (.int .i64)] [.int .u8] n 34 [⟨.int .i64, x⟩] = some [⟨.int .u8, stepF x⟩] := by
  rw [Sp_fn]
  unfold stepF
  refine bc (fun h => ret1 (dyI ?_)) fun h => ret1 (dyI ?_)
  · rw [if_pos (by simpa using h)]
  · rw [if_neg (by simpa using h)]
/-- A part's distance. -/
def dst (a b : Int) : Int := IntKind.i64.wrap (IntKind.i64.wrap (IntKind.u16.wrap (Int.tdiv a 257)) - IntKind.i64.wrap (IntKind.u16.wrap (Int.tdiv b 257)))
/-- How far two colours are. -/
def farF (p q : D3) : Int := IntKind.i64.wrap (IntKind.i64.wrap (IntKind.i64.wrap (0 + IntKind.i64.wrap (dst p.1 q.1 * dst p.1 q.1)) + IntKind.i64.wrap (dst p.2.1 q.2.1 * dst p.2.1 q.2.1)) + IntKind.i64.wrap (dst p.2.2.1 q.2.2.1 * dst p.2.2.1 q.2.2.1))
theorem fa_ok (n : Nat) (p q : D3) : fnY SFa loopY [.hole C3, .hole C3] [.int .i64] n 11 [⟨C3, p⟩, ⟨C3, q⟩] = some [⟨.int .i64, farF p q⟩] := Fa_fn n p q

def ctrs1 : FuncId → List Ctr := addCtr (addCtr (addCtr ctrs0
  33 (ctr3 (.int .u8) (.int .u8) (.int .u8) [C3] (fun (_ _ _ : Int) => []) fun (a b c : Int) => [⟨C3, of3 a b c⟩]))
  34 (ctr1 (.int .i64) [.int .u8] (fun (_ : Int) => []) fun (x : Int) => [⟨.int .u8, stepF x⟩]))
  11 (ctr2 C3 C3 [.int .i64] (fun (_ _ : D3) => []) fun (p q : D3) => [⟨.int .i64, farF p q⟩])
theorem ctrs1_ok : ∀ g ct, ct ∈ ctrs1 g → CtrOk E2 g ct :=
  addCtr_ok (addCtr_ok (addCtr_ok ctrs0_ok
    (ctr3_ok (S := SOf) (t := .int .u8) (u := .int .u8) (w := .int .u8) (S_ok ctrs0_ok) (fun _ => rfl) rfl fun (a b c : Int) _ => ⟨1, Of_fn 1 a b c⟩))
    (ctr1_ok (S := SSp) (t := .int .i64) (S_ok ctrs0_ok) (fun _ => rfl) rfl fun (x : Int) _ => ⟨1, sp_ok 1 x⟩))
    (ctr2_ok (S := SFa) (t := C3) (u := C3) (S_ok ctrs0_ok) (fun _ => rfl) rfl fun (p q : D3) _ => ⟨1, fa_ok 1 p q⟩)
end Go.Proofs.YtdgadbhgcpfajaaDoor

/-
  Printed by a tool of this session: what functions come to.
-/
namespace Go.Proofs.YtdgadbhgcpfajaaDoor
open Go Go.Am
set_option linter.unusedVariables false
def tmDe : FuncId → Nat → Option Tm := fun g i => match Nat.beq g 15 with
  | true => none
  | false => none
noncomputable def SDe : SE := { E := Go.Proofs.YtdgadbhgcpfajaaDoor.E2, ctr := Go.Proofs.YtdgadbhgcpfajaaDoor.ctrs1, tm := tmDe, un := 300 }
theorem De_fn (n : Nat) (n0 : Int) :
    fnY SDe loopY [(.hole (.int .i64))] [(.pair (.int .u16) (.pair (.int .u16) (.pair (.int .u16) .unit))), .bool] n 15 [⟨(.int .i64), n0⟩] =
    (bif (Decidable.decide (n0 < (0 : Int)) || Decidable.decide ((256 : Int) ≤ n0)) then
      some [⟨(.pair (.int .u16) (.pair (.int .u16) (.pair (.int .u16) .unit))), (((0 : Int), (0 : Int), (0 : Int), PUnit.unit) : Int × Int × Int × PUnit)⟩, ⟨.bool, (Bool.false : Bool)⟩]
    else
      bif (Decidable.decide (n0 < (16 : Int))) then
        need (Decidable.decide ((0 : Int) ≤ n0)) <|
        need (Decidable.decide (n0 < (16 : Int))) <|
        some [⟨(.pair (.int .u16) (.pair (.int .u16) (.pair (.int .u16) .unit))), ((Prod.fst (List.getD Go.Proofs.YtdgadbhgcpfajaaDoor.first3 (Int.toNat n0) ((0 : Int), (0 : Int), (0 : Int))) * (257 : Int), Prod.fst (Prod.snd (List.getD Go.Proofs.YtdgadbhgcpfajaaDoor.first3 (Int.toNat n0) ((0 : Int), (0 : Int), (0 : Int)))) * (257 : Int), Prod.snd (Prod.snd (List.getD Go.Proofs.YtdgadbhgcpfajaaDoor.first3 (Int.toNat n0) ((0 : Int), (0 : Int), (0 : Int)))) * (257 : Int), PUnit.unit) : Int × Int × Int × PUnit)⟩, ⟨.bool, (Bool.true : Bool)⟩]
      else
        bif (Decidable.decide (n0 < (232 : Int))) then
          some [⟨(.pair (.int .u16) (.pair (.int .u16) (.pair (.int .u16) .unit))), ((Go.IntKind.wrap Go.IntKind.u16 (Go.IntKind.wrap Go.IntKind.u16 (Go.Proofs.YtdgadbhgcpfajaaDoor.stepF (Go.IntKind.wrap Go.IntKind.i64 (Int.tdiv (Go.IntKind.wrap Go.IntKind.i64 (Int.tdiv (Go.IntKind.wrap Go.IntKind.i64 (n0 - (16 : Int))) (6 : Int))) (6 : Int)))) * (257 : Int)), Go.IntKind.wrap Go.IntKind.u16 (Go.IntKind.wrap Go.IntKind.u16 (Go.Proofs.YtdgadbhgcpfajaaDoor.stepF (Int.tmod (Go.IntKind.wrap Go.IntKind.i64 (Int.tdiv (Go.IntKind.wrap Go.IntKind.i64 (n0 - (16 : Int))) (6 : Int))) (6 : Int))) * (257 : Int)), Go.IntKind.wrap Go.IntKind.u16 (Go.IntKind.wrap Go.IntKind.u16 (Go.Proofs.YtdgadbhgcpfajaaDoor.stepF (Int.tmod (Go.IntKind.wrap Go.IntKind.i64 (n0 - (16 : Int))) (6 : Int))) * (257 : Int)), PUnit.unit) : Int × Int × Int × PUnit)⟩, ⟨.bool, (Bool.true : Bool)⟩]
        else
          some [⟨(.pair (.int .u16) (.pair (.int .u16) (.pair (.int .u16) .unit))), ((Go.IntKind.wrap Go.IntKind.u16 (Go.IntKind.wrap Go.IntKind.u16 (Go.IntKind.wrap Go.IntKind.u8 (Go.IntKind.wrap Go.IntKind.i64 ((8 : Int) + Go.IntKind.wrap Go.IntKind.i64 ((10 : Int) * Go.IntKind.wrap Go.IntKind.i64 (n0 - (232 : Int)))))) * (257 : Int)), Go.IntKind.wrap Go.IntKind.u16 (Go.IntKind.wrap Go.IntKind.u16 (Go.IntKind.wrap Go.IntKind.u8 (Go.IntKind.wrap Go.IntKind.i64 ((8 : Int) + Go.IntKind.wrap Go.IntKind.i64 ((10 : Int) * Go.IntKind.wrap Go.IntKind.i64 (n0 - (232 : Int)))))) * (257 : Int)), Go.IntKind.wrap Go.IntKind.u16 (Go.IntKind.wrap Go.IntKind.u16 (Go.IntKind.wrap Go.IntKind.u8 (Go.IntKind.wrap Go.IntKind.i64 ((8 : Int) + Go.IntKind.wrap Go.IntKind.i64 ((10 : Int) * Go.IntKind.wrap Go.IntKind.i64 (n0 - (232 : Int)))))) * (257 : Int)), PUnit.unit) : Int × Int × Int × PUnit)⟩, ⟨.bool, (Bool.true : Bool)⟩]) := by kernel_rfl

def Ne_T0 : Tm := { tmps := [(10, (.hole (.int .i64))), (9, (.hole (.int .i64))), (8, (.hole (.list 29 (.pair (.int .u16) (.pair (.int .u16) (.pair (.int .u16) .unit)))))), (5, (.hole (.int .i64))), (2, (.ptr 0 0)), (1, (.hole (.list 29 (.pair (.int .u16) (.pair (.int .u16) (.pair (.int .u16) .unit))))))], objs := [.cells [(.hole (.int .u16)), (.hole (.int .u16)), (.hole (.int .u16))] 29 true] }
def tmNe : FuncId → Nat → Option Tm := fun g i => match Nat.beq g 10 with
  | true => match Nat.beq i 0 with | true => some Ne_T0 | false => none
  | false => none
noncomputable def SNe : SE := { E := Go.Proofs.YtdgadbhgcpfajaaDoor.E2, ctr := Go.Proofs.YtdgadbhgcpfajaaDoor.ctrs1, tm := tmNe, un := 300 }
theorem Ne_L0 (n : Nat) (nx : Nat → List Dy → Option (List Dy)) (m : Nat) (n0 : Int) (n1 : Int) (n2 : Int) (n3 : Int) (n4 : Int) (l5 : List (Int × Int × Int × PUnit)) (n6 : Int) (l7 : List (Int × Int × Int × PUnit)) :
    RL SNe [(.int .i64)] n 10 0 nx (m + 1) [⟨(.int .u16), n0⟩, ⟨(.int .u16), n1⟩, ⟨(.int .u16), n2⟩, ⟨(.int .i64), n3⟩, ⟨(.int .i64), n4⟩, ⟨(.list 29 (.pair (.int .u16) (.pair (.int .u16) (.pair (.int .u16) .unit)))), l5⟩, ⟨(.int .i64), n6⟩, ⟨(.list 29 (.pair (.int .u16) (.pair (.int .u16) (.pair (.int .u16) .unit)))), l7⟩] =
    (bif (Decidable.decide (n3 < n4)) then
      need (Decidable.decide ((0 : Int) ≤ n3)) <|
      need (Decidable.decide (n3 < (↑(List.length l5) : Int))) <|
      need (Decidable.decide (Int.toNat n3 < List.length l5)) <|
      bif (Decidable.decide (n6 < (0 : Int))) then
        RL SNe [(.int .i64)] n 10 0 nx m [⟨(.int .u16), (n0 : Int)⟩, ⟨(.int .u16), (n1 : Int)⟩, ⟨(.int .u16), (n2 : Int)⟩, ⟨(.int .i64), (Go.IntKind.wrap Go.IntKind.i64 (n3 + (1 : Int)) : Int)⟩, ⟨(.int .i64), (n4 : Int)⟩, ⟨(.list 29 (.pair (.int .u16) (.pair (.int .u16) (.pair (.int .u16) .unit)))), (l5 : List (Int × Int × Int × PUnit))⟩, ⟨(.int .i64), (n3 : Int)⟩, ⟨(.list 29 (.pair (.int .u16) (.pair (.int .u16) (.pair (.int .u16) .unit)))), (l7 : List (Int × Int × Int × PUnit))⟩]
      else
        need (Decidable.decide ((0 : Int) ≤ n6)) <|
        need (Decidable.decide (n6 < (↑(List.length l7) : Int))) <|
        need (Decidable.decide (Int.toNat n6 < List.length l7)) <|
        bif (Decidable.decide (Go.Proofs.YtdgadbhgcpfajaaDoor.farF (n0, n1, n2, PUnit.unit) (Prod.fst (List.getD l5 (Int.toNat n3) ((0 : Int), (0 : Int), (0 : Int), PUnit.unit)), Prod.fst (Prod.snd (List.getD l5 (Int.toNat n3) ((0 : Int), (0 : Int), (0 : Int), PUnit.unit))), Prod.fst (Prod.snd (Prod.snd (List.getD l5 (Int.toNat n3) ((0 : Int), (0 : Int), (0 : Int), PUnit.unit)))), PUnit.unit) < Go.Proofs.YtdgadbhgcpfajaaDoor.farF (n0, n1, n2, PUnit.unit) (Prod.fst (List.getD l7 (Int.toNat n6) ((0 : Int), (0 : Int), (0 : Int), PUnit.unit)), Prod.fst (Prod.snd (List.getD l7 (Int.toNat n6) ((0 : Int), (0 : Int), (0 : Int), PUnit.unit))), Prod.fst (Prod.snd (Prod.snd (List.getD l7 (Int.toNat n6) ((0 : Int), (0 : Int), (0 : Int), PUnit.unit)))), PUnit.unit))) then
          RL SNe [(.int .i64)] n 10 0 nx m [⟨(.int .u16), (n0 : Int)⟩, ⟨(.int .u16), (n1 : Int)⟩, ⟨(.int .u16), (n2 : Int)⟩, ⟨(.int .i64), (Go.IntKind.wrap Go.IntKind.i64 (n3 + (1 : Int)) : Int)⟩, ⟨(.int .i64), (n4 : Int)⟩, ⟨(.list 29 (.pair (.int .u16) (.pair (.int .u16) (.pair (.int .u16) .unit)))), (l5 : List (Int × Int × Int × PUnit))⟩, ⟨(.int .i64), (n3 : Int)⟩, ⟨(.list 29 (.pair (.int .u16) (.pair (.int .u16) (.pair (.int .u16) .unit)))), (l7 : List (Int × Int × Int × PUnit))⟩]
        else
          RL SNe [(.int .i64)] n 10 0 nx m [⟨(.int .u16), (n0 : Int)⟩, ⟨(.int .u16), (n1 : Int)⟩, ⟨(.int .u16), (n2 : Int)⟩, ⟨(.int .i64), (Go.IntKind.wrap Go.IntKind.i64 (n3 + (1 : Int)) : Int)⟩, ⟨(.int .i64), (n4 : Int)⟩, ⟨(.list 29 (.pair (.int .u16) (.pair (.int .u16) (.pair (.int .u16) .unit)))), (l5 : List (Int × Int × Int × PUnit))⟩, ⟨(.int .i64), (n6 : Int)⟩, ⟨(.list 29 (.pair (.int .u16) (.pair (.int .u16) (.pair (.int .u16) .unit)))), (l7 : List (Int × Int × Int × PUnit))⟩]
    else
      some [⟨(.int .i64), (n6 : Int)⟩]) := by kernel_rfl
theorem Ne_fn (n : Nat) (p0 : Int × Int × Int × PUnit) (l1 : List (Int × Int × Int × PUnit)) :
    fnY SNe loopY [(.hole (.pair (.int .u16) (.pair (.int .u16) (.pair (.int .u16) .unit)))), (.hole (.list 29 (.pair (.int .u16) (.pair (.int .u16) (.pair (.int .u16) .unit)))))] [(.int .i64)] n 10 [⟨(.pair (.int .u16) (.pair (.int .u16) (.pair (.int .u16) .unit))), p0⟩, ⟨(.list 29 (.pair (.int .u16) (.pair (.int .u16) (.pair (.int .u16) .unit)))), l1⟩] =
    (RL SNe [(.int .i64)] n 10 0 noNx n [⟨(.int .u16), (Prod.fst p0 : Int)⟩, ⟨(.int .u16), (Prod.fst (Prod.snd p0) : Int)⟩, ⟨(.int .u16), (Prod.fst (Prod.snd (Prod.snd p0)) : Int)⟩, ⟨(.int .i64), ((0 : Int) : Int)⟩, ⟨(.int .i64), ((↑(List.length l1) : Int) : Int)⟩, ⟨(.list 29 (.pair (.int .u16) (.pair (.int .u16) (.pair (.int .u16) .unit)))), (l1 : List (Int × Int × Int × PUnit))⟩, ⟨(.int .i64), ((-1 : Int) : Int)⟩, ⟨(.list 29 (.pair (.int .u16) (.pair (.int .u16) (.pair (.int .u16) .unit)))), (l1 : List (Int × Int × Int × PUnit))⟩]) := by kernel_rfl

def tmRe : FuncId → Nat → Option Tm := fun g i => match Nat.beq g 17 with
  | true => none
  | false => none
noncomputable def SRe : SE := { E := Go.Proofs.YtdgadbhgcpfajaaDoor.E2, ctr := Go.Proofs.YtdgadbhgcpfajaaDoor.ctrs1, tm := tmRe, un := 300 }
theorem Re_fn (n : Nat) (p0 : UInt8 × UInt8 × UInt8 × UInt8 × PUnit) (l1 : List (Int × Int × Int × PUnit)) (p2 : Int × Int × Int × PUnit) :
    fnY SRe loopY [(.hole (.pair .byte (.pair .byte (.pair .byte (.pair .byte .unit))))), (.hole (.list 29 (.pair (.int .u16) (.pair (.int .u16) (.pair (.int .u16) .unit))))), (.hole (.pair (.int .u16) (.pair (.int .u16) (.pair (.int .u16) .unit))))] [(.pair (.int .u16) (.pair (.int .u16) (.pair (.int .u16) .unit)))] n 17 [⟨(.pair .byte (.pair .byte (.pair .byte (.pair .byte .unit)))), p0⟩, ⟨(.list 29 (.pair (.int .u16) (.pair (.int .u16) (.pair (.int .u16) .unit)))), l1⟩, ⟨(.pair (.int .u16) (.pair (.int .u16) (.pair (.int .u16) .unit))), p2⟩] =
    (bif ((↑(UInt8.toNat (Prod.fst p0)) : Int) == (2 : Int)) then
      some [⟨(.pair (.int .u16) (.pair (.int .u16) (.pair (.int .u16) .unit))), ((Go.IntKind.wrap Go.IntKind.u16 (Go.IntKind.wrap Go.IntKind.u16 (↑(UInt8.toNat (Prod.fst (Prod.snd p0))) : Int) * (257 : Int)), Go.IntKind.wrap Go.IntKind.u16 (Go.IntKind.wrap Go.IntKind.u16 (↑(UInt8.toNat (Prod.fst (Prod.snd (Prod.snd p0)))) : Int) * (257 : Int)), Go.IntKind.wrap Go.IntKind.u16 (Go.IntKind.wrap Go.IntKind.u16 (↑(UInt8.toNat (Prod.fst (Prod.snd (Prod.snd (Prod.snd p0))))) : Int) * (257 : Int)), PUnit.unit) : Int × Int × Int × PUnit)⟩]
    else
      bif ((↑(UInt8.toNat (Prod.fst p0)) : Int) == (1 : Int) && Decidable.decide (Go.IntKind.wrap Go.IntKind.i64 (↑(UInt8.toNat (Prod.fst (Prod.snd p0))) : Int) < (↑(List.length l1) : Int))) then
        need (Decidable.decide ((↑(UInt8.toNat (Prod.fst (Prod.snd p0))) : Int) < (↑(List.length l1) : Int))) <|
        need (Decidable.decide (Int.toNat (↑(UInt8.toNat (Prod.fst (Prod.snd p0))) : Int) < List.length l1)) <|
        some [⟨(.pair (.int .u16) (.pair (.int .u16) (.pair (.int .u16) .unit))), ((Prod.fst (List.getD l1 (Int.toNat (↑(UInt8.toNat (Prod.fst (Prod.snd p0))) : Int)) ((0 : Int), (0 : Int), (0 : Int), PUnit.unit)), Prod.fst (Prod.snd (List.getD l1 (Int.toNat (↑(UInt8.toNat (Prod.fst (Prod.snd p0))) : Int)) ((0 : Int), (0 : Int), (0 : Int), PUnit.unit))), Prod.fst (Prod.snd (Prod.snd (List.getD l1 (Int.toNat (↑(UInt8.toNat (Prod.fst (Prod.snd p0))) : Int)) ((0 : Int), (0 : Int), (0 : Int), PUnit.unit)))), PUnit.unit) : Int × Int × Int × PUnit)⟩]
      else
        some [⟨(.pair (.int .u16) (.pair (.int .u16) (.pair (.int .u16) .unit))), ((Prod.fst p2, Prod.fst (Prod.snd p2), Prod.fst (Prod.snd (Prod.snd p2)), PUnit.unit) : Int × Int × Int × PUnit)⟩]) := by kernel_rfl

end Go.Proofs.YtdgadbhgcpfajaaDoor

/-
  Chapter 2: contracts of Default, Nearest, Resolve.
-/
namespace Go.Proofs.YtdgadbhgcpfajaaDoor
open Go Go.Am

abbrev z3 : D3 := (0, 0, 0, ⟨⟩)
/-- The palette at first. -/
def defF (i : Int) : D3 :=
  if i < 16 then firstF i
  else if i < 232 then
    of3 (stepF (IntKind.i64.wrap (Int.tdiv (IntKind.i64.wrap (Int.tdiv (IntKind.i64.wrap (i - 16)) 6)) 6))) (stepF (Int.tmod (IntKind.i64.wrap (Int.tdiv (IntKind.i64.wrap (i - 16)) 6)) 6)) (stepF (Int.tmod (IntKind.i64.wrap (i - 16)) 6))
  else of3 (IntKind.u8.wrap (IntKind.i64.wrap (8 + IntKind.i64.wrap (10 * IntKind.i64.wrap (i - 232))))) (IntKind.u8.wrap (IntKind.i64.wrap (8 + IntKind.i64.wrap (10 * IntKind.i64.wrap (i - 232))))) (IntKind.u8.wrap (IntKind.i64.wrap (8 + IntKind.i64.wrap (10 * IntKind.i64.wrap (i - 232)))))
theorem dyC {p q : D3} (h : p = q) : (⟨C3, p⟩ : Dy) = ⟨C3, q⟩ := by rw [h]
theorem de_ok (n : Nat) (i : Int) (h0 : 0 ≤ i) (h1 : i < 256) : fnY SDe loopY [.hole (.int .i64)] [C3, .bool] n 15 [⟨.int .i64, i⟩] = some [⟨C3, defF i⟩, ⟨.bool, true⟩] := by
  rw [De_fn]
  unfold defF
  refine bn (by rw [decide_eq_false (by omega), decide_eq_false (by omega)]; rfl) (bcd (fun h2 => nd (by omega) (nd (by omega) (ret2 (dyC ?_) rfl))) fun h2 => bcd (fun h3 => ret2 (dyC ?_) rfl) fun h3 => ret2 (dyC ?_) rfl)
  · rw [if_pos h2]; rfl
  · rw [if_neg h2, if_pos h3]; rfl
  · rw [if_neg h2, if_neg h3]; rfl

/-- The nearest one, from place i on. -/
def nearGo (p : D3) (l : List D3) : Nat → Nat → Int → Int
  | 0, _, cur => cur
  | k + 1, i, cur => nearGo p l k (i + 1) (if cur < 0 then i else if farF p (l.getD i z3) < farF p (l.getD cur.toNat z3) then i else cur)
def nearF (p : D3) (l : List D3) : Int := nearGo p l l.length 0 (-1)
set_option maxRecDepth 100000 in
theorem ne_loop (n : Nat) (nx : Nat → List Dy → Option (List Dy)) (p : D3) (l : List D3) (hl : l.length ≤ 1000000000) : ∀ (k i : Nat) (cur : Int), i + k = l.length → cur < l.length →
    RL SNe [.int .i64] n 10 0 nx (k + 1) [⟨.int .u16, p.1⟩, ⟨.int .u16, p.2.1⟩, ⟨.int .u16, p.2.2.1⟩, ⟨.int .i64, (i : Int)⟩, ⟨.int .i64, (l.length : Int)⟩, ⟨.list 29 C3, l⟩, ⟨.int .i64, cur⟩, ⟨.list 29 C3, l⟩] = some [⟨.int .i64, nearGo p l k i cur⟩] := by
  intro k
  induction k with
  | zero =>
    intro i cur hi hc
    refine (Ne_L0 n nx 0 _ _ _ _ _ l _ l).trans (bnd (by omega) rfl)
  | succ k ih =>
    intro i cur hi hc
    refine (Ne_L0 n nx (k + 1) _ _ _ _ _ l _ l).trans ?_
    have w : IntKind.i64.wrap ((i : Int) + 1) = ((i + 1 : Nat) : Int) := by rw [w64 (by omega)]; omega
    rw [w, Int.toNat_natCast]
    refine bpd (by omega) (nd (by omega) (nd (by omega) (nd (by omega) (bcd (fun h => ?_) fun h => nd (by omega) (nd (by omega) (nd (by omega) (bcd (fun h2 => ?_) fun h2 => ?_)))))))
    · refine (ih (i + 1) i (by omega) (by omega)).trans ?_
      simp only [nearGo]
      rw [if_pos h]
    · refine (ih (i + 1) i (by omega) (by omega)).trans ?_
      simp only [nearGo]
      rw [if_neg h, if_pos (show farF p (l.getD i z3) < farF p (l.getD cur.toNat z3) from h2)]
    · refine (ih (i + 1) cur (by omega) (by omega)).trans ?_
      simp only [nearGo]
      rw [if_neg h, if_neg (show ¬ farF p (l.getD i z3) < farF p (l.getD cur.toNat z3) from h2)]
set_option maxRecDepth 100000 in
theorem ne_ok (p : D3) (l : List D3) (hl : l.length ≤ 1000000000) : ∃ n, fnY SNe loopY [.hole C3, .hole (.list 29 C3)] [.int .i64] n 10 [⟨C3, p⟩, ⟨.list 29 C3, l⟩] = some [⟨.int .i64, nearF p l⟩] := by
  refine ⟨l.length + 1, ?_⟩
  refine (Ne_fn _ p l).trans (ne_loop _ _ p l hl l.length 0 (-1) (by omega) (by omega))

abbrev Sp4 : Ty := .pair .byte (.pair .byte (.pair .byte (.pair .byte .unit)))
/-- What a spec comes to. -/
def resF (s : UInt8 × UInt8 × UInt8 × UInt8 × PUnit) (l : List D3) (d : D3) : D3 :=
  if (s.1.toNat : Int) = 2 then of3 s.2.1.toNat s.2.2.1.toNat s.2.2.2.1.toNat
  else if (s.1.toNat : Int) = 1 ∧ (s.2.1.toNat : Int) < l.length then l.getD s.2.1.toNat z3 else d
theorem re_ok (n : Nat) (s : UInt8 × UInt8 × UInt8 × UInt8 × PUnit) (l : List D3) (d : D3) : fnY SRe loopY [.hole Sp4, .hole (.list 29 C3), .hole C3] [C3] n 17 [⟨Sp4, s⟩, ⟨.list 29 C3, l⟩, ⟨C3, d⟩] = some [⟨C3, resF s l d⟩] := by
  refine (Re_fn n s l d).trans ?_
  have h := s.2.1.toNat_lt
  rw [w64 (n := (s.2.1.toNat : Int)) (by omega)]
  unfold resF
  refine bc (fun h2 => ret1 (dyC ?_)) fun h2 => bc (fun h3 => ?_) fun h3 => ret1 (dyC ?_)
  · rw [if_pos (by simpa using h2)]; rfl
  · simp only [Bool.and_eq_true, decide_eq_true_eq, beq_iff_eq] at h3
    refine nd (by omega) (nd (by omega) (ret1 (dyC ?_)))
    rw [if_neg (by omega), if_pos h3]
    rfl
  · have h2' : ¬ (s.1.toNat : Int) = 2 := by simpa using h2
    have h3' : ¬ ((s.1.toNat : Int) = 1 ∧ (s.2.1.toNat : Int) < l.length) := fun e => by
      rw [beq_iff_eq.2 e.1, decide_eq_true e.2] at h3
      cases h3
    rw [if_neg h2', if_neg h3']
def ctrs2 : FuncId → List Ctr := addCtr (addCtr (addCtr ctrs1
  15 (ctr1 (.int .i64) [C3, .bool] (fun (i : Int) => [decide (0 ≤ i), decide (i < 256)]) fun (i : Int) => [⟨C3, defF i⟩, ⟨.bool, true⟩]))
  10 (ctr2 C3 (.list 29 C3) [.int .i64] (fun (_ : D3) (l : List D3) => [decide (l.length ≤ 1000000000)]) fun (p : D3) (l : List D3) => [⟨.int .i64, nearF p l⟩]))
  17 (ctr3 Sp4 (.list 29 C3) C3 [C3] (fun (_ : UInt8 × UInt8 × UInt8 × UInt8 × PUnit) (_ : List D3) (_ : D3) => []) fun (s : UInt8 × UInt8 × UInt8 × UInt8 × PUnit) (l : List D3) (d : D3) => [⟨C3, resF s l d⟩])
theorem ctrs2_ok : ∀ g ct, ct ∈ ctrs2 g → CtrOk E2 g ct :=
  addCtr_ok (addCtr_ok (addCtr_ok ctrs1_ok
    (ctr1_ok (S := SDe) (t := .int .i64) (S_ok ctrs1_ok) (fun _ => rfl) rfl fun (i : Int) h => by
      simp only [List.all_cons, id, decide_eq_true_eq, List.all_nil, Bool.and_true, Bool.and_eq_true] at h
      exact ⟨1, de_ok 1 i h.1 h.2⟩))
    (ctr2_ok (S := SNe) (t := C3) (u := .list 29 C3) (S_ok ctrs1_ok) (fun _ => rfl) rfl fun (p : D3) (l : List D3) h => by
      simp only [List.all_cons, id, decide_eq_true_eq, List.all_nil, Bool.and_true] at h
      exact ne_ok p l h))
    (ctr3_ok (S := SRe) (t := Sp4) (u := .list 29 C3) (w := C3) (S_ok ctrs1_ok) (fun _ => rfl) rfl fun (s : UInt8 × UInt8 × UInt8 × UInt8 × PUnit) (l : List D3) (d : D3) _ => ⟨1, re_ok 1 s l d⟩)
end Go.Proofs.YtdgadbhgcpfajaaDoor

/-
  Chapter 2: plain facts of the palette at first, and of the nearest colour.
-/
namespace Go.Proofs.YtdgadbhgcpfajaaDoor
open Go Go.Am

/-- A part that a colour of the palette may have. -/
def OkPart (c : Int) : Prop := 0 ≤ c ∧ c ≤ 65535 ∧ Int.tmod c 257 = 0
instance (c : Int) : Decidable (OkPart c) := by unfold OkPart; exact inferInstance
def OkC (p : D3) : Prop := OkPart p.1 ∧ OkPart p.2.1 ∧ OkPart p.2.2.1
instance (p : D3) : Decidable (OkC p) := by unfold OkC; exact inferInstance
theorem def_ok : ∀ i : Nat, i < 256 → OkC (defF (i : Int)) := by decide +kernel

def cubeP (x : Int) : Int := IntKind.u16.wrap (IntKind.u16.wrap (stepF x) * 257)
def greyP (k : Int) : Int := IntKind.u16.wrap (IntKind.u16.wrap (IntKind.u8.wrap (IntKind.i64.wrap (8 + IntKind.i64.wrap (10 * k)))) * 257)
theorem cube_rise : ∀ x : Nat, x < 6 → ∀ y : Nat, y < 6 → decide (cubeP (x : Int) < cubeP (y : Int)) = decide ((x : Int) < (y : Int)) := by decide +kernel
theorem grey_rise : ∀ x : Nat, x < 24 → ∀ y : Nat, y < 24 → decide (greyP (x : Int) < greyP (y : Int)) = decide ((x : Int) < (y : Int)) := by decide +kernel

theorem def_cube (a : Nat) (h1 : 16 ≤ a) (h2 : a < 232) : defF (a : Int) = (cubeP ((a - 16) / 36 : Nat), cubeP ((a - 16) / 6 % 6 : Nat), cubeP ((a - 16) % 6 : Nat), ⟨⟩) := by
  unfold defF
  rw [if_neg (by omega), if_pos (by omega)]
  have e1 : IntKind.i64.wrap ((a : Int) - 16) = ((a - 16 : Nat) : Int) := by rw [w64 (by omega)]; omega
  have e2 : Int.tdiv ((a - 16 : Nat) : Int) 6 = (((a - 16) / 6 : Nat) : Int) := rfl
  have e3 : IntKind.i64.wrap (((a - 16) / 6 : Nat) : Int) = (((a - 16) / 6 : Nat) : Int) := w64 (by omega)
  have e4 : Int.tdiv (((a - 16) / 6 : Nat) : Int) 6 = (((a - 16) / 6 / 6 : Nat) : Int) := rfl
  have e5 : IntKind.i64.wrap (((a - 16) / 6 / 6 : Nat) : Int) = (((a - 16) / 36 : Nat) : Int) := by rw [w64 (by omega)]; omega
  have e6 : Int.tmod (((a - 16) / 6 : Nat) : Int) 6 = (((a - 16) / 6 % 6 : Nat) : Int) := rfl
  have e7 : Int.tmod ((a - 16 : Nat) : Int) 6 = (((a - 16) % 6 : Nat) : Int) := rfl
  rw [e1, e2, e3, e4, e5, e6, e7]
  rfl
theorem def_grey (a : Nat) (h1 : 232 ≤ a) (h2 : a < 256) : defF (a : Int) = (greyP ((a - 232 : Nat) : Int), greyP ((a - 232 : Nat) : Int), greyP ((a - 232 : Nat) : Int), ⟨⟩) := by
  unfold defF
  rw [if_neg (by omega), if_neg (by omega)]
  have e1 : IntKind.i64.wrap ((a : Int) - 232) = ((a - 232 : Nat) : Int) := by rw [w64 (by omega)]; omega
  rw [e1]
  rfl

/-- How far, without what the machine makes of great numbers. -/
theorem far_eq (p q : D3) (hp : OkC p) (hq : OkC q) : farF p q = (p.1 / 257 - q.1 / 257) * (p.1 / 257 - q.1 / 257) + (p.2.1 / 257 - q.2.1 / 257) * (p.2.1 / 257 - q.2.1 / 257) + (p.2.2.1 / 257 - q.2.2.1 / 257) * (p.2.2.1 / 257 - q.2.2.1 / 257) := by
  have d : ∀ a b : Int, OkPart a → OkPart b → dst a b = a / 257 - b / 257 ∧ -255 ≤ a / 257 - b / 257 ∧ a / 257 - b / 257 ≤ 255 := by
    intro a b ⟨a0, a1, _⟩ ⟨b0, b1, _⟩
    unfold dst
    rw [Int.tdiv_eq_ediv_of_nonneg a0, Int.tdiv_eq_ediv_of_nonneg b0, wu16 (by omega), wu16 (by omega), w64 (n := a / 257) (by omega), w64 (n := b / 257) (by omega), w64 (by omega)]
    omega
  have sq : ∀ x : Int, -255 ≤ x → x ≤ 255 → 0 ≤ x * x ∧ x * x ≤ 65025 := by
    intro x h1 h2
    have h3 : x * x = (x.natAbs : Int) * (x.natAbs : Int) := (Int.natAbs_mul_self' x).symm
    have h4 : x.natAbs ≤ 255 := by omega
    have h5 := Nat.mul_le_mul h4 h4
    rw [h3]
    constructor
    · exact Int.mul_nonneg (by omega) (by omega)
    · have : ((x.natAbs * x.natAbs : Nat) : Int) ≤ 65025 := by omega
      rwa [Int.natCast_mul] at this
  unfold farF
  obtain ⟨d1, l1, u1⟩ := d _ _ hp.1 hq.1
  obtain ⟨d2, l2, u2⟩ := d _ _ hp.2.1 hq.2.1
  obtain ⟨d3, l3, u3⟩ := d _ _ hp.2.2 hq.2.2
  have s1 := sq _ l1 u1
  have s2 := sq _ l2 u2
  have s3 := sq _ l3 u3
  rw [d1, d2, d3]
  generalize (p.1 / 257 - q.1 / 257) * (p.1 / 257 - q.1 / 257) = X at s1 ⊢
  generalize (p.2.1 / 257 - q.2.1 / 257) * (p.2.1 / 257 - q.2.1 / 257) = Y at s2 ⊢
  generalize (p.2.2.1 / 257 - q.2.2.1 / 257) * (p.2.2.1 / 257 - q.2.2.1 / 257) = Z at s3 ⊢
  rw [w64 (n := X) (by omega), w64 (n := 0 + X) (by omega), w64 (n := Y) (by omega), w64 (n := 0 + X + Y) (by omega), w64 (n := Z) (by omega), w64 (by omega)]
  omega
theorem sq_zero {x : Int} (h : x * x = 0) : x = 0 := by
  rcases Int.mul_eq_zero.1 h with h | h <;> exact h
theorem sq_pos (x : Int) : 0 ≤ x * x := by
  rcases Int.le_total 0 x with h | h
  · exact Int.mul_nonneg h h
  · exact Int.mul_nonneg_of_nonpos_of_nonpos h h
theorem far_self (p : D3) (hp : OkC p) : farF p p = 0 := by
  rw [far_eq p p hp hp]
  simp
theorem far_zero (p q : D3) (hp : OkC p) (hq : OkC q) (h : farF p q ≤ 0) : q = p := by
  rw [far_eq p q hp hq] at h
  have a := sq_pos (p.1 / 257 - q.1 / 257)
  have b := sq_pos (p.2.1 / 257 - q.2.1 / 257)
  have c := sq_pos (p.2.2.1 / 257 - q.2.2.1 / 257)
  have x := sq_zero (x := p.1 / 257 - q.1 / 257) (by omega)
  have y := sq_zero (x := p.2.1 / 257 - q.2.1 / 257) (by omega)
  have z := sq_zero (x := p.2.2.1 / 257 - q.2.2.1 / 257) (by omega)
  have key : ∀ u v : Int, OkPart u → OkPart v → u / 257 - v / 257 = 0 → v = u := by
    intro u v ⟨u0, u1, u2⟩ ⟨v0, v1, v2⟩ h
    rw [Int.tmod_eq_emod_of_nonneg u0] at u2
    rw [Int.tmod_eq_emod_of_nonneg v0] at v2
    omega
  exact Prod.ext (key _ _ hp.1 hq.1 x) (Prod.ext (key _ _ hp.2.1 hq.2.1 y) (Prod.ext (key _ _ hp.2.2 hq.2.2 z) rfl))

/-- The nearest one is one of them, and no other is nearer. -/
theorem nearGo_spec (p : D3) (l : List D3) : ∀ (k i : Nat) (cur : Int), i + k = l.length → (cur < 0 ∧ i = 0 ∨ 0 ≤ cur ∧ cur < i ∧ ∀ j, j < i → farF p (l.getD cur.toNat z3) ≤ farF p (l.getD j z3)) →
    (l = [] ∨ 0 ≤ nearGo p l k i cur ∧ nearGo p l k i cur < l.length ∧ ∀ j, j < l.length → farF p (l.getD (nearGo p l k i cur).toNat z3) ≤ farF p (l.getD j z3))
  | 0, i, cur, hi, h => by
    simp only [nearGo]
    rcases h with ⟨_, h0⟩ | ⟨h0, h1, h2⟩
    · exact .inl (List.eq_nil_of_length_eq_zero (by omega))
    · exact .inr ⟨h0, by omega, fun j hj => h2 j (by omega)⟩
  | k + 1, i, cur, hi, h => by
    simp only [nearGo]
    refine nearGo_spec p l k (i + 1) _ (by omega) (.inr ?_)
    rcases h with ⟨h0, h1⟩ | ⟨h0, h1, h2⟩
    · rw [if_pos h0]
      refine ⟨by omega, by omega, fun j hj => ?_⟩
      have : j = i := by omega
      rw [this, Int.toNat_natCast]
      exact Int.le_refl _
    · rw [if_neg (by omega)]
      split
      · rename_i h3
        refine ⟨by omega, by omega, fun j hj => ?_⟩
        rw [Int.toNat_natCast]
        by_cases e : j = i
        · rw [e]; exact Int.le_refl _
        · have := h2 j (by omega); omega
      · rename_i h3
        refine ⟨by omega, by omega, fun j hj => ?_⟩
        by_cases e : j = i
        · rw [e]; omega
        · exact h2 j (by omega)
end Go.Proofs.YtdgadbhgcpfajaaDoor

/-
  Printed by a tool of this session: what functions come to.
-/
namespace Go.Proofs.YtdgadbhgcpfajaaDoor
open Go Go.Am
set_option linter.unusedVariables false
def L3_T0 : Tm := { tmps := [(8, (.hole (.int .i64))), (7, .h 1), (3, (.ptr 0 0)), (1, (.hole (.list 23 (.pair (.int .u16) (.pair (.int .u16) (.pair (.int .u16) .unit)))))), (2, (.hole (.int .u8)))], objs := [.cells [(.hole (.int .u16)), (.hole (.int .u16)), (.hole (.int .u16))] 23 true, .lst 29 (.pair (.int .u16) (.pair (.int .u16) (.pair (.int .u16) .unit))) true], prep := [(7, 29)] }
def L3_T2 : Tm := { tmps := [(10, (.hole (.int .i64))), (9, (.hole (.int .i64))), (7, (.h 1)), (3, (.ptr 0 0)), (2, (.hole (.int .u8)))], objs := [.cells [(.hole (.int .u16)), (.hole (.int .u16)), (.hole (.int .u16))] 23 true, .lst 29 (.pair (.int .u16) (.pair (.int .u16) (.pair (.int .u16) .unit))) false] }
def tmL3 : FuncId → Nat → Option Tm := fun g i => match Nat.beq g 3 with
  | true => match Nat.beq i 0 with | true => some L3_T0 | false => match Nat.beq i 2 with | true => some L3_T2 | false => none
  | false => none
noncomputable def SL3 : SE := { E := Go.Proofs.YtdgadbhgcpfajaaDoor.E2, ctr := Go.Proofs.YtdgadbhgcpfajaaDoor.ctrs2, tm := tmL3, un := 300 }
theorem L3_L0 (n : Nat) (nx : Nat → List Dy → Option (List Dy)) (m : Nat) (l0 : List (Int × Int × Int × PUnit)) (n1 : Int) (n2 : Int) (n3 : Int) (n4 : Int) (l5 : List (Int × Int × Int × PUnit)) (n6 : Int) :
    RL SL3 [.bool] n 3 0 nx (m + 1) [⟨(.list 29 (.pair (.int .u16) (.pair (.int .u16) (.pair (.int .u16) .unit)))), l0⟩, ⟨(.int .u16), n1⟩, ⟨(.int .u16), n2⟩, ⟨(.int .u16), n3⟩, ⟨(.int .i64), n4⟩, ⟨(.list 23 (.pair (.int .u16) (.pair (.int .u16) (.pair (.int .u16) .unit)))), l5⟩, ⟨(.int .u8), n6⟩] =
    (bif (Decidable.decide (n4 < (↑(List.length l5) : Int)) && Decidable.decide (n4 < (20 : Int))) then
      need (Decidable.decide ((0 : Int) ≤ n4)) <|
      need (Decidable.decide (n4 < (↑(List.length l5) : Int))) <|
      need (Decidable.decide (Int.toNat n4 < List.length l5)) <|
      need (Decidable.decide ((List.length l0 + List.length [(Prod.fst (List.getD l5 (Int.toNat n4) ((0 : Int), (0 : Int), (0 : Int), (PUnit.unit : PUnit.{1}))), Prod.fst (Prod.snd (List.getD l5 (Int.toNat n4) ((0 : Int), (0 : Int), (0 : Int), (PUnit.unit : PUnit.{1})))), Prod.fst (Prod.snd (Prod.snd (List.getD l5 (Int.toNat n4) ((0 : Int), (0 : Int), (0 : Int), (PUnit.unit : PUnit.{1}))))), (PUnit.unit : PUnit.{1}))]) * (6 : Nat) ≤ (140737488355328 : Nat))) <|
      need (Decidable.decide (List.length l0 + List.length [(Prod.fst (List.getD l5 (Int.toNat n4) ((0 : Int), (0 : Int), (0 : Int), (PUnit.unit : PUnit.{1}))), Prod.fst (Prod.snd (List.getD l5 (Int.toNat n4) ((0 : Int), (0 : Int), (0 : Int), (PUnit.unit : PUnit.{1})))), Prod.fst (Prod.snd (Prod.snd (List.getD l5 (Int.toNat n4) ((0 : Int), (0 : Int), (0 : Int), (PUnit.unit : PUnit.{1}))))), (PUnit.unit : PUnit.{1}))] ≤ (140737488355328 : Nat))) <|
      RL SL3 [.bool] n 3 0 nx m [⟨(.list 29 (.pair (.int .u16) (.pair (.int .u16) (.pair (.int .u16) .unit)))), (l0 ++ [(Prod.fst (List.getD l5 (Int.toNat n4) ((0 : Int), (0 : Int), (0 : Int), (PUnit.unit : PUnit.{1}))), Prod.fst (Prod.snd (List.getD l5 (Int.toNat n4) ((0 : Int), (0 : Int), (0 : Int), (PUnit.unit : PUnit.{1})))), Prod.fst (Prod.snd (Prod.snd (List.getD l5 (Int.toNat n4) ((0 : Int), (0 : Int), (0 : Int), (PUnit.unit : PUnit.{1}))))), (PUnit.unit : PUnit.{1}))] : List (Int × Int × Int × PUnit))⟩, ⟨(.int .u16), (n1 : Int)⟩, ⟨(.int .u16), (n2 : Int)⟩, ⟨(.int .u16), (n3 : Int)⟩, ⟨(.int .i64), (Go.IntKind.wrap Go.IntKind.i64 (n4 + (1 : Int)) : Int)⟩, ⟨(.list 23 (.pair (.int .u16) (.pair (.int .u16) (.pair (.int .u16) .unit)))), (l5 : List (Int × Int × Int × PUnit))⟩, ⟨(.int .u8), (n6 : Int)⟩]
    else
      need (Decidable.decide (List.length l0 ≤ (1000000000 : Nat))) <|
      bif ((↑(List.length l0) : Int) == (0 : Int)) then
        some [⟨.bool, (Go.Proofs.YtdgadbhgcpfajaaDoor.nearF (n1, n2, n3, (PUnit.unit : PUnit.{1})) l0 == (-1 : Int) : Bool)⟩]
      else
        bif (Decidable.decide (Go.Proofs.YtdgadbhgcpfajaaDoor.nearF (n1, n2, n3, (PUnit.unit : PUnit.{1})) l0 < (0 : Int)) || Decidable.decide ((↑(List.length l0) : Int) ≤ Go.Proofs.YtdgadbhgcpfajaaDoor.nearF (n1, n2, n3, (PUnit.unit : PUnit.{1})) l0)) then
          some [⟨.bool, (Bool.false : Bool)⟩]
        else
          RL SL3 [.bool] n 3 2 nx n [⟨(.list 29 (.pair (.int .u16) (.pair (.int .u16) (.pair (.int .u16) .unit)))), (l0 : List (Int × Int × Int × PUnit))⟩, ⟨(.int .u16), (n1 : Int)⟩, ⟨(.int .u16), (n2 : Int)⟩, ⟨(.int .u16), (n3 : Int)⟩, ⟨(.int .i64), ((0 : Int) : Int)⟩, ⟨(.int .i64), (Go.Proofs.YtdgadbhgcpfajaaDoor.nearF (n1, n2, n3, (PUnit.unit : PUnit.{1})) l0 : Int)⟩, ⟨(.int .u8), (n6 : Int)⟩]) := by kernel_rfl
theorem L3_L2 (n : Nat) (nx : Nat → List Dy → Option (List Dy)) (m : Nat) (l0 : List (Int × Int × Int × PUnit)) (n1 : Int) (n2 : Int) (n3 : Int) (n4 : Int) (n5 : Int) (n6 : Int) :
    RL SL3 [.bool] n 3 2 nx (m + 1) [⟨(.list 29 (.pair (.int .u16) (.pair (.int .u16) (.pair (.int .u16) .unit)))), l0⟩, ⟨(.int .u16), n1⟩, ⟨(.int .u16), n2⟩, ⟨(.int .u16), n3⟩, ⟨(.int .i64), n4⟩, ⟨(.int .i64), n5⟩, ⟨(.int .u8), n6⟩] =
    (bif (Decidable.decide (n4 < (↑(List.length l0) : Int))) then
      need (Decidable.decide ((0 : Int) ≤ n4)) <|
      need (Decidable.decide (n4 < (↑(List.length l0) : Int))) <|
      need (Decidable.decide (Int.toNat n4 < List.length l0)) <|
      need (Decidable.decide ((0 : Int) ≤ n5)) <|
      need (Decidable.decide (n5 < (↑(List.length l0) : Int))) <|
      need (Decidable.decide (Int.toNat n5 < List.length l0)) <|
      bif (Decidable.decide (Go.Proofs.YtdgadbhgcpfajaaDoor.farF (n1, n2, n3, (PUnit.unit : PUnit.{1})) (Prod.fst (List.getD l0 (Int.toNat n4) ((0 : Int), (0 : Int), (0 : Int), (PUnit.unit : PUnit.{1}))), Prod.fst (Prod.snd (List.getD l0 (Int.toNat n4) ((0 : Int), (0 : Int), (0 : Int), (PUnit.unit : PUnit.{1})))), Prod.fst (Prod.snd (Prod.snd (List.getD l0 (Int.toNat n4) ((0 : Int), (0 : Int), (0 : Int), (PUnit.unit : PUnit.{1}))))), (PUnit.unit : PUnit.{1})) < Go.Proofs.YtdgadbhgcpfajaaDoor.farF (n1, n2, n3, (PUnit.unit : PUnit.{1})) (Prod.fst (List.getD l0 (Int.toNat n5) ((0 : Int), (0 : Int), (0 : Int), (PUnit.unit : PUnit.{1}))), Prod.fst (Prod.snd (List.getD l0 (Int.toNat n5) ((0 : Int), (0 : Int), (0 : Int), (PUnit.unit : PUnit.{1})))), Prod.fst (Prod.snd (Prod.snd (List.getD l0 (Int.toNat n5) ((0 : Int), (0 : Int), (0 : Int), (PUnit.unit : PUnit.{1}))))), (PUnit.unit : PUnit.{1})))) then
        some [⟨.bool, (Bool.false : Bool)⟩]
      else
        bif (Go.Proofs.YtdgadbhgcpfajaaDoor.farF (n1, n2, n3, (PUnit.unit : PUnit.{1})) (Prod.fst (List.getD l0 (Int.toNat n4) ((0 : Int), (0 : Int), (0 : Int), (PUnit.unit : PUnit.{1}))), Prod.fst (Prod.snd (List.getD l0 (Int.toNat n4) ((0 : Int), (0 : Int), (0 : Int), (PUnit.unit : PUnit.{1})))), Prod.fst (Prod.snd (Prod.snd (List.getD l0 (Int.toNat n4) ((0 : Int), (0 : Int), (0 : Int), (PUnit.unit : PUnit.{1}))))), (PUnit.unit : PUnit.{1})) == Go.Proofs.YtdgadbhgcpfajaaDoor.farF (n1, n2, n3, (PUnit.unit : PUnit.{1})) (Prod.fst (List.getD l0 (Int.toNat n5) ((0 : Int), (0 : Int), (0 : Int), (PUnit.unit : PUnit.{1}))), Prod.fst (Prod.snd (List.getD l0 (Int.toNat n5) ((0 : Int), (0 : Int), (0 : Int), (PUnit.unit : PUnit.{1})))), Prod.fst (Prod.snd (Prod.snd (List.getD l0 (Int.toNat n5) ((0 : Int), (0 : Int), (0 : Int), (PUnit.unit : PUnit.{1}))))), (PUnit.unit : PUnit.{1}))) then
          bif (Decidable.decide (n4 < n5)) then
            some [⟨.bool, (Bool.false : Bool)⟩]
          else
            need (Decidable.decide ((0 : Int) ≤ n4)) <|
            need (Decidable.decide (n4 < (↑(List.length l0) : Int))) <|
            need (Decidable.decide (Int.toNat n4 < List.length l0)) <|
            bif (Go.Proofs.YtdgadbhgcpfajaaDoor.farF (n1, n2, n3, (PUnit.unit : PUnit.{1})) (Prod.fst (List.getD l0 (Int.toNat n4) ((0 : Int), (0 : Int), (0 : Int), (PUnit.unit : PUnit.{1}))), Prod.fst (Prod.snd (List.getD l0 (Int.toNat n4) ((0 : Int), (0 : Int), (0 : Int), (PUnit.unit : PUnit.{1})))), Prod.fst (Prod.snd (Prod.snd (List.getD l0 (Int.toNat n4) ((0 : Int), (0 : Int), (0 : Int), (PUnit.unit : PUnit.{1}))))), (PUnit.unit : PUnit.{1})) != Go.Proofs.YtdgadbhgcpfajaaDoor.farF (Prod.fst (List.getD l0 (Int.toNat n4) ((0 : Int), (0 : Int), (0 : Int), (PUnit.unit : PUnit.{1}))), Prod.fst (Prod.snd (List.getD l0 (Int.toNat n4) ((0 : Int), (0 : Int), (0 : Int), (PUnit.unit : PUnit.{1})))), Prod.fst (Prod.snd (Prod.snd (List.getD l0 (Int.toNat n4) ((0 : Int), (0 : Int), (0 : Int), (PUnit.unit : PUnit.{1}))))), (PUnit.unit : PUnit.{1})) (n1, n2, n3, (PUnit.unit : PUnit.{1}))) then
              some [⟨.bool, (Bool.false : Bool)⟩]
            else
              need (Decidable.decide ((0 : Int) ≤ n4)) <|
              need (Decidable.decide (n4 < (↑(List.length l0) : Int))) <|
              need (Decidable.decide (Int.toNat n4 < List.length l0)) <|
              bif (Go.IntKind.wrap Go.IntKind.u16 (Int.tdiv (Prod.fst (List.getD l0 (Int.toNat n4) ((0 : Int), (0 : Int), (0 : Int), (PUnit.unit : PUnit.{1})))) (257 : Int)) == Go.IntKind.wrap Go.IntKind.u16 (Int.tdiv n1 (257 : Int))) then
                need (Decidable.decide ((0 : Int) ≤ n4)) <|
                need (Decidable.decide (n4 < (↑(List.length l0) : Int))) <|
                need (Decidable.decide (Int.toNat n4 < List.length l0)) <|
                bif (Go.IntKind.wrap Go.IntKind.u16 (Int.tdiv (Prod.fst (Prod.snd (List.getD l0 (Int.toNat n4) ((0 : Int), (0 : Int), (0 : Int), (PUnit.unit : PUnit.{1}))))) (257 : Int)) == Go.IntKind.wrap Go.IntKind.u16 (Int.tdiv n2 (257 : Int))) then
                  need (Decidable.decide ((0 : Int) ≤ n4)) <|
                  need (Decidable.decide (n4 < (↑(List.length l0) : Int))) <|
                  need (Decidable.decide (Int.toNat n4 < List.length l0)) <|
                  bif (!(Go.Proofs.YtdgadbhgcpfajaaDoor.farF (n1, n2, n3, (PUnit.unit : PUnit.{1})) (Prod.fst (List.getD l0 (Int.toNat n4) ((0 : Int), (0 : Int), (0 : Int), (PUnit.unit : PUnit.{1}))), Prod.fst (Prod.snd (List.getD l0 (Int.toNat n4) ((0 : Int), (0 : Int), (0 : Int), (PUnit.unit : PUnit.{1})))), Prod.fst (Prod.snd (Prod.snd (List.getD l0 (Int.toNat n4) ((0 : Int), (0 : Int), (0 : Int), (PUnit.unit : PUnit.{1}))))), (PUnit.unit : PUnit.{1})) == (0 : Int)) == (Go.IntKind.wrap Go.IntKind.u16 (Int.tdiv (Prod.fst (Prod.snd (Prod.snd (List.getD l0 (Int.toNat n4) ((0 : Int), (0 : Int), (0 : Int), (PUnit.unit : PUnit.{1})))))) (257 : Int)) == Go.IntKind.wrap Go.IntKind.u16 (Int.tdiv n3 (257 : Int)))) then
                    some [⟨.bool, (Bool.false : Bool)⟩]
                  else
                    RL SL3 [.bool] n 3 2 nx m [⟨(.list 29 (.pair (.int .u16) (.pair (.int .u16) (.pair (.int .u16) .unit)))), (l0 : List (Int × Int × Int × PUnit))⟩, ⟨(.int .u16), (n1 : Int)⟩, ⟨(.int .u16), (n2 : Int)⟩, ⟨(.int .u16), (n3 : Int)⟩, ⟨(.int .i64), (Go.IntKind.wrap Go.IntKind.i64 (n4 + (1 : Int)) : Int)⟩, ⟨(.int .i64), (n5 : Int)⟩, ⟨(.int .u8), (n6 : Int)⟩]
                else
                  bif (!(Go.Proofs.YtdgadbhgcpfajaaDoor.farF (n1, n2, n3, (PUnit.unit : PUnit.{1})) (Prod.fst (List.getD l0 (Int.toNat n4) ((0 : Int), (0 : Int), (0 : Int), (PUnit.unit : PUnit.{1}))), Prod.fst (Prod.snd (List.getD l0 (Int.toNat n4) ((0 : Int), (0 : Int), (0 : Int), (PUnit.unit : PUnit.{1})))), Prod.fst (Prod.snd (Prod.snd (List.getD l0 (Int.toNat n4) ((0 : Int), (0 : Int), (0 : Int), (PUnit.unit : PUnit.{1}))))), (PUnit.unit : PUnit.{1})) == (0 : Int)) == Bool.false) then
                    some [⟨.bool, (Bool.false : Bool)⟩]
                  else
                    RL SL3 [.bool] n 3 2 nx m [⟨(.list 29 (.pair (.int .u16) (.pair (.int .u16) (.pair (.int .u16) .unit)))), (l0 : List (Int × Int × Int × PUnit))⟩, ⟨(.int .u16), (n1 : Int)⟩, ⟨(.int .u16), (n2 : Int)⟩, ⟨(.int .u16), (n3 : Int)⟩, ⟨(.int .i64), (Go.IntKind.wrap Go.IntKind.i64 (n4 + (1 : Int)) : Int)⟩, ⟨(.int .i64), (n5 : Int)⟩, ⟨(.int .u8), (n6 : Int)⟩]
              else
                bif (!(Go.Proofs.YtdgadbhgcpfajaaDoor.farF (n1, n2, n3, (PUnit.unit : PUnit.{1})) (Prod.fst (List.getD l0 (Int.toNat n4) ((0 : Int), (0 : Int), (0 : Int), (PUnit.unit : PUnit.{1}))), Prod.fst (Prod.snd (List.getD l0 (Int.toNat n4) ((0 : Int), (0 : Int), (0 : Int), (PUnit.unit : PUnit.{1})))), Prod.fst (Prod.snd (Prod.snd (List.getD l0 (Int.toNat n4) ((0 : Int), (0 : Int), (0 : Int), (PUnit.unit : PUnit.{1}))))), (PUnit.unit : PUnit.{1})) == (0 : Int)) == Bool.false) then
                  some [⟨.bool, (Bool.false : Bool)⟩]
                else
                  RL SL3 [.bool] n 3 2 nx m [⟨(.list 29 (.pair (.int .u16) (.pair (.int .u16) (.pair (.int .u16) .unit)))), (l0 : List (Int × Int × Int × PUnit))⟩, ⟨(.int .u16), (n1 : Int)⟩, ⟨(.int .u16), (n2 : Int)⟩, ⟨(.int .u16), (n3 : Int)⟩, ⟨(.int .i64), (Go.IntKind.wrap Go.IntKind.i64 (n4 + (1 : Int)) : Int)⟩, ⟨(.int .i64), (n5 : Int)⟩, ⟨(.int .u8), (n6 : Int)⟩]
        else
          need (Decidable.decide ((0 : Int) ≤ n4)) <|
          need (Decidable.decide (n4 < (↑(List.length l0) : Int))) <|
          need (Decidable.decide (Int.toNat n4 < List.length l0)) <|
          bif (Go.Proofs.YtdgadbhgcpfajaaDoor.farF (n1, n2, n3, (PUnit.unit : PUnit.{1})) (Prod.fst (List.getD l0 (Int.toNat n4) ((0 : Int), (0 : Int), (0 : Int), (PUnit.unit : PUnit.{1}))), Prod.fst (Prod.snd (List.getD l0 (Int.toNat n4) ((0 : Int), (0 : Int), (0 : Int), (PUnit.unit : PUnit.{1})))), Prod.fst (Prod.snd (Prod.snd (List.getD l0 (Int.toNat n4) ((0 : Int), (0 : Int), (0 : Int), (PUnit.unit : PUnit.{1}))))), (PUnit.unit : PUnit.{1})) != Go.Proofs.YtdgadbhgcpfajaaDoor.farF (Prod.fst (List.getD l0 (Int.toNat n4) ((0 : Int), (0 : Int), (0 : Int), (PUnit.unit : PUnit.{1}))), Prod.fst (Prod.snd (List.getD l0 (Int.toNat n4) ((0 : Int), (0 : Int), (0 : Int), (PUnit.unit : PUnit.{1})))), Prod.fst (Prod.snd (Prod.snd (List.getD l0 (Int.toNat n4) ((0 : Int), (0 : Int), (0 : Int), (PUnit.unit : PUnit.{1}))))), (PUnit.unit : PUnit.{1})) (n1, n2, n3, (PUnit.unit : PUnit.{1}))) then
            some [⟨.bool, (Bool.false : Bool)⟩]
          else
            need (Decidable.decide ((0 : Int) ≤ n4)) <|
            need (Decidable.decide (n4 < (↑(List.length l0) : Int))) <|
            need (Decidable.decide (Int.toNat n4 < List.length l0)) <|
            bif (Go.IntKind.wrap Go.IntKind.u16 (Int.tdiv (Prod.fst (List.getD l0 (Int.toNat n4) ((0 : Int), (0 : Int), (0 : Int), (PUnit.unit : PUnit.{1})))) (257 : Int)) == Go.IntKind.wrap Go.IntKind.u16 (Int.tdiv n1 (257 : Int))) then
              need (Decidable.decide ((0 : Int) ≤ n4)) <|
              need (Decidable.decide (n4 < (↑(List.length l0) : Int))) <|
              need (Decidable.decide (Int.toNat n4 < List.length l0)) <|
              bif (Go.IntKind.wrap Go.IntKind.u16 (Int.tdiv (Prod.fst (Prod.snd (List.getD l0 (Int.toNat n4) ((0 : Int), (0 : Int), (0 : Int), (PUnit.unit : PUnit.{1}))))) (257 : Int)) == Go.IntKind.wrap Go.IntKind.u16 (Int.tdiv n2 (257 : Int))) then
                need (Decidable.decide ((0 : Int) ≤ n4)) <|
                need (Decidable.decide (n4 < (↑(List.length l0) : Int))) <|
                need (Decidable.decide (Int.toNat n4 < List.length l0)) <|
                bif (!(Go.Proofs.YtdgadbhgcpfajaaDoor.farF (n1, n2, n3, (PUnit.unit : PUnit.{1})) (Prod.fst (List.getD l0 (Int.toNat n4) ((0 : Int), (0 : Int), (0 : Int), (PUnit.unit : PUnit.{1}))), Prod.fst (Prod.snd (List.getD l0 (Int.toNat n4) ((0 : Int), (0 : Int), (0 : Int), (PUnit.unit : PUnit.{1})))), Prod.fst (Prod.snd (Prod.snd (List.getD l0 (Int.toNat n4) ((0 : Int), (0 : Int), (0 : Int), (PUnit.unit : PUnit.{1}))))), (PUnit.unit : PUnit.{1})) == (0 : Int)) == (Go.IntKind.wrap Go.IntKind.u16 (Int.tdiv (Prod.fst (Prod.snd (Prod.snd (List.getD l0 (Int.toNat n4) ((0 : Int), (0 : Int), (0 : Int), (PUnit.unit : PUnit.{1})))))) (257 : Int)) == Go.IntKind.wrap Go.IntKind.u16 (Int.tdiv n3 (257 : Int)))) then
                  some [⟨.bool, (Bool.false : Bool)⟩]
                else
                  RL SL3 [.bool] n 3 2 nx m [⟨(.list 29 (.pair (.int .u16) (.pair (.int .u16) (.pair (.int .u16) .unit)))), (l0 : List (Int × Int × Int × PUnit))⟩, ⟨(.int .u16), (n1 : Int)⟩, ⟨(.int .u16), (n2 : Int)⟩, ⟨(.int .u16), (n3 : Int)⟩, ⟨(.int .i64), (Go.IntKind.wrap Go.IntKind.i64 (n4 + (1 : Int)) : Int)⟩, ⟨(.int .i64), (n5 : Int)⟩, ⟨(.int .u8), (n6 : Int)⟩]
              else
                bif (!(Go.Proofs.YtdgadbhgcpfajaaDoor.farF (n1, n2, n3, (PUnit.unit : PUnit.{1})) (Prod.fst (List.getD l0 (Int.toNat n4) ((0 : Int), (0 : Int), (0 : Int), (PUnit.unit : PUnit.{1}))), Prod.fst (Prod.snd (List.getD l0 (Int.toNat n4) ((0 : Int), (0 : Int), (0 : Int), (PUnit.unit : PUnit.{1})))), Prod.fst (Prod.snd (Prod.snd (List.getD l0 (Int.toNat n4) ((0 : Int), (0 : Int), (0 : Int), (PUnit.unit : PUnit.{1}))))), (PUnit.unit : PUnit.{1})) == (0 : Int)) == Bool.false) then
                  some [⟨.bool, (Bool.false : Bool)⟩]
                else
                  RL SL3 [.bool] n 3 2 nx m [⟨(.list 29 (.pair (.int .u16) (.pair (.int .u16) (.pair (.int .u16) .unit)))), (l0 : List (Int × Int × Int × PUnit))⟩, ⟨(.int .u16), (n1 : Int)⟩, ⟨(.int .u16), (n2 : Int)⟩, ⟨(.int .u16), (n3 : Int)⟩, ⟨(.int .i64), (Go.IntKind.wrap Go.IntKind.i64 (n4 + (1 : Int)) : Int)⟩, ⟨(.int .i64), (n5 : Int)⟩, ⟨(.int .u8), (n6 : Int)⟩]
            else
              bif (!(Go.Proofs.YtdgadbhgcpfajaaDoor.farF (n1, n2, n3, (PUnit.unit : PUnit.{1})) (Prod.fst (List.getD l0 (Int.toNat n4) ((0 : Int), (0 : Int), (0 : Int), (PUnit.unit : PUnit.{1}))), Prod.fst (Prod.snd (List.getD l0 (Int.toNat n4) ((0 : Int), (0 : Int), (0 : Int), (PUnit.unit : PUnit.{1})))), Prod.fst (Prod.snd (Prod.snd (List.getD l0 (Int.toNat n4) ((0 : Int), (0 : Int), (0 : Int), (PUnit.unit : PUnit.{1}))))), (PUnit.unit : PUnit.{1})) == (0 : Int)) == Bool.false) then
                some [⟨.bool, (Bool.false : Bool)⟩]
              else
                RL SL3 [.bool] n 3 2 nx m [⟨(.list 29 (.pair (.int .u16) (.pair (.int .u16) (.pair (.int .u16) .unit)))), (l0 : List (Int × Int × Int × PUnit))⟩, ⟨(.int .u16), (n1 : Int)⟩, ⟨(.int .u16), (n2 : Int)⟩, ⟨(.int .u16), (n3 : Int)⟩, ⟨(.int .i64), (Go.IntKind.wrap Go.IntKind.i64 (n4 + (1 : Int)) : Int)⟩, ⟨(.int .i64), (n5 : Int)⟩, ⟨(.int .u8), (n6 : Int)⟩]
    else
      need (!Decidable.decide ((↑(List.length l0) : Int) = (0 : Int))) <|
      need (Decidable.decide ((0 : Int) ≤ Int.tmod (Go.IntKind.wrap Go.IntKind.i64 n6) (↑(List.length l0) : Int))) <|
      need (Decidable.decide (Int.tmod (Go.IntKind.wrap Go.IntKind.i64 n6) (↑(List.length l0) : Int) < (↑(List.length l0) : Int))) <|
      need (Decidable.decide (Int.toNat (Int.tmod (Go.IntKind.wrap Go.IntKind.i64 n6) (↑(List.length l0) : Int)) < List.length l0)) <|
      need (Decidable.decide (List.length l0 ≤ (1000000000 : Nat))) <|
      need (Decidable.decide ((0 : Int) ≤ Go.Proofs.YtdgadbhgcpfajaaDoor.nearF (Prod.fst (List.getD l0 (Int.toNat (Int.tmod (Go.IntKind.wrap Go.IntKind.i64 n6) (↑(List.length l0) : Int))) ((0 : Int), (0 : Int), (0 : Int), (PUnit.unit : PUnit.{1}))), Prod.fst (Prod.snd (List.getD l0 (Int.toNat (Int.tmod (Go.IntKind.wrap Go.IntKind.i64 n6) (↑(List.length l0) : Int))) ((0 : Int), (0 : Int), (0 : Int), (PUnit.unit : PUnit.{1})))), Prod.fst (Prod.snd (Prod.snd (List.getD l0 (Int.toNat (Int.tmod (Go.IntKind.wrap Go.IntKind.i64 n6) (↑(List.length l0) : Int))) ((0 : Int), (0 : Int), (0 : Int), (PUnit.unit : PUnit.{1}))))), (PUnit.unit : PUnit.{1})) l0)) <|
      need (Decidable.decide (Go.Proofs.YtdgadbhgcpfajaaDoor.nearF (Prod.fst (List.getD l0 (Int.toNat (Int.tmod (Go.IntKind.wrap Go.IntKind.i64 n6) (↑(List.length l0) : Int))) ((0 : Int), (0 : Int), (0 : Int), (PUnit.unit : PUnit.{1}))), Prod.fst (Prod.snd (List.getD l0 (Int.toNat (Int.tmod (Go.IntKind.wrap Go.IntKind.i64 n6) (↑(List.length l0) : Int))) ((0 : Int), (0 : Int), (0 : Int), (PUnit.unit : PUnit.{1})))), Prod.fst (Prod.snd (Prod.snd (List.getD l0 (Int.toNat (Int.tmod (Go.IntKind.wrap Go.IntKind.i64 n6) (↑(List.length l0) : Int))) ((0 : Int), (0 : Int), (0 : Int), (PUnit.unit : PUnit.{1}))))), (PUnit.unit : PUnit.{1})) l0 < (↑(List.length l0) : Int))) <|
      need (Decidable.decide (Int.toNat (Go.Proofs.YtdgadbhgcpfajaaDoor.nearF (Prod.fst (List.getD l0 (Int.toNat (Int.tmod (Go.IntKind.wrap Go.IntKind.i64 n6) (↑(List.length l0) : Int))) ((0 : Int), (0 : Int), (0 : Int), (PUnit.unit : PUnit.{1}))), Prod.fst (Prod.snd (List.getD l0 (Int.toNat (Int.tmod (Go.IntKind.wrap Go.IntKind.i64 n6) (↑(List.length l0) : Int))) ((0 : Int), (0 : Int), (0 : Int), (PUnit.unit : PUnit.{1})))), Prod.fst (Prod.snd (Prod.snd (List.getD l0 (Int.toNat (Int.tmod (Go.IntKind.wrap Go.IntKind.i64 n6) (↑(List.length l0) : Int))) ((0 : Int), (0 : Int), (0 : Int), (PUnit.unit : PUnit.{1}))))), (PUnit.unit : PUnit.{1})) l0) < List.length l0)) <|
      some [⟨.bool, (Go.Proofs.YtdgadbhgcpfajaaDoor.farF (Prod.fst (List.getD l0 (Int.toNat (Int.tmod (Go.IntKind.wrap Go.IntKind.i64 n6) (↑(List.length l0) : Int))) ((0 : Int), (0 : Int), (0 : Int), (PUnit.unit : PUnit.{1}))), Prod.fst (Prod.snd (List.getD l0 (Int.toNat (Int.tmod (Go.IntKind.wrap Go.IntKind.i64 n6) (↑(List.length l0) : Int))) ((0 : Int), (0 : Int), (0 : Int), (PUnit.unit : PUnit.{1})))), Prod.fst (Prod.snd (Prod.snd (List.getD l0 (Int.toNat (Int.tmod (Go.IntKind.wrap Go.IntKind.i64 n6) (↑(List.length l0) : Int))) ((0 : Int), (0 : Int), (0 : Int), (PUnit.unit : PUnit.{1}))))), (PUnit.unit : PUnit.{1})) (Prod.fst (List.getD l0 (Int.toNat (Go.Proofs.YtdgadbhgcpfajaaDoor.nearF (Prod.fst (List.getD l0 (Int.toNat (Int.tmod (Go.IntKind.wrap Go.IntKind.i64 n6) (↑(List.length l0) : Int))) ((0 : Int), (0 : Int), (0 : Int), (PUnit.unit : PUnit.{1}))), Prod.fst (Prod.snd (List.getD l0 (Int.toNat (Int.tmod (Go.IntKind.wrap Go.IntKind.i64 n6) (↑(List.length l0) : Int))) ((0 : Int), (0 : Int), (0 : Int), (PUnit.unit : PUnit.{1})))), Prod.fst (Prod.snd (Prod.snd (List.getD l0 (Int.toNat (Int.tmod (Go.IntKind.wrap Go.IntKind.i64 n6) (↑(List.length l0) : Int))) ((0 : Int), (0 : Int), (0 : Int), (PUnit.unit : PUnit.{1}))))), (PUnit.unit : PUnit.{1})) l0)) ((0 : Int), (0 : Int), (0 : Int), (PUnit.unit : PUnit.{1}))), Prod.fst (Prod.snd (List.getD l0 (Int.toNat (Go.Proofs.YtdgadbhgcpfajaaDoor.nearF (Prod.fst (List.getD l0 (Int.toNat (Int.tmod (Go.IntKind.wrap Go.IntKind.i64 n6) (↑(List.length l0) : Int))) ((0 : Int), (0 : Int), (0 : Int), (PUnit.unit : PUnit.{1}))), Prod.fst (Prod.snd (List.getD l0 (Int.toNat (Int.tmod (Go.IntKind.wrap Go.IntKind.i64 n6) (↑(List.length l0) : Int))) ((0 : Int), (0 : Int), (0 : Int), (PUnit.unit : PUnit.{1})))), Prod.fst (Prod.snd (Prod.snd (List.getD l0 (Int.toNat (Int.tmod (Go.IntKind.wrap Go.IntKind.i64 n6) (↑(List.length l0) : Int))) ((0 : Int), (0 : Int), (0 : Int), (PUnit.unit : PUnit.{1}))))), (PUnit.unit : PUnit.{1})) l0)) ((0 : Int), (0 : Int), (0 : Int), (PUnit.unit : PUnit.{1})))), Prod.fst (Prod.snd (Prod.snd (List.getD l0 (Int.toNat (Go.Proofs.YtdgadbhgcpfajaaDoor.nearF (Prod.fst (List.getD l0 (Int.toNat (Int.tmod (Go.IntKind.wrap Go.IntKind.i64 n6) (↑(List.length l0) : Int))) ((0 : Int), (0 : Int), (0 : Int), (PUnit.unit : PUnit.{1}))), Prod.fst (Prod.snd (List.getD l0 (Int.toNat (Int.tmod (Go.IntKind.wrap Go.IntKind.i64 n6) (↑(List.length l0) : Int))) ((0 : Int), (0 : Int), (0 : Int), (PUnit.unit : PUnit.{1})))), Prod.fst (Prod.snd (Prod.snd (List.getD l0 (Int.toNat (Int.tmod (Go.IntKind.wrap Go.IntKind.i64 n6) (↑(List.length l0) : Int))) ((0 : Int), (0 : Int), (0 : Int), (PUnit.unit : PUnit.{1}))))), (PUnit.unit : PUnit.{1})) l0)) ((0 : Int), (0 : Int), (0 : Int), (PUnit.unit : PUnit.{1}))))), (PUnit.unit : PUnit.{1})) == (0 : Int) : Bool)⟩]) := by kernel_rfl
theorem L3_fn (n : Nat) (p0 : Int × Int × Int × PUnit) (l1 : List (Int × Int × Int × PUnit)) (c2 : UInt8) :
    fnY SL3 loopY [(.hole (.pair (.int .u16) (.pair (.int .u16) (.pair (.int .u16) .unit)))), (.hole (.list 23 (.pair (.int .u16) (.pair (.int .u16) (.pair (.int .u16) .unit))))), (.hole .byte)] [.bool] n 3 [⟨(.pair (.int .u16) (.pair (.int .u16) (.pair (.int .u16) .unit))), p0⟩, ⟨(.list 23 (.pair (.int .u16) (.pair (.int .u16) (.pair (.int .u16) .unit)))), l1⟩, ⟨.byte, c2⟩] =
    (RL SL3 [.bool] n 3 0 noNx n [⟨(.list 29 (.pair (.int .u16) (.pair (.int .u16) (.pair (.int .u16) .unit)))), ([] : List (Int × Int × Int × PUnit))⟩, ⟨(.int .u16), (Prod.fst p0 : Int)⟩, ⟨(.int .u16), (Prod.fst (Prod.snd p0) : Int)⟩, ⟨(.int .u16), (Prod.fst (Prod.snd (Prod.snd p0)) : Int)⟩, ⟨(.int .i64), ((0 : Int) : Int)⟩, ⟨(.list 23 (.pair (.int .u16) (.pair (.int .u16) (.pair (.int .u16) .unit)))), (l1 : List (Int × Int × Int × PUnit))⟩, ⟨(.int .u8), ((↑(UInt8.toNat c2) : Int) : Int)⟩]) := by kernel_rfl

end Go.Proofs.YtdgadbhgcpfajaaDoor

/-
  Chapter 2: the law of what is nearest.
-/
namespace Go.Proofs.YtdgadbhgcpfajaaDoor
open Go Go.Am

def RgP (c : Int) : Prop := 0 ≤ c ∧ c ≤ 65535
def RgC (p : D3) : Prop := RgP p.1 ∧ RgP p.2.1 ∧ RgP p.2.2.1
theorem far_eqR (p q : D3) (hp : RgC p) (hq : RgC q) : farF p q = (p.1 / 257 - q.1 / 257) * (p.1 / 257 - q.1 / 257) + (p.2.1 / 257 - q.2.1 / 257) * (p.2.1 / 257 - q.2.1 / 257) + (p.2.2.1 / 257 - q.2.2.1 / 257) * (p.2.2.1 / 257 - q.2.2.1 / 257) := by
  have d : ∀ a b : Int, RgP a → RgP b → dst a b = a / 257 - b / 257 ∧ -255 ≤ a / 257 - b / 257 ∧ a / 257 - b / 257 ≤ 255 := by
    intro a b ⟨a0, a1⟩ ⟨b0, b1⟩
    unfold dst
    rw [Int.tdiv_eq_ediv_of_nonneg a0, Int.tdiv_eq_ediv_of_nonneg b0, wu16 (by omega), wu16 (by omega), w64 (n := a / 257) (by omega), w64 (n := b / 257) (by omega), w64 (by omega)]
    omega
  have sq : ∀ x : Int, -255 ≤ x → x ≤ 255 → 0 ≤ x * x ∧ x * x ≤ 65025 := by
    intro x h1 h2
    have h3 : x * x = (x.natAbs : Int) * (x.natAbs : Int) := (Int.natAbs_mul_self' x).symm
    have h4 : x.natAbs ≤ 255 := by omega
    have h5 := Nat.mul_le_mul h4 h4
    rw [h3]
    constructor
    · exact Int.mul_nonneg (by omega) (by omega)
    · have : ((x.natAbs * x.natAbs : Nat) : Int) ≤ 65025 := by omega
      rwa [Int.natCast_mul] at this
  unfold farF
  obtain ⟨d1, l1, u1⟩ := d _ _ hp.1 hq.1
  obtain ⟨d2, l2, u2⟩ := d _ _ hp.2.1 hq.2.1
  obtain ⟨d3, l3, u3⟩ := d _ _ hp.2.2 hq.2.2
  have s1 := sq _ l1 u1
  have s2 := sq _ l2 u2
  have s3 := sq _ l3 u3
  rw [d1, d2, d3]
  generalize (p.1 / 257 - q.1 / 257) * (p.1 / 257 - q.1 / 257) = X at s1 ⊢
  generalize (p.2.1 / 257 - q.2.1 / 257) * (p.2.1 / 257 - q.2.1 / 257) = Y at s2 ⊢
  generalize (p.2.2.1 / 257 - q.2.2.1 / 257) * (p.2.2.1 / 257 - q.2.2.1 / 257) = Z at s3 ⊢
  rw [w64 (n := X) (by omega), w64 (n := 0 + X) (by omega), w64 (n := Y) (by omega), w64 (n := 0 + X + Y) (by omega), w64 (n := Z) (by omega), w64 (by omega)]
  omega
theorem sq_flip (a b : Int) : (a - b) * (a - b) = (b - a) * (b - a) := by
  rw [← Int.neg_sub b a, Int.neg_mul_neg]
theorem far_sym (p q : D3) (hp : RgC p) (hq : RgC q) : farF p q = farF q p := by
  rw [far_eqR p q hp hq, far_eqR q p hq hp, sq_flip (p.1 / 257) (q.1 / 257), sq_flip (p.2.1 / 257) (q.2.1 / 257), sq_flip (p.2.2.1 / 257) (q.2.2.1 / 257)]
/-- No way between colours of the same bytes, and else there is one. -/
theorem far_zeroR (p q : D3) (hp : RgC p) (hq : RgC q) : (farF p q == 0) = (decide (q.1 / 257 = p.1 / 257) && decide (q.2.1 / 257 = p.2.1 / 257) && decide (q.2.2.1 / 257 = p.2.2.1 / 257)) := by
  rw [far_eqR p q hp hq]
  have a := sq_pos (p.1 / 257 - q.1 / 257)
  have b := sq_pos (p.2.1 / 257 - q.2.1 / 257)
  have c := sq_pos (p.2.2.1 / 257 - q.2.2.1 / 257)
  rw [Bool.eq_iff_iff]
  simp only [beq_iff_eq, Bool.and_eq_true, decide_eq_true_eq]
  constructor
  · intro h
    have x := sq_zero (x := p.1 / 257 - q.1 / 257) (by omega)
    have y := sq_zero (x := p.2.1 / 257 - q.2.1 / 257) (by omega)
    have z := sq_zero (x := p.2.2.1 / 257 - q.2.2.1 / 257) (by omega)
    omega
  · rintro ⟨⟨h1, h2⟩, h3⟩
    rw [h1, h2, h3]
    simp

/-- The nearest one is the first of those that are nearest. -/
theorem nearGo_first (p : D3) (l : List D3) : ∀ (k i : Nat) (cur : Int), i + k = l.length → (cur < 0 ∧ i = 0 ∨ 0 ≤ cur ∧ cur < i ∧ (∀ j, j < i → farF p (l.getD cur.toNat z3) ≤ farF p (l.getD j z3)) ∧ ∀ j : Nat, (j : Int) < cur → farF p (l.getD cur.toNat z3) < farF p (l.getD j z3)) →
    (l = [] ∨ 0 ≤ nearGo p l k i cur ∧ nearGo p l k i cur < l.length ∧ (∀ j, j < l.length → farF p (l.getD (nearGo p l k i cur).toNat z3) ≤ farF p (l.getD j z3)) ∧ ∀ j : Nat, (j : Int) < nearGo p l k i cur → farF p (l.getD (nearGo p l k i cur).toNat z3) < farF p (l.getD j z3))
  | 0, i, cur, hi, h => by
    simp only [nearGo]
    rcases h with ⟨_, h0⟩ | ⟨h0, h1, h2, h3⟩
    · exact .inl (List.eq_nil_of_length_eq_zero (by omega))
    · exact .inr ⟨h0, by omega, fun j hj => h2 j (by omega), h3⟩
  | k + 1, i, cur, hi, h => by
    simp only [nearGo]
    refine nearGo_first p l k (i + 1) _ (by omega) (.inr ?_)
    rcases h with ⟨h0, h1⟩ | ⟨h0, h1, h2, h4⟩
    · rw [if_pos h0]
      refine ⟨by omega, by omega, fun j hj => ?_, fun j hj => by omega⟩
      have : j = i := by omega
      rw [this, Int.toNat_natCast]
      exact Int.le_refl _
    · rw [if_neg (by omega)]
      split
      · rename_i h3
        refine ⟨by omega, by omega, fun j hj => ?_, fun j hj => ?_⟩
        · rw [Int.toNat_natCast]
          by_cases e : j = i
          · rw [e]; exact Int.le_refl _
          · have := h2 j (by omega); omega
        · rw [Int.toNat_natCast]
          have := h2 j (by omega)
          omega
      · rename_i h3
        refine ⟨by omega, by omega, fun j hj => ?_, h4⟩
        by_cases e : j = i
        · rw [e]; omega
        · exact h2 j (by omega)
theorem near_first (p : D3) (l : List D3) (h : l ≠ []) : 0 ≤ nearF p l ∧ nearF p l < l.length ∧ (∀ j, j < l.length → farF p (l.getD (nearF p l).toNat z3) ≤ farF p (l.getD j z3)) ∧ ∀ j : Nat, (j : Int) < nearF p l → farF p (l.getD (nearF p l).toNat z3) < farF p (l.getD j z3) := by
  rcases nearGo_first p l l.length 0 (-1) (by omega) (.inl ⟨by omega, rfl⟩) with h2 | h2
  · exact absurd h2 h
  · exact h2

theorem u_div (c : Int) (h : RgP c) : IntKind.u16.wrap (Int.tdiv c 257) = c / 257 := by
  obtain ⟨h0, h1⟩ := h
  rw [Int.tdiv_eq_ediv_of_nonneg h0, wu16 (by omega)]

set_option maxRecDepth 100000 in
theorem near_loop2 (n : Nat) (nx : Nat → List Dy → Option (List Dy)) (p : D3) (q : List D3) (b : Nat) (hp : RgC p) (hq : ∀ x ∈ q, RgC x) (hb : b < 256) (hlen : q.length ≤ 20) (hne : q ≠ []) : ∀ (k i m : Nat), i + k = q.length → k < m →
    RL SL3 [.bool] n 3 2 nx m [⟨.list 29 C3, q⟩, ⟨.int .u16, p.1⟩, ⟨.int .u16, p.2.1⟩, ⟨.int .u16, p.2.2.1⟩, ⟨.int .i64, (i : Int)⟩, ⟨.int .i64, nearF p q⟩, ⟨.int .u8, (b : Int)⟩] = some [⟨.bool, true⟩] := by
  obtain ⟨r0, r1, r2, r3⟩ := near_first p q hne
  have hpos : 0 < q.length := Nat.pos_of_ne_zero fun e => hne (List.eq_nil_of_length_eq_zero e)
  have at_ : ∀ j, j < q.length → RgC (q.getD j z3) := fun j hj => by
    rw [List.getD_eq_getElem?_getD, List.getElem?_eq_getElem hj]
    exact hq _ (List.getElem_mem hj)
  intro k
  induction k with
  | zero =>
    intro i m hi hm
    obtain ⟨m, rfl⟩ : ∃ j, m = j + 1 := ⟨m - 1, by omega⟩
    refine (L3_L2 n nx m q _ _ _ _ _ _).trans ?_
    have wb : IntKind.i64.wrap (b : Int) = (b : Int) := w64 (by omega)
    have e : Int.tmod (b : Int) (q.length : Int) = ((b % q.length : Nat) : Int) := rfl
    have hlt : b % q.length < q.length := Nat.mod_lt _ hpos
    rw [wb, e, Int.toNat_natCast, Int.toNat_natCast]
    generalize b % q.length = j at hlt
    have eta : ∀ x : D3, (x.1, x.2.1, x.2.2.1, (PUnit.unit : PUnit.{1})) = x := fun x => rfl
    rw [eta]
    obtain ⟨t0, t1, t2, _⟩ := near_first (q.getD j z3) q hne
    have t3 := t2 j hlt
    generalize nearF (q.getD j z3) q = r at t0 t1 t3
    have hz : (farF (q.getD j z3) (q.getD r.toNat z3) == 0) = true := by
      have h0 : farF (q.getD j z3) (q.getD j z3) = 0 := by rw [far_eqR _ _ (at_ j hlt) (at_ j hlt)]; simp
      rw [h0, far_eqR _ _ (at_ j hlt) (at_ r.toNat (by omega))] at t3
      rw [far_eqR _ _ (at_ j hlt) (at_ r.toNat (by omega)), beq_iff_eq]
      have a := sq_pos ((q.getD j z3).1 / 257 - (q.getD r.toNat z3).1 / 257)
      have b := sq_pos ((q.getD j z3).2.1 / 257 - (q.getD r.toNat z3).2.1 / 257)
      have c := sq_pos ((q.getD j z3).2.2.1 / 257 - (q.getD r.toNat z3).2.2.1 / 257)
      omega
    refine bnd (by omega) (nn (by omega) (nd (by omega) (nd (by omega) (nd hlt (nd (by omega) (nd t0 (nd t1 (nd (by omega) (ret1 (dyB hz))))))))))
  | succ k ih =>
    intro i m hi hm
    obtain ⟨m, rfl⟩ : ∃ j, m = j + 1 := ⟨m - 1, by omega⟩
    refine (L3_L2 n nx m q _ _ _ _ _ _).trans ?_
    have w : IntKind.i64.wrap ((i : Int) + 1) = ((i + 1 : Nat) : Int) := by rw [w64 (by omega)]; omega
    have eta : ∀ x : D3, (x.1, x.2.1, x.2.2.1, (PUnit.unit : PUnit.{1})) = x := fun x => rfl
    have hi' : i < q.length := by omega
    have ri := at_ i hi'
    rw [w, Int.toNat_natCast, eta, eta, eta]
    have next := ih (i + 1) m (by omega) (by omega)
    have m2 := r2 i hi'
    have m3 := r3 i
    have sym := far_sym p (q.getD i z3) hp ri
    have fz := far_zeroR p (q.getD i z3) hp ri
    rw [u_div _ ri.1, u_div _ ri.2.1, u_div _ ri.2.2, u_div _ hp.1, u_div _ hp.2.1, u_div _ hp.2.2]
    generalize farF p (q.getD (nearF p q).toNat z3) = F5 at m2 m3 ⊢
    generalize nearF p q = r at r0 r1 m3 next ⊢
    rw [← sym]
    generalize farF p (q.getD i z3) = F4 at m2 m3 fz ⊢
    have tail : ∀ X, X = (need (decide ((0 : Int) ≤ (i : Int))) <| need (decide ((i : Int) < (q.length : Int))) <| need (decide (i < q.length)) <|
        bif (F4 != F4) then some [⟨.bool, false⟩] else
        need (decide ((0 : Int) ≤ (i : Int))) <| need (decide ((i : Int) < (q.length : Int))) <| need (decide (i < q.length)) <|
        bif ((q.getD i z3).1 / 257 == p.1 / 257) then
          need (decide ((0 : Int) ≤ (i : Int))) <| need (decide ((i : Int) < (q.length : Int))) <| need (decide (i < q.length)) <|
          bif ((q.getD i z3).2.1 / 257 == p.2.1 / 257) then
            need (decide ((0 : Int) ≤ (i : Int))) <| need (decide ((i : Int) < (q.length : Int))) <| need (decide (i < q.length)) <|
            bif (!((F4 == 0) == ((q.getD i z3).2.2.1 / 257 == p.2.2.1 / 257))) then some [⟨.bool, false⟩]
            else RL SL3 [.bool] n 3 2 nx m [⟨.list 29 C3, q⟩, ⟨.int .u16, p.1⟩, ⟨.int .u16, p.2.1⟩, ⟨.int .u16, p.2.2.1⟩, ⟨.int .i64, ((i + 1 : Nat) : Int)⟩, ⟨.int .i64, r⟩, ⟨.int .u8, (b : Int)⟩]
          else bif (!((F4 == 0) == false)) then some [⟨.bool, false⟩]
            else RL SL3 [.bool] n 3 2 nx m [⟨.list 29 C3, q⟩, ⟨.int .u16, p.1⟩, ⟨.int .u16, p.2.1⟩, ⟨.int .u16, p.2.2.1⟩, ⟨.int .i64, ((i + 1 : Nat) : Int)⟩, ⟨.int .i64, r⟩, ⟨.int .u8, (b : Int)⟩]
        else bif (!((F4 == 0) == false)) then some [⟨.bool, false⟩]
          else RL SL3 [.bool] n 3 2 nx m [⟨.list 29 C3, q⟩, ⟨.int .u16, p.1⟩, ⟨.int .u16, p.2.1⟩, ⟨.int .u16, p.2.2.1⟩, ⟨.int .i64, ((i + 1 : Nat) : Int)⟩, ⟨.int .i64, r⟩, ⟨.int .u8, (b : Int)⟩]) → X = some [⟨.bool, true⟩] := by
      rintro X rfl
      rw [fz]
      refine nd (by omega) (nd (by omega) (nd hi' (bn (by simp) (nd (by omega) (nd (by omega) (nd hi' (bc (fun h1 => nd (by omega) (nd (by omega) (nd hi' (bc (fun h2 => nd (by omega) (nd (by omega) (nd hi' (bn ?_ next)))) fun h2 => bn ?_ next)))) fun h1 => bn ?_ next)))))))
      · rw [beq_iff_eq] at h1 h2
        rw [decide_eq_true h1, decide_eq_true h2]
        by_cases h3 : (q.getD i z3).2.2.1 / 257 = p.2.2.1 / 257
        · rw [h3]; simp
        · rw [decide_eq_false h3, beq_eq_false_iff_ne.2 h3]; rfl
      · rw [beq_eq_false_iff_ne] at h2
        rw [decide_eq_false h2]; simp
      · rw [beq_eq_false_iff_ne] at h1
        rw [decide_eq_false h1]; simp
    refine bpd (by omega) (nd (by omega) (nd (by omega) (nd hi' (nd r0 (nd r1 (nd (by omega) (bnd (by omega) (bc (fun h1 => bnd (fun h2 => ?_) ?_) fun h1 => ?_))))))))
    · rw [beq_iff_eq] at h1
      have := m3 h2
      omega
    · exact tail _ rfl
    · exact tail _ rfl

set_option maxRecDepth 100000 in
theorem near_loop0 (n : Nat) (hn : 21 ≤ n) (nx : Nat → List Dy → Option (List Dy)) (p : D3) (l : List D3) (b : Nat) (hp : RgC p) (hq : ∀ x ∈ l, RgC x) (hb : b < 256) : ∀ (k i m : Nat), i + k = min 20 l.length → k < m →
    RL SL3 [.bool] n 3 0 nx m [⟨.list 29 C3, l.take i⟩, ⟨.int .u16, p.1⟩, ⟨.int .u16, p.2.1⟩, ⟨.int .u16, p.2.2.1⟩, ⟨.int .i64, (i : Int)⟩, ⟨.list 23 C3, l⟩, ⟨.int .u8, (b : Int)⟩] = some [⟨.bool, true⟩] := by
  intro k
  induction k with
  | zero =>
    intro i m hi hm
    obtain ⟨m, rfl⟩ : ∃ j, m = j + 1 := ⟨m - 1, by omega⟩
    refine (L3_L0 n nx m (l.take i) _ _ _ _ l _).trans ?_
    have eta : (p.1, p.2.1, p.2.2.1, (PUnit.unit : PUnit.{1})) = p := rfl
    rw [eta]
    have hl : (l.take i).length = i := by rw [List.length_take]; omega
    have hsub : ∀ x ∈ l.take i, RgC x := fun x hx => hq x (List.mem_of_mem_take hx)
    generalize l.take i = q at hl hsub ⊢
    refine bn ?_ (nd (by omega) (bc (fun h => ret1 (dyB ?_)) fun h => ?_))
    · rw [Bool.and_eq_false_iff, decide_eq_false_iff_not, decide_eq_false_iff_not]
      omega
    · rw [beq_iff_eq] at h
      have : q = [] := List.eq_nil_of_length_eq_zero (by omega)
      subst this
      rfl
    · rw [beq_eq_false_iff_ne] at h
      have hne : q ≠ [] := fun e => h (by rw [e]; rfl)
      obtain ⟨r0, r1, _⟩ := near_first p q hne
      refine bn (by rw [decide_eq_false (by omega), decide_eq_false (by omega)]; rfl) ?_
      exact near_loop2 n nx p q b hp hsub hb (by omega) hne q.length 0 n (by omega) (by omega)
  | succ k ih =>
    intro i m hi hm
    obtain ⟨m, rfl⟩ : ∃ j, m = j + 1 := ⟨m - 1, by omega⟩
    refine (L3_L0 n nx m (l.take i) _ _ _ _ l _).trans ?_
    have w : IntKind.i64.wrap ((i : Int) + 1) = ((i + 1 : Nat) : Int) := by rw [w64 (by omega)]; omega
    have hi' : i < l.length := by omega
    have hl : (l.take i).length = i := by rw [List.length_take]; omega
    have eta : ((l.getD i z3).1, (l.getD i z3).2.1, (l.getD i z3).2.2.1, (PUnit.unit : PUnit.{1})) = l.getD i z3 := rfl
    rw [w, Int.toNat_natCast, eta, hl]
    refine bp (by rw [Bool.and_eq_true, decide_eq_true_eq, decide_eq_true_eq]; omega) (nd (by omega) (nd (by omega) (nd hi' (nd (by simp only [List.length_singleton]; omega) (nd (by simp only [List.length_singleton]; omega) ?_)))))
    have := ih (i + 1) m (by omega) (by omega)
    rw [List.take_add_one, List.getElem?_eq_getElem hi'] at this
    rw [List.getD_eq_getElem?_getD, List.getElem?_eq_getElem hi']
    exact this

abbrev tysNear : List Ty := [C3, .list 23 C3, .byte]
theorem okRg (p : D3) (h : OkTy C3 p) : RgC p := ⟨h.1, h.2.1, h.2.2.1⟩
set_option maxRecDepth 100000 in
theorem near_law (ds : List Dy) (h : OkDs tysNear ds) : ∃ n, fnY SL3 loopY (tysNear.map .hole) [.bool] n 3 ds = some [⟨.bool, true⟩] := by
  obtain ⟨p, _, rfl, hp, l, _, rfl, hl, c, _, rfl, _, rfl⟩ := h
  refine ⟨30, ?_⟩
  refine (L3_fn 30 p l c).trans ?_
  exact near_loop0 30 (by omega) noNx p l c.toNat (okRg p hp) (fun x hx => okRg x (hl.2 x hx)) (UInt8.toNat_lt c) (min 20 (List.length l)) 0 30 (by omega) (by omega)
end Go.Proofs.YtdgadbhgcpfajaaDoor
