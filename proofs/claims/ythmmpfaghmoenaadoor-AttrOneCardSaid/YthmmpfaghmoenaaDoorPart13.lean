/-
  Texts of this session, one behind the other: AtG9, AtC8, AtOn, AtL4, AtL4b.
-/
import Derived.Test.YthmmpfaghmoenaaDoorPart12
import Derived.KernelRfl
namespace Go.Proofs.YthmmpfaghmoenaaDoor
open Go Go.Am
set_option linter.unusedVariables false
def tmDa : FuncId → Nat → Option Tm := fun g i => match Nat.beq g 11 with
  | true => none
  | false => none
noncomputable def SDa : SE := { E := EP, ctr := c7, tm := tmDa, un := 300, ctrM := m2 }
theorem Da_fn (n : Nat) (p0 : Int × Int × (Int × Int × Int × PUnit) × (Int × Int × Int × PUnit) × PUnit) :
    fnY SDa loopY [(.hole (.pair (.int .u16) (.pair (.int .u8) (.pair (.pair (.int .u8) (.pair (.int .u8) (.pair (.int .u8) .unit))) (.pair (.pair (.int .u8) (.pair (.int .u8) (.pair (.int .u8) .unit))) .unit)))))] [tyA] n 11 [⟨(.pair (.int .u16) (.pair (.int .u8) (.pair (.pair (.int .u8) (.pair (.int .u8) (.pair (.int .u8) .unit))) (.pair (.pair (.int .u8) (.pair (.int .u8) (.pair (.int .u8) .unit))) .unit)))), p0⟩] =
    (bif (Go.IntKind.wrap Go.IntKind.u16 (↑(BitVec.toNat (BitVec.ofInt (16 : Nat) (Int.tmod (Prod.fst p0) (512 : Int)) &&& BitVec.ofInt (16 : Nat) (8 : Int))) : Int) != (0 : Int)) then
      some [⟨tyA, (((Prod.fst (czF (Prod.fst (Prod.snd p0)) (Prod.fst (Prod.fst (Prod.snd (Prod.snd p0))), Prod.fst (Prod.snd (Prod.fst (Prod.snd (Prod.snd p0)))), Prod.fst (Prod.snd (Prod.snd (Prod.fst (Prod.snd (Prod.snd p0))))), ())), Prod.fst (Prod.snd (czF (Prod.fst (Prod.snd p0)) (Prod.fst (Prod.fst (Prod.snd (Prod.snd p0))), Prod.fst (Prod.snd (Prod.fst (Prod.snd (Prod.snd p0)))), Prod.fst (Prod.snd (Prod.snd (Prod.fst (Prod.snd (Prod.snd p0))))), ()))), Prod.fst (Prod.snd (Prod.snd (czF (Prod.fst (Prod.snd p0)) (Prod.fst (Prod.fst (Prod.snd (Prod.snd p0))), Prod.fst (Prod.snd (Prod.fst (Prod.snd (Prod.snd p0)))), Prod.fst (Prod.snd (Prod.snd (Prod.fst (Prod.snd (Prod.snd p0))))), ())))), Prod.fst (Prod.snd (Prod.snd (Prod.snd (czF (Prod.fst (Prod.snd p0)) (Prod.fst (Prod.fst (Prod.snd (Prod.snd p0))), Prod.fst (Prod.snd (Prod.fst (Prod.snd (Prod.snd p0)))), Prod.fst (Prod.snd (Prod.snd (Prod.fst (Prod.snd (Prod.snd p0))))), ()))))), ()), (Prod.fst (czF (Go.IntKind.wrap Go.IntKind.u8 (Int.tdiv (Prod.fst (Prod.snd p0)) (4 : Int))) (Prod.fst (Prod.fst (Prod.snd (Prod.snd (Prod.snd p0)))), Prod.fst (Prod.snd (Prod.fst (Prod.snd (Prod.snd (Prod.snd p0))))), Prod.fst (Prod.snd (Prod.snd (Prod.fst (Prod.snd (Prod.snd (Prod.snd p0)))))), ())), Prod.fst (Prod.snd (czF (Go.IntKind.wrap Go.IntKind.u8 (Int.tdiv (Prod.fst (Prod.snd p0)) (4 : Int))) (Prod.fst (Prod.fst (Prod.snd (Prod.snd (Prod.snd p0)))), Prod.fst (Prod.snd (Prod.fst (Prod.snd (Prod.snd (Prod.snd p0))))), Prod.fst (Prod.snd (Prod.snd (Prod.fst (Prod.snd (Prod.snd (Prod.snd p0)))))), ()))), Prod.fst (Prod.snd (Prod.snd (czF (Go.IntKind.wrap Go.IntKind.u8 (Int.tdiv (Prod.fst (Prod.snd p0)) (4 : Int))) (Prod.fst (Prod.fst (Prod.snd (Prod.snd (Prod.snd p0)))), Prod.fst (Prod.snd (Prod.fst (Prod.snd (Prod.snd (Prod.snd p0))))), Prod.fst (Prod.snd (Prod.snd (Prod.fst (Prod.snd (Prod.snd (Prod.snd p0)))))), ())))), Prod.fst (Prod.snd (Prod.snd (Prod.snd (czF (Go.IntKind.wrap Go.IntKind.u8 (Int.tdiv (Prod.fst (Prod.snd p0)) (4 : Int))) (Prod.fst (Prod.fst (Prod.snd (Prod.snd (Prod.snd p0)))), Prod.fst (Prod.snd (Prod.fst (Prod.snd (Prod.snd (Prod.snd p0))))), Prod.fst (Prod.snd (Prod.snd (Prod.fst (Prod.snd (Prod.snd (Prod.snd p0)))))), ()))))), ()), Go.IntKind.wrap Go.IntKind.u16 (↑(BitVec.toNat (BitVec.ofInt (16 : Nat) (Int.tmod (Prod.fst p0) (512 : Int)) &&& ~~~BitVec.ofInt (16 : Nat) (256 : Int))) : Int), ()) : A0)⟩]
    else
      some [⟨tyA, (((Prod.fst (czF (Prod.fst (Prod.snd p0)) (Prod.fst (Prod.fst (Prod.snd (Prod.snd p0))), Prod.fst (Prod.snd (Prod.fst (Prod.snd (Prod.snd p0)))), Prod.fst (Prod.snd (Prod.snd (Prod.fst (Prod.snd (Prod.snd p0))))), ())), Prod.fst (Prod.snd (czF (Prod.fst (Prod.snd p0)) (Prod.fst (Prod.fst (Prod.snd (Prod.snd p0))), Prod.fst (Prod.snd (Prod.fst (Prod.snd (Prod.snd p0)))), Prod.fst (Prod.snd (Prod.snd (Prod.fst (Prod.snd (Prod.snd p0))))), ()))), Prod.fst (Prod.snd (Prod.snd (czF (Prod.fst (Prod.snd p0)) (Prod.fst (Prod.fst (Prod.snd (Prod.snd p0))), Prod.fst (Prod.snd (Prod.fst (Prod.snd (Prod.snd p0)))), Prod.fst (Prod.snd (Prod.snd (Prod.fst (Prod.snd (Prod.snd p0))))), ())))), Prod.fst (Prod.snd (Prod.snd (Prod.snd (czF (Prod.fst (Prod.snd p0)) (Prod.fst (Prod.fst (Prod.snd (Prod.snd p0))), Prod.fst (Prod.snd (Prod.fst (Prod.snd (Prod.snd p0)))), Prod.fst (Prod.snd (Prod.snd (Prod.fst (Prod.snd (Prod.snd p0))))), ()))))), ()), (Prod.fst (czF (Go.IntKind.wrap Go.IntKind.u8 (Int.tdiv (Prod.fst (Prod.snd p0)) (4 : Int))) (Prod.fst (Prod.fst (Prod.snd (Prod.snd (Prod.snd p0)))), Prod.fst (Prod.snd (Prod.fst (Prod.snd (Prod.snd (Prod.snd p0))))), Prod.fst (Prod.snd (Prod.snd (Prod.fst (Prod.snd (Prod.snd (Prod.snd p0)))))), ())), Prod.fst (Prod.snd (czF (Go.IntKind.wrap Go.IntKind.u8 (Int.tdiv (Prod.fst (Prod.snd p0)) (4 : Int))) (Prod.fst (Prod.fst (Prod.snd (Prod.snd (Prod.snd p0)))), Prod.fst (Prod.snd (Prod.fst (Prod.snd (Prod.snd (Prod.snd p0))))), Prod.fst (Prod.snd (Prod.snd (Prod.fst (Prod.snd (Prod.snd (Prod.snd p0)))))), ()))), Prod.fst (Prod.snd (Prod.snd (czF (Go.IntKind.wrap Go.IntKind.u8 (Int.tdiv (Prod.fst (Prod.snd p0)) (4 : Int))) (Prod.fst (Prod.fst (Prod.snd (Prod.snd (Prod.snd p0)))), Prod.fst (Prod.snd (Prod.fst (Prod.snd (Prod.snd (Prod.snd p0))))), Prod.fst (Prod.snd (Prod.snd (Prod.fst (Prod.snd (Prod.snd (Prod.snd p0)))))), ())))), Prod.fst (Prod.snd (Prod.snd (Prod.snd (czF (Go.IntKind.wrap Go.IntKind.u8 (Int.tdiv (Prod.fst (Prod.snd p0)) (4 : Int))) (Prod.fst (Prod.fst (Prod.snd (Prod.snd (Prod.snd p0)))), Prod.fst (Prod.snd (Prod.fst (Prod.snd (Prod.snd (Prod.snd p0))))), Prod.fst (Prod.snd (Prod.snd (Prod.fst (Prod.snd (Prod.snd (Prod.snd p0)))))), ()))))), ()), Int.tmod (Prod.fst p0) (512 : Int), ()) : A0)⟩]) := by kernel_rfl

end Go.Proofs.YthmmpfaghmoenaaDoor

namespace Go.Proofs.YthmmpfaghmoenaaDoor
open Go Go.Am
def andF (f x : Int) : Int := IntKind.u16.wrap (((BitVec.ofInt 16 f &&& BitVec.ofInt 16 x).toNat : Nat) : Int)
def drA (d : D0) : A0 :=
  if andF (Int.tmod d.1 512) 8 = 0 then (czF d.2.1 d.2.2.1, czF (IntKind.u8.wrap (Int.tdiv d.2.1 4)) d.2.2.2.1, Int.tmod d.1 512, ())
  else (czF d.2.1 d.2.2.1, czF (IntKind.u8.wrap (Int.tdiv d.2.1 4)) d.2.2.2.1, clr1 (Int.tmod d.1 512) 256, ())
theorem da_ok (d : D0) : ∃ n, fnY SDa loopY [.hole tyD] [tyA] n 11 [⟨tyD, d⟩] = some [⟨tyA, drA d⟩] := by
  refine ⟨0, ?_⟩
  rw [Da_fn]
  unfold drA
  by_cases e : andF (Int.tmod d.1 512) 8 = 0
  · rw [if_pos e]
    exact bn (by simp only [bne, Bool.not_eq_false', beq_iff_eq]; exact e) rfl
  · rw [if_neg e]
    exact bp (by simp only [bne, Bool.not_eq_true', beq_eq_false_iff_ne]; exact e) rfl
def cDa : Ctr := ctr1 tyD [tyA] (fun _ => []) fun (d : D0) => [⟨tyA, drA d⟩]
theorem cDa_ok : CtrOk EP 11 cDa := ctr1_ok (S := SDa) (t := tyD) (S_ok c7_ok m2_ok) (fun _ => rfl) rfl fun (d : D0) _ => da_ok d
def c8 : FuncId → List Ctr := addCtr c7 11 cDa
theorem c8_ok : ∀ g ct, ct ∈ c8 g → CtrOk EP g ct := addCtr_ok c7_ok cDa_ok
end Go.Proofs.YthmmpfaghmoenaaDoor

namespace Go.Proofs.YthmmpfaghmoenaaDoor
open Go Go.Am
set_option linter.unusedVariables false
set_option maxRecDepth 100000

def tmOn : FuncId → Nat → Option Tm := fun g i => match Nat.beq g 4 with
  | true => none
  | false => none
noncomputable def SOn : SE := { E := Go.Proofs.YthmmpfaghmoenaaDoor.EP, ctr := Go.Proofs.YthmmpfaghmoenaaDoor.c8, tm := tmOn, un := 300, ctrM := Go.Proofs.YthmmpfaghmoenaaDoor.m2 }

def onR (a b : A0) (n1 : Int) : Option (List Dy) :=
    bif (n1 == (0 : Int)) then
      some [⟨.bool, (b.1.1 == (0 : Int) && (b.1.2.1 == (0 : Int) && (b.1.2.2.1 == (0 : Int) && (b.1.2.2.2.1 == (0 : Int) && Bool.true))) && (b.2.1.1 == (0 : Int) && (b.2.1.2.1 == (0 : Int) && (b.2.1.2.2.1 == (0 : Int) && (b.2.1.2.2.2.1 == (0 : Int) && Bool.true))) && (b.2.2.1 == (0 : Int) && Bool.true)) : Bool)⟩]
    else
      bif (decide ((30 : Int) ≤ n1) && decide (n1 ≤ (37 : Int)) || decide ((90 : Int) ≤ n1) && decide (n1 ≤ (97 : Int)) || n1 == (39 : Int)) then
        bif (b.2.2.1 == a.2.2.1) then
          bif (b.2.1.1 == a.2.1.1 && (b.2.1.2.1 == a.2.1.2.1 && (b.2.1.2.2.1 == a.2.1.2.2.1 && (b.2.1.2.2.2.1 == a.2.1.2.2.2.1 && Bool.true)))) then
            bif (n1 != (39 : Int)) then
              bif (n1 == (39 : Int)) then
                some [⟨.bool, (Bool.true : Bool)⟩]
              else
                some [⟨.bool, (b.1.1 == (1 : Int) && (b.1.2.1 == IntKind.wrap IntKind.u8 (Int.tmod n1 (10 : Int) + IntKind.wrap IntKind.u8 ((8 : Int) * IntKind.wrap IntKind.u8 (Int.tdiv n1 (90 : Int)))) && (b.1.2.2.1 == (0 : Int) && (b.1.2.2.2.1 == (0 : Int) && Bool.true))) : Bool)⟩]
            else
              bif (b.1.1 == (0 : Int) && (b.1.2.1 == (0 : Int) && (b.1.2.2.1 == (0 : Int) && (b.1.2.2.2.1 == (0 : Int) && Bool.true)))) then
                bif (n1 == (39 : Int)) then
                  some [⟨.bool, (Bool.true : Bool)⟩]
                else
                  some [⟨.bool, (b.1.1 == (1 : Int) && (b.1.2.1 == IntKind.wrap IntKind.u8 (Int.tmod n1 (10 : Int) + IntKind.wrap IntKind.u8 ((8 : Int) * IntKind.wrap IntKind.u8 (Int.tdiv n1 (90 : Int)))) && (b.1.2.2.1 == (0 : Int) && (b.1.2.2.2.1 == (0 : Int) && Bool.true))) : Bool)⟩]
              else
                some [⟨.bool, (Bool.false : Bool)⟩]
          else
            some [⟨.bool, (Bool.false : Bool)⟩]
        else
          some [⟨.bool, (Bool.false : Bool)⟩]
      else
        bif (decide ((40 : Int) ≤ n1) && decide (n1 ≤ (47 : Int)) || decide ((100 : Int) ≤ n1) && decide (n1 ≤ (107 : Int)) || n1 == (49 : Int)) then
          bif (b.2.2.1 == a.2.2.1) then
            bif (b.1.1 == a.1.1 && (b.1.2.1 == a.1.2.1 && (b.1.2.2.1 == a.1.2.2.1 && (b.1.2.2.2.1 == a.1.2.2.2.1 && Bool.true)))) then
              bif (n1 != (49 : Int)) then
                bif (n1 == (49 : Int)) then
                  some [⟨.bool, (Bool.true : Bool)⟩]
                else
                  some [⟨.bool, (b.2.1.1 == (1 : Int) && (b.2.1.2.1 == IntKind.wrap IntKind.u8 (Int.tmod n1 (10 : Int) + IntKind.wrap IntKind.u8 ((8 : Int) * IntKind.wrap IntKind.u8 (Int.tdiv n1 (100 : Int)))) && (b.2.1.2.2.1 == (0 : Int) && (b.2.1.2.2.2.1 == (0 : Int) && Bool.true))) : Bool)⟩]
              else
                bif (b.2.1.1 == (0 : Int) && (b.2.1.2.1 == (0 : Int) && (b.2.1.2.2.1 == (0 : Int) && (b.2.1.2.2.2.1 == (0 : Int) && Bool.true)))) then
                  bif (n1 == (49 : Int)) then
                    some [⟨.bool, (Bool.true : Bool)⟩]
                  else
                    some [⟨.bool, (b.2.1.1 == (1 : Int) && (b.2.1.2.1 == IntKind.wrap IntKind.u8 (Int.tmod n1 (10 : Int) + IntKind.wrap IntKind.u8 ((8 : Int) * IntKind.wrap IntKind.u8 (Int.tdiv n1 (100 : Int)))) && (b.2.1.2.2.1 == (0 : Int) && (b.2.1.2.2.2.1 == (0 : Int) && Bool.true))) : Bool)⟩]
                else
                  some [⟨.bool, (Bool.false : Bool)⟩]
            else
              some [⟨.bool, (Bool.false : Bool)⟩]
          else
            some [⟨.bool, (Bool.false : Bool)⟩]
        else
          bif (b.1.1 == a.1.1 && (b.1.2.1 == a.1.2.1 && (b.1.2.2.1 == a.1.2.2.1 && (b.1.2.2.2.1 == a.1.2.2.2.1 && Bool.true))) && (b.2.1.1 == a.2.1.1 && (b.2.1.2.1 == a.2.1.2.1 && (b.2.1.2.2.1 == a.2.1.2.2.1 && (b.2.1.2.2.2.1 == a.2.1.2.2.2.1 && Bool.true))))) then
            bif (n1 == (4 : Int)) then
              bif (n1 == (1 : Int)) then
                some [⟨.bool, (b.2.2.1 == IntKind.wrap IntKind.u16 (↑(BitVec.toNat (BitVec.ofInt (16 : Nat) (IntKind.wrap IntKind.u16 (↑(BitVec.toNat (BitVec.ofInt (16 : Nat) a.2.2.1 &&& ~~~BitVec.ofInt (16 : Nat) (256 : Int))) : Int)) ||| BitVec.ofInt (16 : Nat) (1 : Int))) : Int) : Bool)⟩]
              else
                bif (n1 == (2 : Int)) then
                  some [⟨.bool, (b.2.2.1 == IntKind.wrap IntKind.u16 (↑(BitVec.toNat (BitVec.ofInt (16 : Nat) (IntKind.wrap IntKind.u16 (↑(BitVec.toNat (BitVec.ofInt (16 : Nat) a.2.2.1 &&& ~~~BitVec.ofInt (16 : Nat) (256 : Int))) : Int)) ||| BitVec.ofInt (16 : Nat) (2 : Int))) : Int) : Bool)⟩]
                else
                  bif (n1 == (3 : Int)) then
                    some [⟨.bool, (b.2.2.1 == IntKind.wrap IntKind.u16 (↑(BitVec.toNat (BitVec.ofInt (16 : Nat) (IntKind.wrap IntKind.u16 (↑(BitVec.toNat (BitVec.ofInt (16 : Nat) a.2.2.1 &&& ~~~BitVec.ofInt (16 : Nat) (256 : Int))) : Int)) ||| BitVec.ofInt (16 : Nat) (4 : Int))) : Int) : Bool)⟩]
                  else
                    bif (n1 == (4 : Int)) then
                      some [⟨.bool, (b.2.2.1 == IntKind.wrap IntKind.u16 (↑(BitVec.toNat (BitVec.ofInt (16 : Nat) (IntKind.wrap IntKind.u16 (↑(BitVec.toNat (BitVec.ofInt (16 : Nat) a.2.2.1 &&& ~~~BitVec.ofInt (16 : Nat) (256 : Int))) : Int)) ||| BitVec.ofInt (16 : Nat) (8 : Int))) : Int) : Bool)⟩]
                    else
                      bif (n1 == (5 : Int)) then
                        some [⟨.bool, (b.2.2.1 == IntKind.wrap IntKind.u16 (↑(BitVec.toNat (BitVec.ofInt (16 : Nat) (IntKind.wrap IntKind.u16 (↑(BitVec.toNat (BitVec.ofInt (16 : Nat) a.2.2.1 &&& ~~~BitVec.ofInt (16 : Nat) (256 : Int))) : Int)) ||| BitVec.ofInt (16 : Nat) (16 : Int))) : Int) : Bool)⟩]
                      else
                        bif (n1 == (7 : Int)) then
                          some [⟨.bool, (b.2.2.1 == IntKind.wrap IntKind.u16 (↑(BitVec.toNat (BitVec.ofInt (16 : Nat) (IntKind.wrap IntKind.u16 (↑(BitVec.toNat (BitVec.ofInt (16 : Nat) a.2.2.1 &&& ~~~BitVec.ofInt (16 : Nat) (256 : Int))) : Int)) ||| BitVec.ofInt (16 : Nat) (32 : Int))) : Int) : Bool)⟩]
                        else
                          bif (n1 == (8 : Int)) then
                            some [⟨.bool, (b.2.2.1 == IntKind.wrap IntKind.u16 (↑(BitVec.toNat (BitVec.ofInt (16 : Nat) (IntKind.wrap IntKind.u16 (↑(BitVec.toNat (BitVec.ofInt (16 : Nat) a.2.2.1 &&& ~~~BitVec.ofInt (16 : Nat) (256 : Int))) : Int)) ||| BitVec.ofInt (16 : Nat) (64 : Int))) : Int) : Bool)⟩]
                          else
                            bif (n1 == (9 : Int)) then
                              some [⟨.bool, (b.2.2.1 == IntKind.wrap IntKind.u16 (↑(BitVec.toNat (BitVec.ofInt (16 : Nat) (IntKind.wrap IntKind.u16 (↑(BitVec.toNat (BitVec.ofInt (16 : Nat) a.2.2.1 &&& ~~~BitVec.ofInt (16 : Nat) (256 : Int))) : Int)) ||| BitVec.ofInt (16 : Nat) (128 : Int))) : Int) : Bool)⟩]
                            else
                              bif (n1 == (21 : Int)) then
                                some [⟨.bool, (b.2.2.1 == IntKind.wrap IntKind.u16 (↑(BitVec.toNat (BitVec.ofInt (16 : Nat) (IntKind.wrap IntKind.u16 (↑(BitVec.toNat (BitVec.ofInt (16 : Nat) a.2.2.1 &&& ~~~BitVec.ofInt (16 : Nat) (256 : Int))) : Int)) ||| BitVec.ofInt (16 : Nat) (256 : Int))) : Int) : Bool)⟩]
                              else
                                some [⟨.bool, (b.2.2.1 == IntKind.wrap IntKind.u16 (↑(BitVec.toNat (BitVec.ofInt (16 : Nat) (IntKind.wrap IntKind.u16 (↑(BitVec.toNat (BitVec.ofInt (16 : Nat) a.2.2.1 &&& ~~~BitVec.ofInt (16 : Nat) (256 : Int))) : Int)) ||| BitVec.ofInt (16 : Nat) (0 : Int))) : Int) : Bool)⟩]
            else
              bif (n1 == (21 : Int)) then
                bif (n1 == (1 : Int)) then
                  some [⟨.bool, (b.2.2.1 == IntKind.wrap IntKind.u16 (↑(BitVec.toNat (BitVec.ofInt (16 : Nat) (IntKind.wrap IntKind.u16 (↑(BitVec.toNat (BitVec.ofInt (16 : Nat) a.2.2.1 &&& ~~~BitVec.ofInt (16 : Nat) (8 : Int))) : Int)) ||| BitVec.ofInt (16 : Nat) (1 : Int))) : Int) : Bool)⟩]
                else
                  bif (n1 == (2 : Int)) then
                    some [⟨.bool, (b.2.2.1 == IntKind.wrap IntKind.u16 (↑(BitVec.toNat (BitVec.ofInt (16 : Nat) (IntKind.wrap IntKind.u16 (↑(BitVec.toNat (BitVec.ofInt (16 : Nat) a.2.2.1 &&& ~~~BitVec.ofInt (16 : Nat) (8 : Int))) : Int)) ||| BitVec.ofInt (16 : Nat) (2 : Int))) : Int) : Bool)⟩]
                  else
                    bif (n1 == (3 : Int)) then
                      some [⟨.bool, (b.2.2.1 == IntKind.wrap IntKind.u16 (↑(BitVec.toNat (BitVec.ofInt (16 : Nat) (IntKind.wrap IntKind.u16 (↑(BitVec.toNat (BitVec.ofInt (16 : Nat) a.2.2.1 &&& ~~~BitVec.ofInt (16 : Nat) (8 : Int))) : Int)) ||| BitVec.ofInt (16 : Nat) (4 : Int))) : Int) : Bool)⟩]
                    else
                      bif (n1 == (4 : Int)) then
                        some [⟨.bool, (b.2.2.1 == IntKind.wrap IntKind.u16 (↑(BitVec.toNat (BitVec.ofInt (16 : Nat) (IntKind.wrap IntKind.u16 (↑(BitVec.toNat (BitVec.ofInt (16 : Nat) a.2.2.1 &&& ~~~BitVec.ofInt (16 : Nat) (8 : Int))) : Int)) ||| BitVec.ofInt (16 : Nat) (8 : Int))) : Int) : Bool)⟩]
                      else
                        bif (n1 == (5 : Int)) then
                          some [⟨.bool, (b.2.2.1 == IntKind.wrap IntKind.u16 (↑(BitVec.toNat (BitVec.ofInt (16 : Nat) (IntKind.wrap IntKind.u16 (↑(BitVec.toNat (BitVec.ofInt (16 : Nat) a.2.2.1 &&& ~~~BitVec.ofInt (16 : Nat) (8 : Int))) : Int)) ||| BitVec.ofInt (16 : Nat) (16 : Int))) : Int) : Bool)⟩]
                        else
                          bif (n1 == (7 : Int)) then
                            some [⟨.bool, (b.2.2.1 == IntKind.wrap IntKind.u16 (↑(BitVec.toNat (BitVec.ofInt (16 : Nat) (IntKind.wrap IntKind.u16 (↑(BitVec.toNat (BitVec.ofInt (16 : Nat) a.2.2.1 &&& ~~~BitVec.ofInt (16 : Nat) (8 : Int))) : Int)) ||| BitVec.ofInt (16 : Nat) (32 : Int))) : Int) : Bool)⟩]
                          else
                            bif (n1 == (8 : Int)) then
                              some [⟨.bool, (b.2.2.1 == IntKind.wrap IntKind.u16 (↑(BitVec.toNat (BitVec.ofInt (16 : Nat) (IntKind.wrap IntKind.u16 (↑(BitVec.toNat (BitVec.ofInt (16 : Nat) a.2.2.1 &&& ~~~BitVec.ofInt (16 : Nat) (8 : Int))) : Int)) ||| BitVec.ofInt (16 : Nat) (64 : Int))) : Int) : Bool)⟩]
                            else
                              bif (n1 == (9 : Int)) then
                                some [⟨.bool, (b.2.2.1 == IntKind.wrap IntKind.u16 (↑(BitVec.toNat (BitVec.ofInt (16 : Nat) (IntKind.wrap IntKind.u16 (↑(BitVec.toNat (BitVec.ofInt (16 : Nat) a.2.2.1 &&& ~~~BitVec.ofInt (16 : Nat) (8 : Int))) : Int)) ||| BitVec.ofInt (16 : Nat) (128 : Int))) : Int) : Bool)⟩]
                              else
                                bif (n1 == (21 : Int)) then
                                  some [⟨.bool, (b.2.2.1 == IntKind.wrap IntKind.u16 (↑(BitVec.toNat (BitVec.ofInt (16 : Nat) (IntKind.wrap IntKind.u16 (↑(BitVec.toNat (BitVec.ofInt (16 : Nat) a.2.2.1 &&& ~~~BitVec.ofInt (16 : Nat) (8 : Int))) : Int)) ||| BitVec.ofInt (16 : Nat) (256 : Int))) : Int) : Bool)⟩]
                                else
                                  some [⟨.bool, (b.2.2.1 == IntKind.wrap IntKind.u16 (↑(BitVec.toNat (BitVec.ofInt (16 : Nat) (IntKind.wrap IntKind.u16 (↑(BitVec.toNat (BitVec.ofInt (16 : Nat) a.2.2.1 &&& ~~~BitVec.ofInt (16 : Nat) (8 : Int))) : Int)) ||| BitVec.ofInt (16 : Nat) (0 : Int))) : Int) : Bool)⟩]
              else
                bif (n1 == (22 : Int)) then
                  bif (n1 == (1 : Int)) then
                    some [⟨.bool, (b.2.2.1 == IntKind.wrap IntKind.u16 (↑(BitVec.toNat (BitVec.ofInt (16 : Nat) (IntKind.wrap IntKind.u16 (↑(BitVec.toNat (BitVec.ofInt (16 : Nat) a.2.2.1 &&& ~~~BitVec.ofInt (16 : Nat) (3 : Int))) : Int)) ||| BitVec.ofInt (16 : Nat) (1 : Int))) : Int) : Bool)⟩]
                  else
                    bif (n1 == (2 : Int)) then
                      some [⟨.bool, (b.2.2.1 == IntKind.wrap IntKind.u16 (↑(BitVec.toNat (BitVec.ofInt (16 : Nat) (IntKind.wrap IntKind.u16 (↑(BitVec.toNat (BitVec.ofInt (16 : Nat) a.2.2.1 &&& ~~~BitVec.ofInt (16 : Nat) (3 : Int))) : Int)) ||| BitVec.ofInt (16 : Nat) (2 : Int))) : Int) : Bool)⟩]
                    else
                      bif (n1 == (3 : Int)) then
                        some [⟨.bool, (b.2.2.1 == IntKind.wrap IntKind.u16 (↑(BitVec.toNat (BitVec.ofInt (16 : Nat) (IntKind.wrap IntKind.u16 (↑(BitVec.toNat (BitVec.ofInt (16 : Nat) a.2.2.1 &&& ~~~BitVec.ofInt (16 : Nat) (3 : Int))) : Int)) ||| BitVec.ofInt (16 : Nat) (4 : Int))) : Int) : Bool)⟩]
                      else
                        bif (n1 == (4 : Int)) then
                          some [⟨.bool, (b.2.2.1 == IntKind.wrap IntKind.u16 (↑(BitVec.toNat (BitVec.ofInt (16 : Nat) (IntKind.wrap IntKind.u16 (↑(BitVec.toNat (BitVec.ofInt (16 : Nat) a.2.2.1 &&& ~~~BitVec.ofInt (16 : Nat) (3 : Int))) : Int)) ||| BitVec.ofInt (16 : Nat) (8 : Int))) : Int) : Bool)⟩]
                        else
                          bif (n1 == (5 : Int)) then
                            some [⟨.bool, (b.2.2.1 == IntKind.wrap IntKind.u16 (↑(BitVec.toNat (BitVec.ofInt (16 : Nat) (IntKind.wrap IntKind.u16 (↑(BitVec.toNat (BitVec.ofInt (16 : Nat) a.2.2.1 &&& ~~~BitVec.ofInt (16 : Nat) (3 : Int))) : Int)) ||| BitVec.ofInt (16 : Nat) (16 : Int))) : Int) : Bool)⟩]
                          else
                            bif (n1 == (7 : Int)) then
                              some [⟨.bool, (b.2.2.1 == IntKind.wrap IntKind.u16 (↑(BitVec.toNat (BitVec.ofInt (16 : Nat) (IntKind.wrap IntKind.u16 (↑(BitVec.toNat (BitVec.ofInt (16 : Nat) a.2.2.1 &&& ~~~BitVec.ofInt (16 : Nat) (3 : Int))) : Int)) ||| BitVec.ofInt (16 : Nat) (32 : Int))) : Int) : Bool)⟩]
                            else
                              bif (n1 == (8 : Int)) then
                                some [⟨.bool, (b.2.2.1 == IntKind.wrap IntKind.u16 (↑(BitVec.toNat (BitVec.ofInt (16 : Nat) (IntKind.wrap IntKind.u16 (↑(BitVec.toNat (BitVec.ofInt (16 : Nat) a.2.2.1 &&& ~~~BitVec.ofInt (16 : Nat) (3 : Int))) : Int)) ||| BitVec.ofInt (16 : Nat) (64 : Int))) : Int) : Bool)⟩]
                              else
                                bif (n1 == (9 : Int)) then
                                  some [⟨.bool, (b.2.2.1 == IntKind.wrap IntKind.u16 (↑(BitVec.toNat (BitVec.ofInt (16 : Nat) (IntKind.wrap IntKind.u16 (↑(BitVec.toNat (BitVec.ofInt (16 : Nat) a.2.2.1 &&& ~~~BitVec.ofInt (16 : Nat) (3 : Int))) : Int)) ||| BitVec.ofInt (16 : Nat) (128 : Int))) : Int) : Bool)⟩]
                                else
                                  bif (n1 == (21 : Int)) then
                                    some [⟨.bool, (b.2.2.1 == IntKind.wrap IntKind.u16 (↑(BitVec.toNat (BitVec.ofInt (16 : Nat) (IntKind.wrap IntKind.u16 (↑(BitVec.toNat (BitVec.ofInt (16 : Nat) a.2.2.1 &&& ~~~BitVec.ofInt (16 : Nat) (3 : Int))) : Int)) ||| BitVec.ofInt (16 : Nat) (256 : Int))) : Int) : Bool)⟩]
                                  else
                                    some [⟨.bool, (b.2.2.1 == IntKind.wrap IntKind.u16 (↑(BitVec.toNat (BitVec.ofInt (16 : Nat) (IntKind.wrap IntKind.u16 (↑(BitVec.toNat (BitVec.ofInt (16 : Nat) a.2.2.1 &&& ~~~BitVec.ofInt (16 : Nat) (3 : Int))) : Int)) ||| BitVec.ofInt (16 : Nat) (0 : Int))) : Int) : Bool)⟩]
                else
                  bif (n1 == (23 : Int)) then
                    bif (n1 == (1 : Int)) then
                      some [⟨.bool, (b.2.2.1 == IntKind.wrap IntKind.u16 (↑(BitVec.toNat (BitVec.ofInt (16 : Nat) (IntKind.wrap IntKind.u16 (↑(BitVec.toNat (BitVec.ofInt (16 : Nat) a.2.2.1 &&& ~~~BitVec.ofInt (16 : Nat) (4 : Int))) : Int)) ||| BitVec.ofInt (16 : Nat) (1 : Int))) : Int) : Bool)⟩]
                    else
                      bif (n1 == (2 : Int)) then
                        some [⟨.bool, (b.2.2.1 == IntKind.wrap IntKind.u16 (↑(BitVec.toNat (BitVec.ofInt (16 : Nat) (IntKind.wrap IntKind.u16 (↑(BitVec.toNat (BitVec.ofInt (16 : Nat) a.2.2.1 &&& ~~~BitVec.ofInt (16 : Nat) (4 : Int))) : Int)) ||| BitVec.ofInt (16 : Nat) (2 : Int))) : Int) : Bool)⟩]
                      else
                        bif (n1 == (3 : Int)) then
                          some [⟨.bool, (b.2.2.1 == IntKind.wrap IntKind.u16 (↑(BitVec.toNat (BitVec.ofInt (16 : Nat) (IntKind.wrap IntKind.u16 (↑(BitVec.toNat (BitVec.ofInt (16 : Nat) a.2.2.1 &&& ~~~BitVec.ofInt (16 : Nat) (4 : Int))) : Int)) ||| BitVec.ofInt (16 : Nat) (4 : Int))) : Int) : Bool)⟩]
                        else
                          bif (n1 == (4 : Int)) then
                            some [⟨.bool, (b.2.2.1 == IntKind.wrap IntKind.u16 (↑(BitVec.toNat (BitVec.ofInt (16 : Nat) (IntKind.wrap IntKind.u16 (↑(BitVec.toNat (BitVec.ofInt (16 : Nat) a.2.2.1 &&& ~~~BitVec.ofInt (16 : Nat) (4 : Int))) : Int)) ||| BitVec.ofInt (16 : Nat) (8 : Int))) : Int) : Bool)⟩]
                          else
                            bif (n1 == (5 : Int)) then
                              some [⟨.bool, (b.2.2.1 == IntKind.wrap IntKind.u16 (↑(BitVec.toNat (BitVec.ofInt (16 : Nat) (IntKind.wrap IntKind.u16 (↑(BitVec.toNat (BitVec.ofInt (16 : Nat) a.2.2.1 &&& ~~~BitVec.ofInt (16 : Nat) (4 : Int))) : Int)) ||| BitVec.ofInt (16 : Nat) (16 : Int))) : Int) : Bool)⟩]
                            else
                              bif (n1 == (7 : Int)) then
                                some [⟨.bool, (b.2.2.1 == IntKind.wrap IntKind.u16 (↑(BitVec.toNat (BitVec.ofInt (16 : Nat) (IntKind.wrap IntKind.u16 (↑(BitVec.toNat (BitVec.ofInt (16 : Nat) a.2.2.1 &&& ~~~BitVec.ofInt (16 : Nat) (4 : Int))) : Int)) ||| BitVec.ofInt (16 : Nat) (32 : Int))) : Int) : Bool)⟩]
                              else
                                bif (n1 == (8 : Int)) then
                                  some [⟨.bool, (b.2.2.1 == IntKind.wrap IntKind.u16 (↑(BitVec.toNat (BitVec.ofInt (16 : Nat) (IntKind.wrap IntKind.u16 (↑(BitVec.toNat (BitVec.ofInt (16 : Nat) a.2.2.1 &&& ~~~BitVec.ofInt (16 : Nat) (4 : Int))) : Int)) ||| BitVec.ofInt (16 : Nat) (64 : Int))) : Int) : Bool)⟩]
                                else
                                  bif (n1 == (9 : Int)) then
                                    some [⟨.bool, (b.2.2.1 == IntKind.wrap IntKind.u16 (↑(BitVec.toNat (BitVec.ofInt (16 : Nat) (IntKind.wrap IntKind.u16 (↑(BitVec.toNat (BitVec.ofInt (16 : Nat) a.2.2.1 &&& ~~~BitVec.ofInt (16 : Nat) (4 : Int))) : Int)) ||| BitVec.ofInt (16 : Nat) (128 : Int))) : Int) : Bool)⟩]
                                  else
                                    bif (n1 == (21 : Int)) then
                                      some [⟨.bool, (b.2.2.1 == IntKind.wrap IntKind.u16 (↑(BitVec.toNat (BitVec.ofInt (16 : Nat) (IntKind.wrap IntKind.u16 (↑(BitVec.toNat (BitVec.ofInt (16 : Nat) a.2.2.1 &&& ~~~BitVec.ofInt (16 : Nat) (4 : Int))) : Int)) ||| BitVec.ofInt (16 : Nat) (256 : Int))) : Int) : Bool)⟩]
                                    else
                                      some [⟨.bool, (b.2.2.1 == IntKind.wrap IntKind.u16 (↑(BitVec.toNat (BitVec.ofInt (16 : Nat) (IntKind.wrap IntKind.u16 (↑(BitVec.toNat (BitVec.ofInt (16 : Nat) a.2.2.1 &&& ~~~BitVec.ofInt (16 : Nat) (4 : Int))) : Int)) ||| BitVec.ofInt (16 : Nat) (0 : Int))) : Int) : Bool)⟩]
                  else
                    bif (n1 == (24 : Int)) then
                      bif (n1 == (1 : Int)) then
                        some [⟨.bool, (b.2.2.1 == IntKind.wrap IntKind.u16 (↑(BitVec.toNat (BitVec.ofInt (16 : Nat) (IntKind.wrap IntKind.u16 (↑(BitVec.toNat (BitVec.ofInt (16 : Nat) a.2.2.1 &&& ~~~BitVec.ofInt (16 : Nat) (264 : Int))) : Int)) ||| BitVec.ofInt (16 : Nat) (1 : Int))) : Int) : Bool)⟩]
                      else
                        bif (n1 == (2 : Int)) then
                          some [⟨.bool, (b.2.2.1 == IntKind.wrap IntKind.u16 (↑(BitVec.toNat (BitVec.ofInt (16 : Nat) (IntKind.wrap IntKind.u16 (↑(BitVec.toNat (BitVec.ofInt (16 : Nat) a.2.2.1 &&& ~~~BitVec.ofInt (16 : Nat) (264 : Int))) : Int)) ||| BitVec.ofInt (16 : Nat) (2 : Int))) : Int) : Bool)⟩]
                        else
                          bif (n1 == (3 : Int)) then
                            some [⟨.bool, (b.2.2.1 == IntKind.wrap IntKind.u16 (↑(BitVec.toNat (BitVec.ofInt (16 : Nat) (IntKind.wrap IntKind.u16 (↑(BitVec.toNat (BitVec.ofInt (16 : Nat) a.2.2.1 &&& ~~~BitVec.ofInt (16 : Nat) (264 : Int))) : Int)) ||| BitVec.ofInt (16 : Nat) (4 : Int))) : Int) : Bool)⟩]
                          else
                            bif (n1 == (4 : Int)) then
                              some [⟨.bool, (b.2.2.1 == IntKind.wrap IntKind.u16 (↑(BitVec.toNat (BitVec.ofInt (16 : Nat) (IntKind.wrap IntKind.u16 (↑(BitVec.toNat (BitVec.ofInt (16 : Nat) a.2.2.1 &&& ~~~BitVec.ofInt (16 : Nat) (264 : Int))) : Int)) ||| BitVec.ofInt (16 : Nat) (8 : Int))) : Int) : Bool)⟩]
                            else
                              bif (n1 == (5 : Int)) then
                                some [⟨.bool, (b.2.2.1 == IntKind.wrap IntKind.u16 (↑(BitVec.toNat (BitVec.ofInt (16 : Nat) (IntKind.wrap IntKind.u16 (↑(BitVec.toNat (BitVec.ofInt (16 : Nat) a.2.2.1 &&& ~~~BitVec.ofInt (16 : Nat) (264 : Int))) : Int)) ||| BitVec.ofInt (16 : Nat) (16 : Int))) : Int) : Bool)⟩]
                              else
                                bif (n1 == (7 : Int)) then
                                  some [⟨.bool, (b.2.2.1 == IntKind.wrap IntKind.u16 (↑(BitVec.toNat (BitVec.ofInt (16 : Nat) (IntKind.wrap IntKind.u16 (↑(BitVec.toNat (BitVec.ofInt (16 : Nat) a.2.2.1 &&& ~~~BitVec.ofInt (16 : Nat) (264 : Int))) : Int)) ||| BitVec.ofInt (16 : Nat) (32 : Int))) : Int) : Bool)⟩]
                                else
                                  bif (n1 == (8 : Int)) then
                                    some [⟨.bool, (b.2.2.1 == IntKind.wrap IntKind.u16 (↑(BitVec.toNat (BitVec.ofInt (16 : Nat) (IntKind.wrap IntKind.u16 (↑(BitVec.toNat (BitVec.ofInt (16 : Nat) a.2.2.1 &&& ~~~BitVec.ofInt (16 : Nat) (264 : Int))) : Int)) ||| BitVec.ofInt (16 : Nat) (64 : Int))) : Int) : Bool)⟩]
                                  else
                                    bif (n1 == (9 : Int)) then
                                      some [⟨.bool, (b.2.2.1 == IntKind.wrap IntKind.u16 (↑(BitVec.toNat (BitVec.ofInt (16 : Nat) (IntKind.wrap IntKind.u16 (↑(BitVec.toNat (BitVec.ofInt (16 : Nat) a.2.2.1 &&& ~~~BitVec.ofInt (16 : Nat) (264 : Int))) : Int)) ||| BitVec.ofInt (16 : Nat) (128 : Int))) : Int) : Bool)⟩]
                                    else
                                      bif (n1 == (21 : Int)) then
                                        some [⟨.bool, (b.2.2.1 == IntKind.wrap IntKind.u16 (↑(BitVec.toNat (BitVec.ofInt (16 : Nat) (IntKind.wrap IntKind.u16 (↑(BitVec.toNat (BitVec.ofInt (16 : Nat) a.2.2.1 &&& ~~~BitVec.ofInt (16 : Nat) (264 : Int))) : Int)) ||| BitVec.ofInt (16 : Nat) (256 : Int))) : Int) : Bool)⟩]
                                      else
                                        some [⟨.bool, (b.2.2.1 == IntKind.wrap IntKind.u16 (↑(BitVec.toNat (BitVec.ofInt (16 : Nat) (IntKind.wrap IntKind.u16 (↑(BitVec.toNat (BitVec.ofInt (16 : Nat) a.2.2.1 &&& ~~~BitVec.ofInt (16 : Nat) (264 : Int))) : Int)) ||| BitVec.ofInt (16 : Nat) (0 : Int))) : Int) : Bool)⟩]
                    else
                      bif (n1 == (25 : Int)) then
                        bif (n1 == (1 : Int)) then
                          some [⟨.bool, (b.2.2.1 == IntKind.wrap IntKind.u16 (↑(BitVec.toNat (BitVec.ofInt (16 : Nat) (IntKind.wrap IntKind.u16 (↑(BitVec.toNat (BitVec.ofInt (16 : Nat) a.2.2.1 &&& ~~~BitVec.ofInt (16 : Nat) (16 : Int))) : Int)) ||| BitVec.ofInt (16 : Nat) (1 : Int))) : Int) : Bool)⟩]
                        else
                          bif (n1 == (2 : Int)) then
                            some [⟨.bool, (b.2.2.1 == IntKind.wrap IntKind.u16 (↑(BitVec.toNat (BitVec.ofInt (16 : Nat) (IntKind.wrap IntKind.u16 (↑(BitVec.toNat (BitVec.ofInt (16 : Nat) a.2.2.1 &&& ~~~BitVec.ofInt (16 : Nat) (16 : Int))) : Int)) ||| BitVec.ofInt (16 : Nat) (2 : Int))) : Int) : Bool)⟩]
                          else
                            bif (n1 == (3 : Int)) then
                              some [⟨.bool, (b.2.2.1 == IntKind.wrap IntKind.u16 (↑(BitVec.toNat (BitVec.ofInt (16 : Nat) (IntKind.wrap IntKind.u16 (↑(BitVec.toNat (BitVec.ofInt (16 : Nat) a.2.2.1 &&& ~~~BitVec.ofInt (16 : Nat) (16 : Int))) : Int)) ||| BitVec.ofInt (16 : Nat) (4 : Int))) : Int) : Bool)⟩]
                            else
                              bif (n1 == (4 : Int)) then
                                some [⟨.bool, (b.2.2.1 == IntKind.wrap IntKind.u16 (↑(BitVec.toNat (BitVec.ofInt (16 : Nat) (IntKind.wrap IntKind.u16 (↑(BitVec.toNat (BitVec.ofInt (16 : Nat) a.2.2.1 &&& ~~~BitVec.ofInt (16 : Nat) (16 : Int))) : Int)) ||| BitVec.ofInt (16 : Nat) (8 : Int))) : Int) : Bool)⟩]
                              else
                                bif (n1 == (5 : Int)) then
                                  some [⟨.bool, (b.2.2.1 == IntKind.wrap IntKind.u16 (↑(BitVec.toNat (BitVec.ofInt (16 : Nat) (IntKind.wrap IntKind.u16 (↑(BitVec.toNat (BitVec.ofInt (16 : Nat) a.2.2.1 &&& ~~~BitVec.ofInt (16 : Nat) (16 : Int))) : Int)) ||| BitVec.ofInt (16 : Nat) (16 : Int))) : Int) : Bool)⟩]
                                else
                                  bif (n1 == (7 : Int)) then
                                    some [⟨.bool, (b.2.2.1 == IntKind.wrap IntKind.u16 (↑(BitVec.toNat (BitVec.ofInt (16 : Nat) (IntKind.wrap IntKind.u16 (↑(BitVec.toNat (BitVec.ofInt (16 : Nat) a.2.2.1 &&& ~~~BitVec.ofInt (16 : Nat) (16 : Int))) : Int)) ||| BitVec.ofInt (16 : Nat) (32 : Int))) : Int) : Bool)⟩]
                                  else
                                    bif (n1 == (8 : Int)) then
                                      some [⟨.bool, (b.2.2.1 == IntKind.wrap IntKind.u16 (↑(BitVec.toNat (BitVec.ofInt (16 : Nat) (IntKind.wrap IntKind.u16 (↑(BitVec.toNat (BitVec.ofInt (16 : Nat) a.2.2.1 &&& ~~~BitVec.ofInt (16 : Nat) (16 : Int))) : Int)) ||| BitVec.ofInt (16 : Nat) (64 : Int))) : Int) : Bool)⟩]
                                    else
                                      bif (n1 == (9 : Int)) then
                                        some [⟨.bool, (b.2.2.1 == IntKind.wrap IntKind.u16 (↑(BitVec.toNat (BitVec.ofInt (16 : Nat) (IntKind.wrap IntKind.u16 (↑(BitVec.toNat (BitVec.ofInt (16 : Nat) a.2.2.1 &&& ~~~BitVec.ofInt (16 : Nat) (16 : Int))) : Int)) ||| BitVec.ofInt (16 : Nat) (128 : Int))) : Int) : Bool)⟩]
                                      else
                                        bif (n1 == (21 : Int)) then
                                          some [⟨.bool, (b.2.2.1 == IntKind.wrap IntKind.u16 (↑(BitVec.toNat (BitVec.ofInt (16 : Nat) (IntKind.wrap IntKind.u16 (↑(BitVec.toNat (BitVec.ofInt (16 : Nat) a.2.2.1 &&& ~~~BitVec.ofInt (16 : Nat) (16 : Int))) : Int)) ||| BitVec.ofInt (16 : Nat) (256 : Int))) : Int) : Bool)⟩]
                                        else
                                          some [⟨.bool, (b.2.2.1 == IntKind.wrap IntKind.u16 (↑(BitVec.toNat (BitVec.ofInt (16 : Nat) (IntKind.wrap IntKind.u16 (↑(BitVec.toNat (BitVec.ofInt (16 : Nat) a.2.2.1 &&& ~~~BitVec.ofInt (16 : Nat) (16 : Int))) : Int)) ||| BitVec.ofInt (16 : Nat) (0 : Int))) : Int) : Bool)⟩]
                      else
                        bif (n1 == (27 : Int)) then
                          bif (n1 == (1 : Int)) then
                            some [⟨.bool, (b.2.2.1 == IntKind.wrap IntKind.u16 (↑(BitVec.toNat (BitVec.ofInt (16 : Nat) (IntKind.wrap IntKind.u16 (↑(BitVec.toNat (BitVec.ofInt (16 : Nat) a.2.2.1 &&& ~~~BitVec.ofInt (16 : Nat) (32 : Int))) : Int)) ||| BitVec.ofInt (16 : Nat) (1 : Int))) : Int) : Bool)⟩]
                          else
                            bif (n1 == (2 : Int)) then
                              some [⟨.bool, (b.2.2.1 == IntKind.wrap IntKind.u16 (↑(BitVec.toNat (BitVec.ofInt (16 : Nat) (IntKind.wrap IntKind.u16 (↑(BitVec.toNat (BitVec.ofInt (16 : Nat) a.2.2.1 &&& ~~~BitVec.ofInt (16 : Nat) (32 : Int))) : Int)) ||| BitVec.ofInt (16 : Nat) (2 : Int))) : Int) : Bool)⟩]
                            else
                              bif (n1 == (3 : Int)) then
                                some [⟨.bool, (b.2.2.1 == IntKind.wrap IntKind.u16 (↑(BitVec.toNat (BitVec.ofInt (16 : Nat) (IntKind.wrap IntKind.u16 (↑(BitVec.toNat (BitVec.ofInt (16 : Nat) a.2.2.1 &&& ~~~BitVec.ofInt (16 : Nat) (32 : Int))) : Int)) ||| BitVec.ofInt (16 : Nat) (4 : Int))) : Int) : Bool)⟩]
                              else
                                bif (n1 == (4 : Int)) then
                                  some [⟨.bool, (b.2.2.1 == IntKind.wrap IntKind.u16 (↑(BitVec.toNat (BitVec.ofInt (16 : Nat) (IntKind.wrap IntKind.u16 (↑(BitVec.toNat (BitVec.ofInt (16 : Nat) a.2.2.1 &&& ~~~BitVec.ofInt (16 : Nat) (32 : Int))) : Int)) ||| BitVec.ofInt (16 : Nat) (8 : Int))) : Int) : Bool)⟩]
                                else
                                  bif (n1 == (5 : Int)) then
                                    some [⟨.bool, (b.2.2.1 == IntKind.wrap IntKind.u16 (↑(BitVec.toNat (BitVec.ofInt (16 : Nat) (IntKind.wrap IntKind.u16 (↑(BitVec.toNat (BitVec.ofInt (16 : Nat) a.2.2.1 &&& ~~~BitVec.ofInt (16 : Nat) (32 : Int))) : Int)) ||| BitVec.ofInt (16 : Nat) (16 : Int))) : Int) : Bool)⟩]
                                  else
                                    bif (n1 == (7 : Int)) then
                                      some [⟨.bool, (b.2.2.1 == IntKind.wrap IntKind.u16 (↑(BitVec.toNat (BitVec.ofInt (16 : Nat) (IntKind.wrap IntKind.u16 (↑(BitVec.toNat (BitVec.ofInt (16 : Nat) a.2.2.1 &&& ~~~BitVec.ofInt (16 : Nat) (32 : Int))) : Int)) ||| BitVec.ofInt (16 : Nat) (32 : Int))) : Int) : Bool)⟩]
                                    else
                                      bif (n1 == (8 : Int)) then
                                        some [⟨.bool, (b.2.2.1 == IntKind.wrap IntKind.u16 (↑(BitVec.toNat (BitVec.ofInt (16 : Nat) (IntKind.wrap IntKind.u16 (↑(BitVec.toNat (BitVec.ofInt (16 : Nat) a.2.2.1 &&& ~~~BitVec.ofInt (16 : Nat) (32 : Int))) : Int)) ||| BitVec.ofInt (16 : Nat) (64 : Int))) : Int) : Bool)⟩]
                                      else
                                        bif (n1 == (9 : Int)) then
                                          some [⟨.bool, (b.2.2.1 == IntKind.wrap IntKind.u16 (↑(BitVec.toNat (BitVec.ofInt (16 : Nat) (IntKind.wrap IntKind.u16 (↑(BitVec.toNat (BitVec.ofInt (16 : Nat) a.2.2.1 &&& ~~~BitVec.ofInt (16 : Nat) (32 : Int))) : Int)) ||| BitVec.ofInt (16 : Nat) (128 : Int))) : Int) : Bool)⟩]
                                        else
                                          bif (n1 == (21 : Int)) then
                                            some [⟨.bool, (b.2.2.1 == IntKind.wrap IntKind.u16 (↑(BitVec.toNat (BitVec.ofInt (16 : Nat) (IntKind.wrap IntKind.u16 (↑(BitVec.toNat (BitVec.ofInt (16 : Nat) a.2.2.1 &&& ~~~BitVec.ofInt (16 : Nat) (32 : Int))) : Int)) ||| BitVec.ofInt (16 : Nat) (256 : Int))) : Int) : Bool)⟩]
                                          else
                                            some [⟨.bool, (b.2.2.1 == IntKind.wrap IntKind.u16 (↑(BitVec.toNat (BitVec.ofInt (16 : Nat) (IntKind.wrap IntKind.u16 (↑(BitVec.toNat (BitVec.ofInt (16 : Nat) a.2.2.1 &&& ~~~BitVec.ofInt (16 : Nat) (32 : Int))) : Int)) ||| BitVec.ofInt (16 : Nat) (0 : Int))) : Int) : Bool)⟩]
                        else
                          bif (n1 == (28 : Int)) then
                            bif (n1 == (1 : Int)) then
                              some [⟨.bool, (b.2.2.1 == IntKind.wrap IntKind.u16 (↑(BitVec.toNat (BitVec.ofInt (16 : Nat) (IntKind.wrap IntKind.u16 (↑(BitVec.toNat (BitVec.ofInt (16 : Nat) a.2.2.1 &&& ~~~BitVec.ofInt (16 : Nat) (64 : Int))) : Int)) ||| BitVec.ofInt (16 : Nat) (1 : Int))) : Int) : Bool)⟩]
                            else
                              bif (n1 == (2 : Int)) then
                                some [⟨.bool, (b.2.2.1 == IntKind.wrap IntKind.u16 (↑(BitVec.toNat (BitVec.ofInt (16 : Nat) (IntKind.wrap IntKind.u16 (↑(BitVec.toNat (BitVec.ofInt (16 : Nat) a.2.2.1 &&& ~~~BitVec.ofInt (16 : Nat) (64 : Int))) : Int)) ||| BitVec.ofInt (16 : Nat) (2 : Int))) : Int) : Bool)⟩]
                              else
                                bif (n1 == (3 : Int)) then
                                  some [⟨.bool, (b.2.2.1 == IntKind.wrap IntKind.u16 (↑(BitVec.toNat (BitVec.ofInt (16 : Nat) (IntKind.wrap IntKind.u16 (↑(BitVec.toNat (BitVec.ofInt (16 : Nat) a.2.2.1 &&& ~~~BitVec.ofInt (16 : Nat) (64 : Int))) : Int)) ||| BitVec.ofInt (16 : Nat) (4 : Int))) : Int) : Bool)⟩]
                                else
                                  bif (n1 == (4 : Int)) then
                                    some [⟨.bool, (b.2.2.1 == IntKind.wrap IntKind.u16 (↑(BitVec.toNat (BitVec.ofInt (16 : Nat) (IntKind.wrap IntKind.u16 (↑(BitVec.toNat (BitVec.ofInt (16 : Nat) a.2.2.1 &&& ~~~BitVec.ofInt (16 : Nat) (64 : Int))) : Int)) ||| BitVec.ofInt (16 : Nat) (8 : Int))) : Int) : Bool)⟩]
                                  else
                                    bif (n1 == (5 : Int)) then
                                      some [⟨.bool, (b.2.2.1 == IntKind.wrap IntKind.u16 (↑(BitVec.toNat (BitVec.ofInt (16 : Nat) (IntKind.wrap IntKind.u16 (↑(BitVec.toNat (BitVec.ofInt (16 : Nat) a.2.2.1 &&& ~~~BitVec.ofInt (16 : Nat) (64 : Int))) : Int)) ||| BitVec.ofInt (16 : Nat) (16 : Int))) : Int) : Bool)⟩]
                                    else
                                      bif (n1 == (7 : Int)) then
                                        some [⟨.bool, (b.2.2.1 == IntKind.wrap IntKind.u16 (↑(BitVec.toNat (BitVec.ofInt (16 : Nat) (IntKind.wrap IntKind.u16 (↑(BitVec.toNat (BitVec.ofInt (16 : Nat) a.2.2.1 &&& ~~~BitVec.ofInt (16 : Nat) (64 : Int))) : Int)) ||| BitVec.ofInt (16 : Nat) (32 : Int))) : Int) : Bool)⟩]
                                      else
                                        bif (n1 == (8 : Int)) then
                                          some [⟨.bool, (b.2.2.1 == IntKind.wrap IntKind.u16 (↑(BitVec.toNat (BitVec.ofInt (16 : Nat) (IntKind.wrap IntKind.u16 (↑(BitVec.toNat (BitVec.ofInt (16 : Nat) a.2.2.1 &&& ~~~BitVec.ofInt (16 : Nat) (64 : Int))) : Int)) ||| BitVec.ofInt (16 : Nat) (64 : Int))) : Int) : Bool)⟩]
                                        else
                                          bif (n1 == (9 : Int)) then
                                            some [⟨.bool, (b.2.2.1 == IntKind.wrap IntKind.u16 (↑(BitVec.toNat (BitVec.ofInt (16 : Nat) (IntKind.wrap IntKind.u16 (↑(BitVec.toNat (BitVec.ofInt (16 : Nat) a.2.2.1 &&& ~~~BitVec.ofInt (16 : Nat) (64 : Int))) : Int)) ||| BitVec.ofInt (16 : Nat) (128 : Int))) : Int) : Bool)⟩]
                                          else
                                            bif (n1 == (21 : Int)) then
                                              some [⟨.bool, (b.2.2.1 == IntKind.wrap IntKind.u16 (↑(BitVec.toNat (BitVec.ofInt (16 : Nat) (IntKind.wrap IntKind.u16 (↑(BitVec.toNat (BitVec.ofInt (16 : Nat) a.2.2.1 &&& ~~~BitVec.ofInt (16 : Nat) (64 : Int))) : Int)) ||| BitVec.ofInt (16 : Nat) (256 : Int))) : Int) : Bool)⟩]
                                            else
                                              some [⟨.bool, (b.2.2.1 == IntKind.wrap IntKind.u16 (↑(BitVec.toNat (BitVec.ofInt (16 : Nat) (IntKind.wrap IntKind.u16 (↑(BitVec.toNat (BitVec.ofInt (16 : Nat) a.2.2.1 &&& ~~~BitVec.ofInt (16 : Nat) (64 : Int))) : Int)) ||| BitVec.ofInt (16 : Nat) (0 : Int))) : Int) : Bool)⟩]
                          else
                            bif (n1 == (29 : Int)) then
                              bif (n1 == (1 : Int)) then
                                some [⟨.bool, (b.2.2.1 == IntKind.wrap IntKind.u16 (↑(BitVec.toNat (BitVec.ofInt (16 : Nat) (IntKind.wrap IntKind.u16 (↑(BitVec.toNat (BitVec.ofInt (16 : Nat) a.2.2.1 &&& ~~~BitVec.ofInt (16 : Nat) (128 : Int))) : Int)) ||| BitVec.ofInt (16 : Nat) (1 : Int))) : Int) : Bool)⟩]
                              else
                                bif (n1 == (2 : Int)) then
                                  some [⟨.bool, (b.2.2.1 == IntKind.wrap IntKind.u16 (↑(BitVec.toNat (BitVec.ofInt (16 : Nat) (IntKind.wrap IntKind.u16 (↑(BitVec.toNat (BitVec.ofInt (16 : Nat) a.2.2.1 &&& ~~~BitVec.ofInt (16 : Nat) (128 : Int))) : Int)) ||| BitVec.ofInt (16 : Nat) (2 : Int))) : Int) : Bool)⟩]
                                else
                                  bif (n1 == (3 : Int)) then
                                    some [⟨.bool, (b.2.2.1 == IntKind.wrap IntKind.u16 (↑(BitVec.toNat (BitVec.ofInt (16 : Nat) (IntKind.wrap IntKind.u16 (↑(BitVec.toNat (BitVec.ofInt (16 : Nat) a.2.2.1 &&& ~~~BitVec.ofInt (16 : Nat) (128 : Int))) : Int)) ||| BitVec.ofInt (16 : Nat) (4 : Int))) : Int) : Bool)⟩]
                                  else
                                    bif (n1 == (4 : Int)) then
                                      some [⟨.bool, (b.2.2.1 == IntKind.wrap IntKind.u16 (↑(BitVec.toNat (BitVec.ofInt (16 : Nat) (IntKind.wrap IntKind.u16 (↑(BitVec.toNat (BitVec.ofInt (16 : Nat) a.2.2.1 &&& ~~~BitVec.ofInt (16 : Nat) (128 : Int))) : Int)) ||| BitVec.ofInt (16 : Nat) (8 : Int))) : Int) : Bool)⟩]
                                    else
                                      bif (n1 == (5 : Int)) then
                                        some [⟨.bool, (b.2.2.1 == IntKind.wrap IntKind.u16 (↑(BitVec.toNat (BitVec.ofInt (16 : Nat) (IntKind.wrap IntKind.u16 (↑(BitVec.toNat (BitVec.ofInt (16 : Nat) a.2.2.1 &&& ~~~BitVec.ofInt (16 : Nat) (128 : Int))) : Int)) ||| BitVec.ofInt (16 : Nat) (16 : Int))) : Int) : Bool)⟩]
                                      else
                                        bif (n1 == (7 : Int)) then
                                          some [⟨.bool, (b.2.2.1 == IntKind.wrap IntKind.u16 (↑(BitVec.toNat (BitVec.ofInt (16 : Nat) (IntKind.wrap IntKind.u16 (↑(BitVec.toNat (BitVec.ofInt (16 : Nat) a.2.2.1 &&& ~~~BitVec.ofInt (16 : Nat) (128 : Int))) : Int)) ||| BitVec.ofInt (16 : Nat) (32 : Int))) : Int) : Bool)⟩]
                                        else
                                          bif (n1 == (8 : Int)) then
                                            some [⟨.bool, (b.2.2.1 == IntKind.wrap IntKind.u16 (↑(BitVec.toNat (BitVec.ofInt (16 : Nat) (IntKind.wrap IntKind.u16 (↑(BitVec.toNat (BitVec.ofInt (16 : Nat) a.2.2.1 &&& ~~~BitVec.ofInt (16 : Nat) (128 : Int))) : Int)) ||| BitVec.ofInt (16 : Nat) (64 : Int))) : Int) : Bool)⟩]
                                          else
                                            bif (n1 == (9 : Int)) then
                                              some [⟨.bool, (b.2.2.1 == IntKind.wrap IntKind.u16 (↑(BitVec.toNat (BitVec.ofInt (16 : Nat) (IntKind.wrap IntKind.u16 (↑(BitVec.toNat (BitVec.ofInt (16 : Nat) a.2.2.1 &&& ~~~BitVec.ofInt (16 : Nat) (128 : Int))) : Int)) ||| BitVec.ofInt (16 : Nat) (128 : Int))) : Int) : Bool)⟩]
                                            else
                                              bif (n1 == (21 : Int)) then
                                                some [⟨.bool, (b.2.2.1 == IntKind.wrap IntKind.u16 (↑(BitVec.toNat (BitVec.ofInt (16 : Nat) (IntKind.wrap IntKind.u16 (↑(BitVec.toNat (BitVec.ofInt (16 : Nat) a.2.2.1 &&& ~~~BitVec.ofInt (16 : Nat) (128 : Int))) : Int)) ||| BitVec.ofInt (16 : Nat) (256 : Int))) : Int) : Bool)⟩]
                                              else
                                                some [⟨.bool, (b.2.2.1 == IntKind.wrap IntKind.u16 (↑(BitVec.toNat (BitVec.ofInt (16 : Nat) (IntKind.wrap IntKind.u16 (↑(BitVec.toNat (BitVec.ofInt (16 : Nat) a.2.2.1 &&& ~~~BitVec.ofInt (16 : Nat) (128 : Int))) : Int)) ||| BitVec.ofInt (16 : Nat) (0 : Int))) : Int) : Bool)⟩]
                            else
                              bif (n1 == (1 : Int)) then
                                some [⟨.bool, (b.2.2.1 == IntKind.wrap IntKind.u16 (↑(BitVec.toNat (BitVec.ofInt (16 : Nat) (IntKind.wrap IntKind.u16 (↑(BitVec.toNat (BitVec.ofInt (16 : Nat) a.2.2.1 &&& ~~~BitVec.ofInt (16 : Nat) (0 : Int))) : Int)) ||| BitVec.ofInt (16 : Nat) (1 : Int))) : Int) : Bool)⟩]
                              else
                                bif (n1 == (2 : Int)) then
                                  some [⟨.bool, (b.2.2.1 == IntKind.wrap IntKind.u16 (↑(BitVec.toNat (BitVec.ofInt (16 : Nat) (IntKind.wrap IntKind.u16 (↑(BitVec.toNat (BitVec.ofInt (16 : Nat) a.2.2.1 &&& ~~~BitVec.ofInt (16 : Nat) (0 : Int))) : Int)) ||| BitVec.ofInt (16 : Nat) (2 : Int))) : Int) : Bool)⟩]
                                else
                                  bif (n1 == (3 : Int)) then
                                    some [⟨.bool, (b.2.2.1 == IntKind.wrap IntKind.u16 (↑(BitVec.toNat (BitVec.ofInt (16 : Nat) (IntKind.wrap IntKind.u16 (↑(BitVec.toNat (BitVec.ofInt (16 : Nat) a.2.2.1 &&& ~~~BitVec.ofInt (16 : Nat) (0 : Int))) : Int)) ||| BitVec.ofInt (16 : Nat) (4 : Int))) : Int) : Bool)⟩]
                                  else
                                    bif (n1 == (4 : Int)) then
                                      some [⟨.bool, (b.2.2.1 == IntKind.wrap IntKind.u16 (↑(BitVec.toNat (BitVec.ofInt (16 : Nat) (IntKind.wrap IntKind.u16 (↑(BitVec.toNat (BitVec.ofInt (16 : Nat) a.2.2.1 &&& ~~~BitVec.ofInt (16 : Nat) (0 : Int))) : Int)) ||| BitVec.ofInt (16 : Nat) (8 : Int))) : Int) : Bool)⟩]
                                    else
                                      bif (n1 == (5 : Int)) then
                                        some [⟨.bool, (b.2.2.1 == IntKind.wrap IntKind.u16 (↑(BitVec.toNat (BitVec.ofInt (16 : Nat) (IntKind.wrap IntKind.u16 (↑(BitVec.toNat (BitVec.ofInt (16 : Nat) a.2.2.1 &&& ~~~BitVec.ofInt (16 : Nat) (0 : Int))) : Int)) ||| BitVec.ofInt (16 : Nat) (16 : Int))) : Int) : Bool)⟩]
                                      else
                                        bif (n1 == (7 : Int)) then
                                          some [⟨.bool, (b.2.2.1 == IntKind.wrap IntKind.u16 (↑(BitVec.toNat (BitVec.ofInt (16 : Nat) (IntKind.wrap IntKind.u16 (↑(BitVec.toNat (BitVec.ofInt (16 : Nat) a.2.2.1 &&& ~~~BitVec.ofInt (16 : Nat) (0 : Int))) : Int)) ||| BitVec.ofInt (16 : Nat) (32 : Int))) : Int) : Bool)⟩]
                                        else
                                          bif (n1 == (8 : Int)) then
                                            some [⟨.bool, (b.2.2.1 == IntKind.wrap IntKind.u16 (↑(BitVec.toNat (BitVec.ofInt (16 : Nat) (IntKind.wrap IntKind.u16 (↑(BitVec.toNat (BitVec.ofInt (16 : Nat) a.2.2.1 &&& ~~~BitVec.ofInt (16 : Nat) (0 : Int))) : Int)) ||| BitVec.ofInt (16 : Nat) (64 : Int))) : Int) : Bool)⟩]
                                          else
                                            bif (n1 == (9 : Int)) then
                                              some [⟨.bool, (b.2.2.1 == IntKind.wrap IntKind.u16 (↑(BitVec.toNat (BitVec.ofInt (16 : Nat) (IntKind.wrap IntKind.u16 (↑(BitVec.toNat (BitVec.ofInt (16 : Nat) a.2.2.1 &&& ~~~BitVec.ofInt (16 : Nat) (0 : Int))) : Int)) ||| BitVec.ofInt (16 : Nat) (128 : Int))) : Int) : Bool)⟩]
                                            else
                                              bif (n1 == (21 : Int)) then
                                                some [⟨.bool, (b.2.2.1 == IntKind.wrap IntKind.u16 (↑(BitVec.toNat (BitVec.ofInt (16 : Nat) (IntKind.wrap IntKind.u16 (↑(BitVec.toNat (BitVec.ofInt (16 : Nat) a.2.2.1 &&& ~~~BitVec.ofInt (16 : Nat) (0 : Int))) : Int)) ||| BitVec.ofInt (16 : Nat) (256 : Int))) : Int) : Bool)⟩]
                                              else
                                                some [⟨.bool, (b.2.2.1 == IntKind.wrap IntKind.u16 (↑(BitVec.toNat (BitVec.ofInt (16 : Nat) (IntKind.wrap IntKind.u16 (↑(BitVec.toNat (BitVec.ofInt (16 : Nat) a.2.2.1 &&& ~~~BitVec.ofInt (16 : Nat) (0 : Int))) : Int)) ||| BitVec.ofInt (16 : Nat) (0 : Int))) : Int) : Bool)⟩]
          else
            some [⟨.bool, (Bool.false : Bool)⟩]

def onC (a b bb : A0) (n1 : Int) : Option (List Dy) :=
  bif (!(bb.1.1 == b.1.1 && (bb.1.2.1 == b.1.2.1 && (bb.1.2.2.1 == b.1.2.2.1 && (bb.1.2.2.2.1 == b.1.2.2.2.1 && Bool.true))) && (bb.2.1.1 == b.2.1.1 && (bb.2.1.2.1 == b.2.1.2.1 && (bb.2.1.2.2.1 == b.2.1.2.2.1 && (bb.2.1.2.2.2.1 == b.2.1.2.2.2.1 && Bool.true))) && (bb.2.2.1 == b.2.2.1 && Bool.true)))) then
    some [⟨.bool, false⟩]
  else onR a b n1

abbrev tyBy : Ty := .pair .byte (.pair .byte (.pair .byte .unit))
abbrev tyDy : Ty := .pair (.int .u16) (.pair .byte (.pair tyBy (.pair tyBy .unit)))
abbrev DB : Type := Int × UInt8 × (UInt8 × UInt8 × UInt8 × Unit) × (UInt8 × UInt8 × UInt8 × Unit) × Unit
def dI (p : DB) : D0 := (p.1, (p.2.1.toNat : Int), ((p.2.2.1.1.toNat : Int), (p.2.2.1.2.1.toNat : Int), (p.2.2.1.2.2.1.toNat : Int), ()), ((p.2.2.2.1.1.toNat : Int), (p.2.2.2.1.2.1.toNat : Int), (p.2.2.2.1.2.2.1.toNat : Int), ()), ())
theorem On2_fn (n : Nat) (p0 : DB) (c1 : UInt8) :
    fnY SOn loopY [.hole tyDy, .hole .byte] [.bool] n 4 [⟨tyDy, p0⟩, ⟨.byte, c1⟩] =
    need (rowsB [[IntKind.i64.wrap (c1.toNat : Int)]]) (need (rowsB [[IntKind.i64.wrap (c1.toNat : Int)]]) (onC (drA (dI p0)) (sgrF (drA (dI p0)) [[IntKind.i64.wrap (c1.toNat : Int)]]) (sgrF (sgrF (drA (dI p0)) [[IntKind.i64.wrap (c1.toNat : Int)]]) [[IntKind.i64.wrap (c1.toNat : Int)]]) (c1.toNat : Int))) := by kernel_rfl
end Go.Proofs.YthmmpfaghmoenaaDoor

namespace Go.Proofs.YthmmpfaghmoenaaDoor
open Go Go.Am
set_option linter.unusedVariables false

def toB (x : Int) : BitVec 16 := BitVec.ofInt 16 x
def ofB (v : BitVec 16) : Int := ((v.toNat : Nat) : Int)
theorem ofB_wrap (v : BitVec 16) : IntKind.u16.wrap ((v.toNat : Nat) : Int) = ofB v := wu16 (by have := v.isLt; omega)
theorem clr1_eq (f x : Int) : clr1 f x = ofB (toB f &&& ~~~toB x) := ofB_wrap _
theorem orF_eq (f x : Int) : orF f x = ofB (toB f ||| toB x) := ofB_wrap _
theorem toB_ofB (v : BitVec 16) : toB (ofB v) = v := by
  apply BitVec.eq_of_toNat_eq
  unfold toB ofB
  simp
theorem ofB_toB {f : Int} (h : 0 ≤ f ∧ f ≤ 65535) : ofB (toB f) = f := by
  unfold toB ofB
  rw [BitVec.toNat_ofInt]
  omega
theorem g1 (v a b : BitVec 16) : (v &&& ~~~(a ||| b)) ||| b = (v &&& ~~~a) ||| b := by
  ext i hi
  simp only [BitVec.getElem_or, BitVec.getElem_and, BitVec.getElem_not]
  cases v[i] <;> cases a[i] <;> cases b[i] <;> rfl
theorem g2 (v c s : BitVec 16) : (((v &&& ~~~c) ||| s) &&& ~~~c) ||| s = (v &&& ~~~c) ||| s := by
  ext i hi
  simp only [BitVec.getElem_or, BitVec.getElem_and, BitVec.getElem_not]
  cases v[i] <;> cases c[i] <;> cases s[i] <;> rfl
theorem g3 (v a b : BitVec 16) : (v &&& ~~~a) &&& ~~~b = v &&& ~~~(a ||| b) := by
  ext i hi
  simp only [BitVec.getElem_or, BitVec.getElem_and, BitVec.getElem_not]
  cases v[i] <;> cases a[i] <;> cases b[i] <;> rfl
theorem g0 (v : BitVec 16) : v &&& ~~~(toB 0) = v := by
  rw [show toB 0 = 0#16 from rfl]
  ext i hi
  simp only [BitVec.getElem_and, BitVec.getElem_not, BitVec.getElem_zero, Bool.not_false, Bool.and_true]
theorem gz (v : BitVec 16) : v ||| toB 0 = v := by
  ext i hi
  simp [toB]
def fl1 (f c s : Int) : Int := orF (clr1 f c) s
theorem fl1_eq (f c s : Int) : fl1 f c s = ofB ((toB f &&& ~~~toB c) ||| toB s) := by
  unfold fl1
  rw [orF_eq, clr1_eq, toB_ofB]
theorem fl1_idem (f c s : Int) : fl1 (fl1 f c s) c s = fl1 f c s := by
  rw [fl1_eq, fl1_eq, toB_ofB, g2]
theorem nil_fl (f s : Int) : orF (clrL [] f) s = fl1 f 0 s := by
  show orF f s = _
  rw [orF_eq, fl1_eq, g0]
theorem one_fl (f c s : Int) : orF (clrL [c] f) s = fl1 f c s := rfl
theorem two_fl (f : Int) : orF (clrL [1, 2] f) 0 = fl1 f 3 0 := by
  show orF (clr1 (clr1 f 1) 2) 0 = _
  rw [orF_eq, clr1_eq, clr1_eq, toB_ofB, toB_ofB, fl1_eq, g3]
  rfl
theorem fl1_4 (f : Int) : fl1 f 264 8 = fl1 f 256 8 := by
  rw [fl1_eq, fl1_eq, show toB 264 = toB 256 ||| toB 8 from rfl, g1]
theorem fl1_21 (f : Int) : fl1 f 264 256 = fl1 f 8 256 := by
  rw [fl1_eq, fl1_eq, show toB 264 = toB 8 ||| toB 256 from rfl, g1]
theorem fl1_0 {f : Int} (h : 0 ≤ f ∧ f ≤ 65535) : fl1 f 0 0 = f := by
  rw [fl1_eq, g0, gz, ofB_toB h]

theorem beqA (b : A0) : (b.1.1 == b.1.1 && (b.1.2.1 == b.1.2.1 && (b.1.2.2.1 == b.1.2.2.1 && (b.1.2.2.2.1 == b.1.2.2.2.1 && Bool.true))) && (b.2.1.1 == b.2.1.1 && (b.2.1.2.1 == b.2.1.2.1 && (b.2.1.2.2.1 == b.2.1.2.2.1 && (b.2.1.2.2.2.1 == b.2.1.2.2.2.1 && Bool.true))) && (b.2.2.1 == b.2.2.1 && Bool.true))) = true := by
  simp
theorem onC_eq (a b : A0) (n : Int) : onC a b b n = onR a b n := by
  unfold onC
  rw [beqA]
  rfl

theorem leafB {x y : Int} (h : x = y) : (some [⟨.bool, (x == y : Bool)⟩] : Option (List Dy)) = some [⟨.bool, true⟩] := by subst h; exact ret1 (dyB (by simp))

theorem one_0 (f0 f1 f2 f3 b0 b1 b2 b3 fl : Int) : onR ((f0, f1, f2, f3, ()), (b0, b1, b2, b3, ()), fl, ()) (sayF ((f0, f1, f2, f3, ()), (b0, b1, b2, b3, ()), fl, ()) 0) 0 = some [⟨.bool, true⟩] := by
  unfold onR
  repeat (first | (refine ret1 (dyB ?_); first | rfl | (simp [sayF]; done)) | (refine bp ?_ ?_; focus (first | rfl | (simp [sayF]; done))) | (refine bn ?_ ?_; focus (first | rfl | (simp [sayF]; done))))
theorem one_22 (f0 f1 f2 f3 b0 b1 b2 b3 fl : Int) : onR ((f0, f1, f2, f3, ()), (b0, b1, b2, b3, ()), fl, ()) (sayF ((f0, f1, f2, f3, ()), (b0, b1, b2, b3, ()), fl, ()) 22) 22 = some [⟨.bool, true⟩] := by
  unfold onR
  repeat (first | exact leafB (two_fl _) | (refine bp ?_ ?_; focus (first | rfl | (simp [sayF]; done))) | (refine bn ?_ ?_; focus (first | rfl | (simp [sayF]; done))))
theorem one_39 (f0 f1 f2 f3 b0 b1 b2 b3 fl : Int) : onR ((f0, f1, f2, f3, ()), (b0, b1, b2, b3, ()), fl, ()) (sayF ((f0, f1, f2, f3, ()), (b0, b1, b2, b3, ()), fl, ()) 39) 39 = some [⟨.bool, true⟩] := by
  unfold onR
  repeat (first | (refine ret1 (dyB ?_); first | rfl | (simp [sayF]; done)) | (refine bp ?_ ?_; focus (first | rfl | (simp [sayF]; done))) | (refine bn ?_ ?_; focus (first | rfl | (simp [sayF]; done))))
theorem one_49 (f0 f1 f2 f3 b0 b1 b2 b3 fl : Int) : onR ((f0, f1, f2, f3, ()), (b0, b1, b2, b3, ()), fl, ()) (sayF ((f0, f1, f2, f3, ()), (b0, b1, b2, b3, ()), fl, ()) 49) 49 = some [⟨.bool, true⟩] := by
  unfold onR
  repeat (first | (refine ret1 (dyB ?_); first | rfl | (simp [sayF]; done)) | (refine bp ?_ ?_; focus (first | rfl | (simp [sayF]; done))) | (refine bn ?_ ?_; focus (first | rfl | (simp [sayF]; done))))
theorem one_1 (f0 f1 f2 f3 b0 b1 b2 b3 fl : Int) : onR ((f0, f1, f2, f3, ()), (b0, b1, b2, b3, ()), fl, ()) (sayF ((f0, f1, f2, f3, ()), (b0, b1, b2, b3, ()), fl, ()) 1) 1 = some [⟨.bool, true⟩] := by
  unfold onR
  repeat (first | exact leafB (nil_fl _ _) | (refine bp ?_ ?_; focus (first | rfl | (simp [sayF]; done))) | (refine bn ?_ ?_; focus (first | rfl | (simp [sayF]; done))))
theorem one_2 (f0 f1 f2 f3 b0 b1 b2 b3 fl : Int) : onR ((f0, f1, f2, f3, ()), (b0, b1, b2, b3, ()), fl, ()) (sayF ((f0, f1, f2, f3, ()), (b0, b1, b2, b3, ()), fl, ()) 2) 2 = some [⟨.bool, true⟩] := by
  unfold onR
  repeat (first | exact leafB (nil_fl _ _) | (refine bp ?_ ?_; focus (first | rfl | (simp [sayF]; done))) | (refine bn ?_ ?_; focus (first | rfl | (simp [sayF]; done))))
theorem one_3 (f0 f1 f2 f3 b0 b1 b2 b3 fl : Int) : onR ((f0, f1, f2, f3, ()), (b0, b1, b2, b3, ()), fl, ()) (sayF ((f0, f1, f2, f3, ()), (b0, b1, b2, b3, ()), fl, ()) 3) 3 = some [⟨.bool, true⟩] := by
  unfold onR
  repeat (first | exact leafB (nil_fl _ _) | (refine bp ?_ ?_; focus (first | rfl | (simp [sayF]; done))) | (refine bn ?_ ?_; focus (first | rfl | (simp [sayF]; done))))
theorem one_23 (f0 f1 f2 f3 b0 b1 b2 b3 fl : Int) : onR ((f0, f1, f2, f3, ()), (b0, b1, b2, b3, ()), fl, ()) (sayF ((f0, f1, f2, f3, ()), (b0, b1, b2, b3, ()), fl, ()) 23) 23 = some [⟨.bool, true⟩] := by
  unfold onR
  repeat (first | exact leafB (rfl) | (refine bp ?_ ?_; focus (first | rfl | (simp [sayF]; done))) | (refine bn ?_ ?_; focus (first | rfl | (simp [sayF]; done))))
theorem one_4 (f0 f1 f2 f3 b0 b1 b2 b3 fl : Int) : onR ((f0, f1, f2, f3, ()), (b0, b1, b2, b3, ()), fl, ()) (sayF ((f0, f1, f2, f3, ()), (b0, b1, b2, b3, ()), fl, ()) 4) 4 = some [⟨.bool, true⟩] := by
  unfold onR
  repeat (first | exact leafB (fl1_4 _) | (refine bp ?_ ?_; focus (first | rfl | (simp [sayF]; done))) | (refine bn ?_ ?_; focus (first | rfl | (simp [sayF]; done))))
theorem one_24 (f0 f1 f2 f3 b0 b1 b2 b3 fl : Int) : onR ((f0, f1, f2, f3, ()), (b0, b1, b2, b3, ()), fl, ()) (sayF ((f0, f1, f2, f3, ()), (b0, b1, b2, b3, ()), fl, ()) 24) 24 = some [⟨.bool, true⟩] := by
  unfold onR
  repeat (first | exact leafB (rfl) | (refine bp ?_ ?_; focus (first | rfl | (simp [sayF]; done))) | (refine bn ?_ ?_; focus (first | rfl | (simp [sayF]; done))))
theorem one_5 (f0 f1 f2 f3 b0 b1 b2 b3 fl : Int) : onR ((f0, f1, f2, f3, ()), (b0, b1, b2, b3, ()), fl, ()) (sayF ((f0, f1, f2, f3, ()), (b0, b1, b2, b3, ()), fl, ()) 5) 5 = some [⟨.bool, true⟩] := by
  unfold onR
  repeat (first | exact leafB (nil_fl _ _) | (refine bp ?_ ?_; focus (first | rfl | (simp [sayF]; done))) | (refine bn ?_ ?_; focus (first | rfl | (simp [sayF]; done))))
theorem one_25 (f0 f1 f2 f3 b0 b1 b2 b3 fl : Int) : onR ((f0, f1, f2, f3, ()), (b0, b1, b2, b3, ()), fl, ()) (sayF ((f0, f1, f2, f3, ()), (b0, b1, b2, b3, ()), fl, ()) 25) 25 = some [⟨.bool, true⟩] := by
  unfold onR
  repeat (first | exact leafB (rfl) | (refine bp ?_ ?_; focus (first | rfl | (simp [sayF]; done))) | (refine bn ?_ ?_; focus (first | rfl | (simp [sayF]; done))))
theorem one_7 (f0 f1 f2 f3 b0 b1 b2 b3 fl : Int) : onR ((f0, f1, f2, f3, ()), (b0, b1, b2, b3, ()), fl, ()) (sayF ((f0, f1, f2, f3, ()), (b0, b1, b2, b3, ()), fl, ()) 7) 7 = some [⟨.bool, true⟩] := by
  unfold onR
  repeat (first | exact leafB (nil_fl _ _) | (refine bp ?_ ?_; focus (first | rfl | (simp [sayF]; done))) | (refine bn ?_ ?_; focus (first | rfl | (simp [sayF]; done))))
theorem one_27 (f0 f1 f2 f3 b0 b1 b2 b3 fl : Int) : onR ((f0, f1, f2, f3, ()), (b0, b1, b2, b3, ()), fl, ()) (sayF ((f0, f1, f2, f3, ()), (b0, b1, b2, b3, ()), fl, ()) 27) 27 = some [⟨.bool, true⟩] := by
  unfold onR
  repeat (first | exact leafB (rfl) | (refine bp ?_ ?_; focus (first | rfl | (simp [sayF]; done))) | (refine bn ?_ ?_; focus (first | rfl | (simp [sayF]; done))))
theorem one_8 (f0 f1 f2 f3 b0 b1 b2 b3 fl : Int) : onR ((f0, f1, f2, f3, ()), (b0, b1, b2, b3, ()), fl, ()) (sayF ((f0, f1, f2, f3, ()), (b0, b1, b2, b3, ()), fl, ()) 8) 8 = some [⟨.bool, true⟩] := by
  unfold onR
  repeat (first | exact leafB (nil_fl _ _) | (refine bp ?_ ?_; focus (first | rfl | (simp [sayF]; done))) | (refine bn ?_ ?_; focus (first | rfl | (simp [sayF]; done))))
theorem one_28 (f0 f1 f2 f3 b0 b1 b2 b3 fl : Int) : onR ((f0, f1, f2, f3, ()), (b0, b1, b2, b3, ()), fl, ()) (sayF ((f0, f1, f2, f3, ()), (b0, b1, b2, b3, ()), fl, ()) 28) 28 = some [⟨.bool, true⟩] := by
  unfold onR
  repeat (first | exact leafB (rfl) | (refine bp ?_ ?_; focus (first | rfl | (simp [sayF]; done))) | (refine bn ?_ ?_; focus (first | rfl | (simp [sayF]; done))))
theorem one_9 (f0 f1 f2 f3 b0 b1 b2 b3 fl : Int) : onR ((f0, f1, f2, f3, ()), (b0, b1, b2, b3, ()), fl, ()) (sayF ((f0, f1, f2, f3, ()), (b0, b1, b2, b3, ()), fl, ()) 9) 9 = some [⟨.bool, true⟩] := by
  unfold onR
  repeat (first | exact leafB (nil_fl _ _) | (refine bp ?_ ?_; focus (first | rfl | (simp [sayF]; done))) | (refine bn ?_ ?_; focus (first | rfl | (simp [sayF]; done))))
theorem one_29 (f0 f1 f2 f3 b0 b1 b2 b3 fl : Int) : onR ((f0, f1, f2, f3, ()), (b0, b1, b2, b3, ()), fl, ()) (sayF ((f0, f1, f2, f3, ()), (b0, b1, b2, b3, ()), fl, ()) 29) 29 = some [⟨.bool, true⟩] := by
  unfold onR
  repeat (first | exact leafB (rfl) | (refine bp ?_ ?_; focus (first | rfl | (simp [sayF]; done))) | (refine bn ?_ ?_; focus (first | rfl | (simp [sayF]; done))))
theorem one_21 (f0 f1 f2 f3 b0 b1 b2 b3 fl : Int) : onR ((f0, f1, f2, f3, ()), (b0, b1, b2, b3, ()), fl, ()) (sayF ((f0, f1, f2, f3, ()), (b0, b1, b2, b3, ()), fl, ()) 21) 21 = some [⟨.bool, true⟩] := by
  unfold onR
  repeat (first | exact leafB (fl1_21 _) | (refine bp ?_ ?_; focus (first | rfl | (simp [sayF]; done))) | (refine bn ?_ ?_; focus (first | rfl | (simp [sayF]; done))))
theorem one_30 (f0 f1 f2 f3 b0 b1 b2 b3 fl : Int) : onR ((f0, f1, f2, f3, ()), (b0, b1, b2, b3, ()), fl, ()) (sayF ((f0, f1, f2, f3, ()), (b0, b1, b2, b3, ()), fl, ()) 30) 30 = some [⟨.bool, true⟩] := by
  unfold onR
  repeat (first | (refine ret1 (dyB ?_); first | rfl | (simp [sayF]; done)) | (refine bp ?_ ?_; focus (first | rfl | (simp [sayF]; done))) | (refine bn ?_ ?_; focus (first | rfl | (simp [sayF]; done))))
theorem one_90 (f0 f1 f2 f3 b0 b1 b2 b3 fl : Int) : onR ((f0, f1, f2, f3, ()), (b0, b1, b2, b3, ()), fl, ()) (sayF ((f0, f1, f2, f3, ()), (b0, b1, b2, b3, ()), fl, ()) 90) 90 = some [⟨.bool, true⟩] := by
  unfold onR
  repeat (first | (refine ret1 (dyB ?_); first | rfl | (simp [sayF]; done)) | (refine bp ?_ ?_; focus (first | rfl | (simp [sayF]; done))) | (refine bn ?_ ?_; focus (first | rfl | (simp [sayF]; done))))
theorem one_40 (f0 f1 f2 f3 b0 b1 b2 b3 fl : Int) : onR ((f0, f1, f2, f3, ()), (b0, b1, b2, b3, ()), fl, ()) (sayF ((f0, f1, f2, f3, ()), (b0, b1, b2, b3, ()), fl, ()) 40) 40 = some [⟨.bool, true⟩] := by
  unfold onR
  repeat (first | (refine ret1 (dyB ?_); first | rfl | (simp [sayF]; done)) | (refine bp ?_ ?_; focus (first | rfl | (simp [sayF]; done))) | (refine bn ?_ ?_; focus (first | rfl | (simp [sayF]; done))))
theorem one_100 (f0 f1 f2 f3 b0 b1 b2 b3 fl : Int) : onR ((f0, f1, f2, f3, ()), (b0, b1, b2, b3, ()), fl, ()) (sayF ((f0, f1, f2, f3, ()), (b0, b1, b2, b3, ()), fl, ()) 100) 100 = some [⟨.bool, true⟩] := by
  unfold onR
  repeat (first | (refine ret1 (dyB ?_); first | rfl | (simp [sayF]; done)) | (refine bp ?_ ?_; focus (first | rfl | (simp [sayF]; done))) | (refine bn ?_ ?_; focus (first | rfl | (simp [sayF]; done))))
theorem one_31 (f0 f1 f2 f3 b0 b1 b2 b3 fl : Int) : onR ((f0, f1, f2, f3, ()), (b0, b1, b2, b3, ()), fl, ()) (sayF ((f0, f1, f2, f3, ()), (b0, b1, b2, b3, ()), fl, ()) 31) 31 = some [⟨.bool, true⟩] := by
  unfold onR
  repeat (first | (refine ret1 (dyB ?_); first | rfl | (simp [sayF]; done)) | (refine bp ?_ ?_; focus (first | rfl | (simp [sayF]; done))) | (refine bn ?_ ?_; focus (first | rfl | (simp [sayF]; done))))
theorem one_91 (f0 f1 f2 f3 b0 b1 b2 b3 fl : Int) : onR ((f0, f1, f2, f3, ()), (b0, b1, b2, b3, ()), fl, ()) (sayF ((f0, f1, f2, f3, ()), (b0, b1, b2, b3, ()), fl, ()) 91) 91 = some [⟨.bool, true⟩] := by
  unfold onR
  repeat (first | (refine ret1 (dyB ?_); first | rfl | (simp [sayF]; done)) | (refine bp ?_ ?_; focus (first | rfl | (simp [sayF]; done))) | (refine bn ?_ ?_; focus (first | rfl | (simp [sayF]; done))))
theorem one_41 (f0 f1 f2 f3 b0 b1 b2 b3 fl : Int) : onR ((f0, f1, f2, f3, ()), (b0, b1, b2, b3, ()), fl, ()) (sayF ((f0, f1, f2, f3, ()), (b0, b1, b2, b3, ()), fl, ()) 41) 41 = some [⟨.bool, true⟩] := by
  unfold onR
  repeat (first | (refine ret1 (dyB ?_); first | rfl | (simp [sayF]; done)) | (refine bp ?_ ?_; focus (first | rfl | (simp [sayF]; done))) | (refine bn ?_ ?_; focus (first | rfl | (simp [sayF]; done))))
theorem one_101 (f0 f1 f2 f3 b0 b1 b2 b3 fl : Int) : onR ((f0, f1, f2, f3, ()), (b0, b1, b2, b3, ()), fl, ()) (sayF ((f0, f1, f2, f3, ()), (b0, b1, b2, b3, ()), fl, ()) 101) 101 = some [⟨.bool, true⟩] := by
  unfold onR
  repeat (first | (refine ret1 (dyB ?_); first | rfl | (simp [sayF]; done)) | (refine bp ?_ ?_; focus (first | rfl | (simp [sayF]; done))) | (refine bn ?_ ?_; focus (first | rfl | (simp [sayF]; done))))
theorem one_32 (f0 f1 f2 f3 b0 b1 b2 b3 fl : Int) : onR ((f0, f1, f2, f3, ()), (b0, b1, b2, b3, ()), fl, ()) (sayF ((f0, f1, f2, f3, ()), (b0, b1, b2, b3, ()), fl, ()) 32) 32 = some [⟨.bool, true⟩] := by
  unfold onR
  repeat (first | (refine ret1 (dyB ?_); first | rfl | (simp [sayF]; done)) | (refine bp ?_ ?_; focus (first | rfl | (simp [sayF]; done))) | (refine bn ?_ ?_; focus (first | rfl | (simp [sayF]; done))))
theorem one_92 (f0 f1 f2 f3 b0 b1 b2 b3 fl : Int) : onR ((f0, f1, f2, f3, ()), (b0, b1, b2, b3, ()), fl, ()) (sayF ((f0, f1, f2, f3, ()), (b0, b1, b2, b3, ()), fl, ()) 92) 92 = some [⟨.bool, true⟩] := by
  unfold onR
  repeat (first | (refine ret1 (dyB ?_); first | rfl | (simp [sayF]; done)) | (refine bp ?_ ?_; focus (first | rfl | (simp [sayF]; done))) | (refine bn ?_ ?_; focus (first | rfl | (simp [sayF]; done))))
theorem one_42 (f0 f1 f2 f3 b0 b1 b2 b3 fl : Int) : onR ((f0, f1, f2, f3, ()), (b0, b1, b2, b3, ()), fl, ()) (sayF ((f0, f1, f2, f3, ()), (b0, b1, b2, b3, ()), fl, ()) 42) 42 = some [⟨.bool, true⟩] := by
  unfold onR
  repeat (first | (refine ret1 (dyB ?_); first | rfl | (simp [sayF]; done)) | (refine bp ?_ ?_; focus (first | rfl | (simp [sayF]; done))) | (refine bn ?_ ?_; focus (first | rfl | (simp [sayF]; done))))
theorem one_102 (f0 f1 f2 f3 b0 b1 b2 b3 fl : Int) : onR ((f0, f1, f2, f3, ()), (b0, b1, b2, b3, ()), fl, ()) (sayF ((f0, f1, f2, f3, ()), (b0, b1, b2, b3, ()), fl, ()) 102) 102 = some [⟨.bool, true⟩] := by
  unfold onR
  repeat (first | (refine ret1 (dyB ?_); first | rfl | (simp [sayF]; done)) | (refine bp ?_ ?_; focus (first | rfl | (simp [sayF]; done))) | (refine bn ?_ ?_; focus (first | rfl | (simp [sayF]; done))))
theorem one_33 (f0 f1 f2 f3 b0 b1 b2 b3 fl : Int) : onR ((f0, f1, f2, f3, ()), (b0, b1, b2, b3, ()), fl, ()) (sayF ((f0, f1, f2, f3, ()), (b0, b1, b2, b3, ()), fl, ()) 33) 33 = some [⟨.bool, true⟩] := by
  unfold onR
  repeat (first | (refine ret1 (dyB ?_); first | rfl | (simp [sayF]; done)) | (refine bp ?_ ?_; focus (first | rfl | (simp [sayF]; done))) | (refine bn ?_ ?_; focus (first | rfl | (simp [sayF]; done))))
theorem one_93 (f0 f1 f2 f3 b0 b1 b2 b3 fl : Int) : onR ((f0, f1, f2, f3, ()), (b0, b1, b2, b3, ()), fl, ()) (sayF ((f0, f1, f2, f3, ()), (b0, b1, b2, b3, ()), fl, ()) 93) 93 = some [⟨.bool, true⟩] := by
  unfold onR
  repeat (first | (refine ret1 (dyB ?_); first | rfl | (simp [sayF]; done)) | (refine bp ?_ ?_; focus (first | rfl | (simp [sayF]; done))) | (refine bn ?_ ?_; focus (first | rfl | (simp [sayF]; done))))
theorem one_43 (f0 f1 f2 f3 b0 b1 b2 b3 fl : Int) : onR ((f0, f1, f2, f3, ()), (b0, b1, b2, b3, ()), fl, ()) (sayF ((f0, f1, f2, f3, ()), (b0, b1, b2, b3, ()), fl, ()) 43) 43 = some [⟨.bool, true⟩] := by
  unfold onR
  repeat (first | (refine ret1 (dyB ?_); first | rfl | (simp [sayF]; done)) | (refine bp ?_ ?_; focus (first | rfl | (simp [sayF]; done))) | (refine bn ?_ ?_; focus (first | rfl | (simp [sayF]; done))))
theorem one_103 (f0 f1 f2 f3 b0 b1 b2 b3 fl : Int) : onR ((f0, f1, f2, f3, ()), (b0, b1, b2, b3, ()), fl, ()) (sayF ((f0, f1, f2, f3, ()), (b0, b1, b2, b3, ()), fl, ()) 103) 103 = some [⟨.bool, true⟩] := by
  unfold onR
  repeat (first | (refine ret1 (dyB ?_); first | rfl | (simp [sayF]; done)) | (refine bp ?_ ?_; focus (first | rfl | (simp [sayF]; done))) | (refine bn ?_ ?_; focus (first | rfl | (simp [sayF]; done))))
theorem one_34 (f0 f1 f2 f3 b0 b1 b2 b3 fl : Int) : onR ((f0, f1, f2, f3, ()), (b0, b1, b2, b3, ()), fl, ()) (sayF ((f0, f1, f2, f3, ()), (b0, b1, b2, b3, ()), fl, ()) 34) 34 = some [⟨.bool, true⟩] := by
  unfold onR
  repeat (first | (refine ret1 (dyB ?_); first | rfl | (simp [sayF]; done)) | (refine bp ?_ ?_; focus (first | rfl | (simp [sayF]; done))) | (refine bn ?_ ?_; focus (first | rfl | (simp [sayF]; done))))
theorem one_94 (f0 f1 f2 f3 b0 b1 b2 b3 fl : Int) : onR ((f0, f1, f2, f3, ()), (b0, b1, b2, b3, ()), fl, ()) (sayF ((f0, f1, f2, f3, ()), (b0, b1, b2, b3, ()), fl, ()) 94) 94 = some [⟨.bool, true⟩] := by
  unfold onR
  repeat (first | (refine ret1 (dyB ?_); first | rfl | (simp [sayF]; done)) | (refine bp ?_ ?_; focus (first | rfl | (simp [sayF]; done))) | (refine bn ?_ ?_; focus (first | rfl | (simp [sayF]; done))))
theorem one_44 (f0 f1 f2 f3 b0 b1 b2 b3 fl : Int) : onR ((f0, f1, f2, f3, ()), (b0, b1, b2, b3, ()), fl, ()) (sayF ((f0, f1, f2, f3, ()), (b0, b1, b2, b3, ()), fl, ()) 44) 44 = some [⟨.bool, true⟩] := by
  unfold onR
  repeat (first | (refine ret1 (dyB ?_); first | rfl | (simp [sayF]; done)) | (refine bp ?_ ?_; focus (first | rfl | (simp [sayF]; done))) | (refine bn ?_ ?_; focus (first | rfl | (simp [sayF]; done))))
theorem one_104 (f0 f1 f2 f3 b0 b1 b2 b3 fl : Int) : onR ((f0, f1, f2, f3, ()), (b0, b1, b2, b3, ()), fl, ()) (sayF ((f0, f1, f2, f3, ()), (b0, b1, b2, b3, ()), fl, ()) 104) 104 = some [⟨.bool, true⟩] := by
  unfold onR
  repeat (first | (refine ret1 (dyB ?_); first | rfl | (simp [sayF]; done)) | (refine bp ?_ ?_; focus (first | rfl | (simp [sayF]; done))) | (refine bn ?_ ?_; focus (first | rfl | (simp [sayF]; done))))
theorem one_35 (f0 f1 f2 f3 b0 b1 b2 b3 fl : Int) : onR ((f0, f1, f2, f3, ()), (b0, b1, b2, b3, ()), fl, ()) (sayF ((f0, f1, f2, f3, ()), (b0, b1, b2, b3, ()), fl, ()) 35) 35 = some [⟨.bool, true⟩] := by
  unfold onR
  repeat (first | (refine ret1 (dyB ?_); first | rfl | (simp [sayF]; done)) | (refine bp ?_ ?_; focus (first | rfl | (simp [sayF]; done))) | (refine bn ?_ ?_; focus (first | rfl | (simp [sayF]; done))))
theorem one_95 (f0 f1 f2 f3 b0 b1 b2 b3 fl : Int) : onR ((f0, f1, f2, f3, ()), (b0, b1, b2, b3, ()), fl, ()) (sayF ((f0, f1, f2, f3, ()), (b0, b1, b2, b3, ()), fl, ()) 95) 95 = some [⟨.bool, true⟩] := by
  unfold onR
  repeat (first | (refine ret1 (dyB ?_); first | rfl | (simp [sayF]; done)) | (refine bp ?_ ?_; focus (first | rfl | (simp [sayF]; done))) | (refine bn ?_ ?_; focus (first | rfl | (simp [sayF]; done))))
theorem one_45 (f0 f1 f2 f3 b0 b1 b2 b3 fl : Int) : onR ((f0, f1, f2, f3, ()), (b0, b1, b2, b3, ()), fl, ()) (sayF ((f0, f1, f2, f3, ()), (b0, b1, b2, b3, ()), fl, ()) 45) 45 = some [⟨.bool, true⟩] := by
  unfold onR
  repeat (first | (refine ret1 (dyB ?_); first | rfl | (simp [sayF]; done)) | (refine bp ?_ ?_; focus (first | rfl | (simp [sayF]; done))) | (refine bn ?_ ?_; focus (first | rfl | (simp [sayF]; done))))
theorem one_105 (f0 f1 f2 f3 b0 b1 b2 b3 fl : Int) : onR ((f0, f1, f2, f3, ()), (b0, b1, b2, b3, ()), fl, ()) (sayF ((f0, f1, f2, f3, ()), (b0, b1, b2, b3, ()), fl, ()) 105) 105 = some [⟨.bool, true⟩] := by
  unfold onR
  repeat (first | (refine ret1 (dyB ?_); first | rfl | (simp [sayF]; done)) | (refine bp ?_ ?_; focus (first | rfl | (simp [sayF]; done))) | (refine bn ?_ ?_; focus (first | rfl | (simp [sayF]; done))))
theorem one_36 (f0 f1 f2 f3 b0 b1 b2 b3 fl : Int) : onR ((f0, f1, f2, f3, ()), (b0, b1, b2, b3, ()), fl, ()) (sayF ((f0, f1, f2, f3, ()), (b0, b1, b2, b3, ()), fl, ()) 36) 36 = some [⟨.bool, true⟩] := by
  unfold onR
  repeat (first | (refine ret1 (dyB ?_); first | rfl | (simp [sayF]; done)) | (refine bp ?_ ?_; focus (first | rfl | (simp [sayF]; done))) | (refine bn ?_ ?_; focus (first | rfl | (simp [sayF]; done))))
theorem one_96 (f0 f1 f2 f3 b0 b1 b2 b3 fl : Int) : onR ((f0, f1, f2, f3, ()), (b0, b1, b2, b3, ()), fl, ()) (sayF ((f0, f1, f2, f3, ()), (b0, b1, b2, b3, ()), fl, ()) 96) 96 = some [⟨.bool, true⟩] := by
  unfold onR
  repeat (first | (refine ret1 (dyB ?_); first | rfl | (simp [sayF]; done)) | (refine bp ?_ ?_; focus (first | rfl | (simp [sayF]; done))) | (refine bn ?_ ?_; focus (first | rfl | (simp [sayF]; done))))
theorem one_46 (f0 f1 f2 f3 b0 b1 b2 b3 fl : Int) : onR ((f0, f1, f2, f3, ()), (b0, b1, b2, b3, ()), fl, ()) (sayF ((f0, f1, f2, f3, ()), (b0, b1, b2, b3, ()), fl, ()) 46) 46 = some [⟨.bool, true⟩] := by
  unfold onR
  repeat (first | (refine ret1 (dyB ?_); first | rfl | (simp [sayF]; done)) | (refine bp ?_ ?_; focus (first | rfl | (simp [sayF]; done))) | (refine bn ?_ ?_; focus (first | rfl | (simp [sayF]; done))))
theorem one_106 (f0 f1 f2 f3 b0 b1 b2 b3 fl : Int) : onR ((f0, f1, f2, f3, ()), (b0, b1, b2, b3, ()), fl, ()) (sayF ((f0, f1, f2, f3, ()), (b0, b1, b2, b3, ()), fl, ()) 106) 106 = some [⟨.bool, true⟩] := by
  unfold onR
  repeat (first | (refine ret1 (dyB ?_); first | rfl | (simp [sayF]; done)) | (refine bp ?_ ?_; focus (first | rfl | (simp [sayF]; done))) | (refine bn ?_ ?_; focus (first | rfl | (simp [sayF]; done))))
theorem one_37 (f0 f1 f2 f3 b0 b1 b2 b3 fl : Int) : onR ((f0, f1, f2, f3, ()), (b0, b1, b2, b3, ()), fl, ()) (sayF ((f0, f1, f2, f3, ()), (b0, b1, b2, b3, ()), fl, ()) 37) 37 = some [⟨.bool, true⟩] := by
  unfold onR
  repeat (first | (refine ret1 (dyB ?_); first | rfl | (simp [sayF]; done)) | (refine bp ?_ ?_; focus (first | rfl | (simp [sayF]; done))) | (refine bn ?_ ?_; focus (first | rfl | (simp [sayF]; done))))
theorem one_97 (f0 f1 f2 f3 b0 b1 b2 b3 fl : Int) : onR ((f0, f1, f2, f3, ()), (b0, b1, b2, b3, ()), fl, ()) (sayF ((f0, f1, f2, f3, ()), (b0, b1, b2, b3, ()), fl, ()) 97) 97 = some [⟨.bool, true⟩] := by
  unfold onR
  repeat (first | (refine ret1 (dyB ?_); first | rfl | (simp [sayF]; done)) | (refine bp ?_ ?_; focus (first | rfl | (simp [sayF]; done))) | (refine bn ?_ ?_; focus (first | rfl | (simp [sayF]; done))))
theorem one_47 (f0 f1 f2 f3 b0 b1 b2 b3 fl : Int) : onR ((f0, f1, f2, f3, ()), (b0, b1, b2, b3, ()), fl, ()) (sayF ((f0, f1, f2, f3, ()), (b0, b1, b2, b3, ()), fl, ()) 47) 47 = some [⟨.bool, true⟩] := by
  unfold onR
  repeat (first | (refine ret1 (dyB ?_); first | rfl | (simp [sayF]; done)) | (refine bp ?_ ?_; focus (first | rfl | (simp [sayF]; done))) | (refine bn ?_ ?_; focus (first | rfl | (simp [sayF]; done))))
theorem one_107 (f0 f1 f2 f3 b0 b1 b2 b3 fl : Int) : onR ((f0, f1, f2, f3, ()), (b0, b1, b2, b3, ()), fl, ()) (sayF ((f0, f1, f2, f3, ()), (b0, b1, b2, b3, ()), fl, ()) 107) 107 = some [⟨.bool, true⟩] := by
  unfold onR
  repeat (first | (refine ret1 (dyB ?_); first | rfl | (simp [sayF]; done)) | (refine bp ?_ ?_; focus (first | rfl | (simp [sayF]; done))) | (refine bn ?_ ?_; focus (first | rfl | (simp [sayF]; done))))
end Go.Proofs.YthmmpfaghmoenaaDoor

namespace Go.Proofs.YthmmpfaghmoenaaDoor
open Go Go.Am
set_option linter.unusedVariables false

theorem nil_idem (f s : Int) : orF (clrL [] (orF (clrL [] f) s)) s = orF (clrL [] f) s := by rw [nil_fl, nil_fl, fl1_idem]
theorem two_idem (f : Int) : orF (clrL [1, 2] (orF (clrL [1, 2] f) 0)) 0 = orF (clrL [1, 2] f) 0 := by rw [two_fl, two_fl, fl1_idem]
def bF (a : A0) (n : Int) : A0 := if n = 38 ∨ n = 48 then a else sayF a n
theorem one_say (a : A0) (n : Int) (h : 0 ≤ n) : sgrF a [[n]] = bF a n := by
  show (nextF a [n] []).1 = _
  unfold nextF bF
  rw [if_neg (by simp), if_neg (by simp)]
  show (if n = 38 ∨ n = 48 then behF a n [] else (if n = -1 then zeroA else sayF a n, [])).1 = _
  split
  · rfl
  · rw [if_neg (by omega)]

def known : List Int := [0, 22, 39, 49, 1, 2, 3, 23, 4, 24, 5, 25, 7, 27, 8, 28, 9, 29, 21, 30, 90, 40, 100, 31, 91, 41, 101, 32, 92, 42, 102, 33, 93, 43, 103, 34, 94, 44, 104, 35, 95, 45, 105, 36, 96, 46, 106, 37, 97, 47, 107]
theorem else_say (a : A0) (n : Int) (h : ∀ k ∈ known, n ≠ k) : sayF a n = a := by
  unfold sayF
  rw [if_neg (h 0 (by decide)), if_neg (h 22 (by decide)), if_neg (h 39 (by decide)), if_neg (h 49 (by decide)), if_neg (h 1 (by decide)), if_neg (h 2 (by decide)), if_neg (h 3 (by decide)), if_neg (h 23 (by decide)), if_neg (h 4 (by decide)), if_neg (h 24 (by decide)), if_neg (h 5 (by decide)), if_neg (h 25 (by decide)), if_neg (h 7 (by decide)), if_neg (h 27 (by decide)), if_neg (h 8 (by decide)), if_neg (h 28 (by decide)), if_neg (h 9 (by decide)), if_neg (h 29 (by decide)), if_neg (h 21 (by decide)), if_neg (h 30 (by decide)), if_neg (h 90 (by decide)), if_neg (h 40 (by decide)), if_neg (h 100 (by decide)), if_neg (h 31 (by decide)), if_neg (h 91 (by decide)), if_neg (h 41 (by decide)), if_neg (h 101 (by decide)), if_neg (h 32 (by decide)), if_neg (h 92 (by decide)), if_neg (h 42 (by decide)), if_neg (h 102 (by decide)), if_neg (h 33 (by decide)), if_neg (h 93 (by decide)), if_neg (h 43 (by decide)), if_neg (h 103 (by decide)), if_neg (h 34 (by decide)), if_neg (h 94 (by decide)), if_neg (h 44 (by decide)), if_neg (h 104 (by decide)), if_neg (h 35 (by decide)), if_neg (h 95 (by decide)), if_neg (h 45 (by decide)), if_neg (h 105 (by decide)), if_neg (h 36 (by decide)), if_neg (h 96 (by decide)), if_neg (h 46 (by decide)), if_neg (h 106 (by decide)), if_neg (h 37 (by decide)), if_neg (h 97 (by decide)), if_neg (h 47 (by decide)), if_neg (h 107 (by decide))]
theorem else_on (a : A0) (hfl : 0 ≤ a.2.2.1 ∧ a.2.2.1 ≤ 65535) (n : Int) (h : ∀ k ∈ known, n ≠ k) : onR a a n = some [⟨.bool, true⟩] := by
  have h30 : n ≠ 30 := h 30 (by decide)
  have h31 : n ≠ 31 := h 31 (by decide)
  have h32 : n ≠ 32 := h 32 (by decide)
  have h33 : n ≠ 33 := h 33 (by decide)
  have h34 : n ≠ 34 := h 34 (by decide)
  have h35 : n ≠ 35 := h 35 (by decide)
  have h36 : n ≠ 36 := h 36 (by decide)
  have h37 : n ≠ 37 := h 37 (by decide)
  have h90 : n ≠ 90 := h 90 (by decide)
  have h91 : n ≠ 91 := h 91 (by decide)
  have h92 : n ≠ 92 := h 92 (by decide)
  have h93 : n ≠ 93 := h 93 (by decide)
  have h94 : n ≠ 94 := h 94 (by decide)
  have h95 : n ≠ 95 := h 95 (by decide)
  have h96 : n ≠ 96 := h 96 (by decide)
  have h97 : n ≠ 97 := h 97 (by decide)
  have h40 : n ≠ 40 := h 40 (by decide)
  have h41 : n ≠ 41 := h 41 (by decide)
  have h42 : n ≠ 42 := h 42 (by decide)
  have h43 : n ≠ 43 := h 43 (by decide)
  have h44 : n ≠ 44 := h 44 (by decide)
  have h45 : n ≠ 45 := h 45 (by decide)
  have h46 : n ≠ 46 := h 46 (by decide)
  have h47 : n ≠ 47 := h 47 (by decide)
  have h100 : n ≠ 100 := h 100 (by decide)
  have h101 : n ≠ 101 := h 101 (by decide)
  have h102 : n ≠ 102 := h 102 (by decide)
  have h103 : n ≠ 103 := h 103 (by decide)
  have h104 : n ≠ 104 := h 104 (by decide)
  have h105 : n ≠ 105 := h 105 (by decide)
  have h106 : n ≠ 106 := h 106 (by decide)
  have h107 : n ≠ 107 := h 107 (by decide)
  have h39 : n ≠ 39 := h 39 (by decide)
  have h49 : n ≠ 49 := h 49 (by decide)
  have c1 : (decide ((30 : Int) ≤ n) && decide (n ≤ (37 : Int)) || decide ((90 : Int) ≤ n) && decide (n ≤ (97 : Int)) || n == (39 : Int)) = false := by
    simp only [Bool.or_eq_false_iff, Bool.and_eq_false_iff, decide_eq_false_iff_not, beq_eq_false_iff_ne]
    omega
  have c2 : (decide ((40 : Int) ≤ n) && decide (n ≤ (47 : Int)) || decide ((100 : Int) ≤ n) && decide (n ≤ (107 : Int)) || n == (49 : Int)) = false := by
    simp only [Bool.or_eq_false_iff, Bool.and_eq_false_iff, decide_eq_false_iff_not, beq_eq_false_iff_ne]
    omega
  unfold onR
  refine bn (by simpa using h 0 (by decide)) (bn c1 (bn c2 ?_))
  refine bp (by simp) ?_
  repeat (first | exact leafB (fl1_0 hfl).symm | (refine bn ?_ ?_; focus (simpa using h _ (by decide))))
theorem idem_0 (f0 f1 f2 f3 b0 b1 b2 b3 fl : Int) : sayF (sayF ((f0, f1, f2, f3, ()), (b0, b1, b2, b3, ()), fl, ()) 0) 0 = sayF ((f0, f1, f2, f3, ()), (b0, b1, b2, b3, ()), fl, ()) 0 := rfl
theorem idem_22 (f0 f1 f2 f3 b0 b1 b2 b3 fl : Int) : sayF (sayF ((f0, f1, f2, f3, ()), (b0, b1, b2, b3, ()), fl, ()) 22) 22 = sayF ((f0, f1, f2, f3, ()), (b0, b1, b2, b3, ()), fl, ()) 22 := congrArg (fun x => (((f0, f1, f2, f3, ()), (b0, b1, b2, b3, ()), x, ()) : A0)) (two_idem fl)
theorem idem_39 (f0 f1 f2 f3 b0 b1 b2 b3 fl : Int) : sayF (sayF ((f0, f1, f2, f3, ()), (b0, b1, b2, b3, ()), fl, ()) 39) 39 = sayF ((f0, f1, f2, f3, ()), (b0, b1, b2, b3, ()), fl, ()) 39 := rfl
theorem idem_49 (f0 f1 f2 f3 b0 b1 b2 b3 fl : Int) : sayF (sayF ((f0, f1, f2, f3, ()), (b0, b1, b2, b3, ()), fl, ()) 49) 49 = sayF ((f0, f1, f2, f3, ()), (b0, b1, b2, b3, ()), fl, ()) 49 := rfl
theorem idem_1 (f0 f1 f2 f3 b0 b1 b2 b3 fl : Int) : sayF (sayF ((f0, f1, f2, f3, ()), (b0, b1, b2, b3, ()), fl, ()) 1) 1 = sayF ((f0, f1, f2, f3, ()), (b0, b1, b2, b3, ()), fl, ()) 1 := congrArg (fun x => (((f0, f1, f2, f3, ()), (b0, b1, b2, b3, ()), x, ()) : A0)) (nil_idem fl 1)
theorem idem_2 (f0 f1 f2 f3 b0 b1 b2 b3 fl : Int) : sayF (sayF ((f0, f1, f2, f3, ()), (b0, b1, b2, b3, ()), fl, ()) 2) 2 = sayF ((f0, f1, f2, f3, ()), (b0, b1, b2, b3, ()), fl, ()) 2 := congrArg (fun x => (((f0, f1, f2, f3, ()), (b0, b1, b2, b3, ()), x, ()) : A0)) (nil_idem fl 2)
theorem idem_3 (f0 f1 f2 f3 b0 b1 b2 b3 fl : Int) : sayF (sayF ((f0, f1, f2, f3, ()), (b0, b1, b2, b3, ()), fl, ()) 3) 3 = sayF ((f0, f1, f2, f3, ()), (b0, b1, b2, b3, ()), fl, ()) 3 := congrArg (fun x => (((f0, f1, f2, f3, ()), (b0, b1, b2, b3, ()), x, ()) : A0)) (nil_idem fl 4)
theorem idem_23 (f0 f1 f2 f3 b0 b1 b2 b3 fl : Int) : sayF (sayF ((f0, f1, f2, f3, ()), (b0, b1, b2, b3, ()), fl, ()) 23) 23 = sayF ((f0, f1, f2, f3, ()), (b0, b1, b2, b3, ()), fl, ()) 23 := congrArg (fun x => (((f0, f1, f2, f3, ()), (b0, b1, b2, b3, ()), x, ()) : A0)) (fl1_idem fl 4 0)
theorem idem_4 (f0 f1 f2 f3 b0 b1 b2 b3 fl : Int) : sayF (sayF ((f0, f1, f2, f3, ()), (b0, b1, b2, b3, ()), fl, ()) 4) 4 = sayF ((f0, f1, f2, f3, ()), (b0, b1, b2, b3, ()), fl, ()) 4 := congrArg (fun x => (((f0, f1, f2, f3, ()), (b0, b1, b2, b3, ()), x, ()) : A0)) (fl1_idem fl 264 8)
theorem idem_24 (f0 f1 f2 f3 b0 b1 b2 b3 fl : Int) : sayF (sayF ((f0, f1, f2, f3, ()), (b0, b1, b2, b3, ()), fl, ()) 24) 24 = sayF ((f0, f1, f2, f3, ()), (b0, b1, b2, b3, ()), fl, ()) 24 := congrArg (fun x => (((f0, f1, f2, f3, ()), (b0, b1, b2, b3, ()), x, ()) : A0)) (fl1_idem fl 264 0)
theorem idem_5 (f0 f1 f2 f3 b0 b1 b2 b3 fl : Int) : sayF (sayF ((f0, f1, f2, f3, ()), (b0, b1, b2, b3, ()), fl, ()) 5) 5 = sayF ((f0, f1, f2, f3, ()), (b0, b1, b2, b3, ()), fl, ()) 5 := congrArg (fun x => (((f0, f1, f2, f3, ()), (b0, b1, b2, b3, ()), x, ()) : A0)) (nil_idem fl 16)
theorem idem_25 (f0 f1 f2 f3 b0 b1 b2 b3 fl : Int) : sayF (sayF ((f0, f1, f2, f3, ()), (b0, b1, b2, b3, ()), fl, ()) 25) 25 = sayF ((f0, f1, f2, f3, ()), (b0, b1, b2, b3, ()), fl, ()) 25 := congrArg (fun x => (((f0, f1, f2, f3, ()), (b0, b1, b2, b3, ()), x, ()) : A0)) (fl1_idem fl 16 0)
theorem idem_7 (f0 f1 f2 f3 b0 b1 b2 b3 fl : Int) : sayF (sayF ((f0, f1, f2, f3, ()), (b0, b1, b2, b3, ()), fl, ()) 7) 7 = sayF ((f0, f1, f2, f3, ()), (b0, b1, b2, b3, ()), fl, ()) 7 := congrArg (fun x => (((f0, f1, f2, f3, ()), (b0, b1, b2, b3, ()), x, ()) : A0)) (nil_idem fl 32)
theorem idem_27 (f0 f1 f2 f3 b0 b1 b2 b3 fl : Int) : sayF (sayF ((f0, f1, f2, f3, ()), (b0, b1, b2, b3, ()), fl, ()) 27) 27 = sayF ((f0, f1, f2, f3, ()), (b0, b1, b2, b3, ()), fl, ()) 27 := congrArg (fun x => (((f0, f1, f2, f3, ()), (b0, b1, b2, b3, ()), x, ()) : A0)) (fl1_idem fl 32 0)
theorem idem_8 (f0 f1 f2 f3 b0 b1 b2 b3 fl : Int) : sayF (sayF ((f0, f1, f2, f3, ()), (b0, b1, b2, b3, ()), fl, ()) 8) 8 = sayF ((f0, f1, f2, f3, ()), (b0, b1, b2, b3, ()), fl, ()) 8 := congrArg (fun x => (((f0, f1, f2, f3, ()), (b0, b1, b2, b3, ()), x, ()) : A0)) (nil_idem fl 64)
theorem idem_28 (f0 f1 f2 f3 b0 b1 b2 b3 fl : Int) : sayF (sayF ((f0, f1, f2, f3, ()), (b0, b1, b2, b3, ()), fl, ()) 28) 28 = sayF ((f0, f1, f2, f3, ()), (b0, b1, b2, b3, ()), fl, ()) 28 := congrArg (fun x => (((f0, f1, f2, f3, ()), (b0, b1, b2, b3, ()), x, ()) : A0)) (fl1_idem fl 64 0)
theorem idem_9 (f0 f1 f2 f3 b0 b1 b2 b3 fl : Int) : sayF (sayF ((f0, f1, f2, f3, ()), (b0, b1, b2, b3, ()), fl, ()) 9) 9 = sayF ((f0, f1, f2, f3, ()), (b0, b1, b2, b3, ()), fl, ()) 9 := congrArg (fun x => (((f0, f1, f2, f3, ()), (b0, b1, b2, b3, ()), x, ()) : A0)) (nil_idem fl 128)
theorem idem_29 (f0 f1 f2 f3 b0 b1 b2 b3 fl : Int) : sayF (sayF ((f0, f1, f2, f3, ()), (b0, b1, b2, b3, ()), fl, ()) 29) 29 = sayF ((f0, f1, f2, f3, ()), (b0, b1, b2, b3, ()), fl, ()) 29 := congrArg (fun x => (((f0, f1, f2, f3, ()), (b0, b1, b2, b3, ()), x, ()) : A0)) (fl1_idem fl 128 0)
theorem idem_21 (f0 f1 f2 f3 b0 b1 b2 b3 fl : Int) : sayF (sayF ((f0, f1, f2, f3, ()), (b0, b1, b2, b3, ()), fl, ()) 21) 21 = sayF ((f0, f1, f2, f3, ()), (b0, b1, b2, b3, ()), fl, ()) 21 := congrArg (fun x => (((f0, f1, f2, f3, ()), (b0, b1, b2, b3, ()), x, ()) : A0)) (fl1_idem fl 264 256)
theorem idem_30 (f0 f1 f2 f3 b0 b1 b2 b3 fl : Int) : sayF (sayF ((f0, f1, f2, f3, ()), (b0, b1, b2, b3, ()), fl, ()) 30) 30 = sayF ((f0, f1, f2, f3, ()), (b0, b1, b2, b3, ()), fl, ()) 30 := rfl
theorem idem_90 (f0 f1 f2 f3 b0 b1 b2 b3 fl : Int) : sayF (sayF ((f0, f1, f2, f3, ()), (b0, b1, b2, b3, ()), fl, ()) 90) 90 = sayF ((f0, f1, f2, f3, ()), (b0, b1, b2, b3, ()), fl, ()) 90 := rfl
theorem idem_40 (f0 f1 f2 f3 b0 b1 b2 b3 fl : Int) : sayF (sayF ((f0, f1, f2, f3, ()), (b0, b1, b2, b3, ()), fl, ()) 40) 40 = sayF ((f0, f1, f2, f3, ()), (b0, b1, b2, b3, ()), fl, ()) 40 := rfl
theorem idem_100 (f0 f1 f2 f3 b0 b1 b2 b3 fl : Int) : sayF (sayF ((f0, f1, f2, f3, ()), (b0, b1, b2, b3, ()), fl, ()) 100) 100 = sayF ((f0, f1, f2, f3, ()), (b0, b1, b2, b3, ()), fl, ()) 100 := rfl
theorem idem_31 (f0 f1 f2 f3 b0 b1 b2 b3 fl : Int) : sayF (sayF ((f0, f1, f2, f3, ()), (b0, b1, b2, b3, ()), fl, ()) 31) 31 = sayF ((f0, f1, f2, f3, ()), (b0, b1, b2, b3, ()), fl, ()) 31 := rfl
theorem idem_91 (f0 f1 f2 f3 b0 b1 b2 b3 fl : Int) : sayF (sayF ((f0, f1, f2, f3, ()), (b0, b1, b2, b3, ()), fl, ()) 91) 91 = sayF ((f0, f1, f2, f3, ()), (b0, b1, b2, b3, ()), fl, ()) 91 := rfl
theorem idem_41 (f0 f1 f2 f3 b0 b1 b2 b3 fl : Int) : sayF (sayF ((f0, f1, f2, f3, ()), (b0, b1, b2, b3, ()), fl, ()) 41) 41 = sayF ((f0, f1, f2, f3, ()), (b0, b1, b2, b3, ()), fl, ()) 41 := rfl
theorem idem_101 (f0 f1 f2 f3 b0 b1 b2 b3 fl : Int) : sayF (sayF ((f0, f1, f2, f3, ()), (b0, b1, b2, b3, ()), fl, ()) 101) 101 = sayF ((f0, f1, f2, f3, ()), (b0, b1, b2, b3, ()), fl, ()) 101 := rfl
theorem idem_32 (f0 f1 f2 f3 b0 b1 b2 b3 fl : Int) : sayF (sayF ((f0, f1, f2, f3, ()), (b0, b1, b2, b3, ()), fl, ()) 32) 32 = sayF ((f0, f1, f2, f3, ()), (b0, b1, b2, b3, ()), fl, ()) 32 := rfl
theorem idem_92 (f0 f1 f2 f3 b0 b1 b2 b3 fl : Int) : sayF (sayF ((f0, f1, f2, f3, ()), (b0, b1, b2, b3, ()), fl, ()) 92) 92 = sayF ((f0, f1, f2, f3, ()), (b0, b1, b2, b3, ()), fl, ()) 92 := rfl
theorem idem_42 (f0 f1 f2 f3 b0 b1 b2 b3 fl : Int) : sayF (sayF ((f0, f1, f2, f3, ()), (b0, b1, b2, b3, ()), fl, ()) 42) 42 = sayF ((f0, f1, f2, f3, ()), (b0, b1, b2, b3, ()), fl, ()) 42 := rfl
theorem idem_102 (f0 f1 f2 f3 b0 b1 b2 b3 fl : Int) : sayF (sayF ((f0, f1, f2, f3, ()), (b0, b1, b2, b3, ()), fl, ()) 102) 102 = sayF ((f0, f1, f2, f3, ()), (b0, b1, b2, b3, ()), fl, ()) 102 := rfl
theorem idem_33 (f0 f1 f2 f3 b0 b1 b2 b3 fl : Int) : sayF (sayF ((f0, f1, f2, f3, ()), (b0, b1, b2, b3, ()), fl, ()) 33) 33 = sayF ((f0, f1, f2, f3, ()), (b0, b1, b2, b3, ()), fl, ()) 33 := rfl
theorem idem_93 (f0 f1 f2 f3 b0 b1 b2 b3 fl : Int) : sayF (sayF ((f0, f1, f2, f3, ()), (b0, b1, b2, b3, ()), fl, ()) 93) 93 = sayF ((f0, f1, f2, f3, ()), (b0, b1, b2, b3, ()), fl, ()) 93 := rfl
theorem idem_43 (f0 f1 f2 f3 b0 b1 b2 b3 fl : Int) : sayF (sayF ((f0, f1, f2, f3, ()), (b0, b1, b2, b3, ()), fl, ()) 43) 43 = sayF ((f0, f1, f2, f3, ()), (b0, b1, b2, b3, ()), fl, ()) 43 := rfl
theorem idem_103 (f0 f1 f2 f3 b0 b1 b2 b3 fl : Int) : sayF (sayF ((f0, f1, f2, f3, ()), (b0, b1, b2, b3, ()), fl, ()) 103) 103 = sayF ((f0, f1, f2, f3, ()), (b0, b1, b2, b3, ()), fl, ()) 103 := rfl
theorem idem_34 (f0 f1 f2 f3 b0 b1 b2 b3 fl : Int) : sayF (sayF ((f0, f1, f2, f3, ()), (b0, b1, b2, b3, ()), fl, ()) 34) 34 = sayF ((f0, f1, f2, f3, ()), (b0, b1, b2, b3, ()), fl, ()) 34 := rfl
theorem idem_94 (f0 f1 f2 f3 b0 b1 b2 b3 fl : Int) : sayF (sayF ((f0, f1, f2, f3, ()), (b0, b1, b2, b3, ()), fl, ()) 94) 94 = sayF ((f0, f1, f2, f3, ()), (b0, b1, b2, b3, ()), fl, ()) 94 := rfl
theorem idem_44 (f0 f1 f2 f3 b0 b1 b2 b3 fl : Int) : sayF (sayF ((f0, f1, f2, f3, ()), (b0, b1, b2, b3, ()), fl, ()) 44) 44 = sayF ((f0, f1, f2, f3, ()), (b0, b1, b2, b3, ()), fl, ()) 44 := rfl
theorem idem_104 (f0 f1 f2 f3 b0 b1 b2 b3 fl : Int) : sayF (sayF ((f0, f1, f2, f3, ()), (b0, b1, b2, b3, ()), fl, ()) 104) 104 = sayF ((f0, f1, f2, f3, ()), (b0, b1, b2, b3, ()), fl, ()) 104 := rfl
theorem idem_35 (f0 f1 f2 f3 b0 b1 b2 b3 fl : Int) : sayF (sayF ((f0, f1, f2, f3, ()), (b0, b1, b2, b3, ()), fl, ()) 35) 35 = sayF ((f0, f1, f2, f3, ()), (b0, b1, b2, b3, ()), fl, ()) 35 := rfl
theorem idem_95 (f0 f1 f2 f3 b0 b1 b2 b3 fl : Int) : sayF (sayF ((f0, f1, f2, f3, ()), (b0, b1, b2, b3, ()), fl, ()) 95) 95 = sayF ((f0, f1, f2, f3, ()), (b0, b1, b2, b3, ()), fl, ()) 95 := rfl
theorem idem_45 (f0 f1 f2 f3 b0 b1 b2 b3 fl : Int) : sayF (sayF ((f0, f1, f2, f3, ()), (b0, b1, b2, b3, ()), fl, ()) 45) 45 = sayF ((f0, f1, f2, f3, ()), (b0, b1, b2, b3, ()), fl, ()) 45 := rfl
theorem idem_105 (f0 f1 f2 f3 b0 b1 b2 b3 fl : Int) : sayF (sayF ((f0, f1, f2, f3, ()), (b0, b1, b2, b3, ()), fl, ()) 105) 105 = sayF ((f0, f1, f2, f3, ()), (b0, b1, b2, b3, ()), fl, ()) 105 := rfl
theorem idem_36 (f0 f1 f2 f3 b0 b1 b2 b3 fl : Int) : sayF (sayF ((f0, f1, f2, f3, ()), (b0, b1, b2, b3, ()), fl, ()) 36) 36 = sayF ((f0, f1, f2, f3, ()), (b0, b1, b2, b3, ()), fl, ()) 36 := rfl
theorem idem_96 (f0 f1 f2 f3 b0 b1 b2 b3 fl : Int) : sayF (sayF ((f0, f1, f2, f3, ()), (b0, b1, b2, b3, ()), fl, ()) 96) 96 = sayF ((f0, f1, f2, f3, ()), (b0, b1, b2, b3, ()), fl, ()) 96 := rfl
theorem idem_46 (f0 f1 f2 f3 b0 b1 b2 b3 fl : Int) : sayF (sayF ((f0, f1, f2, f3, ()), (b0, b1, b2, b3, ()), fl, ()) 46) 46 = sayF ((f0, f1, f2, f3, ()), (b0, b1, b2, b3, ()), fl, ()) 46 := rfl
theorem idem_106 (f0 f1 f2 f3 b0 b1 b2 b3 fl : Int) : sayF (sayF ((f0, f1, f2, f3, ()), (b0, b1, b2, b3, ()), fl, ()) 106) 106 = sayF ((f0, f1, f2, f3, ()), (b0, b1, b2, b3, ()), fl, ()) 106 := rfl
theorem idem_37 (f0 f1 f2 f3 b0 b1 b2 b3 fl : Int) : sayF (sayF ((f0, f1, f2, f3, ()), (b0, b1, b2, b3, ()), fl, ()) 37) 37 = sayF ((f0, f1, f2, f3, ()), (b0, b1, b2, b3, ()), fl, ()) 37 := rfl
theorem idem_97 (f0 f1 f2 f3 b0 b1 b2 b3 fl : Int) : sayF (sayF ((f0, f1, f2, f3, ()), (b0, b1, b2, b3, ()), fl, ()) 97) 97 = sayF ((f0, f1, f2, f3, ()), (b0, b1, b2, b3, ()), fl, ()) 97 := rfl
theorem idem_47 (f0 f1 f2 f3 b0 b1 b2 b3 fl : Int) : sayF (sayF ((f0, f1, f2, f3, ()), (b0, b1, b2, b3, ()), fl, ()) 47) 47 = sayF ((f0, f1, f2, f3, ()), (b0, b1, b2, b3, ()), fl, ()) 47 := rfl
theorem idem_107 (f0 f1 f2 f3 b0 b1 b2 b3 fl : Int) : sayF (sayF ((f0, f1, f2, f3, ()), (b0, b1, b2, b3, ()), fl, ()) 107) 107 = sayF ((f0, f1, f2, f3, ()), (b0, b1, b2, b3, ()), fl, ()) 107 := rfl
theorem every (a : A0) (hfl : 0 ≤ a.2.2.1 ∧ a.2.2.1 ≤ 65535) (n : Int) : onR a (bF a n) n = some [⟨.bool, true⟩] ∧ bF (bF a n) n = bF a n := by
  obtain ⟨⟨f0, f1, f2, f3, ⟨⟩⟩, ⟨b0, b1, b2, b3, ⟨⟩⟩, fl, ⟨⟩⟩ := a
  by_cases e0 : n = 0
  · subst e0; exact ⟨one_0 f0 f1 f2 f3 b0 b1 b2 b3 fl, idem_0 f0 f1 f2 f3 b0 b1 b2 b3 fl⟩
  by_cases e22 : n = 22
  · subst e22; exact ⟨one_22 f0 f1 f2 f3 b0 b1 b2 b3 fl, idem_22 f0 f1 f2 f3 b0 b1 b2 b3 fl⟩
  by_cases e39 : n = 39
  · subst e39; exact ⟨one_39 f0 f1 f2 f3 b0 b1 b2 b3 fl, idem_39 f0 f1 f2 f3 b0 b1 b2 b3 fl⟩
  by_cases e49 : n = 49
  · subst e49; exact ⟨one_49 f0 f1 f2 f3 b0 b1 b2 b3 fl, idem_49 f0 f1 f2 f3 b0 b1 b2 b3 fl⟩
  by_cases e1 : n = 1
  · subst e1; exact ⟨one_1 f0 f1 f2 f3 b0 b1 b2 b3 fl, idem_1 f0 f1 f2 f3 b0 b1 b2 b3 fl⟩
  by_cases e2 : n = 2
  · subst e2; exact ⟨one_2 f0 f1 f2 f3 b0 b1 b2 b3 fl, idem_2 f0 f1 f2 f3 b0 b1 b2 b3 fl⟩
  by_cases e3 : n = 3
  · subst e3; exact ⟨one_3 f0 f1 f2 f3 b0 b1 b2 b3 fl, idem_3 f0 f1 f2 f3 b0 b1 b2 b3 fl⟩
  by_cases e23 : n = 23
  · subst e23; exact ⟨one_23 f0 f1 f2 f3 b0 b1 b2 b3 fl, idem_23 f0 f1 f2 f3 b0 b1 b2 b3 fl⟩
  by_cases e4 : n = 4
  · subst e4; exact ⟨one_4 f0 f1 f2 f3 b0 b1 b2 b3 fl, idem_4 f0 f1 f2 f3 b0 b1 b2 b3 fl⟩
  by_cases e24 : n = 24
  · subst e24; exact ⟨one_24 f0 f1 f2 f3 b0 b1 b2 b3 fl, idem_24 f0 f1 f2 f3 b0 b1 b2 b3 fl⟩
  by_cases e5 : n = 5
  · subst e5; exact ⟨one_5 f0 f1 f2 f3 b0 b1 b2 b3 fl, idem_5 f0 f1 f2 f3 b0 b1 b2 b3 fl⟩
  by_cases e25 : n = 25
  · subst e25; exact ⟨one_25 f0 f1 f2 f3 b0 b1 b2 b3 fl, idem_25 f0 f1 f2 f3 b0 b1 b2 b3 fl⟩
  by_cases e7 : n = 7
  · subst e7; exact ⟨one_7 f0 f1 f2 f3 b0 b1 b2 b3 fl, idem_7 f0 f1 f2 f3 b0 b1 b2 b3 fl⟩
  by_cases e27 : n = 27
  · subst e27; exact ⟨one_27 f0 f1 f2 f3 b0 b1 b2 b3 fl, idem_27 f0 f1 f2 f3 b0 b1 b2 b3 fl⟩
  by_cases e8 : n = 8
  · subst e8; exact ⟨one_8 f0 f1 f2 f3 b0 b1 b2 b3 fl, idem_8 f0 f1 f2 f3 b0 b1 b2 b3 fl⟩
  by_cases e28 : n = 28
  · subst e28; exact ⟨one_28 f0 f1 f2 f3 b0 b1 b2 b3 fl, idem_28 f0 f1 f2 f3 b0 b1 b2 b3 fl⟩
  by_cases e9 : n = 9
  · subst e9; exact ⟨one_9 f0 f1 f2 f3 b0 b1 b2 b3 fl, idem_9 f0 f1 f2 f3 b0 b1 b2 b3 fl⟩
  by_cases e29 : n = 29
  · subst e29; exact ⟨one_29 f0 f1 f2 f3 b0 b1 b2 b3 fl, idem_29 f0 f1 f2 f3 b0 b1 b2 b3 fl⟩
  by_cases e21 : n = 21
  · subst e21; exact ⟨one_21 f0 f1 f2 f3 b0 b1 b2 b3 fl, idem_21 f0 f1 f2 f3 b0 b1 b2 b3 fl⟩
  by_cases e30 : n = 30
  · subst e30; exact ⟨one_30 f0 f1 f2 f3 b0 b1 b2 b3 fl, idem_30 f0 f1 f2 f3 b0 b1 b2 b3 fl⟩
  by_cases e90 : n = 90
  · subst e90; exact ⟨one_90 f0 f1 f2 f3 b0 b1 b2 b3 fl, idem_90 f0 f1 f2 f3 b0 b1 b2 b3 fl⟩
  by_cases e40 : n = 40
  · subst e40; exact ⟨one_40 f0 f1 f2 f3 b0 b1 b2 b3 fl, idem_40 f0 f1 f2 f3 b0 b1 b2 b3 fl⟩
  by_cases e100 : n = 100
  · subst e100; exact ⟨one_100 f0 f1 f2 f3 b0 b1 b2 b3 fl, idem_100 f0 f1 f2 f3 b0 b1 b2 b3 fl⟩
  by_cases e31 : n = 31
  · subst e31; exact ⟨one_31 f0 f1 f2 f3 b0 b1 b2 b3 fl, idem_31 f0 f1 f2 f3 b0 b1 b2 b3 fl⟩
  by_cases e91 : n = 91
  · subst e91; exact ⟨one_91 f0 f1 f2 f3 b0 b1 b2 b3 fl, idem_91 f0 f1 f2 f3 b0 b1 b2 b3 fl⟩
  by_cases e41 : n = 41
  · subst e41; exact ⟨one_41 f0 f1 f2 f3 b0 b1 b2 b3 fl, idem_41 f0 f1 f2 f3 b0 b1 b2 b3 fl⟩
  by_cases e101 : n = 101
  · subst e101; exact ⟨one_101 f0 f1 f2 f3 b0 b1 b2 b3 fl, idem_101 f0 f1 f2 f3 b0 b1 b2 b3 fl⟩
  by_cases e32 : n = 32
  · subst e32; exact ⟨one_32 f0 f1 f2 f3 b0 b1 b2 b3 fl, idem_32 f0 f1 f2 f3 b0 b1 b2 b3 fl⟩
  by_cases e92 : n = 92
  · subst e92; exact ⟨one_92 f0 f1 f2 f3 b0 b1 b2 b3 fl, idem_92 f0 f1 f2 f3 b0 b1 b2 b3 fl⟩
  by_cases e42 : n = 42
  · subst e42; exact ⟨one_42 f0 f1 f2 f3 b0 b1 b2 b3 fl, idem_42 f0 f1 f2 f3 b0 b1 b2 b3 fl⟩
  by_cases e102 : n = 102
  · subst e102; exact ⟨one_102 f0 f1 f2 f3 b0 b1 b2 b3 fl, idem_102 f0 f1 f2 f3 b0 b1 b2 b3 fl⟩
  by_cases e33 : n = 33
  · subst e33; exact ⟨one_33 f0 f1 f2 f3 b0 b1 b2 b3 fl, idem_33 f0 f1 f2 f3 b0 b1 b2 b3 fl⟩
  by_cases e93 : n = 93
  · subst e93; exact ⟨one_93 f0 f1 f2 f3 b0 b1 b2 b3 fl, idem_93 f0 f1 f2 f3 b0 b1 b2 b3 fl⟩
  by_cases e43 : n = 43
  · subst e43; exact ⟨one_43 f0 f1 f2 f3 b0 b1 b2 b3 fl, idem_43 f0 f1 f2 f3 b0 b1 b2 b3 fl⟩
  by_cases e103 : n = 103
  · subst e103; exact ⟨one_103 f0 f1 f2 f3 b0 b1 b2 b3 fl, idem_103 f0 f1 f2 f3 b0 b1 b2 b3 fl⟩
  by_cases e34 : n = 34
  · subst e34; exact ⟨one_34 f0 f1 f2 f3 b0 b1 b2 b3 fl, idem_34 f0 f1 f2 f3 b0 b1 b2 b3 fl⟩
  by_cases e94 : n = 94
  · subst e94; exact ⟨one_94 f0 f1 f2 f3 b0 b1 b2 b3 fl, idem_94 f0 f1 f2 f3 b0 b1 b2 b3 fl⟩
  by_cases e44 : n = 44
  · subst e44; exact ⟨one_44 f0 f1 f2 f3 b0 b1 b2 b3 fl, idem_44 f0 f1 f2 f3 b0 b1 b2 b3 fl⟩
  by_cases e104 : n = 104
  · subst e104; exact ⟨one_104 f0 f1 f2 f3 b0 b1 b2 b3 fl, idem_104 f0 f1 f2 f3 b0 b1 b2 b3 fl⟩
  by_cases e35 : n = 35
  · subst e35; exact ⟨one_35 f0 f1 f2 f3 b0 b1 b2 b3 fl, idem_35 f0 f1 f2 f3 b0 b1 b2 b3 fl⟩
  by_cases e95 : n = 95
  · subst e95; exact ⟨one_95 f0 f1 f2 f3 b0 b1 b2 b3 fl, idem_95 f0 f1 f2 f3 b0 b1 b2 b3 fl⟩
  by_cases e45 : n = 45
  · subst e45; exact ⟨one_45 f0 f1 f2 f3 b0 b1 b2 b3 fl, idem_45 f0 f1 f2 f3 b0 b1 b2 b3 fl⟩
  by_cases e105 : n = 105
  · subst e105; exact ⟨one_105 f0 f1 f2 f3 b0 b1 b2 b3 fl, idem_105 f0 f1 f2 f3 b0 b1 b2 b3 fl⟩
  by_cases e36 : n = 36
  · subst e36; exact ⟨one_36 f0 f1 f2 f3 b0 b1 b2 b3 fl, idem_36 f0 f1 f2 f3 b0 b1 b2 b3 fl⟩
  by_cases e96 : n = 96
  · subst e96; exact ⟨one_96 f0 f1 f2 f3 b0 b1 b2 b3 fl, idem_96 f0 f1 f2 f3 b0 b1 b2 b3 fl⟩
  by_cases e46 : n = 46
  · subst e46; exact ⟨one_46 f0 f1 f2 f3 b0 b1 b2 b3 fl, idem_46 f0 f1 f2 f3 b0 b1 b2 b3 fl⟩
  by_cases e106 : n = 106
  · subst e106; exact ⟨one_106 f0 f1 f2 f3 b0 b1 b2 b3 fl, idem_106 f0 f1 f2 f3 b0 b1 b2 b3 fl⟩
  by_cases e37 : n = 37
  · subst e37; exact ⟨one_37 f0 f1 f2 f3 b0 b1 b2 b3 fl, idem_37 f0 f1 f2 f3 b0 b1 b2 b3 fl⟩
  by_cases e97 : n = 97
  · subst e97; exact ⟨one_97 f0 f1 f2 f3 b0 b1 b2 b3 fl, idem_97 f0 f1 f2 f3 b0 b1 b2 b3 fl⟩
  by_cases e47 : n = 47
  · subst e47; exact ⟨one_47 f0 f1 f2 f3 b0 b1 b2 b3 fl, idem_47 f0 f1 f2 f3 b0 b1 b2 b3 fl⟩
  by_cases e107 : n = 107
  · subst e107; exact ⟨one_107 f0 f1 f2 f3 b0 b1 b2 b3 fl, idem_107 f0 f1 f2 f3 b0 b1 b2 b3 fl⟩
  have h : ∀ k ∈ known, n ≠ k := by
    intro k hk
    simp only [known, List.mem_cons, List.not_mem_nil, or_false] at hk
    rcases hk with rfl | rfl | rfl | rfl | rfl | rfl | rfl | rfl | rfl | rfl | rfl | rfl | rfl | rfl | rfl | rfl | rfl | rfl | rfl | rfl | rfl | rfl | rfl | rfl | rfl | rfl | rfl | rfl | rfl | rfl | rfl | rfl | rfl | rfl | rfl | rfl | rfl | rfl | rfl | rfl | rfl | rfl | rfl | rfl | rfl | rfl | rfl | rfl | rfl | rfl | rfl <;> assumption
  have e : ∀ a, bF a n = a := fun a => by
    unfold bF
    split
    · rfl
    · exact else_say a n h
  rw [e, e]
  exact ⟨else_on _ hfl n h, rfl⟩
theorem on_law (a : A0) (hfl : 0 ≤ a.2.2.1 ∧ a.2.2.1 ≤ 65535) (n : Int) (hn : 0 ≤ n) : onC a (sgrF a [[n]]) (sgrF (sgrF a [[n]]) [[n]]) n = some [⟨.bool, true⟩] := by
  obtain ⟨h1, h2⟩ := every a hfl n
  rw [one_say a n hn, one_say _ n hn, h2, onC_eq, h1]
theorem drA_fl (d : D0) (h : 0 ≤ d.1 ∧ d.1 ≤ 65535) : 0 ≤ (drA d).2.2.1 ∧ (drA d).2.2.1 ≤ 65535 := by
  unfold drA
  split
  · show 0 ≤ Int.tmod d.1 512 ∧ Int.tmod d.1 512 ≤ 65535
    rw [Int.tmod_eq_emod_of_nonneg h.1]
    omega
  · show 0 ≤ clr1 _ _ ∧ clr1 _ _ ≤ 65535
    rw [clr1_eq]
    unfold ofB
    have := (toB (Int.tmod d.1 512) &&& ~~~toB 256).isLt
    omega
abbrev tysOn : List Ty := [.pair (.int .u16) (.pair .byte (.pair (.pair .byte (.pair .byte (.pair .byte .unit))) (.pair (.pair .byte (.pair .byte (.pair .byte .unit))) .unit))), .byte]
theorem on_fn (ds : List Dy) (h : OkDs tysOn ds) : ∃ n, fnY SOn loopY (tysOn.map .hole) [.bool] n 4 ds = some [⟨.bool, true⟩] := by
  obtain ⟨p0, _, rfl, h0, c1, _, rfl, _, rfl⟩ := h
  refine ⟨0, (On2_fn 0 p0 c1).trans ?_⟩
  have hn := UInt8.toNat_lt c1
  have h1 : 0 ≤ (dI p0).1 ∧ (dI p0).1 ≤ 65535 := h0.1
  rw [w64 (by omega)]
  have hb : rowsB [[(c1.toNat : Int)]] = true := by
    simp only [rowsB, List.all_cons, List.all_nil, Bool.and_true, Bool.and_eq_true, decide_eq_true_eq, i64B]
    simp
    omega
  exact np hb (np hb (on_law _ (drA_fl _ h1) _ (by omega)))
end Go.Proofs.YthmmpfaghmoenaaDoor
