/-
  Texts of this session, one behind the other: B6G4, B6L, B6L4.
-/
import Derived.Test.YtfjbcoahjinehaaDoorPart11
import Derived.KernelRfl
/-
  Printed by a tool of this session: what functions come to.
-/
namespace Go.Proofs.YtfjbcoahjinehaaDoor
open Go Go.Am
set_option linter.unusedVariables false
def tmL3 : FuncId → Nat → Option Tm := fun g i => match Nat.beq g 3 with
  | true => none
  | false => none
noncomputable def SL3 : SE := { E := Go.Proofs.YtfjbcoahjinehaaDoor.E1, ctr := Go.Proofs.YtfjbcoahjinehaaDoor.ctrs3, tm := tmL3, un := 300 }
theorem L3_fn (n : Nat) (s0 : List UInt8) (p1 : UInt8 × UInt8 × PUnit) :
    fnY SL3 loopY [(.hole .str), (.hole (.pair .byte (.pair .byte .unit)))] [.bool] n 3 [⟨.str, s0⟩, ⟨(.pair .byte (.pair .byte .unit)), p1⟩] =
    (need (Decidable.decide ((0 : Int) ≤ if (150 : Int) < (↑(List.length s0) : Int) then (150 : Int) else (↑(List.length s0) : Int))) <|
    need (Decidable.decide ((if (150 : Int) < (↑(List.length s0) : Int) then (150 : Int) else (↑(List.length s0) : Int)) ≤ (↑(List.length s0) : Int))) <|
    need (Decidable.decide (List.length (List.take (Int.toNat (if (150 : Int) < (↑(List.length s0) : Int) then (150 : Int) else (↑(List.length s0) : Int))) s0) ≤ (1000000000 : Nat))) <|
    need (!Decidable.decide (Go.IntKind.wrap Go.IntKind.i64 ((↑(List.length (List.take (Int.toNat (if (150 : Int) < (↑(List.length s0) : Int) then (150 : Int) else (↑(List.length s0) : Int))) s0)) : Int) + (1 : Int)) = (0 : Int))) <|
    need (!Decidable.decide (Go.IntKind.wrap Go.IntKind.i64 (Go.IntKind.wrap Go.IntKind.i64 ((↑(List.length (List.take (Int.toNat (if (150 : Int) < (↑(List.length s0) : Int) then (150 : Int) else (↑(List.length s0) : Int))) s0)) : Int) - Int.tmod (Go.IntKind.wrap Go.IntKind.i64 (↑(UInt8.toNat (Prod.fst p1)) : Int)) (Go.IntKind.wrap Go.IntKind.i64 ((↑(List.length (List.take (Int.toNat (if (150 : Int) < (↑(List.length s0) : Int) then (150 : Int) else (↑(List.length s0) : Int))) s0)) : Int) + (1 : Int)))) + (1 : Int)) = (0 : Int))) <|
    need (Decidable.decide (List.length (List.flatten [List.take (Int.toNat (if (150 : Int) < (↑(List.length s0) : Int) then (150 : Int) else (↑(List.length s0) : Int))) s0]) ≤ (1000000000 : Nat))) <|
    bif (Go.Proofs.YtfjbcoahjinehaaDoor.enc (List.flatten [List.take (Int.toNat (if (150 : Int) < (↑(List.length s0) : Int) then (150 : Int) else (↑(List.length s0) : Int))) s0]) == Go.Proofs.YtfjbcoahjinehaaDoor.enc (List.take (Int.toNat (if (150 : Int) < (↑(List.length s0) : Int) then (150 : Int) else (↑(List.length s0) : Int))) s0)) then
      need (Decidable.decide ((0 : Int) ≤ Int.tmod (Go.IntKind.wrap Go.IntKind.i64 (↑(UInt8.toNat (Prod.fst p1)) : Int)) (Go.IntKind.wrap Go.IntKind.i64 ((↑(List.length (List.take (Int.toNat (if (150 : Int) < (↑(List.length s0) : Int) then (150 : Int) else (↑(List.length s0) : Int))) s0)) : Int) + (1 : Int))))) <|
      need (Decidable.decide (Int.tmod (Go.IntKind.wrap Go.IntKind.i64 (↑(UInt8.toNat (Prod.fst p1)) : Int)) (Go.IntKind.wrap Go.IntKind.i64 ((↑(List.length (List.take (Int.toNat (if (150 : Int) < (↑(List.length s0) : Int) then (150 : Int) else (↑(List.length s0) : Int))) s0)) : Int) + (1 : Int))) ≤ (↑(List.length (List.take (Int.toNat (if (150 : Int) < (↑(List.length s0) : Int) then (150 : Int) else (↑(List.length s0) : Int))) s0)) : Int))) <|
      need (Decidable.decide ((0 : Int) ≤ Int.tmod (Go.IntKind.wrap Go.IntKind.i64 (↑(UInt8.toNat (Prod.fst p1)) : Int)) (Go.IntKind.wrap Go.IntKind.i64 ((↑(List.length (List.take (Int.toNat (if (150 : Int) < (↑(List.length s0) : Int) then (150 : Int) else (↑(List.length s0) : Int))) s0)) : Int) + (1 : Int))))) <|
      need (Decidable.decide (Int.tmod (Go.IntKind.wrap Go.IntKind.i64 (↑(UInt8.toNat (Prod.fst p1)) : Int)) (Go.IntKind.wrap Go.IntKind.i64 ((↑(List.length (List.take (Int.toNat (if (150 : Int) < (↑(List.length s0) : Int) then (150 : Int) else (↑(List.length s0) : Int))) s0)) : Int) + (1 : Int))) ≤ Go.IntKind.wrap Go.IntKind.i64 (Int.tmod (Go.IntKind.wrap Go.IntKind.i64 (↑(UInt8.toNat (Prod.fst p1)) : Int)) (Go.IntKind.wrap Go.IntKind.i64 ((↑(List.length (List.take (Int.toNat (if (150 : Int) < (↑(List.length s0) : Int) then (150 : Int) else (↑(List.length s0) : Int))) s0)) : Int) + (1 : Int))) + Int.tmod (Go.IntKind.wrap Go.IntKind.i64 (↑(UInt8.toNat (Prod.fst (Prod.snd p1))) : Int)) (Go.IntKind.wrap Go.IntKind.i64 (Go.IntKind.wrap Go.IntKind.i64 ((↑(List.length (List.take (Int.toNat (if (150 : Int) < (↑(List.length s0) : Int) then (150 : Int) else (↑(List.length s0) : Int))) s0)) : Int) - Int.tmod (Go.IntKind.wrap Go.IntKind.i64 (↑(UInt8.toNat (Prod.fst p1)) : Int)) (Go.IntKind.wrap Go.IntKind.i64 ((↑(List.length (List.take (Int.toNat (if (150 : Int) < (↑(List.length s0) : Int) then (150 : Int) else (↑(List.length s0) : Int))) s0)) : Int) + (1 : Int)))) + (1 : Int)))))) <|
      need (Decidable.decide (Go.IntKind.wrap Go.IntKind.i64 (Int.tmod (Go.IntKind.wrap Go.IntKind.i64 (↑(UInt8.toNat (Prod.fst p1)) : Int)) (Go.IntKind.wrap Go.IntKind.i64 ((↑(List.length (List.take (Int.toNat (if (150 : Int) < (↑(List.length s0) : Int) then (150 : Int) else (↑(List.length s0) : Int))) s0)) : Int) + (1 : Int))) + Int.tmod (Go.IntKind.wrap Go.IntKind.i64 (↑(UInt8.toNat (Prod.fst (Prod.snd p1))) : Int)) (Go.IntKind.wrap Go.IntKind.i64 (Go.IntKind.wrap Go.IntKind.i64 ((↑(List.length (List.take (Int.toNat (if (150 : Int) < (↑(List.length s0) : Int) then (150 : Int) else (↑(List.length s0) : Int))) s0)) : Int) - Int.tmod (Go.IntKind.wrap Go.IntKind.i64 (↑(UInt8.toNat (Prod.fst p1)) : Int)) (Go.IntKind.wrap Go.IntKind.i64 ((↑(List.length (List.take (Int.toNat (if (150 : Int) < (↑(List.length s0) : Int) then (150 : Int) else (↑(List.length s0) : Int))) s0)) : Int) + (1 : Int)))) + (1 : Int)))) ≤ (↑(List.length (List.take (Int.toNat (if (150 : Int) < (↑(List.length s0) : Int) then (150 : Int) else (↑(List.length s0) : Int))) s0)) : Int))) <|
      need (Decidable.decide ((0 : Int) ≤ Go.IntKind.wrap Go.IntKind.i64 (Int.tmod (Go.IntKind.wrap Go.IntKind.i64 (↑(UInt8.toNat (Prod.fst p1)) : Int)) (Go.IntKind.wrap Go.IntKind.i64 ((↑(List.length (List.take (Int.toNat (if (150 : Int) < (↑(List.length s0) : Int) then (150 : Int) else (↑(List.length s0) : Int))) s0)) : Int) + (1 : Int))) + Int.tmod (Go.IntKind.wrap Go.IntKind.i64 (↑(UInt8.toNat (Prod.fst (Prod.snd p1))) : Int)) (Go.IntKind.wrap Go.IntKind.i64 (Go.IntKind.wrap Go.IntKind.i64 ((↑(List.length (List.take (Int.toNat (if (150 : Int) < (↑(List.length s0) : Int) then (150 : Int) else (↑(List.length s0) : Int))) s0)) : Int) - Int.tmod (Go.IntKind.wrap Go.IntKind.i64 (↑(UInt8.toNat (Prod.fst p1)) : Int)) (Go.IntKind.wrap Go.IntKind.i64 ((↑(List.length (List.take (Int.toNat (if (150 : Int) < (↑(List.length s0) : Int) then (150 : Int) else (↑(List.length s0) : Int))) s0)) : Int) + (1 : Int)))) + (1 : Int)))))) <|
      need (Decidable.decide (Go.IntKind.wrap Go.IntKind.i64 (Int.tmod (Go.IntKind.wrap Go.IntKind.i64 (↑(UInt8.toNat (Prod.fst p1)) : Int)) (Go.IntKind.wrap Go.IntKind.i64 ((↑(List.length (List.take (Int.toNat (if (150 : Int) < (↑(List.length s0) : Int) then (150 : Int) else (↑(List.length s0) : Int))) s0)) : Int) + (1 : Int))) + Int.tmod (Go.IntKind.wrap Go.IntKind.i64 (↑(UInt8.toNat (Prod.fst (Prod.snd p1))) : Int)) (Go.IntKind.wrap Go.IntKind.i64 (Go.IntKind.wrap Go.IntKind.i64 ((↑(List.length (List.take (Int.toNat (if (150 : Int) < (↑(List.length s0) : Int) then (150 : Int) else (↑(List.length s0) : Int))) s0)) : Int) - Int.tmod (Go.IntKind.wrap Go.IntKind.i64 (↑(UInt8.toNat (Prod.fst p1)) : Int)) (Go.IntKind.wrap Go.IntKind.i64 ((↑(List.length (List.take (Int.toNat (if (150 : Int) < (↑(List.length s0) : Int) then (150 : Int) else (↑(List.length s0) : Int))) s0)) : Int) + (1 : Int)))) + (1 : Int)))) ≤ (↑(List.length (List.take (Int.toNat (if (150 : Int) < (↑(List.length s0) : Int) then (150 : Int) else (↑(List.length s0) : Int))) s0)) : Int))) <|
      need (Decidable.decide ((↑(List.length (List.take (Int.toNat (if (150 : Int) < (↑(List.length s0) : Int) then (150 : Int) else (↑(List.length s0) : Int))) s0)) : Int) ≤ (↑(List.length (List.take (Int.toNat (if (150 : Int) < (↑(List.length s0) : Int) then (150 : Int) else (↑(List.length s0) : Int))) s0)) : Int))) <|
      need (Decidable.decide (List.length (List.flatten [List.take (Int.toNat (Int.tmod (Go.IntKind.wrap Go.IntKind.i64 (↑(UInt8.toNat (Prod.fst p1)) : Int)) (Go.IntKind.wrap Go.IntKind.i64 ((↑(List.length (List.take (Int.toNat (if (150 : Int) < (↑(List.length s0) : Int) then (150 : Int) else (↑(List.length s0) : Int))) s0)) : Int) + (1 : Int))))) (List.take (Int.toNat (if (150 : Int) < (↑(List.length s0) : Int) then (150 : Int) else (↑(List.length s0) : Int))) s0), List.take (Int.toNat (Go.IntKind.wrap Go.IntKind.i64 (Int.tmod (Go.IntKind.wrap Go.IntKind.i64 (↑(UInt8.toNat (Prod.fst p1)) : Int)) (Go.IntKind.wrap Go.IntKind.i64 ((↑(List.length (List.take (Int.toNat (if (150 : Int) < (↑(List.length s0) : Int) then (150 : Int) else (↑(List.length s0) : Int))) s0)) : Int) + (1 : Int))) + Int.tmod (Go.IntKind.wrap Go.IntKind.i64 (↑(UInt8.toNat (Prod.fst (Prod.snd p1))) : Int)) (Go.IntKind.wrap Go.IntKind.i64 (Go.IntKind.wrap Go.IntKind.i64 ((↑(List.length (List.take (Int.toNat (if (150 : Int) < (↑(List.length s0) : Int) then (150 : Int) else (↑(List.length s0) : Int))) s0)) : Int) - Int.tmod (Go.IntKind.wrap Go.IntKind.i64 (↑(UInt8.toNat (Prod.fst p1)) : Int)) (Go.IntKind.wrap Go.IntKind.i64 ((↑(List.length (List.take (Int.toNat (if (150 : Int) < (↑(List.length s0) : Int) then (150 : Int) else (↑(List.length s0) : Int))) s0)) : Int) + (1 : Int)))) + (1 : Int))))) - Int.toNat (Int.tmod (Go.IntKind.wrap Go.IntKind.i64 (↑(UInt8.toNat (Prod.fst p1)) : Int)) (Go.IntKind.wrap Go.IntKind.i64 ((↑(List.length (List.take (Int.toNat (if (150 : Int) < (↑(List.length s0) : Int) then (150 : Int) else (↑(List.length s0) : Int))) s0)) : Int) + (1 : Int))))) (List.drop (Int.toNat (Int.tmod (Go.IntKind.wrap Go.IntKind.i64 (↑(UInt8.toNat (Prod.fst p1)) : Int)) (Go.IntKind.wrap Go.IntKind.i64 ((↑(List.length (List.take (Int.toNat (if (150 : Int) < (↑(List.length s0) : Int) then (150 : Int) else (↑(List.length s0) : Int))) s0)) : Int) + (1 : Int))))) (List.take (Int.toNat (if (150 : Int) < (↑(List.length s0) : Int) then (150 : Int) else (↑(List.length s0) : Int))) s0)), List.take (Int.toNat (↑(List.length (List.take (Int.toNat (if (150 : Int) < (↑(List.length s0) : Int) then (150 : Int) else (↑(List.length s0) : Int))) s0)) : Int) - Int.toNat (Go.IntKind.wrap Go.IntKind.i64 (Int.tmod (Go.IntKind.wrap Go.IntKind.i64 (↑(UInt8.toNat (Prod.fst p1)) : Int)) (Go.IntKind.wrap Go.IntKind.i64 ((↑(List.length (List.take (Int.toNat (if (150 : Int) < (↑(List.length s0) : Int) then (150 : Int) else (↑(List.length s0) : Int))) s0)) : Int) + (1 : Int))) + Int.tmod (Go.IntKind.wrap Go.IntKind.i64 (↑(UInt8.toNat (Prod.fst (Prod.snd p1))) : Int)) (Go.IntKind.wrap Go.IntKind.i64 (Go.IntKind.wrap Go.IntKind.i64 ((↑(List.length (List.take (Int.toNat (if (150 : Int) < (↑(List.length s0) : Int) then (150 : Int) else (↑(List.length s0) : Int))) s0)) : Int) - Int.tmod (Go.IntKind.wrap Go.IntKind.i64 (↑(UInt8.toNat (Prod.fst p1)) : Int)) (Go.IntKind.wrap Go.IntKind.i64 ((↑(List.length (List.take (Int.toNat (if (150 : Int) < (↑(List.length s0) : Int) then (150 : Int) else (↑(List.length s0) : Int))) s0)) : Int) + (1 : Int)))) + (1 : Int)))))) (List.drop (Int.toNat (Go.IntKind.wrap Go.IntKind.i64 (Int.tmod (Go.IntKind.wrap Go.IntKind.i64 (↑(UInt8.toNat (Prod.fst p1)) : Int)) (Go.IntKind.wrap Go.IntKind.i64 ((↑(List.length (List.take (Int.toNat (if (150 : Int) < (↑(List.length s0) : Int) then (150 : Int) else (↑(List.length s0) : Int))) s0)) : Int) + (1 : Int))) + Int.tmod (Go.IntKind.wrap Go.IntKind.i64 (↑(UInt8.toNat (Prod.fst (Prod.snd p1))) : Int)) (Go.IntKind.wrap Go.IntKind.i64 (Go.IntKind.wrap Go.IntKind.i64 ((↑(List.length (List.take (Int.toNat (if (150 : Int) < (↑(List.length s0) : Int) then (150 : Int) else (↑(List.length s0) : Int))) s0)) : Int) - Int.tmod (Go.IntKind.wrap Go.IntKind.i64 (↑(UInt8.toNat (Prod.fst p1)) : Int)) (Go.IntKind.wrap Go.IntKind.i64 ((↑(List.length (List.take (Int.toNat (if (150 : Int) < (↑(List.length s0) : Int) then (150 : Int) else (↑(List.length s0) : Int))) s0)) : Int) + (1 : Int)))) + (1 : Int)))))) (List.take (Int.toNat (if (150 : Int) < (↑(List.length s0) : Int) then (150 : Int) else (↑(List.length s0) : Int))) s0))]) ≤ (1000000000 : Nat))) <|
      bif (Go.Proofs.YtfjbcoahjinehaaDoor.enc (List.flatten [List.take (Int.toNat (Int.tmod (Go.IntKind.wrap Go.IntKind.i64 (↑(UInt8.toNat (Prod.fst p1)) : Int)) (Go.IntKind.wrap Go.IntKind.i64 ((↑(List.length (List.take (Int.toNat (if (150 : Int) < (↑(List.length s0) : Int) then (150 : Int) else (↑(List.length s0) : Int))) s0)) : Int) + (1 : Int))))) (List.take (Int.toNat (if (150 : Int) < (↑(List.length s0) : Int) then (150 : Int) else (↑(List.length s0) : Int))) s0), List.take (Int.toNat (Go.IntKind.wrap Go.IntKind.i64 (Int.tmod (Go.IntKind.wrap Go.IntKind.i64 (↑(UInt8.toNat (Prod.fst p1)) : Int)) (Go.IntKind.wrap Go.IntKind.i64 ((↑(List.length (List.take (Int.toNat (if (150 : Int) < (↑(List.length s0) : Int) then (150 : Int) else (↑(List.length s0) : Int))) s0)) : Int) + (1 : Int))) + Int.tmod (Go.IntKind.wrap Go.IntKind.i64 (↑(UInt8.toNat (Prod.fst (Prod.snd p1))) : Int)) (Go.IntKind.wrap Go.IntKind.i64 (Go.IntKind.wrap Go.IntKind.i64 ((↑(List.length (List.take (Int.toNat (if (150 : Int) < (↑(List.length s0) : Int) then (150 : Int) else (↑(List.length s0) : Int))) s0)) : Int) - Int.tmod (Go.IntKind.wrap Go.IntKind.i64 (↑(UInt8.toNat (Prod.fst p1)) : Int)) (Go.IntKind.wrap Go.IntKind.i64 ((↑(List.length (List.take (Int.toNat (if (150 : Int) < (↑(List.length s0) : Int) then (150 : Int) else (↑(List.length s0) : Int))) s0)) : Int) + (1 : Int)))) + (1 : Int))))) - Int.toNat (Int.tmod (Go.IntKind.wrap Go.IntKind.i64 (↑(UInt8.toNat (Prod.fst p1)) : Int)) (Go.IntKind.wrap Go.IntKind.i64 ((↑(List.length (List.take (Int.toNat (if (150 : Int) < (↑(List.length s0) : Int) then (150 : Int) else (↑(List.length s0) : Int))) s0)) : Int) + (1 : Int))))) (List.drop (Int.toNat (Int.tmod (Go.IntKind.wrap Go.IntKind.i64 (↑(UInt8.toNat (Prod.fst p1)) : Int)) (Go.IntKind.wrap Go.IntKind.i64 ((↑(List.length (List.take (Int.toNat (if (150 : Int) < (↑(List.length s0) : Int) then (150 : Int) else (↑(List.length s0) : Int))) s0)) : Int) + (1 : Int))))) (List.take (Int.toNat (if (150 : Int) < (↑(List.length s0) : Int) then (150 : Int) else (↑(List.length s0) : Int))) s0)), List.take (Int.toNat (↑(List.length (List.take (Int.toNat (if (150 : Int) < (↑(List.length s0) : Int) then (150 : Int) else (↑(List.length s0) : Int))) s0)) : Int) - Int.toNat (Go.IntKind.wrap Go.IntKind.i64 (Int.tmod (Go.IntKind.wrap Go.IntKind.i64 (↑(UInt8.toNat (Prod.fst p1)) : Int)) (Go.IntKind.wrap Go.IntKind.i64 ((↑(List.length (List.take (Int.toNat (if (150 : Int) < (↑(List.length s0) : Int) then (150 : Int) else (↑(List.length s0) : Int))) s0)) : Int) + (1 : Int))) + Int.tmod (Go.IntKind.wrap Go.IntKind.i64 (↑(UInt8.toNat (Prod.fst (Prod.snd p1))) : Int)) (Go.IntKind.wrap Go.IntKind.i64 (Go.IntKind.wrap Go.IntKind.i64 ((↑(List.length (List.take (Int.toNat (if (150 : Int) < (↑(List.length s0) : Int) then (150 : Int) else (↑(List.length s0) : Int))) s0)) : Int) - Int.tmod (Go.IntKind.wrap Go.IntKind.i64 (↑(UInt8.toNat (Prod.fst p1)) : Int)) (Go.IntKind.wrap Go.IntKind.i64 ((↑(List.length (List.take (Int.toNat (if (150 : Int) < (↑(List.length s0) : Int) then (150 : Int) else (↑(List.length s0) : Int))) s0)) : Int) + (1 : Int)))) + (1 : Int)))))) (List.drop (Int.toNat (Go.IntKind.wrap Go.IntKind.i64 (Int.tmod (Go.IntKind.wrap Go.IntKind.i64 (↑(UInt8.toNat (Prod.fst p1)) : Int)) (Go.IntKind.wrap Go.IntKind.i64 ((↑(List.length (List.take (Int.toNat (if (150 : Int) < (↑(List.length s0) : Int) then (150 : Int) else (↑(List.length s0) : Int))) s0)) : Int) + (1 : Int))) + Int.tmod (Go.IntKind.wrap Go.IntKind.i64 (↑(UInt8.toNat (Prod.fst (Prod.snd p1))) : Int)) (Go.IntKind.wrap Go.IntKind.i64 (Go.IntKind.wrap Go.IntKind.i64 ((↑(List.length (List.take (Int.toNat (if (150 : Int) < (↑(List.length s0) : Int) then (150 : Int) else (↑(List.length s0) : Int))) s0)) : Int) - Int.tmod (Go.IntKind.wrap Go.IntKind.i64 (↑(UInt8.toNat (Prod.fst p1)) : Int)) (Go.IntKind.wrap Go.IntKind.i64 ((↑(List.length (List.take (Int.toNat (if (150 : Int) < (↑(List.length s0) : Int) then (150 : Int) else (↑(List.length s0) : Int))) s0)) : Int) + (1 : Int)))) + (1 : Int)))))) (List.take (Int.toNat (if (150 : Int) < (↑(List.length s0) : Int) then (150 : Int) else (↑(List.length s0) : Int))) s0))]) == Go.Proofs.YtfjbcoahjinehaaDoor.enc (List.take (Int.toNat (if (150 : Int) < (↑(List.length s0) : Int) then (150 : Int) else (↑(List.length s0) : Int))) s0)) then
        need (Decidable.decide ((↑(List.length (List.take (Int.toNat (if (150 : Int) < (↑(List.length s0) : Int) then (150 : Int) else (↑(List.length s0) : Int))) s0)) : Int) ≤ (1152921504606846976 : Int))) <|
        bif (Go.Proofs.YtfjbcoahjinehaaDoor.size6 (↑(List.length (List.take (Int.toNat (if (150 : Int) < (↑(List.length s0) : Int) then (150 : Int) else (↑(List.length s0) : Int))) s0)) : Int) == (↑(List.length (Go.Proofs.YtfjbcoahjinehaaDoor.enc (List.take (Int.toNat (if (150 : Int) < (↑(List.length s0) : Int) then (150 : Int) else (↑(List.length s0) : Int))) s0))) : Int)) then
          some [⟨.bool, (Bool.true : Bool)⟩]
        else
          some [⟨.bool, (Bool.false : Bool)⟩]
      else
        some [⟨.bool, (Bool.false : Bool)⟩]
    else
      some [⟨.bool, (Bool.false : Bool)⟩]) := by kernel_rfl

def tmL5 : FuncId → Nat → Option Tm := fun g i => match Nat.beq g 5 with
  | true => none
  | false => none
noncomputable def SL5 : SE := { E := Go.Proofs.YtfjbcoahjinehaaDoor.E1, ctr := Go.Proofs.YtfjbcoahjinehaaDoor.ctrs3, tm := tmL5, un := 300 }
theorem L5_fn (n : Nat) (s0 : List UInt8) (s1 : List UInt8) :
    fnY SL5 loopY [(.hole .str), (.hole .str)] [.bool] n 5 [⟨.str, s0⟩, ⟨.str, s1⟩] =
    (need (Decidable.decide ((0 : Int) ≤ if (150 : Int) < (↑(List.length s0) : Int) then (150 : Int) else (↑(List.length s0) : Int))) <|
    need (Decidable.decide ((if (150 : Int) < (↑(List.length s0) : Int) then (150 : Int) else (↑(List.length s0) : Int)) ≤ (↑(List.length s0) : Int))) <|
    need (Decidable.decide ((0 : Int) ≤ if (150 : Int) < (↑(List.length s1) : Int) then (150 : Int) else (↑(List.length s1) : Int))) <|
    need (Decidable.decide ((if (150 : Int) < (↑(List.length s1) : Int) then (150 : Int) else (↑(List.length s1) : Int)) ≤ (↑(List.length s1) : Int))) <|
    need (Decidable.decide (List.length (List.flatten [List.take (Int.toNat (if (150 : Int) < (↑(List.length s0) : Int) then (150 : Int) else (↑(List.length s0) : Int))) s0]) ≤ (1000000000 : Nat))) <|
    need (Decidable.decide (List.length (List.flatten [List.take (Int.toNat (if (150 : Int) < (↑(List.length s1) : Int) then (150 : Int) else (↑(List.length s1) : Int))) s1]) ≤ (1000000000 : Nat))) <|
    need (Decidable.decide (List.length (Go.Proofs.YtfjbcoahjinehaaDoor.enc (List.flatten [List.take (Int.toNat (if (150 : Int) < (↑(List.length s0) : Int) then (150 : Int) else (↑(List.length s0) : Int))) s0])) ≤ (300000000 : Nat))) <|
    bif (!(Prod.fst (Go.Proofs.YtfjbcoahjinehaaDoor.decR (Go.Proofs.YtfjbcoahjinehaaDoor.enc (List.flatten [List.take (Int.toNat (if (150 : Int) < (↑(List.length s0) : Int) then (150 : Int) else (↑(List.length s0) : Int))) s0])) (↑(List.length (List.take (Int.toNat (if (150 : Int) < (↑(List.length s0) : Int) then (150 : Int) else (↑(List.length s0) : Int))) s0)) : Int)) == List.take (Int.toNat (if (150 : Int) < (↑(List.length s0) : Int) then (150 : Int) else (↑(List.length s0) : Int))) s0 && Prod.snd (Go.Proofs.YtfjbcoahjinehaaDoor.decR (Go.Proofs.YtfjbcoahjinehaaDoor.enc (List.flatten [List.take (Int.toNat (if (150 : Int) < (↑(List.length s0) : Int) then (150 : Int) else (↑(List.length s0) : Int))) s0])) (↑(List.length (List.take (Int.toNat (if (150 : Int) < (↑(List.length s0) : Int) then (150 : Int) else (↑(List.length s0) : Int))) s0)) : Int)) == (0 : Int))) then
      some [⟨.bool, (Bool.false : Bool)⟩]
    else
      need (Decidable.decide (List.length (Go.Proofs.YtfjbcoahjinehaaDoor.enc (List.flatten [List.take (Int.toNat (if (150 : Int) < (↑(List.length s1) : Int) then (150 : Int) else (↑(List.length s1) : Int))) s1])) ≤ (300000000 : Nat))) <|
      bif (!(Prod.fst (Go.Proofs.YtfjbcoahjinehaaDoor.decR (Go.Proofs.YtfjbcoahjinehaaDoor.enc (List.flatten [List.take (Int.toNat (if (150 : Int) < (↑(List.length s1) : Int) then (150 : Int) else (↑(List.length s1) : Int))) s1])) (150 : Int)) == List.take (Int.toNat (if (150 : Int) < (↑(List.length s1) : Int) then (150 : Int) else (↑(List.length s1) : Int))) s1 && Prod.snd (Go.Proofs.YtfjbcoahjinehaaDoor.decR (Go.Proofs.YtfjbcoahjinehaaDoor.enc (List.flatten [List.take (Int.toNat (if (150 : Int) < (↑(List.length s1) : Int) then (150 : Int) else (↑(List.length s1) : Int))) s1])) (150 : Int)) == (0 : Int)) || !(Go.Proofs.YtfjbcoahjinehaaDoor.enc (List.flatten [List.take (Int.toNat (if (150 : Int) < (↑(List.length s0) : Int) then (150 : Int) else (↑(List.length s0) : Int))) s0]) == Go.Proofs.YtfjbcoahjinehaaDoor.enc (List.flatten [List.take (Int.toNat (if (150 : Int) < (↑(List.length s1) : Int) then (150 : Int) else (↑(List.length s1) : Int))) s1])) == (List.take (Int.toNat (if (150 : Int) < (↑(List.length s0) : Int) then (150 : Int) else (↑(List.length s0) : Int))) s0 == List.take (Int.toNat (if (150 : Int) < (↑(List.length s1) : Int) then (150 : Int) else (↑(List.length s1) : Int))) s1)) then
        some [⟨.bool, (Bool.false : Bool)⟩]
      else
        bif (Decidable.decide ((0 : Int) < (↑(List.length (List.take (Int.toNat (if (150 : Int) < (↑(List.length s0) : Int) then (150 : Int) else (↑(List.length s0) : Int))) s0)) : Int))) then
          need (Decidable.decide (List.length (Go.Proofs.YtfjbcoahjinehaaDoor.enc (List.flatten [List.take (Int.toNat (if (150 : Int) < (↑(List.length s0) : Int) then (150 : Int) else (↑(List.length s0) : Int))) s0])) ≤ (300000000 : Nat))) <|
          bif (!(Prod.fst (Go.Proofs.YtfjbcoahjinehaaDoor.decR (Go.Proofs.YtfjbcoahjinehaaDoor.enc (List.flatten [List.take (Int.toNat (if (150 : Int) < (↑(List.length s0) : Int) then (150 : Int) else (↑(List.length s0) : Int))) s0])) (Go.IntKind.wrap Go.IntKind.i64 ((↑(List.length (List.take (Int.toNat (if (150 : Int) < (↑(List.length s0) : Int) then (150 : Int) else (↑(List.length s0) : Int))) s0)) : Int) - (1 : Int)))) == [] && Prod.snd (Go.Proofs.YtfjbcoahjinehaaDoor.decR (Go.Proofs.YtfjbcoahjinehaaDoor.enc (List.flatten [List.take (Int.toNat (if (150 : Int) < (↑(List.length s0) : Int) then (150 : Int) else (↑(List.length s0) : Int))) s0])) (Go.IntKind.wrap Go.IntKind.i64 ((↑(List.length (List.take (Int.toNat (if (150 : Int) < (↑(List.length s0) : Int) then (150 : Int) else (↑(List.length s0) : Int))) s0)) : Int) - (1 : Int)))) == (4 : Int))) then
            some [⟨.bool, (Bool.false : Bool)⟩]
          else
            need (Decidable.decide (List.length (List.take (Int.toNat (if (150 : Int) < (↑(List.length s1) : Int) then (150 : Int) else (↑(List.length s1) : Int))) s1) ≤ (300000000 : Nat))) <|
            bif (Prod.snd (Go.Proofs.YtfjbcoahjinehaaDoor.decR (List.take (Int.toNat (if (150 : Int) < (↑(List.length s1) : Int) then (150 : Int) else (↑(List.length s1) : Int))) s1) (1000 : Int)) != (0 : Int)) then
              some [⟨.bool, (Bool.true : Bool)⟩]
            else
              need (Decidable.decide (List.length (List.flatten [Prod.fst (Go.Proofs.YtfjbcoahjinehaaDoor.decR (List.take (Int.toNat (if (150 : Int) < (↑(List.length s1) : Int) then (150 : Int) else (↑(List.length s1) : Int))) s1) (1000 : Int))]) ≤ (1000000000 : Nat))) <|
              some [⟨.bool, (Go.Proofs.YtfjbcoahjinehaaDoor.enc (List.flatten [Prod.fst (Go.Proofs.YtfjbcoahjinehaaDoor.decR (List.take (Int.toNat (if (150 : Int) < (↑(List.length s1) : Int) then (150 : Int) else (↑(List.length s1) : Int))) s1) (1000 : Int))]) == List.take (Int.toNat (if (150 : Int) < (↑(List.length s1) : Int) then (150 : Int) else (↑(List.length s1) : Int))) s1 : Bool)⟩]
        else
          need (Decidable.decide (List.length (List.take (Int.toNat (if (150 : Int) < (↑(List.length s1) : Int) then (150 : Int) else (↑(List.length s1) : Int))) s1) ≤ (300000000 : Nat))) <|
          bif (Prod.snd (Go.Proofs.YtfjbcoahjinehaaDoor.decR (List.take (Int.toNat (if (150 : Int) < (↑(List.length s1) : Int) then (150 : Int) else (↑(List.length s1) : Int))) s1) (1000 : Int)) != (0 : Int)) then
            some [⟨.bool, (Bool.true : Bool)⟩]
          else
            need (Decidable.decide (List.length (List.flatten [Prod.fst (Go.Proofs.YtfjbcoahjinehaaDoor.decR (List.take (Int.toNat (if (150 : Int) < (↑(List.length s1) : Int) then (150 : Int) else (↑(List.length s1) : Int))) s1) (1000 : Int))]) ≤ (1000000000 : Nat))) <|
            some [⟨.bool, (Go.Proofs.YtfjbcoahjinehaaDoor.enc (List.flatten [Prod.fst (Go.Proofs.YtfjbcoahjinehaaDoor.decR (List.take (Int.toNat (if (150 : Int) < (↑(List.length s1) : Int) then (150 : Int) else (↑(List.length s1) : Int))) s1) (1000 : Int))]) == List.take (Int.toNat (if (150 : Int) < (↑(List.length s1) : Int) then (150 : Int) else (↑(List.length s1) : Int))) s1 : Bool)⟩]) := by kernel_rfl

end Go.Proofs.YtfjbcoahjinehaaDoor

/-
  Chapter 17: what is encoded is decoded again.
-/
namespace Go.Proofs.YtfjbcoahjinehaaDoor
open Go Go.Am

theorem decR_enc (a : List UInt8) (m : Int) : decR (enc a) m = if m < a.length then ([], 4) else (a, 0) := by
  unfold decR
  rw [(decO_iff _ _).2 rfl]
theorem enc_bound (a : List UInt8) : (enc a).length ≤ 2 * a.length + 4 := by
  have := enc_len a
  unfold size6 at this
  split at this <;> omega
theorem flat1 (a : List UInt8) : List.flatten [a] = a := by simp

abbrev tysBack : List Ty := [.str, .str]
theorem back_law (ds : List Dy) (h : OkDs tysBack ds) : ∃ n, fnY SL5 loopY (tysBack.map .hole) [.bool] n 5 ds = some [⟨.bool, true⟩] := by
  obtain ⟨s0, _, rfl, _, s1, _, rfl, _, rfl⟩ := h
  refine ⟨1, ?_⟩
  show fnY SL5 loopY [.hole .str, .hole .str] [.bool] 1 5 [⟨.str, s0⟩, ⟨.str, s1⟩] = _
  have b0 := cutMin_le (K := 150) (by omega) (List.length s0)
  have b1 := cutMin_le (K := 150) (by omega) (List.length s1)
  rw [L5_fn, need_dec b0.1, need_dec b0.2, need_dec b1.1, need_dec b1.2]
  rw [cutMin (K := 150) 150 rfl s0, cutMin (K := 150) 150 rfl s1]
  have l0 : (s0.take 150).length ≤ 150 := by simp; omega
  have l1 : (s1.take 150).length ≤ 150 := by simp; omega
  generalize s0.take 150 = a at l0 ⊢
  generalize s1.take 150 = b at l1 ⊢
  have ea := enc_bound a
  have eb := enc_bound b
  rw [flat1, flat1, need_dec (by omega), need_dec (by omega), need_dec (by omega), decR_enc, decR_enc, if_neg (by omega), if_neg (by omega), bif_neg (by simp), need_dec (by omega),
    bif_neg (by
      by_cases e : a = b
      · subst e; simp
      · have : enc a ≠ enc b := fun h => e (enc_inj h)
        rw [beq_eq_false_iff_ne.2 this, beq_eq_false_iff_ne.2 e]
        simp)]
  have tail : ∀ x : Option (List Dy), x = (need (decide (b.length ≤ 300000000)) <| bif (decR b 1000).2 != 0 then some [⟨.bool, true⟩] else need (decide ((List.flatten [(decR b 1000).1]).length ≤ 1000000000)) <| some [⟨.bool, enc (List.flatten [(decR b 1000).1]) == b⟩]) → x = some [⟨.bool, true⟩] := by
    rintro x rfl
    rw [need_dec (by omega)]
    cases hd : decO b with
    | none =>
      have : decR b 1000 = ([], 3) := by unfold decR; rw [hd]
      rw [this]; rfl
    | some o =>
      have he := (decO_iff _ _).1 hd
      by_cases hm : (1000 : Int) < (o.length : Int)
      · have : decR b 1000 = ([], 4) := by unfold decR; rw [hd]; exact if_pos hm
        rw [this]; rfl
      · have : decR b 1000 = (o, 0) := by unfold decR; rw [hd]; exact if_neg hm
        rw [this, bif_neg (by rfl), flat1, need_dec (by simp only; omega)]
        simp only [he, beq_self_eq_true]
  by_cases hz : 0 < a.length
  · have w1 : IntKind.i64.wrap ((a.length : Int) - 1) = (a.length : Int) - 1 := w64 (by omega)
    rw [bif_pos (by simp only [decide_eq_true_eq]; omega), need_dec (by omega), w1, decR_enc, if_pos (by omega), bif_neg (by rfl)]
    exact tail _ rfl
  · rw [bif_neg (by simp only [decide_eq_false_iff_not]; omega)]
    exact tail _ rfl

end Go.Proofs.YtfjbcoahjinehaaDoor

/-
  Chapter 17: what any text are the letters of.
-/
namespace Go.Proofs.YtfjbcoahjinehaaDoor
open Go Go.Am

theorem rnd {a : List UInt8} {m : Int} {X : Option (List Dy)} (h : a.length ≤ 300000000) :
    (need (decide (a.length ≤ 300000000)) <| need (decide (a.length ≤ 300000000)) <|
      bif ((!(decR a m).1 == (decR a m).1) || (decR a m).2 != (decR a m).2) then some [⟨.bool, false⟩] else X) = X := by
  rw [need_dec h, need_dec h, bif_neg (by simp)]

abbrev tysDec : List Ty := [.str, .str, .pair .byte (.pair .byte (.pair .byte (.pair (.int .i64) .unit)))]
theorem dec_law (ds : List Dy) (h : OkDs tysDec ds) : ∃ n, fnY SL4 loopY (tysDec.map .hole) [.bool] n 4 ds = some [⟨.bool, true⟩] := by
  obtain ⟨s0, _, rfl, _, s1, _, rfl, _, p2, _, rfl, _, rfl⟩ := h
  refine ⟨1, ?_⟩
  show fnY SL4 loopY [.hole .str, .hole .str, .hole (.pair .byte (.pair .byte (.pair .byte (.pair (.int .i64) .unit))))] [.bool] 1 4 [⟨.str, s0⟩, ⟨.str, s1⟩, ⟨.pair .byte (.pair .byte (.pair .byte (.pair (.int .i64) .unit))), p2⟩] = _
  have b0 := cutMin_le (K := 100) (by omega) (List.length s0)
  have b1 := cutMin_le (K := 100) (by omega) (List.length s1)
  rw [L4_fn, need_dec b0.1, need_dec b0.2, need_dec b1.1, need_dec b1.2]
  rw [cutMin (K := 100) 100 rfl s0, cutMin (K := 100) 100 rfl s1]
  have l0 : (s0.take 100).length ≤ 100 := by simp; omega
  have l1 : (s1.take 100).length ≤ 100 := by simp; omega
  generalize s0.take 100 = a at l0 ⊢
  generalize s1.take 100 = b at l1 ⊢
  have le := enc_bound a
  generalize enc a = e at le ⊢
  obtain ⟨u, v, x, y, _⟩ := p2
  dsimp only
  have hu : u.toNat < 256 := u.toNat_lt
  have hv : v.toNat < 256 := v.toNat_lt
  have hx : x.toNat < 256 := x.toNat_lt
  have wu : IntKind.i64.wrap (u.toNat : Int) = (u.toNat : Int) := w64 (by omega)
  have wv : IntKind.i64.wrap (v.toNat : Int) = (v.toNat : Int) := w64 (by omega)
  have e1 : IntKind.i64.wrap ((e.length : Int) + 1) = ((e.length + 1 : Nat) : Int) := by rw [w64 (by omega)]; omega
  have eA : Int.tmod (u.toNat : Int) (e.length : Int) = ((u.toNat % e.length : Nat) : Int) := rfl
  have eB : Int.tmod (v.toNat : Int) ((e.length + 1 : Nat) : Int) = ((v.toNat % (e.length + 1) : Nat) : Int) := rfl
  have hB : v.toNat % (e.length + 1) < e.length + 1 := Nat.mod_lt _ (by omega)
  rw [wu, wv, e1, eA, eB]
  generalize v.toNat % (e.length + 1) = j at hB ⊢
  refine nd (by omega) (nd (by omega) ?_)
  by_cases hz : 0 < e.length
  · have hA : u.toNat % e.length < e.length := Nat.mod_lt _ hz
    generalize u.toNat % e.length = i at hA ⊢
    refine bpd (by omega) (nn (by omega) (nd (by omega) (nd (by omega) (nd (by omega) (nd (by omega) (nd (by simp) (nn (by omega) (nd (by omega) (nd (by omega) (nd (by omega) (nd (by omega) ?_)))))))))))
    iterate 17 refine (rnd (by first | omega | (simp; omega))).trans ?_
    exact rnd (by first | omega | (simp; omega))
  · refine bnd (by omega) (nd (by omega) (nn (by omega) (nd (by omega) (nd (by omega) (nd (by omega) (nd (by omega) ?_))))))
    iterate 17 refine (rnd (by first | omega | (simp; omega))).trans ?_
    exact rnd (by first | omega | (simp; omega))

end Go.Proofs.YtfjbcoahjinehaaDoor
