/-
  Texts of this session, one behind the other: B6Env, B6Works, B6S, B6G1, B6C1, B6G2, B6E, B6R, B6C2, B6P, B6G3, B6D, B6DR, B6C3, B6Ev, B6G4, B6L, B6L9.
-/
import Derived.Test.YtfjbcoahjinehaaDoorPart10
import Derived.Test.YtfjbcoahjinehaaDoorProg
import Derived.KernelRfl
namespace Go.Proofs.YtfjbcoahjinehaaDoor
open Go Go.Am
def std : Std := { ix := some 45, ct := some 25 }
set_option maxRecDepth 100000 in
theorem std_ok : std.Ok Tryd.prog where
  mixed := by kernel_rfl
  names := by kernel_rfl
  ix f h := by
    have : 45 = f := by simpa [std] using h
    subst this
    exact ⟨⟨_, rfl, by kernel_rfl, by kernel_rfl, by kernel_rfl, rfl⟩⟩
  ct f h := by
    have : 25 = f := by simpa [std] using h
    subst this
    exact ⟨⟨_, rfl, by kernel_rfl, by kernel_rfl, by kernel_rfl, rfl⟩⟩
  ne f h := by simp [std] at h
  mz f e h := by simp [std] at h
noncomputable def E : Env := stdEnv Tryd.prog std
theorem E_ok : E.Ok := stdEnv_ok std_ok
end Go.Proofs.YtfjbcoahjinehaaDoor

namespace Go.Proofs.YtfjbcoahjinehaaDoor
open Go Go.Am
theorem works_eval : evCall E 1000 12 [] [] = some (.pure (.bool true)) := by kernel_rfl
end Go.Proofs.YtfjbcoahjinehaaDoor

/-
  Chapter 17: what symbolic evaluation stands upon.
-/
namespace Go.Proofs.YtfjbcoahjinehaaDoor
open Go Go.Am
noncomputable def E1 : Env := { E.know 12 (fun a => match a with | [] => some (.bool true) | _ => none) with full := fun f => memN f [15, 19, 23, 26, 27, 28, 29, 34, 38] }
theorem E1_ok : E1.Ok :=
  have h := E_ok.knowEval works_eval rfl
  { mixed := h.mixed, names := h.names, ext := h.ext, same := h.same, made := h.made, orc := h.orc }
def ctrs0 : FuncId → List Ctr := addCtr (fun _ => []) 12 (ctr0 [.bool] [⟨.bool, true⟩])
theorem ctrs0_ok : ∀ g ct, ct ∈ ctrs0 g → CtrOk E1 g ct := addCtr_ok (fun g ct h => by cases h) (ctr0_orcB rfl)
theorem G1 : GFlat E1 := fun g cs h => by cases h
theorem orc1 : ∀ g, E1.full g = true → ∀ vs, E1.orc g vs = none := fun g h vs => by
  have h := memN_mem (show memN g [15, 19, 23, 26, 27, 28, 29, 34, 38] = true from h)
  simp only [List.mem_cons, List.not_mem_nil, or_false] at h
  rcases h with rfl | rfl | rfl | rfl | rfl | rfl | rfl | rfl | rfl <;> rfl
theorem S_ok {ctr : FuncId → List Ctr} {tm : FuncId → Nat → Option Tm} {un : Nat} (h : ∀ g ct, ct ∈ ctr g → CtrOk E1 g ct) : SOkE { E := E1, ctr := ctr, tm := tm, un := un } := ⟨G1, h, orc1⟩
end Go.Proofs.YtfjbcoahjinehaaDoor

/-
  Printed by a tool of this session: what functions come to.
-/
namespace Go.Proofs.YtfjbcoahjinehaaDoor
open Go Go.Am
set_option linter.unusedVariables false
def tmLe : FuncId → Nat → Option Tm := fun g i => match Nat.beq g 20 with
  | true => none
  | false => none
noncomputable def SLe : SE := { E := Go.Proofs.YtfjbcoahjinehaaDoor.E1, ctr := Go.Proofs.YtfjbcoahjinehaaDoor.ctrs0, tm := tmLe, un := 300 }
theorem Le_fn (n : Nat) (n0 : Int) :
    fnY SLe loopY [(.hole (.int .u8))] [(.int .u8)] n 20 [⟨(.int .u8), n0⟩] =
    (bif (Decidable.decide (n0 ≤ (25 : Int)) && Decidable.decide ((0 : Int) ≤ n0)) then
      some [⟨(.int .u8), (Go.IntKind.wrap Go.IntKind.u8 (Go.IntKind.wrap Go.IntKind.u8 ((65 : Int) + n0) - (0 : Int)) : Int)⟩]
    else
      bif (Decidable.decide (n0 ≤ (51 : Int)) && Decidable.decide ((26 : Int) ≤ n0)) then
        some [⟨(.int .u8), (Go.IntKind.wrap Go.IntKind.u8 (Go.IntKind.wrap Go.IntKind.u8 ((97 : Int) + n0) - (26 : Int)) : Int)⟩]
      else
        bif (Decidable.decide (n0 ≤ (61 : Int)) && Decidable.decide ((52 : Int) ≤ n0)) then
          some [⟨(.int .u8), (Go.IntKind.wrap Go.IntKind.u8 (Go.IntKind.wrap Go.IntKind.u8 ((48 : Int) + n0) - (52 : Int)) : Int)⟩]
        else
          bif (Decidable.decide (n0 ≤ (62 : Int)) && Decidable.decide ((62 : Int) ≤ n0)) then
            some [⟨(.int .u8), (Go.IntKind.wrap Go.IntKind.u8 (Go.IntKind.wrap Go.IntKind.u8 ((43 : Int) + n0) - (62 : Int)) : Int)⟩]
          else
            bif (Decidable.decide (n0 ≤ (63 : Int)) && Decidable.decide ((63 : Int) ≤ n0)) then
              some [⟨(.int .u8), (Go.IntKind.wrap Go.IntKind.u8 (Go.IntKind.wrap Go.IntKind.u8 ((47 : Int) + n0) - (63 : Int)) : Int)⟩]
            else
              some [⟨(.int .u8), ((61 : Int) : Int)⟩]) := by kernel_rfl

def tmNu : FuncId → Nat → Option Tm := fun g i => match Nat.beq g 22 with
  | true => none
  | false => none
noncomputable def SNu : SE := { E := Go.Proofs.YtfjbcoahjinehaaDoor.E1, ctr := Go.Proofs.YtfjbcoahjinehaaDoor.ctrs0, tm := tmNu, un := 300 }
theorem Nu_fn (n : Nat) (n0 : Int) :
    fnY SNu loopY [(.hole (.int .u8))] [(.int .u8), .bool] n 22 [⟨(.int .u8), n0⟩] =
    (bif (Decidable.decide ((65 : Int) ≤ n0) && Decidable.decide (n0 ≤ (90 : Int))) then
      some [⟨(.int .u8), (Go.IntKind.wrap Go.IntKind.u8 (Go.IntKind.wrap Go.IntKind.u8 ((0 : Int) + n0) - (65 : Int)) : Int)⟩, ⟨.bool, (Bool.true : Bool)⟩]
    else
      bif (Decidable.decide ((97 : Int) ≤ n0) && Decidable.decide (n0 ≤ (122 : Int))) then
        some [⟨(.int .u8), (Go.IntKind.wrap Go.IntKind.u8 (Go.IntKind.wrap Go.IntKind.u8 ((26 : Int) + n0) - (97 : Int)) : Int)⟩, ⟨.bool, (Bool.true : Bool)⟩]
      else
        bif (Decidable.decide ((48 : Int) ≤ n0) && Decidable.decide (n0 ≤ (57 : Int))) then
          some [⟨(.int .u8), (Go.IntKind.wrap Go.IntKind.u8 (Go.IntKind.wrap Go.IntKind.u8 ((52 : Int) + n0) - (48 : Int)) : Int)⟩, ⟨.bool, (Bool.true : Bool)⟩]
        else
          bif (Decidable.decide ((43 : Int) ≤ n0) && Decidable.decide (n0 ≤ (43 : Int))) then
            some [⟨(.int .u8), (Go.IntKind.wrap Go.IntKind.u8 (Go.IntKind.wrap Go.IntKind.u8 ((62 : Int) + n0) - (43 : Int)) : Int)⟩, ⟨.bool, (Bool.true : Bool)⟩]
          else
            bif (Decidable.decide ((47 : Int) ≤ n0) && Decidable.decide (n0 ≤ (47 : Int))) then
              some [⟨(.int .u8), (Go.IntKind.wrap Go.IntKind.u8 (Go.IntKind.wrap Go.IntKind.u8 ((63 : Int) + n0) - (47 : Int)) : Int)⟩, ⟨.bool, (Bool.true : Bool)⟩]
            else
              some [⟨(.int .u8), ((0 : Int) : Int)⟩, ⟨.bool, (Bool.false : Bool)⟩]) := by kernel_rfl

def Tb_T0 : Tm := { tmps := [(0, (.hole .str)), (1, (.hole (.int .u8)))], objs := [] }
def tmTb : FuncId → Nat → Option Tm := fun g i => match Nat.beq g 30 with
  | true => match Nat.beq i 0 with | true => some Tb_T0 | false => none
  | false => none
noncomputable def STb : SE := { E := Go.Proofs.YtfjbcoahjinehaaDoor.E1, ctr := Go.Proofs.YtfjbcoahjinehaaDoor.ctrs0, tm := tmTb, un := 300 }
theorem Tb_L0 (n : Nat) (nx : Nat → List Dy → Option (List Dy)) (m : Nat) (s0 : List UInt8) (n1 : Int) :
    RL STb [.str] n 30 0 nx (m + 1) [⟨.str, s0⟩, ⟨(.int .u8), n1⟩] =
    (need (!Decidable.decide ((0 : Int) < (↑(List.length s0) : Int)) || Decidable.decide ((0 : Int) ≤ Go.IntKind.wrap Go.IntKind.i64 ((↑(List.length s0) : Int) - (1 : Int)))) <|
    need (!Decidable.decide ((0 : Int) < (↑(List.length s0) : Int)) || Decidable.decide (Go.IntKind.wrap Go.IntKind.i64 ((↑(List.length s0) : Int) - (1 : Int)) < (↑(List.length s0) : Int))) <|
    bif (Decidable.decide ((0 : Int) < (↑(List.length s0) : Int)) && (↑(UInt8.toNat (List.getD s0 (Int.toNat (Go.IntKind.wrap Go.IntKind.i64 ((↑(List.length s0) : Int) - (1 : Int)))) (UInt8.ofNat (0 : Nat)))) : Int) == n1) then
      need (Decidable.decide ((0 : Int) ≤ Go.IntKind.wrap Go.IntKind.i64 ((↑(List.length s0) : Int) - (1 : Int)))) <|
      need (Decidable.decide (Go.IntKind.wrap Go.IntKind.i64 ((↑(List.length s0) : Int) - (1 : Int)) ≤ (↑(List.length s0) : Int))) <|
      RL STb [.str] n 30 0 nx m [⟨.str, (List.take (Int.toNat (Go.IntKind.wrap Go.IntKind.i64 ((↑(List.length s0) : Int) - (1 : Int))) - (0 : Nat)) (List.drop (0 : Nat) s0) : List UInt8)⟩, ⟨(.int .u8), (n1 : Int)⟩]
    else
      some [⟨.str, (s0 : List UInt8)⟩]) := by kernel_rfl
theorem Tb_fn (n : Nat) (s0 : List UInt8) (n1 : Int) :
    fnY STb loopY [(.hole .str), (.hole (.int .u8))] [.str] n 30 [⟨.str, s0⟩, ⟨(.int .u8), n1⟩] =
    (RL STb [.str] n 30 0 noNx n [⟨.str, (s0 : List UInt8)⟩, ⟨(.int .u8), (n1 : Int)⟩]) := by kernel_rfl

def tmSz : FuncId → Nat → Option Tm := fun g i => match Nat.beq g 11 with
  | true => none
  | false => none
noncomputable def SSz : SE := { E := Go.Proofs.YtfjbcoahjinehaaDoor.E1, ctr := Go.Proofs.YtfjbcoahjinehaaDoor.ctrs0, tm := tmSz, un := 300 }
theorem Sz_fn (n : Nat) (n0 : Int) :
    fnY SSz loopY [(.hole (.int .i64))] [(.int .i64)] n 11 [⟨(.int .i64), n0⟩] =
    (bif (Decidable.decide (n0 < (1 : Int))) then
      some [⟨(.int .i64), ((0 : Int) : Int)⟩]
    else
      some [⟨(.int .i64), (Go.IntKind.wrap Go.IntKind.i64 (Go.IntKind.wrap Go.IntKind.i64 (Go.IntKind.wrap Go.IntKind.i64 (Int.tdiv (Go.IntKind.wrap Go.IntKind.i64 (n0 - (1 : Int))) (3 : Int)) * (4 : Int)) + (4 : Int)) : Int)⟩]) := by kernel_rfl

def tmLt : FuncId → Nat → Option Tm := fun g i => match Nat.beq g 18 with
  | true => none
  | false => none
noncomputable def SLt : SE := { E := Go.Proofs.YtfjbcoahjinehaaDoor.E1, ctr := Go.Proofs.YtfjbcoahjinehaaDoor.ctrs0, tm := tmLt, un := 300 }
theorem Lt_fn (n : Nat) :
    fnY SLt loopY [] [.str] n 18 [] =
    (some [⟨.str, ([(65 : UInt8), (66 : UInt8), (67 : UInt8), (68 : UInt8), (69 : UInt8), (70 : UInt8), (71 : UInt8), (72 : UInt8), (73 : UInt8), (74 : UInt8), (75 : UInt8), (76 : UInt8), (77 : UInt8), (78 : UInt8), (79 : UInt8), (80 : UInt8), (81 : UInt8), (82 : UInt8), (83 : UInt8), (84 : UInt8), (85 : UInt8), (86 : UInt8), (87 : UInt8), (88 : UInt8), (89 : UInt8), (90 : UInt8), (97 : UInt8), (98 : UInt8), (99 : UInt8), (100 : UInt8), (101 : UInt8), (102 : UInt8), (103 : UInt8), (104 : UInt8), (105 : UInt8), (106 : UInt8), (107 : UInt8), (108 : UInt8), (109 : UInt8), (110 : UInt8), (111 : UInt8), (112 : UInt8), (113 : UInt8), (114 : UInt8), (115 : UInt8), (116 : UInt8), (117 : UInt8), (118 : UInt8), (119 : UInt8), (120 : UInt8), (121 : UInt8), (122 : UInt8), (48 : UInt8), (49 : UInt8), (50 : UInt8), (51 : UInt8), (52 : UInt8), (53 : UInt8), (54 : UInt8), (55 : UInt8), (56 : UInt8), (57 : UInt8), (43 : UInt8), (47 : UInt8)] : List UInt8)⟩]) := by kernel_rfl

end Go.Proofs.YtfjbcoahjinehaaDoor

/-
  Chapter 17: letters, their numbers, sizes, pads at the end.
-/
namespace Go.Proofs.YtfjbcoahjinehaaDoor
open Go Go.Am

def let6 (n : Int) : Int := if n ≤ 25 ∧ 0 ≤ n then 65 + n else if n ≤ 51 ∧ 26 ≤ n then 71 + n else if n ≤ 61 ∧ 52 ≤ n then n - 4 else if n = 62 then 43 else if n = 63 then 47 else 61
def num6 (c : Int) : Option Int := if 65 ≤ c ∧ c ≤ 90 then some (c - 65) else if 97 ≤ c ∧ c ≤ 122 then some (c - 71) else if 48 ≤ c ∧ c ≤ 57 then some (c + 4) else if c = 43 then some 62 else if c = 47 then some 63 else none

theorem le_ok (n : Nat) (x : Int) : fnY SLe loopY [.hole (.int .u8)] [.int .u8] n 20 [⟨.int .u8, x⟩] = some [⟨.int .u8, let6 x⟩] := by
  rw [Le_fn]
  simp only [bif_if, Bool.and_eq_true, decide_eq_true_eq]
  unfold let6
  repeat' split
  all_goals first | rfl | (exfalso; omega) | (refine ret1 (dyI ?_); rw [w8 (by rw [w8 (by omega)]; omega), w8 (by omega)]; omega) | (refine ret1 (dyI ?_); omega)

theorem nu_ok (n : Nat) (x : Int) : fnY SNu loopY [.hole (.int .u8)] [.int .u8, .bool] n 22 [⟨.int .u8, x⟩] = some [⟨.int .u8, (num6 x).getD 0⟩, ⟨.bool, (num6 x).isSome⟩] := by
  rw [Nu_fn]
  simp only [bif_if, Bool.and_eq_true, decide_eq_true_eq]
  unfold num6
  repeat' split
  all_goals first | rfl | (exfalso; omega) | (refine ret2 (dyI ?_) rfl; rw [w8 (by rw [w8 (by omega)]; omega), w8 (by omega)]; simp only [Option.getD_some]; omega)


def size6 (n : Int) : Int := if n < 1 then 0 else (n - 1) / 3 * 4 + 4

theorem sz_ok (n : Nat) (x : Int) (h : -4611686018427387904 ≤ x ∧ x ≤ 1152921504606846976) : fnY SSz loopY [.hole (.int .i64)] [.int .i64] n 11 [⟨.int .i64, x⟩] = some [⟨.int .i64, size6 x⟩] := by
  rw [Sz_fn]
  simp only [bif_if, decide_eq_true_eq]
  unfold size6
  split
  · rfl
  · refine ret1 (dyI ?_)
    rw [w64 (n := x - 1) (by omega), IntWalk.i64_quo _ _ (by omega), w64 (n := (x - 1) / 3 * 4) (by omega), w64 (by omega)]

/-- Without these bytes at the end. -/
def trimR (c : Int) (s : List UInt8) : List UInt8 := (s.reverse.dropWhile fun b => (b.toNat : Int) == c).reverse
theorem trimR_nil (c : Int) : trimR c [] = [] := rfl
theorem trimR_yes {c : Int} {s : List UInt8} {b : UInt8} (h : (b.toNat : Int) = c) : trimR c (s ++ [b]) = trimR c s := by simp [trimR, h]
theorem trimR_no {c : Int} {s : List UInt8} {b : UInt8} (h : ¬ (b.toNat : Int) = c) : trimR c (s ++ [b]) = s ++ [b] := by simp [trimR, h]

theorem tb_loop (n : Nat) (nx : Nat → List Dy → Option (List Dy)) (c : Int) : ∀ (m : Nat) (s : List UInt8), s.length < m → s.length ≤ 4611686018427387904 → RL STb [.str] n 30 0 nx m [⟨.str, s⟩, ⟨.int .u8, c⟩] = some [⟨.str, trimR c s⟩]
  | 0, s, h, _ => by omega
  | m + 1, s, h, hb => by
    rw [Tb_L0]
    rcases List.eq_nil_or_concat s with rfl | ⟨l, b, rfl⟩
    · rfl
    · have e1 : ((l.concat b).length : Int) = l.length + 1 := by simp
      rw [List.concat_eq_append] at *
      have hl : (l ++ [b]).length = l.length + 1 := by simp
      have w1 : IntKind.i64.wrap (((l ++ [b]).length : Int) - 1) = (l.length : Int) := by rw [w64 (by omega)]; omega
      simp only [w1, Int.toNat_natCast]
      have e2 : (l ++ [b]).getD l.length (UInt8.ofNat 0) = b := by simp
      have e3 : (l ++ [b]).take (l.length - 0) = l := by simp
      have p1 : (0 : Int) < ((l ++ [b]).length : Int) := by omega
      rw [need_pos (by simp), need_pos (by simp [hl]; omega)]
      simp only [e2, p1, decide_true, Bool.true_and, List.drop_zero, e3]
      by_cases hc : (b.toNat : Int) = c
      · rw [bif_pos (by simp [hc]), need_dec (by omega), need_dec (by omega), trimR_yes hc]
        exact tb_loop n nx c m l (by omega) (by omega)
      · rw [bif_neg (by simp [hc]), trimR_no hc]

theorem tb_ok (s : List UInt8) (c : Int) (h : s.length ≤ 4611686018427387904) : ∃ n, fnY STb loopY [.hole .str, .hole (.int .u8)] [.str] n 30 [⟨.str, s⟩, ⟨.int .u8, c⟩] = some [⟨.str, trimR c s⟩] :=
  ⟨s.length + 1, by rw [Tb_fn]; exact tb_loop _ _ c _ s (by omega) h⟩

abbrev lets : List UInt8 := [65, 66, 67, 68, 69, 70, 71, 72, 73, 74, 75, 76, 77, 78, 79, 80, 81, 82, 83, 84, 85, 86, 87, 88, 89, 90, 97, 98, 99, 100, 101, 102, 103, 104, 105, 106, 107, 108, 109, 110, 111, 112, 113, 114, 115, 116, 117, 118, 119, 120, 121, 122, 48, 49, 50, 51, 52, 53, 54, 55, 56, 57, 43, 47]
theorem lt_ok (n : Nat) : fnY SLt loopY [] [.str] n 18 [] = some [⟨.str, lets⟩] := by rw [Lt_fn]

abbrev big : Nat := 4611686018427387904
def cLe : Ctr := ctr1 (.int .u8) [.int .u8] (fun _ => []) fun (x : Int) => [⟨.int .u8, let6 x⟩]
def cNu : Ctr := ctr1 (.int .u8) [.int .u8, .bool] (fun _ => []) fun (x : Int) => [⟨.int .u8, (num6 x).getD 0⟩, ⟨.bool, (num6 x).isSome⟩]
def cSz : Ctr := ctr1 (.int .i64) [.int .i64] (fun (x : Int) => [decide (-4611686018427387904 ≤ x), decide (x ≤ 1152921504606846976)]) fun (x : Int) => [⟨.int .i64, size6 x⟩]
def cTb : Ctr := ctr2 .str (.int .u8) [.str] (fun (s : List UInt8) _ => [decide (s.length ≤ big)]) fun (s : List UInt8) (c : Int) => [⟨.str, trimR c s⟩]
def cLt : Ctr := ctr0 [.str] [⟨.str, lets⟩]
theorem cLe_ok : CtrOk E1 20 cLe := ctr1_ok (S := SLe) (t := .int .u8) (S_ok ctrs0_ok) (fun _ => rfl) rfl fun (x : Int) _ => ⟨_, le_ok 1 x⟩
theorem cNu_ok : CtrOk E1 22 cNu := ctr1_ok (S := SNu) (t := .int .u8) (S_ok ctrs0_ok) (fun _ => rfl) rfl fun (x : Int) _ => ⟨_, nu_ok 1 x⟩
theorem cSz_ok : CtrOk E1 11 cSz := ctr1_ok (S := SSz) (t := .int .i64) (S_ok ctrs0_ok) (fun _ => rfl) rfl fun (x : Int) h => ⟨_, sz_ok 1 x (by simpa using h)⟩
theorem cTb_ok : CtrOk E1 30 cTb := ctr2_ok (S := STb) (t := .str) (u := .int .u8) (S_ok ctrs0_ok) (fun _ => rfl) rfl fun (s : List UInt8) (c : Int) h => tb_ok s c (by simpa using h)
theorem cLt_ok : CtrOk E1 18 cLt := ctr0_ok (S := SLt) (S_ok ctrs0_ok) (fun _ => rfl) rfl ⟨_, lt_ok 1⟩
def ctrs1 : FuncId → List Ctr := addCtr (addCtr (addCtr (addCtr (addCtr ctrs0 20 cLe) 22 cNu) 11 cSz) 30 cTb) 18 cLt
theorem ctrs1_ok : ∀ g ct, ct ∈ ctrs1 g → CtrOk E1 g ct :=
  addCtr_ok (addCtr_ok (addCtr_ok (addCtr_ok (addCtr_ok ctrs0_ok cLe_ok) cNu_ok) cSz_ok) cTb_ok) cLt_ok
end Go.Proofs.YtfjbcoahjinehaaDoor

/-
  Printed by a tool of this session: what functions come to.
-/
namespace Go.Proofs.YtfjbcoahjinehaaDoor
open Go Go.Am
set_option linter.unusedVariables false
def tmTr : FuncId → Nat → Option Tm := fun g i => match Nat.beq g 21 with
  | true => none
  | false => none
noncomputable def STr : SE := { E := Go.Proofs.YtfjbcoahjinehaaDoor.E1, ctr := Go.Proofs.YtfjbcoahjinehaaDoor.ctrs1, tm := tmTr, un := 300 }
theorem Tr_fn (n : Nat) (s0 : List UInt8) :
    fnY STr loopY [(.hole .str), (.lit (.str [61]))] [.str] n 21 [⟨.str, s0⟩] =
    (bif (s0 == [] || Bool.false) then
      some [⟨.str, (s0 : List UInt8)⟩]
    else
      need (Decidable.decide (List.length s0 ≤ Go.Proofs.YtfjbcoahjinehaaDoor.big)) <|
      some [⟨.str, (Go.Proofs.YtfjbcoahjinehaaDoor.trimR (61 : Int) s0 : List UInt8)⟩]) := by kernel_rfl

def En_T0 : Tm := { tmps := [(21, (.hole (.int .i64))), (20, (.hole (.int .i64))), (19, (.hole (.list 9 .str))), (6, .h 2), (5, (.func 28 [] [(.ptr 1 0), (.ptr 0 0)])), (4, (.func 27 [] [(.ptr 1 0), (.ptr 0 0)])), (3, (.func 26 [] [(.ptr 0 0), (.ptr 1 0)]))], objs := [.cells [(.hole (.int .u32))] 52 true, .cells [(.hole (.int .u64))] 40 true, .lst 5 .byte true], prep := [(6, 5)] }
def En_T6 : Tm := { tmps := [(6, (.h 2))], objs := [.dead, .dead, .lst 5 .byte true] }
def En_T2 : Tm := { tmps := [(27, (.hole (.int .i64))), (26, (.hole (.int .i64))), (8, (.hole .str)), (21, (.hole (.int .i64))), (20, (.hole (.int .i64))), (19, (.hole (.list 9 .str))), (6, (.h 2)), (5, (.func 28 [] [(.ptr 1 0), (.ptr 0 0)])), (4, (.func 27 [] [(.ptr 1 0), (.ptr 0 0)])), (3, (.func 26 [] [(.ptr 0 0), (.ptr 1 0)]))], objs := [.cells [(.hole (.int .u32))] 52 true, .cells [(.hole (.int .u64))] 40 true, .lst 5 .byte true] }
def En_T4 : Tm := { tmps := [(11, (.hole .bool)), (10, (.hole (.int .u8))), (27, (.hole (.int .i64))), (26, (.hole (.int .i64))), (8, (.hole .str)), (21, (.hole (.int .i64))), (20, (.hole (.int .i64))), (19, (.hole (.list 9 .str))), (6, (.h 2)), (5, (.func 28 [] [(.ptr 1 0), (.ptr 0 0)])), (4, (.func 27 [] [(.ptr 1 0), (.ptr 0 0)])), (3, (.func 26 [] [(.ptr 0 0), (.ptr 1 0)]))], objs := [.cells [(.hole (.int .u32))] 52 true, .cells [(.hole (.int .u64))] 40 true, .lst 5 .byte true] }
def tmEn : FuncId → Nat → Option Tm := fun g i => match Nat.beq g 10 with
  | true => match Nat.beq i 0 with | true => some En_T0 | false => match Nat.beq i 6 with | true => some En_T6 | false => match Nat.beq i 2 with | true => some En_T2 | false => match Nat.beq i 4 with | true => some En_T4 | false => none
  | false => none
noncomputable def SEn : SE := { E := Go.Proofs.YtfjbcoahjinehaaDoor.E1, ctr := Go.Proofs.YtfjbcoahjinehaaDoor.ctrs1, tm := tmEn, un := 300 }
theorem En_L0 (n : Nat) (nx : Nat → List Dy → Option (List Dy)) (m : Nat) (l0 : List UInt8) (n1 : Int) (n2 : Int) (n3 : Int) (n4 : Int) (l5 : List (List UInt8)) :
    RL SEn [.str] n 10 0 nx (m + 1) [⟨(.list 5 .byte), l0⟩, ⟨(.int .u32), n1⟩, ⟨(.int .u64), n2⟩, ⟨(.int .i64), n3⟩, ⟨(.int .i64), n4⟩, ⟨(.list 9 .str), l5⟩] =
    (bif (Decidable.decide (n3 < n4)) then
      need (Decidable.decide ((0 : Int) ≤ n3)) <|
      need (Decidable.decide (n3 < (↑(List.length l5) : Int))) <|
      need (Decidable.decide (Int.toNat n3 < List.length l5)) <|
      RL SEn [.str] n 10 2 (updNx nx 0 (RL SEn [.str] n 10 0 nx m)) n [⟨(.list 5 .byte), (l0 : List UInt8)⟩, ⟨(.int .u32), (n1 : Int)⟩, ⟨(.int .u64), (n2 : Int)⟩, ⟨(.int .i64), ((0 : Int) : Int)⟩, ⟨(.int .i64), ((↑(List.length (List.getD l5 (Int.toNat n3) [])) : Int) : Int)⟩, ⟨.str, (List.getD l5 (Int.toNat n3) [] : List UInt8)⟩, ⟨(.int .i64), (n3 : Int)⟩, ⟨(.int .i64), (n4 : Int)⟩, ⟨(.list 9 .str), (l5 : List (List UInt8))⟩]
    else
      bif (Decidable.decide ((0 : Int) < n2)) then
        need (Decidable.decide ((0 : Int) ≤ Go.IntKind.wrap Go.IntKind.u64 ((6 : Int) - n2))) <|
        need (Decidable.decide ((0 : Int) ≤ Go.Proofs.YtfjbcoahjinehaaDoor.let6 (Go.IntKind.wrap Go.IntKind.u8 (↑(BitVec.toNat (BitVec.ofInt (8 : Nat) (Go.IntKind.wrap Go.IntKind.u8 (Go.IntKind.wrap Go.IntKind.u32 (n1 * (2 : Int) ^ Min.min (Int.toNat (Go.IntKind.wrap Go.IntKind.u64 ((6 : Int) - n2))) (32 : Nat)))) &&& BitVec.ofInt (8 : Nat) (63 : Int))) : Int)))) <|
        need (Decidable.decide (Go.Proofs.YtfjbcoahjinehaaDoor.let6 (Go.IntKind.wrap Go.IntKind.u8 (↑(BitVec.toNat (BitVec.ofInt (8 : Nat) (Go.IntKind.wrap Go.IntKind.u8 (Go.IntKind.wrap Go.IntKind.u32 (n1 * (2 : Int) ^ Min.min (Int.toNat (Go.IntKind.wrap Go.IntKind.u64 ((6 : Int) - n2))) (32 : Nat)))) &&& BitVec.ofInt (8 : Nat) (63 : Int))) : Int)) < (256 : Int))) <|
        need (Decidable.decide ((List.length l0 + List.length [UInt8.ofNat (Int.toNat (Go.Proofs.YtfjbcoahjinehaaDoor.let6 (Go.IntKind.wrap Go.IntKind.u8 (↑(BitVec.toNat (BitVec.ofInt (8 : Nat) (Go.IntKind.wrap Go.IntKind.u8 (Go.IntKind.wrap Go.IntKind.u32 (n1 * (2 : Int) ^ Min.min (Int.toNat (Go.IntKind.wrap Go.IntKind.u64 ((6 : Int) - n2))) (32 : Nat)))) &&& BitVec.ofInt (8 : Nat) (63 : Int))) : Int))))]) * (1 : Nat) ≤ (140737488355328 : Nat))) <|
        need (Decidable.decide (List.length l0 + List.length [UInt8.ofNat (Int.toNat (Go.Proofs.YtfjbcoahjinehaaDoor.let6 (Go.IntKind.wrap Go.IntKind.u8 (↑(BitVec.toNat (BitVec.ofInt (8 : Nat) (Go.IntKind.wrap Go.IntKind.u8 (Go.IntKind.wrap Go.IntKind.u32 (n1 * (2 : Int) ^ Min.min (Int.toNat (Go.IntKind.wrap Go.IntKind.u64 ((6 : Int) - n2))) (32 : Nat)))) &&& BitVec.ofInt (8 : Nat) (63 : Int))) : Int))))] ≤ (140737488355328 : Nat))) <|
        RL SEn [.str] n 10 6 nx n [⟨(.list 5 .byte), (l0 ++ [UInt8.ofNat (Int.toNat (Go.Proofs.YtfjbcoahjinehaaDoor.let6 (Go.IntKind.wrap Go.IntKind.u8 (↑(BitVec.toNat (BitVec.ofInt (8 : Nat) (Go.IntKind.wrap Go.IntKind.u8 (Go.IntKind.wrap Go.IntKind.u32 (n1 * (2 : Int) ^ Min.min (Int.toNat (Go.IntKind.wrap Go.IntKind.u64 ((6 : Int) - n2))) (32 : Nat)))) &&& BitVec.ofInt (8 : Nat) (63 : Int))) : Int))))] : List UInt8)⟩]
      else
        RL SEn [.str] n 10 6 nx n [⟨(.list 5 .byte), (l0 : List UInt8)⟩]) := by kernel_rfl
theorem En_L6 (n : Nat) (nx : Nat → List Dy → Option (List Dy)) (m : Nat) (l0 : List UInt8) :
    RL SEn [.str] n 10 6 nx (m + 1) [⟨(.list 5 .byte), l0⟩] =
    (bif (Int.tmod (↑(List.length l0) : Int) (4 : Int) != (0 : Int)) then
      need (Decidable.decide ((List.length l0 + (1 : Nat)) * (1 : Nat) ≤ (140737488355328 : Nat))) <|
      need (Decidable.decide (List.length l0 + (1 : Nat) ≤ (140737488355328 : Nat))) <|
      RL SEn [.str] n 10 6 nx m [⟨(.list 5 .byte), (l0 ++ [(61 : UInt8)] : List UInt8)⟩]
    else
      some [⟨.str, (l0 : List UInt8)⟩]) := by kernel_rfl
theorem En_L2 (n : Nat) (nx : Nat → List Dy → Option (List Dy)) (m : Nat) (l0 : List UInt8) (n1 : Int) (n2 : Int) (n3 : Int) (n4 : Int) (s5 : List UInt8) (n6 : Int) (n7 : Int) (l8 : List (List UInt8)) :
    RL SEn [.str] n 10 2 nx (m + 1) [⟨(.list 5 .byte), l0⟩, ⟨(.int .u32), n1⟩, ⟨(.int .u64), n2⟩, ⟨(.int .i64), n3⟩, ⟨(.int .i64), n4⟩, ⟨.str, s5⟩, ⟨(.int .i64), n6⟩, ⟨(.int .i64), n7⟩, ⟨(.list 9 .str), l8⟩] =
    (bif (Decidable.decide (n3 < n4)) then
      need (Decidable.decide ((0 : Int) ≤ n3)) <|
      need (Decidable.decide (n3 < (↑(List.length s5) : Int))) <|
      bif (Decidable.decide (Go.IntKind.wrap Go.IntKind.u64 (n2 + (8 : Int)) < (6 : Int))) then
        RL SEn [.str] n 10 4 (updNx nx 2 (RL SEn [.str] n 10 2 nx m)) n [⟨(.list 5 .byte), (l0 : List UInt8)⟩, ⟨(.int .u32), (Go.IntKind.wrap Go.IntKind.u32 (↑(BitVec.toNat (BitVec.ofInt (32 : Nat) (Go.IntKind.wrap Go.IntKind.u32 (n1 * (256 : Int))) ||| BitVec.ofInt (32 : Nat) (Go.IntKind.wrap Go.IntKind.u32 (↑(UInt8.toNat (List.getD s5 (Int.toNat n3) (UInt8.ofNat (0 : Nat)))) : Int)))) : Int) : Int)⟩, ⟨(.int .u64), (Go.IntKind.wrap Go.IntKind.u64 (n2 + (8 : Int)) : Int)⟩, ⟨.bool, (Bool.false : Bool)⟩, ⟨(.int .u8), ((0 : Int) : Int)⟩, ⟨(.int .i64), (n3 : Int)⟩, ⟨(.int .i64), (n4 : Int)⟩, ⟨.str, (s5 : List UInt8)⟩, ⟨(.int .i64), (n6 : Int)⟩, ⟨(.int .i64), (n7 : Int)⟩, ⟨(.list 9 .str), (l8 : List (List UInt8))⟩]
      else
        need (Decidable.decide ((0 : Int) ≤ Go.IntKind.wrap Go.IntKind.u64 (Go.IntKind.wrap Go.IntKind.u64 (n2 + (8 : Int)) - (6 : Int)))) <|
        need (Decidable.decide ((0 : Int) ≤ Go.IntKind.wrap Go.IntKind.u64 (Go.IntKind.wrap Go.IntKind.u64 (n2 + (8 : Int)) - (6 : Int)))) <|
        RL SEn [.str] n 10 4 (updNx nx 2 (RL SEn [.str] n 10 2 nx m)) n [⟨(.list 5 .byte), (l0 : List UInt8)⟩, ⟨(.int .u32), (Go.IntKind.wrap Go.IntKind.u32 (↑(BitVec.toNat (BitVec.ofInt (32 : Nat) (Go.IntKind.wrap Go.IntKind.u32 (↑(BitVec.toNat (BitVec.ofInt (32 : Nat) (Go.IntKind.wrap Go.IntKind.u32 (n1 * (256 : Int))) ||| BitVec.ofInt (32 : Nat) (Go.IntKind.wrap Go.IntKind.u32 (↑(UInt8.toNat (List.getD s5 (Int.toNat n3) (UInt8.ofNat (0 : Nat)))) : Int)))) : Int)) &&& BitVec.ofInt (32 : Nat) (Go.IntKind.wrap Go.IntKind.u32 (Go.IntKind.wrap Go.IntKind.u32 ((1 : Int) * (2 : Int) ^ Min.min (Int.toNat (Go.IntKind.wrap Go.IntKind.u64 (Go.IntKind.wrap Go.IntKind.u64 (n2 + (8 : Int)) - (6 : Int)))) (32 : Nat)) - (1 : Int))))) : Int) : Int)⟩, ⟨(.int .u64), (Go.IntKind.wrap Go.IntKind.u64 (Go.IntKind.wrap Go.IntKind.u64 (n2 + (8 : Int)) - (6 : Int)) : Int)⟩, ⟨.bool, (Bool.true : Bool)⟩, ⟨(.int .u8), (Go.IntKind.wrap Go.IntKind.u8 (Int.fdiv (Go.IntKind.wrap Go.IntKind.u32 (↑(BitVec.toNat (BitVec.ofInt (32 : Nat) (Go.IntKind.wrap Go.IntKind.u32 (n1 * (256 : Int))) ||| BitVec.ofInt (32 : Nat) (Go.IntKind.wrap Go.IntKind.u32 (↑(UInt8.toNat (List.getD s5 (Int.toNat n3) (UInt8.ofNat (0 : Nat)))) : Int)))) : Int)) ((2 : Int) ^ Min.min (Int.toNat (Go.IntKind.wrap Go.IntKind.u64 (Go.IntKind.wrap Go.IntKind.u64 (n2 + (8 : Int)) - (6 : Int)))) (32 : Nat))) : Int)⟩, ⟨(.int .i64), (n3 : Int)⟩, ⟨(.int .i64), (n4 : Int)⟩, ⟨.str, (s5 : List UInt8)⟩, ⟨(.int .i64), (n6 : Int)⟩, ⟨(.int .i64), (n7 : Int)⟩, ⟨(.list 9 .str), (l8 : List (List UInt8))⟩]
    else
      nx 0 [⟨(.list 5 .byte), (l0 : List UInt8)⟩, ⟨(.int .u32), (n1 : Int)⟩, ⟨(.int .u64), (n2 : Int)⟩, ⟨(.int .i64), (Go.IntKind.wrap Go.IntKind.i64 (n6 + (1 : Int)) : Int)⟩, ⟨(.int .i64), (n7 : Int)⟩, ⟨(.list 9 .str), (l8 : List (List UInt8))⟩]) := by kernel_rfl
theorem En_L4 (n : Nat) (nx : Nat → List Dy → Option (List Dy)) (m : Nat) (l0 : List UInt8) (n1 : Int) (n2 : Int) (b3 : Bool) (n4 : Int) (n5 : Int) (n6 : Int) (s7 : List UInt8) (n8 : Int) (n9 : Int) (l10 : List (List UInt8)) :
    RL SEn [.str] n 10 4 nx (m + 1) [⟨(.list 5 .byte), l0⟩, ⟨(.int .u32), n1⟩, ⟨(.int .u64), n2⟩, ⟨.bool, b3⟩, ⟨(.int .u8), n4⟩, ⟨(.int .i64), n5⟩, ⟨(.int .i64), n6⟩, ⟨.str, s7⟩, ⟨(.int .i64), n8⟩, ⟨(.int .i64), n9⟩, ⟨(.list 9 .str), l10⟩] =
    (bif (b3) then
      need (Decidable.decide ((0 : Int) ≤ Go.Proofs.YtfjbcoahjinehaaDoor.let6 n4)) <|
      need (Decidable.decide (Go.Proofs.YtfjbcoahjinehaaDoor.let6 n4 < (256 : Int))) <|
      need (Decidable.decide ((List.length l0 + List.length [UInt8.ofNat (Int.toNat (Go.Proofs.YtfjbcoahjinehaaDoor.let6 n4))]) * (1 : Nat) ≤ (140737488355328 : Nat))) <|
      need (Decidable.decide (List.length l0 + List.length [UInt8.ofNat (Int.toNat (Go.Proofs.YtfjbcoahjinehaaDoor.let6 n4))] ≤ (140737488355328 : Nat))) <|
      bif (Decidable.decide (n2 < (6 : Int))) then
        RL SEn [.str] n 10 4 nx m [⟨(.list 5 .byte), (l0 ++ [UInt8.ofNat (Int.toNat (Go.Proofs.YtfjbcoahjinehaaDoor.let6 n4))] : List UInt8)⟩, ⟨(.int .u32), (n1 : Int)⟩, ⟨(.int .u64), (n2 : Int)⟩, ⟨.bool, (Bool.false : Bool)⟩, ⟨(.int .u8), ((0 : Int) : Int)⟩, ⟨(.int .i64), (n5 : Int)⟩, ⟨(.int .i64), (n6 : Int)⟩, ⟨.str, (s7 : List UInt8)⟩, ⟨(.int .i64), (n8 : Int)⟩, ⟨(.int .i64), (n9 : Int)⟩, ⟨(.list 9 .str), (l10 : List (List UInt8))⟩]
      else
        need (Decidable.decide ((0 : Int) ≤ Go.IntKind.wrap Go.IntKind.u64 (n2 - (6 : Int)))) <|
        need (Decidable.decide ((0 : Int) ≤ Go.IntKind.wrap Go.IntKind.u64 (n2 - (6 : Int)))) <|
        RL SEn [.str] n 10 4 nx m [⟨(.list 5 .byte), (l0 ++ [UInt8.ofNat (Int.toNat (Go.Proofs.YtfjbcoahjinehaaDoor.let6 n4))] : List UInt8)⟩, ⟨(.int .u32), (Go.IntKind.wrap Go.IntKind.u32 (↑(BitVec.toNat (BitVec.ofInt (32 : Nat) n1 &&& BitVec.ofInt (32 : Nat) (Go.IntKind.wrap Go.IntKind.u32 (Go.IntKind.wrap Go.IntKind.u32 ((1 : Int) * (2 : Int) ^ Min.min (Int.toNat (Go.IntKind.wrap Go.IntKind.u64 (n2 - (6 : Int)))) (32 : Nat)) - (1 : Int))))) : Int) : Int)⟩, ⟨(.int .u64), (Go.IntKind.wrap Go.IntKind.u64 (n2 - (6 : Int)) : Int)⟩, ⟨.bool, (Bool.true : Bool)⟩, ⟨(.int .u8), (Go.IntKind.wrap Go.IntKind.u8 (Int.fdiv n1 ((2 : Int) ^ Min.min (Int.toNat (Go.IntKind.wrap Go.IntKind.u64 (n2 - (6 : Int)))) (32 : Nat))) : Int)⟩, ⟨(.int .i64), (n5 : Int)⟩, ⟨(.int .i64), (n6 : Int)⟩, ⟨.str, (s7 : List UInt8)⟩, ⟨(.int .i64), (n8 : Int)⟩, ⟨(.int .i64), (n9 : Int)⟩, ⟨(.list 9 .str), (l10 : List (List UInt8))⟩]
    else
      nx 2 [⟨(.list 5 .byte), (l0 : List UInt8)⟩, ⟨(.int .u32), (n1 : Int)⟩, ⟨(.int .u64), (n2 : Int)⟩, ⟨(.int .i64), (Go.IntKind.wrap Go.IntKind.i64 (n5 + (1 : Int)) : Int)⟩, ⟨(.int .i64), (n6 : Int)⟩, ⟨.str, (s7 : List UInt8)⟩, ⟨(.int .i64), (n8 : Int)⟩, ⟨(.int .i64), (n9 : Int)⟩, ⟨(.list 9 .str), (l10 : List (List UInt8))⟩]) := by kernel_rfl
theorem En_fn (n : Nat) (l0 : List (List UInt8)) :
    fnY SEn loopY [(.hole (.list 9 .str))] [.str] n 10 [⟨(.list 9 .str), l0⟩] =
    (RL SEn [.str] n 10 0 noNx n [⟨(.list 5 .byte), ([] : List UInt8)⟩, ⟨(.int .u32), ((0 : Int) : Int)⟩, ⟨(.int .u64), ((0 : Int) : Int)⟩, ⟨(.int .i64), ((0 : Int) : Int)⟩, ⟨(.int .i64), ((↑(List.length l0) : Int) : Int)⟩, ⟨(.list 9 .str), (l0 : List (List UInt8))⟩]) := by kernel_rfl

def Re_T0 : Tm := { tmps := [(4, (.hole (.int .i64))), (3, .h 0), (0, (.hole .str))], objs := [.lst 3 (.int .i64) true], prep := [(3, 3)] }
def Re_T4 : Tm := { tmps := [(7, (.hole (.int .i64))), (6, (.hole .str)), (3, (.h 0))], objs := [.lst 3 (.int .i64) true] }
def Re_T2 : Tm := { tmps := [(5, (.hole (.int .i64))), (4, (.hole (.int .i64))), (3, (.h 0)), (0, (.hole .str))], objs := [.lst 3 (.int .i64) true] }
def Re_T8 : Tm := { tmps := [(6, (.hole .str))], objs := [.dead] }
def Re_T6 : Tm := { tmps := [(9, (.hole (.int .i64))), (8, (.hole (.int .i64))), (7, (.hole (.int .i64))), (6, (.hole .str)), (3, (.h 0))], objs := [.lst 3 (.int .i64) true] }
def tmRe : FuncId → Nat → Option Tm := fun g i => match Nat.beq g 9 with
  | true => match Nat.beq i 0 with | true => some Re_T0 | false => match Nat.beq i 4 with | true => some Re_T4 | false => match Nat.beq i 2 with | true => some Re_T2 | false => match Nat.beq i 8 with | true => some Re_T8 | false => match Nat.beq i 6 with | true => some Re_T6 | false => none
  | false => none
noncomputable def SRe : SE := { E := Go.Proofs.YtfjbcoahjinehaaDoor.E1, ctr := Go.Proofs.YtfjbcoahjinehaaDoor.ctrs1, tm := tmRe, un := 300 }
theorem Re_L0 (n : Nat) (nx : Nat → List Dy → Option (List Dy)) (m : Nat) (l0 : List Int) (n1 : Int) (s2 : List UInt8) :
    RL SRe [.str] n 9 0 nx (m + 1) [⟨(.list 3 (.int .i64)), l0⟩, ⟨(.int .i64), n1⟩, ⟨.str, s2⟩] =
    (bif (Decidable.decide (n1 < (↑(List.length s2) : Int))) then
      RL SRe [.str] n 9 2 (updNx nx 0 (RL SRe [.str] n 9 0 nx m)) n [⟨(.list 3 (.int .i64)), (l0 : List Int)⟩, ⟨(.int .i64), ((7 : Int) : Int)⟩, ⟨(.int .i64), (n1 : Int)⟩, ⟨.str, (s2 : List UInt8)⟩]
    else
      RL SRe [.str] n 9 4 nx n [⟨(.list 3 (.int .i64)), (l0 : List Int)⟩, ⟨(.int .i64), ((0 : Int) : Int)⟩, ⟨.str, ([] : List UInt8)⟩]) := by kernel_rfl
theorem Re_L4 (n : Nat) (nx : Nat → List Dy → Option (List Dy)) (m : Nat) (l0 : List Int) (n1 : Int) (s2 : List UInt8) :
    RL SRe [.str] n 9 4 nx (m + 1) [⟨(.list 3 (.int .i64)), l0⟩, ⟨(.int .i64), n1⟩, ⟨.str, s2⟩] =
    (bif (Decidable.decide (n1 < (↑(List.length l0) : Int))) then
      RL SRe [.str] n 9 6 (updNx nx 4 (RL SRe [.str] n 9 4 nx m)) n [⟨(.list 3 (.int .i64)), (l0 : List Int)⟩, ⟨(.int .i64), (n1 : Int)⟩, ⟨(.int .i64), ((0 : Int) : Int)⟩, ⟨(.int .i64), (n1 : Int)⟩, ⟨.str, (s2 : List UInt8)⟩]
    else
      RL SRe [.str] n 9 8 nx n [⟨.str, (s2 : List UInt8)⟩]) := by kernel_rfl
theorem Re_L2 (n : Nat) (nx : Nat → List Dy → Option (List Dy)) (m : Nat) (l0 : List Int) (n1 : Int) (n2 : Int) (s3 : List UInt8) :
    RL SRe [.str] n 9 2 nx (m + 1) [⟨(.list 3 (.int .i64)), l0⟩, ⟨(.int .i64), n1⟩, ⟨(.int .i64), n2⟩, ⟨.str, s3⟩] =
    (bif (Decidable.decide ((0 : Int) ≤ n1)) then
      need (Decidable.decide ((0 : Int) ≤ n2)) <|
      need (Decidable.decide (n2 < (↑(List.length s3) : Int))) <|
      need (Decidable.decide ((0 : Int) ≤ n1)) <|
      need (Decidable.decide ((List.length l0 + List.length [Go.IntKind.wrap Go.IntKind.i64 (↑(BitVec.toNat (BitVec.ofInt (64 : Nat) (Int.fdiv (Go.IntKind.wrap Go.IntKind.i64 (↑(UInt8.toNat (List.getD s3 (Int.toNat n2) (UInt8.ofNat (0 : Nat)))) : Int)) ((2 : Int) ^ Min.min (Int.toNat n1) (64 : Nat))) &&& BitVec.ofInt (64 : Nat) (1 : Int))) : Int)]) * (8 : Nat) ≤ (140737488355328 : Nat))) <|
      need (Decidable.decide (List.length l0 + List.length [Go.IntKind.wrap Go.IntKind.i64 (↑(BitVec.toNat (BitVec.ofInt (64 : Nat) (Int.fdiv (Go.IntKind.wrap Go.IntKind.i64 (↑(UInt8.toNat (List.getD s3 (Int.toNat n2) (UInt8.ofNat (0 : Nat)))) : Int)) ((2 : Int) ^ Min.min (Int.toNat n1) (64 : Nat))) &&& BitVec.ofInt (64 : Nat) (1 : Int))) : Int)] ≤ (140737488355328 : Nat))) <|
      RL SRe [.str] n 9 2 nx m [⟨(.list 3 (.int .i64)), (l0 ++ [Go.IntKind.wrap Go.IntKind.i64 (↑(BitVec.toNat (BitVec.ofInt (64 : Nat) (Int.fdiv (Go.IntKind.wrap Go.IntKind.i64 (↑(UInt8.toNat (List.getD s3 (Int.toNat n2) (UInt8.ofNat (0 : Nat)))) : Int)) ((2 : Int) ^ Min.min (Int.toNat n1) (64 : Nat))) &&& BitVec.ofInt (64 : Nat) (1 : Int))) : Int)] : List Int)⟩, ⟨(.int .i64), (Go.IntKind.wrap Go.IntKind.i64 (n1 - (1 : Int)) : Int)⟩, ⟨(.int .i64), (n2 : Int)⟩, ⟨.str, (s3 : List UInt8)⟩]
    else
      nx 0 [⟨(.list 3 (.int .i64)), (l0 : List Int)⟩, ⟨(.int .i64), (Go.IntKind.wrap Go.IntKind.i64 (n2 + (1 : Int)) : Int)⟩, ⟨.str, (s3 : List UInt8)⟩]) := by kernel_rfl
theorem Re_L8 (n : Nat) (nx : Nat → List Dy → Option (List Dy)) (m : Nat) (s0 : List UInt8) :
    RL SRe [.str] n 9 8 nx (m + 1) [⟨.str, s0⟩] =
    (bif (Decidable.decide ((0 : Int) < Int.tmod (↑(List.length s0) : Int) (4 : Int))) then
      need (Decidable.decide (List.length s0 + (1 : Nat) ≤ (9223372036854775807 : Nat))) <|
      RL SRe [.str] n 9 8 nx m [⟨.str, (s0 ++ [(61 : UInt8)] : List UInt8)⟩]
    else
      some [⟨.str, (s0 : List UInt8)⟩]) := by kernel_rfl
theorem Re_L6 (n : Nat) (nx : Nat → List Dy → Option (List Dy)) (m : Nat) (l0 : List Int) (n1 : Int) (n2 : Int) (n3 : Int) (s4 : List UInt8) :
    RL SRe [.str] n 9 6 nx (m + 1) [⟨(.list 3 (.int .i64)), l0⟩, ⟨(.int .i64), n1⟩, ⟨(.int .i64), n2⟩, ⟨(.int .i64), n3⟩, ⟨.str, s4⟩] =
    (bif (Decidable.decide (n1 < Go.IntKind.wrap Go.IntKind.i64 (n3 + (6 : Int)))) then
      bif (Decidable.decide (n1 < (↑(List.length l0) : Int))) then
        need (Decidable.decide ((0 : Int) ≤ n1)) <|
        need (Decidable.decide (n1 < (↑(List.length l0) : Int))) <|
        need (Decidable.decide (Int.toNat n1 < List.length l0)) <|
        RL SRe [.str] n 9 6 nx m [⟨(.list 3 (.int .i64)), (l0 : List Int)⟩, ⟨(.int .i64), (Go.IntKind.wrap Go.IntKind.i64 (n1 + (1 : Int)) : Int)⟩, ⟨(.int .i64), (Go.IntKind.wrap Go.IntKind.i64 (Go.IntKind.wrap Go.IntKind.i64 ((2 : Int) * n2) + List.getD l0 (Int.toNat n1) (0 : Int)) : Int)⟩, ⟨(.int .i64), (n3 : Int)⟩, ⟨.str, (s4 : List UInt8)⟩]
      else
        RL SRe [.str] n 9 6 nx m [⟨(.list 3 (.int .i64)), (l0 : List Int)⟩, ⟨(.int .i64), (Go.IntKind.wrap Go.IntKind.i64 (n1 + (1 : Int)) : Int)⟩, ⟨(.int .i64), (Go.IntKind.wrap Go.IntKind.i64 ((2 : Int) * n2) : Int)⟩, ⟨(.int .i64), (n3 : Int)⟩, ⟨.str, (s4 : List UInt8)⟩]
    else
      need (Decidable.decide ((0 : Int) ≤ n2)) <|
      need (Decidable.decide (n2 ≤ Go.IntKind.wrap Go.IntKind.i64 (n2 + (1 : Int)))) <|
      need (Decidable.decide (Go.IntKind.wrap Go.IntKind.i64 (n2 + (1 : Int)) ≤ (64 : Int))) <|
      need (Decidable.decide (List.length s4 + List.length (List.take (Int.toNat (Go.IntKind.wrap Go.IntKind.i64 (n2 + (1 : Int))) - Int.toNat n2) (List.drop (Int.toNat n2) [(65 : UInt8), (66 : UInt8), (67 : UInt8), (68 : UInt8), (69 : UInt8), (70 : UInt8), (71 : UInt8), (72 : UInt8), (73 : UInt8), (74 : UInt8), (75 : UInt8), (76 : UInt8), (77 : UInt8), (78 : UInt8), (79 : UInt8), (80 : UInt8), (81 : UInt8), (82 : UInt8), (83 : UInt8), (84 : UInt8), (85 : UInt8), (86 : UInt8), (87 : UInt8), (88 : UInt8), (89 : UInt8), (90 : UInt8), (97 : UInt8), (98 : UInt8), (99 : UInt8), (100 : UInt8), (101 : UInt8), (102 : UInt8), (103 : UInt8), (104 : UInt8), (105 : UInt8), (106 : UInt8), (107 : UInt8), (108 : UInt8), (109 : UInt8), (110 : UInt8), (111 : UInt8), (112 : UInt8), (113 : UInt8), (114 : UInt8), (115 : UInt8), (116 : UInt8), (117 : UInt8), (118 : UInt8), (119 : UInt8), (120 : UInt8), (121 : UInt8), (122 : UInt8), (48 : UInt8), (49 : UInt8), (50 : UInt8), (51 : UInt8), (52 : UInt8), (53 : UInt8), (54 : UInt8), (55 : UInt8), (56 : UInt8), (57 : UInt8), (43 : UInt8), (47 : UInt8)])) ≤ (9223372036854775807 : Nat))) <|
      nx 4 [⟨(.list 3 (.int .i64)), (l0 : List Int)⟩, ⟨(.int .i64), (Go.IntKind.wrap Go.IntKind.i64 (n3 + (6 : Int)) : Int)⟩, ⟨.str, (s4 ++ List.take (Int.toNat (Go.IntKind.wrap Go.IntKind.i64 (n2 + (1 : Int))) - Int.toNat n2) (List.drop (Int.toNat n2) [(65 : UInt8), (66 : UInt8), (67 : UInt8), (68 : UInt8), (69 : UInt8), (70 : UInt8), (71 : UInt8), (72 : UInt8), (73 : UInt8), (74 : UInt8), (75 : UInt8), (76 : UInt8), (77 : UInt8), (78 : UInt8), (79 : UInt8), (80 : UInt8), (81 : UInt8), (82 : UInt8), (83 : UInt8), (84 : UInt8), (85 : UInt8), (86 : UInt8), (87 : UInt8), (88 : UInt8), (89 : UInt8), (90 : UInt8), (97 : UInt8), (98 : UInt8), (99 : UInt8), (100 : UInt8), (101 : UInt8), (102 : UInt8), (103 : UInt8), (104 : UInt8), (105 : UInt8), (106 : UInt8), (107 : UInt8), (108 : UInt8), (109 : UInt8), (110 : UInt8), (111 : UInt8), (112 : UInt8), (113 : UInt8), (114 : UInt8), (115 : UInt8), (116 : UInt8), (117 : UInt8), (118 : UInt8), (119 : UInt8), (120 : UInt8), (121 : UInt8), (122 : UInt8), (48 : UInt8), (49 : UInt8), (50 : UInt8), (51 : UInt8), (52 : UInt8), (53 : UInt8), (54 : UInt8), (55 : UInt8), (56 : UInt8), (57 : UInt8), (43 : UInt8), (47 : UInt8)]) : List UInt8)⟩]) := by kernel_rfl
theorem Re_fn (n : Nat) (s0 : List UInt8) :
    fnY SRe loopY [(.hole .str)] [.str] n 9 [⟨.str, s0⟩] =
    (RL SRe [.str] n 9 0 noNx n [⟨(.list 3 (.int .i64)), ([] : List Int)⟩, ⟨(.int .i64), ((0 : Int) : Int)⟩, ⟨.str, (s0 : List UInt8)⟩]) := by kernel_rfl

end Go.Proofs.YtfjbcoahjinehaaDoor

/-
  Chapter 17: what Encode makes.
-/
namespace Go.Proofs.YtfjbcoahjinehaaDoor
open Go Go.Am

def Lb (n : Nat) : UInt8 := UInt8.ofNat (Int.toNat (let6 n))

theorem let6_lt (n : Int) : 0 ≤ let6 n ∧ let6 n < 256 := by unfold let6; repeat' split
                                                            all_goals omega

/-- Letters of bytes. -/
def enc : List UInt8 → List UInt8
  | [] => []
  | [a] => [Lb (a.toNat / 4), Lb (a.toNat % 4 * 16), 61, 61]
  | [a, b] => [Lb (a.toNat / 4), Lb (a.toNat % 4 * 16 + b.toNat / 16), Lb (b.toNat % 16 * 4), 61]
  | a :: b :: c :: r => Lb (a.toNat / 4) :: Lb (a.toNat % 4 * 16 + b.toNat / 16) :: Lb (b.toNat % 16 * 4 + c.toNat / 64) :: Lb (c.toNat % 64) :: enc r

/-- What is there on the way: letters; bits that are left, how many. -/
abbrev StE := List UInt8 × Nat × Nat
def stepE : StE → UInt8 → StE
  | (o, _, 0), b => (o ++ [Lb (b.toNat / 4)], b.toNat % 4, 2)
  | (o, r, 2), b => (o ++ [Lb (r * 16 + b.toNat / 16)], b.toNat % 16, 4)
  | (o, r, _), b => (o ++ [Lb (r * 4 + b.toNat / 64)] ++ [Lb (b.toNat % 64)], 0, 0)
def OkE (s : StE) : Prop := (s.2.1 = 0 ∧ s.2.2 = 0) ∨ (s.2.1 < 4 ∧ s.2.2 = 2) ∨ (s.2.1 < 16 ∧ s.2.2 = 4)
def foldE (s : StE) (l : List UInt8) : StE := l.foldl stepE s

theorem stepE_ok {s : StE} (h : OkE s) (b : UInt8) : OkE (stepE s b) := by
  obtain ⟨o, r, k⟩ := s
  rcases h with ⟨h1, h2⟩ | ⟨h1, h2⟩ | ⟨h1, h2⟩ <;> simp only at h1 h2 <;> subst h2
  · exact .inr (.inl ⟨Nat.mod_lt _ (by omega), rfl⟩)
  · exact .inr (.inr ⟨Nat.mod_lt _ (by omega), rfl⟩)
  · exact .inl ⟨rfl, rfl⟩
theorem stepE_len {s : StE} (b : UInt8) : (stepE s b).1.length ≤ s.1.length + 2 := by
  obtain ⟨o, r, k⟩ := s
  show (stepE (o, r, k) b).1.length ≤ o.length + 2
  unfold stepE
  split <;> (rename_i h; cases h; simp)
theorem foldE_ok {s : StE} (h : OkE s) : ∀ l : List UInt8, OkE (foldE s l) := by
  intro l
  induction l generalizing s with
  | nil => exact h
  | cons b l ih => exact ih (stepE_ok h b)
theorem foldE_len (s : StE) : ∀ l : List UInt8, (foldE s l).1.length ≤ s.1.length + 2 * l.length := by
  intro l
  induction l generalizing s with
  | nil => simp [foldE]
  | cons b l ih =>
    have := ih (stepE s b)
    have := stepE_len (s := s) b
    simp only [foldE, List.foldl_cons, List.length_cons] at *
    omega

/-- The end. -/
def padE (o : List UInt8) : List UInt8 := o ++ List.replicate ((4 - o.length % 4) % 4) 61
def finE (s : StE) : List UInt8 := padE (if s.2.2 = 0 then s.1 else s.1 ++ [Lb (s.2.1 * 2 ^ (6 - s.2.2))])

theorem finE_enc : ∀ (l : List UInt8) (o : List UInt8), o.length % 4 = 0 → finE (foldE (o, 0, 0) l) = o ++ enc l
  | [], o, h => by simp [foldE, finE, padE, h, enc]
  | [a], o, h => by
    have e : (o ++ [Lb (a.toNat / 4)] ++ [Lb (a.toNat % 4 * 2 ^ 4)]).length % 4 = 2 := by simp; omega
    simp only [foldE, List.foldl_cons, List.foldl_nil, stepE, finE, padE]
    rw [if_neg (by omega)]
    simp only [Nat.reduceSub] at e ⊢
    rw [e]
    simp [enc]
  | [a, b], o, h => by
    have e : (o ++ [Lb (a.toNat / 4)] ++ [Lb (a.toNat % 4 * 16 + b.toNat / 16)] ++ [Lb (b.toNat % 16 * 2 ^ 2)]).length % 4 = 3 := by simp; omega
    simp only [foldE, List.foldl_cons, List.foldl_nil, stepE, finE, padE]
    rw [if_neg (by omega)]
    simp only [Nat.reduceSub] at e ⊢
    rw [e]
    simp [enc]
  | a :: b :: c :: r, o, h => by
    have e : foldE (o, 0, 0) (a :: b :: c :: r) = foldE (o ++ [Lb (a.toNat / 4)] ++ [Lb (a.toNat % 4 * 16 + b.toNat / 16)] ++ [Lb (b.toNat % 16 * 4 + c.toNat / 64)] ++ [Lb (c.toNat % 64)], 0, 0) r := by
      simp only [foldE, List.foldl_cons, stepE]
    rw [e, finE_enc r _ (by simp; omega), enc]
    simp

/-! ### The loops -/

theorem padE_step {o : List UInt8} (h : o.length % 4 ≠ 0) : padE (o ++ [61]) = padE o := by
  have e : (4 - o.length % 4) % 4 = (4 - (o.length + 1) % 4) % 4 + 1 := by omega
  simp only [padE, e, List.replicate_succ, List.length_append, List.length_singleton, List.append_assoc, List.singleton_append]

theorem l6_ok (n : Nat) (nx : Nat → List Dy → Option (List Dy)) : ∀ (m : Nat) (o : List UInt8), 1 + (4 - o.length % 4) % 4 ≤ m → o.length ≤ 140737488355300 → RL SEn [.str] n 10 6 nx m [⟨.list 5 .byte, o⟩] = some [⟨.str, padE o⟩]
  | 0, o, h, _ => by omega
  | m + 1, o, h, hb => by
    rw [En_L6]
    have e : Int.tmod (o.length : Int) 4 = ((o.length % 4 : Nat) : Int) := rfl
    rw [e]
    by_cases h0 : o.length % 4 = 0
    · rw [h0]; simp [padE, h0]
    · rw [bif_pos (by simp only [bne_iff_ne, ne_eq]; omega), need_dec (by omega), need_dec (by omega)]
      by_cases h1 : o.length ≤ 140737488355299
      · exact (l6_ok n nx m (o ++ [61]) (by simp; omega) (by simp; omega)).trans (by rw [padE_step h0])
      · omega

theorem put_nat {r b : Nat} (hr : r < 16777216) (hb : b < 256) : IntKind.u32.wrap (((BitVec.ofInt 32 (IntKind.u32.wrap ((r : Int) * 256)) ||| BitVec.ofInt 32 (IntKind.u32.wrap (b : Int))).toNat : Nat) : Int) = ((r * 256 + b : Nat) : Int) := by
  rw [wu32 (n := (r : Int) * 256) (by omega), wu32 (n := (b : Int)) (by omega), bv_join (a := r) (b := b) (k := 8) (by omega) (by omega) (by omega) (by simp) rfl]
  exact wu32 (by omega)
theorem mask_nat {v : Nat} (hv : v < 4294967296) (k : Nat) (hk : k < 32) {c : Int} (hc : c = ((2 ^ k - 1 : Nat) : Int)) : IntKind.u32.wrap (((BitVec.ofInt 32 (v : Int) &&& BitVec.ofInt 32 c).toNat : Nat) : Int) = ((v % 2 ^ k : Nat) : Int) := by
  rw [bv_mask (by omega) (by omega) hc]
  exact wu32 ⟨by omega, by have := Nat.mod_le v (2 ^ k); omega⟩

theorem Lb_def (n : Nat) : UInt8.ofNat (Int.toNat (let6 (n : Int))) = Lb n := rfl

/-- One letter is taken. -/
theorem l4_take (n : Nat) (nx : Nat → List Dy → Option (List Dy)) (m : Nat) (o : List UInt8) (r k c : Nat) (n5 n6 : Int) (s : List UInt8) (n8 n9 : Int) (l : List (List UInt8)) (ho : o.length < 140737488355000) (hk : k < 6) :
    RL SEn [.str] n 10 4 nx (m + 2) [⟨.list 5 .byte, o⟩, ⟨.int .u32, (r : Int)⟩, ⟨.int .u64, (k : Int)⟩, ⟨.bool, true⟩, ⟨.int .u8, (c : Int)⟩, ⟨.int .i64, n5⟩, ⟨.int .i64, n6⟩, ⟨.str, s⟩, ⟨.int .i64, n8⟩, ⟨.int .i64, n9⟩, ⟨.list 9 .str, l⟩] =
    nx 2 [⟨.list 5 .byte, o ++ [Lb c]⟩, ⟨.int .u32, (r : Int)⟩, ⟨.int .u64, (k : Int)⟩, ⟨.int .i64, IntKind.i64.wrap (n5 + 1)⟩, ⟨.int .i64, n6⟩, ⟨.str, s⟩, ⟨.int .i64, n8⟩, ⟨.int .i64, n9⟩, ⟨.list 9 .str, l⟩] := by
  have h1 := let6_lt c
  rw [En_L4, bif_pos rfl, need_dec h1.1, need_dec h1.2, need_dec (by simp; omega), need_dec (by simp; omega), bif_pos (by simp; omega), En_L4]
  rfl

theorem maskC : ∀ j < 13, IntKind.u32.wrap (IntKind.u32.wrap ((1 : Int) * (2 : Int) ^ Min.min (Int.toNat ((j : Nat) : Int)) (32 : Nat)) - (1 : Int)) = ((2 ^ j - 1 : Nat) : Int) := by decide
theorem powC : ∀ j < 13, (2 : Int) ^ Min.min (Int.toNat ((j : Nat) : Int)) (32 : Nat) = ((2 ^ j : Nat) : Int) := by decide

theorem l2_one (n : Nat) (nx : Nat → List Dy → Option (List Dy)) (m : Nat) (o : List UInt8) (r k : Nat) (hk : k ≤ 4) (hr : r < 2 ^ k) (i : Nat) (s : List UInt8) (b : UInt8) (hb : s.getD i 0 = b) (n6 n7 : Int) (l : List (List UInt8)) (hi : i < s.length) :
    RL SEn [.str] n 10 2 nx (m + 1) [⟨.list 5 .byte, o⟩, ⟨.int .u32, (r : Int)⟩, ⟨.int .u64, (k : Int)⟩, ⟨.int .i64, (i : Int)⟩, ⟨.int .i64, (s.length : Int)⟩, ⟨.str, s⟩, ⟨.int .i64, n6⟩, ⟨.int .i64, n7⟩, ⟨.list 9 .str, l⟩] =
    RL SEn [.str] n 10 4 (updNx nx 2 (RL SEn [.str] n 10 2 nx m)) n [⟨.list 5 .byte, o⟩, ⟨.int .u32, (((r * 256 + b.toNat) % 2 ^ (k + 2) : Nat) : Int)⟩, ⟨.int .u64, ((k + 2 : Nat) : Int)⟩, ⟨.bool, true⟩, ⟨.int .u8, (((r * 256 + b.toNat) / 2 ^ (k + 2) : Nat) : Int)⟩, ⟨.int .i64, (i : Int)⟩, ⟨.int .i64, (s.length : Int)⟩, ⟨.str, s⟩, ⟨.int .i64, n6⟩, ⟨.int .i64, n7⟩, ⟨.list 9 .str, l⟩] := by
  have hb' : s.getD (Int.toNat (i : Int)) (UInt8.ofNat 0) = b := hb
  have hb2 : b.toNat < 256 := b.toNat_lt
  have hr2 : r < 16 := Nat.lt_of_lt_of_le hr (Nat.pow_le_pow_right (by omega) hk)
  have e8 : IntKind.u64.wrap ((k : Int) + 8) = ((k + 8 : Nat) : Int) := by rw [wu64 (by omega)]; omega
  have e2 : IntKind.u64.wrap (((k + 8 : Nat) : Int) - 6) = ((k + 2 : Nat) : Int) := by rw [wu64 (by omega)]; omega
  have hv : r * 256 + b.toNat < 2 ^ (k + 2) * 64 := by
    have : 2 ^ (k + 2) * 64 = 2 ^ k * 256 := by rw [Nat.pow_add]; omega
    have : (r + 1) * 256 ≤ 2 ^ k * 256 := Nat.mul_le_mul_right _ hr
    omega
  have hd : (r * 256 + b.toNat) / 2 ^ (k + 2) < 64 := Nat.div_lt_of_lt_mul hv
  rw [En_L2, bif_pos (by simp; omega), need_dec (by omega), need_dec (by omega), hb', put_nat (by omega) hb2, e8, e2,
    bif_neg (by simp only [decide_eq_false_iff_not]; omega), need_dec (by omega), need_dec (by omega), maskC _ (by omega), powC _ (by omega), fdiv_nat]
  generalize (r * 256 + b.toNat) / 2 ^ (k + 2) = q at hd ⊢
  rw [w8 (by omega), mask_nat (by omega) (k + 2) (by omega) rfl]

/-- A letter is taken, and there are six bits more. -/
theorem l4_more (n : Nat) (nx : Nat → List Dy → Option (List Dy)) (m : Nat) (o : List UInt8) (r c : Nat) (hr : r < 64) (n5 n6 : Int) (s : List UInt8) (n8 n9 : Int) (l : List (List UInt8)) (ho : o.length < 140737488355000) :
    RL SEn [.str] n 10 4 nx (m + 1) [⟨.list 5 .byte, o⟩, ⟨.int .u32, (r : Int)⟩, ⟨.int .u64, ((6 : Nat) : Int)⟩, ⟨.bool, true⟩, ⟨.int .u8, (c : Int)⟩, ⟨.int .i64, n5⟩, ⟨.int .i64, n6⟩, ⟨.str, s⟩, ⟨.int .i64, n8⟩, ⟨.int .i64, n9⟩, ⟨.list 9 .str, l⟩] =
    RL SEn [.str] n 10 4 nx m [⟨.list 5 .byte, o ++ [Lb c]⟩, ⟨.int .u32, ((0 : Nat) : Int)⟩, ⟨.int .u64, ((0 : Nat) : Int)⟩, ⟨.bool, true⟩, ⟨.int .u8, (r : Int)⟩, ⟨.int .i64, n5⟩, ⟨.int .i64, n6⟩, ⟨.str, s⟩, ⟨.int .i64, n8⟩, ⟨.int .i64, n9⟩, ⟨.list 9 .str, l⟩] := by
  have h1 := let6_lt c
  have e2 : IntKind.u64.wrap (((6 : Nat) : Int) - 6) = ((0 : Nat) : Int) := rfl
  rw [En_L4, bif_pos rfl, need_dec h1.1, need_dec h1.2, need_dec (by simp; omega), need_dec (by simp; omega), e2, bif_neg (by decide), need_dec (by omega), need_dec (by omega), maskC _ (by omega), powC _ (by omega), fdiv_nat, Nat.pow_zero, Nat.div_one, w8 (by omega), mask_nat (by omega) 0 (by omega) rfl]
  simp only [Nat.pow_zero, Nat.mod_one, Lb_def]

theorem l2_step (n : Nat) (hn : 4 ≤ n) (nx : Nat → List Dy → Option (List Dy)) (m : Nat) (st : StE) (hst : OkE st) (i : Nat) (s : List UInt8) (n6 n7 : Int) (l : List (List UInt8)) (hi : i < s.length) (hs : s.length < 4611686018427387904) (ho : st.1.length < 140737488354000) :
    RL SEn [.str] n 10 2 nx (m + 1) [⟨.list 5 .byte, st.1⟩, ⟨.int .u32, (st.2.1 : Int)⟩, ⟨.int .u64, (st.2.2 : Int)⟩, ⟨.int .i64, (i : Int)⟩, ⟨.int .i64, (s.length : Int)⟩, ⟨.str, s⟩, ⟨.int .i64, n6⟩, ⟨.int .i64, n7⟩, ⟨.list 9 .str, l⟩] =
    RL SEn [.str] n 10 2 nx m [⟨.list 5 .byte, (stepE st (s.getD i 0)).1⟩, ⟨.int .u32, ((stepE st (s.getD i 0)).2.1 : Int)⟩, ⟨.int .u64, ((stepE st (s.getD i 0)).2.2 : Int)⟩, ⟨.int .i64, ((i + 1 : Nat) : Int)⟩, ⟨.int .i64, (s.length : Int)⟩, ⟨.str, s⟩, ⟨.int .i64, n6⟩, ⟨.int .i64, n7⟩, ⟨.list 9 .str, l⟩] := by
  obtain ⟨o, r, k⟩ := st
  obtain ⟨n, rfl⟩ : ∃ j, n = j + 4 := ⟨n - 4, by omega⟩
  simp only at ho ⊢
  generalize hb : s.getD i 0 = b
  have w1 : IntKind.i64.wrap ((i : Int) + 1) = ((i + 1 : Nat) : Int) := by rw [w64 (by omega)]; omega
  have hb2 : b.toNat < 256 := b.toNat_lt
  rcases hst with ⟨h1, h2⟩ | ⟨h1, h2⟩ | ⟨h1, h2⟩ <;> simp only at h1 h2 <;> subst h2
  · subst h1
    rw [l2_one (n + 4) nx m o 0 0 (by omega) (by omega) i s b hb n6 n7 l hi, l4_take (n + 4) _ (n + 2) o _ _ _ _ _ _ _ _ _ (by omega) (by omega), w1]
    simp only [stepE, Nat.zero_mul, Nat.zero_add]
  · rw [l2_one (n + 4) nx m o r 2 (by omega) (by omega) i s b hb n6 n7 l hi, l4_take (n + 4) _ (n + 2) o _ _ _ _ _ _ _ _ _ (by omega) (by omega), w1]
    have e1 : (r * 256 + b.toNat) / 2 ^ (2 + 2) = r * 16 + b.toNat / 16 := by omega
    have e2 : (r * 256 + b.toNat) % 2 ^ (2 + 2) = b.toNat % 16 := by omega
    rw [e1, e2]
    rfl
  · rw [l2_one (n + 4) nx m o r 4 (by omega) (by omega) i s b hb n6 n7 l hi]
    have e1 : (r * 256 + b.toNat) / 2 ^ (4 + 2) = r * 4 + b.toNat / 64 := by omega
    have e2 : (r * 256 + b.toNat) % 2 ^ (4 + 2) = b.toNat % 64 := by omega
    rw [e1, e2, l4_more (n + 4) _ (n + 3) o _ _ (by omega) _ _ _ _ _ _ (by omega), l4_take (n + 4) _ (n + 1) _ _ _ _ _ _ _ _ _ _ (by simp; omega) (by omega), w1]
    rfl

theorem l2_ok (n : Nat) (hn : 4 ≤ n) (nx : Nat → List Dy → Option (List Dy)) (s : List UInt8) (n6 : Nat) (n7 : Int) (l : List (List UInt8)) (hs : s.length < 4611686018427387904) (h6 : n6 < 4611686018427387904) : ∀ (m : Nat) (st : StE) (i : Nat), OkE st → i ≤ s.length → s.length - i < m → st.1.length + 2 * (s.length - i) < 140737488354000 →
    RL SEn [.str] n 10 2 nx m [⟨.list 5 .byte, st.1⟩, ⟨.int .u32, (st.2.1 : Int)⟩, ⟨.int .u64, (st.2.2 : Int)⟩, ⟨.int .i64, (i : Int)⟩, ⟨.int .i64, (s.length : Int)⟩, ⟨.str, s⟩, ⟨.int .i64, (n6 : Int)⟩, ⟨.int .i64, n7⟩, ⟨.list 9 .str, l⟩] =
    nx 0 [⟨.list 5 .byte, (foldE st (s.drop i)).1⟩, ⟨.int .u32, ((foldE st (s.drop i)).2.1 : Int)⟩, ⟨.int .u64, ((foldE st (s.drop i)).2.2 : Int)⟩, ⟨.int .i64, ((n6 + 1 : Nat) : Int)⟩, ⟨.int .i64, n7⟩, ⟨.list 9 .str, l⟩]
  | 0, st, i, _, _, h, _ => by omega
  | m + 1, st, i, hst, hi, hm, ho => by
    by_cases hlt : i < s.length
    · rw [l2_step n hn nx m st hst i s n6 n7 l hlt hs (by omega)]
      have := stepE_len (s := st) (s.getD i 0)
      rw [l2_ok n hn nx s n6 n7 l hs h6 m _ (i + 1) (stepE_ok hst _) hlt (by omega) (by omega)]
      have e : s.drop i = s.getD i 0 :: s.drop (i + 1) := by
        rw [List.drop_eq_getElem_cons hlt, List.getD_eq_getElem?_getD, List.getElem?_eq_getElem hlt]; rfl
      rw [e]
      rfl
    · have e : i = s.length := by omega
      subst e
      have w1 : IntKind.i64.wrap ((n6 : Int) + 1) = ((n6 + 1 : Nat) : Int) := by rw [w64 (by omega)]; omega
      rw [En_L2, bif_neg (by simp), w1, List.drop_length]
      rfl

theorem fin2 : ∀ r < 4, IntKind.u8.wrap (((BitVec.ofInt (8 : Nat) (IntKind.u8.wrap (IntKind.u32.wrap (((r : Nat) : Int) * (2 : Int) ^ Min.min (Int.toNat (IntKind.u64.wrap ((6 : Int) - ((2 : Nat) : Int)))) (32 : Nat)))) &&& BitVec.ofInt (8 : Nat) (63 : Int)).toNat : Nat) : Int) = ((r * 2 ^ 4 : Nat) : Int) := by decide
theorem fin4 : ∀ r < 16, IntKind.u8.wrap (((BitVec.ofInt (8 : Nat) (IntKind.u8.wrap (IntKind.u32.wrap (((r : Nat) : Int) * (2 : Int) ^ Min.min (Int.toNat (IntKind.u64.wrap ((6 : Int) - ((4 : Nat) : Int)))) (32 : Nat)))) &&& BitVec.ofInt (8 : Nat) (63 : Int)).toNat : Nat) : Int) = ((r * 2 ^ 2 : Nat) : Int) := by decide

theorem l0_ok (n : Nat) (hn : 5 ≤ n) (nx : Nat → List Dy → Option (List Dy)) (l : List (List UInt8)) (hl : l.length < 4611686018427387904) (hs : ∀ s ∈ l, s.length < n ∧ s.length < 4611686018427387904) : ∀ (m : Nat) (st : StE) (i : Nat), OkE st → i ≤ l.length → l.length - i < m → st.1.length + 2 * (l.drop i).flatten.length < 140737488354000 →
    RL SEn [.str] n 10 0 nx m [⟨.list 5 .byte, st.1⟩, ⟨.int .u32, (st.2.1 : Int)⟩, ⟨.int .u64, (st.2.2 : Int)⟩, ⟨.int .i64, (i : Int)⟩, ⟨.int .i64, (l.length : Int)⟩, ⟨.list 9 .str, l⟩] =
    some [⟨.str, finE (foldE st (l.drop i).flatten)⟩]
  | 0, st, i, _, _, h, _ => by omega
  | m + 1, st, i, hst, hi, hm, ho => by
    by_cases hlt : i < l.length
    · have eg : l.getD (Int.toNat (i : Int)) [] = l[i] := by
        rw [List.getD_eq_getElem?_getD, Int.toNat_natCast, List.getElem?_eq_getElem hlt]; rfl
      have ed : l.drop i = l[i] :: l.drop (i + 1) := List.drop_eq_getElem_cons hlt
      obtain ⟨h1, h2⟩ := hs l[i] (List.getElem_mem hlt)
      rw [ed, List.flatten_cons, List.length_append] at ho
      have hfl := foldE_len st l[i]
      rw [En_L0, bif_pos (by simp; omega), need_dec (by omega), need_dec (by omega), need_dec (by rw [Int.toNat_natCast]; exact hlt), eg]
      rw [show ((0 : Int)) = ((0 : Nat) : Int) from rfl]
      rw [l2_ok n (by omega) _ l[i] i _ l h2 (by omega) n st 0 hst (by omega) (by omega) (by omega)]
      rw [List.drop_zero]
      refine (l0_ok n hn nx l hl hs m (foldE st l[i]) (i + 1) (foldE_ok hst _) hlt (by omega) (by omega)).trans ?_
      rw [ed, List.flatten_cons]
      simp only [foldE, List.foldl_append]
    · have e : i = l.length := by omega
      subst e
      rw [List.drop_length, List.flatten_nil] at *
      obtain ⟨o, r, k⟩ := st
      simp only at ho ⊢
      have ho : o.length < 140737488354000 := by simpa using ho
      rw [En_L0, bif_neg (by simp)]
      rcases hst with ⟨h1, h2⟩ | ⟨h1, h2⟩ | ⟨h1, h2⟩ <;> simp only at h1 h2 <;> subst h2
      · subst h1
        rw [bif_neg (by decide), l6_ok n nx n o (by omega) (by omega)]
        rfl
      · have hl6 := let6_lt ((r * 2 ^ 4 : Nat) : Int)
        rw [bif_pos (by decide), need_pos (by decide), fin2 r h1, need_dec hl6.1, need_dec hl6.2, need_dec (by simp; omega), need_dec (by simp; omega), Lb_def]
        exact (l6_ok n nx n (o ++ [Lb (r * 2 ^ 4)]) (by omega) (by simp; omega)).trans rfl
      · have hl6 := let6_lt ((r * 2 ^ 2 : Nat) : Int)
        rw [bif_pos (by decide), need_pos (by decide), fin4 r h1, need_dec hl6.1, need_dec hl6.2, need_dec (by simp; omega), need_dec (by simp; omega), Lb_def]
        exact (l6_ok n nx n (o ++ [Lb (r * 2 ^ 2)]) (by omega) (by simp; omega)).trans rfl

/-- What Encode makes. -/
theorem en_ok (l : List (List UInt8)) (hl : l.length < 4611686018427387904) (hf : l.flatten.length < 70368744177000) :
    ∃ n, fnY SEn loopY [.hole (.list 9 .str)] [.str] n 10 [⟨.list 9 .str, l⟩] = some [⟨.str, enc l.flatten⟩] := by
  have hs : ∀ s ∈ l, s.length ≤ l.flatten.length := fun s hs => by
    obtain ⟨a, b, rfl⟩ := List.append_of_mem hs
    simp only [List.flatten_append, List.flatten_cons, List.length_append]
    omega
  refine ⟨l.length + l.flatten.length + 5, ?_⟩
  rw [En_fn]
  refine (l0_ok _ (by omega) noNx l hl (fun s h => ⟨by have := hs s h; omega, by have := hs s h; omega⟩) _ ([], 0, 0) 0 (.inl ⟨rfl, rfl⟩) (by omega) (by omega) (by simp only [List.drop_zero, List.length_nil]; omega)).trans ?_
  rw [List.drop_zero, finE_enc _ _ rfl]
  rfl

end Go.Proofs.YtfjbcoahjinehaaDoor

/-
  Chapter 17: what the document's Encode makes.
-/
namespace Go.Proofs.YtfjbcoahjinehaaDoor
open Go Go.Am

/-- The bits of a byte below this one, from the left. -/
def bitsF (b : Nat) : Nat → List Int
  | 0 => []
  | k + 1 => ((b / 2 ^ k % 2 : Nat) : Int) :: bitsF b k
theorem bitsF_len (b : Nat) : ∀ k, (bitsF b k).length = k
  | 0 => rfl
  | k + 1 => by simp [bitsF, bitsF_len b k]
/-- The bits of bytes. -/
def bitsL : List UInt8 → List Int
  | [] => []
  | b :: r => bitsF b.toNat 8 ++ bitsL r
theorem bitsL_len : ∀ l, (bitsL l).length = 8 * l.length
  | [] => rfl
  | b :: r => by simp only [bitsL, List.length_append, bitsF_len, bitsL_len r, List.length_cons]; omega

/-- The number of six bits. -/
def valF (l : List Int) (n : Int) : Nat → Int
  | 0 => n
  | k + 1 => valF l.tail (2 * n + l.headD 0) k
def grL (l : List Int) : List UInt8 :=
  match l with
  | [] => []
  | a :: r => Lb (valF (a :: r) 0 6).toNat :: grL ((a :: r).drop 6)
termination_by l.length
decreasing_by simp; omega

theorem bit_nat (b k : Nat) (hb : b < 256) (hk : k < 8) : IntKind.i64.wrap (((BitVec.ofInt (64 : Nat) (Int.fdiv (IntKind.i64.wrap (b : Int)) ((2 : Int) ^ Min.min (Int.toNat ((k : Nat) : Int)) (64 : Nat))) &&& BitVec.ofInt (64 : Nat) (1 : Int)).toNat : Nat) : Int) = ((b / 2 ^ k % 2 : Nat) : Int) := by
  have e : Min.min (Int.toNat ((k : Nat) : Int)) (64 : Nat) = k := by simp; omega
  have e2 : ((2 : Int) ^ k) = ((2 ^ k : Nat) : Int) := by simp
  rw [w64 (n := (b : Int)) (by omega), e, e2, fdiv_nat]
  have hd : b / 2 ^ k < 2 ^ 64 := Nat.lt_of_le_of_lt (Nat.div_le_self _ _) (by omega)
  rw [bv_mask (k := 1) (c := 1) hd (by omega) rfl]
  generalize b / 2 ^ k = q
  exact w64 (by omega)

theorem r2_ok (n : Nat) (nx : Nat → List Dy → Option (List Dy)) (s : List UInt8) (i : Nat) (hi : i < s.length) (hs : s.length < 4611686018427387904) : ∀ (k m : Nat) (l : List Int), k ≤ 8 → k < m → l.length + k < 17592186044000 →
    RL SRe [.str] n 9 2 nx m [⟨.list 3 (.int .i64), l⟩, ⟨.int .i64, (k : Int) - 1⟩, ⟨.int .i64, (i : Int)⟩, ⟨.str, s⟩] =
    nx 0 [⟨.list 3 (.int .i64), l ++ bitsF (s.getD i 0).toNat k⟩, ⟨.int .i64, ((i + 1 : Nat) : Int)⟩, ⟨.str, s⟩]
  | 0, m, l, _, hm, _ => by
    obtain ⟨m, rfl⟩ : ∃ j, m = j + 1 := ⟨m - 1, by omega⟩
    rw [Re_L2, bif_neg (by decide), w64 (n := (i : Int) + 1) (by omega)]
    simp [bitsF]
  | k + 1, m, l, hk, hm, hl => by
    obtain ⟨m, rfl⟩ : ∃ j, m = j + 1 := ⟨m - 1, by omega⟩
    have hb : (s.getD i 0).toNat < 256 := UInt8.toNat_lt _
    have e : (((k + 1 : Nat) : Int) - 1) = (k : Int) := by omega
    have eg : s.getD (Int.toNat (i : Int)) (UInt8.ofNat 0) = s.getD i 0 := rfl
    rw [Re_L2, e, bif_pos (by simp), need_dec (by omega), need_dec (by omega), need_dec (by omega), eg, bit_nat _ k hb (by omega), need_dec (by simp; omega), need_dec (by simp; omega), w64 (n := (k : Int) - 1) (by omega)]
    refine (r2_ok n nx s i hi hs k m _ (by omega) (by omega) (by simp; omega)).trans ?_
    simp [bitsF]

theorem r6_ok (n : Nat) (nx : Nat → List Dy → Option (List Dy)) (l : List Int) (o : List UInt8) (i : Nat) (hl : l.length < 17592186044000) (hi : i < l.length) (h01 : ∀ x ∈ l, x = 0 ∨ x = 1) : ∀ (j m : Nat) (v : Nat), j ≤ 6 → j < m → v < 2 ^ (6 - j) → 
    RL SRe [.str] n 9 6 nx m [⟨.list 3 (.int .i64), l⟩, ⟨.int .i64, ((i + (6 - j) : Nat) : Int)⟩, ⟨.int .i64, (v : Int)⟩, ⟨.int .i64, (i : Int)⟩, ⟨.str, o⟩] =
    RL SRe [.str] n 9 6 nx (m - j) [⟨.list 3 (.int .i64), l⟩, ⟨.int .i64, ((i + 6 : Nat) : Int)⟩, ⟨.int .i64, valF (l.drop (i + (6 - j))) v j⟩, ⟨.int .i64, (i : Int)⟩, ⟨.str, o⟩]
  | 0, m, v, _, _, _ => rfl
  | j + 1, m, v, hj, hm, hv => by
    obtain ⟨m, rfl⟩ : ∃ q, m = q + 1 := ⟨m - 1, by omega⟩
    have hv2 : v < 64 := Nat.lt_of_lt_of_le hv (Nat.pow_le_pow_right (by omega) (by omega : 6 - (j + 1) ≤ 6))
    have ej : i + (6 - (j + 1)) + 1 = i + (6 - j) := by omega
    have w1 : IntKind.i64.wrap ((i : Int) + 6) = ((i + 6 : Nat) : Int) := by rw [w64 (by omega)]; omega
    have w2 : IntKind.i64.wrap (((i + (6 - (j + 1)) : Nat) : Int) + 1) = ((i + (6 - j) : Nat) : Int) := by rw [w64 (by omega)]; omega
    have w3 : IntKind.i64.wrap (2 * (v : Int)) = ((2 * v : Nat) : Int) := by rw [w64 (by omega)]; omega
    have hp : 2 ^ (6 - j) = 2 * 2 ^ (6 - (j + 1)) := by
      have : 6 - j = (6 - (j + 1)) + 1 := by omega
      rw [this, Nat.pow_succ, Nat.mul_comm]
    rw [Re_L6, w1, bif_pos (by simp; omega)]
    by_cases hlt : i + (6 - (j + 1)) < l.length
    · have hmem : l.getD (i + (6 - (j + 1))) 0 ∈ l := by
        rw [List.getD_eq_getElem?_getD, List.getElem?_eq_getElem hlt]; exact List.getElem_mem hlt
      have ed : l.drop (i + (6 - (j + 1))) = l.getD (i + (6 - (j + 1))) 0 :: l.drop (i + (6 - j)) := by
        rw [List.drop_eq_getElem_cons hlt, ej, List.getD_eq_getElem?_getD, List.getElem?_eq_getElem hlt]; rfl
      obtain ⟨x, hx, hx2⟩ : ∃ x : Nat, l.getD (i + (6 - (j + 1))) 0 = (x : Int) ∧ x ≤ 1 := by
        rcases h01 _ hmem with h | h
        · exact ⟨0, h, by omega⟩
        · exact ⟨1, h, by omega⟩
      rw [bif_pos (by simp; omega), need_dec (by omega), need_dec (by omega), need_dec (by rw [Int.toNat_natCast]; exact hlt), w2, w3, Int.toNat_natCast, hx, w64 (n := ((2 * v : Nat) : Int) + (x : Int)) (by omega)]
      have := r6_ok n nx l o i hl hi h01 j m (2 * v + x) (by omega) (by omega) (by omega)
      rw [show (((2 * v : Nat) : Int) + (x : Int)) = ((2 * v + x : Nat) : Int) by omega]
      rw [this, ed, hx]
      have e2 : m + 1 - (j + 1) = m - j := by omega
      rw [e2]
      simp only [valF, List.tail_cons, List.headD_cons]
      congr 1
    · have ed : l.drop (i + (6 - (j + 1))) = [] := List.drop_eq_nil_of_le (by omega)
      have ed2 : l.drop (i + (6 - j)) = [] := List.drop_eq_nil_of_le (by omega)
      rw [bif_neg (by simp; omega), w2, w3]
      have := r6_ok n nx l o i hl hi h01 j m (2 * v) (by omega) (by omega) (by omega)
      rw [this, ed, ed2]
      have e2 : m + 1 - (j + 1) = m - j := by omega
      rw [e2]
      simp only [valF, List.tail_nil, List.headD_nil]
      congr 1

theorem letter_at : ∀ v < 64, List.take (Int.toNat (IntKind.i64.wrap (((v : Nat) : Int) + 1)) - Int.toNat ((v : Nat) : Int)) (List.drop (Int.toNat ((v : Nat) : Int)) lets) = [Lb v] := by decide

theorem valF_bound : ∀ (k : Nat) (l : List Int) (v : Nat), (∀ x ∈ l, x = 0 ∨ x = 1) → ∃ w : Nat, valF l v k = (w : Int) ∧ w < (v + 1) * 2 ^ k
  | 0, l, v, _ => ⟨v, rfl, by omega⟩
  | k + 1, l, v, h => by
    obtain ⟨x, hx, hx2⟩ : ∃ x : Nat, l.headD 0 = (x : Int) ∧ x ≤ 1 := by
      cases l with
      | nil => exact ⟨0, rfl, by omega⟩
      | cons a r =>
        rcases h a (by simp) with e | e
        · exact ⟨0, e, by omega⟩
        · exact ⟨1, e, by omega⟩
    obtain ⟨w, h1, h2⟩ := valF_bound k l.tail (2 * v + x) (fun y hy => h y (List.mem_of_mem_tail hy))
    refine ⟨w, ?_, ?_⟩
    · simp only [valF, hx]
      rw [← h1]
      congr 1
    · have : (2 * v + x + 1) * 2 ^ k ≤ (v + 1) * 2 ^ (k + 1) := by
        rw [Nat.pow_succ, Nat.mul_comm (2 ^ k) 2, ← Nat.mul_assoc]
        exact Nat.mul_le_mul_right _ (by omega)
      omega

theorem grL_cons (l : List Int) (h : l ≠ []) : grL l = Lb (valF l 0 6).toNat :: grL (l.drop 6) := by
  cases l with
  | nil => exact absurd rfl h
  | cons a r => rw [grL]
theorem grL_nil : grL [] = [] := by rw [grL]

theorem r8_ok (n : Nat) (nx : Nat → List Dy → Option (List Dy)) : ∀ (m : Nat) (o : List UInt8), 1 + (4 - o.length % 4) % 4 ≤ m → o.length ≤ 140737488355300 → RL SRe [.str] n 9 8 nx m [⟨.str, o⟩] = some [⟨.str, padE o⟩]
  | 0, o, h, _ => by omega
  | m + 1, o, h, hb => by
    rw [Re_L8]
    have e : Int.tmod (o.length : Int) 4 = ((o.length % 4 : Nat) : Int) := rfl
    rw [e]
    by_cases h0 : o.length % 4 = 0
    · rw [h0]; simp [padE, h0]
    · rw [bif_pos (by simp only [decide_eq_true_eq]; omega), need_dec (by omega)]
      exact (r8_ok n nx m (o ++ [61]) (by simp; omega) (by simp; omega)).trans (by rw [padE_step h0])

theorem r4_ok (n : Nat) (hn : 8 ≤ n) (nx : Nat → List Dy → Option (List Dy)) (l : List Int) (hl : l.length < 17592186044000) (h01 : ∀ x ∈ l, x = 0 ∨ x = 1) : ∀ (m i : Nat) (o : List UInt8), l.length + 6 ≤ i + 6 * m → o.length + (l.length - i) < 140737488355000 → i < l.length + 6 →
    RL SRe [.str] n 9 4 nx m [⟨.list 3 (.int .i64), l⟩, ⟨.int .i64, (i : Int)⟩, ⟨.str, o⟩] = RL SRe [.str] n 9 8 nx n [⟨.str, o ++ grL (l.drop i)⟩]
  | 0, i, o, h, ho, hi => by omega
  | m + 1, i, o, h, ho, hi => by
    rw [Re_L4]
    by_cases hlt : i < l.length
    · rw [bif_pos (by simp; omega)]
      obtain ⟨k, rfl⟩ : ∃ k, n = k + 7 := ⟨n - 7, by omega⟩
      have h6 := r6_ok (k + 7) (updNx nx 4 (RL SRe [.str] (k + 7) 9 4 nx m)) l o i hl hlt h01 6 (k + 7) 0 (by omega) (by omega) (by omega)
      simp only [Nat.sub_self, Nat.add_zero] at h6
      have ek : k + 7 - 6 = k + 1 := by omega
      rw [ek] at h6
      rw [show ((0 : Int)) = ((0 : Nat) : Int) from rfl, h6]
      obtain ⟨w, hw, hw2⟩ := valF_bound 6 (l.drop i) 0 (fun x hx => h01 x (List.mem_of_mem_drop hx))
      have hw3 : w < 64 := by omega
      have w1 : IntKind.i64.wrap ((i : Int) + 6) = ((i + 6 : Nat) : Int) := by rw [w64 (by omega)]; omega
      have w2 : IntKind.i64.wrap ((w : Int) + 1) = ((w + 1 : Nat) : Int) := by rw [w64 (by omega)]; omega
      have hlen : (List.take (Int.toNat (IntKind.i64.wrap ((w : Int) + 1)) - Int.toNat (w : Int)) (List.drop (Int.toNat (w : Int)) lets)).length = 1 := by rw [letter_at w hw3]; rfl
      rw [Re_L6, hw, w1, bif_neg (by simp), need_dec (by omega), need_dec (by rw [w2]; omega), need_dec (by rw [w2]; omega), need_dec (by rw [hlen]; omega), letter_at w hw3]
      refine (r4_ok (k + 7) hn nx l hl h01 m (i + 6) (o ++ [Lb w]) (by omega) (by simp; omega) (by omega)).trans ?_
      have hne : l.drop i ≠ [] := by
        intro e
        have := congrArg List.length e
        simp at this
        omega
      rw [grL_cons _ hne, show valF (l.drop i) 0 6 = (w : Int) from hw, Int.toNat_natCast, List.drop_drop, List.append_assoc]
      rfl
    · rw [bif_neg (by simp; omega), List.drop_eq_nil_of_le (by omega), grL_nil, List.append_nil]

theorem bits01 : ∀ (k b : Nat), ∀ x ∈ bitsF b k, x = 0 ∨ x = 1
  | 0, b, x, hx => by cases hx
  | k + 1, b, x, hx => by
    simp only [bitsF] at hx
    rcases List.mem_cons.1 hx with rfl | hx
    · have := Nat.mod_lt (b / 2 ^ k) (show 2 > 0 by omega)
      omega
    · exact bits01 k b x hx
theorem bitsL01 : ∀ (l : List UInt8), ∀ x ∈ bitsL l, x = 0 ∨ x = 1
  | [], x, hx => by cases hx
  | b :: r, x, hx => by
    simp only [bitsL] at hx
    rcases List.mem_append.1 hx with hx | hx
    · exact bits01 8 _ x hx
    · exact bitsL01 r x hx

theorem bitsL_snoc (l : List UInt8) (b : UInt8) : bitsL (l ++ [b]) = bitsL l ++ bitsF b.toNat 8 := by
  induction l with
  | nil => simp [bitsL]
  | cons a r ih => simp only [List.cons_append, bitsL, ih, List.append_assoc]

theorem r0_ok (n : Nat) (hn : 10 ≤ n) (nx : Nat → List Dy → Option (List Dy)) (s : List UInt8) (hs : s.length < 1000000000000) (hn2 : 2 * s.length < n) : ∀ (m i : Nat), i ≤ s.length → s.length - i < m →
    RL SRe [.str] n 9 0 nx m [⟨.list 3 (.int .i64), bitsL (s.take i)⟩, ⟨.int .i64, (i : Int)⟩, ⟨.str, s⟩] = some [⟨.str, padE (grL (bitsL s))⟩]
  | 0, i, _, h => by omega
  | m + 1, i, hi, h => by
    rw [Re_L0]
    by_cases hlt : i < s.length
    · rw [bif_pos (by simp; omega)]
      have hb := bitsL_len (s.take i)
      rw [List.length_take] at hb
      rw [show ((7 : Int)) = ((8 : Nat) : Int) - 1 from rfl, r2_ok n _ s i hlt (by omega) 8 n _ (by omega) (by omega) (by omega)]
      have et : s.take (i + 1) = s.take i ++ [s.getD i 0] := by
        rw [List.take_succ_eq_append_getElem hlt, List.getD_eq_getElem?_getD, List.getElem?_eq_getElem hlt]; rfl
      refine Eq.trans ?_ (r0_ok n hn nx s hs hn2 m (i + 1) hlt (by omega))
      rw [et, bitsL_snoc]
    · have e : i = s.length := by omega
      subst e
      have hb := bitsL_len s
      rw [List.take_length, bif_neg (by simp), show ((0 : Int)) = ((0 : Nat) : Int) from rfl, r4_ok n (by omega) nx _ (by omega) (bitsL01 s) n 0 [] (by omega) (by simp; omega) (by omega), List.drop_zero, List.nil_append]
      have hg : (grL (bitsL s)).length ≤ (bitsL s).length := grL_len _
      exact r8_ok n nx n _ (by omega) (by omega)
where
  grL_len : ∀ l : List Int, (grL l).length ≤ l.length
    | [] => by rw [grL_nil]; simp
    | a :: r => by
      rw [grL_cons _ (by simp)]
      have := grL_len ((a :: r).drop 6)
      simp only [List.length_cons, List.length_drop] at *
      omega
  termination_by l => l.length
  decreasing_by simp; omega

theorem v6 (a b c d e f : Nat) (r : List Int) : (valF ((a : Int) :: (b : Int) :: (c : Int) :: (d : Int) :: (e : Int) :: (f : Int) :: r) 0 6).toNat = 32 * a + 16 * b + 8 * c + 4 * d + 2 * e + f := by
  simp only [valF, List.tail_cons, List.headD_cons]
  omega
theorem v2 (a b : Nat) : (valF [(a : Int), (b : Int)] 0 6).toNat = 32 * a + 16 * b := by
  simp only [valF, List.tail_cons, List.headD_cons, List.tail_nil, List.headD_nil]
  omega
theorem v4 (a b c d : Nat) : (valF [(a : Int), (b : Int), (c : Int), (d : Int)] 0 6).toNat = 32 * a + 16 * b + 8 * c + 4 * d := by
  simp only [valF, List.tail_cons, List.headD_cons, List.tail_nil, List.headD_nil]
  omega

theorem gr_key : ∀ (l : List UInt8), ∃ p, enc l = grL (bitsL l) ++ List.replicate p 61 ∧ p < 4 ∧ ((grL (bitsL l)).length + p) % 4 = 0
  | [] => ⟨0, by simp [enc, bitsL, grL_nil], by omega, by simp [bitsL, grL_nil]⟩
  | [a] => by
    have ha : a.toNat < 256 := a.toNat_lt
    have e : grL (bitsL [a]) = [Lb (a.toNat / 4), Lb (a.toNat % 4 * 16)] := by
      simp only [bitsL, bitsF, List.append_nil]
      rw [grL_cons _ (by simp), v6]
      simp only [List.drop_succ_cons, List.drop_zero]
      rw [grL_cons _ (by simp), v2]
      simp only [List.drop_succ_cons, List.drop_nil, grL_nil]
      congr 1
      · congr 1; omega
      · congr 1; congr 1; omega
    exact ⟨2, by rw [e]; rfl, by omega, by rw [e]; simp⟩
  | [a, b] => by
    have ha : a.toNat < 256 := a.toNat_lt
    have hb : b.toNat < 256 := b.toNat_lt
    have e : grL (bitsL [a, b]) = [Lb (a.toNat / 4), Lb (a.toNat % 4 * 16 + b.toNat / 16), Lb (b.toNat % 16 * 4)] := by
      simp only [bitsL, bitsF, List.append_nil, List.cons_append, List.nil_append]
      rw [grL_cons _ (by simp), v6]
      simp only [List.drop_succ_cons, List.drop_zero]
      rw [grL_cons _ (by simp), v6]
      simp only [List.drop_succ_cons, List.drop_zero]
      rw [grL_cons _ (by simp), v4]
      simp only [List.drop_succ_cons, List.drop_nil, grL_nil]
      congr 1
      · congr 1; omega
      · congr 1
        · congr 1; omega
        · congr 1; congr 1; omega
    exact ⟨1, by rw [e]; rfl, by omega, by rw [e]; simp⟩
  | a :: b :: c :: r => by
    obtain ⟨p, h1, h2, h3⟩ := gr_key r
    have ha : a.toNat < 256 := a.toNat_lt
    have hb : b.toNat < 256 := b.toNat_lt
    have hc : c.toNat < 256 := c.toNat_lt
    have e : grL (bitsL (a :: b :: c :: r)) = Lb (a.toNat / 4) :: Lb (a.toNat % 4 * 16 + b.toNat / 16) :: Lb (b.toNat % 16 * 4 + c.toNat / 64) :: Lb (c.toNat % 64) :: grL (bitsL r) := by
      simp only [bitsL, bitsF, List.cons_append, List.nil_append]
      rw [grL_cons _ (by simp), v6]
      simp only [List.drop_succ_cons, List.drop_zero]
      rw [grL_cons _ (by simp), v6]
      simp only [List.drop_succ_cons, List.drop_zero]
      rw [grL_cons _ (by simp), v6]
      simp only [List.drop_succ_cons, List.drop_zero]
      rw [grL_cons _ (by simp), v6]
      simp only [List.drop_succ_cons, List.drop_zero]
      congr 1
      · congr 1; omega
      · congr 1
        · congr 1; omega
        · congr 1
          · congr 1; omega
          · congr 1; congr 1; omega
    refine ⟨p, ?_, h2, ?_⟩
    · rw [e, enc, h1]; rfl
    · rw [e]; simp only [List.length_cons]; omega
/-- Six bits at a time, of bytes. -/
theorem gr_enc : ∀ l : List UInt8, padE (grL (bitsL l)) = enc l := by
  intro l
  obtain ⟨p, h1, h2, h3⟩ := gr_key l
  rw [h1, padE]
  have : (4 - (grL (bitsL l)).length % 4) % 4 = p := by omega
  rw [this]

/-- The document's Encode makes the same. -/
theorem re_ok (s : List UInt8) (hs : s.length < 1000000000000) : ∃ n, fnY SRe loopY [.hole .str] [.str] n 9 [⟨.str, s⟩] = some [⟨.str, enc s⟩] :=
  ⟨2 * s.length + 12, by
    rw [Re_fn]
    refine (r0_ok _ (by omega) noNx s hs (by omega) _ 0 (by omega) (by omega)).trans ?_
    rw [gr_enc]⟩

end Go.Proofs.YtfjbcoahjinehaaDoor

/-
  Chapter 17: contracts of both Encodes, and of TrimRight of the pad.
-/
namespace Go.Proofs.YtfjbcoahjinehaaDoor
open Go Go.Am

theorem tr_ok (s : List UInt8) (h : s.length ≤ big) : fnY STr loopY [.hole .str, .lit (.str [61])] [.str] 1 21 [⟨.str, s⟩] = some [⟨.str, trimR 61 s⟩] := by
  rw [Tr_fn]
  cases s with
  | nil => rfl
  | cons a r => rw [bif_neg (by rfl), need_dec h]

def cTr : Ctr where
  pat := [.hole .str, .lit (.str [61])]
  res ds := match popD .str ds with
    | some ((s : List UInt8), []) => some ([decide (s.length ≤ big)], [⟨.str, trimR 61 s⟩])
    | _ => none
  out := [.str]
theorem cTr_ok : CtrOk E1 21 cTr :=
  CtrOk.of_fn (S := STr) G1 ctrs1_ok orc1 (fun _ => rfl) rfl rfl fun ds gs ds' hr hg => by
    simp only [cTr] at hr
    split at hr
    · rename_i s hs
      cases hr
      have := popD_eq hs
      subst this
      exact ⟨1, tr_ok s (by simpa using hg)⟩
    · cases hr

def cEn : Ctr := ctr1 (.list 9 .str) [.str] (fun (l : List (List UInt8)) => [decide (l.length ≤ 1000000000), decide (l.flatten.length ≤ 1000000000)]) fun (l : List (List UInt8)) => [⟨.str, enc l.flatten⟩]
theorem cEn_ok : CtrOk E1 10 cEn := ctr1_ok (S := SEn) (t := .list 9 .str) (S_ok ctrs1_ok) (fun _ => rfl) rfl fun (l : List (List UInt8)) h => by
  simp only [List.all_cons, id, Bool.and_eq_true, decide_eq_true_eq, List.all_nil, Bool.and_true] at h
  exact en_ok l (by omega) (by omega)
def cRe : Ctr := ctr1 .str [.str] (fun (s : List UInt8) => [decide (s.length ≤ 1000000000)]) fun (s : List UInt8) => [⟨.str, enc s⟩]
theorem cRe_ok : CtrOk E1 9 cRe := ctr1_ok (S := SRe) (t := .str) (S_ok ctrs1_ok) (fun _ => rfl) rfl fun (s : List UInt8) h => re_ok s (by
  simp only [List.all_cons, id, decide_eq_true_eq, List.all_nil, Bool.and_true] at h
  omega)
def ctrs2 : FuncId → List Ctr := addCtr (addCtr (addCtr ctrs1 21 cTr) 10 cEn) 9 cRe
theorem ctrs2_ok : ∀ g ct, ct ∈ ctrs2 g → CtrOk E1 g ct := addCtr_ok (addCtr_ok (addCtr_ok ctrs1_ok cTr_ok) cEn_ok) cRe_ok
end Go.Proofs.YtfjbcoahjinehaaDoor

/-
  Chapter 17: letters and bytes, in plain Lean.
-/
namespace Go.Proofs.YtfjbcoahjinehaaDoor
open Go Go.Am

/-- The number of a letter. -/
def numU (c : UInt8) : Option Nat := (num6 (c.toNat : Int)).map Int.toNat

theorem numU_Lb : ∀ n < 64, numU (Lb n) = some n := by decide
theorem Lb_ne : ∀ n < 64, ((Lb n).toNat : Int) ≠ 61 := by decide
theorem num6_spec (c : Int) (h : 0 ≤ c ∧ c < 256) (n : Int) (hn : num6 c = some n) : 0 ≤ n ∧ n < 64 ∧ let6 n = c ∧ c ≠ 61 := by
  unfold num6 at hn
  unfold let6
  repeat' split at hn
  all_goals first
    | (cases hn; done)
    | (cases hn
       refine ⟨by omega, by omega, ?_, by omega⟩
       repeat' split
       all_goals omega)
theorem numU_spec {c : UInt8} {n : Nat} (h : numU c = some n) : n < 64 ∧ Lb n = c ∧ (c.toNat : Int) ≠ 61 := by
  unfold numU at h
  rw [Option.map_eq_some_iff] at h
  obtain ⟨x, hx, rfl⟩ := h
  have hc : c.toNat < 256 := c.toNat_lt
  obtain ⟨h1, h2, h3, h4⟩ := num6_spec _ ⟨by omega, by omega⟩ _ hx
  refine ⟨by omega, ?_, h4⟩
  unfold Lb
  rw [show ((Int.toNat x : Nat) : Int) = x by omega, h3, Int.toNat_natCast]
  exact UInt8.ofNat_toNat

/-- The letters' numbers; none: one of them is no letter. -/
def nums : List UInt8 → Option (List Nat)
  | [] => some []
  | c :: r => match numU c, nums r with
    | some n, some l => some (n :: l)
    | _, _ => none
theorem nums_map : ∀ l : List Nat, (∀ n ∈ l, n < 64) → nums (l.map Lb) = some l
  | [], _ => rfl
  | n :: r, h => by
    simp only [List.map_cons, nums, numU_Lb n (h n (by simp)), nums_map r fun m hm => h m (by simp [hm])]
theorem nums_some : ∀ {l : List UInt8} {ns : List Nat}, nums l = some ns → l = ns.map Lb ∧ ∀ n ∈ ns, n < 64
  | [], ns, h => by cases h; exact ⟨rfl, fun n hn => by cases hn⟩
  | c :: r, ns, h => by
    simp only [nums] at h
    split at h
    · rename_i n l h1 h2
      cases h
      obtain ⟨e1, e2, _⟩ := numU_spec h1
      obtain ⟨e3, e4⟩ := nums_some h2
      refine ⟨by rw [List.map_cons, e2, ← e3], fun m hm => ?_⟩
      rcases List.mem_cons.1 hm with rfl | hm
      · exact e1
      · exact e4 m hm
    · cases h

/-- What is there on the way: bytes; bits that are left, how many. -/
def stepD : StE → Nat → StE
  | (o, _, 0), n => (o, n, 6)
  | (o, r, 6), n => (o ++ [UInt8.ofNat (r * 4 + n / 16)], n % 16, 4)
  | (o, r, 4), n => (o ++ [UInt8.ofNat (r * 16 + n / 4)], n % 4, 2)
  | (o, r, _), n => (o ++ [UInt8.ofNat (r * 64 + n)], 0, 0)
def OkD (s : StE) : Prop := (s.2.1 = 0 ∧ s.2.2 = 0) ∨ (s.2.1 < 64 ∧ s.2.2 = 6) ∨ (s.2.1 < 16 ∧ s.2.2 = 4) ∨ (s.2.1 < 4 ∧ s.2.2 = 2)
def foldD (s : StE) (l : List Nat) : StE := l.foldl stepD s
theorem stepD_ok {s : StE} (h : OkD s) {n : Nat} (hn : n < 64) : OkD (stepD s n) := by
  obtain ⟨o, r, k⟩ := s
  rcases h with ⟨h1, h2⟩ | ⟨h1, h2⟩ | ⟨h1, h2⟩ | ⟨h1, h2⟩ <;> simp only at h1 h2 <;> subst h2
  · exact .inr (.inl ⟨hn, rfl⟩)
  · exact .inr (.inr (.inl ⟨Nat.mod_lt _ (by omega), rfl⟩))
  · exact .inr (.inr (.inr ⟨Nat.mod_lt _ (by omega), rfl⟩))
  · exact .inl ⟨rfl, rfl⟩
theorem stepD_len {s : StE} (n : Nat) : (stepD s n).1.length ≤ s.1.length + 1 := by
  obtain ⟨o, r, k⟩ := s
  show (stepD (o, r, k) n).1.length ≤ o.length + 1
  unfold stepD
  split <;> (rename_i h; cases h; simp)

/-- Bytes of letters' numbers, four by four. -/
theorem foldD4 (o : List UInt8) (a b c d : Nat) (r : List Nat) : foldD (o, 0, 0) (a :: b :: c :: d :: r) =
    foldD (o ++ [UInt8.ofNat (a * 4 + b / 16)] ++ [UInt8.ofNat (b % 16 * 16 + c / 4)] ++ [UInt8.ofNat (c % 4 * 64 + d)], 0, 0) r := rfl

theorem foldD_pre (l : List Nat) : ∀ (p o : List UInt8) (r k : Nat), foldD (p ++ o, r, k) l = (p ++ (foldD (o, r, k) l).1, (foldD (o, r, k) l).2) := by
  induction l with
  | nil => intro p o r k; rfl
  | cons n l ih =>
    intro p o r k
    have e : stepD (p ++ o, r, k) n = (p ++ (stepD (o, r, k) n).1, (stepD (o, r, k) n).2) := by
      match k with
      | 0 => rfl
      | 1 | 2 | 3 | 4 | 5 | 6 => simp only [stepD, List.append_assoc]
      | k + 7 => simp only [stepD, List.append_assoc]
    simp only [foldD, List.foldl_cons] at ih ⊢
    rw [e]
    exact ih p _ _ _

theorem ofNat_toNat {n : Nat} (h : n < 256) : (UInt8.ofNat n).toNat = n := by simp [Nat.mod_eq_of_lt h]

/-- Letters, and pads behind them. -/
theorem enc_of : ∀ (ns : List Nat), (∀ n ∈ ns, n < 64) → (foldD ([], 0, 0) ns).2.1 = 0 → (foldD ([], 0, 0) ns).2.2 < 6 → ∃ j, enc (foldD ([], 0, 0) ns).1 = ns.map Lb ++ List.replicate j 61
  | [], _, _, _ => ⟨0, rfl⟩
  | [a], h, _, h2 => by simp [foldD, stepD] at h2
  | [a, b], h, h1, _ => by
    have ha := h a (by simp)
    have hb := h b (by simp)
    have hz : b % 16 = 0 := h1
    refine ⟨2, ?_⟩
    have e : (foldD ([], 0, 0) [a, b]).1 = [UInt8.ofNat (a * 4 + b / 16)] := rfl
    rw [e, enc, ofNat_toNat (by omega)]
    have e1 : (a * 4 + b / 16) / 4 = a := by omega
    have e2 : (a * 4 + b / 16) % 4 * 16 = b := by omega
    rw [e1, e2]
    rfl
  | [a, b, c], h, h1, _ => by
    have ha := h a (by simp)
    have hb := h b (by simp)
    have hc := h c (by simp)
    have hz : c % 4 = 0 := h1
    refine ⟨1, ?_⟩
    have e : (foldD ([], 0, 0) [a, b, c]).1 = [UInt8.ofNat (a * 4 + b / 16), UInt8.ofNat (b % 16 * 16 + c / 4)] := rfl
    rw [e, enc, ofNat_toNat (by omega), ofNat_toNat (by omega)]
    have e1 : (a * 4 + b / 16) / 4 = a := by omega
    have e2 : (a * 4 + b / 16) % 4 * 16 + (b % 16 * 16 + c / 4) / 16 = b := by omega
    have e3 : (b % 16 * 16 + c / 4) % 16 * 4 = c := by omega
    rw [e1, e2, e3]
    rfl
  | a :: b :: c :: d :: r, h, h1, h2 => by
    have ha := h a (by simp)
    have hb := h b (by simp)
    have hc := h c (by simp)
    have hd := h d (by simp)
    have ef : foldD ([], 0, 0) (a :: b :: c :: d :: r) = ([UInt8.ofNat (a * 4 + b / 16), UInt8.ofNat (b % 16 * 16 + c / 4), UInt8.ofNat (c % 4 * 64 + d)] ++ (foldD ([], 0, 0) r).1, (foldD ([], 0, 0) r).2) := by
      rw [foldD4]
      exact foldD_pre r [UInt8.ofNat (a * 4 + b / 16), UInt8.ofNat (b % 16 * 16 + c / 4), UInt8.ofNat (c % 4 * 64 + d)] [] 0 0
    rw [ef] at h1 h2 ⊢
    obtain ⟨j, hj⟩ := enc_of r (fun n hn => h n (by simp [hn])) h1 h2
    refine ⟨j, ?_⟩
    simp only [List.cons_append, List.nil_append, enc, List.map_cons]
    rw [ofNat_toNat (by omega), ofNat_toNat (by omega), ofNat_toNat (by omega), hj]
    have e1 : (a * 4 + b / 16) / 4 = a := by omega
    have e2 : (a * 4 + b / 16) % 4 * 16 + (b % 16 * 16 + c / 4) / 16 = b := by omega
    have e3 : (b % 16 * 16 + c / 4) % 16 * 4 + (c % 4 * 64 + d) / 64 = c := by omega
    have e4 : (c % 4 * 64 + d) % 64 = d := by omega
    rw [e1, e2, e3, e4]

/-- The letters of bytes: their numbers; decoded they are the bytes. -/
theorem enc_nums : ∀ o : List UInt8, ∃ ns j, enc o = ns.map Lb ++ List.replicate j 61 ∧ (∀ n ∈ ns, n < 64) ∧ (foldD ([], 0, 0) ns).1 = o ∧ (foldD ([], 0, 0) ns).2.1 = 0 ∧ (foldD ([], 0, 0) ns).2.2 < 6
  | [] => ⟨[], 0, rfl, fun n hn => (by cases hn), rfl, rfl, by decide⟩
  | [a] => by
    have ha : a.toNat < 256 := a.toNat_lt
    refine ⟨[a.toNat / 4, a.toNat % 4 * 16], 2, rfl, ?_, ?_, ?_, (show (4 : Nat) < 6 by omega)⟩
    · intro n hn; simp only [List.mem_cons, List.not_mem_nil, or_false] at hn; omega
    · show [UInt8.ofNat (a.toNat / 4 * 4 + a.toNat % 4 * 16 / 16)] = [a]
      rw [show a.toNat / 4 * 4 + a.toNat % 4 * 16 / 16 = a.toNat by omega, UInt8.ofNat_toNat]
    · show a.toNat % 4 * 16 % 16 = 0
      omega
  | [a, b] => by
    have ha : a.toNat < 256 := a.toNat_lt
    have hb : b.toNat < 256 := b.toNat_lt
    refine ⟨[a.toNat / 4, a.toNat % 4 * 16 + b.toNat / 16, b.toNat % 16 * 4], 1, rfl, ?_, ?_, ?_, (show (2 : Nat) < 6 by omega)⟩
    · intro n hn; simp only [List.mem_cons, List.not_mem_nil, or_false] at hn; omega
    · show [UInt8.ofNat (a.toNat / 4 * 4 + (a.toNat % 4 * 16 + b.toNat / 16) / 16), UInt8.ofNat ((a.toNat % 4 * 16 + b.toNat / 16) % 16 * 16 + b.toNat % 16 * 4 / 4)] = [a, b]
      rw [show a.toNat / 4 * 4 + (a.toNat % 4 * 16 + b.toNat / 16) / 16 = a.toNat by omega, show (a.toNat % 4 * 16 + b.toNat / 16) % 16 * 16 + b.toNat % 16 * 4 / 4 = b.toNat by omega, UInt8.ofNat_toNat, UInt8.ofNat_toNat]
    · show b.toNat % 16 * 4 % 4 = 0
      omega
  | a :: b :: c :: r => by
    obtain ⟨ns, j, h1, h2, h3, h4, h5⟩ := enc_nums r
    have ha : a.toNat < 256 := a.toNat_lt
    have hb : b.toNat < 256 := b.toNat_lt
    have hc : c.toNat < 256 := c.toNat_lt
    have ef : foldD ([], 0, 0) (a.toNat / 4 :: (a.toNat % 4 * 16 + b.toNat / 16) :: (b.toNat % 16 * 4 + c.toNat / 64) :: c.toNat % 64 :: ns) = ([a, b, c] ++ (foldD ([], 0, 0) ns).1, (foldD ([], 0, 0) ns).2) := by
      rw [foldD4]
      simp only [List.nil_append, List.cons_append]
      rw [show a.toNat / 4 * 4 + (a.toNat % 4 * 16 + b.toNat / 16) / 16 = a.toNat by omega, show (a.toNat % 4 * 16 + b.toNat / 16) % 16 * 16 + (b.toNat % 16 * 4 + c.toNat / 64) / 4 = b.toNat by omega,
        show (b.toNat % 16 * 4 + c.toNat / 64) % 4 * 64 + c.toNat % 64 = c.toNat by omega, UInt8.ofNat_toNat, UInt8.ofNat_toNat, UInt8.ofNat_toNat]
      exact foldD_pre ns [a, b, c] [] 0 0
    refine ⟨a.toNat / 4 :: (a.toNat % 4 * 16 + b.toNat / 16) :: (b.toNat % 16 * 4 + c.toNat / 64) :: c.toNat % 64 :: ns, j, ?_, ?_, ?_, ?_, ?_⟩
    · rw [enc, h1]; rfl
    · intro n hn
      simp only [List.mem_cons] at hn
      rcases hn with rfl | rfl | rfl | rfl | hn
      · omega
      · omega
      · omega
      · omega
      · exact h2 n hn
    · rw [ef, h3]; rfl
    · rw [ef]; exact h4
    · rw [ef]; exact h5

theorem enc_len : ∀ o : List UInt8, ((enc o).length : Int) = size6 o.length
  | [] => rfl
  | [a] => by simp [enc, size6]
  | [a, b] => by simp [enc, size6]
  | a :: b :: c :: r => by
    have := enc_len r
    simp only [enc, List.length_cons, size6] at *
    split at this <;> split <;> omega

/-- Pads at the end are taken away. -/
theorem trimR_pads (ns : List Nat) (h : ∀ n ∈ ns, n < 64) (j : Nat) : trimR 61 (ns.map Lb ++ List.replicate j 61) = ns.map Lb := by
  induction j with
  | zero =>
    rw [List.replicate_zero, List.append_nil]
    rcases List.eq_nil_or_concat ns with rfl | ⟨l, b, rfl⟩
    · rfl
    · rw [List.concat_eq_append, List.map_append, List.map_singleton]
      exact trimR_no (Lb_ne b (h b (by simp)))
  | succ j ih =>
    rw [List.replicate_succ', ← List.append_assoc, trimR_yes (by rfl)]
    exact ih
theorem trimR_split (s : List UInt8) : ∃ k, s = trimR 61 s ++ List.replicate k 61 := by
  suffices h : ∀ r : List UInt8, ∃ k, r = List.replicate k 61 ++ r.dropWhile fun b => (b.toNat : Int) == 61 by
    obtain ⟨k, hk⟩ := h s.reverse
    refine ⟨k, ?_⟩
    have := congrArg List.reverse hk
    rw [List.reverse_reverse, List.reverse_append, List.reverse_replicate] at this
    exact this
  intro r
  induction r with
  | nil => exact ⟨0, rfl⟩
  | cons a r ih =>
    by_cases ha : (a.toNat : Int) = 61
    · obtain ⟨k, hk⟩ := ih
      refine ⟨k + 1, ?_⟩
      have ea : a = 61 := by
        apply UInt8.toNat_inj.1
        show a.toNat = 61
        omega
      simp only [List.dropWhile_cons, ha, beq_self_eq_true, if_true, List.replicate_succ, List.cons_append]
      rw [← hk, ea]
    · exact ⟨0, by simp [ha]⟩

/-- What some text are the letters of. -/
def decO (s : List UInt8) : Option (List UInt8) :=
  match nums (trimR 61 s) with
  | some ns => if 6 ≤ (foldD ([], 0, 0) ns).2.2 ∨ (foldD ([], 0, 0) ns).2.1 ≠ 0 ∨ (s.length : Int) ≠ size6 (foldD ([], 0, 0) ns).1.length then none else some (foldD ([], 0, 0) ns).1
  | none => none

theorem decO_iff (s o : List UInt8) : decO s = some o ↔ enc o = s := by
  constructor
  · intro h
    unfold decO at h
    split at h
    · rename_i ns hns
      split at h
      · cases h
      · rename_i hc
        simp only [not_or, Nat.not_le, ne_eq, Decidable.not_not] at hc
        obtain ⟨c1, c2, c3⟩ := hc
        cases h
        obtain ⟨e1, e2⟩ := nums_some hns
        obtain ⟨j, hj⟩ := enc_of ns e2 c2 c1
        obtain ⟨k, hk⟩ := trimR_split s
        rw [e1] at hk
        have hl := enc_len (foldD ([], 0, 0) ns).1
        rw [← c3, hj] at hl
        have hk2 := congrArg List.length hk
        simp only [List.length_append, List.length_map, List.length_replicate] at hl hk2
        have : j = k := by omega
        subst this
        rw [hj, ← hk]
    · cases h
  · intro h
    subst h
    obtain ⟨ns, j, h1, h2, h3, h4, h5⟩ := enc_nums o
    unfold decO
    have e : trimR 61 (enc o) = ns.map Lb := by rw [h1]; exact trimR_pads ns h2 j
    rw [e, nums_map ns h2]
    simp only
    rw [if_neg, h3]
    rw [h3]
    simp only [not_or, Nat.not_le, ne_eq, Decidable.not_not]
    exact ⟨h5, h4, enc_len o⟩

theorem enc_inj {a b : List UInt8} (h : enc a = enc b) : a = b := by
  have h1 := (decO_iff (enc a) a).2 rfl
  have h2 := (decO_iff (enc a) b).2 h.symm
  rw [h1] at h2
  exact Option.some.inj h2

/-- What Decode answers. -/
def decR (s : List UInt8) (most : Int) : List UInt8 × Int :=
  match decO s with
  | none => ([], 3)
  | some o => if most < o.length then ([], 4) else (o, 0)

end Go.Proofs.YtfjbcoahjinehaaDoor

/-
  Printed by a tool of this session: what functions come to.
-/
namespace Go.Proofs.YtfjbcoahjinehaaDoor
open Go Go.Am
set_option linter.unusedVariables false
def De_T0 : Tm := { tmps := [(27, (.hole (.int .i64))), (26, (.hole (.int .i64))), (10, .h 2), (9, (.func 28 [] [(.ptr 1 0), (.ptr 0 0)])), (8, (.func 27 [] [(.ptr 1 0), (.ptr 0 0)])), (7, (.func 26 [] [(.ptr 0 0), (.ptr 1 0)])), (6, (.hole .str)), (0, (.hole .str)), (1, (.hole (.int .i64)))], objs := [.cells [(.hole (.int .u32))] 52 true, .cells [(.hole (.int .u64))] 40 true, .lst 5 .byte true], prep := [(10, 5)] }
def tmDe : FuncId → Nat → Option Tm := fun g i => match Nat.beq g 13 with
  | true => match Nat.beq i 0 with | true => some De_T0 | false => none
  | false => none
noncomputable def SDe : SE := { E := Go.Proofs.YtfjbcoahjinehaaDoor.E1, ctr := Go.Proofs.YtfjbcoahjinehaaDoor.ctrs2, tm := tmDe, un := 300 }
theorem De_L0 (n : Nat) (nx : Nat → List Dy → Option (List Dy)) (m : Nat) (l0 : List UInt8) (n1 : Int) (n2 : Int) (n3 : Int) (n4 : Int) (s5 : List UInt8) (s6 : List UInt8) (n7 : Int) :
    RL SDe [.str, (.int .i64)] n 13 0 nx (m + 1) [⟨(.list 5 .byte), l0⟩, ⟨(.int .u32), n1⟩, ⟨(.int .u64), n2⟩, ⟨(.int .i64), n3⟩, ⟨(.int .i64), n4⟩, ⟨.str, s5⟩, ⟨.str, s6⟩, ⟨(.int .i64), n7⟩] =
    (bif (Decidable.decide (n3 < n4)) then
      need (Decidable.decide ((0 : Int) ≤ n3)) <|
      need (Decidable.decide (n3 < (↑(List.length s5) : Int))) <|
      bif (!Option.isSome (Go.Proofs.YtfjbcoahjinehaaDoor.num6 (↑(UInt8.toNat (List.getD s5 (Int.toNat n3) (UInt8.ofNat (0 : Nat)))) : Int))) then
        some [⟨.str, ([] : List UInt8)⟩, ⟨(.int .i64), ((3 : Int) : Int)⟩]
      else
        bif (Decidable.decide (Go.IntKind.wrap Go.IntKind.u64 (n2 + (6 : Int)) < (8 : Int))) then
          RL SDe [.str, (.int .i64)] n 13 0 nx m [⟨(.list 5 .byte), (l0 : List UInt8)⟩, ⟨(.int .u32), (Go.IntKind.wrap Go.IntKind.u32 (↑(BitVec.toNat (BitVec.ofInt (32 : Nat) (Go.IntKind.wrap Go.IntKind.u32 (n1 * (64 : Int))) ||| BitVec.ofInt (32 : Nat) (Go.IntKind.wrap Go.IntKind.u32 (Option.getD (Go.Proofs.YtfjbcoahjinehaaDoor.num6 (↑(UInt8.toNat (List.getD s5 (Int.toNat n3) (UInt8.ofNat (0 : Nat)))) : Int)) (0 : Int))))) : Int) : Int)⟩, ⟨(.int .u64), (Go.IntKind.wrap Go.IntKind.u64 (n2 + (6 : Int)) : Int)⟩, ⟨(.int .i64), (Go.IntKind.wrap Go.IntKind.i64 (n3 + (1 : Int)) : Int)⟩, ⟨(.int .i64), (n4 : Int)⟩, ⟨.str, (s5 : List UInt8)⟩, ⟨.str, (s6 : List UInt8)⟩, ⟨(.int .i64), (n7 : Int)⟩]
        else
          need (Decidable.decide ((0 : Int) ≤ Go.IntKind.wrap Go.IntKind.u64 (Go.IntKind.wrap Go.IntKind.u64 (n2 + (6 : Int)) - (8 : Int)))) <|
          need (Decidable.decide ((0 : Int) ≤ Go.IntKind.wrap Go.IntKind.u64 (Go.IntKind.wrap Go.IntKind.u64 (n2 + (6 : Int)) - (8 : Int)))) <|
          need (Decidable.decide ((0 : Int) ≤ Go.IntKind.wrap Go.IntKind.u8 (Int.fdiv (Go.IntKind.wrap Go.IntKind.u32 (↑(BitVec.toNat (BitVec.ofInt (32 : Nat) (Go.IntKind.wrap Go.IntKind.u32 (n1 * (64 : Int))) ||| BitVec.ofInt (32 : Nat) (Go.IntKind.wrap Go.IntKind.u32 (Option.getD (Go.Proofs.YtfjbcoahjinehaaDoor.num6 (↑(UInt8.toNat (List.getD s5 (Int.toNat n3) (UInt8.ofNat (0 : Nat)))) : Int)) (0 : Int))))) : Int)) ((2 : Int) ^ Min.min (Int.toNat (Go.IntKind.wrap Go.IntKind.u64 (Go.IntKind.wrap Go.IntKind.u64 (n2 + (6 : Int)) - (8 : Int)))) (32 : Nat))))) <|
          need (Decidable.decide (Go.IntKind.wrap Go.IntKind.u8 (Int.fdiv (Go.IntKind.wrap Go.IntKind.u32 (↑(BitVec.toNat (BitVec.ofInt (32 : Nat) (Go.IntKind.wrap Go.IntKind.u32 (n1 * (64 : Int))) ||| BitVec.ofInt (32 : Nat) (Go.IntKind.wrap Go.IntKind.u32 (Option.getD (Go.Proofs.YtfjbcoahjinehaaDoor.num6 (↑(UInt8.toNat (List.getD s5 (Int.toNat n3) (UInt8.ofNat (0 : Nat)))) : Int)) (0 : Int))))) : Int)) ((2 : Int) ^ Min.min (Int.toNat (Go.IntKind.wrap Go.IntKind.u64 (Go.IntKind.wrap Go.IntKind.u64 (n2 + (6 : Int)) - (8 : Int)))) (32 : Nat))) < (256 : Int))) <|
          need (Decidable.decide ((List.length l0 + List.length [UInt8.ofNat (Int.toNat (Go.IntKind.wrap Go.IntKind.u8 (Int.fdiv (Go.IntKind.wrap Go.IntKind.u32 (↑(BitVec.toNat (BitVec.ofInt (32 : Nat) (Go.IntKind.wrap Go.IntKind.u32 (n1 * (64 : Int))) ||| BitVec.ofInt (32 : Nat) (Go.IntKind.wrap Go.IntKind.u32 (Option.getD (Go.Proofs.YtfjbcoahjinehaaDoor.num6 (↑(UInt8.toNat (List.getD s5 (Int.toNat n3) (UInt8.ofNat (0 : Nat)))) : Int)) (0 : Int))))) : Int)) ((2 : Int) ^ Min.min (Int.toNat (Go.IntKind.wrap Go.IntKind.u64 (Go.IntKind.wrap Go.IntKind.u64 (n2 + (6 : Int)) - (8 : Int)))) (32 : Nat)))))]) * (1 : Nat) ≤ (140737488355328 : Nat))) <|
          need (Decidable.decide (List.length l0 + List.length [UInt8.ofNat (Int.toNat (Go.IntKind.wrap Go.IntKind.u8 (Int.fdiv (Go.IntKind.wrap Go.IntKind.u32 (↑(BitVec.toNat (BitVec.ofInt (32 : Nat) (Go.IntKind.wrap Go.IntKind.u32 (n1 * (64 : Int))) ||| BitVec.ofInt (32 : Nat) (Go.IntKind.wrap Go.IntKind.u32 (Option.getD (Go.Proofs.YtfjbcoahjinehaaDoor.num6 (↑(UInt8.toNat (List.getD s5 (Int.toNat n3) (UInt8.ofNat (0 : Nat)))) : Int)) (0 : Int))))) : Int)) ((2 : Int) ^ Min.min (Int.toNat (Go.IntKind.wrap Go.IntKind.u64 (Go.IntKind.wrap Go.IntKind.u64 (n2 + (6 : Int)) - (8 : Int)))) (32 : Nat)))))] ≤ (140737488355328 : Nat))) <|
          RL SDe [.str, (.int .i64)] n 13 0 nx m [⟨(.list 5 .byte), (l0 ++ [UInt8.ofNat (Int.toNat (Go.IntKind.wrap Go.IntKind.u8 (Int.fdiv (Go.IntKind.wrap Go.IntKind.u32 (↑(BitVec.toNat (BitVec.ofInt (32 : Nat) (Go.IntKind.wrap Go.IntKind.u32 (n1 * (64 : Int))) ||| BitVec.ofInt (32 : Nat) (Go.IntKind.wrap Go.IntKind.u32 (Option.getD (Go.Proofs.YtfjbcoahjinehaaDoor.num6 (↑(UInt8.toNat (List.getD s5 (Int.toNat n3) (UInt8.ofNat (0 : Nat)))) : Int)) (0 : Int))))) : Int)) ((2 : Int) ^ Min.min (Int.toNat (Go.IntKind.wrap Go.IntKind.u64 (Go.IntKind.wrap Go.IntKind.u64 (n2 + (6 : Int)) - (8 : Int)))) (32 : Nat)))))] : List UInt8)⟩, ⟨(.int .u32), (Go.IntKind.wrap Go.IntKind.u32 (↑(BitVec.toNat (BitVec.ofInt (32 : Nat) (Go.IntKind.wrap Go.IntKind.u32 (↑(BitVec.toNat (BitVec.ofInt (32 : Nat) (Go.IntKind.wrap Go.IntKind.u32 (n1 * (64 : Int))) ||| BitVec.ofInt (32 : Nat) (Go.IntKind.wrap Go.IntKind.u32 (Option.getD (Go.Proofs.YtfjbcoahjinehaaDoor.num6 (↑(UInt8.toNat (List.getD s5 (Int.toNat n3) (UInt8.ofNat (0 : Nat)))) : Int)) (0 : Int))))) : Int)) &&& BitVec.ofInt (32 : Nat) (Go.IntKind.wrap Go.IntKind.u32 (Go.IntKind.wrap Go.IntKind.u32 ((1 : Int) * (2 : Int) ^ Min.min (Int.toNat (Go.IntKind.wrap Go.IntKind.u64 (Go.IntKind.wrap Go.IntKind.u64 (n2 + (6 : Int)) - (8 : Int)))) (32 : Nat)) - (1 : Int))))) : Int) : Int)⟩, ⟨(.int .u64), (Go.IntKind.wrap Go.IntKind.u64 (Go.IntKind.wrap Go.IntKind.u64 (n2 + (6 : Int)) - (8 : Int)) : Int)⟩, ⟨(.int .i64), (Go.IntKind.wrap Go.IntKind.i64 (n3 + (1 : Int)) : Int)⟩, ⟨(.int .i64), (n4 : Int)⟩, ⟨.str, (s5 : List UInt8)⟩, ⟨.str, (s6 : List UInt8)⟩, ⟨(.int .i64), (n7 : Int)⟩]
    else
      need (Decidable.decide ((6 : Int) ≤ n2) || n1 != (0 : Int) || Decidable.decide ((-4611686018427387904 : Int) ≤ (↑(List.length l0) : Int))) <|
      need (Decidable.decide ((6 : Int) ≤ n2) || n1 != (0 : Int) || Decidable.decide ((↑(List.length l0) : Int) ≤ (1152921504606846976 : Int))) <|
      bif (Decidable.decide ((6 : Int) ≤ n2) || n1 != (0 : Int) || (↑(List.length s6) : Int) != Go.Proofs.YtfjbcoahjinehaaDoor.size6 (↑(List.length l0) : Int)) then
        some [⟨.str, ([] : List UInt8)⟩, ⟨(.int .i64), ((3 : Int) : Int)⟩]
      else
        bif (Decidable.decide (n7 < (↑(List.length l0) : Int))) then
          some [⟨.str, ([] : List UInt8)⟩, ⟨(.int .i64), ((4 : Int) : Int)⟩]
        else
          some [⟨.str, (l0 : List UInt8)⟩, ⟨(.int .i64), ((0 : Int) : Int)⟩]) := by kernel_rfl
theorem De_fn (n : Nat) (s0 : List UInt8) (n1 : Int) :
    fnY SDe loopY [(.hole .str), (.hole (.int .i64))] [.str, (.int .i64)] n 13 [⟨.str, s0⟩, ⟨(.int .i64), n1⟩] =
    (need (Decidable.decide (List.length s0 ≤ Go.Proofs.YtfjbcoahjinehaaDoor.big)) <|
    RL SDe [.str, (.int .i64)] n 13 0 noNx n [⟨(.list 5 .byte), ([] : List UInt8)⟩, ⟨(.int .u32), ((0 : Int) : Int)⟩, ⟨(.int .u64), ((0 : Int) : Int)⟩, ⟨(.int .i64), ((0 : Int) : Int)⟩, ⟨(.int .i64), ((↑(List.length (Go.Proofs.YtfjbcoahjinehaaDoor.trimR (61 : Int) s0)) : Int) : Int)⟩, ⟨.str, (Go.Proofs.YtfjbcoahjinehaaDoor.trimR (61 : Int) s0 : List UInt8)⟩, ⟨.str, (s0 : List UInt8)⟩, ⟨(.int .i64), (n1 : Int)⟩]) := by kernel_rfl

def Rd_T0 : Tm := { tmps := [(9, (.hole (.int .i64))), (8, (.hole (.int .i64))), (7, (.hole (.int .i64))), (6, .h 0), (0, (.hole .str)), (1, (.hole (.int .i64)))], objs := [.lst 5 .byte true], prep := [(6, 5)] }
def Rd_T2 : Tm := { tmps := [(11, (.hole (.int .i64))), (10, (.hole (.int .i64))), (9, (.hole (.int .i64))), (8, (.hole (.int .i64))), (7, (.hole (.int .i64))), (6, (.h 0)), (0, (.hole .str)), (1, (.hole (.int .i64)))], objs := [.lst 5 .byte true] }
def tmRd : FuncId → Nat → Option Tm := fun g i => match Nat.beq g 14 with
  | true => match Nat.beq i 0 with | true => some Rd_T0 | false => match Nat.beq i 2 with | true => some Rd_T2 | false => none
  | false => none
noncomputable def SRd : SE := { E := Go.Proofs.YtfjbcoahjinehaaDoor.E1, ctr := Go.Proofs.YtfjbcoahjinehaaDoor.ctrs2, tm := tmRd, un := 300 }
theorem Rd_L0 (n : Nat) (nx : Nat → List Dy → Option (List Dy)) (m : Nat) (l0 : List UInt8) (n1 : Int) (n2 : Int) (n3 : Int) (s4 : List UInt8) (n5 : Int) :
    RL SRd [.str, (.int .i64)] n 14 0 nx (m + 1) [⟨(.list 5 .byte), l0⟩, ⟨(.int .i64), n1⟩, ⟨(.int .i64), n2⟩, ⟨(.int .i64), n3⟩, ⟨.str, s4⟩, ⟨(.int .i64), n5⟩] =
    (need (!Decidable.decide (n1 < (↑(List.length s4) : Int)) || Decidable.decide ((0 : Int) ≤ n1)) <|
    need (!Decidable.decide (n1 < (↑(List.length s4) : Int)) || Decidable.decide (n1 < (↑(List.length s4) : Int))) <|
    bif (Decidable.decide (n1 < (↑(List.length s4) : Int)) && (↑(UInt8.toNat (List.getD s4 (Int.toNat n1) (UInt8.ofNat (0 : Nat)))) : Int) != (61 : Int)) then
      RL SRd [.str, (.int .i64)] n 14 2 (updNx nx 0 (RL SRd [.str, (.int .i64)] n 14 0 nx m)) n [⟨(.list 5 .byte), (l0 : List UInt8)⟩, ⟨(.int .i64), ((0 : Int) : Int)⟩, ⟨(.int .i64), ((-1 : Int) : Int)⟩, ⟨(.int .i64), (n1 : Int)⟩, ⟨(.int .i64), (n2 : Int)⟩, ⟨(.int .i64), (n3 : Int)⟩, ⟨.str, (s4 : List UInt8)⟩, ⟨(.int .i64), (n5 : Int)⟩]
    else
      need (Decidable.decide (List.length l0 ≤ (1000000000 : Nat))) <|
      bif (!Go.Proofs.YtfjbcoahjinehaaDoor.enc l0 == s4) then
        some [⟨.str, ([] : List UInt8)⟩, ⟨(.int .i64), ((3 : Int) : Int)⟩]
      else
        bif (Decidable.decide (n5 < (↑(List.length l0) : Int))) then
          some [⟨.str, ([] : List UInt8)⟩, ⟨(.int .i64), ((4 : Int) : Int)⟩]
        else
          some [⟨.str, (l0 : List UInt8)⟩, ⟨(.int .i64), ((0 : Int) : Int)⟩]) := by kernel_rfl
theorem Rd_L2 (n : Nat) (nx : Nat → List Dy → Option (List Dy)) (m : Nat) (l0 : List UInt8) (n1 : Int) (n2 : Int) (n3 : Int) (n4 : Int) (n5 : Int) (s6 : List UInt8) (n7 : Int) :
    RL SRd [.str, (.int .i64)] n 14 2 nx (m + 1) [⟨(.list 5 .byte), l0⟩, ⟨(.int .i64), n1⟩, ⟨(.int .i64), n2⟩, ⟨(.int .i64), n3⟩, ⟨(.int .i64), n4⟩, ⟨(.int .i64), n5⟩, ⟨.str, s6⟩, ⟨(.int .i64), n7⟩] =
    (bif (Decidable.decide (n1 < (64 : Int))) then
      need (Decidable.decide ((0 : Int) ≤ n1)) <|
      need (Decidable.decide (n1 < (64 : Int))) <|
      need (Decidable.decide ((0 : Int) ≤ n3)) <|
      need (Decidable.decide (n3 < (↑(List.length s6) : Int))) <|
      bif ((↑(UInt8.toNat (List.getD [(65 : UInt8), (66 : UInt8), (67 : UInt8), (68 : UInt8), (69 : UInt8), (70 : UInt8), (71 : UInt8), (72 : UInt8), (73 : UInt8), (74 : UInt8), (75 : UInt8), (76 : UInt8), (77 : UInt8), (78 : UInt8), (79 : UInt8), (80 : UInt8), (81 : UInt8), (82 : UInt8), (83 : UInt8), (84 : UInt8), (85 : UInt8), (86 : UInt8), (87 : UInt8), (88 : UInt8), (89 : UInt8), (90 : UInt8), (97 : UInt8), (98 : UInt8), (99 : UInt8), (100 : UInt8), (101 : UInt8), (102 : UInt8), (103 : UInt8), (104 : UInt8), (105 : UInt8), (106 : UInt8), (107 : UInt8), (108 : UInt8), (109 : UInt8), (110 : UInt8), (111 : UInt8), (112 : UInt8), (113 : UInt8), (114 : UInt8), (115 : UInt8), (116 : UInt8), (117 : UInt8), (118 : UInt8), (119 : UInt8), (120 : UInt8), (121 : UInt8), (122 : UInt8), (48 : UInt8), (49 : UInt8), (50 : UInt8), (51 : UInt8), (52 : UInt8), (53 : UInt8), (54 : UInt8), (55 : UInt8), (56 : UInt8), (57 : UInt8), (43 : UInt8), (47 : UInt8)] (Int.toNat n1) (UInt8.ofNat (0 : Nat)))) : Int) == (↑(UInt8.toNat (List.getD s6 (Int.toNat n3) (UInt8.ofNat (0 : Nat)))) : Int)) then
        RL SRd [.str, (.int .i64)] n 14 2 nx m [⟨(.list 5 .byte), (l0 : List UInt8)⟩, ⟨(.int .i64), (Go.IntKind.wrap Go.IntKind.i64 (n1 + (1 : Int)) : Int)⟩, ⟨(.int .i64), (n1 : Int)⟩, ⟨(.int .i64), (n3 : Int)⟩, ⟨(.int .i64), (n4 : Int)⟩, ⟨(.int .i64), (n5 : Int)⟩, ⟨.str, (s6 : List UInt8)⟩, ⟨(.int .i64), (n7 : Int)⟩]
      else
        RL SRd [.str, (.int .i64)] n 14 2 nx m [⟨(.list 5 .byte), (l0 : List UInt8)⟩, ⟨(.int .i64), (Go.IntKind.wrap Go.IntKind.i64 (n1 + (1 : Int)) : Int)⟩, ⟨(.int .i64), (n2 : Int)⟩, ⟨(.int .i64), (n3 : Int)⟩, ⟨(.int .i64), (n4 : Int)⟩, ⟨(.int .i64), (n5 : Int)⟩, ⟨.str, (s6 : List UInt8)⟩, ⟨(.int .i64), (n7 : Int)⟩]
    else
      bif (Decidable.decide (n2 < (0 : Int))) then
        some [⟨.str, ([] : List UInt8)⟩, ⟨(.int .i64), ((3 : Int) : Int)⟩]
      else
        bif (Decidable.decide ((8 : Int) ≤ Go.IntKind.wrap Go.IntKind.i64 (n4 + (6 : Int)))) then
          need (Decidable.decide ((0 : Int) ≤ Go.IntKind.wrap Go.IntKind.i64 (Go.IntKind.wrap Go.IntKind.i64 (n4 + (6 : Int)) - (8 : Int)))) <|
          need (Decidable.decide ((0 : Int) ≤ Go.IntKind.wrap Go.IntKind.u8 (Int.fdiv (Int.tmod (Go.IntKind.wrap Go.IntKind.i64 (Go.IntKind.wrap Go.IntKind.i64 (n5 * (64 : Int)) + n2)) (65536 : Int)) ((2 : Int) ^ Min.min (Int.toNat (Go.IntKind.wrap Go.IntKind.i64 (Go.IntKind.wrap Go.IntKind.i64 (n4 + (6 : Int)) - (8 : Int)))) (64 : Nat))))) <|
          need (Decidable.decide (Go.IntKind.wrap Go.IntKind.u8 (Int.fdiv (Int.tmod (Go.IntKind.wrap Go.IntKind.i64 (Go.IntKind.wrap Go.IntKind.i64 (n5 * (64 : Int)) + n2)) (65536 : Int)) ((2 : Int) ^ Min.min (Int.toNat (Go.IntKind.wrap Go.IntKind.i64 (Go.IntKind.wrap Go.IntKind.i64 (n4 + (6 : Int)) - (8 : Int)))) (64 : Nat))) < (256 : Int))) <|
          need (Decidable.decide ((List.length l0 + List.length [UInt8.ofNat (Int.toNat (Go.IntKind.wrap Go.IntKind.u8 (Int.fdiv (Int.tmod (Go.IntKind.wrap Go.IntKind.i64 (Go.IntKind.wrap Go.IntKind.i64 (n5 * (64 : Int)) + n2)) (65536 : Int)) ((2 : Int) ^ Min.min (Int.toNat (Go.IntKind.wrap Go.IntKind.i64 (Go.IntKind.wrap Go.IntKind.i64 (n4 + (6 : Int)) - (8 : Int)))) (64 : Nat)))))]) * (1 : Nat) ≤ (140737488355328 : Nat))) <|
          need (Decidable.decide (List.length l0 + List.length [UInt8.ofNat (Int.toNat (Go.IntKind.wrap Go.IntKind.u8 (Int.fdiv (Int.tmod (Go.IntKind.wrap Go.IntKind.i64 (Go.IntKind.wrap Go.IntKind.i64 (n5 * (64 : Int)) + n2)) (65536 : Int)) ((2 : Int) ^ Min.min (Int.toNat (Go.IntKind.wrap Go.IntKind.i64 (Go.IntKind.wrap Go.IntKind.i64 (n4 + (6 : Int)) - (8 : Int)))) (64 : Nat)))))] ≤ (140737488355328 : Nat))) <|
          nx 0 [⟨(.list 5 .byte), (l0 ++ [UInt8.ofNat (Int.toNat (Go.IntKind.wrap Go.IntKind.u8 (Int.fdiv (Int.tmod (Go.IntKind.wrap Go.IntKind.i64 (Go.IntKind.wrap Go.IntKind.i64 (n5 * (64 : Int)) + n2)) (65536 : Int)) ((2 : Int) ^ Min.min (Int.toNat (Go.IntKind.wrap Go.IntKind.i64 (Go.IntKind.wrap Go.IntKind.i64 (n4 + (6 : Int)) - (8 : Int)))) (64 : Nat)))))] : List UInt8)⟩, ⟨(.int .i64), (Go.IntKind.wrap Go.IntKind.i64 (n3 + (1 : Int)) : Int)⟩, ⟨(.int .i64), (Go.IntKind.wrap Go.IntKind.i64 (Go.IntKind.wrap Go.IntKind.i64 (n4 + (6 : Int)) - (8 : Int)) : Int)⟩, ⟨(.int .i64), (Int.tmod (Go.IntKind.wrap Go.IntKind.i64 (Go.IntKind.wrap Go.IntKind.i64 (n5 * (64 : Int)) + n2)) (65536 : Int) : Int)⟩, ⟨.str, (s6 : List UInt8)⟩, ⟨(.int .i64), (n7 : Int)⟩]
        else
          nx 0 [⟨(.list 5 .byte), (l0 : List UInt8)⟩, ⟨(.int .i64), (Go.IntKind.wrap Go.IntKind.i64 (n3 + (1 : Int)) : Int)⟩, ⟨(.int .i64), (Go.IntKind.wrap Go.IntKind.i64 (n4 + (6 : Int)) : Int)⟩, ⟨(.int .i64), (Int.tmod (Go.IntKind.wrap Go.IntKind.i64 (Go.IntKind.wrap Go.IntKind.i64 (n5 * (64 : Int)) + n2)) (65536 : Int) : Int)⟩, ⟨.str, (s6 : List UInt8)⟩, ⟨(.int .i64), (n7 : Int)⟩]) := by kernel_rfl
theorem Rd_fn (n : Nat) (s0 : List UInt8) (n1 : Int) :
    fnY SRd loopY [(.hole .str), (.hole (.int .i64))] [.str, (.int .i64)] n 14 [⟨.str, s0⟩, ⟨(.int .i64), n1⟩] =
    (RL SRd [.str, (.int .i64)] n 14 0 noNx n [⟨(.list 5 .byte), ([] : List UInt8)⟩, ⟨(.int .i64), ((0 : Int) : Int)⟩, ⟨(.int .i64), ((0 : Int) : Int)⟩, ⟨(.int .i64), ((0 : Int) : Int)⟩, ⟨.str, (s0 : List UInt8)⟩, ⟨(.int .i64), (n1 : Int)⟩]) := by kernel_rfl

end Go.Proofs.YtfjbcoahjinehaaDoor

/-
  Chapter 17: what Decode answers.
-/
namespace Go.Proofs.YtfjbcoahjinehaaDoor
open Go Go.Am

def retD (x : List UInt8 × Int) : Option (List Dy) := some [⟨.str, x.1⟩, ⟨.int .i64, x.2⟩]
def finD (st : StE) (len : Nat) (most : Int) : List UInt8 × Int :=
  if 6 ≤ st.2.2 ∨ st.2.1 ≠ 0 ∨ (len : Int) ≠ size6 st.1.length then ([], 3) else if most < st.1.length then ([], 4) else (st.1, 0)
theorem decR_eq (s : List UInt8) (most : Int) : decR s most = match nums (trimR 61 s) with
    | none => ([], 3)
    | some ns => finD (foldD ([], 0, 0) ns) s.length most := by
  unfold decR decO finD
  split
  · rename_i h
    split at h
    · split at h
      · rename_i ns hns hc
        simp only [hns]
        rw [if_pos hc]
      · cases h
    · rename_i hns
      rw [hns]
  · rename_i o h
    split at h
    · split at h
      · cases h
      · rename_i ns hns hc
        cases h
        simp only [hns]
        rw [if_neg hc]
    · cases h

theorem put64 {r n : Nat} (hr : r < 64) (hn : n < 64) : IntKind.u32.wrap (((BitVec.ofInt 32 (IntKind.u32.wrap ((r : Int) * 64)) ||| BitVec.ofInt 32 (IntKind.u32.wrap (n : Int))).toNat : Nat) : Int) = ((r * 64 + n : Nat) : Int) := by
  rw [wu32 (n := (r : Int) * 64) (by omega), wu32 (n := (n : Int)) (by omega), bv_join (a := r) (b := n) (k := 6) (by omega) (by omega) (by omega) (by simp) rfl]
  exact wu32 (by omega)

theorem numU_num6 {c : UInt8} {n : Nat} (h : numU c = some n) : num6 (c.toNat : Int) = some (n : Int) := by
  unfold numU at h
  rw [Option.map_eq_some_iff] at h
  obtain ⟨x, hx, rfl⟩ := h
  have hc : c.toNat < 256 := c.toNat_lt
  obtain ⟨h1, _⟩ := num6_spec _ ⟨by omega, by omega⟩ _ hx
  rw [hx]
  congr 1
  omega
theorem numU_none {c : UInt8} (h : numU c = none) : num6 (c.toNat : Int) = none := by
  unfold numU at h
  simpa using h

theorem dstep (n : Nat) (nx : Nat → List Dy → Option (List Dy)) (m : Nat) (st : StE) (hst : OkD st) (i : Nat) (p s : List UInt8) (most : Int) (hi : i < p.length) (hp : p.length < 4611686018427387904) (ho : st.1.length < 140737488354000) {v : Nat} (hv : numU (p.getD i 0) = some v) :
    RL SDe [.str, .int .i64] n 13 0 nx (m + 1) [⟨.list 5 .byte, st.1⟩, ⟨.int .u32, (st.2.1 : Int)⟩, ⟨.int .u64, (st.2.2 : Int)⟩, ⟨.int .i64, (i : Int)⟩, ⟨.int .i64, (p.length : Int)⟩, ⟨.str, p⟩, ⟨.str, s⟩, ⟨.int .i64, most⟩] =
    RL SDe [.str, .int .i64] n 13 0 nx m [⟨.list 5 .byte, (stepD st v).1⟩, ⟨.int .u32, ((stepD st v).2.1 : Int)⟩, ⟨.int .u64, ((stepD st v).2.2 : Int)⟩, ⟨.int .i64, ((i + 1 : Nat) : Int)⟩, ⟨.int .i64, (p.length : Int)⟩, ⟨.str, p⟩, ⟨.str, s⟩, ⟨.int .i64, most⟩] := by
  obtain ⟨o, r, k⟩ := st
  simp only at ho ⊢
  have hv2 := (numU_spec hv).1
  have w1 : IntKind.i64.wrap ((i : Int) + 1) = ((i + 1 : Nat) : Int) := by rw [w64 (by omega)]; omega
  have eg : p.getD (Int.toNat (i : Int)) (UInt8.ofNat 0) = p.getD i 0 := rfl
  have hr : r < 64 ∧ (k = 0 ∧ r = 0 ∨ 2 ≤ k ∧ k ≤ 6) := by
    rcases hst with ⟨h1, h2⟩ | ⟨h1, h2⟩ | ⟨h1, h2⟩ | ⟨h1, h2⟩ <;> simp only at h1 h2 <;> omega
  have e6 : IntKind.u64.wrap ((k : Int) + 6) = ((k + 6 : Nat) : Int) := by rw [wu64 (by omega)]; omega
  rw [De_L0, bif_pos (by simp; omega), need_dec (by omega), need_dec (by omega), eg, numU_num6 hv, bif_neg (by rfl), e6, show Option.getD (some (v : Int)) 0 = (v : Int) from rfl, put64 hr.1 hv2, w1]
  rcases hr.2 with ⟨hk, hr0⟩ | ⟨hk1, hk2⟩
  · subst hk hr0
    rw [bif_pos (by decide)]
    simp [stepD]
  · have e8 : IntKind.u64.wrap (((k + 6 : Nat) : Int) - 8) = ((k - 2 : Nat) : Int) := by rw [wu64 (by omega)]; omega
    have hd : (r * 64 + v) / 2 ^ (k - 2) < 256 := by
      rcases hst with ⟨h1, h2⟩ | ⟨h1, h2⟩ | ⟨h1, h2⟩ | ⟨h1, h2⟩ <;> simp only at h1 h2 <;> subst h2 <;> simp only [Nat.reduceSub] <;> omega
    rw [bif_neg (by simp only [decide_eq_false_iff_not]; omega), e8, need_dec (by omega), need_dec (by omega), maskC _ (by omega), powC _ (by omega), fdiv_nat, mask_nat (by omega) (k - 2) (by omega) rfl]
    have eo : ∀ q, q = (r * 64 + v) / 2 ^ (k - 2) → UInt8.ofNat (Int.toNat (q : Int)) = UInt8.ofNat ((r * 64 + v) / 2 ^ (k - 2)) := fun q hq => by rw [hq, Int.toNat_natCast]
    generalize hq : (r * 64 + v) / 2 ^ (k - 2) = q at hd eo ⊢
    rw [w8 (by omega), need_dec (by omega), need_dec (by omega), need_dec (by simp; omega), need_dec (by simp; omega), eo q rfl]
    subst hq
    rcases hst with ⟨h1, h2⟩ | ⟨h1, h2⟩ | ⟨h1, h2⟩ | ⟨h1, h2⟩ <;> simp only at h1 h2 <;> subst h2
    · omega
    · have a1 : (r * 64 + v) / 2 ^ (6 - 2) = r * 4 + v / 16 := by omega
      have a2 : (r * 64 + v) % 2 ^ (6 - 2) = v % 16 := by omega
      rw [a1, a2]
      rfl
    · have a1 : (r * 64 + v) / 2 ^ (4 - 2) = r * 16 + v / 4 := by omega
      have a2 : (r * 64 + v) % 2 ^ (4 - 2) = v % 4 := by omega
      rw [a1, a2]
      rfl
    · have a1 : (r * 64 + v) / 2 ^ (2 - 2) = r * 64 + v := by omega
      have a2 : (r * 64 + v) % 2 ^ (2 - 2) = 0 := by omega
      rw [a1, a2]
      rfl

theorem dl0_ok (n : Nat) (nx : Nat → List Dy → Option (List Dy)) (p s : List UInt8) (most : Int) (hp : p.length < 100000000000) : ∀ (m : Nat) (st : StE) (i : Nat), OkD st → i ≤ p.length → p.length - i < m → st.1.length + (p.length - i) < 100000000000 →
    RL SDe [.str, .int .i64] n 13 0 nx m [⟨.list 5 .byte, st.1⟩, ⟨.int .u32, (st.2.1 : Int)⟩, ⟨.int .u64, (st.2.2 : Int)⟩, ⟨.int .i64, (i : Int)⟩, ⟨.int .i64, (p.length : Int)⟩, ⟨.str, p⟩, ⟨.str, s⟩, ⟨.int .i64, most⟩] =
    retD (match nums (p.drop i) with
      | none => ([], 3)
      | some ns => finD (foldD st ns) s.length most)
  | 0, st, i, _, _, h, _ => by omega
  | m + 1, st, i, hst, hi, hm, ho => by
    by_cases hlt : i < p.length
    · have e : p.drop i = p.getD i 0 :: p.drop (i + 1) := by
        rw [List.drop_eq_getElem_cons hlt, List.getD_eq_getElem?_getD, List.getElem?_eq_getElem hlt]; rfl
      cases hv : numU (p.getD i 0) with
      | none =>
        have eg : p.getD (Int.toNat (i : Int)) (UInt8.ofNat 0) = p.getD i 0 := rfl
        rw [De_L0, bif_pos (by simp; omega), need_dec (by omega), need_dec (by omega), eg, numU_none hv, bif_pos (by rfl), e]
        simp only [nums, hv]
        rfl
      | some v =>
        have hl := stepD_len (s := st) v
        rw [dstep n nx m st hst i p s most hlt (by omega) (by omega) hv, dl0_ok n nx p s most hp m _ (i + 1) (stepD_ok hst (numU_spec hv).1) hlt (by omega) (by omega), e]
        simp only [nums, hv]
        split
        · rename_i h; simp only [h]
        · rename_i ns h; simp only [h]; rfl
    · have e : i = p.length := by omega
      subst e
      rw [List.drop_length]
      obtain ⟨o, r, k⟩ := st
      simp only at ho ⊢
      rw [De_L0, bif_neg (by simp), need_pos (by first | (simp; done) | (simp; omega)), need_pos (by first | (simp; done) | (simp; omega))]
      show _ = retD (finD (o, r, k) s.length most)
      by_cases hc : 6 ≤ k ∨ r ≠ 0 ∨ (s.length : Int) ≠ size6 o.length
      · have e : finD (o, r, k) s.length most = ([], 3) := if_pos hc
        rw [bif_pos (by simp only [Bool.or_eq_true, decide_eq_true_eq, bne_iff_ne]; omega), e]
        rfl
      · have e : finD (o, r, k) s.length most = if most < o.length then ([], 4) else (o, 0) := if_neg hc
        rw [bif_neg (by simp only [Bool.or_eq_false_iff, decide_eq_false_iff_not, bne_eq_false_iff_eq]; omega), e, bif_dec]
        by_cases hm : most < (o.length : Int)
        · rw [if_pos hm, if_pos hm]; rfl
        · rw [if_neg hm, if_neg hm]; rfl

/-- What Decode answers. -/
theorem de_ok (s : List UInt8) (most : Int) (hs : s.length < 50000000000) : ∃ n, fnY SDe loopY [.hole .str, .hole (.int .i64)] [.str, .int .i64] n 13 [⟨.str, s⟩, ⟨.int .i64, most⟩] = retD (decR s most) := by
  obtain ⟨k, hk⟩ := trimR_split s
  have hl := congrArg List.length hk
  rw [List.length_append] at hl
  refine ⟨s.length + 1, ?_⟩
  rw [De_fn, need_dec (by simp only [big]; omega), decR_eq]
  have := dl0_ok (s.length + 1) noNx (trimR 61 s) s most (by omega) (s.length + 1) ([], 0, 0) 0 (.inl ⟨rfl, rfl⟩) (by omega) (by omega) (by simp; omega)
  rw [List.drop_zero] at this
  exact this

end Go.Proofs.YtfjbcoahjinehaaDoor

/-
  Chapter 17: what the document's Decode answers.
-/
namespace Go.Proofs.YtfjbcoahjinehaaDoor
open Go Go.Am

/-- Where a letter stands in the row of all. -/
theorem find_lets : ∀ c : UInt8, ∀ k ≤ 64, (∀ j < k, numU c ≠ some j) ∨ ∃ j < k, numU c = some j := by
  intro c k _
  cases h : numU c with
  | none => exact .inl fun j _ e => by cases e
  | some v =>
    by_cases hv : v < k
    · exact .inr ⟨v, hv, rfl⟩
    · exact .inl fun j hj e => by cases e; omega
theorem lets_at : ∀ k < 64, lets.getD k (UInt8.ofNat 0) = Lb k := by decide
theorem lets_eq (k : Nat) (hk : k < 64) (c : UInt8) : ((lets.getD (Int.toNat (k : Int)) (UInt8.ofNat 0)).toNat : Int) = (c.toNat : Int) ↔ numU c = some k := by
  rw [Int.toNat_natCast, lets_at k hk]
  constructor
  · intro h
    have : c = Lb k := by
      apply UInt8.toNat_inj.1
      omega
    rw [this]
    exact numU_Lb k hk
  · intro h
    rw [(numU_spec h).2.1]

/-- What is found below k. -/
def atBelow (c : UInt8) (k : Nat) : Int := match numU c with
  | some v => if v < k then v else -1
  | none => -1

/-- What stands behind a round. -/
def afterR (c : UInt8) (o : List UInt8) (n3 n4 n5 : Int) (s : List UInt8) (most : Int) (nx : Nat → List Dy → Option (List Dy)) : Option (List Dy) :=
  match numU c with
  | none => some [⟨.str, ([] : List UInt8)⟩, ⟨.int .i64, (3 : Int)⟩]
  | some v => if 8 ≤ n4 + 6 then
      nx 0 [⟨.list 5 .byte, o ++ [UInt8.ofNat (Int.toNat (IntKind.u8.wrap (Int.fdiv (Int.tmod (n5 * 64 + v) 65536) ((2 : Int) ^ Min.min (Int.toNat (n4 + 6 - 8)) 64))))]⟩, ⟨.int .i64, n3 + 1⟩, ⟨.int .i64, n4 + 6 - 8⟩, ⟨.int .i64, Int.tmod (n5 * 64 + v) 65536⟩, ⟨.str, s⟩, ⟨.int .i64, most⟩]
    else nx 0 [⟨.list 5 .byte, o⟩, ⟨.int .i64, n3 + 1⟩, ⟨.int .i64, n4 + 6⟩, ⟨.int .i64, Int.tmod (n5 * 64 + v) 65536⟩, ⟨.str, s⟩, ⟨.int .i64, most⟩]

theorem rd2_ok (n : Nat) (nx : Nat → List Dy → Option (List Dy)) (s : List UInt8) (i : Nat) (hi : i < s.length) (hs : s.length < 4611686018427387904) (o : List UInt8) (ho : o.length < 140737488355000) (n4 n5 : Int) (h4 : 0 ≤ n4 ∧ n4 ≤ 6) (h5 : 0 ≤ n5 ∧ n5 < 65536) (most : Int) : ∀ (q m k : Nat), k + q = 64 → q < m →
    RL SRd [.str, .int .i64] n 14 2 nx m [⟨.list 5 .byte, o⟩, ⟨.int .i64, (k : Int)⟩, ⟨.int .i64, atBelow (s.getD i 0) k⟩, ⟨.int .i64, (i : Int)⟩, ⟨.int .i64, n4⟩, ⟨.int .i64, n5⟩, ⟨.str, s⟩, ⟨.int .i64, most⟩] =
    afterR (s.getD i 0) o i n4 n5 s most nx
  | q, 0, k, _, h => by omega
  | 0, m + 1, k, hk, _ => by
    obtain rfl : k = 64 := by omega
    have w1 : IntKind.i64.wrap ((i : Int) + 1) = (i : Int) + 1 := w64 (by omega)
    have w2 : IntKind.i64.wrap (n4 + 6) = n4 + 6 := w64 (by omega)
    rw [Rd_L2, bif_neg (by decide)]
    unfold atBelow afterR
    cases hv : numU (s.getD i 0) with
    | none => rw [bif_pos (by decide)]
    | some v =>
      have hv2 := (numU_spec hv).1
      have w3 : IntKind.i64.wrap (IntKind.i64.wrap (n5 * 64) + (v : Int)) = n5 * 64 + v := by rw [w64 (n := n5 * 64) (by omega), w64 (by omega)]
      simp only [if_pos hv2]
      rw [bif_neg (by simp), w2, w1, w3]
      by_cases h8 : 8 ≤ n4 + 6
      · have w4 : IntKind.i64.wrap (n4 + 6 - 8) = n4 + 6 - 8 := w64 (by omega)
        rw [bif_pos (by simp; omega), w4, need_dec (by omega), if_pos h8]
        have hq : 0 ≤ IntKind.u8.wrap (Int.fdiv (Int.tmod (n5 * 64 + v) 65536) ((2 : Int) ^ Min.min (Int.toNat (n4 + 6 - 8)) 64)) ∧ IntKind.u8.wrap (Int.fdiv (Int.tmod (n5 * 64 + v) 65536) ((2 : Int) ^ Min.min (Int.toNat (n4 + 6 - 8)) 64)) < 256 := by
          rw [IntKind.wrap_u8]
          omega
        rw [need_dec hq.1, need_dec hq.2, need_dec (by simp; omega), need_dec (by simp; omega)]
      · rw [bif_neg (by simp; omega), if_neg h8]
  | q + 1, m + 1, k, hk, hm => by
    have eg : s.getD (Int.toNat (i : Int)) (UInt8.ofNat 0) = s.getD i 0 := rfl
    have w2 : IntKind.i64.wrap ((k : Int) + 1) = ((k + 1 : Nat) : Int) := by rw [w64 (by omega)]; omega
    rw [Rd_L2, bif_pos (by simp; omega), need_dec (by omega), need_dec (by omega), need_dec (by omega), need_dec (by omega), eg, w2]
    have hl := lets_eq k (by omega) (s.getD i 0)
    by_cases hc : numU (s.getD i 0) = some k
    · rw [bif_pos (by rw [beq_iff_eq]; exact hl.2 hc)]
      have e : (k : Int) = atBelow (s.getD i 0) (k + 1) := by unfold atBelow; rw [hc]; simp
      rw [e]
      exact rd2_ok n nx s i hi hs o ho n4 n5 h4 h5 most q m (k + 1) (by omega) (by omega)
    · rw [bif_neg (by
        cases hb : (((lets.getD (Int.toNat (k : Int)) (UInt8.ofNat 0)).toNat : Int) == ((s.getD i 0).toNat : Int)) with
        | false => rfl
        | true => exact absurd (hl.1 (by simpa using hb)) hc)]
      have e : atBelow (s.getD i 0) k = atBelow (s.getD i 0) (k + 1) := by
        unfold atBelow
        split
        · rename_i v hv
          have : v ≠ k := fun e => hc (by rw [hv, e])
          by_cases h1 : v < k
          · rw [if_pos h1, if_pos (by omega)]
          · rw [if_neg h1, if_neg (by omega)]
        · rfl
      rw [e]
      exact rd2_ok n nx s i hi hs o ho n4 n5 h4 h5 most q m (k + 1) (by omega) (by omega)

/-- Up to the first pad. -/
def cutP (s : List UInt8) : List UInt8 := s.takeWhile fun b => (b.toNat : Int) != 61
def finR (o s : List UInt8) (most : Int) : List UInt8 × Int := if enc o = s then (if most < o.length then ([], 4) else (o, 0)) else ([], 3)

theorem rd0_ok (n : Nat) (hn : 65 ≤ n) (nx : Nat → List Dy → Option (List Dy)) (s : List UInt8) (most : Int) (hs : s.length < 900000000) : ∀ (m : Nat) (st : StE) (i : Nat) (w : Nat), OkD st → i ≤ s.length → s.length - i < m → st.1.length + (s.length - i) < 900000000 → w < 65536 → w % 2 ^ st.2.2 = st.2.1 →
    RL SRd [.str, .int .i64] n 14 0 nx m [⟨.list 5 .byte, st.1⟩, ⟨.int .i64, (i : Int)⟩, ⟨.int .i64, (st.2.2 : Int)⟩, ⟨.int .i64, (w : Int)⟩, ⟨.str, s⟩, ⟨.int .i64, most⟩] =
    retD (match nums (cutP (s.drop i)) with
      | none => ([], 3)
      | some ns => finR (foldD st ns).1 s most)
  | 0, st, i, w, _, _, h, _, _, _ => by omega
  | m + 1, st, i, w, hst, hi, hm, ho, hw, hwr => by
    have eg : s.getD (Int.toNat (i : Int)) (UInt8.ofNat 0) = s.getD i 0 := rfl
    rw [Rd_L0, need_pos (by simp), need_pos (by simp), eg]
    by_cases hlt : i < s.length
    · have e : s.drop i = s.getD i 0 :: s.drop (i + 1) := by
        rw [List.drop_eq_getElem_cons hlt, List.getD_eq_getElem?_getD, List.getElem?_eq_getElem hlt]; rfl
      by_cases hc : ((s.getD i 0).toNat : Int) = 61
      · rw [bif_neg (by simp [hc, -List.getD_eq_getElem?_getD]), need_dec (by omega), e]
        have : cutP (s.getD i 0 :: s.drop (i + 1)) = [] := by simp [cutP, hc, -List.getD_eq_getElem?_getD]
        rw [this]
        exact fin st.1
      · have hcut : cutP (s.getD i 0 :: s.drop (i + 1)) = s.getD i 0 :: cutP (s.drop (i + 1)) := by simp [cutP, hc, -List.getD_eq_getElem?_getD]
        have hk6 : st.2.2 ≤ 6 := by
          rcases hst with ⟨_, h2⟩ | ⟨_, h2⟩ | ⟨_, h2⟩ | ⟨_, h2⟩ <;> omega
        have h2 := rd2_ok n (updNx nx 0 (RL SRd [.str, .int .i64] n 14 0 nx m)) s i hlt (by omega) st.1 (by omega) (st.2.2 : Int) (w : Int) (by omega) (by omega) most 64 n 0 (by omega) (by omega)
        have ea : atBelow (s.getD i 0) 0 = -1 := by unfold atBelow; split <;> simp
        rw [ea] at h2
        rw [bif_pos (by simp [hc, -List.getD_eq_getElem?_getD]; omega), show ((0 : Int)) = ((0 : Nat) : Int) from rfl, h2, e, hcut]
        unfold afterR
        cases hv : numU (s.getD i 0) with
        | none => simp only [nums, hv]; rfl
        | some v =>
          have hv2 := (numU_spec hv).1
          have hl := stepD_len (s := st) v
          have ih := rd0_ok n hn nx s most hs m (stepD st v) (i + 1) ((w * 64 + v) % 65536) (stepD_ok hst hv2) hlt (by omega) (by omega) (by omega)
          have em : Int.tmod ((w : Int) * 64 + v) 65536 = (((w * 64 + v) % 65536 : Nat) : Int) := rfl
          have step : (match nums (s.getD i 0 :: cutP (s.drop (i + 1))) with
              | none => ([], 3)
              | some ns => finR (foldD st ns).1 s most) = (match nums (cutP (s.drop (i + 1))) with
              | none => ([], 3)
              | some ns => finR (foldD (stepD st v) ns).1 s most) := by
            cases hnn : nums (cutP (s.drop (i + 1))) with
            | none => simp only [nums, hv, hnn]
            | some ns => simp only [nums, hv, hnn]; rfl
          rw [step]
          dsimp only
          rw [em]
          obtain ⟨o, r, k⟩ := st
          simp only at hwr ho hk6 ih hl ⊢
          have i1 : (i : Int) + 1 = ((i + 1 : Nat) : Int) := by omega
          rw [i1]
          rcases hst with ⟨h1, h2⟩ | ⟨h1, h2⟩ | ⟨h1, h2⟩ | ⟨h1, h2⟩ <;> simp only at h1 h2 <;> subst h2
          · rw [if_neg (by omega)]
            exact ih (by simp only [stepD]; omega)
          · rw [if_pos (by omega)]
            refine Eq.trans ?_ (ih (by simp only [stepD]; omega))
            have eb : IntKind.u8.wrap (Int.fdiv (((w * 64 + v) % 65536 : Nat) : Int) ((2 : Int) ^ Min.min (Int.toNat (((6 : Nat) : Int) + 6 - 8)) 64)) = ((r * 4 + v / 16 : Nat) : Int) := by
              have : ((2 : Int) ^ Min.min (Int.toNat (((6 : Nat) : Int) + 6 - 8)) 64) = ((16 : Nat) : Int) := rfl
              rw [this, fdiv_nat, IntKind.wrap_u8]
              omega
            rw [eb, Int.toNat_natCast]
            rfl
          · rw [if_pos (by omega)]
            refine Eq.trans ?_ (ih (by simp only [stepD]; omega))
            have eb : IntKind.u8.wrap (Int.fdiv (((w * 64 + v) % 65536 : Nat) : Int) ((2 : Int) ^ Min.min (Int.toNat (((4 : Nat) : Int) + 6 - 8)) 64)) = ((r * 16 + v / 4 : Nat) : Int) := by
              have : ((2 : Int) ^ Min.min (Int.toNat (((4 : Nat) : Int) + 6 - 8)) 64) = ((4 : Nat) : Int) := rfl
              rw [this, fdiv_nat, IntKind.wrap_u8]
              omega
            rw [eb, Int.toNat_natCast]
            rfl
          · rw [if_pos (by omega)]
            refine Eq.trans ?_ (ih (by simp only [stepD]; omega))
            have eb : IntKind.u8.wrap (Int.fdiv (((w * 64 + v) % 65536 : Nat) : Int) ((2 : Int) ^ Min.min (Int.toNat (((2 : Nat) : Int) + 6 - 8)) 64)) = ((r * 64 + v : Nat) : Int) := by
              have : ((2 : Int) ^ Min.min (Int.toNat (((2 : Nat) : Int) + 6 - 8)) 64) = ((1 : Nat) : Int) := rfl
              rw [this, fdiv_nat, IntKind.wrap_u8]
              omega
            rw [eb, Int.toNat_natCast]
            rfl
    · have e : i = s.length := by omega
      subst e
      rw [bif_neg (by simp), need_dec (by omega), List.drop_length]
      exact fin st.1
where
  fin (o : List UInt8) {s : List UInt8} {most : Int} : (bif (!(enc o == s)) then some [⟨.str, ([] : List UInt8)⟩, ⟨.int .i64, (3 : Int)⟩] else bif (decide (most < (o.length : Int))) then some [⟨.str, ([] : List UInt8)⟩, ⟨.int .i64, (4 : Int)⟩] else some [⟨.str, o⟩, ⟨.int .i64, (0 : Int)⟩] : Option (List Dy)) = retD (finR o s most) := by
    unfold finR
    by_cases h : enc o = s
    · rw [if_pos h, bif_neg (by simp [h]), bif_dec]
      split <;> rfl
    · rw [if_neg h, bif_pos (by simp [h])]
      rfl

/-- Up to the first pad, letters of bytes are their letters. -/
theorem cutP_pads (ns : List Nat) (h : ∀ n ∈ ns, n < 64) (j : Nat) : cutP (ns.map Lb ++ List.replicate j 61) = ns.map Lb := by
  induction ns with
  | nil =>
    cases j with
    | zero => rfl
    | succ j => simp [cutP, List.replicate_succ]
  | cons n r ih =>
    have hn := Lb_ne n (h n (by simp))
    have := ih fun m hm => h m (by simp [hm])
    simp only [cutP] at this
    simp only [cutP, List.map_cons, List.cons_append, List.takeWhile_cons]
    rw [this]
    simp [hn]

theorem refD (s : List UInt8) (most : Int) : (match nums (cutP s) with
      | none => ([], 3)
      | some ns => finR (foldD ([], 0, 0) ns).1 s most) = decR s most := by
  unfold decR
  cases hd : decO s with
  | some o =>
    have he := (decO_iff s o).1 hd
    obtain ⟨ns, j, h1, h2, h3, h4, h5⟩ := enc_nums o
    have : cutP s = ns.map Lb := by rw [← he, h1]; exact cutP_pads ns h2 j
    rw [this, nums_map ns h2]
    simp only
    rw [h3]
    unfold finR
    rw [if_pos he]
  | none =>
    split
    · rfl
    · rename_i ns _
      unfold finR
      rw [if_neg]
      intro e
      rw [(decO_iff s _).2 e] at hd
      cases hd

/-- What the document's Decode answers. -/
theorem rd_ok (s : List UInt8) (most : Int) (hs : s.length < 400000000) : ∃ n, fnY SRd loopY [.hole .str, .hole (.int .i64)] [.str, .int .i64] n 14 [⟨.str, s⟩, ⟨.int .i64, most⟩] = retD (decR s most) := by
  refine ⟨s.length + 66, ?_⟩
  rw [Rd_fn]
  have := rd0_ok (s.length + 66) (by omega) noNx s most (by omega) (s.length + 66) ([], 0, 0) 0 0 (.inl ⟨rfl, rfl⟩) (by omega) (by omega) (by simp; omega) (by omega) rfl
  rw [List.drop_zero, refD] at this
  exact this

end Go.Proofs.YtfjbcoahjinehaaDoor

/-
  Chapter 17: contracts of both Decodes.
-/
namespace Go.Proofs.YtfjbcoahjinehaaDoor
open Go Go.Am
def cDe : Ctr := ctr2 .str (.int .i64) [.str, .int .i64] (fun (s : List UInt8) _ => [decide (s.length ≤ 300000000)]) fun (s : List UInt8) (most : Int) => [⟨.str, (decR s most).1⟩, ⟨.int .i64, (decR s most).2⟩]
theorem cDe_ok : CtrOk E1 13 cDe := ctr2_ok (S := SDe) (t := .str) (u := .int .i64) (S_ok ctrs2_ok) (fun _ => rfl) rfl fun (s : List UInt8) (most : Int) h => by
  simp only [List.all_cons, id, decide_eq_true_eq, List.all_nil, Bool.and_true] at h
  exact de_ok s most (by omega)
theorem cRd_ok : CtrOk E1 14 cDe := ctr2_ok (S := SRd) (t := .str) (u := .int .i64) (S_ok ctrs2_ok) (fun _ => rfl) rfl fun (s : List UInt8) (most : Int) h => by
  simp only [List.all_cons, id, decide_eq_true_eq, List.all_nil, Bool.and_true] at h
  exact rd_ok s most (by omega)
def ctrs3 : FuncId → List Ctr := addCtr (addCtr ctrs2 13 cDe) 14 cDe
theorem ctrs3_ok : ∀ g ct, ct ∈ ctrs3 g → CtrOk E1 g ct := addCtr_ok (addCtr_ok ctrs2_ok cDe_ok) cRd_ok
end Go.Proofs.YtfjbcoahjinehaaDoor

/-
  Printed by a tool of this session: what functions come to.
-/
namespace Go.Proofs.YtfjbcoahjinehaaDoor
open Go Go.Am
set_option linter.unusedVariables false
def Ev_T2 : Tm := { tmps := [(4, (.hole (.int .i64)))], objs := [.dead, .dead, .dead, .dead, .dead, .dead, .dead, .dead, .dead, .dead, .dead, .dead, .dead, .dead, .dead, .dead, .dead, .dead, .dead, .dead, .dead, .dead, .dead, .dead, .dead, .dead, .dead, .dead, .dead, .dead, .dead, .dead, .dead, .dead, .dead, .dead, .dead, .dead, .dead, .dead, .dead, .dead, .dead, .dead, .dead, .dead, .dead, .dead, .dead, .dead, .dead, .dead, .dead, .dead, .dead, .dead, .dead, .dead, .dead, .dead, .dead, .dead, .dead, .dead, .dead, .dead, .dead, .dead, .dead, .dead, .dead, .dead, .dead, .dead, .dead, .dead, .dead, .dead, .dead, .dead, .dead, .dead, .dead, .dead, .dead, .dead, .dead, .dead, .dead, .dead, .dead, .dead, .dead, .dead, .dead, .dead, .dead, .dead, .dead, .dead, .dead, .dead, .dead, .dead, .dead, .dead, .dead, .dead, .dead, .dead, .dead, .dead, .dead, .dead, .dead, .dead, .dead, .dead, .dead, .dead, .dead, .dead, .dead, .dead, .dead, .dead, .dead, .dead, .dead, .dead, .dead, .dead, .dead, .dead, .dead, .dead, .dead, .dead, .dead, .dead, .dead, .dead, .dead, .dead, .dead, .dead, .dead, .dead, .dead, .dead, .dead, .dead, .dead, .dead, .dead, .dead, .dead, .dead, .dead, .dead, .dead, .dead, .dead, .dead, .dead, .dead, .dead, .dead, .dead, .dead, .dead, .dead, .dead, .dead, .dead, .dead, .dead, .dead, .dead, .dead, .dead, .dead, .dead, .dead, .dead, .dead, .dead, .dead, .dead, .dead, .dead, .dead, .dead] }
def tmEv : FuncId → Nat → Option Tm := fun g i => match Nat.beq g 6 with
  | true => match Nat.beq i 2 with | true => some Ev_T2 | false => none
  | false => none
noncomputable def SEv : SE := { E := Go.Proofs.YtfjbcoahjinehaaDoor.E1, ctr := Go.Proofs.YtfjbcoahjinehaaDoor.ctrs3, tm := tmEv, un := 300 }
theorem Ev_L2 (n : Nat) (nx : Nat → List Dy → Option (List Dy)) (m : Nat) (n0 : Int) :
    RL SEv [.bool] n 6 2 nx (m + 1) [⟨(.int .i64), n0⟩] =
    (bif (Decidable.decide (n0 < (256 : Int))) then
      need (Decidable.decide ((0 : Int) ≤ Go.IntKind.wrap Go.IntKind.u8 n0)) <|
      need (Decidable.decide (Go.IntKind.wrap Go.IntKind.u8 n0 < (256 : Int))) <|
      need (Decidable.decide ((0 : Int) ≤ Go.IntKind.wrap Go.IntKind.u8 n0)) <|
      need (Decidable.decide (Go.IntKind.wrap Go.IntKind.u8 n0 < (256 : Int))) <|
      bif (!(Prod.fst (Go.Proofs.YtfjbcoahjinehaaDoor.decR (Go.Proofs.YtfjbcoahjinehaaDoor.enc (List.flatten [[UInt8.ofNat (Int.toNat (Go.IntKind.wrap Go.IntKind.u8 n0))]])) (1 : Int)) == [UInt8.ofNat (Int.toNat (Go.IntKind.wrap Go.IntKind.u8 n0))] && Prod.snd (Go.Proofs.YtfjbcoahjinehaaDoor.decR (Go.Proofs.YtfjbcoahjinehaaDoor.enc (List.flatten [[UInt8.ofNat (Int.toNat (Go.IntKind.wrap Go.IntKind.u8 n0))]])) (1 : Int)) == (0 : Int))) then
        some [⟨.bool, (Bool.false : Bool)⟩]
      else
        RL SEv [.bool] n 6 2 nx m [⟨(.int .i64), (Go.IntKind.wrap Go.IntKind.i64 (n0 + (1 : Int)) : Int)⟩]
    else
      some [⟨.bool, (Bool.true : Bool)⟩]) := by kernel_rfl
theorem Ev_fn (n : Nat) :
    fnY SEv loopY [] [.bool] n 6 [] =
    (RL SEv [.bool] n 6 2 noNx n [⟨(.int .i64), ((0 : Int) : Int)⟩]) := by kernel_rfl

end Go.Proofs.YtfjbcoahjinehaaDoor

/-
  Printed by a tool of this session: what functions come to.
-/
namespace Go.Proofs.YtfjbcoahjinehaaDoor
open Go Go.Am
set_option linter.unusedVariables false
def tmL3 : FuncId → Nat → Option Tm := fun g i => match Nat.beq g 3 with
  | true => none
  | false => none
noncomputable def SL3 : SE := { E := Go.Proofs.YtfjbcoahjinehaaDoor.E1, ctr := Go.Proofs.YtfjbcoahjinehaaDoor.ctrs3, tm := tmL3, un := 300 }
theorem L3_fn (n : Nat) (s0 : List UInt8) (p1 : UInt8 × UInt8 × PUnit) :
    fnY SL3 loopY [(.hole .str), (.hole (.pair .byte (.pair .byte .unit)))] [.bool] n 3 [⟨.str, s0⟩, ⟨(.pair .byte (.pair .byte .unit)), p1⟩] =
    (need (Decidable.decide ((0 : Int) ≤ if (150 : Int) < (↑(List.length s0) : Int) then (150 : Int) else (↑(List.length s0) : Int))) <|
    need (Decidable.decide ((if (150 : Int) < (↑(List.length s0) : Int) then (150 : Int) else (↑(List.length s0) : Int)) ≤ (↑(List.length s0) : Int))) <|
    need (Decidable.decide (List.length (List.take (Int.toNat (if (150 : Int) < (↑(List.length s0) : Int) then (150 : Int) else (↑(List.length s0) : Int))) s0) ≤ (1000000000 : Nat))) <|
    need (!Decidable.decide (Go.IntKind.wrap Go.IntKind.i64 ((↑(List.length (List.take (Int.toNat (if (150 : Int) < (↑(List.length s0) : Int) then (150 : Int) else (↑(List.length s0) : Int))) s0)) : Int) + (1 : Int)) = (0 : Int))) <|
    need (!Decidable.decide (Go.IntKind.wrap Go.IntKind.i64 (Go.IntKind.wrap Go.IntKind.i64 ((↑(List.length (List.take (Int.toNat (if (150 : Int) < (↑(List.length s0) : Int) then (150 : Int) else (↑(List.length s0) : Int))) s0)) : Int) - Int.tmod (Go.IntKind.wrap Go.IntKind.i64 (↑(UInt8.toNat (Prod.fst p1)) : Int)) (Go.IntKind.wrap Go.IntKind.i64 ((↑(List.length (List.take (Int.toNat (if (150 : Int) < (↑(List.length s0) : Int) then (150 : Int) else (↑(List.length s0) : Int))) s0)) : Int) + (1 : Int)))) + (1 : Int)) = (0 : Int))) <|
    need (Decidable.decide (List.length (List.flatten [List.take (Int.toNat (if (150 : Int) < (↑(List.length s0) : Int) then (150 : Int) else (↑(List.length s0) : Int))) s0]) ≤ (1000000000 : Nat))) <|
    bif (Go.Proofs.YtfjbcoahjinehaaDoor.enc (List.flatten [List.take (Int.toNat (if (150 : Int) < (↑(List.length s0) : Int) then (150 : Int) else (↑(List.length s0) : Int))) s0]) == Go.Proofs.YtfjbcoahjinehaaDoor.enc (List.take (Int.toNat (if (150 : Int) < (↑(List.length s0) : Int) then (150 : Int) else (↑(List.length s0) : Int))) s0)) then
      need (Decidable.decide ((0 : Int) ≤ Int.tmod (Go.IntKind.wrap Go.IntKind.i64 (↑(UInt8.toNat (Prod.fst p1)) : Int)) (Go.IntKind.wrap Go.IntKind.i64 ((↑(List.length (List.take (Int.toNat (if (150 : Int) < (↑(List.length s0) : Int) then (150 : Int) else (↑(List.length s0) : Int))) s0)) : Int) + (1 : Int))))) <|
      need (Decidable.decide (Int.tmod (Go.IntKind.wrap Go.IntKind.i64 (↑(UInt8.toNat (Prod.fst p1)) : Int)) (Go.IntKind.wrap Go.IntKind.i64 ((↑(List.length (List.take (Int.toNat (if (150 : Int) < (↑(List.length s0) : Int) then (150 : Int) else (↑(List.length s0) : Int))) s0)) : Int) + (1 : Int))) ≤ (↑(List.length (List.take (Int.toNat (if (150 : Int) < (↑(List.length s0) : Int) then (150 : Int) else (↑(List.length s0) : Int))) s0)) : Int))) <|
      need (Decidable.decide ((0 : Int) ≤ Int.tmod (Go.IntKind.wrap Go.IntKind.i64 (↑(UInt8.toNat (Prod.fst p1)) : Int)) (Go.IntKind.wrap Go.IntKind.i64 ((↑(List.length (List.take (Int.toNat (if (150 : Int) < (↑(List.length s0) : Int) then (150 : Int) else (↑(List.length s0) : Int))) s0)) : Int) + (1 : Int))))) <|
      need (Decidable.decide (Int.tmod (Go.IntKind.wrap Go.IntKind.i64 (↑(UInt8.toNat (Prod.fst p1)) : Int)) (Go.IntKind.wrap Go.IntKind.i64 ((↑(List.length (List.take (Int.toNat (if (150 : Int) < (↑(List.length s0) : Int) then (150 : Int) else (↑(List.length s0) : Int))) s0)) : Int) + (1 : Int))) ≤ Go.IntKind.wrap Go.IntKind.i64 (Int.tmod (Go.IntKind.wrap Go.IntKind.i64 (↑(UInt8.toNat (Prod.fst p1)) : Int)) (Go.IntKind.wrap Go.IntKind.i64 ((↑(List.length (List.take (Int.toNat (if (150 : Int) < (↑(List.length s0) : Int) then (150 : Int) else (↑(List.length s0) : Int))) s0)) : Int) + (1 : Int))) + Int.tmod (Go.IntKind.wrap Go.IntKind.i64 (↑(UInt8.toNat (Prod.fst (Prod.snd p1))) : Int)) (Go.IntKind.wrap Go.IntKind.i64 (Go.IntKind.wrap Go.IntKind.i64 ((↑(List.length (List.take (Int.toNat (if (150 : Int) < (↑(List.length s0) : Int) then (150 : Int) else (↑(List.length s0) : Int))) s0)) : Int) - Int.tmod (Go.IntKind.wrap Go.IntKind.i64 (↑(UInt8.toNat (Prod.fst p1)) : Int)) (Go.IntKind.wrap Go.IntKind.i64 ((↑(List.length (List.take (Int.toNat (if (150 : Int) < (↑(List.length s0) : Int) then (150 : Int) else (↑(List.length s0) : Int))) s0)) : Int) + (1 : Int)))) + (1 : Int)))))) <|
      need (Decidable.decide (Go.IntKind.wrap Go.IntKind.i64 (Int.tmod (Go.IntKind.wrap Go.IntKind.i64 (↑(UInt8.toNat (Prod.fst p1)) : Int)) (Go.IntKind.wrap Go.IntKind.i64 ((↑(List.length (List.take (Int.toNat (if (150 : Int) < (↑(List.length s0) : Int) then (150 : Int) else (↑(List.length s0) : Int))) s0)) : Int) + (1 : Int))) + Int.tmod (Go.IntKind.wrap Go.IntKind.i64 (↑(UInt8.toNat (Prod.fst (Prod.snd p1))) : Int)) (Go.IntKind.wrap Go.IntKind.i64 (Go.IntKind.wrap Go.IntKind.i64 ((↑(List.length (List.take (Int.toNat (if (150 : Int) < (↑(List.length s0) : Int) then (150 : Int) else (↑(List.length s0) : Int))) s0)) : Int) - Int.tmod (Go.IntKind.wrap Go.IntKind.i64 (↑(UInt8.toNat (Prod.fst p1)) : Int)) (Go.IntKind.wrap Go.IntKind.i64 ((↑(List.length (List.take (Int.toNat (if (150 : Int) < (↑(List.length s0) : Int) then (150 : Int) else (↑(List.length s0) : Int))) s0)) : Int) + (1 : Int)))) + (1 : Int)))) ≤ (↑(List.length (List.take (Int.toNat (if (150 : Int) < (↑(List.length s0) : Int) then (150 : Int) else (↑(List.length s0) : Int))) s0)) : Int))) <|
      need (Decidable.decide ((0 : Int) ≤ Go.IntKind.wrap Go.IntKind.i64 (Int.tmod (Go.IntKind.wrap Go.IntKind.i64 (↑(UInt8.toNat (Prod.fst p1)) : Int)) (Go.IntKind.wrap Go.IntKind.i64 ((↑(List.length (List.take (Int.toNat (if (150 : Int) < (↑(List.length s0) : Int) then (150 : Int) else (↑(List.length s0) : Int))) s0)) : Int) + (1 : Int))) + Int.tmod (Go.IntKind.wrap Go.IntKind.i64 (↑(UInt8.toNat (Prod.fst (Prod.snd p1))) : Int)) (Go.IntKind.wrap Go.IntKind.i64 (Go.IntKind.wrap Go.IntKind.i64 ((↑(List.length (List.take (Int.toNat (if (150 : Int) < (↑(List.length s0) : Int) then (150 : Int) else (↑(List.length s0) : Int))) s0)) : Int) - Int.tmod (Go.IntKind.wrap Go.IntKind.i64 (↑(UInt8.toNat (Prod.fst p1)) : Int)) (Go.IntKind.wrap Go.IntKind.i64 ((↑(List.length (List.take (Int.toNat (if (150 : Int) < (↑(List.length s0) : Int) then (150 : Int) else (↑(List.length s0) : Int))) s0)) : Int) + (1 : Int)))) + (1 : Int)))))) <|
      need (Decidable.decide (Go.IntKind.wrap Go.IntKind.i64 (Int.tmod (Go.IntKind.wrap Go.IntKind.i64 (↑(UInt8.toNat (Prod.fst p1)) : Int)) (Go.IntKind.wrap Go.IntKind.i64 ((↑(List.length (List.take (Int.toNat (if (150 : Int) < (↑(List.length s0) : Int) then (150 : Int) else (↑(List.length s0) : Int))) s0)) : Int) + (1 : Int))) + Int.tmod (Go.IntKind.wrap Go.IntKind.i64 (↑(UInt8.toNat (Prod.fst (Prod.snd p1))) : Int)) (Go.IntKind.wrap Go.IntKind.i64 (Go.IntKind.wrap Go.IntKind.i64 ((↑(List.length (List.take (Int.toNat (if (150 : Int) < (↑(List.length s0) : Int) then (150 : Int) else (↑(List.length s0) : Int))) s0)) : Int) - Int.tmod (Go.IntKind.wrap Go.IntKind.i64 (↑(UInt8.toNat (Prod.fst p1)) : Int)) (Go.IntKind.wrap Go.IntKind.i64 ((↑(List.length (List.take (Int.toNat (if (150 : Int) < (↑(List.length s0) : Int) then (150 : Int) else (↑(List.length s0) : Int))) s0)) : Int) + (1 : Int)))) + (1 : Int)))) ≤ (↑(List.length (List.take (Int.toNat (if (150 : Int) < (↑(List.length s0) : Int) then (150 : Int) else (↑(List.length s0) : Int))) s0)) : Int))) <|
      need (Decidable.decide ((↑(List.length (List.take (Int.toNat (if (150 : Int) < (↑(List.length s0) : Int) then (150 : Int) else (↑(List.length s0) : Int))) s0)) : Int) ≤ (↑(List.length (List.take (Int.toNat (if (150 : Int) < (↑(List.length s0) : Int) then (150 : Int) else (↑(List.length s0) : Int))) s0)) : Int))) <|
      need (Decidable.decide (List.length (List.flatten [List.take (Int.toNat (Int.tmod (Go.IntKind.wrap Go.IntKind.i64 (↑(UInt8.toNat (Prod.fst p1)) : Int)) (Go.IntKind.wrap Go.IntKind.i64 ((↑(List.length (List.take (Int.toNat (if (150 : Int) < (↑(List.length s0) : Int) then (150 : Int) else (↑(List.length s0) : Int))) s0)) : Int) + (1 : Int))))) (List.take (Int.toNat (if (150 : Int) < (↑(List.length s0) : Int) then (150 : Int) else (↑(List.length s0) : Int))) s0), List.take (Int.toNat (Go.IntKind.wrap Go.IntKind.i64 (Int.tmod (Go.IntKind.wrap Go.IntKind.i64 (↑(UInt8.toNat (Prod.fst p1)) : Int)) (Go.IntKind.wrap Go.IntKind.i64 ((↑(List.length (List.take (Int.toNat (if (150 : Int) < (↑(List.length s0) : Int) then (150 : Int) else (↑(List.length s0) : Int))) s0)) : Int) + (1 : Int))) + Int.tmod (Go.IntKind.wrap Go.IntKind.i64 (↑(UInt8.toNat (Prod.fst (Prod.snd p1))) : Int)) (Go.IntKind.wrap Go.IntKind.i64 (Go.IntKind.wrap Go.IntKind.i64 ((↑(List.length (List.take (Int.toNat (if (150 : Int) < (↑(List.length s0) : Int) then (150 : Int) else (↑(List.length s0) : Int))) s0)) : Int) - Int.tmod (Go.IntKind.wrap Go.IntKind.i64 (↑(UInt8.toNat (Prod.fst p1)) : Int)) (Go.IntKind.wrap Go.IntKind.i64 ((↑(List.length (List.take (Int.toNat (if (150 : Int) < (↑(List.length s0) : Int) then (150 : Int) else (↑(List.length s0) : Int))) s0)) : Int) + (1 : Int)))) + (1 : Int))))) - Int.toNat (Int.tmod (Go.IntKind.wrap Go.IntKind.i64 (↑(UInt8.toNat (Prod.fst p1)) : Int)) (Go.IntKind.wrap Go.IntKind.i64 ((↑(List.length (List.take (Int.toNat (if (150 : Int) < (↑(List.length s0) : Int) then (150 : Int) else (↑(List.length s0) : Int))) s0)) : Int) + (1 : Int))))) (List.drop (Int.toNat (Int.tmod (Go.IntKind.wrap Go.IntKind.i64 (↑(UInt8.toNat (Prod.fst p1)) : Int)) (Go.IntKind.wrap Go.IntKind.i64 ((↑(List.length (List.take (Int.toNat (if (150 : Int) < (↑(List.length s0) : Int) then (150 : Int) else (↑(List.length s0) : Int))) s0)) : Int) + (1 : Int))))) (List.take (Int.toNat (if (150 : Int) < (↑(List.length s0) : Int) then (150 : Int) else (↑(List.length s0) : Int))) s0)), List.take (Int.toNat (↑(List.length (List.take (Int.toNat (if (150 : Int) < (↑(List.length s0) : Int) then (150 : Int) else (↑(List.length s0) : Int))) s0)) : Int) - Int.toNat (Go.IntKind.wrap Go.IntKind.i64 (Int.tmod (Go.IntKind.wrap Go.IntKind.i64 (↑(UInt8.toNat (Prod.fst p1)) : Int)) (Go.IntKind.wrap Go.IntKind.i64 ((↑(List.length (List.take (Int.toNat (if (150 : Int) < (↑(List.length s0) : Int) then (150 : Int) else (↑(List.length s0) : Int))) s0)) : Int) + (1 : Int))) + Int.tmod (Go.IntKind.wrap Go.IntKind.i64 (↑(UInt8.toNat (Prod.fst (Prod.snd p1))) : Int)) (Go.IntKind.wrap Go.IntKind.i64 (Go.IntKind.wrap Go.IntKind.i64 ((↑(List.length (List.take (Int.toNat (if (150 : Int) < (↑(List.length s0) : Int) then (150 : Int) else (↑(List.length s0) : Int))) s0)) : Int) - Int.tmod (Go.IntKind.wrap Go.IntKind.i64 (↑(UInt8.toNat (Prod.fst p1)) : Int)) (Go.IntKind.wrap Go.IntKind.i64 ((↑(List.length (List.take (Int.toNat (if (150 : Int) < (↑(List.length s0) : Int) then (150 : Int) else (↑(List.length s0) : Int))) s0)) : Int) + (1 : Int)))) + (1 : Int)))))) (List.drop (Int.toNat (Go.IntKind.wrap Go.IntKind.i64 (Int.tmod (Go.IntKind.wrap Go.IntKind.i64 (↑(UInt8.toNat (Prod.fst p1)) : Int)) (Go.IntKind.wrap Go.IntKind.i64 ((↑(List.length (List.take (Int.toNat (if (150 : Int) < (↑(List.length s0) : Int) then (150 : Int) else (↑(List.length s0) : Int))) s0)) : Int) + (1 : Int))) + Int.tmod (Go.IntKind.wrap Go.IntKind.i64 (↑(UInt8.toNat (Prod.fst (Prod.snd p1))) : Int)) (Go.IntKind.wrap Go.IntKind.i64 (Go.IntKind.wrap Go.IntKind.i64 ((↑(List.length (List.take (Int.toNat (if (150 : Int) < (↑(List.length s0) : Int) then (150 : Int) else (↑(List.length s0) : Int))) s0)) : Int) - Int.tmod (Go.IntKind.wrap Go.IntKind.i64 (↑(UInt8.toNat (Prod.fst p1)) : Int)) (Go.IntKind.wrap Go.IntKind.i64 ((↑(List.length (List.take (Int.toNat (if (150 : Int) < (↑(List.length s0) : Int) then (150 : Int) else (↑(List.length s0) : Int))) s0)) : Int) + (1 : Int)))) + (1 : Int)))))) (List.take (Int.toNat (if (150 : Int) < (↑(List.length s0) : Int) then (150 : Int) else (↑(List.length s0) : Int))) s0))]) ≤ (1000000000 : Nat))) <|
      bif (Go.Proofs.YtfjbcoahjinehaaDoor.enc (List.flatten [List.take (Int.toNat (Int.tmod (Go.IntKind.wrap Go.IntKind.i64 (↑(UInt8.toNat (Prod.fst p1)) : Int)) (Go.IntKind.wrap Go.IntKind.i64 ((↑(List.length (List.take (Int.toNat (if (150 : Int) < (↑(List.length s0) : Int) then (150 : Int) else (↑(List.length s0) : Int))) s0)) : Int) + (1 : Int))))) (List.take (Int.toNat (if (150 : Int) < (↑(List.length s0) : Int) then (150 : Int) else (↑(List.length s0) : Int))) s0), List.take (Int.toNat (Go.IntKind.wrap Go.IntKind.i64 (Int.tmod (Go.IntKind.wrap Go.IntKind.i64 (↑(UInt8.toNat (Prod.fst p1)) : Int)) (Go.IntKind.wrap Go.IntKind.i64 ((↑(List.length (List.take (Int.toNat (if (150 : Int) < (↑(List.length s0) : Int) then (150 : Int) else (↑(List.length s0) : Int))) s0)) : Int) + (1 : Int))) + Int.tmod (Go.IntKind.wrap Go.IntKind.i64 (↑(UInt8.toNat (Prod.fst (Prod.snd p1))) : Int)) (Go.IntKind.wrap Go.IntKind.i64 (Go.IntKind.wrap Go.IntKind.i64 ((↑(List.length (List.take (Int.toNat (if (150 : Int) < (↑(List.length s0) : Int) then (150 : Int) else (↑(List.length s0) : Int))) s0)) : Int) - Int.tmod (Go.IntKind.wrap Go.IntKind.i64 (↑(UInt8.toNat (Prod.fst p1)) : Int)) (Go.IntKind.wrap Go.IntKind.i64 ((↑(List.length (List.take (Int.toNat (if (150 : Int) < (↑(List.length s0) : Int) then (150 : Int) else (↑(List.length s0) : Int))) s0)) : Int) + (1 : Int)))) + (1 : Int))))) - Int.toNat (Int.tmod (Go.IntKind.wrap Go.IntKind.i64 (↑(UInt8.toNat (Prod.fst p1)) : Int)) (Go.IntKind.wrap Go.IntKind.i64 ((↑(List.length (List.take (Int.toNat (if (150 : Int) < (↑(List.length s0) : Int) then (150 : Int) else (↑(List.length s0) : Int))) s0)) : Int) + (1 : Int))))) (List.drop (Int.toNat (Int.tmod (Go.IntKind.wrap Go.IntKind.i64 (↑(UInt8.toNat (Prod.fst p1)) : Int)) (Go.IntKind.wrap Go.IntKind.i64 ((↑(List.length (List.take (Int.toNat (if (150 : Int) < (↑(List.length s0) : Int) then (150 : Int) else (↑(List.length s0) : Int))) s0)) : Int) + (1 : Int))))) (List.take (Int.toNat (if (150 : Int) < (↑(List.length s0) : Int) then (150 : Int) else (↑(List.length s0) : Int))) s0)), List.take (Int.toNat (↑(List.length (List.take (Int.toNat (if (150 : Int) < (↑(List.length s0) : Int) then (150 : Int) else (↑(List.length s0) : Int))) s0)) : Int) - Int.toNat (Go.IntKind.wrap Go.IntKind.i64 (Int.tmod (Go.IntKind.wrap Go.IntKind.i64 (↑(UInt8.toNat (Prod.fst p1)) : Int)) (Go.IntKind.wrap Go.IntKind.i64 ((↑(List.length (List.take (Int.toNat (if (150 : Int) < (↑(List.length s0) : Int) then (150 : Int) else (↑(List.length s0) : Int))) s0)) : Int) + (1 : Int))) + Int.tmod (Go.IntKind.wrap Go.IntKind.i64 (↑(UInt8.toNat (Prod.fst (Prod.snd p1))) : Int)) (Go.IntKind.wrap Go.IntKind.i64 (Go.IntKind.wrap Go.IntKind.i64 ((↑(List.length (List.take (Int.toNat (if (150 : Int) < (↑(List.length s0) : Int) then (150 : Int) else (↑(List.length s0) : Int))) s0)) : Int) - Int.tmod (Go.IntKind.wrap Go.IntKind.i64 (↑(UInt8.toNat (Prod.fst p1)) : Int)) (Go.IntKind.wrap Go.IntKind.i64 ((↑(List.length (List.take (Int.toNat (if (150 : Int) < (↑(List.length s0) : Int) then (150 : Int) else (↑(List.length s0) : Int))) s0)) : Int) + (1 : Int)))) + (1 : Int)))))) (List.drop (Int.toNat (Go.IntKind.wrap Go.IntKind.i64 (Int.tmod (Go.IntKind.wrap Go.IntKind.i64 (↑(UInt8.toNat (Prod.fst p1)) : Int)) (Go.IntKind.wrap Go.IntKind.i64 ((↑(List.length (List.take (Int.toNat (if (150 : Int) < (↑(List.length s0) : Int) then (150 : Int) else (↑(List.length s0) : Int))) s0)) : Int) + (1 : Int))) + Int.tmod (Go.IntKind.wrap Go.IntKind.i64 (↑(UInt8.toNat (Prod.fst (Prod.snd p1))) : Int)) (Go.IntKind.wrap Go.IntKind.i64 (Go.IntKind.wrap Go.IntKind.i64 ((↑(List.length (List.take (Int.toNat (if (150 : Int) < (↑(List.length s0) : Int) then (150 : Int) else (↑(List.length s0) : Int))) s0)) : Int) - Int.tmod (Go.IntKind.wrap Go.IntKind.i64 (↑(UInt8.toNat (Prod.fst p1)) : Int)) (Go.IntKind.wrap Go.IntKind.i64 ((↑(List.length (List.take (Int.toNat (if (150 : Int) < (↑(List.length s0) : Int) then (150 : Int) else (↑(List.length s0) : Int))) s0)) : Int) + (1 : Int)))) + (1 : Int)))))) (List.take (Int.toNat (if (150 : Int) < (↑(List.length s0) : Int) then (150 : Int) else (↑(List.length s0) : Int))) s0))]) == Go.Proofs.YtfjbcoahjinehaaDoor.enc (List.take (Int.toNat (if (150 : Int) < (↑(List.length s0) : Int) then (150 : Int) else (↑(List.length s0) : Int))) s0)) then
        need (Decidable.decide ((↑(List.length (List.take (Int.toNat (if (150 : Int) < (↑(List.length s0) : Int) then (150 : Int) else (↑(List.length s0) : Int))) s0)) : Int) ≤ (1152921504606846976 : Int))) <|
        bif (Go.Proofs.YtfjbcoahjinehaaDoor.size6 (↑(List.length (List.take (Int.toNat (if (150 : Int) < (↑(List.length s0) : Int) then (150 : Int) else (↑(List.length s0) : Int))) s0)) : Int) == (↑(List.length (Go.Proofs.YtfjbcoahjinehaaDoor.enc (List.take (Int.toNat (if (150 : Int) < (↑(List.length s0) : Int) then (150 : Int) else (↑(List.length s0) : Int))) s0))) : Int)) then
          some [⟨.bool, (Bool.true : Bool)⟩]
        else
          some [⟨.bool, (Bool.false : Bool)⟩]
      else
        some [⟨.bool, (Bool.false : Bool)⟩]
    else
      some [⟨.bool, (Bool.false : Bool)⟩]) := by kernel_rfl

def tmL5 : FuncId → Nat → Option Tm := fun g i => match Nat.beq g 5 with
  | true => none
  | false => none
noncomputable def SL5 : SE := { E := Go.Proofs.YtfjbcoahjinehaaDoor.E1, ctr := Go.Proofs.YtfjbcoahjinehaaDoor.ctrs3, tm := tmL5, un := 300 }
theorem L5_fn (n : Nat) (s0 : List UInt8) (s1 : List UInt8) :
    fnY SL5 loopY [(.hole .str), (.hole .str)] [.bool] n 5 [⟨.str, s0⟩, ⟨.str, s1⟩] =
    (need (Decidable.decide ((0 : Int) ≤ if (150 : Int) < (↑(List.length s0) : Int) then (150 : Int) else (↑(List.length s0) : Int))) <|
    need (Decidable.decide ((if (150 : Int) < (↑(List.length s0) : Int) then (150 : Int) else (↑(List.length s0) : Int)) ≤ (↑(List.length s0) : Int))) <|
    need (Decidable.decide ((0 : Int) ≤ if (150 : Int) < (↑(List.length s1) : Int) then (150 : Int) else (↑(List.length s1) : Int))) <|
    need (Decidable.decide ((if (150 : Int) < (↑(List.length s1) : Int) then (150 : Int) else (↑(List.length s1) : Int)) ≤ (↑(List.length s1) : Int))) <|
    need (Decidable.decide (List.length (List.flatten [List.take (Int.toNat (if (150 : Int) < (↑(List.length s0) : Int) then (150 : Int) else (↑(List.length s0) : Int))) s0]) ≤ (1000000000 : Nat))) <|
    need (Decidable.decide (List.length (List.flatten [List.take (Int.toNat (if (150 : Int) < (↑(List.length s1) : Int) then (150 : Int) else (↑(List.length s1) : Int))) s1]) ≤ (1000000000 : Nat))) <|
    need (Decidable.decide (List.length (Go.Proofs.YtfjbcoahjinehaaDoor.enc (List.flatten [List.take (Int.toNat (if (150 : Int) < (↑(List.length s0) : Int) then (150 : Int) else (↑(List.length s0) : Int))) s0])) ≤ (300000000 : Nat))) <|
    bif (!(Prod.fst (Go.Proofs.YtfjbcoahjinehaaDoor.decR (Go.Proofs.YtfjbcoahjinehaaDoor.enc (List.flatten [List.take (Int.toNat (if (150 : Int) < (↑(List.length s0) : Int) then (150 : Int) else (↑(List.length s0) : Int))) s0])) (↑(List.length (List.take (Int.toNat (if (150 : Int) < (↑(List.length s0) : Int) then (150 : Int) else (↑(List.length s0) : Int))) s0)) : Int)) == List.take (Int.toNat (if (150 : Int) < (↑(List.length s0) : Int) then (150 : Int) else (↑(List.length s0) : Int))) s0 && Prod.snd (Go.Proofs.YtfjbcoahjinehaaDoor.decR (Go.Proofs.YtfjbcoahjinehaaDoor.enc (List.flatten [List.take (Int.toNat (if (150 : Int) < (↑(List.length s0) : Int) then (150 : Int) else (↑(List.length s0) : Int))) s0])) (↑(List.length (List.take (Int.toNat (if (150 : Int) < (↑(List.length s0) : Int) then (150 : Int) else (↑(List.length s0) : Int))) s0)) : Int)) == (0 : Int))) then
      some [⟨.bool, (Bool.false : Bool)⟩]
    else
      need (Decidable.decide (List.length (Go.Proofs.YtfjbcoahjinehaaDoor.enc (List.flatten [List.take (Int.toNat (if (150 : Int) < (↑(List.length s1) : Int) then (150 : Int) else (↑(List.length s1) : Int))) s1])) ≤ (300000000 : Nat))) <|
      bif (!(Prod.fst (Go.Proofs.YtfjbcoahjinehaaDoor.decR (Go.Proofs.YtfjbcoahjinehaaDoor.enc (List.flatten [List.take (Int.toNat (if (150 : Int) < (↑(List.length s1) : Int) then (150 : Int) else (↑(List.length s1) : Int))) s1])) (150 : Int)) == List.take (Int.toNat (if (150 : Int) < (↑(List.length s1) : Int) then (150 : Int) else (↑(List.length s1) : Int))) s1 && Prod.snd (Go.Proofs.YtfjbcoahjinehaaDoor.decR (Go.Proofs.YtfjbcoahjinehaaDoor.enc (List.flatten [List.take (Int.toNat (if (150 : Int) < (↑(List.length s1) : Int) then (150 : Int) else (↑(List.length s1) : Int))) s1])) (150 : Int)) == (0 : Int)) || !(Go.Proofs.YtfjbcoahjinehaaDoor.enc (List.flatten [List.take (Int.toNat (if (150 : Int) < (↑(List.length s0) : Int) then (150 : Int) else (↑(List.length s0) : Int))) s0]) == Go.Proofs.YtfjbcoahjinehaaDoor.enc (List.flatten [List.take (Int.toNat (if (150 : Int) < (↑(List.length s1) : Int) then (150 : Int) else (↑(List.length s1) : Int))) s1])) == (List.take (Int.toNat (if (150 : Int) < (↑(List.length s0) : Int) then (150 : Int) else (↑(List.length s0) : Int))) s0 == List.take (Int.toNat (if (150 : Int) < (↑(List.length s1) : Int) then (150 : Int) else (↑(List.length s1) : Int))) s1)) then
        some [⟨.bool, (Bool.false : Bool)⟩]
      else
        bif (Decidable.decide ((0 : Int) < (↑(List.length (List.take (Int.toNat (if (150 : Int) < (↑(List.length s0) : Int) then (150 : Int) else (↑(List.length s0) : Int))) s0)) : Int))) then
          need (Decidable.decide (List.length (Go.Proofs.YtfjbcoahjinehaaDoor.enc (List.flatten [List.take (Int.toNat (if (150 : Int) < (↑(List.length s0) : Int) then (150 : Int) else (↑(List.length s0) : Int))) s0])) ≤ (300000000 : Nat))) <|
          bif (!(Prod.fst (Go.Proofs.YtfjbcoahjinehaaDoor.decR (Go.Proofs.YtfjbcoahjinehaaDoor.enc (List.flatten [List.take (Int.toNat (if (150 : Int) < (↑(List.length s0) : Int) then (150 : Int) else (↑(List.length s0) : Int))) s0])) (Go.IntKind.wrap Go.IntKind.i64 ((↑(List.length (List.take (Int.toNat (if (150 : Int) < (↑(List.length s0) : Int) then (150 : Int) else (↑(List.length s0) : Int))) s0)) : Int) - (1 : Int)))) == [] && Prod.snd (Go.Proofs.YtfjbcoahjinehaaDoor.decR (Go.Proofs.YtfjbcoahjinehaaDoor.enc (List.flatten [List.take (Int.toNat (if (150 : Int) < (↑(List.length s0) : Int) then (150 : Int) else (↑(List.length s0) : Int))) s0])) (Go.IntKind.wrap Go.IntKind.i64 ((↑(List.length (List.take (Int.toNat (if (150 : Int) < (↑(List.length s0) : Int) then (150 : Int) else (↑(List.length s0) : Int))) s0)) : Int) - (1 : Int)))) == (4 : Int))) then
            some [⟨.bool, (Bool.false : Bool)⟩]
          else
            need (Decidable.decide (List.length (List.take (Int.toNat (if (150 : Int) < (↑(List.length s1) : Int) then (150 : Int) else (↑(List.length s1) : Int))) s1) ≤ (300000000 : Nat))) <|
            bif (Prod.snd (Go.Proofs.YtfjbcoahjinehaaDoor.decR (List.take (Int.toNat (if (150 : Int) < (↑(List.length s1) : Int) then (150 : Int) else (↑(List.length s1) : Int))) s1) (1000 : Int)) != (0 : Int)) then
              some [⟨.bool, (Bool.true : Bool)⟩]
            else
              need (Decidable.decide (List.length (List.flatten [Prod.fst (Go.Proofs.YtfjbcoahjinehaaDoor.decR (List.take (Int.toNat (if (150 : Int) < (↑(List.length s1) : Int) then (150 : Int) else (↑(List.length s1) : Int))) s1) (1000 : Int))]) ≤ (1000000000 : Nat))) <|
              some [⟨.bool, (Go.Proofs.YtfjbcoahjinehaaDoor.enc (List.flatten [Prod.fst (Go.Proofs.YtfjbcoahjinehaaDoor.decR (List.take (Int.toNat (if (150 : Int) < (↑(List.length s1) : Int) then (150 : Int) else (↑(List.length s1) : Int))) s1) (1000 : Int))]) == List.take (Int.toNat (if (150 : Int) < (↑(List.length s1) : Int) then (150 : Int) else (↑(List.length s1) : Int))) s1 : Bool)⟩]
        else
          need (Decidable.decide (List.length (List.take (Int.toNat (if (150 : Int) < (↑(List.length s1) : Int) then (150 : Int) else (↑(List.length s1) : Int))) s1) ≤ (300000000 : Nat))) <|
          bif (Prod.snd (Go.Proofs.YtfjbcoahjinehaaDoor.decR (List.take (Int.toNat (if (150 : Int) < (↑(List.length s1) : Int) then (150 : Int) else (↑(List.length s1) : Int))) s1) (1000 : Int)) != (0 : Int)) then
            some [⟨.bool, (Bool.true : Bool)⟩]
          else
            need (Decidable.decide (List.length (List.flatten [Prod.fst (Go.Proofs.YtfjbcoahjinehaaDoor.decR (List.take (Int.toNat (if (150 : Int) < (↑(List.length s1) : Int) then (150 : Int) else (↑(List.length s1) : Int))) s1) (1000 : Int))]) ≤ (1000000000 : Nat))) <|
            some [⟨.bool, (Go.Proofs.YtfjbcoahjinehaaDoor.enc (List.flatten [Prod.fst (Go.Proofs.YtfjbcoahjinehaaDoor.decR (List.take (Int.toNat (if (150 : Int) < (↑(List.length s1) : Int) then (150 : Int) else (↑(List.length s1) : Int))) s1) (1000 : Int))]) == List.take (Int.toNat (if (150 : Int) < (↑(List.length s1) : Int) then (150 : Int) else (↑(List.length s1) : Int))) s1 : Bool)⟩]) := by kernel_rfl

end Go.Proofs.YtfjbcoahjinehaaDoor

/-
  Chapter 17: what is encoded is decoded again.
-/
namespace Go.Proofs.YtfjbcoahjinehaaDoor
open Go Go.Am

theorem decR_enc (a : List UInt8) (m : Int) : decR (enc a) m = if m < a.length then ([], 4) else (a, 0) := by
  unfold decR
  rw [(decO_iff _ _).2 rfl]
theorem enc_bound (a : List UInt8) : (enc a).length ≤ 2 * a.length + 4 := by
  have := enc_len a
  unfold size6 at this
  split at this <;> omega
theorem flat1 (a : List UInt8) : List.flatten [a] = a := by simp

abbrev tysBack : List Ty := [.str, .str]
theorem back_law (ds : List Dy) (h : OkDs tysBack ds) : ∃ n, fnY SL5 loopY (tysBack.map .hole) [.bool] n 5 ds = some [⟨.bool, true⟩] := by
  obtain ⟨s0, _, rfl, _, s1, _, rfl, _, rfl⟩ := h
  refine ⟨1, ?_⟩
  show fnY SL5 loopY [.hole .str, .hole .str] [.bool] 1 5 [⟨.str, s0⟩, ⟨.str, s1⟩] = _
  have b0 := cutMin_le (K := 150) (by omega) (List.length s0)
  have b1 := cutMin_le (K := 150) (by omega) (List.length s1)
  rw [L5_fn, need_dec b0.1, need_dec b0.2, need_dec b1.1, need_dec b1.2]
  rw [cutMin (K := 150) 150 rfl s0, cutMin (K := 150) 150 rfl s1]
  have l0 : (s0.take 150).length ≤ 150 := by simp; omega
  have l1 : (s1.take 150).length ≤ 150 := by simp; omega
  generalize s0.take 150 = a at l0 ⊢
  generalize s1.take 150 = b at l1 ⊢
  have ea := enc_bound a
  have eb := enc_bound b
  rw [flat1, flat1, need_dec (by omega), need_dec (by omega), need_dec (by omega), decR_enc, decR_enc, if_neg (by omega), if_neg (by omega), bif_neg (by simp), need_dec (by omega),
    bif_neg (by
      by_cases e : a = b
      · subst e; simp
      · have : enc a ≠ enc b := fun h => e (enc_inj h)
        rw [beq_eq_false_iff_ne.2 this, beq_eq_false_iff_ne.2 e]
        simp)]
  have tail : ∀ x : Option (List Dy), x = (need (decide (b.length ≤ 300000000)) <| bif (decR b 1000).2 != 0 then some [⟨.bool, true⟩] else need (decide ((List.flatten [(decR b 1000).1]).length ≤ 1000000000)) <| some [⟨.bool, enc (List.flatten [(decR b 1000).1]) == b⟩]) → x = some [⟨.bool, true⟩] := by
    rintro x rfl
    rw [need_dec (by omega)]
    cases hd : decO b with
    | none =>
      have : decR b 1000 = ([], 3) := by unfold decR; rw [hd]
      rw [this]; rfl
    | some o =>
      have he := (decO_iff _ _).1 hd
      by_cases hm : (1000 : Int) < (o.length : Int)
      · have : decR b 1000 = ([], 4) := by unfold decR; rw [hd]; exact if_pos hm
        rw [this]; rfl
      · have : decR b 1000 = (o, 0) := by unfold decR; rw [hd]; exact if_neg hm
        rw [this, bif_neg (by rfl), flat1, need_dec (by simp only; omega)]
        simp only [he, beq_self_eq_true]
  by_cases hz : 0 < a.length
  · have w1 : IntKind.i64.wrap ((a.length : Int) - 1) = (a.length : Int) - 1 := w64 (by omega)
    rw [bif_pos (by simp only [decide_eq_true_eq]; omega), need_dec (by omega), w1, decR_enc, if_pos (by omega), bif_neg (by rfl)]
    exact tail _ rfl
  · rw [bif_neg (by simp only [decide_eq_false_iff_not]; omega)]
    exact tail _ rfl

end Go.Proofs.YtfjbcoahjinehaaDoor

/-
  Chapter 17: each single byte, and each letter's place.
-/
namespace Go.Proofs.YtfjbcoahjinehaaDoor
open Go Go.Am

theorem ev_loop (n : Nat) : ∀ (m : Nat) (i : Nat), i ≤ 256 → 256 < i + m → RL SEv [.bool] n 6 2 noNx m [⟨.int .i64, (i : Int)⟩] = some [⟨.bool, true⟩]
  | 0, i, h, h2 => by omega
  | m + 1, i, h, h2 => by
    rw [Ev_L2]
    by_cases hi : i < 256
    · have e1 : IntKind.u8.wrap (i : Int) = (i : Int) := w8 (by omega)
      have e2 : IntKind.i64.wrap ((i : Int) + 1) = ((i + 1 : Nat) : Int) := by rw [w64 (by omega)]; omega
      rw [e1, e2, bif_pos (by simp; omega), need_dec (by omega), need_dec (by omega), need_dec (by omega), need_dec (by omega), decR_enc]
      have e3 : ¬ ((1 : Int) < (([[UInt8.ofNat (Int.toNat (i : Int))]] : List (List UInt8)).flatten.length : Int)) := by simp
      rw [if_neg e3, bif_neg (by simp)]
      exact ev_loop n m (i + 1) (by omega) (by omega)
    · rw [bif_neg (by simp; omega)]

theorem every_law (ds : List Dy) (h : OkDs [] ds) : ∃ n, fnY SEv loopY (List.map SP.hole []) [.bool] n 6 ds = some [⟨.bool, true⟩] := by
  cases ds with
  | nil =>
    refine ⟨300, ?_⟩
    show fnY SEv loopY [] [.bool] 300 6 [] = _
    rw [Ev_fn]
    exact ev_loop 300 300 0 (by omega) (by omega)
  | cons d r => cases h
end Go.Proofs.YtfjbcoahjinehaaDoor
