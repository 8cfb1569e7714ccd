/-
  Texts of this session, one behind the other: PsEnv, PsLays, PsS, PsG1, PsC1, PsG2, PsC2, PsRep, PsG3, PsC3, PsG4, PsC4, PsG5, PsC5, PsG7, PsC6, PsG8, PsG9, PsM, PsC7, PsG10, PsC8, PsG11, PsM2, PsC9, PsG12, PsC10, PsG13, PsC11, PsG14, PsC12, PsG15, PsC13, PsG16, PsC14, PsG17, PsC15.
-/
import Derived.Test.YtfdhkpfkdcdloaaPart15
import Derived.Test.YtfdhkpfkdcdloaaProg
import Derived.KernelRfl
import Derived.Shelf.Strings.Repeat
namespace Go.Proofs.Ytfdhkpfkdcdloaa
open Go Go.Am
def std : Std := { ne := some 61, mz := some (62, 5) }
set_option maxRecDepth 100000 in
theorem std_ok : std.Ok Try.prog where
 mixed := by kernel_rfl
 names := by kernel_rfl
 ix f h := by simp [std] at h
 ct f h := by simp [std] at h
 ne f h := by
  have : 61 = f := by simpa [std] using h
  subst this
  exact ⟨⟨_, rfl, by kernel_rfl, by kernel_rfl, by kernel_rfl, rfl⟩⟩
 mz f e h := by
  have : 62 = f ∧ 5 = e := by simpa [std] using h
  obtain ⟨rfl, rfl⟩ := this
  exact ⟨_, _, ⟨⟨_, rfl, by kernel_rfl, by kernel_rfl, by kernel_rfl, rfl⟩⟩, by kernel_rfl, by kernel_rfl⟩
noncomputable def E : Env := stdEnv Try.prog std
theorem E_ok : E.Ok := stdEnv_ok std_ok
theorem works_eval : evCall E 3000 7 [] [] = some (.pure (.bool true)) := by kernel_rfl
noncomputable def EW : Env := E.know 7 (tabS [([], .bool true)])
theorem EW_ok : EW.Ok := E_ok.knowTab [([], .bool true)] (by
 intro p hp
 simp only [List.mem_singleton] at hp
 subst hp
 exact ⟨⟨3000, works_eval⟩, rfl⟩)
end Go.Proofs.Ytfdhkpfkdcdloaa

namespace Go.Proofs.Ytfdhkpfkdcdloaa
open Go Go.Shelf
set_option maxRecDepth 100000
def ren : Ren where
 f := fun x => match x with
  | 99 => 35
  | 105 => 19
  | 165 => 36
  | 166 => 37
  | 169 => 39
  | 170 => 38
  | 206 => 53
  | 212 => 34
  | 240 => 54
  | 241 => 55
  | 263 => 51
  | 264 => 52
  | 276 => 61
  | 277 => 62
  | n => n
 t := fun x => match x with
  | 0 => 0
  | 3 => 3
  | 4 => 4
  | 5 => 5
  | 9 => 9
  | 20 => 20
  | 37 => 23
  | 46 => 75
  | 51 => 96
  | 53 => 99
  | 70 => 79
  | 72 => 81
  | 75 => 83
  | 76 => 84
  | 80 => 48
  | 109 => 76
  | 127 => 102
  | 146 => 97
  | 148 => 100
  | 164 => 109
  | n => n
 g := fun x => match x with
  | n => n
theorem lays105 : Lays.n105 Try.prog ren :=
{ mixed := Eq.refl true, f99 := Eq.trans Try.func35 (congrArg some (Eq.refl (Body.n99 ren))), f105 := Eq.trans Try.func19 (congrArg some (Eq.refl (Body.n105 ren))), f165 := Eq.trans Try.func36 (congrArg some (Eq.refl (Body.n165 ren))), f166 := Eq.trans Try.func37 (congrArg some (Eq.refl (Body.n166 ren))), f169 := Eq.trans Try.func39 (congrArg some (Eq.refl (Body.n169 ren))), f170 := Eq.trans Try.func38 (congrArg some (Eq.refl (Body.n170 ren))), f206 := Eq.trans Try.func53 (congrArg some (Eq.refl (Body.n206 ren))), f212 := Eq.trans Try.func34 (congrArg some (Eq.refl (Body.n212 ren))), f240 := Eq.trans Try.func54 (congrArg some (Eq.refl (Body.n240 ren))), f241 := Eq.trans Try.func55 (congrArg some (Eq.refl (Body.n241 ren))), f263 := Eq.trans Try.func51 (congrArg some (Eq.refl (Body.n263 ren))), f264 := Eq.trans Try.func52 (congrArg some (Eq.refl (Body.n264 ren))), f276 := Eq.trans Try.func61 (congrArg some (Eq.refl (Body.n276 ren))), f277 := Eq.trans Try.func62 (congrArg some (Eq.refl (Body.n277 ren))), t0 := Try.underlying0, a0 := Try.isAgg0, z0 := Try.sizeOf0, v0 := Try.zeroValue0, t3 := Try.underlying3, a3 := Try.isAgg3, z3 := Try.sizeOf3, v3 := Try.zeroValue3, t4 := Try.underlying4, a4 := Try.isAgg4, z4 := Try.sizeOf4, v4 := Try.zeroValue4, t5 := Try.underlying5, a5 := Try.isAgg5, z5 := Try.sizeOf5, v5 := Try.zeroValue5, t9 := Try.underlying9, a9 := Try.isAgg9, z9 := Try.sizeOf9, v9 := Try.zeroValue9, t20 := Try.underlying20, a20 := Try.isAgg20, z20 := Try.sizeOf20, v20 := Try.zeroValue20, t37 := Try.underlying23, a37 := Try.isAgg23, z37 := Try.sizeOf23, v37 := Try.zeroValue23, t46 := Try.underlying75, a46 := Try.isAgg75, z46 := Try.sizeOf75, v46 := Try.zeroValue75, t51 := Try.underlying96, a51 := Try.isAgg96, z51 := Try.sizeOf96, v51 := Try.zeroValue96, t53 := Try.underlying99, a53 := Try.isAgg99, z53 := Try.sizeOf99, v53 := Try.zeroValue99, t70 := Try.underlying79, a70 := Try.isAgg79, z70 := Try.sizeOf79, v70 := Try.zeroValue79, t72 := Try.underlying81, a72 := Try.isAgg81, z72 := Try.sizeOf81, v72 := Try.zeroValue81, t75 := Try.underlying83, a75 := Try.isAgg83, z75 := Try.sizeOf83, v75 := Try.zeroValue83, t76 := Try.underlying84, a76 := Try.isAgg84, z76 := Try.sizeOf84, v76 := Try.zeroValue84, t109 := Try.underlying76, a109 := Try.isAgg76, z109 := Try.sizeOf76, v109 := Try.zeroValue76, t127 := Try.underlying102, a127 := Try.isAgg102, z127 := Try.sizeOf102, v127 := Try.zeroValue102, t146 := Try.underlying97, a146 := Try.isAgg97, z146 := Try.sizeOf97, v146 := Try.zeroValue97, t148 := Try.underlying100, a148 := Try.isAgg100, z148 := Try.sizeOf100, v148 := Try.zeroValue100, t164 := Try.underlying109, a164 := Try.isAgg109, z164 := Try.sizeOf109, v164 := Try.zeroValue109 }
end Go.Proofs.Ytfdhkpfkdcdloaa

namespace Go.Proofs.Ytfdhkpfkdcdloaa
open Go Go.Am
theorem GP : GFlat E := by
 intro g cs h
 cases h
abbrev fulls : List Nat := [18, 13, 15, 16, 17, 9, 10, 14, 24, 25, 41, 27, 28, 29, 30, 32, 33, 42, 43, 44, 45, 46, 47, 48, 49, 56, 57, 58, 59, 60, 63, 64, 65, 66, 67, 68, 69, 70]
theorem bx : Go.Proofs.Builder.Extra Try.prog ren := { sizeBuilder := by kernel_rfl, liesBuilder := by kernel_rfl, t5 := Try.underlying5, a5 := Try.isAgg5, z5 := Try.sizeOf5, v5 := Try.zeroValue5, infoByte := by kernel_rfl, cellsByte := by kernel_rfl, sizeByte := by kernel_rfl, neB5 := by decide }
theorem EZ_ok : (EW.knowH (ren.f 105) repeatA).Ok := EW_ok.withRepeat lays105 bx
noncomputable def EP : Env := { EW.knowH (ren.f 105) repeatA with full := fun f => memN f fulls, lift := fun t => match Nat.beq t 28 with | true => some 41 | false => none }
theorem EP_ok : EP.Ok := { mixed := EZ_ok.mixed, names := EZ_ok.names, ext := EZ_ok.ext, same := EZ_ok.same, made := EZ_ok.made, orc := fun f a H v h => ⟨(EZ_ok.orc f a H v h).1, fun N ρ w hw hl => (EZ_ok.orc f a H v h).2 N ρ w (hw.env rfl rfl) hl⟩ }
theorem orcP : ∀ g, EP.full g = true → NoOrc EP g := fun g h q => by
 have h := memN_mem (show memN g fulls = true from h)
 simp only [fulls, List.mem_cons, List.not_mem_nil, or_false] at h
 rcases h with rfl | rfl | rfl | rfl | rfl | rfl | rfl | rfl | rfl | rfl | rfl | rfl | rfl | rfl | rfl | rfl | rfl | rfl | rfl | rfl | rfl | rfl | rfl | rfl | rfl | rfl | rfl | rfl | rfl | rfl | rfl | rfl | rfl | rfl | rfl | rfl | rfl | rfl <;> rfl
theorem S_ok {ctr : FuncId → List Ctr} {tm : FuncId → Nat → Option Tm} {un : Nat} {hold : List Nat} {ctrM : FuncId → List CtrM} (h : ∀ g ct, ct ∈ ctr g → CtrOk EP g ct) (hm : ∀ g ct, ct ∈ ctrM g → CtrMOk EP g ct) : SOkE { E := EP, ctr := ctr, tm := tm, un := un, hold := hold, ctrM := ctrM } := ⟨GP, h, orcP, hm⟩
abbrev tyR : Ty := .list 44 (.list 3 (.int .i64))
abbrev tokTy : Ty := .pair (.int .i64) (.pair (.int .i32) (.pair .byte (.pair tyR (.pair .str (.pair .byte (.pair .str .unit))))))
def m0 : FuncId → List CtrM := fun _ => []
def c0 : FuncId → List Ctr := addCtr (fun _ => []) 7 (ctr0 [.bool] [⟨.bool, true⟩])
theorem c0_ok : ∀ g ct, ct ∈ c0 g → CtrOk EP g ct := addCtr_ok (fun g ct h => by cases h) (ctr0_orcB fun _ => rfl)
theorem m0_ok : ∀ g ct, ct ∈ m0 g → CtrMOk EP g ct := fun g ct h => by cases h
end Go.Proofs.Ytfdhkpfkdcdloaa

namespace Go.Proofs.Ytfdhkpfkdcdloaa
open Go Go.Am
set_option linter.unusedVariables false
def Nw_pre : Tm := { tmps := [], objs := [] }
def Nw_post : Tm := { tmps := [(0, .ptr 0 0)], objs := [.row 71 (.int .i64) true] }
def tmNw : FuncId → Nat → Option Tm := fun g i => match Nat.beq g 24 with
 | true => none
 | false => none
noncomputable def SNw : SE := { E := EP, ctr := c0, tm := tmNw, un := 300, hold := [], ctrM := m0 }
theorem Nw_fn (n : Nat) :
 fnM SNw loopY Nw_pre Nw_post n 24 [] =
 (some [⟨(.list 71 (.int .i64)), ([(0 : Int), (0 : Int), (0 : Int), (0 : Int), (0 : Int), (0 : Int), (0 : Int), (0 : Int), (0 : Int), (0 : Int), (0 : Int), (0 : Int), (0 : Int), (0 : Int), (0 : Int), (0 : Int), (0 : Int), (0 : Int), (0 : Int), (0 : Int), (0 : Int), (0 : Int), (0 : Int), (0 : Int), (0 : Int), (0 : Int), (0 : Int), (0 : Int), (0 : Int), (0 : Int), (0 : Int), (0 : Int), (0 : Int), (0 : Int), (0 : Int), (0 : Int), (0 : Int), (0 : Int), (0 : Int), (0 : Int), (0 : Int), (0 : Int), (0 : Int), (0 : Int), (0 : Int), (0 : Int), (0 : Int), (0 : Int), (0 : Int), (0 : Int), (0 : Int), (0 : Int), (0 : Int), (0 : Int), (0 : Int), (0 : Int), (0 : Int), (0 : Int), (0 : Int), (0 : Int), (0 : Int), (0 : Int), (0 : Int), (0 : Int), (0 : Int), (0 : Int), (0 : Int), (0 : Int), (0 : Int), (0 : Int), (0 : Int), (0 : Int), (0 : Int), (0 : Int), (0 : Int), (0 : Int), (0 : Int), (0 : Int), (0 : Int), (0 : Int), (0 : Int), (0 : Int), (0 : Int), (0 : Int), (0 : Int), (0 : Int), (0 : Int), (0 : Int), (0 : Int), (0 : Int), (0 : Int), (0 : Int), (0 : Int), (0 : Int), (0 : Int), (0 : Int), (0 : Int), (0 : Int), (0 : Int), (0 : Int), (0 : Int), (0 : Int), (0 : Int), (0 : Int), (0 : Int), (0 : Int), (0 : Int), (0 : Int), (0 : Int), (0 : Int), (0 : Int), (0 : Int), (0 : Int), (0 : Int), (0 : Int), (0 : Int), (0 : Int), (0 : Int), (0 : Int), (0 : Int), (0 : Int), (0 : Int), (0 : Int), (0 : Int), (0 : Int), (0 : Int), (0 : Int), (0 : Int), (0 : Int), (0 : Int), (0 : Int), (0 : Int), (0 : Int), (0 : Int), (0 : Int), (0 : Int), (0 : Int), (0 : Int), (0 : Int), (0 : Int), (0 : Int), (0 : Int), (0 : Int), (0 : Int), (0 : Int), (0 : Int), (0 : Int), (0 : Int), (0 : Int), (0 : Int), (0 : Int), (0 : Int), (0 : Int), (0 : Int), (0 : Int), (0 : Int), (0 : Int), (0 : Int), (0 : Int), (0 : Int), (0 : Int), (0 : Int), (0 : Int), (0 : Int), (0 : Int), (0 : Int), (0 : Int), (0 : Int), (0 : Int), (0 : Int), (0 : Int), (0 : Int), (0 : Int), (0 : Int), (0 : Int), (0 : Int), (0 : Int), (0 : Int), (0 : Int), (0 : Int), (0 : Int), (0 : Int), (0 : Int), (0 : Int), (0 : Int), (0 : Int), (0 : Int), (0 : Int), (0 : Int), (0 : Int), (0 : Int), (0 : Int), (0 : Int), (0 : Int), (0 : Int), (0 : Int), (0 : Int), (0 : Int), (0 : Int), (0 : Int), (0 : Int), (0 : Int), (0 : Int), (0 : Int), (0 : Int), (0 : Int), (0 : Int), (0 : Int), (0 : Int), (0 : Int), (0 : Int), (0 : Int), (0 : Int), (0 : Int), (0 : Int), (0 : Int), (0 : Int), (0 : Int), (0 : Int), (0 : Int), (0 : Int), (0 : Int), (0 : Int), (0 : Int), (0 : Int), (0 : Int), (0 : Int), (0 : Int), (0 : Int), (0 : Int), (0 : Int), (0 : Int), (0 : Int), (0 : Int), (0 : Int), (0 : Int), (0 : Int), (0 : Int), (0 : Int), (0 : Int), (0 : Int), (0 : Int), (0 : Int), (0 : Int), (0 : Int), (0 : Int), (0 : Int), (0 : Int), (0 : Int), (0 : Int), (0 : Int), (0 : Int), (0 : Int), (0 : Int), (0 : Int), (0 : Int), (0 : Int), (0 : Int), (0 : Int), (0 : Int), (0 : Int), (0 : Int), (0 : Int), (0 : Int), (0 : Int), (0 : Int), (0 : Int), (0 : Int), (0 : Int), (0 : Int), (0 : Int), (0 : Int), (0 : Int), (0 : Int), (0 : Int), (0 : Int), (0 : Int), (0 : Int), (0 : Int), (0 : Int), (0 : Int), (0 : Int), (0 : Int), (0 : Int), (0 : Int), (0 : Int), (0 : Int), (0 : Int), (0 : Int)] : List Int)⟩]) := by kernel_rfl

def Su_pre : Tm := { tmps := [(0, .ptr 0 0)], objs := [.row 71 (.int .i64) true] }
def Su_post : Tm := { tmps := [], objs := [.row 71 (.int .i64) true] }
def tmSu : FuncId → Nat → Option Tm := fun g i => match Nat.beq g 69 with
 | true => none
 | false => none
noncomputable def SSu : SE := { E := EP, ctr := c0, tm := tmSu, un := 300, hold := [0], ctrM := m0 }
theorem Su_fn (n : Nat) (l0 : List Int) :
 fnM SSu loopY Su_pre Su_post n 69 [⟨(.list 71 (.int .i64)), l0⟩] =
 (need (decide ((288 : Nat) < List.length l0)) <|
 bif (decide ((32 : Int) < List.getD l0 (288 : Nat) (0 : Int))) then
  some [⟨(.list 71 (.int .i64)), (l0 : List Int)⟩]
 else
  need (decide ((288 : Nat) < List.length l0)) <|
  need (decide ((0 : Int) ≤ IntKind.wrap .i64 (List.getD l0 (288 : Nat) (0 : Int) - (1 : Int)))) <|
  need (decide (IntKind.wrap .i64 (List.getD l0 (288 : Nat) (0 : Int) - (1 : Int)) < (32 : Int))) <|
  need (decide ((0 : Nat) + Int.toNat (IntKind.wrap .i64 (List.getD l0 (288 : Nat) (0 : Int) - (1 : Int))) * (9 : Nat) + (8 : Nat) < List.length l0)) <|
  bif (decide ((8 : Int) < List.getD l0 ((0 : Nat) + Int.toNat (IntKind.wrap .i64 (List.getD l0 (288 : Nat) (0 : Int) - (1 : Int))) * (9 : Nat) + (8 : Nat)) (0 : Int))) then
   some [⟨(.list 71 (.int .i64)), (l0 : List Int)⟩]
  else
   need (decide ((0 : Nat) + Int.toNat (IntKind.wrap .i64 (List.getD l0 (288 : Nat) (0 : Int) - (1 : Int))) * (9 : Nat) + (8 : Nat) < List.length l0)) <|
   bif (decide (List.getD l0 ((0 : Nat) + Int.toNat (IntKind.wrap .i64 (List.getD l0 (288 : Nat) (0 : Int) - (1 : Int))) * (9 : Nat) + (8 : Nat)) (0 : Int) < (8 : Int))) then
    need (decide ((0 : Nat) + Int.toNat (IntKind.wrap .i64 (List.getD l0 (288 : Nat) (0 : Int) - (1 : Int))) * (9 : Nat) + (8 : Nat) < List.length l0)) <|
    need (decide ((0 : Int) ≤ List.getD l0 ((0 : Nat) + Int.toNat (IntKind.wrap .i64 (List.getD l0 (288 : Nat) (0 : Int) - (1 : Int))) * (9 : Nat) + (8 : Nat)) (0 : Int))) <|
    need (decide (List.getD l0 ((0 : Nat) + Int.toNat (IntKind.wrap .i64 (List.getD l0 (288 : Nat) (0 : Int) - (1 : Int))) * (9 : Nat) + (8 : Nat)) (0 : Int) < (8 : Int))) <|
    need (decide ((0 : Nat) + Int.toNat (IntKind.wrap .i64 (List.getD l0 (288 : Nat) (0 : Int) - (1 : Int))) * (9 : Nat) + (0 : Nat) + Int.toNat (List.getD l0 ((0 : Nat) + Int.toNat (IntKind.wrap .i64 (List.getD l0 (288 : Nat) (0 : Int) - (1 : Int))) * (9 : Nat) + (8 : Nat)) (0 : Int)) * (1 : Nat) < List.length l0)) <|
    need (decide ((0 : Nat) + Int.toNat (IntKind.wrap .i64 (List.getD l0 (288 : Nat) (0 : Int) - (1 : Int))) * (9 : Nat) + (8 : Nat) < List.length (List.set l0 ((0 : Nat) + Int.toNat (IntKind.wrap .i64 (List.getD l0 (288 : Nat) (0 : Int) - (1 : Int))) * (9 : Nat) + (0 : Nat) + Int.toNat (List.getD l0 ((0 : Nat) + Int.toNat (IntKind.wrap .i64 (List.getD l0 (288 : Nat) (0 : Int) - (1 : Int))) * (9 : Nat) + (8 : Nat)) (0 : Int)) * (1 : Nat)) (-1 : Int)))) <|
    need (decide ((0 : Nat) + Int.toNat (IntKind.wrap .i64 (List.getD l0 (288 : Nat) (0 : Int) - (1 : Int))) * (9 : Nat) + (8 : Nat) < List.length (List.set l0 ((0 : Nat) + Int.toNat (IntKind.wrap .i64 (List.getD l0 (288 : Nat) (0 : Int) - (1 : Int))) * (9 : Nat) + (0 : Nat) + Int.toNat (List.getD l0 ((0 : Nat) + Int.toNat (IntKind.wrap .i64 (List.getD l0 (288 : Nat) (0 : Int) - (1 : Int))) * (9 : Nat) + (8 : Nat)) (0 : Int)) * (1 : Nat)) (-1 : Int)))) <|
    some [⟨(.list 71 (.int .i64)), (List.set (List.set l0 ((0 : Nat) + Int.toNat (IntKind.wrap .i64 (List.getD l0 (288 : Nat) (0 : Int) - (1 : Int))) * (9 : Nat) + (0 : Nat) + Int.toNat (List.getD l0 ((0 : Nat) + Int.toNat (IntKind.wrap .i64 (List.getD l0 (288 : Nat) (0 : Int) - (1 : Int))) * (9 : Nat) + (8 : Nat)) (0 : Int)) * (1 : Nat)) (-1 : Int)) ((0 : Nat) + Int.toNat (IntKind.wrap .i64 (List.getD l0 (288 : Nat) (0 : Int) - (1 : Int))) * (9 : Nat) + (8 : Nat)) (IntKind.wrap .i64 (List.getD (List.set l0 ((0 : Nat) + Int.toNat (IntKind.wrap .i64 (List.getD l0 (288 : Nat) (0 : Int) - (1 : Int))) * (9 : Nat) + (0 : Nat) + Int.toNat (List.getD l0 ((0 : Nat) + Int.toNat (IntKind.wrap .i64 (List.getD l0 (288 : Nat) (0 : Int) - (1 : Int))) * (9 : Nat) + (8 : Nat)) (0 : Int)) * (1 : Nat)) (-1 : Int)) ((0 : Nat) + Int.toNat (IntKind.wrap .i64 (List.getD l0 (288 : Nat) (0 : Int) - (1 : Int))) * (9 : Nat) + (8 : Nat)) (0 : Int) + (1 : Int))) : List Int)⟩]
   else
    need (decide ((0 : Nat) + Int.toNat (IntKind.wrap .i64 (List.getD l0 (288 : Nat) (0 : Int) - (1 : Int))) * (9 : Nat) + (8 : Nat) < List.length l0)) <|
    need (decide ((0 : Nat) + Int.toNat (IntKind.wrap .i64 (List.getD l0 (288 : Nat) (0 : Int) - (1 : Int))) * (9 : Nat) + (8 : Nat) < List.length l0)) <|
    some [⟨(.list 71 (.int .i64)), (List.set l0 ((0 : Nat) + Int.toNat (IntKind.wrap .i64 (List.getD l0 (288 : Nat) (0 : Int) - (1 : Int))) * (9 : Nat) + (8 : Nat)) (IntKind.wrap .i64 (List.getD l0 ((0 : Nat) + Int.toNat (IntKind.wrap .i64 (List.getD l0 (288 : Nat) (0 : Int) - (1 : Int))) * (9 : Nat) + (8 : Nat)) (0 : Int) + (1 : Int))) : List Int)⟩]) := by kernel_rfl

def Dg_pre : Tm := { tmps := [(0, .ptr 0 0), (1, .hole (.int .u8))], objs := [.row 71 (.int .i64) true] }
def Dg_post : Tm := { tmps := [], objs := [.row 71 (.int .i64) true] }
def tmDg : FuncId → Nat → Option Tm := fun g i => match Nat.beq g 67 with
 | true => none
 | false => none
noncomputable def SDg : SE := { E := EP, ctr := c0, tm := tmDg, un := 300, hold := [0], ctrM := m0 }
theorem Dg_fn (n : Nat) (l0 : List Int) (n1 : Int) :
 fnM SDg loopY Dg_pre Dg_post n 67 [⟨(.list 71 (.int .i64)), l0⟩, ⟨(.int .u8), n1⟩] =
 (need (decide ((288 : Nat) < List.length l0)) <|
 bif (decide ((32 : Int) < List.getD l0 (288 : Nat) (0 : Int))) then
  some [⟨(.list 71 (.int .i64)), (l0 : List Int)⟩]
 else
  need (decide ((288 : Nat) < List.length l0)) <|
  need (decide ((0 : Int) ≤ IntKind.wrap .i64 (List.getD l0 (288 : Nat) (0 : Int) - (1 : Int)))) <|
  need (decide (IntKind.wrap .i64 (List.getD l0 (288 : Nat) (0 : Int) - (1 : Int)) < (32 : Int))) <|
  need (decide ((0 : Nat) + Int.toNat (IntKind.wrap .i64 (List.getD l0 (288 : Nat) (0 : Int) - (1 : Int))) * (9 : Nat) + (8 : Nat) < List.length l0)) <|
  bif (decide ((8 : Int) < List.getD l0 ((0 : Nat) + Int.toNat (IntKind.wrap .i64 (List.getD l0 (288 : Nat) (0 : Int) - (1 : Int))) * (9 : Nat) + (8 : Nat)) (0 : Int))) then
   some [⟨(.list 71 (.int .i64)), (l0 : List Int)⟩]
  else
   need (decide ((0 : Nat) + Int.toNat (IntKind.wrap .i64 (List.getD l0 (288 : Nat) (0 : Int) - (1 : Int))) * (9 : Nat) + (8 : Nat) < List.length l0)) <|
   need (decide ((0 : Int) ≤ IntKind.wrap .i64 (List.getD l0 ((0 : Nat) + Int.toNat (IntKind.wrap .i64 (List.getD l0 (288 : Nat) (0 : Int) - (1 : Int))) * (9 : Nat) + (8 : Nat)) (0 : Int) - (1 : Int)))) <|
   need (decide (IntKind.wrap .i64 (List.getD l0 ((0 : Nat) + Int.toNat (IntKind.wrap .i64 (List.getD l0 (288 : Nat) (0 : Int) - (1 : Int))) * (9 : Nat) + (8 : Nat)) (0 : Int) - (1 : Int)) < (8 : Int))) <|
   need (decide ((0 : Nat) + Int.toNat (IntKind.wrap .i64 (List.getD l0 (288 : Nat) (0 : Int) - (1 : Int))) * (9 : Nat) + (0 : Nat) + Int.toNat (IntKind.wrap .i64 (List.getD l0 ((0 : Nat) + Int.toNat (IntKind.wrap .i64 (List.getD l0 (288 : Nat) (0 : Int) - (1 : Int))) * (9 : Nat) + (8 : Nat)) (0 : Int) - (1 : Int))) * (1 : Nat) < List.length l0)) <|
   need (decide ((0 : Nat) + Int.toNat (IntKind.wrap .i64 (List.getD l0 (288 : Nat) (0 : Int) - (1 : Int))) * (9 : Nat) + (0 : Nat) + Int.toNat (IntKind.wrap .i64 (List.getD l0 ((0 : Nat) + Int.toNat (IntKind.wrap .i64 (List.getD l0 (288 : Nat) (0 : Int) - (1 : Int))) * (9 : Nat) + (8 : Nat)) (0 : Int) - (1 : Int))) * (1 : Nat) < List.length l0)) <|
   some [⟨(.list 71 (.int .i64)), (List.set l0 ((0 : Nat) + Int.toNat (IntKind.wrap .i64 (List.getD l0 (288 : Nat) (0 : Int) - (1 : Int))) * (9 : Nat) + (0 : Nat) + Int.toNat (IntKind.wrap .i64 (List.getD l0 ((0 : Nat) + Int.toNat (IntKind.wrap .i64 (List.getD l0 (288 : Nat) (0 : Int) - (1 : Int))) * (9 : Nat) + (8 : Nat)) (0 : Int) - (1 : Int))) * (1 : Nat)) (if (65535 : Int) < IntKind.wrap .i64 (IntKind.wrap .i64 ((if List.getD l0 ((0 : Nat) + Int.toNat (IntKind.wrap .i64 (List.getD l0 (288 : Nat) (0 : Int) - (1 : Int))) * (9 : Nat) + (0 : Nat) + Int.toNat (IntKind.wrap .i64 (List.getD l0 ((0 : Nat) + Int.toNat (IntKind.wrap .i64 (List.getD l0 (288 : Nat) (0 : Int) - (1 : Int))) * (9 : Nat) + (8 : Nat)) (0 : Int) - (1 : Int))) * (1 : Nat)) (0 : Int) < (0 : Int) then (0 : Int) else List.getD l0 ((0 : Nat) + Int.toNat (IntKind.wrap .i64 (List.getD l0 (288 : Nat) (0 : Int) - (1 : Int))) * (9 : Nat) + (0 : Nat) + Int.toNat (IntKind.wrap .i64 (List.getD l0 ((0 : Nat) + Int.toNat (IntKind.wrap .i64 (List.getD l0 (288 : Nat) (0 : Int) - (1 : Int))) * (9 : Nat) + (8 : Nat)) (0 : Int) - (1 : Int))) * (1 : Nat)) (0 : Int)) * (10 : Int)) + IntKind.wrap .i64 (IntKind.wrap .u8 (n1 - (48 : Int)))) then (65535 : Int) else IntKind.wrap .i64 (IntKind.wrap .i64 ((if List.getD l0 ((0 : Nat) + Int.toNat (IntKind.wrap .i64 (List.getD l0 (288 : Nat) (0 : Int) - (1 : Int))) * (9 : Nat) + (0 : Nat) + Int.toNat (IntKind.wrap .i64 (List.getD l0 ((0 : Nat) + Int.toNat (IntKind.wrap .i64 (List.getD l0 (288 : Nat) (0 : Int) - (1 : Int))) * (9 : Nat) + (8 : Nat)) (0 : Int) - (1 : Int))) * (1 : Nat)) (0 : Int) < (0 : Int) then (0 : Int) else List.getD l0 ((0 : Nat) + Int.toNat (IntKind.wrap .i64 (List.getD l0 (288 : Nat) (0 : Int) - (1 : Int))) * (9 : Nat) + (0 : Nat) + Int.toNat (IntKind.wrap .i64 (List.getD l0 ((0 : Nat) + Int.toNat (IntKind.wrap .i64 (List.getD l0 (288 : Nat) (0 : Int) - (1 : Int))) * (9 : Nat) + (8 : Nat)) (0 : Int) - (1 : Int))) * (1 : Nat)) (0 : Int)) * (10 : Int)) + IntKind.wrap .i64 (IntKind.wrap .u8 (n1 - (48 : Int))))) : List Int)⟩]) := by kernel_rfl

def Al_pre : Tm := { tmps := [(0, .ptr 0 0)], objs := [.row 71 (.int .i64) true] }
def Al_post : Tm := { tmps := [(0, .hole (.list 44 (.list 3 (.int .i64))))], objs := [.row 71 (.int .i64) true] }
def Al_T0 : Tm := { tmps := [(15, (.hole (.int .i64))), (14, (.hole (.int .i64))), (3, .h 1), (0, (.ptr 0 0))], objs := [.row 71 (.int .i64) true, .lst 44 (.list 3 (.int .i64)) true], prep := [(3, 44)] }
def tmAl : FuncId → Nat → Option Tm := fun g i => match Nat.beq g 56 with
 | true => match Nat.beq i 0 with | true => some Al_T0 | false => none
 | false => none
noncomputable def SAl : SE := { E := EP, ctr := c0, tm := tmAl, un := 300, hold := [0], ctrM := m0 }
theorem Al_L0 (n : Nat) (nx : Nat → List Dy → Option (List Dy)) (m : Nat) (l0 : List Int) (l1 : List (List Int)) (n2 : Int) (n3 : Int) :
 RLM SAl Al_post n 56 0 nx (m + 1) [⟨(.list 71 (.int .i64)), l0⟩, ⟨(.list 44 (.list 3 (.int .i64))), l1⟩, ⟨(.int .i64), n2⟩, ⟨(.int .i64), n3⟩] =
 (bif (decide (n2 < n3)) then
  need (decide ((0 : Int) ≤ n2)) <|
  need (decide (n2 < (32 : Int))) <|
  need (decide ((0 : Nat) + Int.toNat n2 * (9 : Nat) + (8 : Nat) < List.length l0)) <|
  need (decide ((0 : Int) ≤ if (8 : Int) < List.getD l0 ((0 : Nat) + Int.toNat n2 * (9 : Nat) + (8 : Nat)) (0 : Int) then (8 : Int) else List.getD l0 ((0 : Nat) + Int.toNat n2 * (9 : Nat) + (8 : Nat)) (0 : Int))) <|
  need (decide ((if (8 : Int) < List.getD l0 ((0 : Nat) + Int.toNat n2 * (9 : Nat) + (8 : Nat)) (0 : Int) then (8 : Int) else List.getD l0 ((0 : Nat) + Int.toNat n2 * (9 : Nat) + (8 : Nat)) (0 : Int)) ≤ if (8 : Int) < List.getD l0 ((0 : Nat) + Int.toNat n2 * (9 : Nat) + (8 : Nat)) (0 : Int) then (8 : Int) else List.getD l0 ((0 : Nat) + Int.toNat n2 * (9 : Nat) + (8 : Nat)) (0 : Int))) <|
  need (decide (((↑(8 : Nat) : Int) * if (8 : Int) < List.getD l0 ((0 : Nat) + Int.toNat n2 * (9 : Nat) + (8 : Nat)) (0 : Int) then (8 : Int) else List.getD l0 ((0 : Nat) + Int.toNat n2 * (9 : Nat) + (8 : Nat)) (0 : Int)) ≤ (140737488355328 : Int))) <|
  need (decide ((if (8 : Int) < List.getD l0 ((0 : Nat) + Int.toNat n2 * (9 : Nat) + (8 : Nat)) (0 : Int) then (8 : Int) else List.getD l0 ((0 : Nat) + Int.toNat n2 * (9 : Nat) + (8 : Nat)) (0 : Int)) ≤ (140737488355328 : Int))) <|
  need (decide ((0 : Int) ≤ if (8 : Int) < List.getD l0 ((0 : Nat) + Int.toNat n2 * (9 : Nat) + (8 : Nat)) (0 : Int) then (8 : Int) else List.getD l0 ((0 : Nat) + Int.toNat n2 * (9 : Nat) + (8 : Nat)) (0 : Int))) <|
  need (decide ((if (8 : Int) < List.getD l0 ((0 : Nat) + Int.toNat n2 * (9 : Nat) + (8 : Nat)) (0 : Int) then (8 : Int) else List.getD l0 ((0 : Nat) + Int.toNat n2 * (9 : Nat) + (8 : Nat)) (0 : Int)) ≤ if (8 : Int) < List.getD l0 ((0 : Nat) + Int.toNat n2 * (9 : Nat) + (8 : Nat)) (0 : Int) then (8 : Int) else List.getD l0 ((0 : Nat) + Int.toNat n2 * (9 : Nat) + (8 : Nat)) (0 : Int))) <|
  need (decide ((if (8 : Int) < List.getD l0 ((0 : Nat) + Int.toNat n2 * (9 : Nat) + (8 : Nat)) (0 : Int) then (8 : Int) else List.getD l0 ((0 : Nat) + Int.toNat n2 * (9 : Nat) + (8 : Nat)) (0 : Int)) ≤ (8 : Int))) <|
  need (decide ((0 : Nat) + Int.toNat n2 * (9 : Nat) + (0 : Nat) + Int.toNat (if (8 : Int) < List.getD l0 ((0 : Nat) + Int.toNat n2 * (9 : Nat) + (8 : Nat)) (0 : Int) then (8 : Int) else List.getD l0 ((0 : Nat) + Int.toNat n2 * (9 : Nat) + (8 : Nat)) (0 : Int)) ≤ List.length l0)) <|
  need (decide (Int.toNat (if (8 : Int) < List.getD l0 ((0 : Nat) + Int.toNat n2 * (9 : Nat) + (8 : Nat)) (0 : Int) then (8 : Int) else List.getD l0 ((0 : Nat) + Int.toNat n2 * (9 : Nat) + (8 : Nat)) (0 : Int)) ≤ List.length (List.replicate (Int.toNat (if (8 : Int) < List.getD l0 ((0 : Nat) + Int.toNat n2 * (9 : Nat) + (8 : Nat)) (0 : Int) then (8 : Int) else List.getD l0 ((0 : Nat) + Int.toNat n2 * (9 : Nat) + (8 : Nat)) (0 : Int))) (0 : Int)))) <|
  need (decide (Int.toNat (if (8 : Int) < List.getD l0 ((0 : Nat) + Int.toNat n2 * (9 : Nat) + (8 : Nat)) (0 : Int) then (8 : Int) else List.getD l0 ((0 : Nat) + Int.toNat n2 * (9 : Nat) + (8 : Nat)) (0 : Int)) ≤ List.length (List.take (Min.min (List.length (List.take (Int.toNat (if (8 : Int) < List.getD l0 ((0 : Nat) + Int.toNat n2 * (9 : Nat) + (8 : Nat)) (0 : Int) then (8 : Int) else List.getD l0 ((0 : Nat) + Int.toNat n2 * (9 : Nat) + (8 : Nat)) (0 : Int))) (List.drop ((0 : Nat) + Int.toNat n2 * (9 : Nat) + (0 : Nat)) l0))) (Int.toNat (if (8 : Int) < List.getD l0 ((0 : Nat) + Int.toNat n2 * (9 : Nat) + (8 : Nat)) (0 : Int) then (8 : Int) else List.getD l0 ((0 : Nat) + Int.toNat n2 * (9 : Nat) + (8 : Nat)) (0 : Int)))) (List.take (Int.toNat (if (8 : Int) < List.getD l0 ((0 : Nat) + Int.toNat n2 * (9 : Nat) + (8 : Nat)) (0 : Int) then (8 : Int) else List.getD l0 ((0 : Nat) + Int.toNat n2 * (9 : Nat) + (8 : Nat)) (0 : Int))) (List.drop ((0 : Nat) + Int.toNat n2 * (9 : Nat) + (0 : Nat)) l0)) ++ List.drop (Min.min (List.length (List.take (Int.toNat (if (8 : Int) < List.getD l0 ((0 : Nat) + Int.toNat n2 * (9 : Nat) + (8 : Nat)) (0 : Int) then (8 : Int) else List.getD l0 ((0 : Nat) + Int.toNat n2 * (9 : Nat) + (8 : Nat)) (0 : Int))) (List.drop ((0 : Nat) + Int.toNat n2 * (9 : Nat) + (0 : Nat)) l0))) (Int.toNat (if (8 : Int) < List.getD l0 ((0 : Nat) + Int.toNat n2 * (9 : Nat) + (8 : Nat)) (0 : Int) then (8 : Int) else List.getD l0 ((0 : Nat) + Int.toNat n2 * (9 : Nat) + (8 : Nat)) (0 : Int)))) (List.replicate (Int.toNat (if (8 : Int) < List.getD l0 ((0 : Nat) + Int.toNat n2 * (9 : Nat) + (8 : Nat)) (0 : Int) then (8 : Int) else List.getD l0 ((0 : Nat) + Int.toNat n2 * (9 : Nat) + (8 : Nat)) (0 : Int))) (0 : Int))))) <|
  need (decide ((List.length l1 + List.length [List.take (Int.toNat (if (8 : Int) < List.getD l0 ((0 : Nat) + Int.toNat n2 * (9 : Nat) + (8 : Nat)) (0 : Int) then (8 : Int) else List.getD l0 ((0 : Nat) + Int.toNat n2 * (9 : Nat) + (8 : Nat)) (0 : Int))) (List.take (Min.min (List.length (List.take (Int.toNat (if (8 : Int) < List.getD l0 ((0 : Nat) + Int.toNat n2 * (9 : Nat) + (8 : Nat)) (0 : Int) then (8 : Int) else List.getD l0 ((0 : Nat) + Int.toNat n2 * (9 : Nat) + (8 : Nat)) (0 : Int))) (List.drop ((0 : Nat) + Int.toNat n2 * (9 : Nat) + (0 : Nat)) l0))) (Int.toNat (if (8 : Int) < List.getD l0 ((0 : Nat) + Int.toNat n2 * (9 : Nat) + (8 : Nat)) (0 : Int) then (8 : Int) else List.getD l0 ((0 : Nat) + Int.toNat n2 * (9 : Nat) + (8 : Nat)) (0 : Int)))) (List.take (Int.toNat (if (8 : Int) < List.getD l0 ((0 : Nat) + Int.toNat n2 * (9 : Nat) + (8 : Nat)) (0 : Int) then (8 : Int) else List.getD l0 ((0 : Nat) + Int.toNat n2 * (9 : Nat) + (8 : Nat)) (0 : Int))) (List.drop ((0 : Nat) + Int.toNat n2 * (9 : Nat) + (0 : Nat)) l0)) ++ List.drop (Min.min (List.length (List.take (Int.toNat (if (8 : Int) < List.getD l0 ((0 : Nat) + Int.toNat n2 * (9 : Nat) + (8 : Nat)) (0 : Int) then (8 : Int) else List.getD l0 ((0 : Nat) + Int.toNat n2 * (9 : Nat) + (8 : Nat)) (0 : Int))) (List.drop ((0 : Nat) + Int.toNat n2 * (9 : Nat) + (0 : Nat)) l0))) (Int.toNat (if (8 : Int) < List.getD l0 ((0 : Nat) + Int.toNat n2 * (9 : Nat) + (8 : Nat)) (0 : Int) then (8 : Int) else List.getD l0 ((0 : Nat) + Int.toNat n2 * (9 : Nat) + (8 : Nat)) (0 : Int)))) (List.replicate (Int.toNat (if (8 : Int) < List.getD l0 ((0 : Nat) + Int.toNat n2 * (9 : Nat) + (8 : Nat)) (0 : Int) then (8 : Int) else List.getD l0 ((0 : Nat) + Int.toNat n2 * (9 : Nat) + (8 : Nat)) (0 : Int))) (0 : Int)))]) * (24 : Nat) ≤ (140737488355328 : Nat))) <|
  need (decide (List.length l1 + List.length [List.take (Int.toNat (if (8 : Int) < List.getD l0 ((0 : Nat) + Int.toNat n2 * (9 : Nat) + (8 : Nat)) (0 : Int) then (8 : Int) else List.getD l0 ((0 : Nat) + Int.toNat n2 * (9 : Nat) + (8 : Nat)) (0 : Int))) (List.take (Min.min (List.length (List.take (Int.toNat (if (8 : Int) < List.getD l0 ((0 : Nat) + Int.toNat n2 * (9 : Nat) + (8 : Nat)) (0 : Int) then (8 : Int) else List.getD l0 ((0 : Nat) + Int.toNat n2 * (9 : Nat) + (8 : Nat)) (0 : Int))) (List.drop ((0 : Nat) + Int.toNat n2 * (9 : Nat) + (0 : Nat)) l0))) (Int.toNat (if (8 : Int) < List.getD l0 ((0 : Nat) + Int.toNat n2 * (9 : Nat) + (8 : Nat)) (0 : Int) then (8 : Int) else List.getD l0 ((0 : Nat) + Int.toNat n2 * (9 : Nat) + (8 : Nat)) (0 : Int)))) (List.take (Int.toNat (if (8 : Int) < List.getD l0 ((0 : Nat) + Int.toNat n2 * (9 : Nat) + (8 : Nat)) (0 : Int) then (8 : Int) else List.getD l0 ((0 : Nat) + Int.toNat n2 * (9 : Nat) + (8 : Nat)) (0 : Int))) (List.drop ((0 : Nat) + Int.toNat n2 * (9 : Nat) + (0 : Nat)) l0)) ++ List.drop (Min.min (List.length (List.take (Int.toNat (if (8 : Int) < List.getD l0 ((0 : Nat) + Int.toNat n2 * (9 : Nat) + (8 : Nat)) (0 : Int) then (8 : Int) else List.getD l0 ((0 : Nat) + Int.toNat n2 * (9 : Nat) + (8 : Nat)) (0 : Int))) (List.drop ((0 : Nat) + Int.toNat n2 * (9 : Nat) + (0 : Nat)) l0))) (Int.toNat (if (8 : Int) < List.getD l0 ((0 : Nat) + Int.toNat n2 * (9 : Nat) + (8 : Nat)) (0 : Int) then (8 : Int) else List.getD l0 ((0 : Nat) + Int.toNat n2 * (9 : Nat) + (8 : Nat)) (0 : Int)))) (List.replicate (Int.toNat (if (8 : Int) < List.getD l0 ((0 : Nat) + Int.toNat n2 * (9 : Nat) + (8 : Nat)) (0 : Int) then (8 : Int) else List.getD l0 ((0 : Nat) + Int.toNat n2 * (9 : Nat) + (8 : Nat)) (0 : Int))) (0 : Int)))] ≤ (140737488355328 : Nat))) <|
  RLM SAl Al_post n 56 0 nx m [⟨(.list 71 (.int .i64)), (l0 : List Int)⟩, ⟨(.list 44 (.list 3 (.int .i64))), (l1 ++ [List.take (Int.toNat (if (8 : Int) < List.getD l0 ((0 : Nat) + Int.toNat n2 * (9 : Nat) + (8 : Nat)) (0 : Int) then (8 : Int) else List.getD l0 ((0 : Nat) + Int.toNat n2 * (9 : Nat) + (8 : Nat)) (0 : Int))) (List.take (Min.min (List.length (List.take (Int.toNat (if (8 : Int) < List.getD l0 ((0 : Nat) + Int.toNat n2 * (9 : Nat) + (8 : Nat)) (0 : Int) then (8 : Int) else List.getD l0 ((0 : Nat) + Int.toNat n2 * (9 : Nat) + (8 : Nat)) (0 : Int))) (List.drop ((0 : Nat) + Int.toNat n2 * (9 : Nat) + (0 : Nat)) l0))) (Int.toNat (if (8 : Int) < List.getD l0 ((0 : Nat) + Int.toNat n2 * (9 : Nat) + (8 : Nat)) (0 : Int) then (8 : Int) else List.getD l0 ((0 : Nat) + Int.toNat n2 * (9 : Nat) + (8 : Nat)) (0 : Int)))) (List.take (Int.toNat (if (8 : Int) < List.getD l0 ((0 : Nat) + Int.toNat n2 * (9 : Nat) + (8 : Nat)) (0 : Int) then (8 : Int) else List.getD l0 ((0 : Nat) + Int.toNat n2 * (9 : Nat) + (8 : Nat)) (0 : Int))) (List.drop ((0 : Nat) + Int.toNat n2 * (9 : Nat) + (0 : Nat)) l0)) ++ List.drop (Min.min (List.length (List.take (Int.toNat (if (8 : Int) < List.getD l0 ((0 : Nat) + Int.toNat n2 * (9 : Nat) + (8 : Nat)) (0 : Int) then (8 : Int) else List.getD l0 ((0 : Nat) + Int.toNat n2 * (9 : Nat) + (8 : Nat)) (0 : Int))) (List.drop ((0 : Nat) + Int.toNat n2 * (9 : Nat) + (0 : Nat)) l0))) (Int.toNat (if (8 : Int) < List.getD l0 ((0 : Nat) + Int.toNat n2 * (9 : Nat) + (8 : Nat)) (0 : Int) then (8 : Int) else List.getD l0 ((0 : Nat) + Int.toNat n2 * (9 : Nat) + (8 : Nat)) (0 : Int)))) (List.replicate (Int.toNat (if (8 : Int) < List.getD l0 ((0 : Nat) + Int.toNat n2 * (9 : Nat) + (8 : Nat)) (0 : Int) then (8 : Int) else List.getD l0 ((0 : Nat) + Int.toNat n2 * (9 : Nat) + (8 : Nat)) (0 : Int))) (0 : Int)))] : List (List Int))⟩, ⟨(.int .i64), (IntKind.wrap .i64 (n2 + (1 : Int)) : Int)⟩, ⟨(.int .i64), (n3 : Int)⟩]
 else
  some [⟨(.list 71 (.int .i64)), (l0 : List Int)⟩, ⟨(.list 44 (.list 3 (.int .i64))), (l1 : List (List Int))⟩]) := by kernel_rfl
theorem Al_fn (n : Nat) (l0 : List Int) :
 fnM SAl loopY Al_pre Al_post n 56 [⟨(.list 71 (.int .i64)), l0⟩] =
 (need (decide ((288 : Nat) < List.length l0)) <|
 RLM SAl Al_post n 56 0 noNx n [⟨(.list 71 (.int .i64)), (l0 : List Int)⟩, ⟨(.list 44 (.list 3 (.int .i64))), ([] : List (List Int))⟩, ⟨(.int .i64), ((0 : Int) : Int)⟩, ⟨(.int .i64), (if (32 : Int) < List.getD l0 (288 : Nat) (0 : Int) then (32 : Int) else List.getD l0 (288 : Nat) (0 : Int) : Int)⟩]) := by kernel_rfl

end Go.Proofs.Ytfdhkpfkdcdloaa

namespace Go.Proofs.Ytfdhkpfkdcdloaa
open Go Go.Am

def pB (l : List Int) : Nat := 0 + Int.toNat (IntKind.wrap .i64 (l.getD 288 0 - 1)) * 9
def pQ (l : List Int) : Int := l.getD (pB l + 8) 0
def pJ (l : List Int) : Nat := pB l + 0 + Int.toNat (IntKind.wrap .i64 (pQ l - 1)) * 1
def put1 (l : List Int) : List Int := l.set (pB l + 0 + Int.toNat (pQ l) * 1) (-1)
def subF (l : List Int) : List Int :=
 if 32 < l.getD 288 0 then l else if 8 < pQ l then l else if pQ l < 8 then (put1 l).set (pB l + 8) (IntKind.wrap .i64 ((put1 l).getD (pB l + 8) 0 + 1)) else l.set (pB l + 8) (IntKind.wrap .i64 (pQ l + 1))
def digW (x c : Int) : Int := IntKind.wrap .i64 (IntKind.wrap .i64 ((if x < 0 then 0 else x) * 10) + IntKind.wrap .i64 (IntKind.wrap .u8 (c - 48)))
def digV (x c : Int) : Int := if 65535 < digW x c then 65535 else digW x c
def digF (l : List Int) (c : Int) : List Int :=
 if 32 < l.getD 288 0 then l else if 8 < pQ l then l else l.set (pJ l) (digV (l.getD (pJ l) 0) c)
def nextF (l : List Int) : List Int := if l.getD 288 0 ≤ 32 then subF (l.set 288 (IntKind.wrap .i64 (l.getD 288 0 + 1))) else subF l

def cts (l : List Int) : Bool := (List.range 32).all fun i => decide (0 ≤ l.getD (9 * i + 8) 0) && decide (l.getD (9 * i + 8) 0 ≤ 9)
def g0 (l : List Int) : Bool := decide (l.length = 289) && (decide (0 ≤ l.getD 288 0) && (decide (l.getD 288 0 ≤ 33) && cts l))
def gS (l : List Int) : Bool := g0 l && decide (1 ≤ l.getD 288 0)
def gD (l : List Int) : Bool := gS l && decide (33 ≤ l.getD 288 0 ∨ 1 ≤ pQ l)
theorem cts_at {l : List Int} (h : cts l = true) {i : Nat} (hi : i < 32) : 0 ≤ l.getD (9 * i + 8) 0 ∧ l.getD (9 * i + 8) 0 ≤ 9 := by
 have := List.all_eq_true.1 h i (List.mem_range.2 hi)
 simpa [-List.getD_eq_getElem?_getD] using this
theorem g0_at {l : List Int} (h : g0 l = true) : l.length = 289 ∧ 0 ≤ l.getD 288 0 ∧ l.getD 288 0 ≤ 33 ∧ cts l = true := by
 simpa [g0, -List.getD_eq_getElem?_getD] using h
theorem gS_at {l : List Int} (h : gS l = true) : g0 l = true ∧ 1 ≤ l.getD 288 0 := by
 simpa [gS, -List.getD_eq_getElem?_getD] using h
theorem pB_eq {l : List Int} (h : gS l = true) (hm : l.getD 288 0 ≤ 32) : ∃ m : Nat, m < 32 ∧ l.getD 288 0 = (m : Int) + 1 ∧ IntKind.wrap .i64 (l.getD 288 0 - 1) = (m : Int) ∧ pB l = 9 * m := by
 obtain ⟨_, h1⟩ := gS_at h
 have e : IntKind.wrap .i64 (l.getD 288 0 - 1) = l.getD 288 0 - 1 := w64 (by omega)
 refine ⟨(l.getD 288 0 - 1).toNat, by omega, by omega, by rw [e]; omega, ?_⟩
 unfold pB
 rw [e]
 omega
theorem pQ_at {l : List Int} (h : gS l = true) (hm : l.getD 288 0 ≤ 32) : 0 ≤ pQ l ∧ pQ l ≤ 9 := by
 obtain ⟨m, h1, _, _, h4⟩ := pB_eq h hm
 unfold pQ
 rw [h4]
 exact cts_at (g0_at (gS_at h).1).2.2.2 h1

theorem su_ok (l : List Int) (h : gS l = true) : fnM SSu loopY Su_pre Su_post 0 69 [⟨.list 71 (.int .i64), l⟩] = some [⟨.list 71 (.int .i64), subF l⟩] := by
 rw [Su_fn]
 obtain ⟨hl, h0, h33, hc⟩ := g0_at (gS_at h).1
 unfold subF
 refine nd (by omega) ?_
 by_cases c1 : 32 < l.getD 288 0
 ·rw [if_pos c1]; exact bpd c1 rfl
 rw [if_neg c1]
 obtain ⟨m, hm, e1, e2, e3⟩ := pB_eq h (by omega)
 obtain ⟨q0, q9⟩ := pQ_at h (by omega)
 have hB : pB l + 8 < l.length := by omega
 refine bnd c1 (nd (by omega) (nd (by rw [e2]; omega) (nd (by rw [e2]; omega) (nd hB ?_))))
 by_cases c2 : 8 < pQ l
 ·rw [if_pos c2]; exact bpd c2 rfl
 rw [if_neg c2]
 refine bnd c2 (nd hB ?_)
 by_cases c3 : pQ l < 8
 ·rw [if_pos c3]
  refine bpd c3 (nd hB (nd q0 (nd c3 (nd (show pB l + 0 + (pQ l).toNat * 1 < l.length by omega) (nd ?_ (nd ?_ rfl))))))
  ·rw [List.length_set]; exact hB
  ·rw [List.length_set]; exact hB
 ·rw [if_neg c3]
  exact bnd c3 (nd hB (nd hB rfl))

theorem dg_ok (l : List Int) (c : Int) (h : gD l = true) : fnM SDg loopY Dg_pre Dg_post 0 67 [⟨.list 71 (.int .i64), l⟩, ⟨.int .u8, c⟩] = some [⟨.list 71 (.int .i64), digF l c⟩] := by
 rw [Dg_fn]
 simp only [gD, Bool.and_eq_true, decide_eq_true_eq] at h
 obtain ⟨h, hd⟩ := h
 obtain ⟨hl, h0, h33, hc⟩ := g0_at (gS_at h).1
 unfold digF
 refine nd (by omega) ?_
 by_cases c1 : 32 < l.getD 288 0
 ·rw [if_pos c1]; exact bpd c1 rfl
 rw [if_neg c1]
 obtain ⟨m, hm, e1, e2, e3⟩ := pB_eq h (by omega)
 obtain ⟨q0, q9⟩ := pQ_at h (by omega)
 have hB : pB l + 8 < l.length := by omega
 refine bnd c1 (nd (by omega) (nd (by rw [e2]; omega) (nd (by rw [e2]; omega) (nd hB ?_))))
 by_cases c2 : 8 < pQ l
 ·rw [if_pos c2]; exact bpd c2 rfl
 rw [if_neg c2]
 have eq1 : IntKind.wrap .i64 (pQ l - 1) = pQ l - 1 := w64 (by omega)
 have hJ : pJ l < l.length := by unfold pJ; rw [eq1]; omega
 exact bnd c2 (nd hB (nd (show 0 ≤ IntKind.wrap .i64 (pQ l - 1) by rw [eq1]; omega) (nd (show IntKind.wrap .i64 (pQ l - 1) < 8 by rw [eq1]; omega) (nd hJ (nd hJ rfl)))))

def cNw : CtrM := { pre := Nw_pre, res := (ctr0 [] [⟨.list 71 (.int .i64), List.replicate 289 (0 : Int)⟩]).res, post := Nw_post }
set_option maxRecDepth 100000 in
theorem cNw_ok : CtrMOk EP 24 cNw := ctrM_ok (S := SNw) (S_ok c0_ok m0_ok) rfl rfl rfl rfl fun ds gs ds' hr hg => by
 obtain ⟨rfl, rfl, rfl⟩ := ctr0_res (out := []) hr
 exact ⟨0, Nw_fn 0⟩
def cSu : CtrM := { pre := Su_pre, res := (ctr1 (.list 71 (.int .i64)) [] (fun (l : List Int) => [gS l]) fun (l : List Int) => [⟨.list 71 (.int .i64), subF l⟩]).res, post := Su_post }
theorem cSu_ok : CtrMOk EP 69 cSu := ctrM_ok (S := SSu) (S_ok c0_ok m0_ok) rfl rfl rfl rfl fun ds gs ds' hr hg => by
 obtain ⟨l, rfl, rfl, rfl⟩ := ctr1_res (out := []) hr
 exact ⟨0, su_ok l (by simpa using hg)⟩
def cDg : CtrM := { pre := Dg_pre, res := (ctr2 (.list 71 (.int .i64)) (.int .u8) [] (fun (l : List Int) (_ : Int) => [gD l]) fun (l : List Int) (c : Int) => [⟨.list 71 (.int .i64), digF l c⟩]).res, post := Dg_post }
theorem cDg_ok : CtrMOk EP 67 cDg := ctrM_ok (S := SDg) (S_ok c0_ok m0_ok) rfl rfl rfl rfl fun ds gs ds' hr hg => by
 obtain ⟨l, c, rfl, rfl, rfl⟩ := ctr2_res (out := []) hr
 exact ⟨0, dg_ok l c (by simpa using hg)⟩
def m1 : FuncId → List CtrM := addM (addM (addM m0 24 cNw) 69 cSu) 67 cDg
theorem m1_ok : ∀ g ct, ct ∈ m1 g → CtrMOk EP g ct := addM_ok (addM_ok (addM_ok m0_ok cNw_ok) cSu_ok) cDg_ok
end Go.Proofs.Ytfdhkpfkdcdloaa

namespace Go.Proofs.Ytfdhkpfkdcdloaa
open Go Go.Am
set_option linter.unusedVariables false
def Nx_pre : Tm := { tmps := [(0, .ptr 0 0)], objs := [.row 71 (.int .i64) true] }
def Nx_post : Tm := { tmps := [], objs := [.row 71 (.int .i64) true] }
def tmNx : FuncId → Nat → Option Tm := fun g i => match Nat.beq g 65 with
 | true => none
 | false => none
noncomputable def SNx : SE := { E := EP, ctr := c0, tm := tmNx, un := 300, hold := [0], ctrM := m1 }
theorem Nx_fn (n : Nat) (l0 : List Int) :
 fnM SNx loopY Nx_pre Nx_post n 65 [⟨(.list 71 (.int .i64)), l0⟩] =
 (need (decide ((288 : Nat) < List.length l0)) <|
 bif (decide (List.getD l0 (288 : Nat) (0 : Int) ≤ (32 : Int))) then
  need (decide ((288 : Nat) < List.length l0)) <|
  need (decide ((288 : Nat) < List.length l0)) <|
  need (gS (List.set l0 (288 : Nat) (IntKind.wrap .i64 (List.getD l0 (288 : Nat) (0 : Int) + (1 : Int))))) <|
  some [⟨(.list 71 (.int .i64)), (subF (List.set l0 (288 : Nat) (IntKind.wrap .i64 (List.getD l0 (288 : Nat) (0 : Int) + (1 : Int)))) : List Int)⟩]
 else
  need (gS l0) <|
  some [⟨(.list 71 (.int .i64)), (subF l0 : List Int)⟩]) := by kernel_rfl

end Go.Proofs.Ytfdhkpfkdcdloaa

namespace Go.Proofs.Ytfdhkpfkdcdloaa
open Go Go.Am

theorem getD_set {l : List Int} {i j : Nat} {x : Int} : (l.set i x).getD j 0 = if i = j ∧ j < l.length then x else l.getD j 0 := by
 simp only [List.getD_eq_getElem?_getD, List.getElem?_set]
 by_cases h : i = j
 ·subst h
  by_cases h2 : i < l.length
  ·simp [h2]
  ·simp [h2]
 ·simp [h]
theorem cts_set {l : List Int} {x : Int} : cts (l.set 288 x) = cts l := by
 have e : ∀ i, i ∈ List.range 32 → ((decide (0 ≤ (l.set 288 x).getD (9 * i + 8) 0) && decide ((l.set 288 x).getD (9 * i + 8) 0 ≤ 9)) = (decide (0 ≤ l.getD (9 * i + 8) 0) && decide (l.getD (9 * i + 8) 0 ≤ 9))) := fun i hi => by
  have := List.mem_range.1 hi
  rw [getD_set, if_neg (by omega)]
 unfold cts
 rw [Bool.eq_iff_iff, List.all_eq_true, List.all_eq_true]
 exact ⟨fun h i hi => by rw [← e i hi]; exact h i hi, fun h i hi => by rw [e i hi]; exact h i hi⟩
theorem gS_next {l : List Int} (h : g0 l = true) (hm : l.getD 288 0 ≤ 32) : gS (l.set 288 (IntKind.wrap .i64 (l.getD 288 0 + 1))) = true := by
 obtain ⟨h1, h2, h3, h4⟩ := g0_at h
 have e : IntKind.wrap .i64 (l.getD 288 0 + 1) = l.getD 288 0 + 1 := w64 (by omega)
 generalize hx : IntKind.wrap .i64 (l.getD 288 0 + 1) = x at e
 unfold gS g0
 rw [cts_set, h4, getD_set, if_pos ⟨rfl, by omega⟩]
 simp only [Bool.and_eq_true, decide_eq_true_eq, List.length_set, Bool.and_true]
 omega
theorem nx_ok (l : List Int) (h : g0 l = true) : fnM SNx loopY Nx_pre Nx_post 0 65 [⟨.list 71 (.int .i64), l⟩] = some [⟨.list 71 (.int .i64), nextF l⟩] := by
 rw [Nx_fn]
 obtain ⟨hl, h0, h33, hc⟩ := g0_at h
 unfold nextF
 refine nd (by omega) ?_
 by_cases c : l.getD 288 0 ≤ 32
 ·rw [if_pos c]
  exact bpd c (nd (by omega) (nd (by omega) (np (gS_next h c) rfl)))
 ·rw [if_neg c]
  refine bnd c (np ?_ rfl)
  unfold gS
  rw [h, Bool.true_and]
  exact decide_eq_true (by omega)
def cNx : CtrM := { pre := Nx_pre, res := (ctr1 (.list 71 (.int .i64)) [] (fun (l : List Int) => [g0 l]) fun (l : List Int) => [⟨.list 71 (.int .i64), nextF l⟩]).res, post := Nx_post }
theorem cNx_ok : CtrMOk EP 65 cNx := ctrM_ok (S := SNx) (S_ok c0_ok m1_ok) rfl rfl rfl rfl fun ds gs ds' hr hg => by
 obtain ⟨l, rfl, rfl, rfl⟩ := ctr1_res (out := []) hr
 exact ⟨0, nx_ok l (by simpa using hg)⟩

def rowF (l : List Int) (i : Nat) : List Int := (l.drop (9 * i)).take (Int.toNat (if 8 < l.getD (9 * i + 8) 0 then 8 else l.getD (9 * i + 8) 0))
def allF (l : List Int) : List (List Int) := (List.range (Int.toNat (if 32 < l.getD 288 0 then 32 else l.getD 288 0))).map (rowF l)
theorem copied (a : List Int) (n : Nat) (h : a.length = n) : (a.take (min a.length n) ++ (List.replicate n (0 : Int)).drop (min a.length n)).take n = a := by
 have e : a.take n = a := List.take_of_length_le (by omega)
 rw [h, Nat.min_self, List.drop_of_length_le (by simp), List.append_nil, e, e]
theorem al_loop (n : Nat) (l : List Int) (h : g0 l = true) (N : Nat) (hN : N ≤ 32) : ∀ (m i : Nat) (acc : List (List Int)), i ≤ N → N < i + m → acc.length = i →
 RLM SAl Al_post n 56 0 noNx m [⟨.list 71 (.int .i64), l⟩, ⟨tyR, acc⟩, ⟨.int .i64, (i : Int)⟩, ⟨.int .i64, (N : Int)⟩] = some [⟨.list 71 (.int .i64), l⟩, ⟨tyR, acc ++ (List.range' i (N - i)).map (rowF l)⟩]
 | 0, i, acc, h1, h2, _ => by omega
 | m + 1, i, acc, h1, h2, ha => by
  obtain ⟨hl, h0, h33, hc⟩ := g0_at h
  rw [Al_L0]
  by_cases hi : i < N
  ·obtain ⟨c0, c9⟩ := cts_at hc (show i < 32 by omega)
   have eo : 0 + Int.toNat (i : Int) * 9 + 8 = 9 * i + 8 := by rw [Int.toNat_natCast]; omega
   have eo2 : 0 + Int.toNat (i : Int) * 9 + 0 = 9 * i := by rw [Int.toNat_natCast]; omega
   rw [eo, eo2]
   have ew : IntKind.wrap .i64 ((i : Int) + 1) = ((i + 1 : Nat) : Int) := by rw [w64 (by omega)]; omega
   obtain ⟨k, hk⟩ : ∃ k : Nat, (if 8 < l.getD (9 * i + 8) 0 then 8 else l.getD (9 * i + 8) 0) = (k : Int) := ⟨Int.toNat (if 8 < l.getD (9 * i + 8) 0 then 8 else l.getD (9 * i + 8) 0), by split <;> omega⟩
   have hk8 : k ≤ 8 := by
    have := hk
    split at this <;> omega
   have hr : rowF l i = (l.drop (9 * i)).take k := by unfold rowF; rw [hk, Int.toNat_natCast]
   have hlen : ((l.drop (9 * i)).take k).length = k := by rw [List.length_take, List.length_drop]; omega
   rw [hk, Int.toNat_natCast, ew]
   have e1 : List.range' i (N - i) = i :: List.range' (i + 1) (N - (i + 1)) := by
    rw [show N - i = (N - (i + 1)) + 1 by omega, List.range'_succ]
   rw [e1, List.map_cons, hr]
   have hcp := copied _ k hlen
   have hcl : (((l.drop (9 * i)).take k).take (min ((l.drop (9 * i)).take k).length k) ++ (List.replicate k (0 : Int)).drop (min ((l.drop (9 * i)).take k).length k)).length = k := by
    simp only [List.length_append, List.length_take, List.length_drop, List.length_replicate]; omega
   refine bpd (by omega) (nd (by omega) (nd (by omega) (nd (by omega) (nd (by omega) (nd (by omega) (nd (by omega) (nd (by omega) (nd (by omega) (nd (by omega) (nd (by omega) (nd (by omega) (nd (by simp) (nd (by rw [hcl]; exact Nat.le_refl _) (nd ?_ (nd ?_ ?_)))))))))))))))
   ·simp only [List.length_singleton]; omega
   ·simp only [List.length_singleton]; omega
   ·have hcp' : List.take k (List.take (Min.min (List.length (List.take k (List.drop (9 * i) l))) k) (List.take k (List.drop (9 * i) l)) ++ List.drop (Min.min (List.length (List.take k (List.drop (9 * i) l))) k) (List.replicate k (0 : Int))) = (l.drop (9 * i)).take k := hcp
    rw [hcp']
    have := al_loop n l h N hN m (i + 1) (acc ++ [(l.drop (9 * i)).take k]) (by omega) (by omega) (by simp [ha])
    rw [this]
    rw [List.append_assoc]
    rfl
  ·have : N - i = 0 := by omega
   rw [this]
   refine bnd (by omega) ?_
   simp
theorem al_ok (l : List Int) (h : g0 l = true) : ∃ n, fnM SAl loopY Al_pre Al_post n 56 [⟨.list 71 (.int .i64), l⟩] = some [⟨.list 71 (.int .i64), l⟩, ⟨tyR, allF l⟩] := by
 obtain ⟨hl, h0, h33, hc⟩ := g0_at h
 obtain ⟨k, hk⟩ : ∃ k : Nat, (if 32 < l.getD 288 0 then 32 else l.getD 288 0) = (k : Int) := ⟨Int.toNat (if 32 < l.getD 288 0 then 32 else l.getD 288 0), by split <;> omega⟩
 have hk32 : k ≤ 32 := by
  have := hk
  split at this <;> omega
 refine ⟨k + 1, ?_⟩
 rw [Al_fn, hk]
 refine nd (by omega) ?_
 have := al_loop (k + 1) l h k hk32 (k + 1) 0 [] (by omega) (by omega) rfl
 refine this.trans ?_
 unfold allF
 rw [hk, Int.toNat_natCast, List.range_eq_range']
 rfl
def cAl : CtrM := { pre := Al_pre, res := (ctr1 (.list 71 (.int .i64)) [] (fun (l : List Int) => [g0 l]) fun (l : List Int) => [⟨.list 71 (.int .i64), l⟩, ⟨tyR, allF l⟩]).res, post := Al_post }
theorem cAl_ok : CtrMOk EP 56 cAl := ctrM_ok (S := SAl) (S_ok c0_ok m0_ok) rfl rfl rfl rfl fun ds gs ds' hr hg => by
 obtain ⟨l, rfl, rfl, rfl⟩ := ctr1_res (out := []) hr
 exact al_ok l (by simpa using hg)
def m2 : FuncId → List CtrM := addM (addM m1 65 cNx) 56 cAl
theorem m2_ok : ∀ g ct, ct ∈ m2 g → CtrMOk EP g ct := addM_ok (addM_ok m1_ok cNx_ok) cAl_ok
end Go.Proofs.Ytfdhkpfkdcdloaa

namespace Go.Proofs.Ytfdhkpfkdcdloaa
open Go Go.Am

abbrev rw' (T : List (List Int)) (i : Nat) : List Int := (T[i]?).getD []
structure Rep (T : List (List Int)) (l : List Int) : Prop where
 len : l.length = 289
 mn : l.getD 288 0 = ((min T.length 33 : Nat) : Int)
 ct : ∀ i, i < 32 → l.getD (9 * i + 8) 0 = ((min (rw' T i).length 9 : Nat) : Int)
 nm : ∀ i, i < 32 → ∀ j, j < 8 → ∀ x, (rw' T i)[j]? = some x → l.getD (9 * i + j) 0 = x
 ne : ∀ r ∈ T, r ≠ []

variable {T I : List (List Int)} {l r : List Int} {x c : Int}

theorem Rep.g0 (h : Rep T l) : g0 l = true := by
 have hc : cts l = true := List.all_eq_true.2 fun i hi => by
  rw [h.ct i (List.mem_range.1 hi)]
  simp only [Bool.and_eq_true, decide_eq_true_eq]
  omega
 unfold Ytfdhkpfkdcdloaa.g0
 rw [hc, h.mn]
 have := h.len
 simp only [Bool.and_eq_true, decide_eq_true_eq, Bool.and_true]
 omega
theorem Rep.gS (h : Rep T l) (hT : T ≠ []) : gS l = true := by
 have : T.length ≠ 0 := fun e => hT (List.length_eq_zero_iff.1 e)
 unfold Ytfdhkpfkdcdloaa.gS
 rw [h.g0, h.mn, Bool.true_and, decide_eq_true_eq]
 omega
theorem rw_app (n : Nat) : rw' (I ++ [r]) n = if n < I.length then rw' I n else if n = I.length then r else [] := by
 unfold rw'
 rw [List.getElem?_append]
 by_cases h : n < I.length
 ·rw [if_pos h, if_pos h]
 ·rw [if_neg h, if_neg h]
  by_cases h2 : n = I.length
  ·subst h2; simp
  ·rw [if_neg h2, List.getElem?_eq_none (by simp; omega)]; rfl
theorem Rep.last (h : Rep (I ++ [r]) l) (hI : I.length < 32) : l.getD 288 0 = (I.length : Int) + 1 ∧ pB l = 9 * I.length ∧ pQ l = ((min r.length 9 : Nat) : Int) := by
 have e : l.getD 288 0 = (I.length : Int) + 1 := by rw [h.mn, List.length_append, List.length_singleton]; omega
 have hb : pB l = 9 * I.length := by
  unfold pB
  rw [w64 (by omega), e]
  omega
 refine ⟨e, hb, ?_⟩
 unfold pQ
 rw [hb, h.ct _ hI, rw_app, if_neg (by omega), if_pos rfl]
theorem Rep.beyond (h : Rep (I ++ [r]) l) (hI : ¬ I.length < 32) : 32 < l.getD 288 0 := by
 rw [h.mn, List.length_append, List.length_singleton]
 omega
theorem Rep.gD (h : Rep (I ++ [r]) l) : gD l = true := by
 unfold Ytfdhkpfkdcdloaa.gD
 rw [h.gS (by simp), Bool.true_and, decide_eq_true_eq]
 by_cases hI : I.length < 32
 ·obtain ⟨_, _, h3⟩ := h.last hI
  have := List.length_pos_iff.2 (h.ne r (by simp))
  omega
 ·have := h.beyond hI
  omega

theorem Rep.turn {r' l' : List Int} (h : Rep (I ++ [r]) l) (_ : I.length < 32) (hr : r' ≠ []) (hl : l'.length = 289) (h1 : l'.getD 288 0 = l.getD 288 0) (h2 : ∀ i, i < 32 → i ≠ I.length → ∀ j, j ≤ 8 → l'.getD (9 * i + j) 0 = l.getD (9 * i + j) 0)
 (h3 : l'.getD (9 * I.length + 8) 0 = ((min r'.length 9 : Nat) : Int)) (h4 : ∀ j, j < 8 → ∀ x, r'[j]? = some x → l'.getD (9 * I.length + j) 0 = x) : Rep (I ++ [r']) l' := by
 refine ⟨hl, by rw [h1, h.mn]; simp, fun i hi => ?_, fun i hi j hj x hx => ?_, fun q hq => ?_⟩
 ·by_cases e : i = I.length
  ·subst e
   rw [h3, rw_app, if_neg (by omega), if_pos rfl]
  ·rw [h2 i hi e 8 (by omega), h.ct i hi, rw_app, rw_app, if_neg e, if_neg e]
 ·by_cases e : i = I.length
  ·subst e
   rw [rw_app, if_neg (by omega), if_pos rfl] at hx
   exact h4 j hj x hx
  ·rw [h2 i hi e j (by omega)]
   refine h.nm i hi j hj x ?_
   rw [rw_app, if_neg e] at hx ⊢
   exact hx
 ·rcases List.mem_append.1 hq with hq | hq
  ·exact h.ne q (List.mem_append_left _ hq)
  ·rw [List.mem_singleton.1 hq]; exact hr
theorem Rep.out {r' : List Int} (h : Rep (I ++ [r]) l) (hI : ¬ I.length < 32) (hr : r' ≠ []) : Rep (I ++ [r']) l := by
 refine ⟨h.len, by rw [h.mn]; simp, fun i hi => ?_, fun i hi j hj x hx => ?_, fun q hq => ?_⟩
 ·rw [h.ct i hi, rw_app, rw_app, if_pos (by omega), if_pos (by omega)]
 ·refine h.nm i hi j hj x ?_
  rw [rw_app, if_pos (by omega)] at hx ⊢
  exact hx
 ·rcases List.mem_append.1 hq with hq | hq
  ·exact h.ne q (List.mem_append_left _ hq)
  ·rw [List.mem_singleton.1 hq]; exact hr

theorem Rep.sub (h : Rep (I ++ [r]) l) : Rep (I ++ [r ++ [-1]]) (subF l) := by
 have hne : r ++ [-1] ≠ [] := by simp
 unfold subF
 by_cases hI : I.length < 32
 ·obtain ⟨e1, e2, e3⟩ := h.last hI
  have hl := h.len
  have own : ∀ j, j < 8 → ∀ x, r[j]? = some x → l.getD (9 * I.length + j) 0 = x := fun j hj x hx => h.nm _ hI j hj x (by rw [rw_app, if_neg (by omega), if_pos rfl]; exact hx)
  rw [if_neg (by omega), e3, e2]
  by_cases c1 : 8 < ((min r.length 9 : Nat) : Int)
  ·rw [if_pos c1]
   refine h.turn hI hne hl rfl (fun _ _ _ _ _ => rfl) ?_ fun j hj x hx => ?_
   ·rw [h.ct _ hI, rw_app, if_neg (by omega), if_pos rfl, List.length_append, List.length_singleton]
    omega
   ·rw [List.getElem?_append_left (by omega)] at hx
    exact own j hj x hx
  rw [if_neg c1]
  by_cases c2 : ((min r.length 9 : Nat) : Int) < 8
  ·rw [if_pos c2]
   have ep : put1 l = l.set (9 * I.length + r.length) (-1) := by
    unfold put1
    rw [e2, e3, show 9 * I.length + 0 + Int.toNat ((min r.length 9 : Nat) : Int) * 1 = 9 * I.length + r.length by rw [Int.toNat_natCast]; omega]
   have eq : (put1 l).getD (9 * I.length + 8) 0 = ((min r.length 9 : Nat) : Int) := by
    rw [ep, getD_set, if_neg (by omega), ← e3]
    unfold pQ
    rw [e2]
   rw [eq, w64 (by omega), ep]
   refine h.turn hI hne (by simp [hl]) ?_ (fun i hi hne j hj => ?_) ?_ fun j hj x hx => ?_
   ·rw [getD_set, if_neg (by omega), getD_set, if_neg (by omega)]
   ·rw [getD_set, if_neg (by omega), getD_set, if_neg (by omega)]
   ·rw [getD_set, if_pos ⟨rfl, by rw [List.length_set]; omega⟩, List.length_append, List.length_singleton]
    omega
   ·rw [getD_set, if_neg (by omega), getD_set]
    by_cases hj2 : j < r.length
    ·rw [if_neg (by omega)]
     rw [List.getElem?_append_left hj2] at hx
     exact own j hj x hx
    ·rw [List.getElem?_append_right (by omega)] at hx
     obtain ⟨h5, h6⟩ := List.getElem?_eq_some_iff.1 hx
     simp only [List.length_singleton] at h5
     have : j = r.length := by omega
     subst this
     rw [if_pos ⟨rfl, by omega⟩]
     simpa using h6
  ·rw [if_neg c2, w64 (by omega)]
   refine h.turn hI hne (by simp [hl]) ?_ (fun i hi hne j hj => ?_) ?_ fun j hj x hx => ?_
   ·rw [getD_set, if_neg (by omega)]
   ·rw [getD_set, if_neg (by omega)]
   ·rw [getD_set, if_pos ⟨rfl, by omega⟩, List.length_append, List.length_singleton]
    omega
   ·rw [getD_set, if_neg (by omega)]
    rw [List.getElem?_append_left (by omega)] at hx
    exact own j hj x hx
 ·rw [if_pos (h.beyond hI)]
  exact h.out hI hne

theorem Rep.dig (h : Rep (I ++ [r ++ [x]]) l) : Rep (I ++ [r ++ [digV x c]]) (digF l c) := by
 have hne : r ++ [digV x c] ≠ [] := by simp
 unfold digF
 by_cases hI : I.length < 32
 ·obtain ⟨e1, e2, e3⟩ := h.last hI
  have hl := h.len
  have own : ∀ j, j < 8 → ∀ y, (r ++ [x])[j]? = some y → l.getD (9 * I.length + j) 0 = y := fun j hj y hy => h.nm _ hI j hj y (by rw [rw_app, if_neg (by omega), if_pos rfl]; exact hy)
  rw [List.length_append, List.length_singleton] at e3
  rw [if_neg (by omega), e3]
  by_cases c1 : 8 < ((min (r.length + 1) 9 : Nat) : Int)
  ·rw [if_pos c1]
   refine h.turn hI hne hl rfl (fun _ _ _ _ _ => rfl) ?_ fun j hj y hy => ?_
   ·rw [h.ct _ hI, rw_app, if_neg (by omega), if_pos rfl, List.length_append, List.length_append, List.length_singleton, List.length_singleton]
   ·rw [List.getElem?_append_left (by omega)] at hy
    exact own j hj y (by rw [List.getElem?_append_left (by omega)]; exact hy)
  rw [if_neg c1]
  have ej : pJ l = 9 * I.length + r.length := by
   unfold pJ
   rw [e2, e3, w64 (by omega)]
   omega
  rw [ej, own r.length (by omega) x (by simp)]
  refine h.turn hI hne (by simp [hl]) ?_ (fun i hi hne j hj => ?_) ?_ fun j hj y hy => ?_
  ·rw [getD_set, if_neg (by omega)]
  ·rw [getD_set, if_neg (by omega)]
  ·rw [getD_set, if_neg (by omega), h.ct _ hI, rw_app, if_neg (by omega), if_pos rfl, List.length_append, List.length_append, List.length_singleton, List.length_singleton]
  ·rw [getD_set]
   by_cases hj2 : j < r.length
   ·rw [if_neg (by omega)]
    rw [List.getElem?_append_left hj2] at hy
    exact own j hj y (by rw [List.getElem?_append_left hj2]; exact hy)
   ·rw [List.getElem?_append_right (by omega)] at hy
    obtain ⟨h5, h6⟩ := List.getElem?_eq_some_iff.1 hy
    simp only [List.length_singleton] at h5
    have : j = r.length := by omega
    subst this
    rw [if_pos ⟨rfl, by omega⟩]
    simpa using h6
 ·rw [if_pos (h.beyond hI)]
  exact h.out hI hne

theorem Rep.next (h : Rep T l) : Rep (T ++ [[-1]]) (nextF l) := by
 unfold nextF
 have hl := h.len
 have hm := h.mn
 by_cases c1 : l.getD 288 0 ≤ 32
 ·rw [if_pos c1, w64 (by omega)]
  by_cases hT : T.length < 32
  ·have em : (l.set 288 (l.getD 288 0 + 1)).getD 288 0 = (T.length : Int) + 1 := by rw [getD_set, if_pos ⟨rfl, by omega⟩]; omega
   have eb : pB (l.set 288 (l.getD 288 0 + 1)) = 9 * T.length := by unfold pB; rw [em, w64 (by omega)]; omega
   have er : rw' T T.length = [] := by unfold rw'; rw [List.getElem?_eq_none (by omega)]; rfl
   have eQ : pQ (l.set 288 (l.getD 288 0 + 1)) = 0 := by
    unfold pQ
    rw [eb, getD_set, if_neg (by omega), h.ct _ hT, er]
    rfl
   have ep : put1 (l.set 288 (l.getD 288 0 + 1)) = (l.set 288 (l.getD 288 0 + 1)).set (9 * T.length) (-1) := by
    unfold put1
    rw [eb, eQ]
    rfl
   unfold subF
   rw [if_neg (by omega), eQ, if_neg (by omega), if_pos (by omega), eb, ep]
   have ez : ((l.set 288 (l.getD 288 0 + 1)).set (9 * T.length) (-1)).getD (9 * T.length + 8) 0 = 0 := by
    rw [getD_set, if_neg (by omega)]
    have := eQ
    unfold pQ at this
    rw [eb] at this
    exact this
   rw [ez, w64 (by omega)]
   refine ⟨by simp [hl], ?_, fun i hi => ?_, fun i hi j hj y hy => ?_, fun q hq => ?_⟩
   ·rw [getD_set, if_neg (by omega), getD_set, if_neg (by omega), em, List.length_append, List.length_singleton]
    omega
   ·rw [rw_app, getD_set]
    by_cases e : i = T.length
    ·subst e
     rw [if_pos ⟨rfl, by simp only [List.length_set]; omega⟩, if_neg (by omega), if_pos rfl]
     rfl
    ·rw [if_neg (by omega), getD_set, if_neg (by omega), getD_set, if_neg (by omega), h.ct i hi]
     by_cases hlt : i < T.length
     ·rw [if_pos hlt]
     ·rw [if_neg hlt, if_neg e]
      have : rw' T i = [] := by unfold rw'; rw [List.getElem?_eq_none (by omega)]; rfl
      rw [this]
   ·rw [rw_app] at hy
    rw [getD_set, if_neg (by omega), getD_set]
    by_cases e : i = T.length
    ·subst e
     rw [if_neg (by omega), if_pos rfl] at hy
     obtain ⟨h5, h6⟩ := List.getElem?_eq_some_iff.1 hy
     simp only [List.length_singleton] at h5
     have : j = 0 := by omega
     subst this
     rw [if_pos ⟨rfl, by rw [List.length_set]; omega⟩]
     simpa using h6
    ·rw [if_neg (by omega), getD_set, if_neg (by omega)]
     by_cases hlt : i < T.length
     ·rw [if_pos hlt] at hy
      exact h.nm i hi j hj y hy
     ·rw [if_neg hlt, if_neg e] at hy
      simp at hy
   ·rcases List.mem_append.1 hq with hq | hq
    ·exact h.ne q hq
    ·rw [List.mem_singleton.1 hq]; simp
  ·have em : (l.set 288 (l.getD 288 0 + 1)).getD 288 0 = 33 := by rw [getD_set, if_pos ⟨rfl, by omega⟩]; omega
   unfold subF
   rw [if_pos (by omega)]
   refine ⟨by simp [hl], ?_, fun i hi => ?_, fun i hi j hj y hy => ?_, fun q hq => ?_⟩
   ·rw [em, List.length_append, List.length_singleton]; omega
   ·rw [getD_set, if_neg (by omega), rw_app, if_pos (by omega), h.ct i hi]
   ·rw [getD_set, if_neg (by omega)]
    rw [rw_app, if_pos (by omega)] at hy
    exact h.nm i hi j hj y hy
   ·rcases List.mem_append.1 hq with hq | hq
    ·exact h.ne q hq
    ·rw [List.mem_singleton.1 hq]; simp
 ·rw [if_neg c1]
  unfold subF
  rw [if_pos (by omega)]
  refine ⟨hl, ?_, fun i hi => ?_, fun i hi j hj y hy => ?_, fun q hq => ?_⟩
  ·rw [hm, List.length_append, List.length_singleton]; omega
  ·rw [rw_app, if_pos (by omega), h.ct i hi]
  ·rw [rw_app, if_pos (by omega)] at hy
   exact h.nm i hi j hj y hy
  ·rcases List.mem_append.1 hq with hq | hq
   ·exact h.ne q hq
   ·rw [List.mem_singleton.1 hq]; simp

theorem rep0 (i : Nat) : (List.replicate 289 (0 : Int)).getD i 0 = 0 := by
 rw [List.getD_eq_getElem?_getD, List.getElem?_replicate]
 split <;> rfl
theorem rep_nil : Rep [] (List.replicate 289 (0 : Int)) :=
 ⟨List.length_replicate, rep0 288, fun i hi => rep0 _, fun i hi j hj x hx => by unfold rw' at hx; simp at hx, fun r hr => by cases hr⟩
theorem Rep.all (h : Rep T l) : allF l = (T.take 32).map (·.take 8) := by
 have hm := h.mn
 have hl := h.len
 have ek : Int.toNat (if 32 < l.getD 288 0 then 32 else l.getD 288 0) = min T.length 32 := by
  split <;> omega
 unfold allF
 rw [ek]
 apply List.ext_getElem?
 intro i
 by_cases hi : i < min T.length 32
 ·rw [List.getElem?_map, List.getElem?_range hi, List.getElem?_map, List.getElem?_take, if_pos (by omega), List.getElem?_eq_getElem (by omega : i < T.length)]
  simp only [Option.map_some, Option.some.injEq]
  have er : rw' T i = T[i] := by unfold rw'; rw [List.getElem?_eq_getElem (by omega : i < T.length)]; rfl
  have ec := h.ct i (by omega)
  rw [er] at ec
  have ek2 : Int.toNat (if 8 < l.getD (9 * i + 8) 0 then 8 else l.getD (9 * i + 8) 0) = min T[i].length 8 := by
   rw [ec]
   split <;> omega
  unfold rowF
  rw [ek2]
  apply List.ext_getElem?
  intro j
  by_cases hj : j < min T[i].length 8
  ·rw [List.getElem?_take, if_pos hj, List.getElem?_drop, List.getElem?_take, if_pos (by omega), List.getElem?_eq_getElem (by omega : j < T[i].length)]
   have := h.nm i (by omega) j (by omega) T[i][j] (by rw [er, List.getElem?_eq_getElem (by omega : j < T[i].length)])
   rw [List.getD_eq_getElem?_getD, List.getElem?_eq_getElem (by omega)] at this
   rw [List.getElem?_eq_getElem (by omega)]
   simpa using this
  ·rw [List.getElem?_eq_none (by rw [List.length_take]; omega), List.getElem?_eq_none (by rw [List.length_take]; omega)]
 ·rw [List.getElem?_eq_none (by simp; omega), List.getElem?_eq_none (by simp; omega)]
end Go.Proofs.Ytfdhkpfkdcdloaa

namespace Go.Proofs.Ytfdhkpfkdcdloaa
open Go Go.Am
set_option linter.unusedVariables false
def By_pre : Tm := { tmps := [(0, .ptr 0 0), (1, .hole (.int .u8))], objs := [.row 71 (.int .i64) true] }
def By_post : Tm := { tmps := [(0, .hole .bool)], objs := [.row 71 (.int .i64) true] }
def tmBy : FuncId → Nat → Option Tm := fun g i => match Nat.beq g 60 with
 | true => none
 | false => none
noncomputable def SBy : SE := { E := EP, ctr := c0, tm := tmBy, un := 300, hold := [0], ctrM := m2 }
theorem By_fn (n : Nat) (l0 : List Int) (n1 : Int) :
 fnM SBy loopY By_pre By_post n 60 [⟨(.list 71 (.int .i64)), l0⟩, ⟨(.int .u8), n1⟩] =
 (bif (decide (n1 < (48 : Int)) || decide ((59 : Int) < n1)) then
  some [⟨(.list 71 (.int .i64)), (l0 : List Int)⟩, ⟨.bool, (false : Bool)⟩]
 else
  need (decide ((288 : Nat) < List.length l0)) <|
  bif (List.getD l0 (288 : Nat) (0 : Int) == (0 : Int)) then
   need (g0 l0) <|
   bif (n1 == (59 : Int)) then
    need (g0 (nextF l0)) <|
    some [⟨(.list 71 (.int .i64)), (nextF (nextF l0) : List Int)⟩, ⟨.bool, (true : Bool)⟩]
   else
    bif (n1 == (58 : Int)) then
     need (gS (nextF l0)) <|
     some [⟨(.list 71 (.int .i64)), (subF (nextF l0) : List Int)⟩, ⟨.bool, (true : Bool)⟩]
    else
     need (gD (nextF l0)) <|
     some [⟨(.list 71 (.int .i64)), (digF (nextF l0) n1 : List Int)⟩, ⟨.bool, (true : Bool)⟩]
  else
   bif (n1 == (59 : Int)) then
    need (g0 l0) <|
    some [⟨(.list 71 (.int .i64)), (nextF l0 : List Int)⟩, ⟨.bool, (true : Bool)⟩]
   else
    bif (n1 == (58 : Int)) then
     need (gS l0) <|
     some [⟨(.list 71 (.int .i64)), (subF l0 : List Int)⟩, ⟨.bool, (true : Bool)⟩]
    else
     need (gD l0) <|
     some [⟨(.list 71 (.int .i64)), (digF l0 n1 : List Int)⟩, ⟨.bool, (true : Bool)⟩]) := by kernel_rfl

def Rw_T0 : Tm := { tmps := [(5, (.hole (.int .i64))), (0, (.hole (.list 3 (.int .i64)))), (1, (.hole (.list 3 (.int .i64))))], objs := [] }
def tmRw : FuncId → Nat → Option Tm := fun g i => match Nat.beq g 50 with
 | true => match Nat.beq i 0 with | true => some Rw_T0 | false => none
 | false => none
noncomputable def SRw : SE := { E := EP, ctr := c0, tm := tmRw, un := 300, ctrM := m2 }
theorem Rw_L0 (n : Nat) (nx : Nat → List Dy → Option (List Dy)) (m : Nat) (n0 : Int) (l1 : List Int) (l2 : List Int) :
 RL SRw [.bool] n 50 0 nx (m + 1) [⟨(.int .i64), n0⟩, ⟨(.list 3 (.int .i64)), l1⟩, ⟨(.list 3 (.int .i64)), l2⟩] =
 (bif (decide (n0 < (↑(List.length l1) : Int))) then
  need (decide ((0 : Int) ≤ n0)) <|
  need (decide (n0 < (↑(List.length l1) : Int))) <|
  need (decide (Int.toNat n0 < List.length l1)) <|
  need (decide ((0 : Int) ≤ n0)) <|
  need (decide (n0 < (↑(List.length l2) : Int))) <|
  need (decide (Int.toNat n0 < List.length l2)) <|
  bif (List.getD l1 (Int.toNat n0) (0 : Int) != List.getD l2 (Int.toNat n0) (0 : Int)) then
   some [⟨.bool, (false : Bool)⟩]
  else
   RL SRw [.bool] n 50 0 nx m [⟨(.int .i64), (IntKind.wrap .i64 (n0 + (1 : Int)) : Int)⟩, ⟨(.list 3 (.int .i64)), (l1 : List Int)⟩, ⟨(.list 3 (.int .i64)), (l2 : List Int)⟩]
 else
  some [⟨.bool, (true : Bool)⟩]) := by kernel_rfl
theorem Rw_fn (n : Nat) (l0 : List Int) (l1 : List Int) :
 fnY SRw loopY [(.hole (.list 3 (.int .i64))), (.hole (.list 3 (.int .i64)))] [.bool] n 50 [⟨(.list 3 (.int .i64)), l0⟩, ⟨(.list 3 (.int .i64)), l1⟩] =
 (bif ((↑(List.length l0) : Int) != (↑(List.length l1) : Int)) then
  some [⟨.bool, (false : Bool)⟩]
 else
  RL SRw [.bool] n 50 0 noNx n [⟨(.int .i64), ((0 : Int) : Int)⟩, ⟨(.list 3 (.int .i64)), (l0 : List Int)⟩, ⟨(.list 3 (.int .i64)), (l1 : List Int)⟩]) := by kernel_rfl

end Go.Proofs.Ytfdhkpfkdcdloaa

namespace Go.Proofs.Ytfdhkpfkdcdloaa
open Go Go.Am

def lastT (f : List Int → List Int) (T : List (List Int)) : List (List Int) := T.dropLast ++ [f (T.getLast?.getD [])]
def subT (T : List (List Int)) : List (List Int) := lastT (fun r => r ++ [-1]) T
def digT (T : List (List Int)) (c : Int) : List (List Int) := lastT (fun r => r.dropLast ++ [digV (r.getLast?.getD 0) c]) T
def startT (T : List (List Int)) : List (List Int) := if T = [] then [[-1]] else T
def byteT (T : List (List Int)) (c : Int) : List (List Int) :=
 if c = 59 then startT T ++ [[-1]] else if c = 58 then subT (startT T) else digT (startT T) c
def isC (c : Int) : Bool := !(decide (c < 48) || decide (59 < c))
def startF (l : List Int) : List Int := if l.getD 288 0 = 0 then nextF l else l
def byF (l : List Int) (c : Int) : List Int :=
 if isC c = false then l else if c = 59 then nextF (startF l) else if c = 58 then subF (startF l) else digF (startF l) c
noncomputable def gR (l : List Int) : Bool := @decide (∃ T, Rep T l) (Classical.propDecidable _)

variable {T : List (List Int)} {l : List Int} {c : Int}
theorem gR_iff : gR l = true ↔ ∃ T, Rep T l := by unfold gR; simp
theorem Rep.start (h : Rep T l) : Rep (startT T) (startF l) := by
 have hm := h.mn
 unfold startT startF
 by_cases e : T = []
 ·subst e
  rw [if_pos rfl, if_pos (by simpa using hm)]
  exact h.next
 ·have : T.length ≠ 0 := fun q => e (List.length_eq_zero_iff.1 q)
  rw [if_neg e, if_neg (by omega)]
  exact h
theorem startT_ne : startT T ≠ [] := by unfold startT; split <;> simp_all
theorem cons_last (h : T ≠ []) : ∃ I r, T = I ++ [r] := ⟨T.dropLast, T.getLast h, (List.dropLast_concat_getLast h).symm⟩
theorem lastT_app {f : List Int → List Int} {I : List (List Int)} {r : List Int} : lastT f (I ++ [r]) = I ++ [f r] := by simp [lastT]
theorem Rep.byte (h : Rep T l) (hc : isC c = true) : Rep (byteT T c) (byF l c) := by
 have h1 := h.start
 unfold byteT byF
 rw [if_neg (show ¬ isC c = false by rw [hc]; simp)]
 obtain ⟨I, r, e⟩ := cons_last (startT_ne (T := T))
 by_cases c1 : c = 59
 ·rw [if_pos c1, if_pos c1]; exact h1.next
 rw [if_neg c1, if_neg c1]
 rw [e] at h1 ⊢
 by_cases c2 : c = 58
 ·rw [if_pos c2, if_pos c2]
  unfold subT
  rw [lastT_app]
  exact h1.sub
 ·rw [if_neg c2, if_neg c2]
  have hr := h1.ne r (by simp)
  unfold digT
  rw [lastT_app]
  obtain ⟨q, x, rfl⟩ : ∃ q x, r = q ++ [x] := ⟨r.dropLast, r.getLast hr, (List.dropLast_concat_getLast hr).symm⟩
  simp only [List.dropLast_concat, List.getLast?_concat, Option.getD_some]
  exact h1.dig
theorem by_ok (l : List Int) (c : Int) (h : gR l = true) : fnM SBy loopY By_pre By_post 0 60 [⟨.list 71 (.int .i64), l⟩, ⟨.int .u8, c⟩] = some [⟨.list 71 (.int .i64), byF l c⟩, ⟨.bool, isC c⟩] := by
 obtain ⟨T, hT⟩ := gR_iff.1 h
 rw [By_fn]
 have hl := hT.len
 unfold byF
 cases hc : isC c with
 | false =>
  rw [if_pos rfl]
  have hc' : (decide (c < 48) || decide (59 < c)) = true := by simp only [isC, Bool.not_eq_false'] at hc; exact hc
  exact bp hc' rfl
 | true =>
  rw [if_neg (by simp)]
  have hc' : (decide (c < 48) || decide (59 < c)) = false := by simpa [isC] using hc
  refine bn hc' (nd (by omega) ?_)
  have h1 := hT.start
  unfold startF at h1 ⊢
  by_cases e : l.getD 288 0 = 0
  ·rw [if_pos e] at h1 ⊢
   have h2 := h1.gS startT_ne
   obtain ⟨I, r, e2⟩ := cons_last (startT_ne (T := T))
   have h3 : gD (nextF l) = true := by rw [e2] at h1; exact h1.gD
   refine bp (by rw [e]; rfl) (np hT.g0 ?_)
   by_cases c1 : c = 59
   ·rw [if_pos c1]; exact bp (by rw [c1]; rfl) (np h1.g0 rfl)
   rw [if_neg c1]
   refine bn (by simpa using c1) ?_
   by_cases c2 : c = 58
   ·rw [if_pos c2]; exact bp (by rw [c2]; rfl) (np h2 rfl)
   rw [if_neg c2]
   exact bn (by simpa using c2) (np h3 rfl)
  ·rw [if_neg e] at h1 ⊢
   have h2 := h1.gS startT_ne
   obtain ⟨I, r, e2⟩ := cons_last (startT_ne (T := T))
   have h3 : gD l = true := by rw [e2] at h1; exact h1.gD
   refine bn (by simpa [-List.getD_eq_getElem?_getD] using e) ?_
   by_cases c1 : c = 59
   ·rw [if_pos c1]; exact bp (by rw [c1]; rfl) (np hT.g0 rfl)
   rw [if_neg c1]
   refine bn (by simpa using c1) ?_
   by_cases c2 : c = 58
   ·rw [if_pos c2]; exact bp (by rw [c2]; rfl) (np h2 rfl)
   rw [if_neg c2]
   exact bn (by simpa using c2) (np h3 rfl)
noncomputable def cBy : CtrM := { pre := By_pre, res := (ctr2 (.list 71 (.int .i64)) (.int .u8) [] (fun (l : List Int) (_ : Int) => [gR l]) fun (l : List Int) (c : Int) => [⟨.list 71 (.int .i64), byF l c⟩, ⟨.bool, isC c⟩]).res, post := By_post }
theorem cBy_ok : CtrMOk EP 60 cBy := ctrM_ok (S := SBy) (S_ok c0_ok m2_ok) rfl rfl rfl rfl fun ds gs ds' hr hg => by
 obtain ⟨l, c, rfl, rfl, rfl⟩ := ctr2_res (out := []) hr
 exact ⟨0, by_ok l c (by simpa using hg)⟩
noncomputable def m3 : FuncId → List CtrM := addM m2 60 cBy
theorem m3_ok : ∀ g ct, ct ∈ m3 g → CtrMOk EP g ct := addM_ok m2_ok cBy_ok

theorem drop_cmp {α : Type} [DecidableEq α] {a b : List α} {i : Nat} {d : α} (h1 : i < a.length) (h2 : i < b.length) : decide (a.drop i = b.drop i) = (decide (a.getD i d = b.getD i d) && decide (a.drop (i + 1) = b.drop (i + 1))) := by
 rw [List.drop_eq_getElem_cons h1, List.drop_eq_getElem_cons h2]
 simp only [List.getD_eq_getElem?_getD, List.getElem?_eq_getElem h1, List.getElem?_eq_getElem h2, Option.getD_some, List.cons.injEq, Bool.decide_and]
theorem rw_loop (n : Nat) (a b : List Int) (h : a.length = b.length) (hb : a.length ≤ 1000000000) : ∀ (m i : Nat), i ≤ a.length → a.length < i + m → RL SRw [.bool] n 50 0 noNx m [⟨.int .i64, (i : Int)⟩, ⟨.list 3 (.int .i64), a⟩, ⟨.list 3 (.int .i64), b⟩] = some [⟨.bool, decide (a.drop i = b.drop i)⟩]
 | 0, i, h1, h2 => by omega
 | m + 1, i, h1, h2 => by
  rw [Rw_L0]
  by_cases hi : i < a.length
  ·rw [drop_cmp (d := 0) hi (by omega), Int.toNat_natCast]
   refine bpd (by omega) (nd (by omega) (nd (by omega) (nd hi (nd (by omega) (nd (by omega) (nd (by omega) ?_))))))
   by_cases e : a.getD i 0 = b.getD i 0
   ·rw [decide_eq_true e, Bool.true_and]
    refine bn (by simp only [bne, Bool.not_eq_false', beq_iff_eq]; exact e) ?_
    rw [show IntKind.wrap .i64 ((i : Int) + 1) = ((i + 1 : Nat) : Int) by rw [w64 (by omega)]; omega]
    exact rw_loop n a b h hb m (i + 1) (by omega) (by omega)
   ·rw [decide_eq_false e, Bool.false_and]
    exact bp (by simp only [bne, Bool.not_eq_true', beq_eq_false_iff_ne]; exact e) rfl
  ·rw [List.drop_of_length_le (by omega), List.drop_of_length_le (by omega)]
   exact bnd (by omega) (by simp)
theorem rw_ok (a b : List Int) (hb : a.length ≤ 1000000000) : ∃ n, fnY SRw loopY [.hole (.list 3 (.int .i64)), .hole (.list 3 (.int .i64))] [.bool] n 50 [⟨.list 3 (.int .i64), a⟩, ⟨.list 3 (.int .i64), b⟩] = some [⟨.bool, decide (a = b)⟩] := by
 refine ⟨a.length + 1, ?_⟩
 rw [Rw_fn]
 by_cases h : a.length = b.length
 ·refine bn (by simp [h]) ?_
  have := rw_loop (a.length + 1) a b h hb (a.length + 1) 0 (by omega) (by omega)
  rw [List.drop_zero, List.drop_zero] at this
  exact this
 ·rw [decide_eq_false fun e => h (by rw [e])]
  exact bp (by simp only [bne, Bool.not_eq_true', beq_eq_false_iff_ne]; omega) rfl
def cRw : Ctr := ctr2 (.list 3 (.int .i64)) (.list 3 (.int .i64)) [.bool] (fun (a : List Int) (_ : List Int) => [decide (a.length ≤ 1000000000)]) fun (a b : List Int) => [⟨.bool, decide (a = b)⟩]
theorem cRw_ok : CtrOk EP 50 cRw := ctr2_ok (S := SRw) (t := .list 3 (.int .i64)) (u := .list 3 (.int .i64)) (S_ok c0_ok m2_ok) (fun _ => rfl) rfl fun (a b : List Int) h => rw_ok a b (by simpa using h)
def c1 : FuncId → List Ctr := addCtr c0 50 cRw
theorem c1_ok : ∀ g ct, ct ∈ c1 g → CtrOk EP g ct := addCtr_ok c0_ok cRw_ok
end Go.Proofs.Ytfdhkpfkdcdloaa

namespace Go.Proofs.Ytfdhkpfkdcdloaa
open Go Go.Am
set_option linter.unusedVariables false
def Sm_T0 : Tm := { tmps := [(5, (.hole (.int .i64))), (0, (.hole (.list 44 (.list 3 (.int .i64))))), (1, (.hole (.list 44 (.list 3 (.int .i64)))))], objs := [] }
def tmSm : FuncId → Nat → Option Tm := fun g i => match Nat.beq g 31 with
 | true => match Nat.beq i 0 with | true => some Sm_T0 | false => none
 | false => none
noncomputable def SSm : SE := { E := EP, ctr := c1, tm := tmSm, un := 300, ctrM := m3 }
theorem Sm_L0 (n : Nat) (nx : Nat → List Dy → Option (List Dy)) (m : Nat) (n0 : Int) (l1 : List (List Int)) (l2 : List (List Int)) :
 RL SSm [.bool] n 31 0 nx (m + 1) [⟨(.int .i64), n0⟩, ⟨(.list 44 (.list 3 (.int .i64))), l1⟩, ⟨(.list 44 (.list 3 (.int .i64))), l2⟩] =
 (bif (decide (n0 < (↑(List.length l1) : Int))) then
  need (decide ((0 : Int) ≤ n0)) <|
  need (decide (n0 < (↑(List.length l1) : Int))) <|
  need (decide (Int.toNat n0 < List.length l1)) <|
  need (decide ((0 : Int) ≤ n0)) <|
  need (decide (n0 < (↑(List.length l2) : Int))) <|
  need (decide (Int.toNat n0 < List.length l2)) <|
  need (decide (List.length (List.getD l1 (Int.toNat n0) []) ≤ (1000000000 : Nat))) <|
  bif (!decide (List.getD l1 (Int.toNat n0) [] = List.getD l2 (Int.toNat n0) [])) then
   some [⟨.bool, (false : Bool)⟩]
  else
   RL SSm [.bool] n 31 0 nx m [⟨(.int .i64), (IntKind.wrap .i64 (n0 + (1 : Int)) : Int)⟩, ⟨(.list 44 (.list 3 (.int .i64))), (l1 : List (List Int))⟩, ⟨(.list 44 (.list 3 (.int .i64))), (l2 : List (List Int))⟩]
 else
  some [⟨.bool, (true : Bool)⟩]) := by kernel_rfl
theorem Sm_fn (n : Nat) (l0 : List (List Int)) (l1 : List (List Int)) :
 fnY SSm loopY [(.hole (.list 44 (.list 3 (.int .i64)))), (.hole (.list 44 (.list 3 (.int .i64))))] [.bool] n 31 [⟨(.list 44 (.list 3 (.int .i64))), l0⟩, ⟨(.list 44 (.list 3 (.int .i64))), l1⟩] =
 (bif ((↑(List.length l0) : Int) != (↑(List.length l1) : Int)) then
  some [⟨.bool, (false : Bool)⟩]
 else
  RL SSm [.bool] n 31 0 noNx n [⟨(.int .i64), ((0 : Int) : Int)⟩, ⟨(.list 44 (.list 3 (.int .i64))), (l0 : List (List Int))⟩, ⟨(.list 44 (.list 3 (.int .i64))), (l1 : List (List Int))⟩]) := by kernel_rfl

def Cl_pre : Tm := { tmps := [(0, .ptr 0 0)], objs := [.row 71 (.int .i64) true] }
def Cl_post : Tm := { tmps := [], objs := [.row 71 (.int .i64) true] }
def tmCl : FuncId → Nat → Option Tm := fun g i => match Nat.beq g 44 with
 | true => none
 | false => none
noncomputable def SCl : SE := { E := EP, ctr := c1, tm := tmCl, un := 300, hold := [0], ctrM := m3 }
theorem Cl_fn (n : Nat) (l0 : List Int) :
 fnM SCl loopY Cl_pre Cl_post n 44 [⟨(.list 71 (.int .i64)), l0⟩] =
 (need (decide ((289 : Nat) ≤ List.length l0)) <|
 some [⟨(.list 71 (.int .i64)), (List.take (0 : Nat) l0 ++ [(0 : Int), (0 : Int), (0 : Int), (0 : Int), (0 : Int), (0 : Int), (0 : Int), (0 : Int), (0 : Int), (0 : Int), (0 : Int), (0 : Int), (0 : Int), (0 : Int), (0 : Int), (0 : Int), (0 : Int), (0 : Int), (0 : Int), (0 : Int), (0 : Int), (0 : Int), (0 : Int), (0 : Int), (0 : Int), (0 : Int), (0 : Int), (0 : Int), (0 : Int), (0 : Int), (0 : Int), (0 : Int), (0 : Int), (0 : Int), (0 : Int), (0 : Int), (0 : Int), (0 : Int), (0 : Int), (0 : Int), (0 : Int), (0 : Int), (0 : Int), (0 : Int), (0 : Int), (0 : Int), (0 : Int), (0 : Int), (0 : Int), (0 : Int), (0 : Int), (0 : Int), (0 : Int), (0 : Int), (0 : Int), (0 : Int), (0 : Int), (0 : Int), (0 : Int), (0 : Int), (0 : Int), (0 : Int), (0 : Int), (0 : Int), (0 : Int), (0 : Int), (0 : Int), (0 : Int), (0 : Int), (0 : Int), (0 : Int), (0 : Int), (0 : Int), (0 : Int), (0 : Int), (0 : Int), (0 : Int), (0 : Int), (0 : Int), (0 : Int), (0 : Int), (0 : Int), (0 : Int), (0 : Int), (0 : Int), (0 : Int), (0 : Int), (0 : Int), (0 : Int), (0 : Int), (0 : Int), (0 : Int), (0 : Int), (0 : Int), (0 : Int), (0 : Int), (0 : Int), (0 : Int), (0 : Int), (0 : Int), (0 : Int), (0 : Int), (0 : Int), (0 : Int), (0 : Int), (0 : Int), (0 : Int), (0 : Int), (0 : Int), (0 : Int), (0 : Int), (0 : Int), (0 : Int), (0 : Int), (0 : Int), (0 : Int), (0 : Int), (0 : Int), (0 : Int), (0 : Int), (0 : Int), (0 : Int), (0 : Int), (0 : Int), (0 : Int), (0 : Int), (0 : Int), (0 : Int), (0 : Int), (0 : Int), (0 : Int), (0 : Int), (0 : Int), (0 : Int), (0 : Int), (0 : Int), (0 : Int), (0 : Int), (0 : Int), (0 : Int), (0 : Int), (0 : Int), (0 : Int), (0 : Int), (0 : Int), (0 : Int), (0 : Int), (0 : Int), (0 : Int), (0 : Int), (0 : Int), (0 : Int), (0 : Int), (0 : Int), (0 : Int), (0 : Int), (0 : Int), (0 : Int), (0 : Int), (0 : Int), (0 : Int), (0 : Int), (0 : Int), (0 : Int), (0 : Int), (0 : Int), (0 : Int), (0 : Int), (0 : Int), (0 : Int), (0 : Int), (0 : Int), (0 : Int), (0 : Int), (0 : Int), (0 : Int), (0 : Int), (0 : Int), (0 : Int), (0 : Int), (0 : Int), (0 : Int), (0 : Int), (0 : Int), (0 : Int), (0 : Int), (0 : Int), (0 : Int), (0 : Int), (0 : Int), (0 : Int), (0 : Int), (0 : Int), (0 : Int), (0 : Int), (0 : Int), (0 : Int), (0 : Int), (0 : Int), (0 : Int), (0 : Int), (0 : Int), (0 : Int), (0 : Int), (0 : Int), (0 : Int), (0 : Int), (0 : Int), (0 : Int), (0 : Int), (0 : Int), (0 : Int), (0 : Int), (0 : Int), (0 : Int), (0 : Int), (0 : Int), (0 : Int), (0 : Int), (0 : Int), (0 : Int), (0 : Int), (0 : Int), (0 : Int), (0 : Int), (0 : Int), (0 : Int), (0 : Int), (0 : Int), (0 : Int), (0 : Int), (0 : Int), (0 : Int), (0 : Int), (0 : Int), (0 : Int), (0 : Int), (0 : Int), (0 : Int), (0 : Int), (0 : Int), (0 : Int), (0 : Int), (0 : Int), (0 : Int), (0 : Int), (0 : Int), (0 : Int), (0 : Int), (0 : Int), (0 : Int), (0 : Int), (0 : Int), (0 : Int), (0 : Int), (0 : Int), (0 : Int), (0 : Int), (0 : Int), (0 : Int), (0 : Int), (0 : Int), (0 : Int), (0 : Int), (0 : Int), (0 : Int), (0 : Int), (0 : Int), (0 : Int), (0 : Int), (0 : Int), (0 : Int), (0 : Int), (0 : Int), (0 : Int), (0 : Int), (0 : Int), (0 : Int), (0 : Int), (0 : Int), (0 : Int), (0 : Int), (0 : Int), (0 : Int), (0 : Int), (0 : Int), (0 : Int), (0 : Int), (0 : Int)] ++ List.drop (289 : Nat) l0 : List Int)⟩]) := by kernel_rfl

end Go.Proofs.Ytfdhkpfkdcdloaa

namespace Go.Proofs.Ytfdhkpfkdcdloaa
open Go Go.Am

def gT (T : List (List Int)) : Bool := T.all fun r => decide (r.length ≤ 1000000000)
theorem gT_at {T : List (List Int)} (h : gT T = true) {i : Nat} (hi : i < T.length) : (T.getD i []).length ≤ 1000000000 := by
 have := List.all_eq_true.1 h (T.getD i []) (by rw [List.getD_eq_getElem?_getD, List.getElem?_eq_getElem hi]; exact List.getElem_mem hi)
 simpa using this
theorem sm_loop (n : Nat) (a b : List (List Int)) (h : a.length = b.length) (hg : gT a = true) (hb : a.length ≤ 1000000000) : ∀ (m i : Nat), i ≤ a.length → a.length < i + m → RL SSm [.bool] n 31 0 noNx m [⟨.int .i64, (i : Int)⟩, ⟨tyR, a⟩, ⟨tyR, b⟩] = some [⟨.bool, decide (a.drop i = b.drop i)⟩]
 | 0, i, h1, h2 => by omega
 | m + 1, i, h1, h2 => by
  rw [Sm_L0]
  by_cases hi : i < a.length
  ·rw [drop_cmp (d := []) hi (by omega), Int.toNat_natCast]
   refine bpd (by omega) (nd (by omega) (nd (by omega) (nd hi (nd (by omega) (nd (by omega) (nd (by omega) (nd (gT_at hg hi) ?_)))))))
   by_cases e : a.getD i [] = b.getD i []
   ·rw [decide_eq_true e, Bool.true_and]
    refine bn rfl ?_
    rw [show IntKind.wrap .i64 ((i : Int) + 1) = ((i + 1 : Nat) : Int) by rw [w64 (by omega)]; omega]
    exact sm_loop n a b h hg hb m (i + 1) (by omega) (by omega)
   ·rw [decide_eq_false e, Bool.false_and]
    exact bp rfl rfl
  ·rw [List.drop_of_length_le (by omega), List.drop_of_length_le (by omega)]
   exact bnd (by omega) (by simp)
theorem sm_ok (a b : List (List Int)) (hg : gT a = true) (hb : a.length ≤ 1000000000) : ∃ n, fnY SSm loopY [.hole tyR, .hole tyR] [.bool] n 31 [⟨tyR, a⟩, ⟨tyR, b⟩] = some [⟨.bool, decide (a = b)⟩] := by
 refine ⟨a.length + 1, ?_⟩
 rw [Sm_fn]
 by_cases h : a.length = b.length
 ·refine bn (by simp [h]) ?_
  have := sm_loop (a.length + 1) a b h hg hb (a.length + 1) 0 (by omega) (by omega)
  rw [List.drop_zero, List.drop_zero] at this
  exact this
 ·rw [decide_eq_false fun e => h (by rw [e])]
  exact bp (by simp only [bne, Bool.not_eq_true', beq_eq_false_iff_ne]; omega) rfl
def sameT (a b : List (List Int)) : Bool := decide (a = b)
def cSm : Ctr := ctr2 tyR tyR [.bool] (fun (a : List (List Int)) (_ : List (List Int)) => [gT a, decide (a.length ≤ 1000000000)]) fun (a b : List (List Int)) => [⟨.bool, sameT a b⟩]
theorem cSm_ok : CtrOk EP 31 cSm := ctr2_ok (S := SSm) (t := tyR) (u := tyR) (S_ok c1_ok m3_ok) (fun _ => rfl) rfl fun (a b : List (List Int)) h => sm_ok a b (by simp only [List.all_cons, id, Bool.and_eq_true] at h; exact h.1) (by simp only [List.all_cons, id, Bool.and_eq_true, decide_eq_true_eq] at h; exact h.2.1)

set_option maxRecDepth 100000 in
theorem cl_ok (l : List Int) (h : l.length = 289) : fnM SCl loopY Cl_pre Cl_post 0 44 [⟨.list 71 (.int .i64), l⟩] = some [⟨.list 71 (.int .i64), List.replicate 289 (0 : Int)⟩] := by
 rw [Cl_fn]
 refine nd (by omega) ?_
 rw [List.drop_of_length_le (by rw [h]; exact Nat.le_refl _), List.take_zero, List.nil_append, List.append_nil]
 kernel_rfl
def cCl : CtrM := { pre := Cl_pre, res := (ctr1 (.list 71 (.int .i64)) [] (fun (l : List Int) => [decide (l.length = 289)]) fun (_ : List Int) => [⟨.list 71 (.int .i64), List.replicate 289 (0 : Int)⟩]).res, post := Cl_post }
theorem cCl_ok : CtrMOk EP 44 cCl := ctrM_ok (S := SCl) (S_ok c1_ok m3_ok) rfl rfl rfl rfl fun ds gs ds' hr hg => by
 obtain ⟨l, rfl, rfl, rfl⟩ := ctr1_res (out := []) hr
 exact ⟨0, cl_ok l (by simpa using hg)⟩
noncomputable def m4 : FuncId → List CtrM := addM m3 44 cCl
theorem m4_ok : ∀ g ct, ct ∈ m4 g → CtrMOk EP g ct := addM_ok m3_ok cCl_ok
def c2 : FuncId → List Ctr := addCtr c1 31 cSm
theorem c2_ok : ∀ g ct, ct ∈ c2 g → CtrOk EP g ct := addCtr_ok c1_ok cSm_ok
end Go.Proofs.Ytfdhkpfkdcdloaa

namespace Go.Proofs.Ytfdhkpfkdcdloaa
open Go Go.Am
set_option linter.unusedVariables false
def Cy_T0 : Tm := { tmps := [(9, (.hole (.int .i64))), (8, (.hole (.int .i64))), (7, (.hole (.list 44 (.list 3 (.int .i64))))), (3, .h 2), (2, (.ptr 1 0)), (1, (.ptr 0 0))], objs := [.cells [(.hole (.int .i64)), (.hole (.int .i32)), (.hole (.int .u8)), (.hole (.list 44 (.list 3 (.int .i64)))), (.hole .str), (.hole (.int .u8)), (.hole .str)] 41 true, .cells [(.hole (.int .i64)), (.hole (.int .i32)), (.hole (.int .u8)), (.lit .nils), (.hole .str), (.hole (.int .u8)), (.hole .str)] 41 true, .lst 44 (.list 3 (.int .i64)) true], prep := [(3, 44)] }
def tmCy : FuncId → Nat → Option Tm := fun g i => match Nat.beq g 26 with
 | true => match Nat.beq i 0 with | true => some Cy_T0 | false => none
 | false => none
noncomputable def SCy : SE := { E := EP, ctr := c2, tm := tmCy, un := 300, ctrM := m4 }
theorem Cy_L0 (n : Nat) (nx : Nat → List Dy → Option (List Dy)) (m : Nat) (l0 : List (List Int)) (n1 : Int) (n2 : Int) (n3 : Int) (l4 : List (List Int)) (s5 : List UInt8) (n6 : Int) (s7 : List UInt8) (n8 : Int) (n9 : Int) (n10 : Int) (s11 : List UInt8) (n12 : Int) (s13 : List UInt8) (n14 : Int) (n15 : Int) (l16 : List (List Int)) :
 RL SCy [tokTy] n 26 0 nx (m + 1) [⟨(.list 44 (.list 3 (.int .i64))), l0⟩, ⟨(.int .i64), n1⟩, ⟨(.int .i32), n2⟩, ⟨(.int .u8), n3⟩, ⟨(.list 44 (.list 3 (.int .i64))), l4⟩, ⟨.str, s5⟩, ⟨(.int .u8), n6⟩, ⟨.str, s7⟩, ⟨(.int .i64), n8⟩, ⟨(.int .i32), n9⟩, ⟨(.int .u8), n10⟩, ⟨.str, s11⟩, ⟨(.int .u8), n12⟩, ⟨.str, s13⟩, ⟨(.int .i64), n14⟩, ⟨(.int .i64), n15⟩, ⟨(.list 44 (.list 3 (.int .i64))), l16⟩] =
 (bif (decide (n14 < n15)) then
  need (decide ((0 : Int) ≤ n14)) <|
  need (decide (n14 < (↑(List.length l16) : Int))) <|
  need (decide (Int.toNat n14 < List.length l16)) <|
  need (!List.isEmpty (List.getD l16 (Int.toNat n14) [])) <|
  need (decide (List.length (List.getD l16 (Int.toNat n14) []) * (8 : Nat) ≤ (140737488355328 : Nat))) <|
  need (decide (List.length (List.getD l16 (Int.toNat n14) []) ≤ (140737488355328 : Nat))) <|
  need (decide ((0 : Nat) < List.length (List.getD l16 (Int.toNat n14) []))) <|
  need (decide ((List.length l0 + List.length [List.getD l16 (Int.toNat n14) []]) * (24 : Nat) ≤ (140737488355328 : Nat))) <|
  need (decide (List.length l0 + List.length [List.getD l16 (Int.toNat n14) []] ≤ (140737488355328 : Nat))) <|
  RL SCy [tokTy] n 26 0 nx m [⟨(.list 44 (.list 3 (.int .i64))), (l0 ++ [List.getD l16 (Int.toNat n14) []] : List (List Int))⟩, ⟨(.int .i64), (n1 : Int)⟩, ⟨(.int .i32), (n2 : Int)⟩, ⟨(.int .u8), (n3 : Int)⟩, ⟨(.list 44 (.list 3 (.int .i64))), (l4 : List (List Int))⟩, ⟨.str, (s5 : List UInt8)⟩, ⟨(.int .u8), (n6 : Int)⟩, ⟨.str, (s7 : List UInt8)⟩, ⟨(.int .i64), (n8 : Int)⟩, ⟨(.int .i32), (n9 : Int)⟩, ⟨(.int .u8), (n10 : Int)⟩, ⟨.str, (s11 : List UInt8)⟩, ⟨(.int .u8), (n12 : Int)⟩, ⟨.str, (s13 : List UInt8)⟩, ⟨(.int .i64), (IntKind.wrap .i64 (n14 + (1 : Int)) : Int)⟩, ⟨(.int .i64), (n15 : Int)⟩, ⟨(.list 44 (.list 3 (.int .i64))), (l16 : List (List Int))⟩]
 else
  need (decide ((0 : Int) ≤ n3)) <|
  need (decide (n3 < (256 : Int))) <|
  need (decide ((0 : Int) ≤ n6)) <|
  need (decide (n6 < (256 : Int))) <|
  some [⟨tokTy, ((n1, n2, UInt8.ofNat (Int.toNat n3), l0, s5, UInt8.ofNat (Int.toNat n6), s7, PUnit.unit) : Int × Int × UInt8 × List (List Int) × List UInt8 × UInt8 × List UInt8 × PUnit)⟩]) := by kernel_rfl
theorem Cy_fn (n : Nat) (p0 : Int × Int × UInt8 × List (List Int) × List UInt8 × UInt8 × List UInt8 × PUnit) :
 fnY SCy loopY [(.hole tokTy)] [tokTy] n 26 [⟨tokTy, p0⟩] =
 (RL SCy [tokTy] n 26 0 noNx n [⟨(.list 44 (.list 3 (.int .i64))), ([] : List (List Int))⟩, ⟨(.int .i64), (p0.1 : Int)⟩, ⟨(.int .i32), (p0.2.1 : Int)⟩, ⟨(.int .u8), ((↑(UInt8.toNat p0.2.2.1) : Int) : Int)⟩, ⟨(.list 44 (.list 3 (.int .i64))), (p0.2.2.2.1 : List (List Int))⟩, ⟨.str, (p0.2.2.2.2.1 : List UInt8)⟩, ⟨(.int .u8), ((↑(UInt8.toNat p0.2.2.2.2.2.1) : Int) : Int)⟩, ⟨.str, (p0.2.2.2.2.2.2.1 : List UInt8)⟩, ⟨(.int .i64), ((0 : Int) : Int)⟩, ⟨(.int .i32), ((0 : Int) : Int)⟩, ⟨(.int .u8), ((0 : Int) : Int)⟩, ⟨.str, ([] : List UInt8)⟩, ⟨(.int .u8), ((0 : Int) : Int)⟩, ⟨.str, ([] : List UInt8)⟩, ⟨(.int .i64), ((0 : Int) : Int)⟩, ⟨(.int .i64), ((↑(List.length p0.2.2.2.1) : Int) : Int)⟩, ⟨(.list 44 (.list 3 (.int .i64))), (p0.2.2.2.1 : List (List Int))⟩]) := by kernel_rfl

end Go.Proofs.Ytfdhkpfkdcdloaa

namespace Go.Proofs.Ytfdhkpfkdcdloaa
open Go Go.Am
def gTok (T : List (List Int)) : Bool := decide (T.length ≤ 100000) && T.all fun r => !r.isEmpty && decide (r.length ≤ 100000)
theorem gTok_at {T : List (List Int)} (h : gTok T = true) : T.length ≤ 100000 ∧ ∀ r ∈ T, r.isEmpty = false ∧ r.length ≤ 100000 := by
 unfold gTok at h
 rw [Bool.and_eq_true, decide_eq_true_eq, List.all_eq_true] at h
 refine ⟨h.1, fun r hr => ?_⟩
 have := h.2 r hr
 rw [Bool.and_eq_true, Bool.not_eq_true', decide_eq_true_eq] at this
 exact this
theorem u8_back (b : UInt8) : UInt8.ofNat (Int.toNat (b.toNat : Int)) = b := by rw [Int.toNat_natCast]; exact UInt8.ofNat_toNat
theorem u8_lt (b : UInt8) : b.toNat < 256 := b.toNat_lt
theorem cy_loop (n : Nat) (a b : Int) (c : UInt8) (T : List (List Int)) (s : List UInt8) (f : UInt8) (d : List UInt8) (n8 n9 n10 : Int) (s11 : List UInt8) (n12 : Int) (s13 : List UInt8) (hT : gTok T = true) : ∀ (m i : Nat) (acc : List (List Int)), i ≤ T.length → T.length < i + m → acc = T.take i →
 RL SCy [tokTy] n 26 0 noNx m [⟨tyR, acc⟩, ⟨.int .i64, a⟩, ⟨.int .i32, b⟩, ⟨.int .u8, (c.toNat : Int)⟩, ⟨tyR, T⟩, ⟨.str, s⟩, ⟨.int .u8, (f.toNat : Int)⟩, ⟨.str, d⟩, ⟨.int .i64, n8⟩, ⟨.int .i32, n9⟩, ⟨.int .u8, n10⟩, ⟨.str, s11⟩, ⟨.int .u8, n12⟩, ⟨.str, s13⟩, ⟨.int .i64, (i : Int)⟩, ⟨.int .i64, (T.length : Int)⟩, ⟨tyR, T⟩] = some [⟨tokTy, (a, b, c, T, s, f, d, PUnit.unit)⟩]
 | 0, i, acc, h1, h2, _ => by omega
 | m + 1, i, acc, h1, h2, ha => by
  obtain ⟨g1, g2⟩ := gTok_at hT
  have hal : acc.length = i := by rw [ha, List.length_take]; omega
  rw [Cy_L0]
  by_cases hi : i < T.length
  ·have e0 : T.getD i [] = T[i] := by rw [List.getD_eq_getElem?_getD, List.getElem?_eq_getElem hi]; rfl
   obtain ⟨r1, r2⟩ := g2 T[i] (List.getElem_mem hi)
   rw [Int.toNat_natCast, e0]
   refine bpd (by omega) (nd (by omega) (nd (by omega) (nd hi ?_)))
   refine Eq.trans (need_pos (by rw [r1]; rfl)) (nd (by omega) (nd (by omega) (nd (by cases hq : T[i] with | nil => rw [hq] at r1; cases r1 | cons a b => simp) (nd (by simp; omega) (nd (by simp; omega) ?_)))))
   rw [show IntKind.wrap .i64 ((i : Int) + 1) = ((i + 1 : Nat) : Int) by rw [w64 (by omega)]; omega]
   exact cy_loop n a b c T s f d n8 n9 n10 s11 n12 s13 hT m (i + 1) _ (by omega) (by omega) (by rw [ha, List.take_succ_eq_append_getElem hi])
  ·have e : acc = T := by rw [ha, List.take_of_length_le (by omega)]
   have hc := u8_lt c
   have hf := u8_lt f
   refine bnd (by omega) (nd (by omega) (nd (by omega) (nd (by omega) (nd (by omega) ?_))))
   rw [u8_back, u8_back, e]
theorem cy_ok (t : tokTy.den) (hT : gTok t.2.2.2.1 = true) : ∃ n, fnY SCy loopY [.hole tokTy] [tokTy] n 26 [⟨tokTy, t⟩] = some [⟨tokTy, t⟩] := by
 obtain ⟨a, b, c, T, s, f, d, u⟩ := t
 refine ⟨100001, ?_⟩
 rw [Cy_fn]
 have hT : gTok T = true := hT
 have := (gTok_at hT).1
 exact cy_loop 100001 a b c T s f d 0 0 0 [] 0 [] hT 100001 0 [] (by omega) (by omega) rfl
def cCy : Ctr := ctr1 tokTy [tokTy] (fun (t : tokTy.den) => [gTok t.2.2.2.1]) fun (t : tokTy.den) => [⟨tokTy, t⟩]
theorem cCy_ok : CtrOk EP 26 cCy := ctr1_ok (S := SCy) (t := tokTy) (S_ok c2_ok m4_ok) (fun _ => rfl) rfl fun (t : tokTy.den) h => cy_ok t (by simpa using h)
def c3 : FuncId → List Ctr := addCtr c2 26 cCy
theorem c3_ok : ∀ g ct, ct ∈ c3 g → CtrOk EP g ct := addCtr_ok c2_ok cCy_ok
end Go.Proofs.Ytfdhkpfkdcdloaa

namespace Go.Proofs.Ytfdhkpfkdcdloaa
open Go Go.Am
set_option linter.unusedVariables false
def Rd_pre : Tm := { tmps := [], objs := [] }
def Rd_post : Tm := { tmps := [(0, .agg [.func 46 [] [], .func 47 [] [], .func 48 [] [], .func 48 [] [], .func 49 [] [], .func 49 [] [], .func 49 [] []])], objs := [] }
def tmRd : FuncId → Nat → Option Tm := fun g i => match Nat.beq g 30 with
 | true => none
 | false => none
noncomputable def SRd : SE := { E := EP, ctr := c3, tm := tmRd, un := 300, hold := [], ctrM := m4 }
theorem Rd_fn (n : Nat) :
 fnM SRd loopY Rd_pre Rd_post n 30 [] =
 (some []) := by kernel_rfl

end Go.Proofs.Ytfdhkpfkdcdloaa

namespace Go.Proofs.Ytfdhkpfkdcdloaa
open Go Go.Am
def cRd : CtrM := { pre := Rd_pre, res := (ctr0 [] []).res, post := Rd_post }
theorem cRd_ok : CtrMOk EP 30 cRd := ctrM_ok (S := SRd) (S_ok c3_ok m4_ok) rfl rfl rfl rfl fun ds gs ds' hr hg => by
 obtain ⟨rfl, rfl, rfl⟩ := ctr0_res (out := []) hr
 exact ⟨0, Rd_fn 0⟩
noncomputable def m5 : FuncId → List CtrM := addM m4 30 cRd
theorem m5_ok : ∀ g ct, ct ∈ m5 g → CtrMOk EP g ct := addM_ok m4_ok cRd_ok
end Go.Proofs.Ytfdhkpfkdcdloaa

namespace Go.Proofs.Ytfdhkpfkdcdloaa
open Go Go.Am
set_option linter.unusedVariables false
def Ar_pre : Tm := { tmps := [(0, .ptr 0 0)], objs := [.row 71 (.int .i64) false] }
def Ar_post : Tm := { tmps := [(0, .hole (.list 44 (.list 3 (.int .i64))))], objs := [.row 71 (.int .i64) false] }
def Ar_T0 : Tm := { tmps := [(15, (.hole (.int .i64))), (14, (.hole (.int .i64))), (3, .h 1), (0, (.ptr 0 0))], objs := [.row 71 (.int .i64) false, .lst 44 (.list 3 (.int .i64)) true], prep := [(3, 44)] }
def tmAr : FuncId → Nat → Option Tm := fun g i => match Nat.beq g 56 with
 | true => match Nat.beq i 0 with | true => some Ar_T0 | false => none
 | false => none
noncomputable def SAr : SE := { E := EP, ctr := c3, tm := tmAr, un := 300, hold := [0], ctrM := m5 }
theorem Ar_L0 (n : Nat) (nx : Nat → List Dy → Option (List Dy)) (m : Nat) (l0 : List Int) (l1 : List (List Int)) (n2 : Int) (n3 : Int) :
 RLM SAr Ar_post n 56 0 nx (m + 1) [⟨(.list 71 (.int .i64)), l0⟩, ⟨(.list 44 (.list 3 (.int .i64))), l1⟩, ⟨(.int .i64), n2⟩, ⟨(.int .i64), n3⟩] =
 (bif (decide (n2 < n3)) then
  need (decide ((0 : Int) ≤ n2)) <|
  need (decide (n2 < (32 : Int))) <|
  need (decide ((0 : Nat) + Int.toNat n2 * (9 : Nat) + (8 : Nat) < List.length l0)) <|
  need (decide ((0 : Int) ≤ if (8 : Int) < List.getD l0 ((0 : Nat) + Int.toNat n2 * (9 : Nat) + (8 : Nat)) (0 : Int) then (8 : Int) else List.getD l0 ((0 : Nat) + Int.toNat n2 * (9 : Nat) + (8 : Nat)) (0 : Int))) <|
  need (decide ((if (8 : Int) < List.getD l0 ((0 : Nat) + Int.toNat n2 * (9 : Nat) + (8 : Nat)) (0 : Int) then (8 : Int) else List.getD l0 ((0 : Nat) + Int.toNat n2 * (9 : Nat) + (8 : Nat)) (0 : Int)) ≤ if (8 : Int) < List.getD l0 ((0 : Nat) + Int.toNat n2 * (9 : Nat) + (8 : Nat)) (0 : Int) then (8 : Int) else List.getD l0 ((0 : Nat) + Int.toNat n2 * (9 : Nat) + (8 : Nat)) (0 : Int))) <|
  need (decide (((↑(8 : Nat) : Int) * if (8 : Int) < List.getD l0 ((0 : Nat) + Int.toNat n2 * (9 : Nat) + (8 : Nat)) (0 : Int) then (8 : Int) else List.getD l0 ((0 : Nat) + Int.toNat n2 * (9 : Nat) + (8 : Nat)) (0 : Int)) ≤ (140737488355328 : Int))) <|
  need (decide ((if (8 : Int) < List.getD l0 ((0 : Nat) + Int.toNat n2 * (9 : Nat) + (8 : Nat)) (0 : Int) then (8 : Int) else List.getD l0 ((0 : Nat) + Int.toNat n2 * (9 : Nat) + (8 : Nat)) (0 : Int)) ≤ (140737488355328 : Int))) <|
  need (decide ((0 : Int) ≤ if (8 : Int) < List.getD l0 ((0 : Nat) + Int.toNat n2 * (9 : Nat) + (8 : Nat)) (0 : Int) then (8 : Int) else List.getD l0 ((0 : Nat) + Int.toNat n2 * (9 : Nat) + (8 : Nat)) (0 : Int))) <|
  need (decide ((if (8 : Int) < List.getD l0 ((0 : Nat) + Int.toNat n2 * (9 : Nat) + (8 : Nat)) (0 : Int) then (8 : Int) else List.getD l0 ((0 : Nat) + Int.toNat n2 * (9 : Nat) + (8 : Nat)) (0 : Int)) ≤ if (8 : Int) < List.getD l0 ((0 : Nat) + Int.toNat n2 * (9 : Nat) + (8 : Nat)) (0 : Int) then (8 : Int) else List.getD l0 ((0 : Nat) + Int.toNat n2 * (9 : Nat) + (8 : Nat)) (0 : Int))) <|
  need (decide ((if (8 : Int) < List.getD l0 ((0 : Nat) + Int.toNat n2 * (9 : Nat) + (8 : Nat)) (0 : Int) then (8 : Int) else List.getD l0 ((0 : Nat) + Int.toNat n2 * (9 : Nat) + (8 : Nat)) (0 : Int)) ≤ (8 : Int))) <|
  need (decide ((0 : Nat) + Int.toNat n2 * (9 : Nat) + (0 : Nat) + Int.toNat (if (8 : Int) < List.getD l0 ((0 : Nat) + Int.toNat n2 * (9 : Nat) + (8 : Nat)) (0 : Int) then (8 : Int) else List.getD l0 ((0 : Nat) + Int.toNat n2 * (9 : Nat) + (8 : Nat)) (0 : Int)) ≤ List.length l0)) <|
  need (decide (Int.toNat (if (8 : Int) < List.getD l0 ((0 : Nat) + Int.toNat n2 * (9 : Nat) + (8 : Nat)) (0 : Int) then (8 : Int) else List.getD l0 ((0 : Nat) + Int.toNat n2 * (9 : Nat) + (8 : Nat)) (0 : Int)) ≤ List.length (List.replicate (Int.toNat (if (8 : Int) < List.getD l0 ((0 : Nat) + Int.toNat n2 * (9 : Nat) + (8 : Nat)) (0 : Int) then (8 : Int) else List.getD l0 ((0 : Nat) + Int.toNat n2 * (9 : Nat) + (8 : Nat)) (0 : Int))) (0 : Int)))) <|
  need (decide (Int.toNat (if (8 : Int) < List.getD l0 ((0 : Nat) + Int.toNat n2 * (9 : Nat) + (8 : Nat)) (0 : Int) then (8 : Int) else List.getD l0 ((0 : Nat) + Int.toNat n2 * (9 : Nat) + (8 : Nat)) (0 : Int)) ≤ List.length (List.take (Min.min (List.length (List.take (Int.toNat (if (8 : Int) < List.getD l0 ((0 : Nat) + Int.toNat n2 * (9 : Nat) + (8 : Nat)) (0 : Int) then (8 : Int) else List.getD l0 ((0 : Nat) + Int.toNat n2 * (9 : Nat) + (8 : Nat)) (0 : Int))) (List.drop ((0 : Nat) + Int.toNat n2 * (9 : Nat) + (0 : Nat)) l0))) (Int.toNat (if (8 : Int) < List.getD l0 ((0 : Nat) + Int.toNat n2 * (9 : Nat) + (8 : Nat)) (0 : Int) then (8 : Int) else List.getD l0 ((0 : Nat) + Int.toNat n2 * (9 : Nat) + (8 : Nat)) (0 : Int)))) (List.take (Int.toNat (if (8 : Int) < List.getD l0 ((0 : Nat) + Int.toNat n2 * (9 : Nat) + (8 : Nat)) (0 : Int) then (8 : Int) else List.getD l0 ((0 : Nat) + Int.toNat n2 * (9 : Nat) + (8 : Nat)) (0 : Int))) (List.drop ((0 : Nat) + Int.toNat n2 * (9 : Nat) + (0 : Nat)) l0)) ++ List.drop (Min.min (List.length (List.take (Int.toNat (if (8 : Int) < List.getD l0 ((0 : Nat) + Int.toNat n2 * (9 : Nat) + (8 : Nat)) (0 : Int) then (8 : Int) else List.getD l0 ((0 : Nat) + Int.toNat n2 * (9 : Nat) + (8 : Nat)) (0 : Int))) (List.drop ((0 : Nat) + Int.toNat n2 * (9 : Nat) + (0 : Nat)) l0))) (Int.toNat (if (8 : Int) < List.getD l0 ((0 : Nat) + Int.toNat n2 * (9 : Nat) + (8 : Nat)) (0 : Int) then (8 : Int) else List.getD l0 ((0 : Nat) + Int.toNat n2 * (9 : Nat) + (8 : Nat)) (0 : Int)))) (List.replicate (Int.toNat (if (8 : Int) < List.getD l0 ((0 : Nat) + Int.toNat n2 * (9 : Nat) + (8 : Nat)) (0 : Int) then (8 : Int) else List.getD l0 ((0 : Nat) + Int.toNat n2 * (9 : Nat) + (8 : Nat)) (0 : Int))) (0 : Int))))) <|
  need (decide ((List.length l1 + List.length [List.take (Int.toNat (if (8 : Int) < List.getD l0 ((0 : Nat) + Int.toNat n2 * (9 : Nat) + (8 : Nat)) (0 : Int) then (8 : Int) else List.getD l0 ((0 : Nat) + Int.toNat n2 * (9 : Nat) + (8 : Nat)) (0 : Int))) (List.take (Min.min (List.length (List.take (Int.toNat (if (8 : Int) < List.getD l0 ((0 : Nat) + Int.toNat n2 * (9 : Nat) + (8 : Nat)) (0 : Int) then (8 : Int) else List.getD l0 ((0 : Nat) + Int.toNat n2 * (9 : Nat) + (8 : Nat)) (0 : Int))) (List.drop ((0 : Nat) + Int.toNat n2 * (9 : Nat) + (0 : Nat)) l0))) (Int.toNat (if (8 : Int) < List.getD l0 ((0 : Nat) + Int.toNat n2 * (9 : Nat) + (8 : Nat)) (0 : Int) then (8 : Int) else List.getD l0 ((0 : Nat) + Int.toNat n2 * (9 : Nat) + (8 : Nat)) (0 : Int)))) (List.take (Int.toNat (if (8 : Int) < List.getD l0 ((0 : Nat) + Int.toNat n2 * (9 : Nat) + (8 : Nat)) (0 : Int) then (8 : Int) else List.getD l0 ((0 : Nat) + Int.toNat n2 * (9 : Nat) + (8 : Nat)) (0 : Int))) (List.drop ((0 : Nat) + Int.toNat n2 * (9 : Nat) + (0 : Nat)) l0)) ++ List.drop (Min.min (List.length (List.take (Int.toNat (if (8 : Int) < List.getD l0 ((0 : Nat) + Int.toNat n2 * (9 : Nat) + (8 : Nat)) (0 : Int) then (8 : Int) else List.getD l0 ((0 : Nat) + Int.toNat n2 * (9 : Nat) + (8 : Nat)) (0 : Int))) (List.drop ((0 : Nat) + Int.toNat n2 * (9 : Nat) + (0 : Nat)) l0))) (Int.toNat (if (8 : Int) < List.getD l0 ((0 : Nat) + Int.toNat n2 * (9 : Nat) + (8 : Nat)) (0 : Int) then (8 : Int) else List.getD l0 ((0 : Nat) + Int.toNat n2 * (9 : Nat) + (8 : Nat)) (0 : Int)))) (List.replicate (Int.toNat (if (8 : Int) < List.getD l0 ((0 : Nat) + Int.toNat n2 * (9 : Nat) + (8 : Nat)) (0 : Int) then (8 : Int) else List.getD l0 ((0 : Nat) + Int.toNat n2 * (9 : Nat) + (8 : Nat)) (0 : Int))) (0 : Int)))]) * (24 : Nat) ≤ (140737488355328 : Nat))) <|
  need (decide (List.length l1 + List.length [List.take (Int.toNat (if (8 : Int) < List.getD l0 ((0 : Nat) + Int.toNat n2 * (9 : Nat) + (8 : Nat)) (0 : Int) then (8 : Int) else List.getD l0 ((0 : Nat) + Int.toNat n2 * (9 : Nat) + (8 : Nat)) (0 : Int))) (List.take (Min.min (List.length (List.take (Int.toNat (if (8 : Int) < List.getD l0 ((0 : Nat) + Int.toNat n2 * (9 : Nat) + (8 : Nat)) (0 : Int) then (8 : Int) else List.getD l0 ((0 : Nat) + Int.toNat n2 * (9 : Nat) + (8 : Nat)) (0 : Int))) (List.drop ((0 : Nat) + Int.toNat n2 * (9 : Nat) + (0 : Nat)) l0))) (Int.toNat (if (8 : Int) < List.getD l0 ((0 : Nat) + Int.toNat n2 * (9 : Nat) + (8 : Nat)) (0 : Int) then (8 : Int) else List.getD l0 ((0 : Nat) + Int.toNat n2 * (9 : Nat) + (8 : Nat)) (0 : Int)))) (List.take (Int.toNat (if (8 : Int) < List.getD l0 ((0 : Nat) + Int.toNat n2 * (9 : Nat) + (8 : Nat)) (0 : Int) then (8 : Int) else List.getD l0 ((0 : Nat) + Int.toNat n2 * (9 : Nat) + (8 : Nat)) (0 : Int))) (List.drop ((0 : Nat) + Int.toNat n2 * (9 : Nat) + (0 : Nat)) l0)) ++ List.drop (Min.min (List.length (List.take (Int.toNat (if (8 : Int) < List.getD l0 ((0 : Nat) + Int.toNat n2 * (9 : Nat) + (8 : Nat)) (0 : Int) then (8 : Int) else List.getD l0 ((0 : Nat) + Int.toNat n2 * (9 : Nat) + (8 : Nat)) (0 : Int))) (List.drop ((0 : Nat) + Int.toNat n2 * (9 : Nat) + (0 : Nat)) l0))) (Int.toNat (if (8 : Int) < List.getD l0 ((0 : Nat) + Int.toNat n2 * (9 : Nat) + (8 : Nat)) (0 : Int) then (8 : Int) else List.getD l0 ((0 : Nat) + Int.toNat n2 * (9 : Nat) + (8 : Nat)) (0 : Int)))) (List.replicate (Int.toNat (if (8 : Int) < List.getD l0 ((0 : Nat) + Int.toNat n2 * (9 : Nat) + (8 : Nat)) (0 : Int) then (8 : Int) else List.getD l0 ((0 : Nat) + Int.toNat n2 * (9 : Nat) + (8 : Nat)) (0 : Int))) (0 : Int)))] ≤ (140737488355328 : Nat))) <|
  RLM SAr Ar_post n 56 0 nx m [⟨(.list 71 (.int .i64)), (l0 : List Int)⟩, ⟨(.list 44 (.list 3 (.int .i64))), (l1 ++ [List.take (Int.toNat (if (8 : Int) < List.getD l0 ((0 : Nat) + Int.toNat n2 * (9 : Nat) + (8 : Nat)) (0 : Int) then (8 : Int) else List.getD l0 ((0 : Nat) + Int.toNat n2 * (9 : Nat) + (8 : Nat)) (0 : Int))) (List.take (Min.min (List.length (List.take (Int.toNat (if (8 : Int) < List.getD l0 ((0 : Nat) + Int.toNat n2 * (9 : Nat) + (8 : Nat)) (0 : Int) then (8 : Int) else List.getD l0 ((0 : Nat) + Int.toNat n2 * (9 : Nat) + (8 : Nat)) (0 : Int))) (List.drop ((0 : Nat) + Int.toNat n2 * (9 : Nat) + (0 : Nat)) l0))) (Int.toNat (if (8 : Int) < List.getD l0 ((0 : Nat) + Int.toNat n2 * (9 : Nat) + (8 : Nat)) (0 : Int) then (8 : Int) else List.getD l0 ((0 : Nat) + Int.toNat n2 * (9 : Nat) + (8 : Nat)) (0 : Int)))) (List.take (Int.toNat (if (8 : Int) < List.getD l0 ((0 : Nat) + Int.toNat n2 * (9 : Nat) + (8 : Nat)) (0 : Int) then (8 : Int) else List.getD l0 ((0 : Nat) + Int.toNat n2 * (9 : Nat) + (8 : Nat)) (0 : Int))) (List.drop ((0 : Nat) + Int.toNat n2 * (9 : Nat) + (0 : Nat)) l0)) ++ List.drop (Min.min (List.length (List.take (Int.toNat (if (8 : Int) < List.getD l0 ((0 : Nat) + Int.toNat n2 * (9 : Nat) + (8 : Nat)) (0 : Int) then (8 : Int) else List.getD l0 ((0 : Nat) + Int.toNat n2 * (9 : Nat) + (8 : Nat)) (0 : Int))) (List.drop ((0 : Nat) + Int.toNat n2 * (9 : Nat) + (0 : Nat)) l0))) (Int.toNat (if (8 : Int) < List.getD l0 ((0 : Nat) + Int.toNat n2 * (9 : Nat) + (8 : Nat)) (0 : Int) then (8 : Int) else List.getD l0 ((0 : Nat) + Int.toNat n2 * (9 : Nat) + (8 : Nat)) (0 : Int)))) (List.replicate (Int.toNat (if (8 : Int) < List.getD l0 ((0 : Nat) + Int.toNat n2 * (9 : Nat) + (8 : Nat)) (0 : Int) then (8 : Int) else List.getD l0 ((0 : Nat) + Int.toNat n2 * (9 : Nat) + (8 : Nat)) (0 : Int))) (0 : Int)))] : List (List Int))⟩, ⟨(.int .i64), (IntKind.wrap .i64 (n2 + (1 : Int)) : Int)⟩, ⟨(.int .i64), (n3 : Int)⟩]
 else
  some [⟨(.list 71 (.int .i64)), (l0 : List Int)⟩, ⟨(.list 44 (.list 3 (.int .i64))), (l1 : List (List Int))⟩]) := by kernel_rfl
theorem Ar_fn (n : Nat) (l0 : List Int) :
 fnM SAr loopY Ar_pre Ar_post n 56 [⟨(.list 71 (.int .i64)), l0⟩] =
 (need (decide ((288 : Nat) < List.length l0)) <|
 RLM SAr Ar_post n 56 0 noNx n [⟨(.list 71 (.int .i64)), (l0 : List Int)⟩, ⟨(.list 44 (.list 3 (.int .i64))), ([] : List (List Int))⟩, ⟨(.int .i64), ((0 : Int) : Int)⟩, ⟨(.int .i64), (if (32 : Int) < List.getD l0 (288 : Nat) (0 : Int) then (32 : Int) else List.getD l0 (288 : Nat) (0 : Int) : Int)⟩]) := by kernel_rfl

end Go.Proofs.Ytfdhkpfkdcdloaa

namespace Go.Proofs.Ytfdhkpfkdcdloaa
open Go Go.Am
set_option linter.unusedVariables false
def Am_pre : Tm := { tmps := [], objs := [] }
def Am_post : Tm := { tmps := [(0, .agg [.hole (.int .u8), .hole (.int .u8)])], objs := [] }
def tmAm : FuncId → Nat → Option Tm := fun g i => match Nat.beq g 64 with
 | true => none
 | false => none
noncomputable def SAm : SE := { E := EP, ctr := c3, tm := tmAm, un := 300, hold := [], ctrM := m5 }
theorem Am_fn (n : Nat) :
 fnM SAm loopY Am_pre Am_post n 64 [] =
 (some [⟨(.int .u8), ((128 : Int) : Int)⟩, ⟨(.int .u8), ((191 : Int) : Int)⟩]) := by kernel_rfl

def Se_pre : Tm := { tmps := [(0, .hole .byte)], objs := [] }
def Se_post : Tm := { tmps := [(0, .agg [.hole (.int .u8), .hole (.int .u8)])], objs := [] }
def tmSe : FuncId → Nat → Option Tm := fun g i => match Nat.beq g 68 with
 | true => none
 | false => none
noncomputable def SSe : SE := { E := EP, ctr := c3, tm := tmSe, un := 300, hold := [], ctrM := m5 }
theorem Se_fn (n : Nat) (c0 : UInt8) :
 fnM SSe loopY Se_pre Se_post n 68 [⟨.byte, c0⟩] =
 (bif ((224 : Int) == (↑(UInt8.toNat c0) : Int)) then
  some [⟨(.int .u8), ((160 : Int) : Int)⟩, ⟨(.int .u8), ((191 : Int) : Int)⟩]
 else
  bif ((237 : Int) == (↑(UInt8.toNat c0) : Int)) then
   some [⟨(.int .u8), ((128 : Int) : Int)⟩, ⟨(.int .u8), ((159 : Int) : Int)⟩]
  else
   bif ((240 : Int) == (↑(UInt8.toNat c0) : Int)) then
    some [⟨(.int .u8), ((144 : Int) : Int)⟩, ⟨(.int .u8), ((191 : Int) : Int)⟩]
   else
    bif ((244 : Int) == (↑(UInt8.toNat c0) : Int)) then
     some [⟨(.int .u8), ((128 : Int) : Int)⟩, ⟨(.int .u8), ((143 : Int) : Int)⟩]
    else
     some [⟨(.int .u8), ((128 : Int) : Int)⟩, ⟨(.int .u8), ((191 : Int) : Int)⟩]) := by kernel_rfl

end Go.Proofs.Ytfdhkpfkdcdloaa

namespace Go.Proofs.Ytfdhkpfkdcdloaa
open Go Go.Am

structure PS where
 l : List Int
 inter : List UInt8
 data : List UInt8
 c : Int
 lf : Int
 gt : Int
 lo : Int
 hi : Int
 st : Int
 mk' : Int
 fst : Bool
 fin : Int
 sp : Bool
 en : Bool

abbrev Tk := tokTy.den
def psD (s : PS) (t : List Tk) : List Dy := [⟨.list 71 (.int .i64), s.l⟩, ⟨.list 5 .byte, s.inter⟩, ⟨.list 5 .byte, s.data⟩, ⟨.list 41 tokTy, t⟩, ⟨.int .i32, s.c⟩, ⟨.int .u8, s.lf⟩, ⟨.int .u8, s.gt⟩, ⟨.int .u8, s.lo⟩, ⟨.int .u8, s.hi⟩, ⟨.int .i64, s.st⟩, ⟨.int .u8, s.mk'⟩, ⟨.bool, s.fst⟩, ⟨.int .u8, s.fin⟩, ⟨.bool, s.sp⟩, ⟨.bool, s.en⟩]
def psD0 (s : PS) : List Dy := [⟨.list 71 (.int .i64), s.l⟩, ⟨.list 5 .byte, s.inter⟩, ⟨.list 5 .byte, s.data⟩, ⟨.int .i32, s.c⟩, ⟨.int .u8, s.lf⟩, ⟨.int .u8, s.gt⟩, ⟨.int .u8, s.lo⟩, ⟨.int .u8, s.hi⟩, ⟨.int .i64, s.st⟩, ⟨.int .u8, s.mk'⟩, ⟨.bool, s.fst⟩, ⟨.int .u8, s.fin⟩, ⟨.bool, s.sp⟩, ⟨.bool, s.en⟩]

def psC (s : PS) : List Dy := [⟨.int .i32, s.c⟩, ⟨.int .u8, s.lf⟩, ⟨.int .u8, s.gt⟩, ⟨.int .u8, s.lo⟩, ⟨.int .u8, s.hi⟩, ⟨.int .i64, s.st⟩, ⟨.int .u8, s.mk'⟩, ⟨.bool, s.fst⟩, ⟨.int .u8, s.fin⟩, ⟨.bool, s.sp⟩, ⟨.bool, s.en⟩]
def psDB (s : PS) (t : List Tk) (bs : List UInt8) : List Dy := [⟨.list 71 (.int .i64), s.l⟩, ⟨.list 5 .byte, s.inter⟩, ⟨.list 5 .byte, s.data⟩, ⟨.list 41 tokTy, t⟩, ⟨.list 5 .byte, bs⟩] ++ psC s
def popC (l : List Int) (inter data : List UInt8) (ds : List Dy) : Option (PS × List Dy) :=
 match popD (.int .i32) ds with
 | some (c, ds) => match popD (.int .u8) ds with
  | some (lf, ds) => match popD (.int .u8) ds with
   | some (gt, ds) => match popD (.int .u8) ds with
    | some (lo, ds) => match popD (.int .u8) ds with
     | some (hi, ds) => match popD (.int .i64) ds with
      | some (st, ds) => match popD (.int .u8) ds with
       | some (mk', ds) => match popD .bool ds with
        | some (fst, ds) => match popD (.int .u8) ds with
         | some (fin, ds) => match popD .bool ds with
          | some (sp, ds) => match popD .bool ds with
           | some (en, ds) => some (⟨l, inter, data, c, lf, gt, lo, hi, st, mk', fst, fin, sp, en⟩, ds)
           | none => none
          | none => none
         | none => none
        | none => none
       | none => none
      | none => none
     | none => none
    | none => none
   | none => none
  | none => none
 | none => none
def popPT (ds : List Dy) : Option (PS × List Tk × List Dy) :=
 match popD (.list 71 (.int .i64)) ds with
 | some (l, ds) => match popD (.list 5 .byte) ds with
  | some (inter, ds) => match popD (.list 5 .byte) ds with
   | some (data, ds) => match popD (.list 41 tokTy) ds with
    | some (t, ds) => match popC l inter data ds with
     | some (s, ds) => some (s, t, ds)
     | none => none
    | none => none
   | none => none
  | none => none
 | none => none
def popP (ds : List Dy) : Option (PS × List Dy) :=
 match popD (.list 71 (.int .i64)) ds with
 | some (l, ds) => match popD (.list 5 .byte) ds with
  | some (inter, ds) => match popD (.list 5 .byte) ds with
   | some (data, ds) => popC l inter data ds
   | none => none
  | none => none
 | none => none
theorem popC_eq {l : List Int} {inter data : List UInt8} {ds r : List Dy} {s : PS} (h : popC l inter data ds = some (s, r)) :
 s.l = l ∧ s.inter = inter ∧ s.data = data ∧ ds = [⟨.int .i32, s.c⟩, ⟨.int .u8, s.lf⟩, ⟨.int .u8, s.gt⟩, ⟨.int .u8, s.lo⟩, ⟨.int .u8, s.hi⟩, ⟨.int .i64, s.st⟩, ⟨.int .u8, s.mk'⟩, ⟨.bool, s.fst⟩, ⟨.int .u8, s.fin⟩, ⟨.bool, s.sp⟩, ⟨.bool, s.en⟩] ++ r := by
 unfold popC at h
 split at h
 case h_2 => cases h
 rename_i h1
 split at h
 case h_2 => cases h
 rename_i h2
 split at h
 case h_2 => cases h
 rename_i h3
 split at h
 case h_2 => cases h
 rename_i h4
 split at h
 case h_2 => cases h
 rename_i h5
 split at h
 case h_2 => cases h
 rename_i h6
 split at h
 case h_2 => cases h
 rename_i h7
 split at h
 case h_2 => cases h
 rename_i h8
 split at h
 case h_2 => cases h
 rename_i h9
 split at h
 case h_2 => cases h
 rename_i h10
 split at h
 case h_2 => cases h
 rename_i h11
 simp only [Option.some.injEq, Prod.mk.injEq] at h
 obtain ⟨rfl, rfl⟩ := h
 refine ⟨rfl, rfl, rfl, ?_⟩
 rw [popD_eq h1, popD_eq h2, popD_eq h3, popD_eq h4, popD_eq h5, popD_eq h6, popD_eq h7, popD_eq h8, popD_eq h9, popD_eq h10, popD_eq h11]
 rfl
theorem popPT_eq {ds r : List Dy} {s : PS} {t : List Tk} (h : popPT ds = some (s, t, r)) : ds = psD s t ++ r := by
 unfold popPT at h
 split at h
 case h_2 => cases h
 rename_i h1
 split at h
 case h_2 => cases h
 rename_i h2
 split at h
 case h_2 => cases h
 rename_i h3
 split at h
 case h_2 => cases h
 rename_i h4
 split at h
 case h_2 => cases h
 rename_i h5
 obtain ⟨e1, e2, e3, e4⟩ := popC_eq h5
 simp only [Option.some.injEq, Prod.mk.injEq] at h
 obtain ⟨rfl, rfl, rfl⟩ := h
 rw [popD_eq h1, popD_eq h2, popD_eq h3, popD_eq h4, e4, ← e1, ← e2, ← e3]
 rfl
theorem popP_eq {ds r : List Dy} {s : PS} (h : popP ds = some (s, r)) : ds = psD0 s ++ r := by
 unfold popP at h
 split at h
 case h_2 => cases h
 rename_i h1
 split at h
 case h_2 => cases h
 rename_i h2
 split at h
 case h_2 => cases h
 rename_i h3
 obtain ⟨e1, e2, e3, e4⟩ := popC_eq h
 rw [popD_eq h1, popD_eq h2, popD_eq h3, e4, ← e1, ← e2, ← e3]
 rfl

structure PI (s : PS) : Prop where
 l : ∃ T, Rep T s.l
 inter : s.inter.length ≤ 2
 data : s.data.length ≤ 1024
 st : 0 ≤ s.st ∧ s.st ≤ 6
 mk' : 0 ≤ s.mk' ∧ s.mk' < 256
 fin : 0 ≤ s.fin ∧ s.fin < 256
noncomputable def gP (s : PS) : Bool := @decide (PI s) (Classical.propDecidable _)
theorem gP_iff {s : PS} : gP s = true ↔ PI s := by unfold gP; simp

end Go.Proofs.Ytfdhkpfkdcdloaa

namespace Go.Proofs.Ytfdhkpfkdcdloaa
open Go Go.Am
theorem ar_loop (n : Nat) (l : List Int) (h : g0 l = true) (N : Nat) (hN : N ≤ 32) : ∀ (m i : Nat) (acc : List (List Int)), i ≤ N → N < i + m → acc.length = i →
 RLM SAr Ar_post n 56 0 noNx m [⟨.list 71 (.int .i64), l⟩, ⟨tyR, acc⟩, ⟨.int .i64, (i : Int)⟩, ⟨.int .i64, (N : Int)⟩] = some [⟨.list 71 (.int .i64), l⟩, ⟨tyR, acc ++ (List.range' i (N - i)).map (rowF l)⟩]
 | 0, i, acc, h1, h2, _ => by omega
 | m + 1, i, acc, h1, h2, ha => by
  obtain ⟨hl, h0, h33, hc⟩ := g0_at h
  rw [Ar_L0]
  by_cases hi : i < N
  ·obtain ⟨c0, c9⟩ := cts_at hc (show i < 32 by omega)
   have eo : 0 + Int.toNat (i : Int) * 9 + 8 = 9 * i + 8 := by rw [Int.toNat_natCast]; omega
   have eo2 : 0 + Int.toNat (i : Int) * 9 + 0 = 9 * i := by rw [Int.toNat_natCast]; omega
   rw [eo, eo2]
   have ew : IntKind.wrap .i64 ((i : Int) + 1) = ((i + 1 : Nat) : Int) := by rw [w64 (by omega)]; omega
   obtain ⟨k, hk⟩ : ∃ k : Nat, (if 8 < l.getD (9 * i + 8) 0 then 8 else l.getD (9 * i + 8) 0) = (k : Int) := ⟨Int.toNat (if 8 < l.getD (9 * i + 8) 0 then 8 else l.getD (9 * i + 8) 0), by split <;> omega⟩
   have hk8 : k ≤ 8 := by
    have := hk
    split at this <;> omega
   have hr : rowF l i = (l.drop (9 * i)).take k := by unfold rowF; rw [hk, Int.toNat_natCast]
   have hlen : ((l.drop (9 * i)).take k).length = k := by rw [List.length_take, List.length_drop]; omega
   rw [hk, Int.toNat_natCast, ew]
   have e1 : List.range' i (N - i) = i :: List.range' (i + 1) (N - (i + 1)) := by
    rw [show N - i = (N - (i + 1)) + 1 by omega, List.range'_succ]
   rw [e1, List.map_cons, hr]
   have hcp := copied _ k hlen
   have hcl : (((l.drop (9 * i)).take k).take (min ((l.drop (9 * i)).take k).length k) ++ (List.replicate k (0 : Int)).drop (min ((l.drop (9 * i)).take k).length k)).length = k := by
    simp only [List.length_append, List.length_take, List.length_drop, List.length_replicate]; omega
   refine bpd (by omega) (nd (by omega) (nd (by omega) (nd (by omega) (nd (by omega) (nd (by omega) (nd (by omega) (nd (by omega) (nd (by omega) (nd (by omega) (nd (by omega) (nd (by omega) (nd (by simp) (nd (by rw [hcl]; exact Nat.le_refl _) (nd ?_ (nd ?_ ?_)))))))))))))))
   ·simp only [List.length_singleton]; omega
   ·simp only [List.length_singleton]; omega
   ·have hcp' : List.take k (List.take (Min.min (List.length (List.take k (List.drop (9 * i) l))) k) (List.take k (List.drop (9 * i) l)) ++ List.drop (Min.min (List.length (List.take k (List.drop (9 * i) l))) k) (List.replicate k (0 : Int))) = (l.drop (9 * i)).take k := hcp
    rw [hcp']
    have := ar_loop n l h N hN m (i + 1) (acc ++ [(l.drop (9 * i)).take k]) (by omega) (by omega) (by simp [ha])
    rw [this]
    rw [List.append_assoc]
    rfl
  ·have : N - i = 0 := by omega
   rw [this]
   refine bnd (by omega) ?_
   simp
theorem ar_ok (l : List Int) (h : g0 l = true) : ∃ n, fnM SAr loopY Ar_pre Ar_post n 56 [⟨.list 71 (.int .i64), l⟩] = some [⟨.list 71 (.int .i64), l⟩, ⟨tyR, allF l⟩] := by
 obtain ⟨hl, h0, h33, hc⟩ := g0_at h
 obtain ⟨k, hk⟩ : ∃ k : Nat, (if 32 < l.getD 288 0 then 32 else l.getD 288 0) = (k : Int) := ⟨Int.toNat (if 32 < l.getD 288 0 then 32 else l.getD 288 0), by split <;> omega⟩
 have hk32 : k ≤ 32 := by
  have := hk
  split at this <;> omega
 refine ⟨k + 1, ?_⟩
 rw [Ar_fn, hk]
 refine nd (by omega) ?_
 have := ar_loop (k + 1) l h k hk32 (k + 1) 0 [] (by omega) (by omega) rfl
 refine this.trans ?_
 unfold allF
 rw [hk, Int.toNat_natCast, List.range_eq_range']
 rfl
def cAr : CtrM := { pre := Ar_pre, res := (ctr1 (.list 71 (.int .i64)) [] (fun (l : List Int) => [g0 l]) fun (l : List Int) => [⟨.list 71 (.int .i64), l⟩, ⟨tyR, allF l⟩]).res, post := Ar_post }
theorem cAr_ok : CtrMOk EP 56 cAr := ctrM_ok (S := SAr) (S_ok c3_ok m5_ok) rfl rfl rfl rfl fun ds gs ds' hr hg => by
 obtain ⟨l, rfl, rfl, rfl⟩ := ctr1_res (out := []) hr
 exact ar_ok l (by simpa using hg)
theorem cAlq_ok : CtrMOk EP 56 { cAl with ro := true } := cAl_ok.quiet cAr_ok fun ds gs ds' s s2 hr hg h1 h2 => by
 have hr0 := hr
 obtain ⟨l, rfl, rfl, rfl⟩ := ctr1_res (out := []) hr
 have e1 : Al_pre.inst [⟨.list 71 (.int .i64), l⟩] = some ⟨[(0, .ptr 0 0)], [.row 71 (.int .i64) l true]⟩ := by
  unfold Al_pre Tm.inst
  simp only [instOs1, instO, popD_self, instOs2, instTs, instP]
 have e2 : Ar_pre.inst [⟨.list 71 (.int .i64), l⟩] = some ⟨[(0, .ptr 0 0)], [.row 71 (.int .i64) l false]⟩ := by
  unfold Ar_pre Tm.inst
  simp only [instOs1, instO, popD_self, instOs2, instTs, instP]
 have e3 : ∃ s3, Ar_post.inst [⟨.list 71 (.int .i64), l⟩, ⟨tyR, allF l⟩] = some s3 := by
  unfold Ar_post Tm.inst
  simp only [instOs1, instO, popD_self, instOs2, instTs, instP]
  exact ⟨_, rfl⟩
 have h1 : Al_pre.inst [⟨.list 71 (.int .i64), l⟩] = some s := h1
 rw [e1] at h1
 cases h1
 obtain ⟨s3, e3⟩ := e3
 exact ⟨rfl, _, _, s3, hr0, hg, e2, e3⟩
def cAm : CtrM := { pre := Am_pre, res := (ctr0 [] [⟨.int .u8, (128 : Int)⟩, ⟨.int .u8, (191 : Int)⟩]).res, post := Am_post }
theorem cAm_ok : CtrMOk EP 64 cAm := ctrM_ok (S := SAm) (S_ok c3_ok m5_ok) rfl rfl rfl rfl fun ds gs ds' hr hg => by
 obtain ⟨rfl, rfl, rfl⟩ := ctr0_res (out := []) hr
 exact ⟨0, Am_fn 0⟩
def secLo (b : UInt8) : Int := if b = 224 then 160 else if b = 240 then 144 else 128
def secHi (b : UInt8) : Int := if b = 237 then 159 else if b = 244 then 143 else 191
theorem se_ok (b : UInt8) : fnM SSe loopY Se_pre Se_post 0 68 [⟨.byte, b⟩] = some [⟨.int .u8, secLo b⟩, ⟨.int .u8, secHi b⟩] := by
 rw [Se_fn]
 have ev : ∀ (k : Nat) (hk : k < 256), (((k : Nat) : Int) == (b.toNat : Int)) = decide (b = UInt8.ofNat k) := fun k hk => by
  rw [Bool.eq_iff_iff, beq_iff_eq, decide_eq_true_eq, ← UInt8.toNat_inj, UInt8.toNat_ofNat_of_lt' (by simpa using hk)]
  omega
 have e1 := ev 224 (by omega)
 have e2 := ev 237 (by omega)
 have e3 := ev 240 (by omega)
 have e4 := ev 244 (by omega)
 simp only [Int.cast_ofNat_Int] at e1 e2 e3 e4
 rw [e1, e2, e3, e4]
 unfold secLo secHi
 by_cases h1 : b = 224
 ·subst h1; rfl
 by_cases h2 : b = 237
 ·subst h2; rfl
 by_cases h3 : b = 240
 ·subst h3; rfl
 by_cases h4 : b = 244
 ·subst h4; rfl
 rw [if_neg h1, if_neg h2, if_neg h3, if_neg h4]
 rw [decide_eq_false (p := b = UInt8.ofNat 224) h1, decide_eq_false (p := b = UInt8.ofNat 237) h2, decide_eq_false (p := b = UInt8.ofNat 240) h3, decide_eq_false (p := b = UInt8.ofNat 244) h4]
 rfl
def cSe : CtrM := { pre := Se_pre, res := (ctr1 .byte [] (fun (_ : UInt8) => []) fun (b : UInt8) => [⟨.int .u8, secLo b⟩, ⟨.int .u8, secHi b⟩]).res, post := Se_post }
theorem cSe_ok : CtrMOk EP 68 cSe := ctrM_ok (S := SSe) (S_ok c3_ok m5_ok) rfl rfl rfl rfl fun ds gs ds' hr hg => by
 obtain ⟨b, rfl, rfl, rfl⟩ := ctr1_res (out := []) hr
 exact ⟨0, se_ok b⟩
noncomputable def m6 : FuncId → List CtrM := addM (addM (addM m5 56 { cAl with ro := true }) 64 cAm) 68 cSe
theorem m6_ok : ∀ g ct, ct ∈ m6 g → CtrMOk EP g ct := addM_ok (addM_ok (addM_ok m5_ok cAlq_ok) cAm_ok) cSe_ok
end Go.Proofs.Ytfdhkpfkdcdloaa

namespace Go.Proofs.Ytfdhkpfkdcdloaa
open Go Go.Am
set_option linter.unusedVariables false
def En_pre : Tm := { tmps := [(0, .agg [.hole (.int .i32), .hole (.int .u8), .hole (.int .u8), .hole (.int .u8), .hole (.int .u8)])], objs := [] }
def En_post : Tm := { tmps := [(0, .agg [.hole (.int .i32), .hole (.int .u8), .hole (.int .u8), .hole (.int .u8), .hole (.int .u8)]), (1, .hole (.list 21 (.int .i32)))], objs := [] }
def tmEn : FuncId → Nat → Option Tm := fun g i => match Nat.beq g 42 with
 | true => none
 | false => none
noncomputable def SEn : SE := { E := EP, ctr := c3, tm := tmEn, un := 300, hold := [], ctrM := m6 }
theorem En_fn (n : Nat) (n0 : Int) (n1 : Int) (n2 : Int) (n3 : Int) (n4 : Int) :
 fnM SEn loopY En_pre En_post n 42 [⟨(.int .i32), n0⟩, ⟨(.int .u8), n1⟩, ⟨(.int .u8), n2⟩, ⟨(.int .u8), n3⟩, ⟨(.int .u8), n4⟩] =
 (bif (IntKind.wrap .i64 n2 == (0 : Int)) then
  some [⟨(.int .i32), ((0 : Int) : Int)⟩, ⟨(.int .u8), ((0 : Int) : Int)⟩, ⟨(.int .u8), ((0 : Int) : Int)⟩, ⟨(.int .u8), ((0 : Int) : Int)⟩, ⟨(.int .u8), ((0 : Int) : Int)⟩, ⟨(.list 21 (.int .i32)), ([] : List Int)⟩]
 else
  some [⟨(.int .i32), ((0 : Int) : Int)⟩, ⟨(.int .u8), ((0 : Int) : Int)⟩, ⟨(.int .u8), ((0 : Int) : Int)⟩, ⟨(.int .u8), ((0 : Int) : Int)⟩, ⟨(.int .u8), ((0 : Int) : Int)⟩, ⟨(.list 21 (.int .i32)), ([(65533 : Int)] : List Int)⟩]) := by kernel_rfl

def Dp_pre : Tm := { tmps := [(0, .agg [.hole (.int .i32), .hole (.int .u8), .hole (.int .u8), .hole (.int .u8), .hole (.int .u8)]), (1, .hole .byte)], objs := [] }
def Dp_post : Tm := { tmps := [(0, .agg [.hole (.int .i32), .hole (.int .u8), .hole (.int .u8), .hole (.int .u8), .hole (.int .u8)]), (1, .hole (.list 21 (.int .i32)))], objs := [] }
def tmDp : FuncId → Nat → Option Tm := fun g i => match Nat.beq g 57 with
 | true => none
 | false => none
noncomputable def SDp : SE := { E := EP, ctr := c3, tm := tmDp, un := 300, hold := [], ctrM := m6 }
theorem Dp_fn (n : Nat) (n0 : Int) (n1 : Int) (n2 : Int) (n3 : Int) (n4 : Int) (c5 : UInt8) :
 fnM SDp loopY Dp_pre Dp_post n 57 [⟨(.int .i32), n0⟩, ⟨(.int .u8), n1⟩, ⟨(.int .u8), n2⟩, ⟨(.int .u8), n3⟩, ⟨(.int .u8), n4⟩, ⟨.byte, c5⟩] =
 (bif (n0 == (0 : Int) && (n1 == (0 : Int) && (n2 == (0 : Int) && (n3 == (0 : Int) && (n4 == (0 : Int) && true) && true)))) then
  need (decide ((↑(UInt8.toNat c5) : Int) < (256 : Int))) <|
  need (decide ((↑(UInt8.toNat (UInt8.ofNat (Int.toNat (↑(UInt8.toNat c5) : Int)))) : Int) < (256 : Int))) <|
  bif (decide ((↑(UInt8.toNat c5) : Int) < (128 : Int))) then
   some [⟨(.int .i32), ((0 : Int) : Int)⟩, ⟨(.int .u8), ((0 : Int) : Int)⟩, ⟨(.int .u8), ((0 : Int) : Int)⟩, ⟨(.int .u8), ((0 : Int) : Int)⟩, ⟨(.int .u8), ((0 : Int) : Int)⟩, ⟨(.list 21 (.int .i32)), ([IntKind.wrap .i32 (↑(UInt8.toNat c5) : Int)] : List Int)⟩]
  else
   bif (decide ((↑(UInt8.toNat c5) : Int) < (194 : Int)) || decide ((244 : Int) < (↑(UInt8.toNat c5) : Int))) then
    some [⟨(.int .i32), ((0 : Int) : Int)⟩, ⟨(.int .u8), ((0 : Int) : Int)⟩, ⟨(.int .u8), ((0 : Int) : Int)⟩, ⟨(.int .u8), ((0 : Int) : Int)⟩, ⟨(.int .u8), ((0 : Int) : Int)⟩, ⟨(.list 21 (.int .i32)), ([(65533 : Int)] : List Int)⟩]
   else
    bif (decide ((↑(UInt8.toNat c5) : Int) < (224 : Int))) then
     some [⟨(.int .i32), (IntKind.wrap .i32 (IntKind.wrap .u8 (↑(BitVec.toNat (BitVec.ofInt (8 : Nat) (↑(UInt8.toNat c5) : Int) &&& BitVec.ofInt (8 : Nat) (31 : Int))) : Int)) : Int)⟩, ⟨(.int .u8), ((1 : Int) : Int)⟩, ⟨(.int .u8), ((1 : Int) : Int)⟩, ⟨(.int .u8), (secLo (UInt8.ofNat (Int.toNat (↑(UInt8.toNat (UInt8.ofNat (Int.toNat (↑(UInt8.toNat c5) : Int)))) : Int))) : Int)⟩, ⟨(.int .u8), (secHi (UInt8.ofNat (Int.toNat (↑(UInt8.toNat (UInt8.ofNat (Int.toNat (↑(UInt8.toNat c5) : Int)))) : Int))) : Int)⟩, ⟨(.list 21 (.int .i32)), ([] : List Int)⟩]
    else
     bif (decide ((↑(UInt8.toNat c5) : Int) < (240 : Int))) then
      some [⟨(.int .i32), (IntKind.wrap .i32 (IntKind.wrap .u8 (↑(BitVec.toNat (BitVec.ofInt (8 : Nat) (↑(UInt8.toNat c5) : Int) &&& BitVec.ofInt (8 : Nat) (15 : Int))) : Int)) : Int)⟩, ⟨(.int .u8), ((2 : Int) : Int)⟩, ⟨(.int .u8), ((1 : Int) : Int)⟩, ⟨(.int .u8), (secLo (UInt8.ofNat (Int.toNat (↑(UInt8.toNat (UInt8.ofNat (Int.toNat (↑(UInt8.toNat c5) : Int)))) : Int))) : Int)⟩, ⟨(.int .u8), (secHi (UInt8.ofNat (Int.toNat (↑(UInt8.toNat (UInt8.ofNat (Int.toNat (↑(UInt8.toNat c5) : Int)))) : Int))) : Int)⟩, ⟨(.list 21 (.int .i32)), ([] : List Int)⟩]
     else
      some [⟨(.int .i32), (IntKind.wrap .i32 (IntKind.wrap .u8 (↑(BitVec.toNat (BitVec.ofInt (8 : Nat) (↑(UInt8.toNat c5) : Int) &&& BitVec.ofInt (8 : Nat) (7 : Int))) : Int)) : Int)⟩, ⟨(.int .u8), ((3 : Int) : Int)⟩, ⟨(.int .u8), ((1 : Int) : Int)⟩, ⟨(.int .u8), (secLo (UInt8.ofNat (Int.toNat (↑(UInt8.toNat (UInt8.ofNat (Int.toNat (↑(UInt8.toNat c5) : Int)))) : Int))) : Int)⟩, ⟨(.int .u8), (secHi (UInt8.ofNat (Int.toNat (↑(UInt8.toNat (UInt8.ofNat (Int.toNat (↑(UInt8.toNat c5) : Int)))) : Int))) : Int)⟩, ⟨(.list 21 (.int .i32)), ([] : List Int)⟩]
 else
  bif (decide ((↑(UInt8.toNat c5) : Int) < n3) || decide (n4 < (↑(UInt8.toNat c5) : Int))) then
   need (decide ((↑(UInt8.toNat c5) : Int) < (256 : Int))) <|
   need (decide ((↑(UInt8.toNat (UInt8.ofNat (Int.toNat (↑(UInt8.toNat c5) : Int)))) : Int) < (256 : Int))) <|
   bif (decide ((↑(UInt8.toNat c5) : Int) < (128 : Int))) then
    some [⟨(.int .i32), ((0 : Int) : Int)⟩, ⟨(.int .u8), ((0 : Int) : Int)⟩, ⟨(.int .u8), ((0 : Int) : Int)⟩, ⟨(.int .u8), ((0 : Int) : Int)⟩, ⟨(.int .u8), ((0 : Int) : Int)⟩, ⟨(.list 21 (.int .i32)), ([(65533 : Int)] ++ [IntKind.wrap .i32 (↑(UInt8.toNat c5) : Int)] : List Int)⟩]
   else
    bif (decide ((↑(UInt8.toNat c5) : Int) < (194 : Int)) || decide ((244 : Int) < (↑(UInt8.toNat c5) : Int))) then
     some [⟨(.int .i32), ((0 : Int) : Int)⟩, ⟨(.int .u8), ((0 : Int) : Int)⟩, ⟨(.int .u8), ((0 : Int) : Int)⟩, ⟨(.int .u8), ((0 : Int) : Int)⟩, ⟨(.int .u8), ((0 : Int) : Int)⟩, ⟨(.list 21 (.int .i32)), ([(65533 : Int)] ++ [(65533 : Int)] : List Int)⟩]
    else
     bif (decide ((↑(UInt8.toNat c5) : Int) < (224 : Int))) then
      some [⟨(.int .i32), (IntKind.wrap .i32 (IntKind.wrap .u8 (↑(BitVec.toNat (BitVec.ofInt (8 : Nat) (↑(UInt8.toNat c5) : Int) &&& BitVec.ofInt (8 : Nat) (31 : Int))) : Int)) : Int)⟩, ⟨(.int .u8), ((1 : Int) : Int)⟩, ⟨(.int .u8), ((1 : Int) : Int)⟩, ⟨(.int .u8), (secLo (UInt8.ofNat (Int.toNat (↑(UInt8.toNat (UInt8.ofNat (Int.toNat (↑(UInt8.toNat c5) : Int)))) : Int))) : Int)⟩, ⟨(.int .u8), (secHi (UInt8.ofNat (Int.toNat (↑(UInt8.toNat (UInt8.ofNat (Int.toNat (↑(UInt8.toNat c5) : Int)))) : Int))) : Int)⟩, ⟨(.list 21 (.int .i32)), ([(65533 : Int)] : List Int)⟩]
     else
      bif (decide ((↑(UInt8.toNat c5) : Int) < (240 : Int))) then
       some [⟨(.int .i32), (IntKind.wrap .i32 (IntKind.wrap .u8 (↑(BitVec.toNat (BitVec.ofInt (8 : Nat) (↑(UInt8.toNat c5) : Int) &&& BitVec.ofInt (8 : Nat) (15 : Int))) : Int)) : Int)⟩, ⟨(.int .u8), ((2 : Int) : Int)⟩, ⟨(.int .u8), ((1 : Int) : Int)⟩, ⟨(.int .u8), (secLo (UInt8.ofNat (Int.toNat (↑(UInt8.toNat (UInt8.ofNat (Int.toNat (↑(UInt8.toNat c5) : Int)))) : Int))) : Int)⟩, ⟨(.int .u8), (secHi (UInt8.ofNat (Int.toNat (↑(UInt8.toNat (UInt8.ofNat (Int.toNat (↑(UInt8.toNat c5) : Int)))) : Int))) : Int)⟩, ⟨(.list 21 (.int .i32)), ([(65533 : Int)] : List Int)⟩]
      else
       some [⟨(.int .i32), (IntKind.wrap .i32 (IntKind.wrap .u8 (↑(BitVec.toNat (BitVec.ofInt (8 : Nat) (↑(UInt8.toNat c5) : Int) &&& BitVec.ofInt (8 : Nat) (7 : Int))) : Int)) : Int)⟩, ⟨(.int .u8), ((3 : Int) : Int)⟩, ⟨(.int .u8), ((1 : Int) : Int)⟩, ⟨(.int .u8), (secLo (UInt8.ofNat (Int.toNat (↑(UInt8.toNat (UInt8.ofNat (Int.toNat (↑(UInt8.toNat c5) : Int)))) : Int))) : Int)⟩, ⟨(.int .u8), (secHi (UInt8.ofNat (Int.toNat (↑(UInt8.toNat (UInt8.ofNat (Int.toNat (↑(UInt8.toNat c5) : Int)))) : Int))) : Int)⟩, ⟨(.list 21 (.int .i32)), ([(65533 : Int)] : List Int)⟩]
  else
   bif (IntKind.wrap .u8 (n1 - (1 : Int)) == (0 : Int)) then
    some [⟨(.int .i32), ((0 : Int) : Int)⟩, ⟨(.int .u8), ((0 : Int) : Int)⟩, ⟨(.int .u8), ((0 : Int) : Int)⟩, ⟨(.int .u8), ((0 : Int) : Int)⟩, ⟨(.int .u8), ((0 : Int) : Int)⟩, ⟨(.list 21 (.int .i32)), ([IntKind.wrap .i32 (↑(BitVec.toNat (BitVec.ofInt (32 : Nat) (IntKind.wrap .i32 (n0 * (64 : Int))) ||| BitVec.ofInt (32 : Nat) (IntKind.wrap .i32 (IntKind.wrap .u8 (↑(BitVec.toNat (BitVec.ofInt (8 : Nat) (↑(UInt8.toNat c5) : Int) &&& BitVec.ofInt (8 : Nat) (63 : Int))) : Int))))) : Int)] : List Int)⟩]
   else
    some [⟨(.int .i32), (IntKind.wrap .i32 (↑(BitVec.toNat (BitVec.ofInt (32 : Nat) (IntKind.wrap .i32 (n0 * (64 : Int))) ||| BitVec.ofInt (32 : Nat) (IntKind.wrap .i32 (IntKind.wrap .u8 (↑(BitVec.toNat (BitVec.ofInt (8 : Nat) (↑(UInt8.toNat c5) : Int) &&& BitVec.ofInt (8 : Nat) (63 : Int))) : Int))))) : Int) : Int)⟩, ⟨(.int .u8), (IntKind.wrap .u8 (n1 - (1 : Int)) : Int)⟩, ⟨(.int .u8), (IntKind.wrap .u8 (n2 + (1 : Int)) : Int)⟩, ⟨(.int .u8), ((128 : Int) : Int)⟩, ⟨(.int .u8), ((191 : Int) : Int)⟩, ⟨(.list 21 (.int .i32)), ([] : List Int)⟩]) := by kernel_rfl

end Go.Proofs.Ytfdhkpfkdcdloaa

namespace Go.Proofs.Ytfdhkpfkdcdloaa
open Go Go.Am

structure DR where
 c : Int
 lf : Int
 gt : Int
 lo : Int
 hi : Int
 r : List Int
def bAnd (b : UInt8) (m : Int) : Int := IntKind.wrap .i32 (IntKind.wrap .u8 ((BitVec.toNat (BitVec.ofInt 8 (b.toNat : Int) &&& BitVec.ofInt 8 m) : Nat) : Int))
def decB (b : UInt8) : DR :=
 if b.toNat < 128 then ⟨0, 0, 0, 0, 0, [IntKind.wrap .i32 (b.toNat : Int)]⟩ else
 if b.toNat < 194 ∨ 244 < b.toNat then ⟨0, 0, 0, 0, 0, [65533]⟩ else
 if b.toNat < 224 then ⟨bAnd b 31, 1, 1, secLo b, secHi b, []⟩ else
 if b.toNat < 240 then ⟨bAnd b 15, 2, 1, secLo b, secHi b, []⟩ else ⟨bAnd b 7, 3, 1, secLo b, secHi b, []⟩
def joinR (c : Int) (b : UInt8) : Int := IntKind.wrap .i32 ((BitVec.toNat (BitVec.ofInt 32 (IntKind.wrap .i32 (c * 64)) ||| BitVec.ofInt 32 (bAnd b 63)) : Nat) : Int)
def decP (c lf gt lo hi : Int) (b : UInt8) : DR :=
 if c = 0 ∧ lf = 0 ∧ gt = 0 ∧ lo = 0 ∧ hi = 0 then decB b else
 if (b.toNat : Int) < lo ∨ hi < (b.toNat : Int) then { decB b with r := 65533 :: (decB b).r } else
 if IntKind.wrap .u8 (lf - 1) = 0 then ⟨0, 0, 0, 0, 0, [joinR c b]⟩ else ⟨joinR c b, IntKind.wrap .u8 (lf - 1), IntKind.wrap .u8 (gt + 1), 128, 191, []⟩
def endR (gt : Int) : List Int := if IntKind.wrap .i64 gt = 0 then [] else [65533]

def popDc (ds : List Dy) : Option ((Int × Int × Int × Int × Int) × List Dy) :=
 match popD (.int .i32) ds with
 | some (c, ds) => match popD (.int .u8) ds with
  | some (lf, ds) => match popD (.int .u8) ds with
   | some (gt, ds) => match popD (.int .u8) ds with
    | some (lo, ds) => match popD (.int .u8) ds with
     | some (hi, ds) => some ((c, lf, gt, lo, hi), ds)
     | none => none
    | none => none
   | none => none
  | none => none
 | none => none
theorem popDc_eq {ds r : List Dy} {c lf gt lo hi : Int} (h : popDc ds = some ((c, lf, gt, lo, hi), r)) : ds = [⟨.int .i32, c⟩, ⟨.int .u8, lf⟩, ⟨.int .u8, gt⟩, ⟨.int .u8, lo⟩, ⟨.int .u8, hi⟩] ++ r := by
 unfold popDc at h
 split at h
 case h_2 => cases h
 rename_i h1
 split at h
 case h_2 => cases h
 rename_i h2
 split at h
 case h_2 => cases h
 rename_i h3
 split at h
 case h_2 => cases h
 rename_i h4
 split at h
 case h_2 => cases h
 rename_i h5
 cases h
 rw [popD_eq h1, popD_eq h2, popD_eq h3, popD_eq h4, popD_eq h5]
 rfl
def drD (q : DR) : List Dy := [⟨.int .i32, q.c⟩, ⟨.int .u8, q.lf⟩, ⟨.int .u8, q.gt⟩, ⟨.int .u8, q.lo⟩, ⟨.int .u8, q.hi⟩, ⟨.list 21 (.int .i32), q.r⟩]

theorem en_ok (c lf gt lo hi : Int) : fnM SEn loopY En_pre En_post 0 42 [⟨.int .i32, c⟩, ⟨.int .u8, lf⟩, ⟨.int .u8, gt⟩, ⟨.int .u8, lo⟩, ⟨.int .u8, hi⟩] = some [⟨.int .i32, (0 : Int)⟩, ⟨.int .u8, (0 : Int)⟩, ⟨.int .u8, (0 : Int)⟩, ⟨.int .u8, (0 : Int)⟩, ⟨.int .u8, (0 : Int)⟩, ⟨.list 21 (.int .i32), endR gt⟩] := by
 rw [En_fn]
 unfold endR
 by_cases h : IntKind.wrap .i64 gt = 0
 ·rw [if_pos h]; exact bp (by simpa using h) rfl
 ·rw [if_neg h]; exact bn (by simpa using h) rfl
def cEn : CtrM := { pre := En_pre, post := En_post, res := fun ds => match popDc ds with
 | some ((_, _, gt, _, _), []) => some ([], [⟨.int .i32, (0 : Int)⟩, ⟨.int .u8, (0 : Int)⟩, ⟨.int .u8, (0 : Int)⟩, ⟨.int .u8, (0 : Int)⟩, ⟨.int .u8, (0 : Int)⟩, ⟨.list 21 (.int .i32), endR gt⟩])
 | _ => none }
theorem cEn_ok : CtrMOk EP 42 cEn := ctrM_ok (S := SEn) (S_ok c3_ok m6_ok) rfl rfl rfl rfl fun ds gs ds' hr hg => by
 simp only [cEn] at hr
 split at hr
 ·rename_i c lf gt lo hi h
  cases hr
  rw [popDc_eq h]
  exact ⟨0, en_ok _ _ _ _ _⟩
 ·cases hr

theorem u8_b2 (b : UInt8) : UInt8.ofNat (Int.toNat (b.toNat : Int)) = b := u8_back b
theorem dp_ok (c lf gt lo hi : Int) (b : UInt8) : fnM SDp loopY Dp_pre Dp_post 0 57 [⟨.int .i32, c⟩, ⟨.int .u8, lf⟩, ⟨.int .u8, gt⟩, ⟨.int .u8, lo⟩, ⟨.int .u8, hi⟩, ⟨.byte, b⟩] = some (drD (decP c lf gt lo hi b)) := by
 rw [Dp_fn]
 simp only [u8_b2]
 have hb := u8_lt b
 have hz : (c == 0 && (lf == 0 && (gt == 0 && (lo == 0 && (hi == 0 && true) && true)))) = decide (c = 0 ∧ lf = 0 ∧ gt = 0 ∧ lo = 0 ∧ hi = 0) := by
  rw [Bool.eq_iff_iff]; simp
 rw [hz]
 unfold decP
 by_cases h0 : c = 0 ∧ lf = 0 ∧ gt = 0 ∧ lo = 0 ∧ hi = 0
 ·rw [if_pos h0]
  refine bpd h0 (nd (by omega) (nd (by omega) ?_))
  unfold decB
  by_cases h1 : b.toNat < 128
  ·rw [if_pos h1]; exact bpd (by omega) rfl
  rw [if_neg h1]
  refine bnd (by omega) ?_
  by_cases h2 : b.toNat < 194 ∨ 244 < b.toNat
  ·rw [if_pos h2]; exact bp (by simp; omega) rfl
  rw [if_neg h2]
  refine bn (by simp; omega) ?_
  by_cases h3 : b.toNat < 224
  ·rw [if_pos h3]; exact bpd (by omega) rfl
  rw [if_neg h3]
  refine bnd (by omega) ?_
  by_cases h4 : b.toNat < 240
  ·rw [if_pos h4]; exact bpd (by omega) rfl
  rw [if_neg h4]
  exact bnd (by omega) rfl
 rw [if_neg h0]
 refine bnd h0 ?_
 by_cases h5 : (b.toNat : Int) < lo ∨ hi < (b.toNat : Int)
 ·rw [if_pos h5]
  refine bp (by simpa using h5) (nd (by omega) (nd (by omega) ?_))
  unfold decB
  by_cases h1 : b.toNat < 128
  ·rw [if_pos h1]; exact bpd (by omega) rfl
  rw [if_neg h1]
  refine bnd (by omega) ?_
  by_cases h2 : b.toNat < 194 ∨ 244 < b.toNat
  ·rw [if_pos h2]; exact bp (by simp; omega) rfl
  rw [if_neg h2]
  refine bn (by simp; omega) ?_
  by_cases h3 : b.toNat < 224
  ·rw [if_pos h3]; exact bpd (by omega) rfl
  rw [if_neg h3]
  refine bnd (by omega) ?_
  by_cases h4 : b.toNat < 240
  ·rw [if_pos h4]; exact bpd (by omega) rfl
  rw [if_neg h4]
  exact bnd (by omega) rfl
 rw [if_neg h5]
 refine bn (by simpa using h5) ?_
 by_cases h6 : IntKind.wrap .u8 (lf - 1) = 0
 ·rw [if_pos h6]; exact bp (by simpa using h6) rfl
 ·rw [if_neg h6]; exact bn (by simpa using h6) rfl
def cDp : CtrM := { pre := Dp_pre, post := Dp_post, res := fun ds => match popDc ds with
 | some ((c, lf, gt, lo, hi), ds) => match popD .byte ds with
  | some (b, []) => some ([], drD (decP c lf gt lo hi b))
  | _ => none
 | _ => none }
theorem cDp_ok : CtrMOk EP 57 cDp := ctrM_ok (S := SDp) (S_ok c3_ok m6_ok) rfl rfl rfl rfl fun ds gs ds' hr hg => by
 simp only [cDp] at hr
 split at hr
 ·rename_i c lf gt lo hi ds h
  split at hr
  ·rename_i b h2
   cases hr
   rw [popDc_eq h, popD_eq h2]
   exact ⟨0, dp_ok _ _ _ _ _ _⟩
  ·cases hr
 ·cases hr
noncomputable def m7 : FuncId → List CtrM := addM (addM m6 42 cEn) 57 cDp
theorem m7_ok : ∀ g ct, ct ∈ m7 g → CtrMOk EP g ct := addM_ok (addM_ok m6_ok cEn_ok) cDp_ok
end Go.Proofs.Ytfdhkpfkdcdloaa

namespace Go.Proofs.Ytfdhkpfkdcdloaa
open Go Go.Am
set_option linter.unusedVariables false
def Ou_pre : Tm := { tmps := [(0, .hole tokTy), (1, .ptr 0 0)], objs := [.cells [.h 1] 28 true, .lst 41 tokTy true] }
def Ou_post : Tm := { tmps := [], objs := [.cells [.h 1] 28 true, .lst 41 tokTy true] }
def tmOu : FuncId → Nat → Option Tm := fun g i => match Nat.beq g 25 with
 | true => none
 | false => none
noncomputable def SOu : SE := { E := EP, ctr := c3, tm := tmOu, un := 300, hold := [0], ctrM := m7 }
theorem Ou_fn (n : Nat) (l0 : List Tk) (p1 : Int × Int × UInt8 × List (List Int) × List UInt8 × UInt8 × List UInt8 × PUnit) :
 fnM SOu loopY Ou_pre Ou_post n 25 [⟨(.list 41 tokTy), l0⟩, ⟨tokTy, p1⟩] =
 (need (decide ((↑(UInt8.toNat (Prod.fst (Prod.snd (Prod.snd p1)))) : Int) < (256 : Int))) <|
 need (decide ((↑(UInt8.toNat (Prod.fst (Prod.snd (Prod.snd (Prod.snd (Prod.snd (Prod.snd p1))))))) : Int) < (256 : Int))) <|
 need (gTok (Prod.fst (Prod.snd (Prod.snd (Prod.snd p1))))) <|
 need (decide ((↑(UInt8.toNat (UInt8.ofNat (Int.toNat (↑(UInt8.toNat (Prod.fst (Prod.snd (Prod.snd p1)))) : Int)))) : Int) < (256 : Int))) <|
 need (decide ((↑(UInt8.toNat (UInt8.ofNat (Int.toNat (↑(UInt8.toNat (Prod.fst (Prod.snd (Prod.snd (Prod.snd (Prod.snd (Prod.snd p1))))))) : Int)))) : Int) < (256 : Int))) <|
 need (decide ((List.length l0 + List.length [(Prod.fst p1, Prod.fst (Prod.snd p1), UInt8.ofNat (Int.toNat (↑(UInt8.toNat (UInt8.ofNat (Int.toNat (↑(UInt8.toNat (Prod.fst (Prod.snd (Prod.snd p1)))) : Int)))) : Int)), Prod.fst (Prod.snd (Prod.snd (Prod.snd p1))), Prod.fst (Prod.snd (Prod.snd (Prod.snd (Prod.snd p1)))), UInt8.ofNat (Int.toNat (↑(UInt8.toNat (UInt8.ofNat (Int.toNat (↑(UInt8.toNat (Prod.fst (Prod.snd (Prod.snd (Prod.snd (Prod.snd (Prod.snd p1))))))) : Int)))) : Int)), Prod.snd (Prod.snd (Prod.snd (Prod.snd (Prod.snd (Prod.snd p1))))))]) * (80 : Nat) ≤ (140737488355328 : Nat))) <|
 need (decide (List.length l0 + List.length [(Prod.fst p1, Prod.fst (Prod.snd p1), UInt8.ofNat (Int.toNat (↑(UInt8.toNat (UInt8.ofNat (Int.toNat (↑(UInt8.toNat (Prod.fst (Prod.snd (Prod.snd p1)))) : Int)))) : Int)), Prod.fst (Prod.snd (Prod.snd (Prod.snd p1))), Prod.fst (Prod.snd (Prod.snd (Prod.snd (Prod.snd p1)))), UInt8.ofNat (Int.toNat (↑(UInt8.toNat (UInt8.ofNat (Int.toNat (↑(UInt8.toNat (Prod.fst (Prod.snd (Prod.snd (Prod.snd (Prod.snd (Prod.snd p1))))))) : Int)))) : Int)), Prod.snd (Prod.snd (Prod.snd (Prod.snd (Prod.snd (Prod.snd p1))))))] ≤ (140737488355328 : Nat))) <|
 some [⟨(.list 41 tokTy), (l0 ++ [(Prod.fst p1, Prod.fst (Prod.snd p1), UInt8.ofNat (Int.toNat (↑(UInt8.toNat (UInt8.ofNat (Int.toNat (↑(UInt8.toNat (Prod.fst (Prod.snd (Prod.snd p1)))) : Int)))) : Int)), Prod.fst (Prod.snd (Prod.snd (Prod.snd p1))), Prod.fst (Prod.snd (Prod.snd (Prod.snd (Prod.snd p1)))), UInt8.ofNat (Int.toNat (↑(UInt8.toNat (UInt8.ofNat (Int.toNat (↑(UInt8.toNat (Prod.fst (Prod.snd (Prod.snd (Prod.snd (Prod.snd (Prod.snd p1))))))) : Int)))) : Int)), Prod.snd (Prod.snd (Prod.snd (Prod.snd (Prod.snd (Prod.snd p1))))))] : List Tk)⟩]) := by kernel_rfl

def Bg_pre : Tm := { tmps := [(0, .ptr 0 0), (1, .hole (.int .i64))], objs := [.cells [.hole (.int .i32), .hole (.int .u8), .hole (.int .u8), .hole (.int .u8), .hole (.int .u8), .hole (.int .i64), .ptr 1 0, .hole (.int .u8), .h 2, .hole .bool, .hole (.int .u8), .h 3, .hole .bool, .hole .bool] 56 true, .row 71 (.int .i64) true, .lst 5 .byte true, .lst 5 .byte true] }
def Bg_post : Tm := { tmps := [], objs := [.cells [.hole (.int .i32), .hole (.int .u8), .hole (.int .u8), .hole (.int .u8), .hole (.int .u8), .hole (.int .i64), .ptr 1 0, .hole (.int .u8), .h 2, .hole .bool, .hole (.int .u8), .h 3, .hole .bool, .hole .bool] 56 true, .row 71 (.int .i64) true, .lst 5 .byte true, .lst 5 .byte true], prepO := [(0, 8, 2, 5), (0, 11, 3, 5)] }
def tmBg : FuncId → Nat → Option Tm := fun g i => match Nat.beq g 28 with
 | true => none
 | false => none
noncomputable def SBg : SE := { E := EP, ctr := c3, tm := tmBg, un := 300, hold := [0, 1], ctrM := m7 }
theorem Bg_fn (n : Nat) (s : PS) (n14 : Int) :
 fnM SBg loopY Bg_pre Bg_post n 28 (psD0 s ++ [⟨(.int .i64), n14⟩]) =
 (need (decide (List.length s.l = (289 : Nat))) <|
 some (psD0 ⟨List.replicate (289 : Nat) (0 : Int), [], [], s.c, s.lf, s.gt, s.lo, s.hi, n14, (0 : Int), true, (0 : Int), false, false⟩)) := by kernel_rfl

def Sq_pre : Tm := { tmps := [(0, .ptr 0 0), (1, .hole (.int .i64)), (2, .hole (.int .u8))], objs := [.cells [.hole (.int .i32), .hole (.int .u8), .hole (.int .u8), .hole (.int .u8), .hole (.int .u8), .hole (.int .i64), .ptr 1 0, .hole (.int .u8), .h 2, .hole .bool, .hole (.int .u8), .h 3, .hole .bool, .hole .bool] 56 true, .row 71 (.int .i64) true, .lst 5 .byte true, .lst 5 .byte true] }
def Sq_post : Tm := { tmps := [(0, .hole tokTy)], objs := [.cells [.hole (.int .i32), .hole (.int .u8), .hole (.int .u8), .hole (.int .u8), .hole (.int .u8), .hole (.int .i64), .ptr 1 0, .hole (.int .u8), .h 2, .hole .bool, .hole (.int .u8), .h 3, .hole .bool, .hole .bool] 56 true, .row 71 (.int .i64) true, .lst 5 .byte true, .lst 5 .byte true] }
def tmSq : FuncId → Nat → Option Tm := fun g i => match Nat.beq g 45 with
 | true => none
 | false => none
noncomputable def SSq : SE := { E := EP, ctr := c3, tm := tmSq, un := 300, hold := [0, 1], ctrM := m7 }
theorem Sq_fn (n : Nat) (s : PS) (n14 : Int) (n15 : Int) :
 fnM SSq loopY Sq_pre Sq_post n 45 (psD0 s ++ [⟨(.int .i64), n14⟩, ⟨(.int .u8), n15⟩]) =
 (need (g0 s.l) <|
 need (decide ((0 : Int) ≤ s.mk')) <|
 need (decide (s.mk' < (256 : Int))) <|
 need (decide ((0 : Int) ≤ n15)) <|
 need (decide (n15 < (256 : Int))) <|
 some (psD0 s ++ [⟨tokTy, ((n14, (0 : Int), UInt8.ofNat (Int.toNat s.mk'), allF s.l, s.inter, UInt8.ofNat (Int.toNat n15), [], PUnit.unit) : Int × Int × UInt8 × List (List Int) × List UInt8 × UInt8 × List UInt8 × PUnit)⟩])) := by kernel_rfl

def Nw9_pre : Tm := { tmps := [], objs := [] }
def Nw9_post : Tm := { tmps := [(0, .ptr 1 0)], objs := [.row 71 (.int .i64) true, .cells [.hole (.int .i32), .hole (.int .u8), .hole (.int .u8), .hole (.int .u8), .hole (.int .u8), .hole (.int .i64), .ptr 0 0, .hole (.int .u8), .h 2, .hole .bool, .hole (.int .u8), .h 3, .hole .bool, .hole .bool] 56 true, .lst 5 .byte true, .lst 5 .byte true], prepO := [(1, 8, 2, 5), (1, 11, 3, 5)] }
def tmNw9 : FuncId → Nat → Option Tm := fun g i => match Nat.beq g 9 with
 | true => none
 | false => none
noncomputable def SNw9 : SE := { E := EP, ctr := c3, tm := tmNw9, un := 300, hold := [], ctrM := m7 }
theorem Nw9_fn (n : Nat) :
 fnM SNw9 loopY Nw9_pre Nw9_post n 9 [] =
 (some [⟨(.list 71 (.int .i64)), (List.replicate (289 : Nat) (0 : Int) : List Int)⟩, ⟨(.list 5 .byte), ([] : List UInt8)⟩, ⟨(.list 5 .byte), ([] : List UInt8)⟩, ⟨(.int .i32), ((0 : Int) : Int)⟩, ⟨(.int .u8), ((0 : Int) : Int)⟩, ⟨(.int .u8), ((0 : Int) : Int)⟩, ⟨(.int .u8), ((0 : Int) : Int)⟩, ⟨(.int .u8), ((0 : Int) : Int)⟩, ⟨(.int .i64), ((0 : Int) : Int)⟩, ⟨(.int .u8), ((0 : Int) : Int)⟩, ⟨.bool, (true : Bool)⟩, ⟨(.int .u8), ((0 : Int) : Int)⟩, ⟨.bool, (false : Bool)⟩, ⟨.bool, (false : Bool)⟩]) := by kernel_rfl

end Go.Proofs.Ytfdhkpfkdcdloaa

namespace Go.Proofs.Ytfdhkpfkdcdloaa
open Go Go.Am

def texts (l : List Int) : List Tk := (l.filter fun r => decide (32 ≤ r) && (decide (r < 127) || decide (159 < r))).map fun r => (0, r, 0, [], [], 0, [], PUnit.unit)
def by8 (n : Int) : UInt8 := UInt8.ofNat n.toNat
def ctl (b : Int) : Tk := (1, 0, 0, [], [], by8 b, [], PUnit.unit)
def seqT (s : PS) (kind f : Int) : Tk := (kind, 0, by8 s.mk', allF s.l, s.inter, by8 f, [], PUnit.unit)
def beginS (s : PS) (st : Int) : PS := { s with l := List.replicate 289 0, inter := [], data := [], st := st, mk' := 0, fst := true, fin := 0, sp := false, en := false }
def flushS (s : PS) : PS := { s with c := 0, lf := 0, gt := 0, lo := 0, hi := 0 }
def endT (s : PS) : List Tk := texts (endR s.gt)
def oscT (s : PS) : Tk := (4, 0, 0, [], [], 0, s.data, PUnit.unit)
def dcsT (s : PS) : Tk := (5, 0, by8 s.mk', allF s.l, s.inter, by8 s.fin, s.data, PUnit.unit)
def escT (s : PS) (b : Int) : Tk := (2, 0, 0, [], s.inter, by8 b, [], PUnit.unit)
def doneT (s : PS) : List Tk := if s.sp = true then [] else if s.st = 5 then [oscT s] else if s.st = 4 then [dcsT s] else []

def decS (s : PS) (b : Int) : DR := decP s.c s.lf s.gt s.lo s.hi (by8 b)
def putD (s : PS) (q : DR) : PS := { s with c := q.c, lf := q.lf, gt := q.gt, lo := q.lo, hi := q.hi }
def onGroundS (s : PS) (b : Int) : PS × List Tk :=
 if 32 ≤ b ∧ b ≠ 127 then (putD s (decS s b), texts (decS s b).r) else (flushS s, endT s ++ if b = 127 then [] else [ctl b])
def withinB (b : Int) : Bool := decide (48 ≤ b) && decide (b < 127)
def interS (s : PS) (b : Int) : PS := if (s.sp || decide (s.inter.length = 2)) = true then { s with sp := true, fst := false, en := false } else { s with inter := s.inter ++ [by8 b], fst := false, en := false }
def withinS (s : PS) (b : Int) : PS × List Tk :=
 if b < 32 then (s, [ctl b]) else if b = 127 then (s, []) else if 128 ≤ b then onGroundS (beginS s 0) b else if b < 48 then (interS s b, []) else (s, [])
def begOf (b : Int) : Option Int := if b = 91 then some 2 else if b = 80 then some 3 else if b = 93 then some 5 else if b = 88 then some 6 else if b = 94 then some 6 else if b = 95 then some 6 else none
def escS (s : PS) (b : Int) : PS × List Tk :=
 match s.fst, begOf b with
 | true, some k => (beginS s k, [])
 | _, _ => (beginS s 0, if s.sp = true then [] else if s.en = true ∧ b = 92 then [] else [escT s b])
def onEscS (s : PS) (b : Int) : PS × List Tk := if withinB b = true then escS s b else withinS s b
def headS (s : PS) (b : Int) : PS × List Tk :=
 if 64 ≤ b then if s.st = 2 then (beginS s 0, if s.sp = true then [] else [seqT s 3 b]) else ({ s with st := 4, fin := b }, [])
 else if b ≤ 59 ∧ s.inter.length = 0 then ({ s with l := byF s.l b, fst := false }, [])
 else if 60 ≤ b ∧ s.fst = true then ({ s with mk' := b, fst := false }, [])
 else ({ s with sp := true, fst := false }, [])
def onHeadS (s : PS) (b : Int) : PS × List Tk := if withinB b = true then headS s b else withinS s b
def onDataS (s : PS) (b : Int) : PS × List Tk :=
 if b = 7 ∧ s.st = 5 then (beginS s 0, doneT s)
 else if b < 32 ∨ b = 127 ∨ s.st = 6 then (s, [])
 else if s.data.length = 1024 then ({ s with sp := true }, [])
 else if s.sp = true then (s, []) else ({ s with data := s.data ++ [by8 b] }, [])
def pushS (s : PS) (b : Int) : PS × List Tk :=
 if b = 24 ∨ b = 26 then (beginS (flushS s) 0, endT s)
 else if b = 27 then ({ beginS (flushS s) 1 with en := decide (4 ≤ s.st) }, endT s ++ doneT (flushS s))
 else if s.st = 0 then onGroundS s b else if s.st = 1 then onEscS s b else if s.st = 2 ∨ s.st = 3 then onHeadS s b else onDataS s b
end Go.Proofs.Ytfdhkpfkdcdloaa

namespace Go.Proofs.Ytfdhkpfkdcdloaa
open Go Go.Am

theorem ou_ok (t : List Tk) (x : Tk) (hT : gTok x.2.2.2.1 = true) (h : t.length ≤ 1000) : fnM SOu loopY Ou_pre Ou_post 0 25 [⟨.list 41 tokTy, t⟩, ⟨tokTy, x⟩] = some [⟨.list 41 tokTy, t ++ [x]⟩] := by
 obtain ⟨a, b, c, T, s, f, d, u⟩ := x
 have hc := u8_lt c
 have hf := u8_lt f
 rw [Ou_fn]
 simp only [u8_b2]
 exact nd (by omega) (nd (by omega) (np hT (nd (by omega) (nd (by omega) (nd (by simp; omega) (nd (by simp; omega) rfl))))))
def gTk (x : Tk) : Bool := gTok x.2.2.2.1
def cOu : CtrM := { pre := Ou_pre, post := Ou_post, res := (ctr2 (.list 41 tokTy) tokTy [] (fun (t : List Tk) (x : Tk) => [gTk x, decide (t.length ≤ 1000)]) fun (t : List Tk) (x : Tk) => [⟨.list 41 tokTy, t ++ [x]⟩]).res }
theorem cOu_ok : CtrMOk EP 25 cOu := ctrM_ok (S := SOu) (S_ok c3_ok m7_ok) rfl rfl rfl rfl fun ds gs ds' hr hg => by
 obtain ⟨t, x, rfl, rfl, rfl⟩ := ctr2_res (t := .list 41 tokTy) (u := tokTy) (out := []) hr
 simp only [List.all_cons, id, Bool.and_eq_true, List.all_nil, decide_eq_true_eq] at hg
 exact ⟨0, ou_ok t x hg.1 hg.2.1⟩

theorem bg_ok (s : PS) (k : Int) (h : s.l.length = 289) : fnM SBg loopY Bg_pre Bg_post 0 28 (psD0 s ++ [⟨.int .i64, k⟩]) = some (psD0 (beginS s k)) := by
 obtain ⟨l, i, d, c, lf, gt, lo, hi, st, mk', fst, fin, sp, en⟩ := s
 have h : l.length = 289 := h
 refine (Bg_fn 0 ⟨l, i, d, c, lf, gt, lo, hi, st, mk', fst, fin, sp, en⟩ k).trans ?_
 dsimp only
 exact nd h rfl
def cBg : CtrM := { pre := Bg_pre, post := Bg_post, res := fun ds => match popP ds with
 | some (s, ds) => match popD (.int .i64) ds with
  | some (k, []) => some ([decide (s.l.length = 289)], psD0 (beginS s k))
  | _ => none
 | none => none }
theorem cBg_ok : CtrMOk EP 28 cBg := ctrM_ok (S := SBg) (S_ok c3_ok m7_ok) rfl rfl rfl rfl fun ds gs ds' hr hg => by
 simp only [cBg] at hr
 split at hr
 ·rename_i s ds h
  split at hr
  ·rename_i k h2
   cases hr
   rw [popP_eq h, popD_eq h2]
   exact ⟨0, bg_ok s k (by simpa using hg)⟩
  ·cases hr
 ·cases hr

def is8 (n : Int) : Bool := decide (0 ≤ n) && decide (n < 256)
theorem is8_at {n : Int} (h : is8 n = true) : 0 ≤ n ∧ n < 256 := by simpa [is8] using h
theorem sq_ok (s : PS) (k f : Int) (h : g0 s.l = true) (hm : is8 s.mk' = true) (hf : is8 f = true) : fnM SSq loopY Sq_pre Sq_post 0 45 (psD0 s ++ [⟨.int .i64, k⟩, ⟨.int .u8, f⟩]) = some (psD0 s ++ [⟨tokTy, seqT s k f⟩]) := by
 obtain ⟨l, i, d, c, lf, gt, lo, hi, st, mk', fst, fin, sp, en⟩ := s
 have h : g0 l = true := h
 obtain ⟨m1, m2⟩ := is8_at (n := mk') hm
 obtain ⟨f1, f2⟩ := is8_at hf
 refine (Sq_fn 0 ⟨l, i, d, c, lf, gt, lo, hi, st, mk', fst, fin, sp, en⟩ k f).trans ?_
 dsimp only
 refine np h (nd m1 (nd m2 (nd f1 (nd f2 rfl))))
def cSq : CtrM := { pre := Sq_pre, post := Sq_post, res := fun ds => match popP ds with
 | some (s, ds) => match popD (.int .i64) ds with
  | some (k, ds) => match popD (.int .u8) ds with
   | some (f, []) => some ([g0 s.l, is8 s.mk', is8 f], psD0 s ++ [⟨tokTy, seqT s k f⟩])
   | _ => none
  | none => none
 | none => none }
theorem cSq_ok : CtrMOk EP 45 cSq := ctrM_ok (S := SSq) (S_ok c3_ok m7_ok) rfl rfl rfl rfl fun ds gs ds' hr hg => by
 simp only [cSq] at hr
 split at hr
 ·rename_i s ds h
  split at hr
  ·rename_i k ds h2
   split at hr
   ·rename_i f h3
    cases hr
    rw [popP_eq h, popD_eq h2, popD_eq h3]
    simp only [List.all_cons, id, Bool.and_eq_true, List.all_nil] at hg
    exact ⟨0, sq_ok s k f hg.1 hg.2.1 hg.2.2.1⟩
   ·cases hr
  ·cases hr
 ·cases hr

def newS : PS := ⟨List.replicate 289 0, [], [], 0, 0, 0, 0, 0, 0, 0, true, 0, false, false⟩
def cNw9 : CtrM := { pre := Nw9_pre, post := Nw9_post, res := (ctr0 [] (psD0 newS)).res }
theorem cNw9_ok : CtrMOk EP 9 cNw9 := ctrM_ok (S := SNw9) (S_ok c3_ok m7_ok) rfl rfl rfl rfl fun ds gs ds' hr hg => by
 obtain ⟨rfl, rfl, rfl⟩ := ctr0_res (out := []) hr
 exact ⟨0, Nw9_fn 0⟩
noncomputable def m8 : FuncId → List CtrM := addM (addM (addM (addM m7 25 cOu) 28 cBg) 45 cSq) 9 cNw9
theorem m8_ok : ∀ g ct, ct ∈ m8 g → CtrMOk EP g ct := addM_ok (addM_ok (addM_ok (addM_ok m7_ok cOu_ok) cBg_ok) cSq_ok) cNw9_ok
end Go.Proofs.Ytfdhkpfkdcdloaa

namespace Go.Proofs.Ytfdhkpfkdcdloaa
open Go Go.Am
set_option linter.unusedVariables false
def Tx_pre : Tm := { tmps := [(0, .ptr 0 0), (1, .hole (.list 21 (.int .i32))), (2, .func 25 [] [.ptr 4 0])], objs := [.cells [.hole (.int .i32), .hole (.int .u8), .hole (.int .u8), .hole (.int .u8), .hole (.int .u8), .hole (.int .i64), .ptr 1 0, .hole (.int .u8), .h 2, .hole .bool, .hole (.int .u8), .h 3, .hole .bool, .hole .bool] 56 true, .row 71 (.int .i64) true, .lst 5 .byte true, .lst 5 .byte true, .cells [.h 5] 28 true, .lst 41 tokTy true] }
def Tx_post : Tm := { tmps := [], objs := [.cells [.hole (.int .i32), .hole (.int .u8), .hole (.int .u8), .hole (.int .u8), .hole (.int .u8), .hole (.int .i64), .ptr 1 0, .hole (.int .u8), .h 2, .hole .bool, .hole (.int .u8), .h 3, .hole .bool, .hole .bool] 56 true, .row 71 (.int .i64) true, .lst 5 .byte true, .lst 5 .byte true, .cells [.h 5] 28 true, .lst 41 tokTy true] }
def Tx_T0 : Tm := { tmps := [(10, (.hole (.int .i64))), (9, (.hole (.int .i64))), (8, (.hole (.list 21 (.int .i32)))), (2, (.func 25 [] [(.ptr 4 0)]))], objs := [.cells [(.hole (.int .i32)), (.hole (.int .u8)), (.hole (.int .u8)), (.hole (.int .u8)), (.hole (.int .u8)), (.hole (.int .i64)), (.ptr 1 0), (.hole (.int .u8)), (.h 2), (.hole .bool), (.hole (.int .u8)), (.h 3), (.hole .bool), (.hole .bool)] 56 true, .row 71 (.int .i64) true, .lst 5 .byte true, .lst 5 .byte true, .cells [(.h 5)] 28 true, .lst 41 tokTy true] }
def tmTx : FuncId → Nat → Option Tm := fun g i => match Nat.beq g 43 with
 | true => match Nat.beq i 0 with | true => some Tx_T0 | false => none
 | false => none
noncomputable def STx : SE := { E := EP, ctr := c3, tm := tmTx, un := 300, hold := [0, 1, 4], ctrM := m8 }
theorem Tx_L0 (n : Nat) (nx : Nat → List Dy → Option (List Dy)) (m : Nat) (s : PS) (t : List Tk) (n15 : Int) (n16 : Int) (l17 : List Int) :
 RLM STx Tx_post n 43 0 nx (m + 1) (psD s t ++ [⟨(.int .i64), n15⟩, ⟨(.int .i64), n16⟩, ⟨(.list 21 (.int .i32)), l17⟩]) =
 (bif (decide (n15 < n16)) then
  need (decide ((0 : Int) ≤ n15)) <|
  need (decide (n15 < (↑(List.length l17) : Int))) <|
  need (decide (Int.toNat n15 < List.length l17)) <|
  bif (decide ((32 : Int) ≤ List.getD l17 (Int.toNat n15) (0 : Int)) && (decide (List.getD l17 (Int.toNat n15) (0 : Int) < (127 : Int)) || decide ((159 : Int) < List.getD l17 (Int.toNat n15) (0 : Int)))) then
   need (decide (List.length t ≤ (1000 : Nat))) <|
   RLM STx Tx_post n 43 0 nx m (psD s (t ++ [((0 : Int), List.getD l17 (Int.toNat n15) (0 : Int), UInt8.ofNat (Int.toNat (↑(UInt8.toNat (UInt8.ofNat (0 : Nat))) : Int)), [], [], UInt8.ofNat (Int.toNat (↑(UInt8.toNat (UInt8.ofNat (0 : Nat))) : Int)), [], PUnit.unit)]) ++ [⟨(.int .i64), (IntKind.wrap .i64 (n15 + (1 : Int)) : Int)⟩, ⟨(.int .i64), (n16 : Int)⟩, ⟨(.list 21 (.int .i32)), (l17 : List Int)⟩])
  else
   RLM STx Tx_post n 43 0 nx m (psD s t ++ [⟨(.int .i64), (IntKind.wrap .i64 (n15 + (1 : Int)) : Int)⟩, ⟨(.int .i64), (n16 : Int)⟩, ⟨(.list 21 (.int .i32)), (l17 : List Int)⟩])
 else
  some (psD s t)) := by kernel_rfl
theorem Tx_fn (n : Nat) (s : PS) (t : List Tk) (l15 : List Int) :
 fnM STx loopY Tx_pre Tx_post n 43 (psD s t ++ [⟨(.list 21 (.int .i32)), l15⟩]) =
 (RLM STx Tx_post n 43 0 noNx n (psD s t ++ [⟨(.int .i64), ((0 : Int) : Int)⟩, ⟨(.int .i64), ((↑(List.length l15) : Int) : Int)⟩, ⟨(.list 21 (.int .i32)), (l15 : List Int)⟩])) := by kernel_rfl

def Ct_pre : Tm := { tmps := [(0, .ptr 0 0), (1, .hole (.int .u8)), (2, .func 25 [] [.ptr 4 0])], objs := [.cells [.hole (.int .i32), .hole (.int .u8), .hole (.int .u8), .hole (.int .u8), .hole (.int .u8), .hole (.int .i64), .ptr 1 0, .hole (.int .u8), .h 2, .hole .bool, .hole (.int .u8), .h 3, .hole .bool, .hole .bool] 56 true, .row 71 (.int .i64) true, .lst 5 .byte true, .lst 5 .byte true, .cells [.h 5] 28 true, .lst 41 tokTy true] }
def Ct_post : Tm := { tmps := [], objs := [.cells [.hole (.int .i32), .hole (.int .u8), .hole (.int .u8), .hole (.int .u8), .hole (.int .u8), .hole (.int .i64), .ptr 1 0, .hole (.int .u8), .h 2, .hole .bool, .hole (.int .u8), .h 3, .hole .bool, .hole .bool] 56 true, .row 71 (.int .i64) true, .lst 5 .byte true, .lst 5 .byte true, .cells [.h 5] 28 true, .lst 41 tokTy true] }
def tmCt : FuncId → Nat → Option Tm := fun g i => match Nat.beq g 58 with
 | true => none
 | false => none
noncomputable def SCt : SE := { E := EP, ctr := c3, tm := tmCt, un := 300, hold := [0, 1, 4], ctrM := m8 }
theorem Ct_fn (n : Nat) (s : PS) (t : List Tk) (n15 : Int) :
 fnM SCt loopY Ct_pre Ct_post n 58 (psD s t ++ [⟨(.int .u8), n15⟩]) =
 (need (decide ((0 : Int) ≤ n15)) <|
 need (decide (n15 < (256 : Int))) <|
 need (decide ((↑(UInt8.toNat (UInt8.ofNat (Int.toNat n15))) : Int) < (256 : Int))) <|
 need (decide (List.length t ≤ (1000 : Nat))) <|
 some (psD s (t ++ [((1 : Int), (0 : Int), UInt8.ofNat (Int.toNat (↑(UInt8.toNat (UInt8.ofNat (0 : Nat))) : Int)), [], [], UInt8.ofNat (Int.toNat (↑(UInt8.toNat (UInt8.ofNat (Int.toNat n15))) : Int)), [], PUnit.unit)]))) := by kernel_rfl

def Do_pre : Tm := { tmps := [(0, .ptr 0 0), (1, .func 25 [] [.ptr 4 0])], objs := [.cells [.hole (.int .i32), .hole (.int .u8), .hole (.int .u8), .hole (.int .u8), .hole (.int .u8), .hole (.int .i64), .ptr 1 0, .hole (.int .u8), .h 2, .hole .bool, .hole (.int .u8), .h 3, .hole .bool, .hole .bool] 56 true, .row 71 (.int .i64) true, .lst 5 .byte true, .lst 5 .byte true, .cells [.h 5] 28 true, .lst 41 tokTy true] }
def Do_post : Tm := { tmps := [], objs := [.cells [.hole (.int .i32), .hole (.int .u8), .hole (.int .u8), .hole (.int .u8), .hole (.int .u8), .hole (.int .i64), .ptr 1 0, .hole (.int .u8), .h 2, .hole .bool, .hole (.int .u8), .h 3, .hole .bool, .hole .bool] 56 true, .row 71 (.int .i64) true, .lst 5 .byte true, .lst 5 .byte true, .cells [.h 5] 28 true, .lst 41 tokTy true] }
def tmDo : FuncId → Nat → Option Tm := fun g i => match Nat.beq g 29 with
 | true => none
 | false => none
noncomputable def SDo : SE := { E := EP, ctr := c3, tm := tmDo, un := 300, hold := [0, 1, 4], ctrM := m8 }
theorem Do_fn (n : Nat) (s : PS) (t : List Tk) :
 fnM SDo loopY Do_pre Do_post n 29 (psD s t) =
 (bif (s.sp) then
  some (psD s t)
 else
  bif (s.st == (5 : Int)) then
   need (decide (List.length t ≤ (1000 : Nat))) <|
   some (psD s (t ++ [((4 : Int), (0 : Int), UInt8.ofNat (Int.toNat (↑(UInt8.toNat (UInt8.ofNat (0 : Nat))) : Int)), [], [], UInt8.ofNat (Int.toNat (↑(UInt8.toNat (UInt8.ofNat (0 : Nat))) : Int)), s.data, PUnit.unit)]))
  else
   bif (s.st == (4 : Int)) then
    need (g0 (PS.l s)) <|
    need (is8 (PS.mk' s)) <|
    need (is8 s.fin) <|
    need (decide ((↑(UInt8.toNat (by8 (PS.mk' s))) : Int) < (256 : Int))) <|
    need (decide ((↑(UInt8.toNat (by8 s.fin)) : Int) < (256 : Int))) <|
    need (decide ((↑(UInt8.toNat (UInt8.ofNat (Int.toNat (↑(UInt8.toNat (by8 (PS.mk' s))) : Int)))) : Int) < (256 : Int))) <|
    need (decide ((↑(UInt8.toNat (UInt8.ofNat (Int.toNat (↑(UInt8.toNat (by8 s.fin)) : Int)))) : Int) < (256 : Int))) <|
    need (gTk ((5 : Int), (0 : Int), UInt8.ofNat (Int.toNat (↑(UInt8.toNat (UInt8.ofNat (Int.toNat (↑(UInt8.toNat (by8 (PS.mk' s))) : Int)))) : Int)), allF (PS.l s), PS.inter s, UInt8.ofNat (Int.toNat (↑(UInt8.toNat (UInt8.ofNat (Int.toNat (↑(UInt8.toNat (by8 s.fin)) : Int)))) : Int)), PS.data s, PUnit.unit)) <|
    need (decide (List.length t ≤ (1000 : Nat))) <|
    some (psD (s) (t ++ [((5 : Int), (0 : Int), UInt8.ofNat (Int.toNat (↑(UInt8.toNat (UInt8.ofNat (Int.toNat (↑(UInt8.toNat (by8 (PS.mk' s))) : Int)))) : Int)), allF (PS.l s), PS.inter s, UInt8.ofNat (Int.toNat (↑(UInt8.toNat (UInt8.ofNat (Int.toNat (↑(UInt8.toNat (by8 s.fin)) : Int)))) : Int)), PS.data s, PUnit.unit)]))
   else
    some (psD s t)) := by kernel_rfl

end Go.Proofs.Ytfdhkpfkdcdloaa

namespace Go.Proofs.Ytfdhkpfkdcdloaa
open Go Go.Am

theorem texts_drop {r : List Int} {i : Nat} (h : i < r.length) : texts (r.drop i) = (if (decide (32 ≤ r.getD i 0) && (decide (r.getD i 0 < 127) || decide (159 < r.getD i 0))) = true then [((0 : Int), r.getD i 0, (0 : UInt8), [], [], (0 : UInt8), [], PUnit.unit)] else []) ++ texts (r.drop (i + 1)) := by
 unfold texts
 rw [List.drop_eq_getElem_cons h, List.filter_cons]
 have e : r.getD i 0 = r[i] := by rw [List.getD_eq_getElem?_getD, List.getElem?_eq_getElem h]; rfl
 rw [e]
 split
 ·rfl
 ·rfl
theorem tx_loop (n : Nat) (s : PS) (r : List Int) (hr : r.length ≤ 1000) : ∀ (m i : Nat) (t : List Tk), i ≤ r.length → r.length < i + m → t.length + (r.length - i) ≤ 1000 →
 RLM STx Tx_post n 43 0 noNx m (psD s t ++ [⟨.int .i64, (i : Int)⟩, ⟨.int .i64, (r.length : Int)⟩, ⟨.list 21 (.int .i32), r⟩]) = some (psD s (t ++ texts (r.drop i)))
 | 0, i, t, h1, h2, _ => by omega
 | m + 1, i, t, h1, h2, h3 => by
  obtain ⟨l, it, d, c, lf, gt, lo, hi, st, mk', fst, fin, sp, en⟩ := s
  refine (Tx_L0 n noNx m ⟨l, it, d, c, lf, gt, lo, hi, st, mk', fst, fin, sp, en⟩ t  i r.length r).trans ?_
  by_cases hi' : i < r.length
  ·rw [texts_drop hi', Int.toNat_natCast]
   refine bpd (by omega) (nd (by omega) (nd (by omega) (nd hi' ?_)))
   rw [show IntKind.wrap .i64 ((i : Int) + 1) = ((i + 1 : Nat) : Int) by rw [w64 (by omega)]; omega]
   cases hc : (decide (32 ≤ r.getD i 0) && (decide (r.getD i 0 < 127) || decide (159 < r.getD i 0))) with
   | true =>
    rw [if_pos rfl, ← List.append_assoc]
    refine bp rfl (nd (by omega) ?_)
    exact tx_loop n ⟨l, it, d, c, lf, gt, lo, hi, st, mk', fst, fin, sp, en⟩ r hr m (i + 1) _ (by omega) (by omega) (by simp; omega)
   | false =>
    rw [if_neg (by simp), List.nil_append]
    refine bn rfl ?_
    exact tx_loop n ⟨l, it, d, c, lf, gt, lo, hi, st, mk', fst, fin, sp, en⟩ r hr m (i + 1) _ (by omega) (by omega) (by omega)
  ·rw [List.drop_of_length_le (by omega)]
   refine bnd (by omega) ?_
   show _ = some (psD _ (t ++ []))
   rw [List.append_nil]
theorem tx_ok (s : PS) (t : List Tk) (r : List Int) (h : t.length + r.length ≤ 900) : ∃ n, fnM STx loopY Tx_pre Tx_post n 43 (psD s t ++ [⟨.list 21 (.int .i32), r⟩]) = some (psD s (t ++ texts r)) := by
 refine ⟨r.length + 1, ?_⟩
 have := tx_loop (r.length + 1) s r (by omega) (r.length + 1) 0 t (by omega) (by omega) (by omega)
 obtain ⟨l, it, d, c, lf, gt, lo, hi, st, mk', fst, fin, sp, en⟩ := s
 refine (Tx_fn (r.length + 1) ⟨l, it, d, c, lf, gt, lo, hi, st, mk', fst, fin, sp, en⟩ t r).trans ?_
 rw [List.drop_zero] at this
 exact this
def cTx : CtrM := { pre := Tx_pre, post := Tx_post, res := fun ds => match popPT ds with
 | some (s, t, ds) => match popD (.list 21 (.int .i32)) ds with
  | some (r, []) => some ([decide (t.length + r.length ≤ 900)], psD s (t ++ texts r))
  | _ => none
 | none => none }
theorem cTx_ok : CtrMOk EP 43 cTx := ctrM_ok (S := STx) (S_ok c3_ok m8_ok) rfl rfl rfl rfl fun ds gs ds' hr hg => by
 simp only [cTx] at hr
 split at hr
 ·rename_i s t ds h
  split at hr
  ·rename_i r h2
   cases hr
   rw [popPT_eq h, popD_eq h2]
   exact tx_ok s t r (by simpa using hg)
  ·cases hr
 ·cases hr

theorem by8_lt (n : Int) : ((by8 n).toNat : Int) < 256 := by have := u8_lt (by8 n); omega
theorem ct_ok (s : PS) (t : List Tk) (b : Int) (hb : is8 b = true) (h : t.length ≤ 900) : fnM SCt loopY Ct_pre Ct_post 0 58 (psD s t ++ [⟨.int .u8, b⟩]) = some (psD s (t ++ [ctl b])) := by
 obtain ⟨l, it, d, c, lf, gt, lo, hi, st, mk', fst, fin, sp, en⟩ := s
 obtain ⟨b1, b2⟩ := is8_at hb
 refine (Ct_fn 0 ⟨l, it, d, c, lf, gt, lo, hi, st, mk', fst, fin, sp, en⟩ t  b).trans ?_
 refine nd b1 (nd b2 (nd (by8_lt b) (nd (by omega) ?_)))
 simp only [u8_b2]
 rfl
def cCt : CtrM := { pre := Ct_pre, post := Ct_post, res := fun ds => match popPT ds with
 | some (s, t, ds) => match popD (.int .u8) ds with
  | some (b, []) => some ([is8 b, decide (t.length ≤ 900)], psD s (t ++ [ctl b]))
  | _ => none
 | none => none }
theorem cCt_ok : CtrMOk EP 58 cCt := ctrM_ok (S := SCt) (S_ok c3_ok m8_ok) rfl rfl rfl rfl fun ds gs ds' hr hg => by
 simp only [cCt] at hr
 split at hr
 ·rename_i s t ds h
  split at hr
  ·rename_i b h2
   cases hr
   rw [popPT_eq h, popD_eq h2]
   simp only [List.all_cons, id, Bool.and_eq_true, List.all_nil, decide_eq_true_eq] at hg
   exact ⟨0, ct_ok s t b hg.1 hg.2.1⟩
  ·cases hr
 ·cases hr

theorem PI.g0 {s : PS} (h : PI s) : g0 s.l = true := by
 obtain ⟨T, hT⟩ := h.l
 exact hT.g0
theorem PI.len {s : PS} (h : PI s) : s.l.length = 289 := (g0_at h.g0).1
theorem PI.m8 {s : PS} (h : PI s) : is8 s.mk' = true := by have := h.mk'; simp [is8, this]
theorem PI.f8 {s : PS} (h : PI s) : is8 s.fin = true := by have := h.fin; simp [is8, this]
theorem PI.tok {s : PS} (h : PI s) : gTok (allF s.l) = true := by
 obtain ⟨T, hT⟩ := h.l
 rw [hT.all]
 unfold gTok
 rw [Bool.and_eq_true, decide_eq_true_eq, List.all_eq_true]
 refine ⟨by simp; omega, fun r hr => ?_⟩
 obtain ⟨q, hq, rfl⟩ := List.mem_map.1 hr
 have := hT.ne q (List.mem_of_mem_take hq)
 rw [Bool.and_eq_true, Bool.not_eq_true', decide_eq_true_eq]
 refine ⟨?_, by simp; omega⟩
 cases q with
 | nil => exact absurd rfl this
 | cons a r => rfl
theorem do_ok (s : PS) (t : List Tk) (hs : PI s) (h : t.length ≤ 900) : fnM SDo loopY Do_pre Do_post 0 29 (psD s t) = some (psD s (t ++ doneT s)) := by
 have g1 := hs.g0
 have g2 := hs.m8
 have g3 := hs.f8
 have g4 := hs.tok
 obtain ⟨l, it, d, c, lf, gt, lo, hi, st, mk', fst, fin, sp, en⟩ := s
 refine (Do_fn 0 ⟨l, it, d, c, lf, gt, lo, hi, st, mk', fst, fin, sp, en⟩ t).trans ?_
 dsimp only
 unfold doneT
 cases sp with
 | true =>
  refine bp rfl ?_
  rw [if_pos rfl, List.append_nil]
 | false =>
  rw [if_neg (by simp)]
  refine bn rfl ?_
  by_cases h5 : st = 5
  ·rw [if_pos h5]
   refine bp (by simpa using h5) (nd (by omega) ?_)
   simp only [u8_b2]
   rfl
  rw [if_neg h5]
  refine bn (by simpa using h5) ?_
  by_cases h4 : st = 4
  ·rw [if_pos h4]
   refine bp (by simpa using h4) (np g1 (np g2 (np g3 (nd (by8_lt _) (nd (by8_lt _) ?_)))))
   simp only [u8_b2]
   exact nd (by8_lt _) (nd (by8_lt _) (np g4 (nd (by omega) rfl)))
  ·rw [if_neg h4]
   refine bn (by simpa using h4) ?_
   rw [List.append_nil]
noncomputable def cDo : CtrM := { pre := Do_pre, post := Do_post, res := fun ds => match popPT ds with
 | some (s, t, []) => some ([gP s, decide (t.length ≤ 900)], psD s (t ++ doneT s))
 | _ => none }
theorem cDo_ok : CtrMOk EP 29 cDo := ctrM_ok (S := SDo) (S_ok c3_ok m8_ok) rfl rfl rfl rfl fun ds gs ds' hr hg => by
 simp only [cDo] at hr
 split at hr
 ·rename_i s t h
  cases hr
  rw [popPT_eq h, List.append_nil]
  simp only [List.all_cons, id, Bool.and_eq_true, List.all_nil, decide_eq_true_eq] at hg
  exact ⟨0, do_ok s t (gP_iff.1 hg.1) hg.2.1⟩
 ·cases hr
noncomputable def m9 : FuncId → List CtrM := addM (addM (addM m8 43 cTx) 58 cCt) 29 cDo
theorem m9_ok : ∀ g ct, ct ∈ m9 g → CtrMOk EP g ct := addM_ok (addM_ok (addM_ok m8_ok cTx_ok) cCt_ok) cDo_ok
end Go.Proofs.Ytfdhkpfkdcdloaa

namespace Go.Proofs.Ytfdhkpfkdcdloaa
open Go Go.Am
set_option linter.unusedVariables false
def Fl_pre : Tm := { tmps := [(0, .ptr 0 0), (1, .func 25 [] [.ptr 4 0])], objs := [.cells [.hole (.int .i32), .hole (.int .u8), .hole (.int .u8), .hole (.int .u8), .hole (.int .u8), .hole (.int .i64), .ptr 1 0, .hole (.int .u8), .h 2, .hole .bool, .hole (.int .u8), .h 3, .hole .bool, .hole .bool] 56 true, .row 71 (.int .i64) true, .lst 5 .byte true, .lst 5 .byte true, .cells [.h 5] 28 true, .lst 41 tokTy true] }
def Fl_post : Tm := { tmps := [], objs := [.cells [.hole (.int .i32), .hole (.int .u8), .hole (.int .u8), .hole (.int .u8), .hole (.int .u8), .hole (.int .i64), .ptr 1 0, .hole (.int .u8), .h 2, .hole .bool, .hole (.int .u8), .h 3, .hole .bool, .hole .bool] 56 true, .row 71 (.int .i64) true, .lst 5 .byte true, .lst 5 .byte true, .cells [.h 5] 28 true, .lst 41 tokTy true] }
def tmFl : FuncId → Nat → Option Tm := fun g i => match Nat.beq g 27 with
 | true => none
 | false => none
noncomputable def SFl : SE := { E := EP, ctr := c3, tm := tmFl, un := 300, hold := [0, 1, 4], ctrM := m9 }
theorem Fl_fn (n : Nat) (s : PS) (t : List Tk) :
 fnM SFl loopY Fl_pre Fl_post n 27 (psD s t) =
 (need (decide (List.length t + List.length (endR s.gt) ≤ (900 : Nat))) <|
 some (psD ⟨s.l, s.inter, s.data, (0 : Int), (0 : Int), (0 : Int), (0 : Int), (0 : Int), s.st, s.mk', s.fst, s.fin, s.sp, s.en⟩ (t ++ texts (endR s.gt)))) := by kernel_rfl

end Go.Proofs.Ytfdhkpfkdcdloaa

namespace Go.Proofs.Ytfdhkpfkdcdloaa
open Go Go.Am

theorem endR_len (g : Int) : (endR g).length ≤ 1 := by unfold endR; split <;> simp
theorem decB_len (b : UInt8) : (decB b).r.length ≤ 1 := by
 unfold decB
 split
 ·simp
 split
 ·simp
 split
 ·simp
 split <;> simp
theorem decP_len (c lf gt lo hi : Int) (b : UInt8) : (decP c lf gt lo hi b).r.length ≤ 2 := by
 have := decB_len b
 unfold decP
 split
 ·omega
 split
 ·simp only [List.length_cons]; omega
 split <;> simp
theorem fl_ok (s : PS) (t : List Tk) (h : t.length ≤ 800) : fnM SFl loopY Fl_pre Fl_post 0 27 (psD s t) = some (psD (flushS s) (t ++ endT s)) := by
 obtain ⟨l, it, d, c, lf, gt, lo, hi, st, mk', fst, fin, sp, en⟩ := s
 have := endR_len gt
 refine (Fl_fn 0 ⟨l, it, d, c, lf, gt, lo, hi, st, mk', fst, fin, sp, en⟩ t).trans ?_
 dsimp only
 exact nd (by omega) rfl
def cFl : CtrM := { pre := Fl_pre, post := Fl_post, res := fun ds => match popPT ds with
 | some (s, t, []) => some ([decide (t.length ≤ 800)], psD (flushS s) (t ++ endT s))
 | _ => none }
theorem cFl_ok : CtrMOk EP 27 cFl := ctrM_ok (S := SFl) (S_ok c3_ok m9_ok) rfl rfl rfl rfl fun ds gs ds' hr hg => by
 simp only [cFl] at hr
 split at hr
 ·rename_i s t h
  cases hr
  rw [popPT_eq h, List.append_nil]
  exact ⟨0, fl_ok s t (by simpa using hg)⟩
 ·cases hr
noncomputable def m10 : FuncId → List CtrM := addM m9 27 cFl
theorem m10_ok : ∀ g ct, ct ∈ m10 g → CtrMOk EP g ct := addM_ok m9_ok cFl_ok
end Go.Proofs.Ytfdhkpfkdcdloaa

namespace Go.Proofs.Ytfdhkpfkdcdloaa
open Go Go.Am
set_option linter.unusedVariables false
def Og_pre : Tm := { tmps := [(0, .ptr 0 0), (1, .hole (.int .u8)), (2, .func 25 [] [.ptr 4 0])], objs := [.cells [.hole (.int .i32), .hole (.int .u8), .hole (.int .u8), .hole (.int .u8), .hole (.int .u8), .hole (.int .i64), .ptr 1 0, .hole (.int .u8), .h 2, .hole .bool, .hole (.int .u8), .h 3, .hole .bool, .hole .bool] 56 true, .row 71 (.int .i64) true, .lst 5 .byte true, .lst 5 .byte true, .cells [.h 5] 28 true, .lst 41 tokTy true] }
def Og_post : Tm := { tmps := [], objs := [.cells [.hole (.int .i32), .hole (.int .u8), .hole (.int .u8), .hole (.int .u8), .hole (.int .u8), .hole (.int .i64), .ptr 1 0, .hole (.int .u8), .h 2, .hole .bool, .hole (.int .u8), .h 3, .hole .bool, .hole .bool] 56 true, .row 71 (.int .i64) true, .lst 5 .byte true, .lst 5 .byte true, .cells [.h 5] 28 true, .lst 41 tokTy true] }
def tmOg : FuncId → Nat → Option Tm := fun g i => match Nat.beq g 46 with
 | true => none
 | false => none
noncomputable def SOg : SE := { E := EP, ctr := c3, tm := tmOg, un := 300, hold := [0, 1, 4], ctrM := m10 }
theorem Og_fn (n : Nat) (s : PS) (t : List Tk) (n15 : Int) :
 fnM SOg loopY Og_pre Og_post n 46 (psD s t ++ [⟨(.int .u8), n15⟩]) =
 (bif (decide ((32 : Int) ≤ n15) && n15 != (127 : Int)) then
  need (decide ((0 : Int) ≤ n15)) <|
  need (decide (n15 < (256 : Int))) <|
  need (decide ((↑(UInt8.toNat (UInt8.ofNat (Int.toNat n15))) : Int) < (256 : Int))) <|
  need (decide (List.length t + List.length (DR.r (decP s.c s.lf s.gt s.lo s.hi (UInt8.ofNat (Int.toNat (↑(UInt8.toNat (UInt8.ofNat (Int.toNat n15))) : Int))))) ≤ (900 : Nat))) <|
  some (psD ⟨s.l, s.inter, s.data, DR.c (decP s.c s.lf s.gt s.lo s.hi (UInt8.ofNat (Int.toNat (↑(UInt8.toNat (UInt8.ofNat (Int.toNat n15))) : Int)))), DR.lf (decP s.c s.lf s.gt s.lo s.hi (UInt8.ofNat (Int.toNat (↑(UInt8.toNat (UInt8.ofNat (Int.toNat n15))) : Int)))), DR.gt (decP s.c s.lf s.gt s.lo s.hi (UInt8.ofNat (Int.toNat (↑(UInt8.toNat (UInt8.ofNat (Int.toNat n15))) : Int)))), DR.lo (decP s.c s.lf s.gt s.lo s.hi (UInt8.ofNat (Int.toNat (↑(UInt8.toNat (UInt8.ofNat (Int.toNat n15))) : Int)))), DR.hi (decP s.c s.lf s.gt s.lo s.hi (UInt8.ofNat (Int.toNat (↑(UInt8.toNat (UInt8.ofNat (Int.toNat n15))) : Int)))), s.st, s.mk', s.fst, s.fin, s.sp, s.en⟩ (t ++ texts (DR.r (decP s.c s.lf s.gt s.lo s.hi (UInt8.ofNat (Int.toNat (↑(UInt8.toNat (UInt8.ofNat (Int.toNat n15))) : Int)))))))
 else
  need (decide (List.length t ≤ (800 : Nat))) <|
  bif (n15 != (127 : Int)) then
   need (is8 n15) <|
   need (decide (List.length (t ++ endT s) ≤ (900 : Nat))) <|
   some (psD ⟨s.l, s.inter, s.data, (0 : Int), (0 : Int), (0 : Int), (0 : Int), (0 : Int), s.st, s.mk', s.fst, s.fin, s.sp, s.en⟩ (t ++ endT s ++ [ctl n15]))
  else
   some (psD ⟨s.l, s.inter, s.data, (0 : Int), (0 : Int), (0 : Int), (0 : Int), (0 : Int), s.st, s.mk', s.fst, s.fin, s.sp, s.en⟩ (t ++ endT s))) := by kernel_rfl

end Go.Proofs.Ytfdhkpfkdcdloaa

namespace Go.Proofs.Ytfdhkpfkdcdloaa
open Go Go.Am

def cB (pre post : Tm) (g : PS → Int → List Tk → List Bool) (F : PS → Int → PS × List Tk) : CtrM := { pre := pre, post := post, res := fun ds => match popPT ds with
 | some (s, t, ds) => match popD (.int .u8) ds with
  | some (b, []) => some (g s b t, psD (F s b).1 (t ++ (F s b).2))
  | _ => none
 | none => none }
theorem cB_res {pre post : Tm} {g : PS → Int → List Tk → List Bool} {F : PS → Int → PS × List Tk} {ds : List Dy} {gs : List Bool} {ds' : List Dy} (h : (cB pre post g F).res ds = some (gs, ds')) :
 ∃ s t b, ds = psD s t ++ [⟨.int .u8, b⟩] ∧ gs = g s b t ∧ ds' = psD (F s b).1 (t ++ (F s b).2) := by
 simp only [cB] at h
 split at h
 ·rename_i s t ds h1
  split at h
  ·rename_i b h2
   cases h
   rw [popPT_eq h1, popD_eq h2]
   exact ⟨s, t, b, rfl, rfl, rfl⟩
  ·cases h
 ·cases h
theorem og_ok (s : PS) (t : List Tk) (b : Int) (hb : is8 b = true) (h : t.length ≤ 700) : fnM SOg loopY Og_pre Og_post 0 46 (psD s t ++ [⟨.int .u8, b⟩]) = some (psD (onGroundS s b).1 (t ++ (onGroundS s b).2)) := by
 obtain ⟨l, it, d, c, lf, gt, lo, hi, st, mk', fst, fin, sp, en⟩ := s
 obtain ⟨b1, b2⟩ := is8_at hb
 refine (Og_fn 0 ⟨l, it, d, c, lf, gt, lo, hi, st, mk', fst, fin, sp, en⟩ t  b).trans ?_
 dsimp only
 unfold onGroundS
 by_cases h0 : 32 ≤ b ∧ b ≠ 127
 ·rw [if_pos h0]
  refine bp (by simpa using h0) (nd b1 (nd b2 (nd (by8_lt b) ?_)))
  simp only [u8_b2]
  have := decP_len c lf gt lo hi (by8 b)
  exact nd (show t.length + (decP c lf gt lo hi (by8 b)).r.length ≤ 900 by omega) rfl
 ·rw [if_neg h0]
  refine bn (by simpa using h0) (nd (by omega) ?_)
  have he : (endT ⟨l, it, d, c, lf, gt, lo, hi, st, mk', fst, fin, sp, en⟩).length ≤ 1 := by
   unfold endT texts
   rw [List.length_map]
   exact Nat.le_trans (List.length_filter_le _ _) (endR_len _)
  by_cases h1 : b = 127
  ·refine bn (by simpa using h1) ?_
   rw [if_pos h1, List.append_nil]
   rfl
  ·refine bp (by simpa using h1) (np hb (nd (by rw [List.length_append]; omega) ?_))
   rw [if_neg h1, ← List.append_assoc]
   rfl
def cOg : CtrM := cB Og_pre Og_post (fun _ b t => [is8 b, decide (t.length ≤ 700)]) onGroundS
theorem cOg_ok : CtrMOk EP 46 cOg := ctrM_ok (S := SOg) (S_ok c3_ok m10_ok) rfl rfl rfl rfl fun ds gs ds' hr hg => by
 obtain ⟨s, t, b, rfl, rfl, rfl⟩ := cB_res hr
 simp only [List.all_cons, id, Bool.and_eq_true, List.all_nil, decide_eq_true_eq] at hg
 exact ⟨0, og_ok s t b hg.1 hg.2.1⟩
noncomputable def m11 : FuncId → List CtrM := addM m10 46 cOg
theorem m11_ok : ∀ g ct, ct ∈ m11 g → CtrMOk EP g ct := addM_ok m10_ok cOg_ok
end Go.Proofs.Ytfdhkpfkdcdloaa

namespace Go.Proofs.Ytfdhkpfkdcdloaa
open Go Go.Am
set_option linter.unusedVariables false
def Wi_pre : Tm := { tmps := [(0, .ptr 0 0), (1, .hole (.int .u8)), (2, .func 25 [] [.ptr 4 0])], objs := [.cells [.hole (.int .i32), .hole (.int .u8), .hole (.int .u8), .hole (.int .u8), .hole (.int .u8), .hole (.int .i64), .ptr 1 0, .hole (.int .u8), .h 2, .hole .bool, .hole (.int .u8), .h 3, .hole .bool, .hole .bool] 56 true, .row 71 (.int .i64) true, .lst 5 .byte true, .lst 5 .byte true, .cells [.h 5] 28 true, .lst 41 tokTy true] }
def Wi_post : Tm := { tmps := [(0, .hole .bool)], objs := [.cells [.hole (.int .i32), .hole (.int .u8), .hole (.int .u8), .hole (.int .u8), .hole (.int .u8), .hole (.int .i64), .ptr 1 0, .hole (.int .u8), .h 2, .hole .bool, .hole (.int .u8), .h 3, .hole .bool, .hole .bool] 56 true, .row 71 (.int .i64) true, .lst 5 .byte true, .lst 5 .byte true, .cells [.h 5] 28 true, .lst 41 tokTy true], prepO := [(0, 8, 2, 5), (0, 11, 3, 5)] }
def tmWi : FuncId → Nat → Option Tm := fun g i => match Nat.beq g 59 with
 | true => none
 | false => none
noncomputable def SWi : SE := { E := EP, ctr := c3, tm := tmWi, un := 300, hold := [0, 1, 4], ctrM := m11 }
theorem Wi_fn (n : Nat) (s : PS) (t : List Tk) (n15 : Int) :
 fnM SWi loopY Wi_pre Wi_post n 59 (psD s t ++ [⟨(.int .u8), n15⟩]) =
 (bif (decide (n15 < (32 : Int))) then
  need (is8 n15) <|
  need (decide (List.length t ≤ (900 : Nat))) <|
  some (psD s (t ++ [ctl n15]) ++ [⟨.bool, (false : Bool)⟩])
 else
  bif (n15 == (127 : Int)) then
   some (psD s t ++ [⟨.bool, (false : Bool)⟩])
  else
   bif (decide ((128 : Int) ≤ n15)) then
    need (decide (List.length s.l = (289 : Nat))) <|
    need (is8 n15) <|
    need (decide (List.length t ≤ (700 : Nat))) <|
    some (psD (Prod.fst (onGroundS ⟨List.replicate (289 : Nat) (0 : Int), [], [], s.c, s.lf, s.gt, s.lo, s.hi, (0 : Int), (0 : Int), true, (0 : Int), false, false⟩ n15)) (t ++ Prod.snd (onGroundS ⟨List.replicate (289 : Nat) (0 : Int), [], [], s.c, s.lf, s.gt, s.lo, s.hi, (0 : Int), (0 : Int), true, (0 : Int), false, false⟩ n15)) ++ [⟨.bool, (false : Bool)⟩])
   else
    bif (decide (n15 < (48 : Int))) then
     bif (!(s.sp || (↑(List.length s.inter) : Int) == (2 : Int))) then
      need (decide ((0 : Int) ≤ n15)) <|
      need (decide (n15 < (256 : Int))) <|
      need (decide ((List.length s.inter + List.length [UInt8.ofNat (Int.toNat n15)]) * (1 : Nat) ≤ (140737488355328 : Nat))) <|
      need (decide (List.length s.inter + List.length [UInt8.ofNat (Int.toNat n15)] ≤ (140737488355328 : Nat))) <|
      some (psD ⟨s.l, s.inter ++ [UInt8.ofNat (Int.toNat n15)], s.data, s.c, s.lf, s.gt, s.lo, s.hi, s.st, s.mk', false, s.fin, s.sp || (↑(List.length s.inter) : Int) == (2 : Int), false⟩ t ++ [⟨.bool, (false : Bool)⟩])
     else
      some (psD ⟨s.l, s.inter, s.data, s.c, s.lf, s.gt, s.lo, s.hi, s.st, s.mk', false, s.fin, s.sp || (↑(List.length s.inter) : Int) == (2 : Int), false⟩ t ++ [⟨.bool, (false : Bool)⟩])
    else
     some (psD s t ++ [⟨.bool, (true : Bool)⟩])) := by kernel_rfl

def Da_pre : Tm := { tmps := [(0, .ptr 0 0), (1, .hole (.int .u8)), (2, .func 25 [] [.ptr 4 0])], objs := [.cells [.hole (.int .i32), .hole (.int .u8), .hole (.int .u8), .hole (.int .u8), .hole (.int .u8), .hole (.int .i64), .ptr 1 0, .hole (.int .u8), .h 2, .hole .bool, .hole (.int .u8), .h 3, .hole .bool, .hole .bool] 56 true, .row 71 (.int .i64) true, .lst 5 .byte true, .lst 5 .byte true, .cells [.h 5] 28 true, .lst 41 tokTy true] }
def Da_post : Tm := { tmps := [], objs := [.cells [.hole (.int .i32), .hole (.int .u8), .hole (.int .u8), .hole (.int .u8), .hole (.int .u8), .hole (.int .i64), .ptr 1 0, .hole (.int .u8), .h 2, .hole .bool, .hole (.int .u8), .h 3, .hole .bool, .hole .bool] 56 true, .row 71 (.int .i64) true, .lst 5 .byte true, .lst 5 .byte true, .cells [.h 5] 28 true, .lst 41 tokTy true], prepO := [(0, 8, 2, 5), (0, 11, 3, 5)] }
def tmDa : FuncId → Nat → Option Tm := fun g i => match Nat.beq g 49 with
 | true => none
 | false => none
noncomputable def SDa : SE := { E := EP, ctr := c3, tm := tmDa, un := 300, hold := [0, 1, 4], ctrM := m11 }
theorem Da_fn (n : Nat) (s : PS) (t : List Tk) (n15 : Int) :
 fnM SDa loopY Da_pre Da_post n 49 (psD s t ++ [⟨(.int .u8), n15⟩]) =
 (bif (n15 == (7 : Int) && s.st == (5 : Int)) then
  need (gP s) <|
  need (decide (List.length t ≤ (900 : Nat))) <|
  need (decide (List.length s.l = (289 : Nat))) <|
  some (psD ⟨List.replicate (289 : Nat) (0 : Int), [], [], s.c, s.lf, s.gt, s.lo, s.hi, (0 : Int), (0 : Int), true, (0 : Int), false, false⟩ (t ++ doneT s))
 else
  bif (decide (n15 < (32 : Int)) || n15 == (127 : Int) || s.st == (6 : Int)) then
   some (psD s t)
  else
   bif ((↑(List.length s.data) : Int) == (1024 : Int)) then
    some (psD ⟨s.l, s.inter, s.data, s.c, s.lf, s.gt, s.lo, s.hi, s.st, s.mk', s.fst, s.fin, true, s.en⟩ t)
   else
    bif (!s.sp) then
     need (decide ((0 : Int) ≤ n15)) <|
     need (decide (n15 < (256 : Int))) <|
     need (decide ((List.length s.data + List.length [UInt8.ofNat (Int.toNat n15)]) * (1 : Nat) ≤ (140737488355328 : Nat))) <|
     need (decide (List.length s.data + List.length [UInt8.ofNat (Int.toNat n15)] ≤ (140737488355328 : Nat))) <|
     some (psD ⟨s.l, s.inter, s.data ++ [UInt8.ofNat (Int.toNat n15)], s.c, s.lf, s.gt, s.lo, s.hi, s.st, s.mk', s.fst, s.fin, s.sp, s.en⟩ t)
    else
     some (psD s t)) := by kernel_rfl

end Go.Proofs.Ytfdhkpfkdcdloaa

namespace Go.Proofs.Ytfdhkpfkdcdloaa
open Go Go.Am

theorem wi_ok (s : PS) (t : List Tk) (b : Int) (hs : PI s) (hb : is8 b = true) (h : t.length ≤ 600) : fnM SWi loopY Wi_pre Wi_post 0 59 (psD s t ++ [⟨.int .u8, b⟩]) = some (psD (withinS s b).1 (t ++ (withinS s b).2) ++ [⟨.bool, withinB b⟩]) := by
 have g1 := hs.len
 have g2 := hs.inter
 obtain ⟨l, it, d, c, lf, gt, lo, hi, st, mk', fst, fin, sp, en⟩ := s
 obtain ⟨b1, b2⟩ := is8_at hb
 have g1 : l.length = 289 := g1
 have g2 : it.length ≤ 2 := g2
 refine (Wi_fn 0 ⟨l, it, d, c, lf, gt, lo, hi, st, mk', fst, fin, sp, en⟩ t  b).trans ?_
 dsimp only
 unfold withinS
 have wf : ∀ x : Bool, (48 ≤ b ∧ b < 127 ↔ x = true) → withinB b = x := fun x hx => by
  unfold withinB
  rw [Bool.eq_iff_iff, Bool.and_eq_true, decide_eq_true_eq, decide_eq_true_eq]
  exact hx
 by_cases h1 : b < 32
 ·rw [if_pos h1, wf false (by simp; omega)]
  exact bpd h1 (np hb (nd (by omega) rfl))
 rw [if_neg h1]
 refine bnd h1 ?_
 by_cases h2 : b = 127
 ·rw [if_pos h2, wf false (by simp; omega), List.append_nil]
  exact bp (by simpa using h2) rfl
 rw [if_neg h2]
 refine bn (by simpa using h2) ?_
 by_cases h3 : 128 ≤ b
 ·rw [if_pos h3, wf false (by simp; omega)]
  exact bpd h3 (nd g1 (np hb (nd (by omega) rfl)))
 rw [if_neg h3]
 refine bnd h3 ?_
 by_cases h4 : b < 48
 ·rw [if_pos h4, wf false (by simp; omega)]
  refine bpd h4 ?_
  have hq : ((it.length : Int) == 2) = decide (it.length = 2) := by rw [Bool.eq_iff_iff, beq_iff_eq, decide_eq_true_eq]; omega
  rw [hq, List.append_nil]
  by_cases hc : (sp || decide (it.length = 2)) = true
  ·have e : interS ⟨l, it, d, c, lf, gt, lo, hi, st, mk', fst, fin, sp, en⟩ b = ⟨l, it, d, c, lf, gt, lo, hi, st, mk', false, fin, true, false⟩ := if_pos hc
   rw [e, hc]
   exact bn rfl rfl
  ·have e : interS ⟨l, it, d, c, lf, gt, lo, hi, st, mk', fst, fin, sp, en⟩ b = ⟨l, it ++ [by8 b], d, c, lf, gt, lo, hi, st, mk', false, fin, sp, false⟩ := if_neg hc
   have hc : (sp || decide (it.length = 2)) = false := by simpa using hc
   have hsp : sp = false := by
    cases sp with
    | true => simp at hc
    | false => rfl
   subst hsp
   rw [e, hc]
   exact bp rfl (nd b1 (nd b2 (nd (by rw [List.length_singleton]; omega) (nd (by rw [List.length_singleton]; omega) rfl))))
 ·rw [if_neg h4, wf true (by simp; omega), List.append_nil]
  exact bnd h4 rfl
noncomputable def cWi : CtrM := { pre := Wi_pre, post := Wi_post, res := fun ds => match popPT ds with
 | some (s, t, ds) => match popD (.int .u8) ds with
  | some (b, []) => some ([gP s, is8 b, decide (t.length ≤ 600)], psD (withinS s b).1 (t ++ (withinS s b).2) ++ [⟨.bool, withinB b⟩])
  | _ => none
 | none => none }
theorem cWi_ok : CtrMOk EP 59 cWi := ctrM_ok (S := SWi) (S_ok c3_ok m11_ok) rfl rfl rfl rfl fun ds gs ds' hr hg => by
 simp only [cWi] at hr
 split at hr
 ·rename_i s t ds h
  split at hr
  ·rename_i b h2
   cases hr
   rw [popPT_eq h, popD_eq h2]
   simp only [List.all_cons, id, Bool.and_eq_true, List.all_nil, decide_eq_true_eq] at hg
   exact ⟨0, wi_ok s t b (gP_iff.1 hg.1) hg.2.1 hg.2.2.1⟩
  ·cases hr
 ·cases hr

theorem da_ok (s : PS) (t : List Tk) (b : Int) (hs : PI s) (hb : is8 b = true) (h : t.length ≤ 500) : fnM SDa loopY Da_pre Da_post 0 49 (psD s t ++ [⟨.int .u8, b⟩]) = some (psD (onDataS s b).1 (t ++ (onDataS s b).2)) := by
 have g0 := gP_iff.2 hs
 have g1 := hs.len
 have g2 := hs.data
 obtain ⟨l, it, d, c, lf, gt, lo, hi, st, mk', fst, fin, sp, en⟩ := s
 obtain ⟨b1, b2⟩ := is8_at hb
 have g1 : l.length = 289 := g1
 have g2 : d.length ≤ 1024 := g2
 refine (Da_fn 0 ⟨l, it, d, c, lf, gt, lo, hi, st, mk', fst, fin, sp, en⟩ t  b).trans ?_
 dsimp only
 unfold onDataS
 by_cases h1 : b = 7 ∧ st = 5
 ·rw [if_pos h1]
  exact bp (by simpa using h1) (np g0 (nd (by omega) (nd g1 rfl)))
 rw [if_neg h1]
 refine bn (by rw [← Bool.not_eq_true]; simpa using h1) ?_
 by_cases h2 : b < 32 ∨ b = 127 ∨ st = 6
 ·rw [if_pos h2, List.append_nil]
  exact bp (by simp only [Bool.or_eq_true, decide_eq_true_eq, beq_iff_eq]; omega) rfl
 rw [if_neg h2]
 refine bn (by simp only [Bool.or_eq_false_iff, decide_eq_false_iff_not, beq_eq_false_iff_ne]; omega) ?_
 by_cases h3 : d.length = 1024
 ·rw [if_pos h3, List.append_nil]
  exact bp (by rw [beq_iff_eq]; omega) rfl
 rw [if_neg h3]
 refine bn (by rw [beq_eq_false_iff_ne]; omega) ?_
 cases sp with
 | true =>
  rw [if_pos rfl, List.append_nil]
  exact bn rfl rfl
 | false =>
  rw [if_neg (by simp), List.append_nil]
  exact bp rfl (nd b1 (nd b2 (nd (by rw [List.length_singleton]; omega) (nd (by rw [List.length_singleton]; omega) rfl))))
noncomputable def cDa : CtrM := cB Da_pre Da_post (fun s b t => [gP s, is8 b, decide (t.length ≤ 500)]) onDataS
theorem cDa_ok : CtrMOk EP 49 cDa := ctrM_ok (S := SDa) (S_ok c3_ok m11_ok) rfl rfl rfl rfl fun ds gs ds' hr hg => by
 obtain ⟨s, t, b, rfl, rfl, rfl⟩ := cB_res hr
 simp only [List.all_cons, id, Bool.and_eq_true, List.all_nil, decide_eq_true_eq] at hg
 exact ⟨0, da_ok s t b (gP_iff.1 hg.1) hg.2.1 hg.2.2.1⟩
noncomputable def m12 : FuncId → List CtrM := addM (addM m11 59 cWi) 49 cDa
theorem m12_ok : ∀ g ct, ct ∈ m12 g → CtrMOk EP g ct := addM_ok (addM_ok m11_ok cWi_ok) cDa_ok
end Go.Proofs.Ytfdhkpfkdcdloaa

namespace Go.Proofs.Ytfdhkpfkdcdloaa
open Go Go.Am
set_option linter.unusedVariables false
def Es_pre : Tm := { tmps := [(0, .ptr 0 0), (1, .hole (.int .u8)), (2, .func 25 [] [.ptr 4 0])], objs := [.cells [.hole (.int .i32), .hole (.int .u8), .hole (.int .u8), .hole (.int .u8), .hole (.int .u8), .hole (.int .i64), .ptr 1 0, .hole (.int .u8), .h 2, .hole .bool, .hole (.int .u8), .h 3, .hole .bool, .hole .bool] 56 true, .row 71 (.int .i64) true, .lst 5 .byte true, .lst 5 .byte true, .cells [.h 5] 28 true, .lst 41 tokTy true] }
def Es_post : Tm := { tmps := [], objs := [.cells [.hole (.int .i32), .hole (.int .u8), .hole (.int .u8), .hole (.int .u8), .hole (.int .u8), .hole (.int .i64), .ptr 1 0, .hole (.int .u8), .h 2, .hole .bool, .hole (.int .u8), .h 3, .hole .bool, .hole .bool] 56 true, .row 71 (.int .i64) true, .lst 5 .byte true, .lst 5 .byte true, .cells [.h 5] 28 true, .lst 41 tokTy true], prepO := [(0, 8, 2, 5), (0, 11, 3, 5)] }
def tmEs : FuncId → Nat → Option Tm := fun g i => match Nat.beq g 47 with
 | true => none
 | false => none
noncomputable def SEs : SE := { E := EP, ctr := c3, tm := tmEs, un := 300, hold := [0, 1, 4], ctrM := m12 }
theorem Es_fn (n : Nat) (s : PS) (t : List Tk) (n15 : Int) :
 fnM SEs loopY Es_pre Es_post n 47 (psD s t ++ [⟨(.int .u8), n15⟩]) =
 (need (gP s) <|
 need (is8 n15) <|
 need (decide (List.length t ≤ (600 : Nat))) <|
 bif (!withinB n15) then
  some (psD (Prod.fst (withinS s n15)) (t ++ Prod.snd (withinS s n15)))
 else
  bif (n15 == (91 : Int)) then
   bif (PS.fst (Prod.fst (withinS s n15))) then
    need (decide (List.length (PS.l (Prod.fst (withinS s n15))) = (289 : Nat))) <|
    some (psD ⟨List.replicate (289 : Nat) (0 : Int), [], [], PS.c (Prod.fst (withinS s n15)), PS.lf (Prod.fst (withinS s n15)), PS.gt (Prod.fst (withinS s n15)), PS.lo (Prod.fst (withinS s n15)), PS.hi (Prod.fst (withinS s n15)), (2 : Int), (0 : Int), true, (0 : Int), false, false⟩ (t ++ Prod.snd (withinS s n15)))
   else
    bif (!PS.sp (Prod.fst (withinS s n15)) && !(PS.en (Prod.fst (withinS s n15)) && n15 == (92 : Int))) then
     need (decide ((0 : Int) ≤ n15)) <|
     need (decide (n15 < (256 : Int))) <|
     need (decide ((↑(UInt8.toNat (UInt8.ofNat (Int.toNat n15))) : Int) < (256 : Int))) <|
     need (decide (List.length (t ++ Prod.snd (withinS s n15)) ≤ (1000 : Nat))) <|
     need (decide (List.length (PS.l (Prod.fst (withinS s n15))) = (289 : Nat))) <|
     some (psD ⟨List.replicate (289 : Nat) (0 : Int), [], [], PS.c (Prod.fst (withinS s n15)), PS.lf (Prod.fst (withinS s n15)), PS.gt (Prod.fst (withinS s n15)), PS.lo (Prod.fst (withinS s n15)), PS.hi (Prod.fst (withinS s n15)), (0 : Int), (0 : Int), true, (0 : Int), false, false⟩ (t ++ Prod.snd (withinS s n15) ++ [((2 : Int), (0 : Int), UInt8.ofNat (Int.toNat (↑(UInt8.toNat (UInt8.ofNat (0 : Nat))) : Int)), [], PS.inter (Prod.fst (withinS s n15)), UInt8.ofNat (Int.toNat (↑(UInt8.toNat (UInt8.ofNat (Int.toNat n15))) : Int)), [], PUnit.unit)]))
    else
     need (decide (List.length (PS.l (Prod.fst (withinS s n15))) = (289 : Nat))) <|
     some (psD ⟨List.replicate (289 : Nat) (0 : Int), [], [], PS.c (Prod.fst (withinS s n15)), PS.lf (Prod.fst (withinS s n15)), PS.gt (Prod.fst (withinS s n15)), PS.lo (Prod.fst (withinS s n15)), PS.hi (Prod.fst (withinS s n15)), (0 : Int), (0 : Int), true, (0 : Int), false, false⟩ (t ++ Prod.snd (withinS s n15)))
  else
   bif (n15 == (80 : Int)) then
    bif (PS.fst (Prod.fst (withinS s n15))) then
     need (decide (List.length (PS.l (Prod.fst (withinS s n15))) = (289 : Nat))) <|
     some (psD ⟨List.replicate (289 : Nat) (0 : Int), [], [], PS.c (Prod.fst (withinS s n15)), PS.lf (Prod.fst (withinS s n15)), PS.gt (Prod.fst (withinS s n15)), PS.lo (Prod.fst (withinS s n15)), PS.hi (Prod.fst (withinS s n15)), (3 : Int), (0 : Int), true, (0 : Int), false, false⟩ (t ++ Prod.snd (withinS s n15)))
    else
     bif (!PS.sp (Prod.fst (withinS s n15)) && !(PS.en (Prod.fst (withinS s n15)) && n15 == (92 : Int))) then
      need (decide ((0 : Int) ≤ n15)) <|
      need (decide (n15 < (256 : Int))) <|
      need (decide ((↑(UInt8.toNat (UInt8.ofNat (Int.toNat n15))) : Int) < (256 : Int))) <|
      need (decide (List.length (t ++ Prod.snd (withinS s n15)) ≤ (1000 : Nat))) <|
      need (decide (List.length (PS.l (Prod.fst (withinS s n15))) = (289 : Nat))) <|
      some (psD ⟨List.replicate (289 : Nat) (0 : Int), [], [], PS.c (Prod.fst (withinS s n15)), PS.lf (Prod.fst (withinS s n15)), PS.gt (Prod.fst (withinS s n15)), PS.lo (Prod.fst (withinS s n15)), PS.hi (Prod.fst (withinS s n15)), (0 : Int), (0 : Int), true, (0 : Int), false, false⟩ (t ++ Prod.snd (withinS s n15) ++ [((2 : Int), (0 : Int), UInt8.ofNat (Int.toNat (↑(UInt8.toNat (UInt8.ofNat (0 : Nat))) : Int)), [], PS.inter (Prod.fst (withinS s n15)), UInt8.ofNat (Int.toNat (↑(UInt8.toNat (UInt8.ofNat (Int.toNat n15))) : Int)), [], PUnit.unit)]))
     else
      need (decide (List.length (PS.l (Prod.fst (withinS s n15))) = (289 : Nat))) <|
      some (psD ⟨List.replicate (289 : Nat) (0 : Int), [], [], PS.c (Prod.fst (withinS s n15)), PS.lf (Prod.fst (withinS s n15)), PS.gt (Prod.fst (withinS s n15)), PS.lo (Prod.fst (withinS s n15)), PS.hi (Prod.fst (withinS s n15)), (0 : Int), (0 : Int), true, (0 : Int), false, false⟩ (t ++ Prod.snd (withinS s n15)))
   else
    bif (n15 == (93 : Int)) then
     bif (PS.fst (Prod.fst (withinS s n15))) then
      need (decide (List.length (PS.l (Prod.fst (withinS s n15))) = (289 : Nat))) <|
      some (psD ⟨List.replicate (289 : Nat) (0 : Int), [], [], PS.c (Prod.fst (withinS s n15)), PS.lf (Prod.fst (withinS s n15)), PS.gt (Prod.fst (withinS s n15)), PS.lo (Prod.fst (withinS s n15)), PS.hi (Prod.fst (withinS s n15)), (5 : Int), (0 : Int), true, (0 : Int), false, false⟩ (t ++ Prod.snd (withinS s n15)))
     else
      bif (!PS.sp (Prod.fst (withinS s n15)) && !(PS.en (Prod.fst (withinS s n15)) && n15 == (92 : Int))) then
       need (decide ((0 : Int) ≤ n15)) <|
       need (decide (n15 < (256 : Int))) <|
       need (decide ((↑(UInt8.toNat (UInt8.ofNat (Int.toNat n15))) : Int) < (256 : Int))) <|
       need (decide (List.length (t ++ Prod.snd (withinS s n15)) ≤ (1000 : Nat))) <|
       need (decide (List.length (PS.l (Prod.fst (withinS s n15))) = (289 : Nat))) <|
       some (psD ⟨List.replicate (289 : Nat) (0 : Int), [], [], PS.c (Prod.fst (withinS s n15)), PS.lf (Prod.fst (withinS s n15)), PS.gt (Prod.fst (withinS s n15)), PS.lo (Prod.fst (withinS s n15)), PS.hi (Prod.fst (withinS s n15)), (0 : Int), (0 : Int), true, (0 : Int), false, false⟩ (t ++ Prod.snd (withinS s n15) ++ [((2 : Int), (0 : Int), UInt8.ofNat (Int.toNat (↑(UInt8.toNat (UInt8.ofNat (0 : Nat))) : Int)), [], PS.inter (Prod.fst (withinS s n15)), UInt8.ofNat (Int.toNat (↑(UInt8.toNat (UInt8.ofNat (Int.toNat n15))) : Int)), [], PUnit.unit)]))
      else
       need (decide (List.length (PS.l (Prod.fst (withinS s n15))) = (289 : Nat))) <|
       some (psD ⟨List.replicate (289 : Nat) (0 : Int), [], [], PS.c (Prod.fst (withinS s n15)), PS.lf (Prod.fst (withinS s n15)), PS.gt (Prod.fst (withinS s n15)), PS.lo (Prod.fst (withinS s n15)), PS.hi (Prod.fst (withinS s n15)), (0 : Int), (0 : Int), true, (0 : Int), false, false⟩ (t ++ Prod.snd (withinS s n15)))
    else
     bif (n15 == (88 : Int)) then
      bif (PS.fst (Prod.fst (withinS s n15))) then
       need (decide (List.length (PS.l (Prod.fst (withinS s n15))) = (289 : Nat))) <|
       some (psD ⟨List.replicate (289 : Nat) (0 : Int), [], [], PS.c (Prod.fst (withinS s n15)), PS.lf (Prod.fst (withinS s n15)), PS.gt (Prod.fst (withinS s n15)), PS.lo (Prod.fst (withinS s n15)), PS.hi (Prod.fst (withinS s n15)), (6 : Int), (0 : Int), true, (0 : Int), false, false⟩ (t ++ Prod.snd (withinS s n15)))
      else
       bif (!PS.sp (Prod.fst (withinS s n15)) && !(PS.en (Prod.fst (withinS s n15)) && n15 == (92 : Int))) then
        need (decide ((0 : Int) ≤ n15)) <|
        need (decide (n15 < (256 : Int))) <|
        need (decide ((↑(UInt8.toNat (UInt8.ofNat (Int.toNat n15))) : Int) < (256 : Int))) <|
        need (decide (List.length (t ++ Prod.snd (withinS s n15)) ≤ (1000 : Nat))) <|
        need (decide (List.length (PS.l (Prod.fst (withinS s n15))) = (289 : Nat))) <|
        some (psD ⟨List.replicate (289 : Nat) (0 : Int), [], [], PS.c (Prod.fst (withinS s n15)), PS.lf (Prod.fst (withinS s n15)), PS.gt (Prod.fst (withinS s n15)), PS.lo (Prod.fst (withinS s n15)), PS.hi (Prod.fst (withinS s n15)), (0 : Int), (0 : Int), true, (0 : Int), false, false⟩ (t ++ Prod.snd (withinS s n15) ++ [((2 : Int), (0 : Int), UInt8.ofNat (Int.toNat (↑(UInt8.toNat (UInt8.ofNat (0 : Nat))) : Int)), [], PS.inter (Prod.fst (withinS s n15)), UInt8.ofNat (Int.toNat (↑(UInt8.toNat (UInt8.ofNat (Int.toNat n15))) : Int)), [], PUnit.unit)]))
       else
        need (decide (List.length (PS.l (Prod.fst (withinS s n15))) = (289 : Nat))) <|
        some (psD ⟨List.replicate (289 : Nat) (0 : Int), [], [], PS.c (Prod.fst (withinS s n15)), PS.lf (Prod.fst (withinS s n15)), PS.gt (Prod.fst (withinS s n15)), PS.lo (Prod.fst (withinS s n15)), PS.hi (Prod.fst (withinS s n15)), (0 : Int), (0 : Int), true, (0 : Int), false, false⟩ (t ++ Prod.snd (withinS s n15)))
     else
      bif (n15 == (94 : Int)) then
       bif (PS.fst (Prod.fst (withinS s n15))) then
        need (decide (List.length (PS.l (Prod.fst (withinS s n15))) = (289 : Nat))) <|
        some (psD ⟨List.replicate (289 : Nat) (0 : Int), [], [], PS.c (Prod.fst (withinS s n15)), PS.lf (Prod.fst (withinS s n15)), PS.gt (Prod.fst (withinS s n15)), PS.lo (Prod.fst (withinS s n15)), PS.hi (Prod.fst (withinS s n15)), (6 : Int), (0 : Int), true, (0 : Int), false, false⟩ (t ++ Prod.snd (withinS s n15)))
       else
        bif (!PS.sp (Prod.fst (withinS s n15)) && !(PS.en (Prod.fst (withinS s n15)) && n15 == (92 : Int))) then
         need (decide ((0 : Int) ≤ n15)) <|
         need (decide (n15 < (256 : Int))) <|
         need (decide ((↑(UInt8.toNat (UInt8.ofNat (Int.toNat n15))) : Int) < (256 : Int))) <|
         need (decide (List.length (t ++ Prod.snd (withinS s n15)) ≤ (1000 : Nat))) <|
         need (decide (List.length (PS.l (Prod.fst (withinS s n15))) = (289 : Nat))) <|
         some (psD ⟨List.replicate (289 : Nat) (0 : Int), [], [], PS.c (Prod.fst (withinS s n15)), PS.lf (Prod.fst (withinS s n15)), PS.gt (Prod.fst (withinS s n15)), PS.lo (Prod.fst (withinS s n15)), PS.hi (Prod.fst (withinS s n15)), (0 : Int), (0 : Int), true, (0 : Int), false, false⟩ (t ++ Prod.snd (withinS s n15) ++ [((2 : Int), (0 : Int), UInt8.ofNat (Int.toNat (↑(UInt8.toNat (UInt8.ofNat (0 : Nat))) : Int)), [], PS.inter (Prod.fst (withinS s n15)), UInt8.ofNat (Int.toNat (↑(UInt8.toNat (UInt8.ofNat (Int.toNat n15))) : Int)), [], PUnit.unit)]))
        else
         need (decide (List.length (PS.l (Prod.fst (withinS s n15))) = (289 : Nat))) <|
         some (psD ⟨List.replicate (289 : Nat) (0 : Int), [], [], PS.c (Prod.fst (withinS s n15)), PS.lf (Prod.fst (withinS s n15)), PS.gt (Prod.fst (withinS s n15)), PS.lo (Prod.fst (withinS s n15)), PS.hi (Prod.fst (withinS s n15)), (0 : Int), (0 : Int), true, (0 : Int), false, false⟩ (t ++ Prod.snd (withinS s n15)))
      else
       bif (n15 == (95 : Int)) then
        bif (PS.fst (Prod.fst (withinS s n15))) then
         need (decide (List.length (PS.l (Prod.fst (withinS s n15))) = (289 : Nat))) <|
         some (psD ⟨List.replicate (289 : Nat) (0 : Int), [], [], PS.c (Prod.fst (withinS s n15)), PS.lf (Prod.fst (withinS s n15)), PS.gt (Prod.fst (withinS s n15)), PS.lo (Prod.fst (withinS s n15)), PS.hi (Prod.fst (withinS s n15)), (6 : Int), (0 : Int), true, (0 : Int), false, false⟩ (t ++ Prod.snd (withinS s n15)))
        else
         bif (!PS.sp (Prod.fst (withinS s n15)) && !(PS.en (Prod.fst (withinS s n15)) && n15 == (92 : Int))) then
          need (decide ((0 : Int) ≤ n15)) <|
          need (decide (n15 < (256 : Int))) <|
          need (decide ((↑(UInt8.toNat (UInt8.ofNat (Int.toNat n15))) : Int) < (256 : Int))) <|
          need (decide (List.length (t ++ Prod.snd (withinS s n15)) ≤ (1000 : Nat))) <|
          need (decide (List.length (PS.l (Prod.fst (withinS s n15))) = (289 : Nat))) <|
          some (psD ⟨List.replicate (289 : Nat) (0 : Int), [], [], PS.c (Prod.fst (withinS s n15)), PS.lf (Prod.fst (withinS s n15)), PS.gt (Prod.fst (withinS s n15)), PS.lo (Prod.fst (withinS s n15)), PS.hi (Prod.fst (withinS s n15)), (0 : Int), (0 : Int), true, (0 : Int), false, false⟩ (t ++ Prod.snd (withinS s n15) ++ [((2 : Int), (0 : Int), UInt8.ofNat (Int.toNat (↑(UInt8.toNat (UInt8.ofNat (0 : Nat))) : Int)), [], PS.inter (Prod.fst (withinS s n15)), UInt8.ofNat (Int.toNat (↑(UInt8.toNat (UInt8.ofNat (Int.toNat n15))) : Int)), [], PUnit.unit)]))
         else
          need (decide (List.length (PS.l (Prod.fst (withinS s n15))) = (289 : Nat))) <|
          some (psD ⟨List.replicate (289 : Nat) (0 : Int), [], [], PS.c (Prod.fst (withinS s n15)), PS.lf (Prod.fst (withinS s n15)), PS.gt (Prod.fst (withinS s n15)), PS.lo (Prod.fst (withinS s n15)), PS.hi (Prod.fst (withinS s n15)), (0 : Int), (0 : Int), true, (0 : Int), false, false⟩ (t ++ Prod.snd (withinS s n15)))
       else
        bif (!PS.sp (Prod.fst (withinS s n15)) && !(PS.en (Prod.fst (withinS s n15)) && n15 == (92 : Int))) then
         need (decide ((0 : Int) ≤ n15)) <|
         need (decide (n15 < (256 : Int))) <|
         need (decide ((↑(UInt8.toNat (UInt8.ofNat (Int.toNat n15))) : Int) < (256 : Int))) <|
         need (decide (List.length (t ++ Prod.snd (withinS s n15)) ≤ (1000 : Nat))) <|
         need (decide (List.length (PS.l (Prod.fst (withinS s n15))) = (289 : Nat))) <|
         some (psD ⟨List.replicate (289 : Nat) (0 : Int), [], [], PS.c (Prod.fst (withinS s n15)), PS.lf (Prod.fst (withinS s n15)), PS.gt (Prod.fst (withinS s n15)), PS.lo (Prod.fst (withinS s n15)), PS.hi (Prod.fst (withinS s n15)), (0 : Int), (0 : Int), true, (0 : Int), false, false⟩ (t ++ Prod.snd (withinS s n15) ++ [((2 : Int), (0 : Int), UInt8.ofNat (Int.toNat (↑(UInt8.toNat (UInt8.ofNat (0 : Nat))) : Int)), [], PS.inter (Prod.fst (withinS s n15)), UInt8.ofNat (Int.toNat (↑(UInt8.toNat (UInt8.ofNat (Int.toNat n15))) : Int)), [], PUnit.unit)]))
        else
         need (decide (List.length (PS.l (Prod.fst (withinS s n15))) = (289 : Nat))) <|
         some (psD ⟨List.replicate (289 : Nat) (0 : Int), [], [], PS.c (Prod.fst (withinS s n15)), PS.lf (Prod.fst (withinS s n15)), PS.gt (Prod.fst (withinS s n15)), PS.lo (Prod.fst (withinS s n15)), PS.hi (Prod.fst (withinS s n15)), (0 : Int), (0 : Int), true, (0 : Int), false, false⟩ (t ++ Prod.snd (withinS s n15)))) := by kernel_rfl

def He_pre : Tm := { tmps := [(0, .ptr 0 0), (1, .hole (.int .u8)), (2, .func 25 [] [.ptr 4 0])], objs := [.cells [.hole (.int .i32), .hole (.int .u8), .hole (.int .u8), .hole (.int .u8), .hole (.int .u8), .hole (.int .i64), .ptr 1 0, .hole (.int .u8), .h 2, .hole .bool, .hole (.int .u8), .h 3, .hole .bool, .hole .bool] 56 true, .row 71 (.int .i64) true, .lst 5 .byte true, .lst 5 .byte true, .cells [.h 5] 28 true, .lst 41 tokTy true] }
def He_post : Tm := { tmps := [], objs := [.cells [.hole (.int .i32), .hole (.int .u8), .hole (.int .u8), .hole (.int .u8), .hole (.int .u8), .hole (.int .i64), .ptr 1 0, .hole (.int .u8), .h 2, .hole .bool, .hole (.int .u8), .h 3, .hole .bool, .hole .bool] 56 true, .row 71 (.int .i64) true, .lst 5 .byte true, .lst 5 .byte true, .cells [.h 5] 28 true, .lst 41 tokTy true], prepO := [(0, 8, 2, 5), (0, 11, 3, 5)] }
def tmHe : FuncId → Nat → Option Tm := fun g i => match Nat.beq g 48 with
 | true => none
 | false => none
noncomputable def SHe : SE := { E := EP, ctr := c3, tm := tmHe, un := 300, hold := [0, 1, 4], ctrM := m12 }
theorem He_fn (n : Nat) (s : PS) (t : List Tk) (n15 : Int) :
 fnM SHe loopY He_pre He_post n 48 (psD s t ++ [⟨(.int .u8), n15⟩]) =
 (need (gP s) <|
 need (is8 n15) <|
 need (decide (List.length t ≤ (600 : Nat))) <|
 bif (!withinB n15) then
  some (psD (Prod.fst (withinS s n15)) (t ++ Prod.snd (withinS s n15)))
 else
  bif (decide ((64 : Int) ≤ n15) && PS.st (Prod.fst (withinS s n15)) == (2 : Int)) then
   bif (!PS.sp (Prod.fst (withinS s n15))) then
    need (g0 (PS.l (Prod.fst (withinS s n15)))) <|
    need (is8 (PS.mk' (Prod.fst (withinS s n15)))) <|
    need (is8 n15) <|
    need (decide ((↑(UInt8.toNat (by8 (PS.mk' (Prod.fst (withinS s n15))))) : Int) < (256 : Int))) <|
    need (decide ((↑(UInt8.toNat (by8 n15)) : Int) < (256 : Int))) <|
    need (decide ((↑(UInt8.toNat (UInt8.ofNat (Int.toNat (↑(UInt8.toNat (by8 (PS.mk' (Prod.fst (withinS s n15))))) : Int)))) : Int) < (256 : Int))) <|
    need (decide ((↑(UInt8.toNat (UInt8.ofNat (Int.toNat (↑(UInt8.toNat (by8 n15)) : Int)))) : Int) < (256 : Int))) <|
    need (gTk ((3 : Int), (0 : Int), UInt8.ofNat (Int.toNat (↑(UInt8.toNat (UInt8.ofNat (Int.toNat (↑(UInt8.toNat (by8 (PS.mk' (Prod.fst (withinS s n15))))) : Int)))) : Int)), allF (PS.l (Prod.fst (withinS s n15))), PS.inter (Prod.fst (withinS s n15)), UInt8.ofNat (Int.toNat (↑(UInt8.toNat (UInt8.ofNat (Int.toNat (↑(UInt8.toNat (by8 n15)) : Int)))) : Int)), [], PUnit.unit)) <|
    need (decide (List.length (t ++ Prod.snd (withinS s n15)) ≤ (1000 : Nat))) <|
    need (decide (List.length (PS.l (Prod.fst (withinS s n15))) = (289 : Nat))) <|
    some (psD ⟨List.replicate (289 : Nat) (0 : Int), [], [], PS.c (Prod.fst (withinS s n15)), PS.lf (Prod.fst (withinS s n15)), PS.gt (Prod.fst (withinS s n15)), PS.lo (Prod.fst (withinS s n15)), PS.hi (Prod.fst (withinS s n15)), (0 : Int), (0 : Int), true, (0 : Int), false, false⟩ (t ++ Prod.snd (withinS s n15) ++ [((3 : Int), (0 : Int), UInt8.ofNat (Int.toNat (↑(UInt8.toNat (UInt8.ofNat (Int.toNat (↑(UInt8.toNat (by8 (PS.mk' (Prod.fst (withinS s n15))))) : Int)))) : Int)), allF (PS.l (Prod.fst (withinS s n15))), PS.inter (Prod.fst (withinS s n15)), UInt8.ofNat (Int.toNat (↑(UInt8.toNat (UInt8.ofNat (Int.toNat (↑(UInt8.toNat (by8 n15)) : Int)))) : Int)), [], PUnit.unit)]))
   else
    need (decide (List.length (PS.l (Prod.fst (withinS s n15))) = (289 : Nat))) <|
    some (psD ⟨List.replicate (289 : Nat) (0 : Int), [], [], PS.c (Prod.fst (withinS s n15)), PS.lf (Prod.fst (withinS s n15)), PS.gt (Prod.fst (withinS s n15)), PS.lo (Prod.fst (withinS s n15)), PS.hi (Prod.fst (withinS s n15)), (0 : Int), (0 : Int), true, (0 : Int), false, false⟩ (t ++ Prod.snd (withinS s n15)))
  else
   bif (decide ((64 : Int) ≤ n15)) then
    some (psD ⟨PS.l (Prod.fst (withinS s n15)), PS.inter (Prod.fst (withinS s n15)), PS.data (Prod.fst (withinS s n15)), PS.c (Prod.fst (withinS s n15)), PS.lf (Prod.fst (withinS s n15)), PS.gt (Prod.fst (withinS s n15)), PS.lo (Prod.fst (withinS s n15)), PS.hi (Prod.fst (withinS s n15)), (4 : Int), PS.mk' (Prod.fst (withinS s n15)), PS.fst (Prod.fst (withinS s n15)), n15, PS.sp (Prod.fst (withinS s n15)), PS.en (Prod.fst (withinS s n15))⟩ (t ++ Prod.snd (withinS s n15)))
   else
    bif (decide (n15 ≤ (59 : Int)) && (↑(List.length (PS.inter (Prod.fst (withinS s n15)))) : Int) == (0 : Int)) then
     need (gR (PS.l (Prod.fst (withinS s n15)))) <|
     some (psD ⟨byF (PS.l (Prod.fst (withinS s n15))) n15, PS.inter (Prod.fst (withinS s n15)), PS.data (Prod.fst (withinS s n15)), PS.c (Prod.fst (withinS s n15)), PS.lf (Prod.fst (withinS s n15)), PS.gt (Prod.fst (withinS s n15)), PS.lo (Prod.fst (withinS s n15)), PS.hi (Prod.fst (withinS s n15)), PS.st (Prod.fst (withinS s n15)), PS.mk' (Prod.fst (withinS s n15)), false, PS.fin (Prod.fst (withinS s n15)), PS.sp (Prod.fst (withinS s n15)), PS.en (Prod.fst (withinS s n15))⟩ (t ++ Prod.snd (withinS s n15)))
    else
     bif (decide ((60 : Int) ≤ n15) && PS.fst (Prod.fst (withinS s n15))) then
      some (psD ⟨PS.l (Prod.fst (withinS s n15)), PS.inter (Prod.fst (withinS s n15)), PS.data (Prod.fst (withinS s n15)), PS.c (Prod.fst (withinS s n15)), PS.lf (Prod.fst (withinS s n15)), PS.gt (Prod.fst (withinS s n15)), PS.lo (Prod.fst (withinS s n15)), PS.hi (Prod.fst (withinS s n15)), PS.st (Prod.fst (withinS s n15)), n15, false, PS.fin (Prod.fst (withinS s n15)), PS.sp (Prod.fst (withinS s n15)), PS.en (Prod.fst (withinS s n15))⟩ (t ++ Prod.snd (withinS s n15)))
     else
      some (psD ⟨PS.l (Prod.fst (withinS s n15)), PS.inter (Prod.fst (withinS s n15)), PS.data (Prod.fst (withinS s n15)), PS.c (Prod.fst (withinS s n15)), PS.lf (Prod.fst (withinS s n15)), PS.gt (Prod.fst (withinS s n15)), PS.lo (Prod.fst (withinS s n15)), PS.hi (Prod.fst (withinS s n15)), PS.st (Prod.fst (withinS s n15)), PS.mk' (Prod.fst (withinS s n15)), false, PS.fin (Prod.fst (withinS s n15)), true, PS.en (Prod.fst (withinS s n15))⟩ (t ++ Prod.snd (withinS s n15)))) := by kernel_rfl

end Go.Proofs.Ytfdhkpfkdcdloaa

namespace Go.Proofs.Ytfdhkpfkdcdloaa
open Go Go.Am

theorem within_true {s : PS} {b : Int} (h : withinB b = true) : withinS s b = (s, []) := by
 unfold withinB at h
 rw [Bool.and_eq_true, decide_eq_true_eq, decide_eq_true_eq] at h
 unfold withinS
 rw [if_neg (by omega), if_neg (by omega), if_neg (by omega), if_neg (by omega)]
theorem es_ok (s : PS) (t : List Tk) (b : Int) (hs : PI s) (hb : is8 b = true) (h : t.length ≤ 500) : fnM SEs loopY Es_pre Es_post 0 47 (psD s t ++ [⟨.int .u8, b⟩]) = some (psD (onEscS s b).1 (t ++ (onEscS s b).2)) := by
 have g0 := gP_iff.2 hs
 have g1 := hs.len
 have hww := fun h => within_true (s := s) (b := b) h
 obtain ⟨l, it, d, c, lf, gt, lo, hi, st, mk', fst, fin, sp, en⟩ := s
 obtain ⟨b1, b2⟩ := is8_at hb
 have g1 : l.length = 289 := g1
 refine (Es_fn 0 ⟨l, it, d, c, lf, gt, lo, hi, st, mk', fst, fin, sp, en⟩ t  b).trans ?_
 refine np g0 (np hb (nd (by omega) ?_))
 unfold onEscS
 cases hw : withinB b with
 | false =>
  rw [if_neg (by simp)]
  exact bp rfl rfl
 | true =>
  rw [if_pos rfl]
  refine bn rfl ?_
  simp only [hww hw, List.append_nil]
  unfold escS
  by_cases k0 : b = 91
  ·rw [show begOf b = some 2 by unfold begOf; simp [k0]]
   refine bp (by rw [k0]; rfl) ?_
   cases fst with
   | true =>
    refine bp rfl (nd g1 ?_)
    rw [List.append_nil]
    rfl
   | false =>
    refine bn rfl ?_
    have hn : ¬ (en = true ∧ b = 92) := by omega
    cases sp with
    | true =>
     refine bn rfl (nd g1 ?_)
     rw [if_pos rfl, List.append_nil]
     rfl
    | false =>
     rw [if_neg (by simp), if_neg hn]
     refine bp (by simp; omega) (nd b1 (nd b2 (nd (by8_lt _) (nd (by omega) (nd g1 ?_)))))
     simp only [u8_b2]
     rfl
  refine bn (by simpa using k0) ?_
  by_cases k1 : b = 80
  ·rw [show begOf b = some 3 by unfold begOf; simp [k1]]
   refine bp (by rw [k1]; rfl) ?_
   cases fst with
   | true =>
    refine bp rfl (nd g1 ?_)
    rw [List.append_nil]
    rfl
   | false =>
    refine bn rfl ?_
    have hn : ¬ (en = true ∧ b = 92) := by omega
    cases sp with
    | true =>
     refine bn rfl (nd g1 ?_)
     rw [if_pos rfl, List.append_nil]
     rfl
    | false =>
     rw [if_neg (by simp), if_neg hn]
     refine bp (by simp; omega) (nd b1 (nd b2 (nd (by8_lt _) (nd (by omega) (nd g1 ?_)))))
     simp only [u8_b2]
     rfl
  refine bn (by simpa using k1) ?_
  by_cases k2 : b = 93
  ·rw [show begOf b = some 5 by unfold begOf; simp [k2]]
   refine bp (by rw [k2]; rfl) ?_
   cases fst with
   | true =>
    refine bp rfl (nd g1 ?_)
    rw [List.append_nil]
    rfl
   | false =>
    refine bn rfl ?_
    have hn : ¬ (en = true ∧ b = 92) := by omega
    cases sp with
    | true =>
     refine bn rfl (nd g1 ?_)
     rw [if_pos rfl, List.append_nil]
     rfl
    | false =>
     rw [if_neg (by simp), if_neg hn]
     refine bp (by simp; omega) (nd b1 (nd b2 (nd (by8_lt _) (nd (by omega) (nd g1 ?_)))))
     simp only [u8_b2]
     rfl
  refine bn (by simpa using k2) ?_
  by_cases k3 : b = 88
  ·rw [show begOf b = some 6 by unfold begOf; simp [k3]]
   refine bp (by rw [k3]; rfl) ?_
   cases fst with
   | true =>
    refine bp rfl (nd g1 ?_)
    rw [List.append_nil]
    rfl
   | false =>
    refine bn rfl ?_
    have hn : ¬ (en = true ∧ b = 92) := by omega
    cases sp with
    | true =>
     refine bn rfl (nd g1 ?_)
     rw [if_pos rfl, List.append_nil]
     rfl
    | false =>
     rw [if_neg (by simp), if_neg hn]
     refine bp (by simp; omega) (nd b1 (nd b2 (nd (by8_lt _) (nd (by omega) (nd g1 ?_)))))
     simp only [u8_b2]
     rfl
  refine bn (by simpa using k3) ?_
  by_cases k4 : b = 94
  ·rw [show begOf b = some 6 by unfold begOf; simp [k4]]
   refine bp (by rw [k4]; rfl) ?_
   cases fst with
   | true =>
    refine bp rfl (nd g1 ?_)
    rw [List.append_nil]
    rfl
   | false =>
    refine bn rfl ?_
    have hn : ¬ (en = true ∧ b = 92) := by omega
    cases sp with
    | true =>
     refine bn rfl (nd g1 ?_)
     rw [if_pos rfl, List.append_nil]
     rfl
    | false =>
     rw [if_neg (by simp), if_neg hn]
     refine bp (by simp; omega) (nd b1 (nd b2 (nd (by8_lt _) (nd (by omega) (nd g1 ?_)))))
     simp only [u8_b2]
     rfl
  refine bn (by simpa using k4) ?_
  by_cases k5 : b = 95
  ·rw [show begOf b = some 6 by unfold begOf; simp [k5]]
   refine bp (by rw [k5]; rfl) ?_
   cases fst with
   | true =>
    refine bp rfl (nd g1 ?_)
    rw [List.append_nil]
    rfl
   | false =>
    refine bn rfl ?_
    have hn : ¬ (en = true ∧ b = 92) := by omega
    cases sp with
    | true =>
     refine bn rfl (nd g1 ?_)
     rw [if_pos rfl, List.append_nil]
     rfl
    | false =>
     rw [if_neg (by simp), if_neg hn]
     refine bp (by simp; omega) (nd b1 (nd b2 (nd (by8_lt _) (nd (by omega) (nd g1 ?_)))))
     simp only [u8_b2]
     rfl
  refine bn (by simpa using k5) ?_
  rw [show begOf b = none by unfold begOf; rw [if_neg k0, if_neg k1, if_neg k2, if_neg k3, if_neg k4, if_neg k5]]
  cases sp with
  | true =>
   refine bn rfl (nd g1 ?_)
   cases fst <;> rw [if_pos rfl, List.append_nil] <;> rfl
  | false =>
   by_cases hn : en = true ∧ b = 92
   ·refine bn (by simp [hn.1, hn.2]) (nd g1 ?_)
    cases fst <;> rw [if_neg (by simp), if_pos hn, List.append_nil] <;> rfl
   ·refine bp (by cases en with | true => simpa using hn | false => rfl) (nd b1 (nd b2 (nd (by8_lt _) (nd (by omega) (nd g1 ?_)))))
    simp only [u8_b2]
    cases fst <;> rw [if_neg (by simp), if_neg hn] <;> rfl
noncomputable def cEs : CtrM := cB Es_pre Es_post (fun s b t => [gP s, is8 b, decide (t.length ≤ 500)]) onEscS
theorem cEs_ok : CtrMOk EP 47 cEs := ctrM_ok (S := SEs) (S_ok c3_ok m12_ok) rfl rfl rfl rfl fun ds gs ds' hr hg => by
 obtain ⟨s, t, b, rfl, rfl, rfl⟩ := cB_res hr
 simp only [List.all_cons, id, Bool.and_eq_true, List.all_nil, decide_eq_true_eq] at hg
 exact ⟨0, es_ok s t b (gP_iff.1 hg.1) hg.2.1 hg.2.2.1⟩

theorem he_ok (s : PS) (t : List Tk) (b : Int) (hs : PI s) (hb : is8 b = true) (h : t.length ≤ 500) : fnM SHe loopY He_pre He_post 0 48 (psD s t ++ [⟨.int .u8, b⟩]) = some (psD (onHeadS s b).1 (t ++ (onHeadS s b).2)) := by
 have g0 := gP_iff.2 hs
 have g1 := hs.len
 have g2 := hs.g0
 have g3 := hs.m8
 have g4 := hs.tok
 have g5 : gR s.l = true := gR_iff.2 hs.l
 have hww := fun h => within_true (s := s) (b := b) h
 obtain ⟨l, it, d, c, lf, gt, lo, hi, st, mk', fst, fin, sp, en⟩ := s
 obtain ⟨b1, b2⟩ := is8_at hb
 have g1 : l.length = 289 := g1
 refine (He_fn 0 ⟨l, it, d, c, lf, gt, lo, hi, st, mk', fst, fin, sp, en⟩ t  b).trans ?_
 refine np g0 (np hb (nd (by omega) ?_))
 unfold onHeadS
 cases hw : withinB b with
 | false =>
  rw [if_neg (by simp)]
  exact bp rfl rfl
 | true =>
  rw [if_pos rfl]
  refine bn rfl ?_
  simp only [hww hw, List.append_nil]
  unfold headS
  by_cases k1 : 64 ≤ b
  ·rw [if_pos k1]
   by_cases k2 : st = 2
   ·rw [if_pos k2]
    refine bp (by simp [k1, k2]) ?_
    cases sp with
    | true =>
     refine bn rfl (nd g1 ?_)
     rw [if_pos rfl, List.append_nil]
     rfl
    | false =>
     rw [if_neg (by simp)]
     refine bp rfl (np g2 (np g3 (np hb (nd (by8_lt _) (nd (by8_lt _) ?_)))))
     simp only [u8_b2]
     exact nd (by8_lt _) (nd (by8_lt _) (np g4 (nd (by omega) (nd g1 rfl))))
   ·rw [if_neg k2, List.append_nil]
    exact bn (by simp [k2]) (bpd k1 rfl)
  ·rw [if_neg k1]
   refine bn (by simp [k1]) (bnd k1 ?_)
   by_cases k3 : b ≤ 59 ∧ it.length = 0
   ·rw [if_pos k3, List.append_nil]
    exact bp (by simp only [Bool.and_eq_true, decide_eq_true_eq, beq_iff_eq]; omega) (np g5 rfl)
   ·rw [if_neg k3]
    refine bn (by rw [← Bool.not_eq_true]; simp only [Bool.and_eq_true, decide_eq_true_eq, beq_iff_eq]; omega) ?_
    by_cases k4 : 60 ≤ b ∧ fst = true
    ·rw [if_pos k4, List.append_nil]
     exact bp (by simpa using k4) rfl
    ·rw [if_neg k4, List.append_nil]
     exact bn (by rw [← Bool.not_eq_true]; simpa using k4) rfl
noncomputable def cHe : CtrM := cB He_pre He_post (fun s b t => [gP s, is8 b, decide (t.length ≤ 500)]) onHeadS
theorem cHe_ok : CtrMOk EP 48 cHe := ctrM_ok (S := SHe) (S_ok c3_ok m12_ok) rfl rfl rfl rfl fun ds gs ds' hr hg => by
 obtain ⟨s, t, b, rfl, rfl, rfl⟩ := cB_res hr
 simp only [List.all_cons, id, Bool.and_eq_true, List.all_nil, decide_eq_true_eq] at hg
 exact ⟨0, he_ok s t b (gP_iff.1 hg.1) hg.2.1 hg.2.2.1⟩
noncomputable def m13 : FuncId → List CtrM := addM (addM m12 47 cEs) 48 cHe
theorem m13_ok : ∀ g ct, ct ∈ m13 g → CtrMOk EP g ct := addM_ok (addM_ok m12_ok cEs_ok) cHe_ok
end Go.Proofs.Ytfdhkpfkdcdloaa

namespace Go.Proofs.Ytfdhkpfkdcdloaa
open Go Go.Am
set_option linter.unusedVariables false
def Pu_pre : Tm := { tmps := [(0, .ptr 0 0), (1, .hole (.int .u8))], objs := [.cells [.hole (.int .i32), .hole (.int .u8), .hole (.int .u8), .hole (.int .u8), .hole (.int .u8), .hole (.int .i64), .ptr 1 0, .hole (.int .u8), .h 2, .hole .bool, .hole (.int .u8), .h 3, .hole .bool, .hole .bool] 56 true, .row 71 (.int .i64) true, .lst 5 .byte true, .lst 5 .byte true] }
def Pu_post : Tm := { tmps := [(0, .hole (.list 41 tokTy))], objs := [.cells [.hole (.int .i32), .hole (.int .u8), .hole (.int .u8), .hole (.int .u8), .hole (.int .u8), .hole (.int .i64), .ptr 1 0, .hole (.int .u8), .h 2, .hole .bool, .hole (.int .u8), .h 3, .hole .bool, .hole .bool] 56 true, .row 71 (.int .i64) true, .lst 5 .byte true, .lst 5 .byte true], prepO := [(0, 8, 2, 5), (0, 11, 3, 5)] }
def tmPu : FuncId → Nat → Option Tm := fun g i => match Nat.beq g 10 with
 | true => none
 | false => none
noncomputable def SPu : SE := { E := EP, ctr := c3, tm := tmPu, un := 300, hold := [0, 1], ctrM := m13 }
theorem Pu_fn (n : Nat) (s : PS) (n14 : Int) :
 fnM SPu loopY Pu_pre Pu_post n 10 (psD0 s ++ [⟨(.int .u8), n14⟩]) =
 (bif (n14 == (24 : Int)) then
  bif (n14 == (24 : Int)) then
   need (decide (List.length s.l = (289 : Nat))) <|
   some (psD0 ⟨List.replicate (289 : Nat) (0 : Int), [], [], (0 : Int), (0 : Int), (0 : Int), (0 : Int), (0 : Int), (0 : Int), (0 : Int), true, (0 : Int), false, false⟩ ++ [⟨(.list 41 tokTy), ([] ++ endT s : List Tk)⟩])
  else
   bif (n14 == (27 : Int)) then
    need (gP ⟨s.l, s.inter, s.data, (0 : Int), (0 : Int), (0 : Int), (0 : Int), (0 : Int), s.st, s.mk', s.fst, s.fin, s.sp, s.en⟩) <|
    need (decide (List.length ([] ++ endT s) ≤ (900 : Nat))) <|
    need (decide (List.length s.l = (289 : Nat))) <|
    some (psD0 ⟨List.replicate (289 : Nat) (0 : Int), [], [], (0 : Int), (0 : Int), (0 : Int), (0 : Int), (0 : Int), (1 : Int), (0 : Int), true, (0 : Int), false, decide ((4 : Int) ≤ s.st)⟩ ++ [⟨(.list 41 tokTy), ([] ++ endT s ++ doneT ⟨s.l, s.inter, s.data, (0 : Int), (0 : Int), (0 : Int), (0 : Int), (0 : Int), s.st, s.mk', s.fst, s.fin, s.sp, s.en⟩ : List Tk)⟩])
   else
    bif (decide (s.st = (0 : Int))) then
     need (is8 n14) <|
     some (psD0 (Prod.fst (onGroundS s n14)) ++ [⟨(.list 41 tokTy), ([] ++ Prod.snd (onGroundS s n14) : List Tk)⟩])
    else
     bif (decide (s.st = (1 : Int))) then
      need (gP s) <|
      need (is8 n14) <|
      some (psD0 (Prod.fst (onEscS s n14)) ++ [⟨(.list 41 tokTy), ([] ++ Prod.snd (onEscS s n14) : List Tk)⟩])
     else
      bif (decide (s.st = (2 : Int))) then
       need (gP s) <|
       need (is8 n14) <|
       some (psD0 (Prod.fst (onHeadS s n14)) ++ [⟨(.list 41 tokTy), ([] ++ Prod.snd (onHeadS s n14) : List Tk)⟩])
      else
       bif (decide (s.st = (3 : Int))) then
        need (gP s) <|
        need (is8 n14) <|
        some (psD0 (Prod.fst (onHeadS s n14)) ++ [⟨(.list 41 tokTy), ([] ++ Prod.snd (onHeadS s n14) : List Tk)⟩])
       else
        bif (decide (s.st = (4 : Int))) then
         need (gP s) <|
         need (is8 n14) <|
         some (psD0 (Prod.fst (onDataS s n14)) ++ [⟨(.list 41 tokTy), ([] ++ Prod.snd (onDataS s n14) : List Tk)⟩])
        else
         bif (decide (s.st = (5 : Int))) then
          need (gP s) <|
          need (is8 n14) <|
          some (psD0 (Prod.fst (onDataS s n14)) ++ [⟨(.list 41 tokTy), ([] ++ Prod.snd (onDataS s n14) : List Tk)⟩])
         else
          need (decide (s.st = (6 : Int))) <|
          need (gP s) <|
          need (is8 n14) <|
          some (psD0 (Prod.fst (onDataS s n14)) ++ [⟨(.list 41 tokTy), ([] ++ Prod.snd (onDataS s n14) : List Tk)⟩])
 else
  bif (n14 == (26 : Int)) then
   need (decide (List.length s.l = (289 : Nat))) <|
   some (psD0 ⟨List.replicate (289 : Nat) (0 : Int), [], [], (0 : Int), (0 : Int), (0 : Int), (0 : Int), (0 : Int), (0 : Int), (0 : Int), true, (0 : Int), false, false⟩ ++ [⟨(.list 41 tokTy), ([] ++ endT s : List Tk)⟩])
  else
   bif (n14 == (27 : Int)) then
    need (gP ⟨s.l, s.inter, s.data, (0 : Int), (0 : Int), (0 : Int), (0 : Int), (0 : Int), s.st, s.mk', s.fst, s.fin, s.sp, s.en⟩) <|
    need (decide (List.length ([] ++ endT s) ≤ (900 : Nat))) <|
    need (decide (List.length s.l = (289 : Nat))) <|
    some (psD0 ⟨List.replicate (289 : Nat) (0 : Int), [], [], (0 : Int), (0 : Int), (0 : Int), (0 : Int), (0 : Int), (1 : Int), (0 : Int), true, (0 : Int), false, decide ((4 : Int) ≤ s.st)⟩ ++ [⟨(.list 41 tokTy), ([] ++ endT s ++ doneT ⟨s.l, s.inter, s.data, (0 : Int), (0 : Int), (0 : Int), (0 : Int), (0 : Int), s.st, s.mk', s.fst, s.fin, s.sp, s.en⟩ : List Tk)⟩])
   else
    bif (decide (s.st = (0 : Int))) then
     need (is8 n14) <|
     some (psD0 (Prod.fst (onGroundS s n14)) ++ [⟨(.list 41 tokTy), ([] ++ Prod.snd (onGroundS s n14) : List Tk)⟩])
    else
     bif (decide (s.st = (1 : Int))) then
      need (gP s) <|
      need (is8 n14) <|
      some (psD0 (Prod.fst (onEscS s n14)) ++ [⟨(.list 41 tokTy), ([] ++ Prod.snd (onEscS s n14) : List Tk)⟩])
     else
      bif (decide (s.st = (2 : Int))) then
       need (gP s) <|
       need (is8 n14) <|
       some (psD0 (Prod.fst (onHeadS s n14)) ++ [⟨(.list 41 tokTy), ([] ++ Prod.snd (onHeadS s n14) : List Tk)⟩])
      else
       bif (decide (s.st = (3 : Int))) then
        need (gP s) <|
        need (is8 n14) <|
        some (psD0 (Prod.fst (onHeadS s n14)) ++ [⟨(.list 41 tokTy), ([] ++ Prod.snd (onHeadS s n14) : List Tk)⟩])
       else
        bif (decide (s.st = (4 : Int))) then
         need (gP s) <|
         need (is8 n14) <|
         some (psD0 (Prod.fst (onDataS s n14)) ++ [⟨(.list 41 tokTy), ([] ++ Prod.snd (onDataS s n14) : List Tk)⟩])
        else
         bif (decide (s.st = (5 : Int))) then
          need (gP s) <|
          need (is8 n14) <|
          some (psD0 (Prod.fst (onDataS s n14)) ++ [⟨(.list 41 tokTy), ([] ++ Prod.snd (onDataS s n14) : List Tk)⟩])
         else
          need (decide (s.st = (6 : Int))) <|
          need (gP s) <|
          need (is8 n14) <|
          some (psD0 (Prod.fst (onDataS s n14)) ++ [⟨(.list 41 tokTy), ([] ++ Prod.snd (onDataS s n14) : List Tk)⟩])) := by kernel_rfl

end Go.Proofs.Ytfdhkpfkdcdloaa

namespace Go.Proofs.Ytfdhkpfkdcdloaa
open Go Go.Am

structure PO (r : PS × List Tk) : Prop where
 s : PI r.1
 t : ∀ x ∈ r.2, gTk x = true
 n : r.2.length ≤ 4
theorem PI.begin {s : PS} {k : Int} (h : 0 ≤ k ∧ k ≤ 6) : PI (beginS s k) :=
 ⟨⟨[], rep_nil⟩, Nat.zero_le 2, Nat.zero_le 1024, h, ⟨Int.le_refl 0, (by decide : (0 : Int) < 256)⟩, ⟨Int.le_refl 0, (by decide : (0 : Int) < 256)⟩⟩
theorem PI.flush {s : PS} (h : PI s) : PI (flushS s) := ⟨h.l, h.inter, h.data, h.st, h.mk', h.fin⟩
theorem PI.putD {s : PS} (h : PI s) (q : DR) : PI (putD s q) := ⟨h.l, h.inter, h.data, h.st, h.mk', h.fin⟩
theorem texts_ok {l : List Int} : ∀ x ∈ texts l, gTk x = true := by
 intro x hx
 obtain ⟨r, _, rfl⟩ := List.mem_map.1 hx
 rfl
theorem texts_len (l : List Int) : (texts l).length ≤ l.length := by
 unfold texts
 rw [List.length_map]
 exact List.length_filter_le _ _
theorem endT_len (s : PS) : (endT s).length ≤ 1 := Nat.le_trans (texts_len _) (endR_len _)
theorem doneT_ok {s : PS} (h : PI s) : (∀ x ∈ doneT s, gTk x = true) ∧ (doneT s).length ≤ 1 := by
 unfold doneT
 split
 ·simp
 split
 ·refine ⟨fun x hx => ?_, by simp⟩
  rw [List.mem_singleton.1 hx]; rfl
 split
 ·refine ⟨fun x hx => ?_, by simp⟩
  rw [List.mem_singleton.1 hx]
  exact h.tok
 ·simp
theorem PO.none {s : PS} (h : PI s) : PO (s, []) := ⟨h, by simp, by simp⟩
theorem PO.one {s : PS} {x : Tk} (h : PI s) (hx : gTk x = true) : PO (s, [x]) := ⟨h, fun y hy => by rw [List.mem_singleton.1 hy]; exact hx, by simp⟩
theorem ground_ok {s : PS} {b : Int} (h : PI s) : PO (onGroundS s b) := by
 unfold onGroundS
 split
 ·refine ⟨h.putD _, texts_ok, ?_⟩
  have h1 := texts_len (decS s b).r
  have h2 : (decS s b).r.length ≤ 2 := decP_len _ _ _ _ _ _
  show (texts (decS s b).r).length ≤ 4
  omega
 ·refine ⟨h.flush, fun x hx => ?_, ?_⟩
  ·rcases List.mem_append.1 hx with hx | hx
   ·exact texts_ok x hx
   ·split at hx
    ·cases hx
    ·rw [List.mem_singleton.1 hx]; rfl
  ·have := endT_len s
   simp only [List.length_append]
   split <;> simp <;> omega
theorem inter_ok {s : PS} {b : Int} (h : PI s) : PI (interS s b) := by
 unfold interS
 split
 ·exact ⟨h.l, h.inter, h.data, h.st, h.mk', h.fin⟩
 ·rename_i hc
  refine ⟨h.l, ?_, h.data, h.st, h.mk', h.fin⟩
  have h1 := h.inter
  simp only [Bool.or_eq_true, decide_eq_true_eq, not_or] at hc
  simp only [List.length_append, List.length_singleton]
  omega
theorem withinS_ok {s : PS} {b : Int} (h : PI s) : PO (withinS s b) := by
 unfold withinS
 split
 ·exact .one h rfl
 split
 ·exact .none h
 split
 ·exact ground_ok (PI.begin ⟨by omega, by omega⟩)
 split
 ·exact .none (inter_ok h)
 ·exact .none h
theorem escS_ok {s : PS} {b : Int} : PO (escS s b) := by
 unfold escS
 split
 ·rename_i k _ hk
  refine .none (PI.begin ?_)
  unfold begOf at hk
  split at hk
  ·cases hk; omega
  split at hk
  ·cases hk; omega
  split at hk
  ·cases hk; omega
  split at hk
  ·cases hk; omega
  split at hk
  ·cases hk; omega
  split at hk
  ·cases hk; omega
  ·cases hk
 ·split
  ·exact .none (PI.begin ⟨by omega, by omega⟩)
  split
  ·exact .none (PI.begin ⟨by omega, by omega⟩)
  ·exact .one (PI.begin ⟨by omega, by omega⟩) rfl
theorem headS_ok {s : PS} {b : Int} (h : PI s) (hb : is8 b = true) (hw : withinB b = true) : PO (headS s b) := by
 unfold headS
 obtain ⟨b1, b2⟩ := is8_at hb
 split
 ·split
  ·split
   ·exact .none (PI.begin ⟨by omega, by omega⟩)
   ·exact .one (PI.begin ⟨by omega, by omega⟩) h.tok
  ·exact .none ⟨h.l, h.inter, h.data, by simp, h.mk', ⟨b1, b2⟩⟩
 split
 ·rename_i h1 h2
  refine .none ⟨?_, h.inter, h.data, h.st, h.mk', h.fin⟩
  obtain ⟨T, hT⟩ := h.l
  refine ⟨_, hT.byte ?_⟩
  unfold withinB at hw
  simp only [Bool.and_eq_true, decide_eq_true_eq] at hw
  unfold isC
  simp only [Bool.not_eq_true', Bool.or_eq_false_iff, decide_eq_false_iff_not]
  omega
 split
 ·exact .none ⟨h.l, h.inter, h.data, h.st, ⟨b1, b2⟩, h.fin⟩
 ·exact .none ⟨h.l, h.inter, h.data, h.st, h.mk', h.fin⟩
theorem onDataS_ok {s : PS} {b : Int} (h : PI s) : PO (onDataS s b) := by
 unfold onDataS
 split
 ·obtain ⟨h1, h2⟩ := doneT_ok h
  exact ⟨PI.begin ⟨by omega, by omega⟩, h1, Nat.le_trans h2 (by omega)⟩
 split
 ·exact .none h
 split
 ·exact .none ⟨h.l, h.inter, h.data, h.st, h.mk', h.fin⟩
 split
 ·exact .none h
 ·refine .none ⟨h.l, h.inter, ?_, h.st, h.mk', h.fin⟩
  rename_i h1 _
  have := h.data
  simp only [List.length_append, List.length_singleton]
  omega
theorem push_ok {s : PS} {b : Int} (h : PI s) (hb : is8 b = true) : PO (pushS s b) := by
 unfold pushS
 split
 ·exact ⟨PI.begin ⟨by omega, by omega⟩, texts_ok, Nat.le_trans (endT_len s) (by omega)⟩
 split
 ·obtain ⟨h1, h2⟩ := doneT_ok h.flush
  have h3 := PI.begin (s := flushS s) (k := 1) ⟨by omega, by omega⟩
  refine ⟨⟨h3.l, h3.inter, h3.data, h3.st, h3.mk', h3.fin⟩, fun x hx => ?_, ?_⟩
  ·rcases List.mem_append.1 hx with hx | hx
   ·exact texts_ok x hx
   ·exact h1 x hx
  ·have := endT_len s
   simp only [List.length_append]
   omega
 split
 ·exact ground_ok h
 split
 ·unfold onEscS
  split
  ·exact escS_ok
  ·exact withinS_ok h
 split
 ·unfold onHeadS
  split
  ·rename_i hw
   exact headS_ok h hb hw
  ·exact withinS_ok h
 ·exact onDataS_ok h

theorem pu_ok (s : PS) (b : Int) (hs : PI s) (hb : is8 b = true) : fnM SPu loopY Pu_pre Pu_post 0 10 (psD0 s ++ [⟨.int .u8, b⟩]) = some (psD0 (pushS s b).1 ++ [⟨.list 41 tokTy, (pushS s b).2⟩]) := by
 have g0 := gP_iff.2 hs
 have g1 := hs.len
 have g2 := gP_iff.2 hs.flush
 have g3 := endT_len s
 have g4 := hs.st
 obtain ⟨l, it, d, c, lf, gt, lo, hi, st, mk', fst, fin, sp, en⟩ := s
 have g1 : l.length = 289 := g1
 have g4 : 0 ≤ st ∧ st ≤ 6 := g4
 refine (Pu_fn 0 ⟨l, it, d, c, lf, gt, lo, hi, st, mk', fst, fin, sp, en⟩ b).trans ?_
 dsimp only
 unfold pushS
 by_cases k1 : b = 24
 ·rw [if_pos (.inl k1)]
  exact bp (by simpa using k1) (bp (by simpa using k1) (nd g1 rfl))
 refine bn (by simpa using k1) ?_
 by_cases k2 : b = 26
 ·rw [if_pos (.inr k2)]
  exact bp (by simpa using k2) (nd g1 rfl)
 rw [if_neg (by omega)]
 refine bn (by simpa using k2) ?_
 by_cases k3 : b = 27
 ·rw [if_pos k3]
  refine bp (by simpa using k3) (np g2 (nd (Nat.le_trans g3 (by omega)) (nd g1 ?_)))
  rfl
 rw [if_neg k3]
 refine bn (by simpa using k3) ?_
 by_cases h0 : st = 0
 ·rw [if_pos h0]
  exact bpd h0 (np hb rfl)
 rw [if_neg h0]
 refine bnd h0 ?_
 by_cases h1 : st = 1
 ·rw [if_pos h1]
  exact bpd h1 (np g0 (np hb rfl))
 rw [if_neg h1]
 refine bnd h1 ?_
 by_cases h2 : st = 2
 ·rw [if_pos (.inl h2)]
  exact bpd h2 (np g0 (np hb rfl))
 refine bnd h2 ?_
 by_cases h3 : st = 3
 ·rw [if_pos (.inr h3)]
  exact bpd h3 (np g0 (np hb rfl))
 rw [if_neg (show ¬ (st = 2 ∨ st = 3) by omega)]
 refine bnd h3 ?_
 by_cases h4 : st = 4
 ·exact bpd h4 (np g0 (np hb rfl))
 refine bnd h4 ?_
 by_cases h5 : st = 5
 ·exact bpd h5 (np g0 (np hb rfl))
 exact bnd h5 (nd (by omega) (np g0 (np hb rfl)))
noncomputable def cPu : CtrM := { pre := Pu_pre, post := Pu_post, res := fun ds => match popP ds with
 | some (s, ds) => match popD (.int .u8) ds with
  | some (b, []) => some ([gP s, is8 b], psD0 (pushS s b).1 ++ [⟨.list 41 tokTy, (pushS s b).2⟩])
  | _ => none
 | none => none }
theorem cPu_ok : CtrMOk EP 10 cPu := ctrM_ok (S := SPu) (S_ok c3_ok m13_ok) rfl rfl rfl rfl fun ds gs ds' hr hg => by
 simp only [cPu] at hr
 split at hr
 ·rename_i s ds h
  split at hr
  ·rename_i b h2
   cases hr
   rw [popP_eq h, popD_eq h2]
   simp only [List.all_cons, id, Bool.and_eq_true, List.all_nil] at hg
   exact ⟨0, pu_ok s b (gP_iff.1 hg.1) hg.2.1⟩
  ·cases hr
 ·cases hr
noncomputable def m14 : FuncId → List CtrM := addM m13 10 cPu
theorem m14_ok : ∀ g ct, ct ∈ m14 g → CtrMOk EP g ct := addM_ok m13_ok cPu_ok
end Go.Proofs.Ytfdhkpfkdcdloaa
