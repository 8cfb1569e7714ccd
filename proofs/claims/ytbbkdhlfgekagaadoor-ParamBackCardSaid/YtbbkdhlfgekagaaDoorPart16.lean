/-
  Texts of this session, one behind the other: PaLays, PaEnv, PaS0, PaG0, PaS, PaG1, PaC1, PaG2, PaC2, PaRep, PaG3, PaC3, PaG4, PaC4, PaG5, PaC5, PaC6, PaLaw, PaG7.
-/
import Derived.Test.YtbbkdhlfgekagaaDoorPart15
import Derived.Test.YtbbkdhlfgekagaaDoorProg
import Derived.Shelf.Strings.MapGrows
import Derived.Shelf.Strings.OnBuilder
import Derived.Shelf.Strconv.Itoa3
import Derived.KernelRfl
namespace Go.Proofs.YtbbkdhlfgekagaaDoor
open Go Go.Shelf
set_option maxRecDepth 100000
def ren : Ren where
  f := fun x => match x with
    | 118 => 24
    | 129 => 63
    | 156 => 32
    | 165 => 25
    | 166 => 26
    | 167 => 29
    | 168 => 27
    | 169 => 30
    | 171 => 33
    | 197 => 23
    | 230 => 7
    | 240 => 41
    | 241 => 42
    | 242 => 43
    | 243 => 44
    | 246 => 51
    | 260 => 40
    | 270 => 28
    | 276 => 48
    | 277 => 49
    | 278 => 50
    | 283 => 56
    | 284 => 57
    | 285 => 58
    | 286 => 59
    | 317 => 62
    | 318 => 64
    | 319 => 65
    | 320 => 66
    | 337 => 67
    | 338 => 68
    | n => n
  t := fun x => match x with
    | 0 => 0
    | 2 => 2
    | 3 => 3
    | 4 => 4
    | 5 => 5
    | 9 => 9
    | 20 => 20
    | 21 => 21
    | 31 => 63
    | 37 => 22
    | 46 => 85
    | 51 => 92
    | 53 => 96
    | 70 => 48
    | 72 => 50
    | 75 => 56
    | 76 => 57
    | 80 => 62
    | 105 => 51
    | 107 => 26
    | 119 => 84
    | 127 => 81
    | 138 => 87
    | 139 => 88
    | 164 => 89
    | 171 => 95
    | 173 => 99
    | 212 => 104
    | 213 => 105
    | 232 => 109
    | 233 => 110
    | n => n
  g := fun x => match x with
    | 3 => 1
    | 4 => 2
    | 17 => 3
    | 18 => 4
    | 19 => 5
    | n => n
theorem lays230 : Lays.n230 Tryd.prog ren :=
{ mixed := Eq.refl true, f118 := Eq.trans Tryd.func24 (congrArg some (Eq.refl (Body.n118 ren))),
  f165 := Eq.trans Tryd.func25 (congrArg some (Eq.refl (Body.n165 ren))),
  f166 := Eq.trans Tryd.func26 (congrArg some (Eq.refl (Body.n166 ren))),
  f167 := Eq.trans Tryd.func29 (congrArg some (Eq.refl (Body.n167 ren))),
  f168 := Eq.trans Tryd.func27 (congrArg some (Eq.refl (Body.n168 ren))),
  f169 := Eq.trans Tryd.func30 (congrArg some (Eq.refl (Body.n169 ren))),
  f197 := Eq.trans Tryd.func23 (congrArg some (Eq.refl (Body.n197 ren))),
  f230 := Eq.trans Tryd.func7 (congrArg some (Eq.refl (Body.n230 ren))),
  f240 := Eq.trans Tryd.func41 (congrArg some (Eq.refl (Body.n240 ren))),
  f241 := Eq.trans Tryd.func42 (congrArg some (Eq.refl (Body.n241 ren))),
  f242 := Eq.trans Tryd.func43 (congrArg some (Eq.refl (Body.n242 ren))),
  f260 := Eq.trans Tryd.func40 (congrArg some (Eq.refl (Body.n260 ren))),
  f270 := Eq.trans Tryd.func28 (congrArg some (Eq.refl (Body.n270 ren))),
  f276 := Eq.trans Tryd.func48 (congrArg some (Eq.refl (Body.n276 ren))),
  f277 := Eq.trans Tryd.func49 (congrArg some (Eq.refl (Body.n277 ren))),
  f278 := Eq.trans Tryd.func50 (congrArg some (Eq.refl (Body.n278 ren))), t0 := Tryd.underlying0,
  a0 := Tryd.isAgg0, z0 := Tryd.sizeOf0, v0 := Tryd.zeroValue0, t3 := Tryd.underlying3, a3 := Tryd.isAgg3,
  z3 := Tryd.sizeOf3, v3 := Tryd.zeroValue3, t4 := Tryd.underlying4, a4 := Tryd.isAgg4, z4 := Tryd.sizeOf4,
  v4 := Tryd.zeroValue4, t5 := Tryd.underlying5, a5 := Tryd.isAgg5, z5 := Tryd.sizeOf5, v5 := Tryd.zeroValue5,
  t9 := Tryd.underlying9, a9 := Tryd.isAgg9, z9 := Tryd.sizeOf9, v9 := Tryd.zeroValue9, t20 := Tryd.underlying20,
  a20 := Tryd.isAgg20, z20 := Tryd.sizeOf20, v20 := Tryd.zeroValue20, t21 := Tryd.underlying21, a21 := Tryd.isAgg21,
  z21 := Tryd.sizeOf21, v21 := Tryd.zeroValue21, t37 := Tryd.underlying22, a37 := Tryd.isAgg22, z37 := Tryd.sizeOf22,
  v37 := Tryd.zeroValue22, t46 := Tryd.underlying85, a46 := Tryd.isAgg85, z46 := Tryd.sizeOf85, v46 := Tryd.zeroValue85,
  t51 := Tryd.underlying92, a51 := Tryd.isAgg92, z51 := Tryd.sizeOf92, v51 := Tryd.zeroValue92,
  t70 := Tryd.underlying48, a70 := Tryd.isAgg48, z70 := Tryd.sizeOf48, v70 := Tryd.zeroValue48,
  t72 := Tryd.underlying50, a72 := Tryd.isAgg50, z72 := Tryd.sizeOf50, v72 := Tryd.zeroValue50,
  t75 := Tryd.underlying56, a75 := Tryd.isAgg56, z75 := Tryd.sizeOf56, v75 := Tryd.zeroValue56,
  t76 := Tryd.underlying57, a76 := Tryd.isAgg57, z76 := Tryd.sizeOf57, v76 := Tryd.zeroValue57,
  t105 := Tryd.underlying51, a105 := Tryd.isAgg51, z105 := Tryd.sizeOf51, v105 := Tryd.zeroValue51,
  t107 := Tryd.underlying26, a107 := Tryd.isAgg26, z107 := Tryd.sizeOf26, v107 := Tryd.zeroValue26,
  t119 := Tryd.underlying84, a119 := Tryd.isAgg84, z119 := Tryd.sizeOf84, t127 := Tryd.underlying81,
  a127 := Tryd.isAgg81, z127 := Tryd.sizeOf81, v127 := Tryd.zeroValue81, t138 := Tryd.underlying87,
  a138 := Tryd.isAgg87, z138 := Tryd.sizeOf87, v138 := Tryd.zeroValue87, t139 := Tryd.underlying88,
  a139 := Tryd.isAgg88, z139 := Tryd.sizeOf88, v139 := Tryd.zeroValue88, t164 := Tryd.underlying89,
  a164 := Tryd.isAgg89, z164 := Tryd.sizeOf89, v164 := Tryd.zeroValue89, g3 := by kernel_rfl,
  g4 := by kernel_rfl }
theorem lays156 : Lays.n156 Tryd.prog ren :=
{ mixed := Eq.refl true, f156 := Eq.trans Tryd.func32 (congrArg some (Eq.refl (Body.n156 ren))),
  f165 := Eq.trans Tryd.func25 (congrArg some (Eq.refl (Body.n165 ren))),
  f166 := Eq.trans Tryd.func26 (congrArg some (Eq.refl (Body.n166 ren))),
  f169 := Eq.trans Tryd.func30 (congrArg some (Eq.refl (Body.n169 ren))),
  f240 := Eq.trans Tryd.func41 (congrArg some (Eq.refl (Body.n240 ren))),
  f241 := Eq.trans Tryd.func42 (congrArg some (Eq.refl (Body.n241 ren))),
  f276 := Eq.trans Tryd.func48 (congrArg some (Eq.refl (Body.n276 ren))),
  f277 := Eq.trans Tryd.func49 (congrArg some (Eq.refl (Body.n277 ren))), t0 := Tryd.underlying0,
  a0 := Tryd.isAgg0, z0 := Tryd.sizeOf0, v0 := Tryd.zeroValue0, t3 := Tryd.underlying3, a3 := Tryd.isAgg3,
  z3 := Tryd.sizeOf3, v3 := Tryd.zeroValue3, t4 := Tryd.underlying4, a4 := Tryd.isAgg4, z4 := Tryd.sizeOf4,
  v4 := Tryd.zeroValue4, t9 := Tryd.underlying9, a9 := Tryd.isAgg9, z9 := Tryd.sizeOf9, v9 := Tryd.zeroValue9,
  t20 := Tryd.underlying20, a20 := Tryd.isAgg20, z20 := Tryd.sizeOf20, v20 := Tryd.zeroValue20,
  t31 := Tryd.underlying63, a31 := Tryd.isAgg63, z31 := Tryd.sizeOf63, v31 := Tryd.zeroValue63,
  t37 := Tryd.underlying22, a37 := Tryd.isAgg22, z37 := Tryd.sizeOf22, v37 := Tryd.zeroValue22,
  t70 := Tryd.underlying48, a70 := Tryd.isAgg48, z70 := Tryd.sizeOf48, v70 := Tryd.zeroValue48,
  t72 := Tryd.underlying50, a72 := Tryd.isAgg50, z72 := Tryd.sizeOf50, v72 := Tryd.zeroValue50,
  t75 := Tryd.underlying56, a75 := Tryd.isAgg56, z75 := Tryd.sizeOf56, v75 := Tryd.zeroValue56,
  t76 := Tryd.underlying57, a76 := Tryd.isAgg57, z76 := Tryd.sizeOf57, v76 := Tryd.zeroValue57,
  t127 := Tryd.underlying81, a127 := Tryd.isAgg81, z127 := Tryd.sizeOf81, v127 := Tryd.zeroValue81,
  t164 := Tryd.underlying89, a164 := Tryd.isAgg89, z164 := Tryd.sizeOf89, v164 := Tryd.zeroValue89 }
theorem lays171 : LaysM.n171 Tryd.prog ren :=
{ mixed := Eq.refl true, f129 := Eq.trans Tryd.func63 (congrArg some (Eq.refl (Body.n129 ren))),
  f171 := Eq.trans Tryd.func33 (congrArg some (Eq.refl (Body.n171 ren))),
  f243 := Eq.trans Tryd.func44 (congrArg some (Eq.refl (Body.n243 ren))),
  f246 := Eq.trans Tryd.func51 (congrArg some (Eq.refl (Body.n246 ren))),
  f283 := Eq.trans Tryd.func56 (congrArg some (Eq.refl (Body.n283 ren))),
  f284 := Eq.trans Tryd.func57 (congrArg some (Eq.refl (Body.n284 ren))),
  f285 := Eq.trans Tryd.func58 (congrArg some (Eq.refl (Body.n285 ren))),
  f286 := Eq.trans Tryd.func59 (congrArg some (Eq.refl (Body.n286 ren))),
  f317 := Eq.trans Tryd.func62 (congrArg some (Eq.refl (Body.n317 ren))),
  f318 := Eq.trans Tryd.func64 (congrArg some (Eq.refl (Body.n318 ren))),
  f319 := Eq.trans Tryd.func65 (congrArg some (Eq.refl (Body.n319 ren))),
  f320 := Eq.trans Tryd.func66 (congrArg some (Eq.refl (Body.n320 ren))),
  f337 := Eq.trans Tryd.func67 (congrArg some (Eq.refl (Body.n337 ren))),
  f338 := Eq.trans Tryd.func68 (congrArg some (Eq.refl (Body.n338 ren))), t0 := Tryd.underlying0,
  a0 := Tryd.isAgg0, z0 := Tryd.sizeOf0, v0 := Tryd.zeroValue0, t2 := Tryd.underlying2, a2 := Tryd.isAgg2,
  z2 := Tryd.sizeOf2, v2 := Tryd.zeroValue2, t3 := Tryd.underlying3, a3 := Tryd.isAgg3, z3 := Tryd.sizeOf3,
  v3 := Tryd.zeroValue3, t4 := Tryd.underlying4, a4 := Tryd.isAgg4, z4 := Tryd.sizeOf4, v4 := Tryd.zeroValue4,
  t5 := Tryd.underlying5, a5 := Tryd.isAgg5, z5 := Tryd.sizeOf5, v5 := Tryd.zeroValue5, t9 := Tryd.underlying9,
  a9 := Tryd.isAgg9, z9 := Tryd.sizeOf9, v9 := Tryd.zeroValue9, t20 := Tryd.underlying20, a20 := Tryd.isAgg20,
  z20 := Tryd.sizeOf20, v20 := Tryd.zeroValue20, t37 := Tryd.underlying22, a37 := Tryd.isAgg22, z37 := Tryd.sizeOf22,
  v37 := Tryd.zeroValue22, t46 := Tryd.underlying85, a46 := Tryd.isAgg85, z46 := Tryd.sizeOf85, v46 := Tryd.zeroValue85,
  t51 := Tryd.underlying92, a51 := Tryd.isAgg92, z51 := Tryd.sizeOf92, v51 := Tryd.zeroValue92,
  t53 := Tryd.underlying96, a53 := Tryd.isAgg96, z53 := Tryd.sizeOf96, v53 := Tryd.zeroValue96,
  t171 := Tryd.underlying95, a171 := Tryd.isAgg95, z171 := Tryd.sizeOf95, v171 := Tryd.zeroValue95,
  t173 := Tryd.underlying99, a173 := Tryd.isAgg99, z173 := Tryd.sizeOf99, v173 := Tryd.zeroValue99,
  t212 := Tryd.underlying104, a212 := Tryd.isAgg104, z212 := Tryd.sizeOf104, v212 := Tryd.zeroValue104,
  t213 := Tryd.underlying105, a213 := Tryd.isAgg105, z213 := Tryd.sizeOf105, t232 := Tryd.underlying109,
  a232 := Tryd.isAgg109, z232 := Tryd.sizeOf109, v232 := Tryd.zeroValue109, t233 := Tryd.underlying110,
  a233 := Tryd.isAgg110, z233 := Tryd.sizeOf110, v233 := Tryd.zeroValue110, g17 := by kernel_rfl,
  g18 := by kernel_rfl, g19 := by kernel_rfl,
  i0 := Eq.refl (some (some (Value.tuple #[]), 1, 0)), i2 := Eq.refl (some (some (Value.int IntKind.i64 0), 1, 8)),
  i3 := Eq.refl (some (some (Value.int IntKind.i64 0), 1, 8)), i4 := Eq.refl (some (some (Value.bool false), 1, 1)),
  i5 := Eq.refl (some (some (Value.int IntKind.u8 0), 1, 1)),
  i9 := Eq.refl (some (some (Value.string { data := #[] }), 1, 16)), i20 := Eq.refl (some (some Value.nilIface, 1, 16)),
  i37 := Eq.refl (some (some (Value.slice none 0 0), 1, 24)),
  i46 := Eq.refl (some (some (Value.int IntKind.u64 0), 1, 8)),
  i51 := Eq.refl (some (some (Value.int IntKind.u32 0), 1, 4)),
  i53 := Eq.refl (some (some (Value.int IntKind.u64 0), 1, 8)),
  i171 :=
    Eq.refl
      (some
        (some
            (Value.agg
              #[Value.int IntKind.u8 0, Value.int IntKind.u8 0, Value.int IntKind.u8 0, Value.int IntKind.u8 0,
                Value.int IntKind.u8 0, Value.int IntKind.u8 0, Value.int IntKind.u8 0, Value.int IntKind.u8 0,
                Value.int IntKind.u8 0, Value.int IntKind.u8 0, Value.int IntKind.u8 0, Value.int IntKind.u8 0,
                Value.int IntKind.u8 0, Value.int IntKind.u8 0, Value.int IntKind.u8 0, Value.int IntKind.u8 0,
                Value.int IntKind.u8 0, Value.int IntKind.u8 0, Value.int IntKind.u8 0, Value.int IntKind.u8 0,
                Value.int IntKind.u8 0, Value.int IntKind.u8 0, Value.int IntKind.u8 0, Value.int IntKind.u8 0]),
          24, 24)),
  i173 := Eq.refl (some (some (Value.tuple #[Value.slice none 0 0, Value.string { data := #[] }]), 1, 0)),
  i212 :=
    Eq.refl
      (some
        (some
            (Value.agg
              #[Value.int IntKind.u64 0, Value.int IntKind.u64 0, Value.int IntKind.u64 0, Value.int IntKind.u64 0,
                Value.int IntKind.u64 0, Value.int IntKind.u64 0, Value.int IntKind.u64 0, Value.int IntKind.u64 0,
                Value.int IntKind.u64 0, Value.int IntKind.u64 0, Value.int IntKind.u64 0, Value.int IntKind.u64 0,
                Value.int IntKind.u64 0, Value.int IntKind.u64 0, Value.int IntKind.u64 0, Value.int IntKind.u64 0,
                Value.int IntKind.u64 0, Value.int IntKind.u64 0, Value.int IntKind.u64 0, Value.int IntKind.u64 0]),
          20, 160)),
  i232 :=
    Eq.refl
      (some
        (some
            (Value.agg
              #[Value.int IntKind.u8 0, Value.int IntKind.u8 0, Value.int IntKind.u8 0, Value.int IntKind.u8 0,
                Value.int IntKind.u8 0, Value.int IntKind.u8 0, Value.int IntKind.u8 0, Value.int IntKind.u8 0,
                Value.int IntKind.u8 0, Value.int IntKind.u8 0, Value.int IntKind.u8 0, Value.int IntKind.u8 0,
                Value.int IntKind.u8 0, Value.int IntKind.u8 0, Value.int IntKind.u8 0, Value.int IntKind.u8 0,
                Value.int IntKind.u8 0, Value.int IntKind.u8 0, Value.int IntKind.u8 0, Value.int IntKind.u8 0,
                Value.int IntKind.u8 0, Value.int IntKind.u8 0, Value.int IntKind.u8 0, Value.int IntKind.u8 0,
                Value.int IntKind.u8 0, Value.int IntKind.u8 0, Value.int IntKind.u8 0, Value.int IntKind.u8 0,
                Value.int IntKind.u8 0, Value.int IntKind.u8 0, Value.int IntKind.u8 0, Value.int IntKind.u8 0]),
          32, 32)),
  i233 :=
    Eq.refl
      (some
        (some
            (Value.agg
              (let y :=
                  let y :=
                    let y :=
                      let y :=
                        [Value.int IntKind.u8 0, Value.int IntKind.u8 0, Value.int IntKind.u8 0,
                          Value.int IntKind.u8 0];
                      Value.int IntKind.u8 0 ::
                        Value.int IntKind.u8 0 :: Value.int IntKind.u8 0 :: Value.int IntKind.u8 0 :: y;
                    let y :=
                      Value.int IntKind.u8 0 ::
                        Value.int IntKind.u8 0 :: Value.int IntKind.u8 0 :: Value.int IntKind.u8 0 :: y;
                    Value.int IntKind.u8 0 ::
                      Value.int IntKind.u8 0 :: Value.int IntKind.u8 0 :: Value.int IntKind.u8 0 :: y;
                  let y :=
                    let y :=
                      Value.int IntKind.u8 0 ::
                        Value.int IntKind.u8 0 :: Value.int IntKind.u8 0 :: Value.int IntKind.u8 0 :: y;
                    Value.int IntKind.u8 0 ::
                      Value.int IntKind.u8 0 :: Value.int IntKind.u8 0 :: Value.int IntKind.u8 0 :: y;
                  let y :=
                    Value.int IntKind.u8 0 ::
                      Value.int IntKind.u8 0 :: Value.int IntKind.u8 0 :: Value.int IntKind.u8 0 :: y;
                  Value.int IntKind.u8 0 ::
                    Value.int IntKind.u8 0 :: Value.int IntKind.u8 0 :: Value.int IntKind.u8 0 :: y;
                let y :=
                  let y :=
                    let y :=
                      Value.int IntKind.u8 0 ::
                        Value.int IntKind.u8 0 :: Value.int IntKind.u8 0 :: Value.int IntKind.u8 0 :: y;
                    Value.int IntKind.u8 0 ::
                      Value.int IntKind.u8 0 :: Value.int IntKind.u8 0 :: Value.int IntKind.u8 0 :: y;
                  let y :=
                    Value.int IntKind.u8 0 ::
                      Value.int IntKind.u8 0 :: Value.int IntKind.u8 0 :: Value.int IntKind.u8 0 :: y;
                  Value.int IntKind.u8 0 ::
                    Value.int IntKind.u8 0 :: Value.int IntKind.u8 0 :: Value.int IntKind.u8 0 :: y;
                let y :=
                  let y :=
                    Value.int IntKind.u8 0 ::
                      Value.int IntKind.u8 0 :: Value.int IntKind.u8 0 :: Value.int IntKind.u8 0 :: y;
                  Value.int IntKind.u8 0 ::
                    Value.int IntKind.u8 0 :: Value.int IntKind.u8 0 :: Value.int IntKind.u8 0 :: y;
                let y :=
                  Value.int IntKind.u8 0 ::
                    Value.int IntKind.u8 0 :: Value.int IntKind.u8 0 :: Value.int IntKind.u8 0 :: y;
                Value.int IntKind.u8 0 ::
                  Value.int IntKind.u8 0 :: Value.int IntKind.u8 0 :: Value.int IntKind.u8 0 :: y).toArray),
          64, 64)),
  m17 := by kernel_rfl, m18 := by kernel_rfl,
  m19 := by kernel_rfl }
end Go.Proofs.YtbbkdhlfgekagaaDoor

namespace Go.Proofs.YtbbkdhlfgekagaaDoor
open Go Go.Am Go.Shelf
def std : Std := { ix := some 60, ct := some 35, ne := some 48, mz := some (49, 5) }
set_option maxRecDepth 100000 in
theorem std_ok : std.Ok Tryd.prog where
  mixed := by kernel_rfl
  names := by kernel_rfl
  ix f h := by
    have : 60 = f := by simpa [std] using h
    subst this
    exact ⟨⟨_, rfl, by kernel_rfl, by kernel_rfl, by kernel_rfl, rfl⟩⟩
  ct f h := by
    have : 35 = f := by simpa [std] using h
    subst this
    exact ⟨⟨_, rfl, by kernel_rfl, by kernel_rfl, by kernel_rfl, rfl⟩⟩
  ne f h := by
    have : 48 = f := by simpa [std] using h
    subst this
    exact ⟨⟨_, rfl, by kernel_rfl, by kernel_rfl, by kernel_rfl, rfl⟩⟩
  mz f e h := by
    have : 49 = f ∧ 5 = e := by simpa [std] using h
    obtain ⟨rfl, rfl⟩ := this
    exact ⟨_, _, ⟨⟨_, rfl, by kernel_rfl, by kernel_rfl, by kernel_rfl, rfl⟩⟩, by kernel_rfl, by kernel_rfl⟩
def glob (g : Nat) : Option (List V) := match g with
  | 1 => some firstC
  | 2 => some accC
  | 3 => some (tabCells .u64 Lib.pow10Tab)
  | _ => none
noncomputable def E : Env := { stdEnv Tryd.prog std with G := glob }
theorem E_ok : E.Ok := (stdEnv_ok std_ok).withG glob
theorem works_eval : evCall E 1000 6 [] [] = some (.pure (.bool true)) := by kernel_rfl
noncomputable def EW : Env := E.know 6 (tabS [([], .bool true)])
theorem EW_ok : EW.Ok := E_ok.knowTab [([], .bool true)] (by
  intro p hp
  simp only [List.mem_singleton] at hp
  subst hp
  exact ⟨⟨1000, works_eval⟩, rfl⟩)
theorem GP : GFlat E := by
  intro g cs h
  have h : glob g = some cs := h
  unfold glob at h
  split at h
  · cases h
    intro v hv
    obtain ⟨x, _, rfl⟩ := List.mem_map.1 hv
    rfl
  · cases h
    intro v hv
    obtain ⟨x, _, rfl⟩ := List.mem_map.1 hv
    rfl
  · cases h
    intro v hv
    obtain ⟨x, _, rfl⟩ := List.mem_map.1 hv
    rfl
  · cases h
end Go.Proofs.YtbbkdhlfgekagaaDoor

namespace Go.Proofs.YtbbkdhlfgekagaaDoor
open Go Go.Am
theorem orcW : ∀ g, EW.full g = true → NoOrc EW g := fun g h => by cases h
def c00 : FuncId → List Ctr := fun _ => []
def m0 : FuncId → List CtrM := fun _ => []
theorem SW_ok {tm : FuncId → Nat → Option Tm} : SOkE { E := EW, ctr := c00, tm := tm, un := 300, ctrM := m0 } := ⟨GP, (fun g ct h => by cases h), orcW, (fun g ct h => by cases h)⟩
end Go.Proofs.YtbbkdhlfgekagaaDoor

namespace Go.Proofs.YtbbkdhlfgekagaaDoor
open Go Go.Am
set_option linter.unusedVariables false
def tmOw : FuncId → Nat → Option Tm := fun g i => match Nat.beq g 8 with
  | true => none
  | false => none
noncomputable def SOw : SE := { E := Go.Proofs.YtbbkdhlfgekagaaDoor.EW, ctr := Go.Proofs.YtbbkdhlfgekagaaDoor.c00, tm := tmOw, un := 300, ctrM := Go.Proofs.YtbbkdhlfgekagaaDoor.m0 }
theorem Ow_fn (n : Nat) (n0 : Int) :
    fnY SOw loopY [(.hole (.int .i32))] [(.int .i32)] n 8 [⟨(.int .i32), n0⟩] =
    (bif (Decidable.decide (n0 < (48 : Int)) || Decidable.decide ((59 : Int) < n0)) then
      some [⟨(.int .i32), ((-1 : Int) : Int)⟩]
    else
      some [⟨(.int .i32), (n0 : Int)⟩]) := by kernel_rfl

end Go.Proofs.YtbbkdhlfgekagaaDoor

namespace Go.Proofs.YtbbkdhlfgekagaaDoor
open Go Go.Am
def ownF (x : Int) : Int := if x < 48 ∨ 59 < x then -1 else x
theorem ow_ok (x : Int) : ∃ n, fnY SOw loopY [.hole (.int .i32)] [.int .i32] n 8 [⟨.int .i32, x⟩] = some [⟨.int .i32, ownF x⟩] := by
  refine ⟨0, ?_⟩
  rw [Ow_fn]
  unfold ownF
  by_cases h : x < 48 ∨ 59 < x
  · rw [if_pos h]; exact bp (by simpa using h) rfl
  · rw [if_neg h]; exact bn (by simpa using h) rfl
def cOw : Ctr := ctr1 (.int .i32) [.int .i32] (fun _ => []) fun (x : Int) => [⟨.int .i32, ownF x⟩]
theorem cOw_okW : CtrOk EW 8 cOw := ctr1_ok (S := SOw) (t := .int .i32) SW_ok (fun _ => rfl) rfl fun (x : Int) _ => ow_ok x
theorem own_gives (x : Int) : WPcall EW 8 [.int .i32 x] [] (· = .pure (.int .i32 (ownF x))) := by
  have hi : instPL [] cOw.pat [⟨.int .i32, x⟩] = some ([SV.v (.int .i32 x)], []) := by
    show instPL [] [.hole (.int .i32)] [⟨.int .i32, x⟩] = _
    unfold instPL instP
    rw [show popD (Ty.int .i32) [⟨Ty.int .i32, x⟩] = some (x, []) from popD_self (t := .int .i32)]
    rfl
  have ho : instTy cOw.out [⟨.int .i32, ownF x⟩] = some [SV.v (.int .i32 (ownF x))] := by
    show instTy [.int .i32] [⟨.int .i32, ownF x⟩] = _
    unfold instTy
    rw [show popD (Ty.int .i32) [⟨Ty.int .i32, ownF x⟩] = some (ownF x, []) from popD_self (t := .int .i32)]
    rfl
  have hr : cOw.res [⟨.int .i32, x⟩] = some ([], [⟨.int .i32, ownF x⟩]) := by
    simp only [cOw, ctr1]
    rw [show popD (Ty.int .i32) [⟨Ty.int .i32, x⟩] = some (x, []) from popD_self (t := .int .i32)]
  obtain ⟨cr, h1, h2, h3⟩ := cOw_okW _ _ _ _ [.int .i32 x] _ ⟨[], fun _ => False, fun _ => none, fun _ => none⟩ hr rfl hi ⟨_, [], rfl, ⟨rfl, rfl⟩, rfl⟩ (fun j h => h.elim) ho
  obtain ⟨v, rfl⟩ := h2 rfl
  obtain ⟨rfl, _⟩ := h3
  exact ⟨_, h1, rfl⟩
theorem bx : Go.Proofs.Builder.Extra Tryd.prog ren := { sizeBuilder := by kernel_rfl, liesBuilder := by kernel_rfl, t5 := Tryd.underlying5, a5 := Tryd.isAgg5, z5 := Tryd.sizeOf5, v5 := Tryd.zeroValue5, infoByte := by kernel_rfl, cellsByte := by kernel_rfl, sizeByte := by kernel_rfl, neB5 := by decide }
theorem enters8 : ∀ args w, (callFunc 8 args).run Tryd.prog w = .ok (.enter 8 args) w := Go.Proofs.enters_of Tryd.func8 (by kernel_rfl) rfl
theorem EM_ok : (EW.knowH (ren.f 230) (mapA 8 ownF)).Ok := EW_ok.withMap lays230 bx rfl rfl enters8 (fun x _ => own_gives x) fun x hx => by unfold ownF; split <;> omega
theorem EJ_ok : ((EW.knowH (ren.f 230) (mapA 8 ownF)).knowH (ren.f 156) (joinA Tryd.prog)).Ok := EM_ok.withJoin lays156 bx
theorem EI_ok : (((EW.knowH (ren.f 230) (mapA 8 ownF)).knowH (ren.f 156) (joinA Tryd.prog)).knowH (ren.f 171) itoaA).Ok := EJ_ok.withItoa (g := 3) lays171 rfl (by kernel_rfl)
noncomputable def EP : Env := { ((EW.knowH (ren.f 230) (mapA 8 ownF)).knowH (ren.f 156) (joinA Tryd.prog)).knowH (ren.f 171) itoaA with full := fun f => memN f [13, 14, 15, 17, 18, 19, 20, 21, 22, 31, 36, 37, 38, 39, 45, 46, 47, 52] }
theorem EP_ok : EP.Ok := { mixed := EI_ok.mixed, names := EI_ok.names, ext := EI_ok.ext, same := EI_ok.same, made := EI_ok.made, orc := fun f a H v h => ⟨(EI_ok.orc f a H v h).1, fun N ρ w hw hl => (EI_ok.orc f a H v h).2 N ρ w (hw.env rfl rfl) hl⟩ }
theorem orcP : ∀ g, EP.full g = true → NoOrc EP g := fun g h q => by
  have h := memN_mem (show memN g [13, 14, 15, 17, 18, 19, 20, 21, 22, 31, 36, 37, 38, 39, 45, 46, 47, 52] = true from h)
  simp only [List.mem_cons, List.not_mem_nil, or_false] at h
  rcases h with rfl | rfl | rfl | rfl | rfl | rfl | rfl | rfl | rfl | rfl | rfl | rfl | rfl | rfl | rfl | rfl | rfl | rfl <;> rfl
theorem S_ok {ctr : FuncId → List Ctr} {tm : FuncId → Nat → Option Tm} {un : Nat} {hold : List Nat} {ctrM : FuncId → List CtrM} (h : ∀ g ct, ct ∈ ctr g → CtrOk EP g ct) (hm : ∀ g ct, ct ∈ ctrM g → CtrMOk EP g ct) : SOkE { E := EP, ctr := ctr, tm := tm, un := un, hold := hold, ctrM := ctrM } := ⟨GP, h, orcP, hm⟩
abbrev tyR : Ty := .list 33 (.list 3 (.int .i64))
def cMap : Ctr where
  pat := [.func 8 [] [], .hole .str]
  res ds := match popD .str ds with
    | some (s, []) => some ([decide (s.length < 35184372088832)], [⟨.str, Lib.mapD ownF s⟩])
    | _ => none
  out := [.str]
theorem cMap_ok : CtrOk EP 7 cMap := ctr_orc fun ds gs ds' args sv hr hg hi ho => by
  simp only [cMap] at hr
  split at hr
  · rename_i s hs
    cases hr
    obtain rfl := popD_eq hs
    simp only [List.all_cons, id, decide_eq_true_eq, List.all_nil, Bool.and_true] at hg
    have e1 : args = [.func 8 [] [], .v (.str s)] := by
      have : instPL [] [.func 8 [] [], .hole .str] [⟨.str, s⟩] = some ([SV.func 8 [] [], SV.v (.str s)], []) := by
        simp only [instPL, instP]
        rw [show popD Ty.str [⟨Ty.str, s⟩] = some (s, []) from popD_self (t := .str)]
        rfl
      have e : instPL [] [.func 8 [] [], .hole .str] [⟨.str, s⟩] = some (args, []) := hi
      rw [this] at e
      exact (Prod.mk.inj (Option.some.inj e)).1.symm
    have e2 : sv = [.v (.str (Lib.mapD ownF s))] := by
      have : instTy [.str] [⟨.str, Lib.mapD ownF s⟩] = some [SV.v (.str (Lib.mapD ownF s))] := by
        unfold instTy
        rw [show popD Ty.str [⟨Ty.str, Lib.mapD ownF s⟩] = some (Lib.mapD ownF s, []) from popD_self (t := .str)]
        rfl
      exact instTy_exact ho this
    subst e1 e2
    refine ⟨[.func 8 [] [], .str s], .str (Lib.mapD ownF s), rfl, fun H => ?_, rfl, rfl⟩
    show mapA 8 ownF [.func 8 [] [], .str s] H = _
    simp only [mapA, hg, and_true, if_true]
  · cases hr
def c0 : FuncId → List Ctr := addCtr (addCtr (addCtr (addCtr (fun _ => []) 6 (ctr0 [.bool] [⟨.bool, true⟩])) 7 cMap) 32 (cJoin 9)) 33 cItoa
theorem c0_ok : ∀ g ct, ct ∈ c0 g → CtrOk EP g ct :=
  addCtr_ok (addCtr_ok (addCtr_ok (addCtr_ok (fun g ct h => by cases h) (ctr0_orcB fun _ => rfl)) cMap_ok) (cJoin_ok (fun _ _ => rfl) (by kernel_rfl))) (cItoa_ok fun _ _ => rfl)
theorem m0_ok : ∀ g ct, ct ∈ m0 g → CtrMOk EP g ct := fun g ct h => by cases h
end Go.Proofs.YtbbkdhlfgekagaaDoor

namespace Go.Proofs.YtbbkdhlfgekagaaDoor
open Go Go.Am
set_option linter.unusedVariables false
def Nw_pre : Tm := { tmps := [], objs := [] }
def Nw_post : Tm := { tmps := [(0, .ptr 0 0)], objs := [.row 73 (.int .i64) true] }
def tmNw : FuncId → Nat → Option Tm := fun g i => match Nat.beq g 17 with
  | true => none
  | false => none
noncomputable def SNw : SE := { E := Go.Proofs.YtbbkdhlfgekagaaDoor.EP, ctr := Go.Proofs.YtbbkdhlfgekagaaDoor.c0, tm := tmNw, un := 300, hold := [], ctrM := Go.Proofs.YtbbkdhlfgekagaaDoor.m0 }
theorem Nw_fn (n : Nat) :
    fnM SNw loopY Nw_pre Nw_post n 17 [] =
    (some [⟨(.list 73 (.int .i64)), ([(0 : Int), (0 : Int), (0 : Int), (0 : Int), (0 : Int), (0 : Int), (0 : Int), (0 : Int), (0 : Int), (0 : Int), (0 : Int), (0 : Int), (0 : Int), (0 : Int), (0 : Int), (0 : Int), (0 : Int), (0 : Int), (0 : Int), (0 : Int), (0 : Int), (0 : Int), (0 : Int), (0 : Int), (0 : Int), (0 : Int), (0 : Int), (0 : Int), (0 : Int), (0 : Int), (0 : Int), (0 : Int), (0 : Int), (0 : Int), (0 : Int), (0 : Int), (0 : Int), (0 : Int), (0 : Int), (0 : Int), (0 : Int), (0 : Int), (0 : Int), (0 : Int), (0 : Int), (0 : Int), (0 : Int), (0 : Int), (0 : Int), (0 : Int), (0 : Int), (0 : Int), (0 : Int), (0 : Int), (0 : Int), (0 : Int), (0 : Int), (0 : Int), (0 : Int), (0 : Int), (0 : Int), (0 : Int), (0 : Int), (0 : Int), (0 : Int), (0 : Int), (0 : Int), (0 : Int), (0 : Int), (0 : Int), (0 : Int), (0 : Int), (0 : Int), (0 : Int), (0 : Int), (0 : Int), (0 : Int), (0 : Int), (0 : Int), (0 : Int), (0 : Int), (0 : Int), (0 : Int), (0 : Int), (0 : Int), (0 : Int), (0 : Int), (0 : Int), (0 : Int), (0 : Int), (0 : Int), (0 : Int), (0 : Int), (0 : Int), (0 : Int), (0 : Int), (0 : Int), (0 : Int), (0 : Int), (0 : Int), (0 : Int), (0 : Int), (0 : Int), (0 : Int), (0 : Int), (0 : Int), (0 : Int), (0 : Int), (0 : Int), (0 : Int), (0 : Int), (0 : Int), (0 : Int), (0 : Int), (0 : Int), (0 : Int), (0 : Int), (0 : Int), (0 : Int), (0 : Int), (0 : Int), (0 : Int), (0 : Int), (0 : Int), (0 : Int), (0 : Int), (0 : Int), (0 : Int), (0 : Int), (0 : Int), (0 : Int), (0 : Int), (0 : Int), (0 : Int), (0 : Int), (0 : Int), (0 : Int), (0 : Int), (0 : Int), (0 : Int), (0 : Int), (0 : Int), (0 : Int), (0 : Int), (0 : Int), (0 : Int), (0 : Int), (0 : Int), (0 : Int), (0 : Int), (0 : Int), (0 : Int), (0 : Int), (0 : Int), (0 : Int), (0 : Int), (0 : Int), (0 : Int), (0 : Int), (0 : Int), (0 : Int), (0 : Int), (0 : Int), (0 : Int), (0 : Int), (0 : Int), (0 : Int), (0 : Int), (0 : Int), (0 : Int), (0 : Int), (0 : Int), (0 : Int), (0 : Int), (0 : Int), (0 : Int), (0 : Int), (0 : Int), (0 : Int), (0 : Int), (0 : Int), (0 : Int), (0 : Int), (0 : Int), (0 : Int), (0 : Int), (0 : Int), (0 : Int), (0 : Int), (0 : Int), (0 : Int), (0 : Int), (0 : Int), (0 : Int), (0 : Int), (0 : Int), (0 : Int), (0 : Int), (0 : Int), (0 : Int), (0 : Int), (0 : Int), (0 : Int), (0 : Int), (0 : Int), (0 : Int), (0 : Int), (0 : Int), (0 : Int), (0 : Int), (0 : Int), (0 : Int), (0 : Int), (0 : Int), (0 : Int), (0 : Int), (0 : Int), (0 : Int), (0 : Int), (0 : Int), (0 : Int), (0 : Int), (0 : Int), (0 : Int), (0 : Int), (0 : Int), (0 : Int), (0 : Int), (0 : Int), (0 : Int), (0 : Int), (0 : Int), (0 : Int), (0 : Int), (0 : Int), (0 : Int), (0 : Int), (0 : Int), (0 : Int), (0 : Int), (0 : Int), (0 : Int), (0 : Int), (0 : Int), (0 : Int), (0 : Int), (0 : Int), (0 : Int), (0 : Int), (0 : Int), (0 : Int), (0 : Int), (0 : Int), (0 : Int), (0 : Int), (0 : Int), (0 : Int), (0 : Int), (0 : Int), (0 : Int), (0 : Int), (0 : Int), (0 : Int), (0 : Int), (0 : Int), (0 : Int), (0 : Int), (0 : Int), (0 : Int), (0 : Int), (0 : Int), (0 : Int), (0 : Int), (0 : Int), (0 : Int), (0 : Int), (0 : Int), (0 : Int), (0 : Int), (0 : Int), (0 : Int), (0 : Int), (0 : Int), (0 : Int), (0 : Int), (0 : Int), (0 : Int), (0 : Int), (0 : Int)] : List Int)⟩]) := by kernel_rfl

def Su_pre : Tm := { tmps := [(0, .ptr 0 0)], objs := [.row 73 (.int .i64) true] }
def Su_post : Tm := { tmps := [], objs := [.row 73 (.int .i64) true] }
def tmSu : FuncId → Nat → Option Tm := fun g i => match Nat.beq g 46 with
  | true => none
  | false => none
noncomputable def SSu : SE := { E := Go.Proofs.YtbbkdhlfgekagaaDoor.EP, ctr := Go.Proofs.YtbbkdhlfgekagaaDoor.c0, tm := tmSu, un := 300, hold := [0], ctrM := Go.Proofs.YtbbkdhlfgekagaaDoor.m0 }
theorem Su_fn (n : Nat) (l0 : List Int) :
    fnM SSu loopY Su_pre Su_post n 46 [⟨(.list 73 (.int .i64)), l0⟩] =
    (need (Decidable.decide ((288 : Nat) < List.length l0)) <|
    bif (Decidable.decide ((32 : Int) < List.getD l0 (288 : Nat) (0 : Int))) then
      some [⟨(.list 73 (.int .i64)), (l0 : List Int)⟩]
    else
      need (Decidable.decide ((288 : Nat) < List.length l0)) <|
      need (Decidable.decide ((0 : Int) ≤ Go.IntKind.wrap Go.IntKind.i64 (List.getD l0 (288 : Nat) (0 : Int) - (1 : Int)))) <|
      need (Decidable.decide (Go.IntKind.wrap Go.IntKind.i64 (List.getD l0 (288 : Nat) (0 : Int) - (1 : Int)) < (32 : Int))) <|
      need (Decidable.decide ((0 : Nat) + Int.toNat (Go.IntKind.wrap Go.IntKind.i64 (List.getD l0 (288 : Nat) (0 : Int) - (1 : Int))) * (9 : Nat) + (8 : Nat) < List.length l0)) <|
      bif (Decidable.decide ((8 : Int) < List.getD l0 ((0 : Nat) + Int.toNat (Go.IntKind.wrap Go.IntKind.i64 (List.getD l0 (288 : Nat) (0 : Int) - (1 : Int))) * (9 : Nat) + (8 : Nat)) (0 : Int))) then
        some [⟨(.list 73 (.int .i64)), (l0 : List Int)⟩]
      else
        need (Decidable.decide ((0 : Nat) + Int.toNat (Go.IntKind.wrap Go.IntKind.i64 (List.getD l0 (288 : Nat) (0 : Int) - (1 : Int))) * (9 : Nat) + (8 : Nat) < List.length l0)) <|
        bif (Decidable.decide (List.getD l0 ((0 : Nat) + Int.toNat (Go.IntKind.wrap Go.IntKind.i64 (List.getD l0 (288 : Nat) (0 : Int) - (1 : Int))) * (9 : Nat) + (8 : Nat)) (0 : Int) < (8 : Int))) then
          need (Decidable.decide ((0 : Nat) + Int.toNat (Go.IntKind.wrap Go.IntKind.i64 (List.getD l0 (288 : Nat) (0 : Int) - (1 : Int))) * (9 : Nat) + (8 : Nat) < List.length l0)) <|
          need (Decidable.decide ((0 : Int) ≤ List.getD l0 ((0 : Nat) + Int.toNat (Go.IntKind.wrap Go.IntKind.i64 (List.getD l0 (288 : Nat) (0 : Int) - (1 : Int))) * (9 : Nat) + (8 : Nat)) (0 : Int))) <|
          need (Decidable.decide (List.getD l0 ((0 : Nat) + Int.toNat (Go.IntKind.wrap Go.IntKind.i64 (List.getD l0 (288 : Nat) (0 : Int) - (1 : Int))) * (9 : Nat) + (8 : Nat)) (0 : Int) < (8 : Int))) <|
          need (Decidable.decide ((0 : Nat) + Int.toNat (Go.IntKind.wrap Go.IntKind.i64 (List.getD l0 (288 : Nat) (0 : Int) - (1 : Int))) * (9 : Nat) + (0 : Nat) + Int.toNat (List.getD l0 ((0 : Nat) + Int.toNat (Go.IntKind.wrap Go.IntKind.i64 (List.getD l0 (288 : Nat) (0 : Int) - (1 : Int))) * (9 : Nat) + (8 : Nat)) (0 : Int)) * (1 : Nat) < List.length l0)) <|
          need (Decidable.decide ((0 : Nat) + Int.toNat (Go.IntKind.wrap Go.IntKind.i64 (List.getD l0 (288 : Nat) (0 : Int) - (1 : Int))) * (9 : Nat) + (8 : Nat) < List.length (List.set l0 ((0 : Nat) + Int.toNat (Go.IntKind.wrap Go.IntKind.i64 (List.getD l0 (288 : Nat) (0 : Int) - (1 : Int))) * (9 : Nat) + (0 : Nat) + Int.toNat (List.getD l0 ((0 : Nat) + Int.toNat (Go.IntKind.wrap Go.IntKind.i64 (List.getD l0 (288 : Nat) (0 : Int) - (1 : Int))) * (9 : Nat) + (8 : Nat)) (0 : Int)) * (1 : Nat)) (-1 : Int)))) <|
          need (Decidable.decide ((0 : Nat) + Int.toNat (Go.IntKind.wrap Go.IntKind.i64 (List.getD l0 (288 : Nat) (0 : Int) - (1 : Int))) * (9 : Nat) + (8 : Nat) < List.length (List.set l0 ((0 : Nat) + Int.toNat (Go.IntKind.wrap Go.IntKind.i64 (List.getD l0 (288 : Nat) (0 : Int) - (1 : Int))) * (9 : Nat) + (0 : Nat) + Int.toNat (List.getD l0 ((0 : Nat) + Int.toNat (Go.IntKind.wrap Go.IntKind.i64 (List.getD l0 (288 : Nat) (0 : Int) - (1 : Int))) * (9 : Nat) + (8 : Nat)) (0 : Int)) * (1 : Nat)) (-1 : Int)))) <|
          some [⟨(.list 73 (.int .i64)), (List.set (List.set l0 ((0 : Nat) + Int.toNat (Go.IntKind.wrap Go.IntKind.i64 (List.getD l0 (288 : Nat) (0 : Int) - (1 : Int))) * (9 : Nat) + (0 : Nat) + Int.toNat (List.getD l0 ((0 : Nat) + Int.toNat (Go.IntKind.wrap Go.IntKind.i64 (List.getD l0 (288 : Nat) (0 : Int) - (1 : Int))) * (9 : Nat) + (8 : Nat)) (0 : Int)) * (1 : Nat)) (-1 : Int)) ((0 : Nat) + Int.toNat (Go.IntKind.wrap Go.IntKind.i64 (List.getD l0 (288 : Nat) (0 : Int) - (1 : Int))) * (9 : Nat) + (8 : Nat)) (Go.IntKind.wrap Go.IntKind.i64 (List.getD (List.set l0 ((0 : Nat) + Int.toNat (Go.IntKind.wrap Go.IntKind.i64 (List.getD l0 (288 : Nat) (0 : Int) - (1 : Int))) * (9 : Nat) + (0 : Nat) + Int.toNat (List.getD l0 ((0 : Nat) + Int.toNat (Go.IntKind.wrap Go.IntKind.i64 (List.getD l0 (288 : Nat) (0 : Int) - (1 : Int))) * (9 : Nat) + (8 : Nat)) (0 : Int)) * (1 : Nat)) (-1 : Int)) ((0 : Nat) + Int.toNat (Go.IntKind.wrap Go.IntKind.i64 (List.getD l0 (288 : Nat) (0 : Int) - (1 : Int))) * (9 : Nat) + (8 : Nat)) (0 : Int) + (1 : Int))) : List Int)⟩]
        else
          need (Decidable.decide ((0 : Nat) + Int.toNat (Go.IntKind.wrap Go.IntKind.i64 (List.getD l0 (288 : Nat) (0 : Int) - (1 : Int))) * (9 : Nat) + (8 : Nat) < List.length l0)) <|
          need (Decidable.decide ((0 : Nat) + Int.toNat (Go.IntKind.wrap Go.IntKind.i64 (List.getD l0 (288 : Nat) (0 : Int) - (1 : Int))) * (9 : Nat) + (8 : Nat) < List.length l0)) <|
          some [⟨(.list 73 (.int .i64)), (List.set l0 ((0 : Nat) + Int.toNat (Go.IntKind.wrap Go.IntKind.i64 (List.getD l0 (288 : Nat) (0 : Int) - (1 : Int))) * (9 : Nat) + (8 : Nat)) (Go.IntKind.wrap Go.IntKind.i64 (List.getD l0 ((0 : Nat) + Int.toNat (Go.IntKind.wrap Go.IntKind.i64 (List.getD l0 (288 : Nat) (0 : Int) - (1 : Int))) * (9 : Nat) + (8 : Nat)) (0 : Int) + (1 : Int))) : List Int)⟩]) := by kernel_rfl

def Dg_pre : Tm := { tmps := [(0, .ptr 0 0), (1, .hole (.int .u8))], objs := [.row 73 (.int .i64) true] }
def Dg_post : Tm := { tmps := [], objs := [.row 73 (.int .i64) true] }
def tmDg : FuncId → Nat → Option Tm := fun g i => match Nat.beq g 39 with
  | true => none
  | false => none
noncomputable def SDg : SE := { E := Go.Proofs.YtbbkdhlfgekagaaDoor.EP, ctr := Go.Proofs.YtbbkdhlfgekagaaDoor.c0, tm := tmDg, un := 300, hold := [0], ctrM := Go.Proofs.YtbbkdhlfgekagaaDoor.m0 }
theorem Dg_fn (n : Nat) (l0 : List Int) (n1 : Int) :
    fnM SDg loopY Dg_pre Dg_post n 39 [⟨(.list 73 (.int .i64)), l0⟩, ⟨(.int .u8), n1⟩] =
    (need (Decidable.decide ((288 : Nat) < List.length l0)) <|
    bif (Decidable.decide ((32 : Int) < List.getD l0 (288 : Nat) (0 : Int))) then
      some [⟨(.list 73 (.int .i64)), (l0 : List Int)⟩]
    else
      need (Decidable.decide ((288 : Nat) < List.length l0)) <|
      need (Decidable.decide ((0 : Int) ≤ Go.IntKind.wrap Go.IntKind.i64 (List.getD l0 (288 : Nat) (0 : Int) - (1 : Int)))) <|
      need (Decidable.decide (Go.IntKind.wrap Go.IntKind.i64 (List.getD l0 (288 : Nat) (0 : Int) - (1 : Int)) < (32 : Int))) <|
      need (Decidable.decide ((0 : Nat) + Int.toNat (Go.IntKind.wrap Go.IntKind.i64 (List.getD l0 (288 : Nat) (0 : Int) - (1 : Int))) * (9 : Nat) + (8 : Nat) < List.length l0)) <|
      bif (Decidable.decide ((8 : Int) < List.getD l0 ((0 : Nat) + Int.toNat (Go.IntKind.wrap Go.IntKind.i64 (List.getD l0 (288 : Nat) (0 : Int) - (1 : Int))) * (9 : Nat) + (8 : Nat)) (0 : Int))) then
        some [⟨(.list 73 (.int .i64)), (l0 : List Int)⟩]
      else
        need (Decidable.decide ((0 : Nat) + Int.toNat (Go.IntKind.wrap Go.IntKind.i64 (List.getD l0 (288 : Nat) (0 : Int) - (1 : Int))) * (9 : Nat) + (8 : Nat) < List.length l0)) <|
        need (Decidable.decide ((0 : Int) ≤ Go.IntKind.wrap Go.IntKind.i64 (List.getD l0 ((0 : Nat) + Int.toNat (Go.IntKind.wrap Go.IntKind.i64 (List.getD l0 (288 : Nat) (0 : Int) - (1 : Int))) * (9 : Nat) + (8 : Nat)) (0 : Int) - (1 : Int)))) <|
        need (Decidable.decide (Go.IntKind.wrap Go.IntKind.i64 (List.getD l0 ((0 : Nat) + Int.toNat (Go.IntKind.wrap Go.IntKind.i64 (List.getD l0 (288 : Nat) (0 : Int) - (1 : Int))) * (9 : Nat) + (8 : Nat)) (0 : Int) - (1 : Int)) < (8 : Int))) <|
        need (Decidable.decide ((0 : Nat) + Int.toNat (Go.IntKind.wrap Go.IntKind.i64 (List.getD l0 (288 : Nat) (0 : Int) - (1 : Int))) * (9 : Nat) + (0 : Nat) + Int.toNat (Go.IntKind.wrap Go.IntKind.i64 (List.getD l0 ((0 : Nat) + Int.toNat (Go.IntKind.wrap Go.IntKind.i64 (List.getD l0 (288 : Nat) (0 : Int) - (1 : Int))) * (9 : Nat) + (8 : Nat)) (0 : Int) - (1 : Int))) * (1 : Nat) < List.length l0)) <|
        need (Decidable.decide ((0 : Nat) + Int.toNat (Go.IntKind.wrap Go.IntKind.i64 (List.getD l0 (288 : Nat) (0 : Int) - (1 : Int))) * (9 : Nat) + (0 : Nat) + Int.toNat (Go.IntKind.wrap Go.IntKind.i64 (List.getD l0 ((0 : Nat) + Int.toNat (Go.IntKind.wrap Go.IntKind.i64 (List.getD l0 (288 : Nat) (0 : Int) - (1 : Int))) * (9 : Nat) + (8 : Nat)) (0 : Int) - (1 : Int))) * (1 : Nat) < List.length l0)) <|
        some [⟨(.list 73 (.int .i64)), (List.set l0 ((0 : Nat) + Int.toNat (Go.IntKind.wrap Go.IntKind.i64 (List.getD l0 (288 : Nat) (0 : Int) - (1 : Int))) * (9 : Nat) + (0 : Nat) + Int.toNat (Go.IntKind.wrap Go.IntKind.i64 (List.getD l0 ((0 : Nat) + Int.toNat (Go.IntKind.wrap Go.IntKind.i64 (List.getD l0 (288 : Nat) (0 : Int) - (1 : Int))) * (9 : Nat) + (8 : Nat)) (0 : Int) - (1 : Int))) * (1 : Nat)) (if (65535 : Int) < Go.IntKind.wrap Go.IntKind.i64 (Go.IntKind.wrap Go.IntKind.i64 ((if List.getD l0 ((0 : Nat) + Int.toNat (Go.IntKind.wrap Go.IntKind.i64 (List.getD l0 (288 : Nat) (0 : Int) - (1 : Int))) * (9 : Nat) + (0 : Nat) + Int.toNat (Go.IntKind.wrap Go.IntKind.i64 (List.getD l0 ((0 : Nat) + Int.toNat (Go.IntKind.wrap Go.IntKind.i64 (List.getD l0 (288 : Nat) (0 : Int) - (1 : Int))) * (9 : Nat) + (8 : Nat)) (0 : Int) - (1 : Int))) * (1 : Nat)) (0 : Int) < (0 : Int) then (0 : Int) else List.getD l0 ((0 : Nat) + Int.toNat (Go.IntKind.wrap Go.IntKind.i64 (List.getD l0 (288 : Nat) (0 : Int) - (1 : Int))) * (9 : Nat) + (0 : Nat) + Int.toNat (Go.IntKind.wrap Go.IntKind.i64 (List.getD l0 ((0 : Nat) + Int.toNat (Go.IntKind.wrap Go.IntKind.i64 (List.getD l0 (288 : Nat) (0 : Int) - (1 : Int))) * (9 : Nat) + (8 : Nat)) (0 : Int) - (1 : Int))) * (1 : Nat)) (0 : Int)) * (10 : Int)) + Go.IntKind.wrap Go.IntKind.i64 (Go.IntKind.wrap Go.IntKind.u8 (n1 - (48 : Int)))) then (65535 : Int) else Go.IntKind.wrap Go.IntKind.i64 (Go.IntKind.wrap Go.IntKind.i64 ((if List.getD l0 ((0 : Nat) + Int.toNat (Go.IntKind.wrap Go.IntKind.i64 (List.getD l0 (288 : Nat) (0 : Int) - (1 : Int))) * (9 : Nat) + (0 : Nat) + Int.toNat (Go.IntKind.wrap Go.IntKind.i64 (List.getD l0 ((0 : Nat) + Int.toNat (Go.IntKind.wrap Go.IntKind.i64 (List.getD l0 (288 : Nat) (0 : Int) - (1 : Int))) * (9 : Nat) + (8 : Nat)) (0 : Int) - (1 : Int))) * (1 : Nat)) (0 : Int) < (0 : Int) then (0 : Int) else List.getD l0 ((0 : Nat) + Int.toNat (Go.IntKind.wrap Go.IntKind.i64 (List.getD l0 (288 : Nat) (0 : Int) - (1 : Int))) * (9 : Nat) + (0 : Nat) + Int.toNat (Go.IntKind.wrap Go.IntKind.i64 (List.getD l0 ((0 : Nat) + Int.toNat (Go.IntKind.wrap Go.IntKind.i64 (List.getD l0 (288 : Nat) (0 : Int) - (1 : Int))) * (9 : Nat) + (8 : Nat)) (0 : Int) - (1 : Int))) * (1 : Nat)) (0 : Int)) * (10 : Int)) + Go.IntKind.wrap Go.IntKind.i64 (Go.IntKind.wrap Go.IntKind.u8 (n1 - (48 : Int))))) : List Int)⟩]) := by kernel_rfl

def Al_pre : Tm := { tmps := [(0, .ptr 0 0)], objs := [.row 73 (.int .i64) true] }
def Al_post : Tm := { tmps := [(0, .hole (.list 33 (.list 3 (.int .i64))))], objs := [.row 73 (.int .i64) true] }
def Al_T0 : Tm := { tmps := [(15, (.hole (.int .i64))), (14, (.hole (.int .i64))), (3, .h 1), (0, (.ptr 0 0))], objs := [.row 73 (.int .i64) true, .lst 33 (.list 3 (.int .i64)) true], prep := [(3, 33)] }
def tmAl : FuncId → Nat → Option Tm := fun g i => match Nat.beq g 19 with
  | true => match Nat.beq i 0 with | true => some Al_T0 | false => none
  | false => none
noncomputable def SAl : SE := { E := Go.Proofs.YtbbkdhlfgekagaaDoor.EP, ctr := Go.Proofs.YtbbkdhlfgekagaaDoor.c0, tm := tmAl, un := 300, hold := [0], ctrM := Go.Proofs.YtbbkdhlfgekagaaDoor.m0 }
theorem Al_L0 (n : Nat) (nx : Nat → List Dy → Option (List Dy)) (m : Nat) (l0 : List Int) (l1 : List (List Int)) (n2 : Int) (n3 : Int) :
    RLM SAl Al_post n 19 0 nx (m + 1) [⟨(.list 73 (.int .i64)), l0⟩, ⟨(.list 33 (.list 3 (.int .i64))), l1⟩, ⟨(.int .i64), n2⟩, ⟨(.int .i64), n3⟩] =
    (bif (Decidable.decide (n2 < n3)) then
      need (Decidable.decide ((0 : Int) ≤ n2)) <|
      need (Decidable.decide (n2 < (32 : Int))) <|
      need (Decidable.decide ((0 : Nat) + Int.toNat n2 * (9 : Nat) + (8 : Nat) < List.length l0)) <|
      need (Decidable.decide ((0 : Int) ≤ if (8 : Int) < List.getD l0 ((0 : Nat) + Int.toNat n2 * (9 : Nat) + (8 : Nat)) (0 : Int) then (8 : Int) else List.getD l0 ((0 : Nat) + Int.toNat n2 * (9 : Nat) + (8 : Nat)) (0 : Int))) <|
      need (Decidable.decide ((if (8 : Int) < List.getD l0 ((0 : Nat) + Int.toNat n2 * (9 : Nat) + (8 : Nat)) (0 : Int) then (8 : Int) else List.getD l0 ((0 : Nat) + Int.toNat n2 * (9 : Nat) + (8 : Nat)) (0 : Int)) ≤ if (8 : Int) < List.getD l0 ((0 : Nat) + Int.toNat n2 * (9 : Nat) + (8 : Nat)) (0 : Int) then (8 : Int) else List.getD l0 ((0 : Nat) + Int.toNat n2 * (9 : Nat) + (8 : Nat)) (0 : Int))) <|
      need (Decidable.decide (((↑(8 : Nat) : Int) * if (8 : Int) < List.getD l0 ((0 : Nat) + Int.toNat n2 * (9 : Nat) + (8 : Nat)) (0 : Int) then (8 : Int) else List.getD l0 ((0 : Nat) + Int.toNat n2 * (9 : Nat) + (8 : Nat)) (0 : Int)) ≤ (140737488355328 : Int))) <|
      need (Decidable.decide ((if (8 : Int) < List.getD l0 ((0 : Nat) + Int.toNat n2 * (9 : Nat) + (8 : Nat)) (0 : Int) then (8 : Int) else List.getD l0 ((0 : Nat) + Int.toNat n2 * (9 : Nat) + (8 : Nat)) (0 : Int)) ≤ (140737488355328 : Int))) <|
      need (Decidable.decide ((0 : Int) ≤ if (8 : Int) < List.getD l0 ((0 : Nat) + Int.toNat n2 * (9 : Nat) + (8 : Nat)) (0 : Int) then (8 : Int) else List.getD l0 ((0 : Nat) + Int.toNat n2 * (9 : Nat) + (8 : Nat)) (0 : Int))) <|
      need (Decidable.decide ((if (8 : Int) < List.getD l0 ((0 : Nat) + Int.toNat n2 * (9 : Nat) + (8 : Nat)) (0 : Int) then (8 : Int) else List.getD l0 ((0 : Nat) + Int.toNat n2 * (9 : Nat) + (8 : Nat)) (0 : Int)) ≤ if (8 : Int) < List.getD l0 ((0 : Nat) + Int.toNat n2 * (9 : Nat) + (8 : Nat)) (0 : Int) then (8 : Int) else List.getD l0 ((0 : Nat) + Int.toNat n2 * (9 : Nat) + (8 : Nat)) (0 : Int))) <|
      need (Decidable.decide ((if (8 : Int) < List.getD l0 ((0 : Nat) + Int.toNat n2 * (9 : Nat) + (8 : Nat)) (0 : Int) then (8 : Int) else List.getD l0 ((0 : Nat) + Int.toNat n2 * (9 : Nat) + (8 : Nat)) (0 : Int)) ≤ (8 : Int))) <|
      need (Decidable.decide ((0 : Nat) + Int.toNat n2 * (9 : Nat) + (0 : Nat) + Int.toNat (if (8 : Int) < List.getD l0 ((0 : Nat) + Int.toNat n2 * (9 : Nat) + (8 : Nat)) (0 : Int) then (8 : Int) else List.getD l0 ((0 : Nat) + Int.toNat n2 * (9 : Nat) + (8 : Nat)) (0 : Int)) ≤ List.length l0)) <|
      need (Decidable.decide (Int.toNat (if (8 : Int) < List.getD l0 ((0 : Nat) + Int.toNat n2 * (9 : Nat) + (8 : Nat)) (0 : Int) then (8 : Int) else List.getD l0 ((0 : Nat) + Int.toNat n2 * (9 : Nat) + (8 : Nat)) (0 : Int)) ≤ List.length (List.replicate (Int.toNat (if (8 : Int) < List.getD l0 ((0 : Nat) + Int.toNat n2 * (9 : Nat) + (8 : Nat)) (0 : Int) then (8 : Int) else List.getD l0 ((0 : Nat) + Int.toNat n2 * (9 : Nat) + (8 : Nat)) (0 : Int))) (0 : Int)))) <|
      need (Decidable.decide (Int.toNat (if (8 : Int) < List.getD l0 ((0 : Nat) + Int.toNat n2 * (9 : Nat) + (8 : Nat)) (0 : Int) then (8 : Int) else List.getD l0 ((0 : Nat) + Int.toNat n2 * (9 : Nat) + (8 : Nat)) (0 : Int)) ≤ List.length (List.take (Min.min (List.length (List.take (Int.toNat (if (8 : Int) < List.getD l0 ((0 : Nat) + Int.toNat n2 * (9 : Nat) + (8 : Nat)) (0 : Int) then (8 : Int) else List.getD l0 ((0 : Nat) + Int.toNat n2 * (9 : Nat) + (8 : Nat)) (0 : Int))) (List.drop ((0 : Nat) + Int.toNat n2 * (9 : Nat) + (0 : Nat)) l0))) (Int.toNat (if (8 : Int) < List.getD l0 ((0 : Nat) + Int.toNat n2 * (9 : Nat) + (8 : Nat)) (0 : Int) then (8 : Int) else List.getD l0 ((0 : Nat) + Int.toNat n2 * (9 : Nat) + (8 : Nat)) (0 : Int)))) (List.take (Int.toNat (if (8 : Int) < List.getD l0 ((0 : Nat) + Int.toNat n2 * (9 : Nat) + (8 : Nat)) (0 : Int) then (8 : Int) else List.getD l0 ((0 : Nat) + Int.toNat n2 * (9 : Nat) + (8 : Nat)) (0 : Int))) (List.drop ((0 : Nat) + Int.toNat n2 * (9 : Nat) + (0 : Nat)) l0)) ++ List.drop (Min.min (List.length (List.take (Int.toNat (if (8 : Int) < List.getD l0 ((0 : Nat) + Int.toNat n2 * (9 : Nat) + (8 : Nat)) (0 : Int) then (8 : Int) else List.getD l0 ((0 : Nat) + Int.toNat n2 * (9 : Nat) + (8 : Nat)) (0 : Int))) (List.drop ((0 : Nat) + Int.toNat n2 * (9 : Nat) + (0 : Nat)) l0))) (Int.toNat (if (8 : Int) < List.getD l0 ((0 : Nat) + Int.toNat n2 * (9 : Nat) + (8 : Nat)) (0 : Int) then (8 : Int) else List.getD l0 ((0 : Nat) + Int.toNat n2 * (9 : Nat) + (8 : Nat)) (0 : Int)))) (List.replicate (Int.toNat (if (8 : Int) < List.getD l0 ((0 : Nat) + Int.toNat n2 * (9 : Nat) + (8 : Nat)) (0 : Int) then (8 : Int) else List.getD l0 ((0 : Nat) + Int.toNat n2 * (9 : Nat) + (8 : Nat)) (0 : Int))) (0 : Int))))) <|
      need (Decidable.decide ((List.length l1 + List.length [List.take (Int.toNat (if (8 : Int) < List.getD l0 ((0 : Nat) + Int.toNat n2 * (9 : Nat) + (8 : Nat)) (0 : Int) then (8 : Int) else List.getD l0 ((0 : Nat) + Int.toNat n2 * (9 : Nat) + (8 : Nat)) (0 : Int))) (List.take (Min.min (List.length (List.take (Int.toNat (if (8 : Int) < List.getD l0 ((0 : Nat) + Int.toNat n2 * (9 : Nat) + (8 : Nat)) (0 : Int) then (8 : Int) else List.getD l0 ((0 : Nat) + Int.toNat n2 * (9 : Nat) + (8 : Nat)) (0 : Int))) (List.drop ((0 : Nat) + Int.toNat n2 * (9 : Nat) + (0 : Nat)) l0))) (Int.toNat (if (8 : Int) < List.getD l0 ((0 : Nat) + Int.toNat n2 * (9 : Nat) + (8 : Nat)) (0 : Int) then (8 : Int) else List.getD l0 ((0 : Nat) + Int.toNat n2 * (9 : Nat) + (8 : Nat)) (0 : Int)))) (List.take (Int.toNat (if (8 : Int) < List.getD l0 ((0 : Nat) + Int.toNat n2 * (9 : Nat) + (8 : Nat)) (0 : Int) then (8 : Int) else List.getD l0 ((0 : Nat) + Int.toNat n2 * (9 : Nat) + (8 : Nat)) (0 : Int))) (List.drop ((0 : Nat) + Int.toNat n2 * (9 : Nat) + (0 : Nat)) l0)) ++ List.drop (Min.min (List.length (List.take (Int.toNat (if (8 : Int) < List.getD l0 ((0 : Nat) + Int.toNat n2 * (9 : Nat) + (8 : Nat)) (0 : Int) then (8 : Int) else List.getD l0 ((0 : Nat) + Int.toNat n2 * (9 : Nat) + (8 : Nat)) (0 : Int))) (List.drop ((0 : Nat) + Int.toNat n2 * (9 : Nat) + (0 : Nat)) l0))) (Int.toNat (if (8 : Int) < List.getD l0 ((0 : Nat) + Int.toNat n2 * (9 : Nat) + (8 : Nat)) (0 : Int) then (8 : Int) else List.getD l0 ((0 : Nat) + Int.toNat n2 * (9 : Nat) + (8 : Nat)) (0 : Int)))) (List.replicate (Int.toNat (if (8 : Int) < List.getD l0 ((0 : Nat) + Int.toNat n2 * (9 : Nat) + (8 : Nat)) (0 : Int) then (8 : Int) else List.getD l0 ((0 : Nat) + Int.toNat n2 * (9 : Nat) + (8 : Nat)) (0 : Int))) (0 : Int)))]) * (24 : Nat) ≤ (140737488355328 : Nat))) <|
      need (Decidable.decide (List.length l1 + List.length [List.take (Int.toNat (if (8 : Int) < List.getD l0 ((0 : Nat) + Int.toNat n2 * (9 : Nat) + (8 : Nat)) (0 : Int) then (8 : Int) else List.getD l0 ((0 : Nat) + Int.toNat n2 * (9 : Nat) + (8 : Nat)) (0 : Int))) (List.take (Min.min (List.length (List.take (Int.toNat (if (8 : Int) < List.getD l0 ((0 : Nat) + Int.toNat n2 * (9 : Nat) + (8 : Nat)) (0 : Int) then (8 : Int) else List.getD l0 ((0 : Nat) + Int.toNat n2 * (9 : Nat) + (8 : Nat)) (0 : Int))) (List.drop ((0 : Nat) + Int.toNat n2 * (9 : Nat) + (0 : Nat)) l0))) (Int.toNat (if (8 : Int) < List.getD l0 ((0 : Nat) + Int.toNat n2 * (9 : Nat) + (8 : Nat)) (0 : Int) then (8 : Int) else List.getD l0 ((0 : Nat) + Int.toNat n2 * (9 : Nat) + (8 : Nat)) (0 : Int)))) (List.take (Int.toNat (if (8 : Int) < List.getD l0 ((0 : Nat) + Int.toNat n2 * (9 : Nat) + (8 : Nat)) (0 : Int) then (8 : Int) else List.getD l0 ((0 : Nat) + Int.toNat n2 * (9 : Nat) + (8 : Nat)) (0 : Int))) (List.drop ((0 : Nat) + Int.toNat n2 * (9 : Nat) + (0 : Nat)) l0)) ++ List.drop (Min.min (List.length (List.take (Int.toNat (if (8 : Int) < List.getD l0 ((0 : Nat) + Int.toNat n2 * (9 : Nat) + (8 : Nat)) (0 : Int) then (8 : Int) else List.getD l0 ((0 : Nat) + Int.toNat n2 * (9 : Nat) + (8 : Nat)) (0 : Int))) (List.drop ((0 : Nat) + Int.toNat n2 * (9 : Nat) + (0 : Nat)) l0))) (Int.toNat (if (8 : Int) < List.getD l0 ((0 : Nat) + Int.toNat n2 * (9 : Nat) + (8 : Nat)) (0 : Int) then (8 : Int) else List.getD l0 ((0 : Nat) + Int.toNat n2 * (9 : Nat) + (8 : Nat)) (0 : Int)))) (List.replicate (Int.toNat (if (8 : Int) < List.getD l0 ((0 : Nat) + Int.toNat n2 * (9 : Nat) + (8 : Nat)) (0 : Int) then (8 : Int) else List.getD l0 ((0 : Nat) + Int.toNat n2 * (9 : Nat) + (8 : Nat)) (0 : Int))) (0 : Int)))] ≤ (140737488355328 : Nat))) <|
      RLM SAl Al_post n 19 0 nx m [⟨(.list 73 (.int .i64)), (l0 : List Int)⟩, ⟨(.list 33 (.list 3 (.int .i64))), (l1 ++ [List.take (Int.toNat (if (8 : Int) < List.getD l0 ((0 : Nat) + Int.toNat n2 * (9 : Nat) + (8 : Nat)) (0 : Int) then (8 : Int) else List.getD l0 ((0 : Nat) + Int.toNat n2 * (9 : Nat) + (8 : Nat)) (0 : Int))) (List.take (Min.min (List.length (List.take (Int.toNat (if (8 : Int) < List.getD l0 ((0 : Nat) + Int.toNat n2 * (9 : Nat) + (8 : Nat)) (0 : Int) then (8 : Int) else List.getD l0 ((0 : Nat) + Int.toNat n2 * (9 : Nat) + (8 : Nat)) (0 : Int))) (List.drop ((0 : Nat) + Int.toNat n2 * (9 : Nat) + (0 : Nat)) l0))) (Int.toNat (if (8 : Int) < List.getD l0 ((0 : Nat) + Int.toNat n2 * (9 : Nat) + (8 : Nat)) (0 : Int) then (8 : Int) else List.getD l0 ((0 : Nat) + Int.toNat n2 * (9 : Nat) + (8 : Nat)) (0 : Int)))) (List.take (Int.toNat (if (8 : Int) < List.getD l0 ((0 : Nat) + Int.toNat n2 * (9 : Nat) + (8 : Nat)) (0 : Int) then (8 : Int) else List.getD l0 ((0 : Nat) + Int.toNat n2 * (9 : Nat) + (8 : Nat)) (0 : Int))) (List.drop ((0 : Nat) + Int.toNat n2 * (9 : Nat) + (0 : Nat)) l0)) ++ List.drop (Min.min (List.length (List.take (Int.toNat (if (8 : Int) < List.getD l0 ((0 : Nat) + Int.toNat n2 * (9 : Nat) + (8 : Nat)) (0 : Int) then (8 : Int) else List.getD l0 ((0 : Nat) + Int.toNat n2 * (9 : Nat) + (8 : Nat)) (0 : Int))) (List.drop ((0 : Nat) + Int.toNat n2 * (9 : Nat) + (0 : Nat)) l0))) (Int.toNat (if (8 : Int) < List.getD l0 ((0 : Nat) + Int.toNat n2 * (9 : Nat) + (8 : Nat)) (0 : Int) then (8 : Int) else List.getD l0 ((0 : Nat) + Int.toNat n2 * (9 : Nat) + (8 : Nat)) (0 : Int)))) (List.replicate (Int.toNat (if (8 : Int) < List.getD l0 ((0 : Nat) + Int.toNat n2 * (9 : Nat) + (8 : Nat)) (0 : Int) then (8 : Int) else List.getD l0 ((0 : Nat) + Int.toNat n2 * (9 : Nat) + (8 : Nat)) (0 : Int))) (0 : Int)))] : List (List Int))⟩, ⟨(.int .i64), (Go.IntKind.wrap Go.IntKind.i64 (n2 + (1 : Int)) : Int)⟩, ⟨(.int .i64), (n3 : Int)⟩]
    else
      some [⟨(.list 73 (.int .i64)), (l0 : List Int)⟩, ⟨(.list 33 (.list 3 (.int .i64))), (l1 : List (List Int))⟩]) := by kernel_rfl
theorem Al_fn (n : Nat) (l0 : List Int) :
    fnM SAl loopY Al_pre Al_post n 19 [⟨(.list 73 (.int .i64)), l0⟩] =
    (need (Decidable.decide ((288 : Nat) < List.length l0)) <|
    RLM SAl Al_post n 19 0 noNx n [⟨(.list 73 (.int .i64)), (l0 : List Int)⟩, ⟨(.list 33 (.list 3 (.int .i64))), ([] : List (List Int))⟩, ⟨(.int .i64), ((0 : Int) : Int)⟩, ⟨(.int .i64), (if (32 : Int) < List.getD l0 (288 : Nat) (0 : Int) then (32 : Int) else List.getD l0 (288 : Nat) (0 : Int) : Int)⟩]) := by kernel_rfl

def Dr_T0 : Tm := { tmps := [(4, (.hole (.int .i64))), (3, .h 0), (0, (.hole (.list 5 .byte)))], objs := [.lst 5 .byte true], prep := [(3, 5)] }
def tmDr : FuncId → Nat → Option Tm := fun g i => match Nat.beq g 9 with
  | true => match Nat.beq i 0 with | true => some Dr_T0 | false => none
  | false => none
noncomputable def SDr : SE := { E := Go.Proofs.YtbbkdhlfgekagaaDoor.EP, ctr := Go.Proofs.YtbbkdhlfgekagaaDoor.c0, tm := tmDr, un := 300, ctrM := Go.Proofs.YtbbkdhlfgekagaaDoor.m0 }
theorem Dr_L0 (n : Nat) (nx : Nat → List Dy → Option (List Dy)) (m : Nat) (l0 : List UInt8) (n1 : Int) (l2 : List UInt8) :
    RL SDr [.str] n 9 0 nx (m + 1) [⟨(.list 5 .byte), l0⟩, ⟨(.int .i64), n1⟩, ⟨(.list 5 .byte), l2⟩] =
    (bif (Decidable.decide (n1 < (↑(List.length l2) : Int)) && Decidable.decide (n1 < (400 : Int))) then
      need (Decidable.decide ((0 : Int) ≤ n1)) <|
      need (Decidable.decide (n1 < (↑(List.length l2) : Int))) <|
      need (Decidable.decide (Int.toNat n1 < List.length l2)) <|
      need (Decidable.decide ((0 : Int) ≤ Int.tmod (Go.IntKind.wrap Go.IntKind.i64 (↑(UInt8.toNat (List.getD l2 (Int.toNat n1) (UInt8.ofNat (0 : Nat)))) : Int)) (19 : Int))) <|
      need (Decidable.decide (Int.tmod (Go.IntKind.wrap Go.IntKind.i64 (↑(UInt8.toNat (List.getD l2 (Int.toNat n1) (UInt8.ofNat (0 : Nat)))) : Int)) (19 : Int) < (19 : Int))) <|
      need (Decidable.decide ((0 : Int) ≤ n1)) <|
      need (Decidable.decide (n1 < (↑(List.length l2) : Int))) <|
      need (Decidable.decide (Int.toNat n1 < List.length l2)) <|
      bif (Decidable.decide ((↑(UInt8.toNat (List.getD l2 (Int.toNat n1) (UInt8.ofNat (0 : Nat)))) : Int) < (240 : Int))) then
        need (Decidable.decide ((0 : Int) ≤ n1)) <|
        need (Decidable.decide (n1 < (↑(List.length l2) : Int))) <|
        need (Decidable.decide (Int.toNat n1 < List.length l2)) <|
        need (Decidable.decide ((0 : Int) ≤ Int.tmod (Go.IntKind.wrap Go.IntKind.i64 (↑(UInt8.toNat (List.getD l2 (Int.toNat n1) (UInt8.ofNat (0 : Nat)))) : Int)) (16 : Int))) <|
        need (Decidable.decide (Int.tmod (Go.IntKind.wrap Go.IntKind.i64 (↑(UInt8.toNat (List.getD l2 (Int.toNat n1) (UInt8.ofNat (0 : Nat)))) : Int)) (16 : Int) < (16 : Int))) <|
        need (Decidable.decide ((↑(UInt8.toNat (List.getD [(48 : UInt8), (49 : UInt8), (50 : UInt8), (51 : UInt8), (52 : UInt8), (53 : UInt8), (54 : UInt8), (55 : UInt8), (56 : UInt8), (57 : UInt8), (59 : UInt8), (59 : UInt8), (58 : UInt8), (58 : UInt8), (57 : UInt8), (59 : UInt8)] (Int.toNat (Int.tmod (Go.IntKind.wrap Go.IntKind.i64 (↑(UInt8.toNat (List.getD l2 (Int.toNat n1) (UInt8.ofNat (0 : Nat)))) : Int)) (16 : Int))) (UInt8.ofNat (0 : Nat)))) : Int) < (256 : Int))) <|
        need (Decidable.decide ((List.length l0 + List.length [UInt8.ofNat (Int.toNat (↑(UInt8.toNat (List.getD [(48 : UInt8), (49 : UInt8), (50 : UInt8), (51 : UInt8), (52 : UInt8), (53 : UInt8), (54 : UInt8), (55 : UInt8), (56 : UInt8), (57 : UInt8), (59 : UInt8), (59 : UInt8), (58 : UInt8), (58 : UInt8), (57 : UInt8), (59 : UInt8)] (Int.toNat (Int.tmod (Go.IntKind.wrap Go.IntKind.i64 (↑(UInt8.toNat (List.getD l2 (Int.toNat n1) (UInt8.ofNat (0 : Nat)))) : Int)) (16 : Int))) (UInt8.ofNat (0 : Nat)))) : Int))]) * (1 : Nat) ≤ (140737488355328 : Nat))) <|
        need (Decidable.decide (List.length l0 + List.length [UInt8.ofNat (Int.toNat (↑(UInt8.toNat (List.getD [(48 : UInt8), (49 : UInt8), (50 : UInt8), (51 : UInt8), (52 : UInt8), (53 : UInt8), (54 : UInt8), (55 : UInt8), (56 : UInt8), (57 : UInt8), (59 : UInt8), (59 : UInt8), (58 : UInt8), (58 : UInt8), (57 : UInt8), (59 : UInt8)] (Int.toNat (Int.tmod (Go.IntKind.wrap Go.IntKind.i64 (↑(UInt8.toNat (List.getD l2 (Int.toNat n1) (UInt8.ofNat (0 : Nat)))) : Int)) (16 : Int))) (UInt8.ofNat (0 : Nat)))) : Int))] ≤ (140737488355328 : Nat))) <|
        RL SDr [.str] n 9 0 nx m [⟨(.list 5 .byte), (l0 ++ [UInt8.ofNat (Int.toNat (↑(UInt8.toNat (List.getD [(48 : UInt8), (49 : UInt8), (50 : UInt8), (51 : UInt8), (52 : UInt8), (53 : UInt8), (54 : UInt8), (55 : UInt8), (56 : UInt8), (57 : UInt8), (59 : UInt8), (59 : UInt8), (58 : UInt8), (58 : UInt8), (57 : UInt8), (59 : UInt8)] (Int.toNat (Int.tmod (Go.IntKind.wrap Go.IntKind.i64 (↑(UInt8.toNat (List.getD l2 (Int.toNat n1) (UInt8.ofNat (0 : Nat)))) : Int)) (16 : Int))) (UInt8.ofNat (0 : Nat)))) : Int))] : List UInt8)⟩, ⟨(.int .i64), (Go.IntKind.wrap Go.IntKind.i64 (n1 + (1 : Int)) : Int)⟩, ⟨(.list 5 .byte), (l2 : List UInt8)⟩]
      else
        need (Decidable.decide ((↑(UInt8.toNat (List.getD [(48 : UInt8), (49 : UInt8), (50 : UInt8), (51 : UInt8), (52 : UInt8), (53 : UInt8), (54 : UInt8), (55 : UInt8), (56 : UInt8), (57 : UInt8), (59 : UInt8), (59 : UInt8), (59 : UInt8), (58 : UInt8), (58 : UInt8), (49 : UInt8), (50 : UInt8), (47 : UInt8), (120 : UInt8)] (Int.toNat (Int.tmod (Go.IntKind.wrap Go.IntKind.i64 (↑(UInt8.toNat (List.getD l2 (Int.toNat n1) (UInt8.ofNat (0 : Nat)))) : Int)) (19 : Int))) (UInt8.ofNat (0 : Nat)))) : Int) < (256 : Int))) <|
        need (Decidable.decide ((List.length l0 + List.length [UInt8.ofNat (Int.toNat (↑(UInt8.toNat (List.getD [(48 : UInt8), (49 : UInt8), (50 : UInt8), (51 : UInt8), (52 : UInt8), (53 : UInt8), (54 : UInt8), (55 : UInt8), (56 : UInt8), (57 : UInt8), (59 : UInt8), (59 : UInt8), (59 : UInt8), (58 : UInt8), (58 : UInt8), (49 : UInt8), (50 : UInt8), (47 : UInt8), (120 : UInt8)] (Int.toNat (Int.tmod (Go.IntKind.wrap Go.IntKind.i64 (↑(UInt8.toNat (List.getD l2 (Int.toNat n1) (UInt8.ofNat (0 : Nat)))) : Int)) (19 : Int))) (UInt8.ofNat (0 : Nat)))) : Int))]) * (1 : Nat) ≤ (140737488355328 : Nat))) <|
        need (Decidable.decide (List.length l0 + List.length [UInt8.ofNat (Int.toNat (↑(UInt8.toNat (List.getD [(48 : UInt8), (49 : UInt8), (50 : UInt8), (51 : UInt8), (52 : UInt8), (53 : UInt8), (54 : UInt8), (55 : UInt8), (56 : UInt8), (57 : UInt8), (59 : UInt8), (59 : UInt8), (59 : UInt8), (58 : UInt8), (58 : UInt8), (49 : UInt8), (50 : UInt8), (47 : UInt8), (120 : UInt8)] (Int.toNat (Int.tmod (Go.IntKind.wrap Go.IntKind.i64 (↑(UInt8.toNat (List.getD l2 (Int.toNat n1) (UInt8.ofNat (0 : Nat)))) : Int)) (19 : Int))) (UInt8.ofNat (0 : Nat)))) : Int))] ≤ (140737488355328 : Nat))) <|
        RL SDr [.str] n 9 0 nx m [⟨(.list 5 .byte), (l0 ++ [UInt8.ofNat (Int.toNat (↑(UInt8.toNat (List.getD [(48 : UInt8), (49 : UInt8), (50 : UInt8), (51 : UInt8), (52 : UInt8), (53 : UInt8), (54 : UInt8), (55 : UInt8), (56 : UInt8), (57 : UInt8), (59 : UInt8), (59 : UInt8), (59 : UInt8), (58 : UInt8), (58 : UInt8), (49 : UInt8), (50 : UInt8), (47 : UInt8), (120 : UInt8)] (Int.toNat (Int.tmod (Go.IntKind.wrap Go.IntKind.i64 (↑(UInt8.toNat (List.getD l2 (Int.toNat n1) (UInt8.ofNat (0 : Nat)))) : Int)) (19 : Int))) (UInt8.ofNat (0 : Nat)))) : Int))] : List UInt8)⟩, ⟨(.int .i64), (Go.IntKind.wrap Go.IntKind.i64 (n1 + (1 : Int)) : Int)⟩, ⟨(.list 5 .byte), (l2 : List UInt8)⟩]
    else
      some [⟨.str, (l0 : List UInt8)⟩]) := by kernel_rfl
theorem Dr_fn (n : Nat) (l0 : List UInt8) :
    fnY SDr loopY [(.hole (.list 5 .byte))] [.str] n 9 [⟨(.list 5 .byte), l0⟩] =
    (RL SDr [.str] n 9 0 noNx n [⟨(.list 5 .byte), ([] : List UInt8)⟩, ⟨(.int .i64), ((0 : Int) : Int)⟩, ⟨(.list 5 .byte), (l0 : List UInt8)⟩]) := by kernel_rfl

end Go.Proofs.YtbbkdhlfgekagaaDoor

namespace Go.Proofs.YtbbkdhlfgekagaaDoor
open Go Go.Am

def pB (l : List Int) : Nat := 0 + Int.toNat (IntKind.wrap .i64 (l.getD 288 0 - 1)) * 9
def pQ (l : List Int) : Int := l.getD (pB l + 8) 0
def pJ (l : List Int) : Nat := pB l + 0 + Int.toNat (IntKind.wrap .i64 (pQ l - 1)) * 1
def put1 (l : List Int) : List Int := l.set (pB l + 0 + Int.toNat (pQ l) * 1) (-1)
def subF (l : List Int) : List Int :=
  if 32 < l.getD 288 0 then l else if 8 < pQ l then l else if pQ l < 8 then (put1 l).set (pB l + 8) (IntKind.wrap .i64 ((put1 l).getD (pB l + 8) 0 + 1)) else l.set (pB l + 8) (IntKind.wrap .i64 (pQ l + 1))
def digW (x c : Int) : Int := IntKind.wrap .i64 (IntKind.wrap .i64 ((if x < 0 then 0 else x) * 10) + IntKind.wrap .i64 (IntKind.wrap .u8 (c - 48)))
def digV (x c : Int) : Int := if 65535 < digW x c then 65535 else digW x c
def digF (l : List Int) (c : Int) : List Int :=
  if 32 < l.getD 288 0 then l else if 8 < pQ l then l else l.set (pJ l) (digV (l.getD (pJ l) 0) c)
def nextF (l : List Int) : List Int := if l.getD 288 0 ≤ 32 then subF (l.set 288 (IntKind.wrap .i64 (l.getD 288 0 + 1))) else subF l

def cts (l : List Int) : Bool := (List.range 32).all fun i => decide (0 ≤ l.getD (9 * i + 8) 0) && decide (l.getD (9 * i + 8) 0 ≤ 9)
def g0 (l : List Int) : Bool := decide (l.length = 289) && (decide (0 ≤ l.getD 288 0) && (decide (l.getD 288 0 ≤ 33) && cts l))
def gS (l : List Int) : Bool := g0 l && decide (1 ≤ l.getD 288 0)
def gD (l : List Int) : Bool := gS l && decide (33 ≤ l.getD 288 0 ∨ 1 ≤ pQ l)
def gB (l : List Int) : Bool := g0 l && decide (l.getD 288 0 = 0 ∨ 33 ≤ l.getD 288 0 ∨ 1 ≤ pQ l)

theorem cts_at {l : List Int} (h : cts l = true) {i : Nat} (hi : i < 32) : 0 ≤ l.getD (9 * i + 8) 0 ∧ l.getD (9 * i + 8) 0 ≤ 9 := by
  have := List.all_eq_true.1 h i (List.mem_range.2 hi)
  simpa [-List.getD_eq_getElem?_getD] using this
theorem g0_at {l : List Int} (h : g0 l = true) : l.length = 289 ∧ 0 ≤ l.getD 288 0 ∧ l.getD 288 0 ≤ 33 ∧ cts l = true := by
  simpa [g0, -List.getD_eq_getElem?_getD] using h
theorem gS_at {l : List Int} (h : gS l = true) : g0 l = true ∧ 1 ≤ l.getD 288 0 := by
  simpa [gS, -List.getD_eq_getElem?_getD] using h
theorem pB_eq {l : List Int} (h : gS l = true) (hm : l.getD 288 0 ≤ 32) : ∃ m : Nat, m < 32 ∧ l.getD 288 0 = (m : Int) + 1 ∧ IntKind.wrap .i64 (l.getD 288 0 - 1) = (m : Int) ∧ pB l = 9 * m := by
  obtain ⟨_, h1⟩ := gS_at h
  have e : IntKind.wrap .i64 (l.getD 288 0 - 1) = l.getD 288 0 - 1 := w64 (by omega)
  refine ⟨(l.getD 288 0 - 1).toNat, by omega, by omega, by rw [e]; omega, ?_⟩
  unfold pB
  rw [e]
  omega
theorem pQ_at {l : List Int} (h : gS l = true) (hm : l.getD 288 0 ≤ 32) : 0 ≤ pQ l ∧ pQ l ≤ 9 := by
  obtain ⟨m, h1, _, _, h4⟩ := pB_eq h hm
  unfold pQ
  rw [h4]
  exact cts_at (g0_at (gS_at h).1).2.2.2 h1

theorem su_ok (l : List Int) (h : gS l = true) : fnM SSu loopY Su_pre Su_post 0 46 [⟨.list 73 (.int .i64), l⟩] = some [⟨.list 73 (.int .i64), subF l⟩] := by
  rw [Su_fn]
  obtain ⟨hl, h0, h33, hc⟩ := g0_at (gS_at h).1
  unfold subF
  refine nd (by omega) ?_
  by_cases c1 : 32 < l.getD 288 0
  · rw [if_pos c1]; exact bpd c1 rfl
  rw [if_neg c1]
  obtain ⟨m, hm, e1, e2, e3⟩ := pB_eq h (by omega)
  obtain ⟨q0, q9⟩ := pQ_at h (by omega)
  have hB : pB l + 8 < l.length := by omega
  refine bnd c1 (nd (by omega) (nd (by rw [e2]; omega) (nd (by rw [e2]; omega) (nd hB ?_))))
  by_cases c2 : 8 < pQ l
  · rw [if_pos c2]; exact bpd c2 rfl
  rw [if_neg c2]
  refine bnd c2 (nd hB ?_)
  by_cases c3 : pQ l < 8
  · rw [if_pos c3]
    refine bpd c3 (nd hB (nd q0 (nd c3 (nd (show pB l + 0 + (pQ l).toNat * 1 < l.length by omega) (nd ?_ (nd ?_ rfl))))))
    · rw [List.length_set]; exact hB
    · rw [List.length_set]; exact hB
  · rw [if_neg c3]
    exact bnd c3 (nd hB (nd hB rfl))

theorem dg_ok (l : List Int) (c : Int) (h : gD l = true) : fnM SDg loopY Dg_pre Dg_post 0 39 [⟨.list 73 (.int .i64), l⟩, ⟨.int .u8, c⟩] = some [⟨.list 73 (.int .i64), digF l c⟩] := by
  rw [Dg_fn]
  simp only [gD, Bool.and_eq_true, decide_eq_true_eq] at h
  obtain ⟨h, hd⟩ := h
  obtain ⟨hl, h0, h33, hc⟩ := g0_at (gS_at h).1
  unfold digF
  refine nd (by omega) ?_
  by_cases c1 : 32 < l.getD 288 0
  · rw [if_pos c1]; exact bpd c1 rfl
  rw [if_neg c1]
  obtain ⟨m, hm, e1, e2, e3⟩ := pB_eq h (by omega)
  obtain ⟨q0, q9⟩ := pQ_at h (by omega)
  have hB : pB l + 8 < l.length := by omega
  refine bnd c1 (nd (by omega) (nd (by rw [e2]; omega) (nd (by rw [e2]; omega) (nd hB ?_))))
  by_cases c2 : 8 < pQ l
  · rw [if_pos c2]; exact bpd c2 rfl
  rw [if_neg c2]
  have eq1 : IntKind.wrap .i64 (pQ l - 1) = pQ l - 1 := w64 (by omega)
  have hJ : pJ l < l.length := by unfold pJ; rw [eq1]; omega
  exact bnd c2 (nd hB (nd (show 0 ≤ IntKind.wrap .i64 (pQ l - 1) by rw [eq1]; omega) (nd (show IntKind.wrap .i64 (pQ l - 1) < 8 by rw [eq1]; omega) (nd hJ (nd hJ rfl)))))

def cNw : CtrM := { pre := Nw_pre, res := (ctr0 [] [⟨.list 73 (.int .i64), List.replicate 289 (0 : Int)⟩]).res, post := Nw_post }
set_option maxRecDepth 100000 in
theorem cNw_ok : CtrMOk EP 17 cNw := ctrM_ok (S := SNw) (S_ok c0_ok m0_ok) rfl rfl rfl rfl fun ds gs ds' hr hg => by
  obtain ⟨rfl, rfl, rfl⟩ := ctr0_res (out := []) hr
  exact ⟨0, Nw_fn 0⟩
def cSu : CtrM := { pre := Su_pre, res := (ctr1 (.list 73 (.int .i64)) [] (fun (l : List Int) => [gS l]) fun (l : List Int) => [⟨.list 73 (.int .i64), subF l⟩]).res, post := Su_post }
theorem cSu_ok : CtrMOk EP 46 cSu := ctrM_ok (S := SSu) (S_ok c0_ok m0_ok) rfl rfl rfl rfl fun ds gs ds' hr hg => by
  obtain ⟨l, rfl, rfl, rfl⟩ := ctr1_res (out := []) hr
  exact ⟨0, su_ok l (by simpa using hg)⟩
def cDg : CtrM := { pre := Dg_pre, res := (ctr2 (.list 73 (.int .i64)) (.int .u8) [] (fun (l : List Int) (_ : Int) => [gD l]) fun (l : List Int) (c : Int) => [⟨.list 73 (.int .i64), digF l c⟩]).res, post := Dg_post }
theorem cDg_ok : CtrMOk EP 39 cDg := ctrM_ok (S := SDg) (S_ok c0_ok m0_ok) rfl rfl rfl rfl fun ds gs ds' hr hg => by
  obtain ⟨l, c, rfl, rfl, rfl⟩ := ctr2_res (out := []) hr
  exact ⟨0, dg_ok l c (by simpa using hg)⟩
def m1 : FuncId → List CtrM := addM (addM (addM m0 17 cNw) 46 cSu) 39 cDg
theorem m1_ok : ∀ g ct, ct ∈ m1 g → CtrMOk EP g ct := addM_ok (addM_ok (addM_ok m0_ok cNw_ok) cSu_ok) cDg_ok
end Go.Proofs.YtbbkdhlfgekagaaDoor

namespace Go.Proofs.YtbbkdhlfgekagaaDoor
open Go Go.Am
set_option linter.unusedVariables false
def Nx_pre : Tm := { tmps := [(0, .ptr 0 0)], objs := [.row 73 (.int .i64) true] }
def Nx_post : Tm := { tmps := [], objs := [.row 73 (.int .i64) true] }
def tmNx : FuncId → Nat → Option Tm := fun g i => match Nat.beq g 37 with
  | true => none
  | false => none
noncomputable def SNx : SE := { E := Go.Proofs.YtbbkdhlfgekagaaDoor.EP, ctr := Go.Proofs.YtbbkdhlfgekagaaDoor.c0, tm := tmNx, un := 300, hold := [0], ctrM := Go.Proofs.YtbbkdhlfgekagaaDoor.m1 }
theorem Nx_fn (n : Nat) (l0 : List Int) :
    fnM SNx loopY Nx_pre Nx_post n 37 [⟨(.list 73 (.int .i64)), l0⟩] =
    (need (Decidable.decide ((288 : Nat) < List.length l0)) <|
    bif (Decidable.decide (List.getD l0 (288 : Nat) (0 : Int) ≤ (32 : Int))) then
      need (Decidable.decide ((288 : Nat) < List.length l0)) <|
      need (Decidable.decide ((288 : Nat) < List.length l0)) <|
      need (Go.Proofs.YtbbkdhlfgekagaaDoor.gS (List.set l0 (288 : Nat) (Go.IntKind.wrap Go.IntKind.i64 (List.getD l0 (288 : Nat) (0 : Int) + (1 : Int))))) <|
      some [⟨(.list 73 (.int .i64)), (Go.Proofs.YtbbkdhlfgekagaaDoor.subF (List.set l0 (288 : Nat) (Go.IntKind.wrap Go.IntKind.i64 (List.getD l0 (288 : Nat) (0 : Int) + (1 : Int)))) : List Int)⟩]
    else
      need (Go.Proofs.YtbbkdhlfgekagaaDoor.gS l0) <|
      some [⟨(.list 73 (.int .i64)), (Go.Proofs.YtbbkdhlfgekagaaDoor.subF l0 : List Int)⟩]) := by kernel_rfl

end Go.Proofs.YtbbkdhlfgekagaaDoor

namespace Go.Proofs.YtbbkdhlfgekagaaDoor
open Go Go.Am

theorem getD_set {l : List Int} {i j : Nat} {x : Int} : (l.set i x).getD j 0 = if i = j ∧ j < l.length then x else l.getD j 0 := by
  simp only [List.getD_eq_getElem?_getD, List.getElem?_set]
  by_cases h : i = j
  · subst h
    by_cases h2 : i < l.length
    · simp [h2]
    · simp [h2]
  · simp [h]
theorem cts_set {l : List Int} {x : Int} : cts (l.set 288 x) = cts l := by
  have e : ∀ i, i ∈ List.range 32 → ((decide (0 ≤ (l.set 288 x).getD (9 * i + 8) 0) && decide ((l.set 288 x).getD (9 * i + 8) 0 ≤ 9)) = (decide (0 ≤ l.getD (9 * i + 8) 0) && decide (l.getD (9 * i + 8) 0 ≤ 9))) := fun i hi => by
    have := List.mem_range.1 hi
    rw [getD_set, if_neg (by omega)]
  unfold cts
  rw [Bool.eq_iff_iff, List.all_eq_true, List.all_eq_true]
  exact ⟨fun h i hi => by rw [← e i hi]; exact h i hi, fun h i hi => by rw [e i hi]; exact h i hi⟩
theorem gS_next {l : List Int} (h : g0 l = true) (hm : l.getD 288 0 ≤ 32) : gS (l.set 288 (IntKind.wrap .i64 (l.getD 288 0 + 1))) = true := by
  obtain ⟨h1, h2, h3, h4⟩ := g0_at h
  have e : IntKind.wrap .i64 (l.getD 288 0 + 1) = l.getD 288 0 + 1 := w64 (by omega)
  generalize hx : IntKind.wrap .i64 (l.getD 288 0 + 1) = x at e
  unfold gS g0
  rw [cts_set, h4, getD_set, if_pos ⟨rfl, by omega⟩]
  simp only [Bool.and_eq_true, decide_eq_true_eq, List.length_set, Bool.and_true]
  omega
theorem nx_ok (l : List Int) (h : g0 l = true) : fnM SNx loopY Nx_pre Nx_post 0 37 [⟨.list 73 (.int .i64), l⟩] = some [⟨.list 73 (.int .i64), nextF l⟩] := by
  rw [Nx_fn]
  obtain ⟨hl, h0, h33, hc⟩ := g0_at h
  unfold nextF
  refine nd (by omega) ?_
  by_cases c : l.getD 288 0 ≤ 32
  · rw [if_pos c]
    exact bpd c (nd (by omega) (nd (by omega) (np (gS_next h c) rfl)))
  · rw [if_neg c]
    refine bnd c (np ?_ rfl)
    unfold gS
    rw [h, Bool.true_and]
    exact decide_eq_true (by omega)
def cNx : CtrM := { pre := Nx_pre, res := (ctr1 (.list 73 (.int .i64)) [] (fun (l : List Int) => [g0 l]) fun (l : List Int) => [⟨.list 73 (.int .i64), nextF l⟩]).res, post := Nx_post }
theorem cNx_ok : CtrMOk EP 37 cNx := ctrM_ok (S := SNx) (S_ok c0_ok m1_ok) rfl rfl rfl rfl fun ds gs ds' hr hg => by
  obtain ⟨l, rfl, rfl, rfl⟩ := ctr1_res (out := []) hr
  exact ⟨0, nx_ok l (by simpa using hg)⟩

def rowF (l : List Int) (i : Nat) : List Int := (l.drop (9 * i)).take (Int.toNat (if 8 < l.getD (9 * i + 8) 0 then 8 else l.getD (9 * i + 8) 0))
def allF (l : List Int) : List (List Int) := (List.range (Int.toNat (if 32 < l.getD 288 0 then 32 else l.getD 288 0))).map (rowF l)
theorem copied (a : List Int) (n : Nat) (h : a.length = n) : (a.take (min a.length n) ++ (List.replicate n (0 : Int)).drop (min a.length n)).take n = a := by
  have e : a.take n = a := List.take_of_length_le (by omega)
  rw [h, Nat.min_self, List.drop_of_length_le (by simp), List.append_nil, e, e]
theorem al_loop (n : Nat) (l : List Int) (h : g0 l = true) (N : Nat) (hN : N ≤ 32) : ∀ (m i : Nat) (acc : List (List Int)), i ≤ N → N < i + m → acc.length = i →
    RLM SAl Al_post n 19 0 noNx m [⟨.list 73 (.int .i64), l⟩, ⟨tyR, acc⟩, ⟨.int .i64, (i : Int)⟩, ⟨.int .i64, (N : Int)⟩] = some [⟨.list 73 (.int .i64), l⟩, ⟨tyR, acc ++ (List.range' i (N - i)).map (rowF l)⟩]
  | 0, i, acc, h1, h2, _ => by omega
  | m + 1, i, acc, h1, h2, ha => by
    obtain ⟨hl, h0, h33, hc⟩ := g0_at h
    rw [Al_L0]
    by_cases hi : i < N
    · obtain ⟨c0, c9⟩ := cts_at hc (show i < 32 by omega)
      have eo : 0 + Int.toNat (i : Int) * 9 + 8 = 9 * i + 8 := by rw [Int.toNat_natCast]; omega
      have eo2 : 0 + Int.toNat (i : Int) * 9 + 0 = 9 * i := by rw [Int.toNat_natCast]; omega
      rw [eo, eo2]
      have ew : IntKind.wrap .i64 ((i : Int) + 1) = ((i + 1 : Nat) : Int) := by rw [w64 (by omega)]; omega
      obtain ⟨k, hk⟩ : ∃ k : Nat, (if 8 < l.getD (9 * i + 8) 0 then 8 else l.getD (9 * i + 8) 0) = (k : Int) := ⟨Int.toNat (if 8 < l.getD (9 * i + 8) 0 then 8 else l.getD (9 * i + 8) 0), by split <;> omega⟩
      have hk8 : k ≤ 8 := by
        have := hk
        split at this <;> omega
      have hr : rowF l i = (l.drop (9 * i)).take k := by unfold rowF; rw [hk, Int.toNat_natCast]
      have hlen : ((l.drop (9 * i)).take k).length = k := by rw [List.length_take, List.length_drop]; omega
      rw [hk, Int.toNat_natCast, ew]
      have e1 : List.range' i (N - i) = i :: List.range' (i + 1) (N - (i + 1)) := by
        rw [show N - i = (N - (i + 1)) + 1 by omega, List.range'_succ]
      rw [e1, List.map_cons, hr]
      have hcp := copied _ k hlen
      have hcl : (((l.drop (9 * i)).take k).take (min ((l.drop (9 * i)).take k).length k) ++ (List.replicate k (0 : Int)).drop (min ((l.drop (9 * i)).take k).length k)).length = k := by
        simp only [List.length_append, List.length_take, List.length_drop, List.length_replicate]; omega
      refine bpd (by omega) (nd (by omega) (nd (by omega) (nd (by omega) (nd (by omega) (nd (by omega) (nd (by omega) (nd (by omega) (nd (by omega) (nd (by omega) (nd (by omega) (nd (by omega) (nd (by simp) (nd (by rw [hcl]; exact Nat.le_refl _) (nd ?_ (nd ?_ ?_)))))))))))))))
      · simp only [List.length_singleton]; omega
      · simp only [List.length_singleton]; omega
      · have hcp' : List.take k (List.take (Min.min (List.length (List.take k (List.drop (9 * i) l))) k) (List.take k (List.drop (9 * i) l)) ++ List.drop (Min.min (List.length (List.take k (List.drop (9 * i) l))) k) (List.replicate k (0 : Int))) = (l.drop (9 * i)).take k := hcp
        rw [hcp']
        have := al_loop n l h N hN m (i + 1) (acc ++ [(l.drop (9 * i)).take k]) (by omega) (by omega) (by simp [ha])
        rw [this]
        rw [List.append_assoc]
        rfl
    · have : N - i = 0 := by omega
      rw [this]
      refine bnd (by omega) ?_
      simp
theorem al_ok (l : List Int) (h : g0 l = true) : ∃ n, fnM SAl loopY Al_pre Al_post n 19 [⟨.list 73 (.int .i64), l⟩] = some [⟨.list 73 (.int .i64), l⟩, ⟨tyR, allF l⟩] := by
  obtain ⟨hl, h0, h33, hc⟩ := g0_at h
  obtain ⟨k, hk⟩ : ∃ k : Nat, (if 32 < l.getD 288 0 then 32 else l.getD 288 0) = (k : Int) := ⟨Int.toNat (if 32 < l.getD 288 0 then 32 else l.getD 288 0), by split <;> omega⟩
  have hk32 : k ≤ 32 := by
    have := hk
    split at this <;> omega
  refine ⟨k + 1, ?_⟩
  rw [Al_fn, hk]
  refine nd (by omega) ?_
  have := al_loop (k + 1) l h k hk32 (k + 1) 0 [] (by omega) (by omega) rfl
  refine this.trans ?_
  unfold allF
  rw [hk, Int.toNat_natCast, List.range_eq_range']
  rfl
def cAl : CtrM := { pre := Al_pre, res := (ctr1 (.list 73 (.int .i64)) [] (fun (l : List Int) => [g0 l]) fun (l : List Int) => [⟨.list 73 (.int .i64), l⟩, ⟨tyR, allF l⟩]).res, post := Al_post }
theorem cAl_ok : CtrMOk EP 19 cAl := ctrM_ok (S := SAl) (S_ok c0_ok m0_ok) rfl rfl rfl rfl fun ds gs ds' hr hg => by
  obtain ⟨l, rfl, rfl, rfl⟩ := ctr1_res (out := []) hr
  exact al_ok l (by simpa using hg)
def m2 : FuncId → List CtrM := addM (addM m1 37 cNx) 19 cAl
theorem m2_ok : ∀ g ct, ct ∈ m2 g → CtrMOk EP g ct := addM_ok (addM_ok m1_ok cNx_ok) cAl_ok
end Go.Proofs.YtbbkdhlfgekagaaDoor

namespace Go.Proofs.YtbbkdhlfgekagaaDoor
open Go Go.Am

abbrev rw' (T : List (List Int)) (i : Nat) : List Int := (T[i]?).getD []
structure Rep (T : List (List Int)) (l : List Int) : Prop where
  len : l.length = 289
  mn : l.getD 288 0 = ((min T.length 33 : Nat) : Int)
  ct : ∀ i, i < 32 → l.getD (9 * i + 8) 0 = ((min (rw' T i).length 9 : Nat) : Int)
  nm : ∀ i, i < 32 → ∀ j, j < 8 → ∀ x, (rw' T i)[j]? = some x → l.getD (9 * i + j) 0 = x
  ne : ∀ r ∈ T, r ≠ []

variable {T I : List (List Int)} {l r : List Int} {x c : Int}

theorem Rep.g0 (h : Rep T l) : g0 l = true := by
  have hc : cts l = true := List.all_eq_true.2 fun i hi => by
    rw [h.ct i (List.mem_range.1 hi)]
    simp only [Bool.and_eq_true, decide_eq_true_eq]
    omega
  unfold YtbbkdhlfgekagaaDoor.g0
  rw [hc, h.mn]
  have := h.len
  simp only [Bool.and_eq_true, decide_eq_true_eq, Bool.and_true]
  omega
theorem Rep.gS (h : Rep T l) (hT : T ≠ []) : gS l = true := by
  have : T.length ≠ 0 := fun e => hT (List.length_eq_zero_iff.1 e)
  unfold YtbbkdhlfgekagaaDoor.gS
  rw [h.g0, h.mn, Bool.true_and, decide_eq_true_eq]
  omega
theorem rw_app (n : Nat) : rw' (I ++ [r]) n = if n < I.length then rw' I n else if n = I.length then r else [] := by
  unfold rw'
  rw [List.getElem?_append]
  by_cases h : n < I.length
  · rw [if_pos h, if_pos h]
  · rw [if_neg h, if_neg h]
    by_cases h2 : n = I.length
    · subst h2; simp
    · rw [if_neg h2, List.getElem?_eq_none (by simp; omega)]; rfl
theorem Rep.last (h : Rep (I ++ [r]) l) (hI : I.length < 32) : l.getD 288 0 = (I.length : Int) + 1 ∧ pB l = 9 * I.length ∧ pQ l = ((min r.length 9 : Nat) : Int) := by
  have e : l.getD 288 0 = (I.length : Int) + 1 := by rw [h.mn, List.length_append, List.length_singleton]; omega
  have hb : pB l = 9 * I.length := by
    unfold pB
    rw [w64 (by omega), e]
    omega
  refine ⟨e, hb, ?_⟩
  unfold pQ
  rw [hb, h.ct _ hI, rw_app, if_neg (by omega), if_pos rfl]
theorem Rep.beyond (h : Rep (I ++ [r]) l) (hI : ¬ I.length < 32) : 32 < l.getD 288 0 := by
  rw [h.mn, List.length_append, List.length_singleton]
  omega
theorem Rep.gD (h : Rep (I ++ [r]) l) : gD l = true := by
  unfold YtbbkdhlfgekagaaDoor.gD
  rw [h.gS (by simp), Bool.true_and, decide_eq_true_eq]
  by_cases hI : I.length < 32
  · obtain ⟨_, _, h3⟩ := h.last hI
    have := List.length_pos_iff.2 (h.ne r (by simp))
    omega
  · have := h.beyond hI
    omega

theorem Rep.turn {r' l' : List Int} (h : Rep (I ++ [r]) l) (hI : I.length < 32) (hr : r' ≠ []) (hl : l'.length = 289) (h1 : l'.getD 288 0 = l.getD 288 0) (h2 : ∀ i, i < 32 → i ≠ I.length → ∀ j, j ≤ 8 → l'.getD (9 * i + j) 0 = l.getD (9 * i + j) 0)
    (h3 : l'.getD (9 * I.length + 8) 0 = ((min r'.length 9 : Nat) : Int)) (h4 : ∀ j, j < 8 → ∀ x, r'[j]? = some x → l'.getD (9 * I.length + j) 0 = x) : Rep (I ++ [r']) l' := by
  refine ⟨hl, by rw [h1, h.mn]; simp, fun i hi => ?_, fun i hi j hj x hx => ?_, fun q hq => ?_⟩
  · by_cases e : i = I.length
    · subst e
      rw [h3, rw_app, if_neg (by omega), if_pos rfl]
    · rw [h2 i hi e 8 (by omega), h.ct i hi, rw_app, rw_app, if_neg e, if_neg e]
  · by_cases e : i = I.length
    · subst e
      rw [rw_app, if_neg (by omega), if_pos rfl] at hx
      exact h4 j hj x hx
    · rw [h2 i hi e j (by omega)]
      refine h.nm i hi j hj x ?_
      rw [rw_app, if_neg e] at hx ⊢
      exact hx
  · rcases List.mem_append.1 hq with hq | hq
    · exact h.ne q (List.mem_append_left _ hq)
    · rw [List.mem_singleton.1 hq]; exact hr
theorem Rep.out {r' : List Int} (h : Rep (I ++ [r]) l) (hI : ¬ I.length < 32) (hr : r' ≠ []) : Rep (I ++ [r']) l := by
  refine ⟨h.len, by rw [h.mn]; simp, fun i hi => ?_, fun i hi j hj x hx => ?_, fun q hq => ?_⟩
  · rw [h.ct i hi, rw_app, rw_app, if_pos (by omega), if_pos (by omega)]
  · refine h.nm i hi j hj x ?_
    rw [rw_app, if_pos (by omega)] at hx ⊢
    exact hx
  · rcases List.mem_append.1 hq with hq | hq
    · exact h.ne q (List.mem_append_left _ hq)
    · rw [List.mem_singleton.1 hq]; exact hr

theorem Rep.sub (h : Rep (I ++ [r]) l) : Rep (I ++ [r ++ [-1]]) (subF l) := by
  have hne : r ++ [-1] ≠ [] := by simp
  unfold subF
  by_cases hI : I.length < 32
  · obtain ⟨e1, e2, e3⟩ := h.last hI
    have hl := h.len
    have own : ∀ j, j < 8 → ∀ x, r[j]? = some x → l.getD (9 * I.length + j) 0 = x := fun j hj x hx => h.nm _ hI j hj x (by rw [rw_app, if_neg (by omega), if_pos rfl]; exact hx)
    rw [if_neg (by omega), e3, e2]
    by_cases c1 : 8 < ((min r.length 9 : Nat) : Int)
    · rw [if_pos c1]
      refine h.turn hI hne hl rfl (fun _ _ _ _ _ => rfl) ?_ fun j hj x hx => ?_
      · rw [h.ct _ hI, rw_app, if_neg (by omega), if_pos rfl, List.length_append, List.length_singleton]
        omega
      · rw [List.getElem?_append_left (by omega)] at hx
        exact own j hj x hx
    rw [if_neg c1]
    by_cases c2 : ((min r.length 9 : Nat) : Int) < 8
    · rw [if_pos c2]
      have ep : put1 l = l.set (9 * I.length + r.length) (-1) := by
        unfold put1
        rw [e2, e3, show 9 * I.length + 0 + Int.toNat ((min r.length 9 : Nat) : Int) * 1 = 9 * I.length + r.length by rw [Int.toNat_natCast]; omega]
      have eq : (put1 l).getD (9 * I.length + 8) 0 = ((min r.length 9 : Nat) : Int) := by
        rw [ep, getD_set, if_neg (by omega), ← e3]
        unfold pQ
        rw [e2]
      rw [eq, w64 (by omega), ep]
      refine h.turn hI hne (by simp [hl]) ?_ (fun i hi hne j hj => ?_) ?_ fun j hj x hx => ?_
      · rw [getD_set, if_neg (by omega), getD_set, if_neg (by omega)]
      · rw [getD_set, if_neg (by omega), getD_set, if_neg (by omega)]
      · rw [getD_set, if_pos ⟨rfl, by rw [List.length_set]; omega⟩, List.length_append, List.length_singleton]
        omega
      · rw [getD_set, if_neg (by omega), getD_set]
        by_cases hj2 : j < r.length
        · rw [if_neg (by omega)]
          rw [List.getElem?_append_left hj2] at hx
          exact own j hj x hx
        · rw [List.getElem?_append_right (by omega)] at hx
          obtain ⟨h5, h6⟩ := List.getElem?_eq_some_iff.1 hx
          simp only [List.length_singleton] at h5
          have : j = r.length := by omega
          subst this
          rw [if_pos ⟨rfl, by omega⟩]
          simpa using h6
    · rw [if_neg c2, w64 (by omega)]
      refine h.turn hI hne (by simp [hl]) ?_ (fun i hi hne j hj => ?_) ?_ fun j hj x hx => ?_
      · rw [getD_set, if_neg (by omega)]
      · rw [getD_set, if_neg (by omega)]
      · rw [getD_set, if_pos ⟨rfl, by omega⟩, List.length_append, List.length_singleton]
        omega
      · rw [getD_set, if_neg (by omega)]
        rw [List.getElem?_append_left (by omega)] at hx
        exact own j hj x hx
  · rw [if_pos (h.beyond hI)]
    exact h.out hI hne

theorem Rep.dig (h : Rep (I ++ [r ++ [x]]) l) : Rep (I ++ [r ++ [digV x c]]) (digF l c) := by
  have hne : r ++ [digV x c] ≠ [] := by simp
  unfold digF
  by_cases hI : I.length < 32
  · obtain ⟨e1, e2, e3⟩ := h.last hI
    have hl := h.len
    have own : ∀ j, j < 8 → ∀ y, (r ++ [x])[j]? = some y → l.getD (9 * I.length + j) 0 = y := fun j hj y hy => h.nm _ hI j hj y (by rw [rw_app, if_neg (by omega), if_pos rfl]; exact hy)
    rw [List.length_append, List.length_singleton] at e3
    rw [if_neg (by omega), e3]
    by_cases c1 : 8 < ((min (r.length + 1) 9 : Nat) : Int)
    · rw [if_pos c1]
      refine h.turn hI hne hl rfl (fun _ _ _ _ _ => rfl) ?_ fun j hj y hy => ?_
      · rw [h.ct _ hI, rw_app, if_neg (by omega), if_pos rfl, List.length_append, List.length_append, List.length_singleton, List.length_singleton]
      · rw [List.getElem?_append_left (by omega)] at hy
        exact own j hj y (by rw [List.getElem?_append_left (by omega)]; exact hy)
    rw [if_neg c1]
    have ej : pJ l = 9 * I.length + r.length := by
      unfold pJ
      rw [e2, e3, w64 (by omega)]
      omega
    rw [ej, own r.length (by omega) x (by simp)]
    refine h.turn hI hne (by simp [hl]) ?_ (fun i hi hne j hj => ?_) ?_ fun j hj y hy => ?_
    · rw [getD_set, if_neg (by omega)]
    · rw [getD_set, if_neg (by omega)]
    · rw [getD_set, if_neg (by omega), h.ct _ hI, rw_app, if_neg (by omega), if_pos rfl, List.length_append, List.length_append, List.length_singleton, List.length_singleton]
    · rw [getD_set]
      by_cases hj2 : j < r.length
      · rw [if_neg (by omega)]
        rw [List.getElem?_append_left hj2] at hy
        exact own j hj y (by rw [List.getElem?_append_left hj2]; exact hy)
      · rw [List.getElem?_append_right (by omega)] at hy
        obtain ⟨h5, h6⟩ := List.getElem?_eq_some_iff.1 hy
        simp only [List.length_singleton] at h5
        have : j = r.length := by omega
        subst this
        rw [if_pos ⟨rfl, by omega⟩]
        simpa using h6
  · rw [if_pos (h.beyond hI)]
    exact h.out hI hne

theorem Rep.next (h : Rep T l) : Rep (T ++ [[-1]]) (nextF l) := by
  unfold nextF
  have hl := h.len
  have hm := h.mn
  by_cases c1 : l.getD 288 0 ≤ 32
  · rw [if_pos c1, w64 (by omega)]
    by_cases hT : T.length < 32
    · have em : (l.set 288 (l.getD 288 0 + 1)).getD 288 0 = (T.length : Int) + 1 := by rw [getD_set, if_pos ⟨rfl, by omega⟩]; omega
      have eb : pB (l.set 288 (l.getD 288 0 + 1)) = 9 * T.length := by unfold pB; rw [em, w64 (by omega)]; omega
      have er : rw' T T.length = [] := by unfold rw'; rw [List.getElem?_eq_none (by omega)]; rfl
      have eQ : pQ (l.set 288 (l.getD 288 0 + 1)) = 0 := by
        unfold pQ
        rw [eb, getD_set, if_neg (by omega), h.ct _ hT, er]
        rfl
      have ep : put1 (l.set 288 (l.getD 288 0 + 1)) = (l.set 288 (l.getD 288 0 + 1)).set (9 * T.length) (-1) := by
        unfold put1
        rw [eb, eQ]
        rfl
      unfold subF
      rw [if_neg (by omega), eQ, if_neg (by omega), if_pos (by omega), eb, ep]
      have ez : ((l.set 288 (l.getD 288 0 + 1)).set (9 * T.length) (-1)).getD (9 * T.length + 8) 0 = 0 := by
        rw [getD_set, if_neg (by omega)]
        have := eQ
        unfold pQ at this
        rw [eb] at this
        exact this
      rw [ez, w64 (by omega)]
      refine ⟨by simp [hl], ?_, fun i hi => ?_, fun i hi j hj y hy => ?_, fun q hq => ?_⟩
      · rw [getD_set, if_neg (by omega), getD_set, if_neg (by omega), em, List.length_append, List.length_singleton]
        omega
      · rw [rw_app, getD_set]
        by_cases e : i = T.length
        · subst e
          rw [if_pos ⟨rfl, by simp only [List.length_set]; omega⟩, if_neg (by omega), if_pos rfl]
          rfl
        · rw [if_neg (by omega), getD_set, if_neg (by omega), getD_set, if_neg (by omega), h.ct i hi]
          by_cases hlt : i < T.length
          · rw [if_pos hlt]
          · rw [if_neg hlt, if_neg e]
            have : rw' T i = [] := by unfold rw'; rw [List.getElem?_eq_none (by omega)]; rfl
            rw [this]
      · rw [rw_app] at hy
        rw [getD_set, if_neg (by omega), getD_set]
        by_cases e : i = T.length
        · subst e
          rw [if_neg (by omega), if_pos rfl] at hy
          obtain ⟨h5, h6⟩ := List.getElem?_eq_some_iff.1 hy
          simp only [List.length_singleton] at h5
          have : j = 0 := by omega
          subst this
          rw [if_pos ⟨rfl, by rw [List.length_set]; omega⟩]
          simpa using h6
        · rw [if_neg (by omega), getD_set, if_neg (by omega)]
          by_cases hlt : i < T.length
          · rw [if_pos hlt] at hy
            exact h.nm i hi j hj y hy
          · rw [if_neg hlt, if_neg e] at hy
            simp at hy
      · rcases List.mem_append.1 hq with hq | hq
        · exact h.ne q hq
        · rw [List.mem_singleton.1 hq]; simp
    · have em : (l.set 288 (l.getD 288 0 + 1)).getD 288 0 = 33 := by rw [getD_set, if_pos ⟨rfl, by omega⟩]; omega
      unfold subF
      rw [if_pos (by omega)]
      refine ⟨by simp [hl], ?_, fun i hi => ?_, fun i hi j hj y hy => ?_, fun q hq => ?_⟩
      · rw [em, List.length_append, List.length_singleton]; omega
      · rw [getD_set, if_neg (by omega), rw_app, if_pos (by omega), h.ct i hi]
      · rw [getD_set, if_neg (by omega)]
        rw [rw_app, if_pos (by omega)] at hy
        exact h.nm i hi j hj y hy
      · rcases List.mem_append.1 hq with hq | hq
        · exact h.ne q hq
        · rw [List.mem_singleton.1 hq]; simp
  · rw [if_neg c1]
    unfold subF
    rw [if_pos (by omega)]
    refine ⟨hl, ?_, fun i hi => ?_, fun i hi j hj y hy => ?_, fun q hq => ?_⟩
    · rw [hm, List.length_append, List.length_singleton]; omega
    · rw [rw_app, if_pos (by omega), h.ct i hi]
    · rw [rw_app, if_pos (by omega)] at hy
      exact h.nm i hi j hj y hy
    · rcases List.mem_append.1 hq with hq | hq
      · exact h.ne q hq
      · rw [List.mem_singleton.1 hq]; simp

theorem rep0 (i : Nat) : (List.replicate 289 (0 : Int)).getD i 0 = 0 := by
  rw [List.getD_eq_getElem?_getD, List.getElem?_replicate]
  split <;> rfl
theorem rep_nil : Rep [] (List.replicate 289 (0 : Int)) :=
  ⟨List.length_replicate, rep0 288, fun i hi => rep0 _, fun i hi j hj x hx => by unfold rw' at hx; simp at hx, fun r hr => by cases hr⟩
theorem Rep.all (h : Rep T l) : allF l = (T.take 32).map (·.take 8) := by
  have hm := h.mn
  have hl := h.len
  have ek : Int.toNat (if 32 < l.getD 288 0 then 32 else l.getD 288 0) = min T.length 32 := by
    split <;> omega
  unfold allF
  rw [ek]
  apply List.ext_getElem?
  intro i
  by_cases hi : i < min T.length 32
  · rw [List.getElem?_map, List.getElem?_range hi, List.getElem?_map, List.getElem?_take, if_pos (by omega), List.getElem?_eq_getElem (by omega : i < T.length)]
    simp only [Option.map_some, Option.some.injEq]
    have er : rw' T i = T[i] := by unfold rw'; rw [List.getElem?_eq_getElem (by omega : i < T.length)]; rfl
    have ec := h.ct i (by omega)
    rw [er] at ec
    have ek2 : Int.toNat (if 8 < l.getD (9 * i + 8) 0 then 8 else l.getD (9 * i + 8) 0) = min T[i].length 8 := by
      rw [ec]
      split <;> omega
    unfold rowF
    rw [ek2]
    apply List.ext_getElem?
    intro j
    by_cases hj : j < min T[i].length 8
    · rw [List.getElem?_take, if_pos hj, List.getElem?_drop, List.getElem?_take, if_pos (by omega), List.getElem?_eq_getElem (by omega : j < T[i].length)]
      have := h.nm i (by omega) j (by omega) T[i][j] (by rw [er, List.getElem?_eq_getElem (by omega : j < T[i].length)])
      rw [List.getD_eq_getElem?_getD, List.getElem?_eq_getElem (by omega)] at this
      rw [List.getElem?_eq_getElem (by omega)]
      simpa using this
    · rw [List.getElem?_eq_none (by rw [List.length_take]; omega), List.getElem?_eq_none (by rw [List.length_take]; omega)]
  · rw [List.getElem?_eq_none (by simp; omega), List.getElem?_eq_none (by simp; omega)]
end Go.Proofs.YtbbkdhlfgekagaaDoor

namespace Go.Proofs.YtbbkdhlfgekagaaDoor
open Go Go.Am
set_option linter.unusedVariables false
def By_pre : Tm := { tmps := [(0, .ptr 0 0), (1, .hole (.int .u8))], objs := [.row 73 (.int .i64) true] }
def By_post : Tm := { tmps := [(0, .hole .bool)], objs := [.row 73 (.int .i64) true] }
def tmBy : FuncId → Nat → Option Tm := fun g i => match Nat.beq g 18 with
  | true => none
  | false => none
noncomputable def SBy : SE := { E := Go.Proofs.YtbbkdhlfgekagaaDoor.EP, ctr := Go.Proofs.YtbbkdhlfgekagaaDoor.c0, tm := tmBy, un := 300, hold := [0], ctrM := Go.Proofs.YtbbkdhlfgekagaaDoor.m2 }
theorem By_fn (n : Nat) (l0 : List Int) (n1 : Int) :
    fnM SBy loopY By_pre By_post n 18 [⟨(.list 73 (.int .i64)), l0⟩, ⟨(.int .u8), n1⟩] =
    (bif (Decidable.decide (n1 < (48 : Int)) || Decidable.decide ((59 : Int) < n1)) then
      some [⟨(.list 73 (.int .i64)), (l0 : List Int)⟩, ⟨.bool, (Bool.false : Bool)⟩]
    else
      need (Decidable.decide ((288 : Nat) < List.length l0)) <|
      bif (List.getD l0 (288 : Nat) (0 : Int) == (0 : Int)) then
        need (Go.Proofs.YtbbkdhlfgekagaaDoor.g0 l0) <|
        bif (n1 == (59 : Int)) then
          need (Go.Proofs.YtbbkdhlfgekagaaDoor.g0 (Go.Proofs.YtbbkdhlfgekagaaDoor.nextF l0)) <|
          some [⟨(.list 73 (.int .i64)), (Go.Proofs.YtbbkdhlfgekagaaDoor.nextF (Go.Proofs.YtbbkdhlfgekagaaDoor.nextF l0) : List Int)⟩, ⟨.bool, (Bool.true : Bool)⟩]
        else
          bif (n1 == (58 : Int)) then
            need (Go.Proofs.YtbbkdhlfgekagaaDoor.gS (Go.Proofs.YtbbkdhlfgekagaaDoor.nextF l0)) <|
            some [⟨(.list 73 (.int .i64)), (Go.Proofs.YtbbkdhlfgekagaaDoor.subF (Go.Proofs.YtbbkdhlfgekagaaDoor.nextF l0) : List Int)⟩, ⟨.bool, (Bool.true : Bool)⟩]
          else
            need (Go.Proofs.YtbbkdhlfgekagaaDoor.gD (Go.Proofs.YtbbkdhlfgekagaaDoor.nextF l0)) <|
            some [⟨(.list 73 (.int .i64)), (Go.Proofs.YtbbkdhlfgekagaaDoor.digF (Go.Proofs.YtbbkdhlfgekagaaDoor.nextF l0) n1 : List Int)⟩, ⟨.bool, (Bool.true : Bool)⟩]
      else
        bif (n1 == (59 : Int)) then
          need (Go.Proofs.YtbbkdhlfgekagaaDoor.g0 l0) <|
          some [⟨(.list 73 (.int .i64)), (Go.Proofs.YtbbkdhlfgekagaaDoor.nextF l0 : List Int)⟩, ⟨.bool, (Bool.true : Bool)⟩]
        else
          bif (n1 == (58 : Int)) then
            need (Go.Proofs.YtbbkdhlfgekagaaDoor.gS l0) <|
            some [⟨(.list 73 (.int .i64)), (Go.Proofs.YtbbkdhlfgekagaaDoor.subF l0 : List Int)⟩, ⟨.bool, (Bool.true : Bool)⟩]
          else
            need (Go.Proofs.YtbbkdhlfgekagaaDoor.gD l0) <|
            some [⟨(.list 73 (.int .i64)), (Go.Proofs.YtbbkdhlfgekagaaDoor.digF l0 n1 : List Int)⟩, ⟨.bool, (Bool.true : Bool)⟩]) := by kernel_rfl

def Rw_T0 : Tm := { tmps := [(5, (.hole (.int .i64))), (0, (.hole (.list 3 (.int .i64)))), (1, (.hole (.list 3 (.int .i64))))], objs := [] }
def tmRw : FuncId → Nat → Option Tm := fun g i => match Nat.beq g 16 with
  | true => match Nat.beq i 0 with | true => some Rw_T0 | false => none
  | false => none
noncomputable def SRw : SE := { E := Go.Proofs.YtbbkdhlfgekagaaDoor.EP, ctr := Go.Proofs.YtbbkdhlfgekagaaDoor.c0, tm := tmRw, un := 300, ctrM := Go.Proofs.YtbbkdhlfgekagaaDoor.m2 }
theorem Rw_L0 (n : Nat) (nx : Nat → List Dy → Option (List Dy)) (m : Nat) (n0 : Int) (l1 : List Int) (l2 : List Int) :
    RL SRw [.bool] n 16 0 nx (m + 1) [⟨(.int .i64), n0⟩, ⟨(.list 3 (.int .i64)), l1⟩, ⟨(.list 3 (.int .i64)), l2⟩] =
    (bif (Decidable.decide (n0 < (↑(List.length l1) : Int))) then
      need (Decidable.decide ((0 : Int) ≤ n0)) <|
      need (Decidable.decide (n0 < (↑(List.length l1) : Int))) <|
      need (Decidable.decide (Int.toNat n0 < List.length l1)) <|
      need (Decidable.decide ((0 : Int) ≤ n0)) <|
      need (Decidable.decide (n0 < (↑(List.length l2) : Int))) <|
      need (Decidable.decide (Int.toNat n0 < List.length l2)) <|
      bif (List.getD l1 (Int.toNat n0) (0 : Int) != List.getD l2 (Int.toNat n0) (0 : Int)) then
        some [⟨.bool, (Bool.false : Bool)⟩]
      else
        RL SRw [.bool] n 16 0 nx m [⟨(.int .i64), (Go.IntKind.wrap Go.IntKind.i64 (n0 + (1 : Int)) : Int)⟩, ⟨(.list 3 (.int .i64)), (l1 : List Int)⟩, ⟨(.list 3 (.int .i64)), (l2 : List Int)⟩]
    else
      some [⟨.bool, (Bool.true : Bool)⟩]) := by kernel_rfl
theorem Rw_fn (n : Nat) (l0 : List Int) (l1 : List Int) :
    fnY SRw loopY [(.hole (.list 3 (.int .i64))), (.hole (.list 3 (.int .i64)))] [.bool] n 16 [⟨(.list 3 (.int .i64)), l0⟩, ⟨(.list 3 (.int .i64)), l1⟩] =
    (bif ((↑(List.length l0) : Int) != (↑(List.length l1) : Int)) then
      some [⟨.bool, (Bool.false : Bool)⟩]
    else
      RL SRw [.bool] n 16 0 noNx n [⟨(.int .i64), ((0 : Int) : Int)⟩, ⟨(.list 3 (.int .i64)), (l0 : List Int)⟩, ⟨(.list 3 (.int .i64)), (l1 : List Int)⟩]) := by kernel_rfl

end Go.Proofs.YtbbkdhlfgekagaaDoor

namespace Go.Proofs.YtbbkdhlfgekagaaDoor
open Go Go.Am

def lastT (f : List Int → List Int) (T : List (List Int)) : List (List Int) := T.dropLast ++ [f (T.getLast?.getD [])]
def subT (T : List (List Int)) : List (List Int) := lastT (fun r => r ++ [-1]) T
def digT (T : List (List Int)) (c : Int) : List (List Int) := lastT (fun r => r.dropLast ++ [digV (r.getLast?.getD 0) c]) T
def startT (T : List (List Int)) : List (List Int) := if T = [] then [[-1]] else T
def byteT (T : List (List Int)) (c : Int) : List (List Int) :=
  if c = 59 then startT T ++ [[-1]] else if c = 58 then subT (startT T) else digT (startT T) c
def isC (c : Int) : Bool := !(decide (c < 48) || decide (59 < c))
def startF (l : List Int) : List Int := if l.getD 288 0 = 0 then nextF l else l
def byF (l : List Int) (c : Int) : List Int :=
  if isC c = false then l else if c = 59 then nextF (startF l) else if c = 58 then subF (startF l) else digF (startF l) c
noncomputable def gR (l : List Int) : Bool := @decide (∃ T, Rep T l) (Classical.propDecidable _)

variable {T : List (List Int)} {l : List Int} {c : Int}
theorem gR_iff : gR l = true ↔ ∃ T, Rep T l := by unfold gR; simp
theorem Rep.gR (h : Rep T l) : gR l = true := gR_iff.2 ⟨T, h⟩
theorem Rep.start (h : Rep T l) : Rep (startT T) (startF l) := by
  have hm := h.mn
  unfold startT startF
  by_cases e : T = []
  · subst e
    rw [if_pos rfl, if_pos (by simpa using hm)]
    exact h.next
  · have : T.length ≠ 0 := fun q => e (List.length_eq_zero_iff.1 q)
    rw [if_neg e, if_neg (by omega)]
    exact h
theorem startT_ne : startT T ≠ [] := by unfold startT; split <;> simp_all
theorem cons_last (h : T ≠ []) : ∃ I r, T = I ++ [r] := ⟨T.dropLast, T.getLast h, (List.dropLast_concat_getLast h).symm⟩
theorem lastT_app {f : List Int → List Int} {I : List (List Int)} {r : List Int} : lastT f (I ++ [r]) = I ++ [f r] := by simp [lastT]
theorem Rep.byte (h : Rep T l) (hc : isC c = true) : Rep (byteT T c) (byF l c) := by
  have h1 := h.start
  unfold byteT byF
  rw [if_neg (show ¬ isC c = false by rw [hc]; simp)]
  obtain ⟨I, r, e⟩ := cons_last (startT_ne (T := T))
  by_cases c1 : c = 59
  · rw [if_pos c1, if_pos c1]; exact h1.next
  rw [if_neg c1, if_neg c1]
  rw [e] at h1 ⊢
  by_cases c2 : c = 58
  · rw [if_pos c2, if_pos c2]
    unfold subT
    rw [lastT_app]
    exact h1.sub
  · rw [if_neg c2, if_neg c2]
    have hr := h1.ne r (by simp)
    unfold digT
    rw [lastT_app]
    obtain ⟨q, x, rfl⟩ : ∃ q x, r = q ++ [x] := ⟨r.dropLast, r.getLast hr, (List.dropLast_concat_getLast hr).symm⟩
    simp only [List.dropLast_concat, List.getLast?_concat, Option.getD_some]
    exact h1.dig
theorem by_ok (l : List Int) (c : Int) (h : gR l = true) : fnM SBy loopY By_pre By_post 0 18 [⟨.list 73 (.int .i64), l⟩, ⟨.int .u8, c⟩] = some [⟨.list 73 (.int .i64), byF l c⟩, ⟨.bool, isC c⟩] := by
  obtain ⟨T, hT⟩ := gR_iff.1 h
  rw [By_fn]
  have hl := hT.len
  unfold byF
  cases hc : isC c with
  | false =>
    rw [if_pos rfl]
    have hc' : (decide (c < 48) || decide (59 < c)) = true := by simp only [isC, Bool.not_eq_false'] at hc; exact hc
    exact bp hc' rfl
  | true =>
    rw [if_neg (by simp)]
    have hc' : (decide (c < 48) || decide (59 < c)) = false := by simpa [isC] using hc
    refine bn hc' (nd (by omega) ?_)
    have h1 := hT.start
    unfold startF at h1 ⊢
    by_cases e : l.getD 288 0 = 0
    · rw [if_pos e] at h1 ⊢
      have h2 := h1.gS startT_ne
      obtain ⟨I, r, e2⟩ := cons_last (startT_ne (T := T))
      have h3 : gD (nextF l) = true := by rw [e2] at h1; exact h1.gD
      refine bp (by rw [e]; rfl) (np hT.g0 ?_)
      by_cases c1 : c = 59
      · rw [if_pos c1]; exact bp (by rw [c1]; rfl) (np h1.g0 rfl)
      rw [if_neg c1]
      refine bn (by simpa using c1) ?_
      by_cases c2 : c = 58
      · rw [if_pos c2]; exact bp (by rw [c2]; rfl) (np h2 rfl)
      rw [if_neg c2]
      exact bn (by simpa using c2) (np h3 rfl)
    · rw [if_neg e] at h1 ⊢
      have h2 := h1.gS startT_ne
      obtain ⟨I, r, e2⟩ := cons_last (startT_ne (T := T))
      have h3 : gD l = true := by rw [e2] at h1; exact h1.gD
      refine bn (by simpa [-List.getD_eq_getElem?_getD] using e) ?_
      by_cases c1 : c = 59
      · rw [if_pos c1]; exact bp (by rw [c1]; rfl) (np hT.g0 rfl)
      rw [if_neg c1]
      refine bn (by simpa using c1) ?_
      by_cases c2 : c = 58
      · rw [if_pos c2]; exact bp (by rw [c2]; rfl) (np h2 rfl)
      rw [if_neg c2]
      exact bn (by simpa using c2) (np h3 rfl)
noncomputable def cBy : CtrM := { pre := By_pre, res := (ctr2 (.list 73 (.int .i64)) (.int .u8) [] (fun (l : List Int) (_ : Int) => [gR l]) fun (l : List Int) (c : Int) => [⟨.list 73 (.int .i64), byF l c⟩, ⟨.bool, isC c⟩]).res, post := By_post }
theorem cBy_ok : CtrMOk EP 18 cBy := ctrM_ok (S := SBy) (S_ok c0_ok m2_ok) rfl rfl rfl rfl fun ds gs ds' hr hg => by
  obtain ⟨l, c, rfl, rfl, rfl⟩ := ctr2_res (out := []) hr
  exact ⟨0, by_ok l c (by simpa using hg)⟩
noncomputable def m3 : FuncId → List CtrM := addM m2 18 cBy
theorem m3_ok : ∀ g ct, ct ∈ m3 g → CtrMOk EP g ct := addM_ok m2_ok cBy_ok

theorem drop_cmp {α : Type} [DecidableEq α] {a b : List α} {i : Nat} {d : α} (h1 : i < a.length) (h2 : i < b.length) : decide (a.drop i = b.drop i) = (decide (a.getD i d = b.getD i d) && decide (a.drop (i + 1) = b.drop (i + 1))) := by
  rw [List.drop_eq_getElem_cons h1, List.drop_eq_getElem_cons h2]
  simp only [List.getD_eq_getElem?_getD, List.getElem?_eq_getElem h1, List.getElem?_eq_getElem h2, Option.getD_some, List.cons.injEq, Bool.decide_and]
theorem rw_loop (n : Nat) (a b : List Int) (h : a.length = b.length) (hb : a.length ≤ 1000000000) : ∀ (m i : Nat), i ≤ a.length → a.length < i + m → RL SRw [.bool] n 16 0 noNx m [⟨.int .i64, (i : Int)⟩, ⟨.list 3 (.int .i64), a⟩, ⟨.list 3 (.int .i64), b⟩] = some [⟨.bool, decide (a.drop i = b.drop i)⟩]
  | 0, i, h1, h2 => by omega
  | m + 1, i, h1, h2 => by
    rw [Rw_L0]
    by_cases hi : i < a.length
    · rw [drop_cmp (d := 0) hi (by omega), Int.toNat_natCast]
      refine bpd (by omega) (nd (by omega) (nd (by omega) (nd hi (nd (by omega) (nd (by omega) (nd (by omega) ?_))))))
      by_cases e : a.getD i 0 = b.getD i 0
      · rw [decide_eq_true e, Bool.true_and]
        refine bn (by simp only [bne, Bool.not_eq_false', beq_iff_eq]; exact e) ?_
        rw [show IntKind.wrap .i64 ((i : Int) + 1) = ((i + 1 : Nat) : Int) by rw [w64 (by omega)]; omega]
        exact rw_loop n a b h hb m (i + 1) (by omega) (by omega)
      · rw [decide_eq_false e, Bool.false_and]
        exact bp (by simp only [bne, Bool.not_eq_true', beq_eq_false_iff_ne]; exact e) rfl
    · rw [List.drop_of_length_le (by omega), List.drop_of_length_le (by omega)]
      exact bnd (by omega) (by simp)
theorem rw_ok (a b : List Int) (hb : a.length ≤ 1000000000) : ∃ n, fnY SRw loopY [.hole (.list 3 (.int .i64)), .hole (.list 3 (.int .i64))] [.bool] n 16 [⟨.list 3 (.int .i64), a⟩, ⟨.list 3 (.int .i64), b⟩] = some [⟨.bool, decide (a = b)⟩] := by
  refine ⟨a.length + 1, ?_⟩
  rw [Rw_fn]
  by_cases h : a.length = b.length
  · refine bn (by simp [h]) ?_
    have := rw_loop (a.length + 1) a b h hb (a.length + 1) 0 (by omega) (by omega)
    rw [List.drop_zero, List.drop_zero] at this
    exact this
  · rw [decide_eq_false fun e => h (by rw [e])]
    exact bp (by simp only [bne, Bool.not_eq_true', beq_eq_false_iff_ne]; omega) rfl
def cRw : Ctr := ctr2 (.list 3 (.int .i64)) (.list 3 (.int .i64)) [.bool] (fun (a : List Int) (_ : List Int) => [decide (a.length ≤ 1000000000)]) fun (a b : List Int) => [⟨.bool, decide (a = b)⟩]
theorem cRw_ok : CtrOk EP 16 cRw := ctr2_ok (S := SRw) (t := .list 3 (.int .i64)) (u := .list 3 (.int .i64)) (S_ok c0_ok m2_ok) (fun _ => rfl) rfl fun (a b : List Int) h => rw_ok a b (by simpa using h)
def c1 : FuncId → List Ctr := addCtr c0 16 cRw
theorem c1_ok : ∀ g ct, ct ∈ c1 g → CtrOk EP g ct := addCtr_ok c0_ok cRw_ok
end Go.Proofs.YtbbkdhlfgekagaaDoor

namespace Go.Proofs.YtbbkdhlfgekagaaDoor
open Go Go.Am
set_option linter.unusedVariables false
def Sm_T0 : Tm := { tmps := [(5, (.hole (.int .i64))), (0, (.hole (.list 33 (.list 3 (.int .i64))))), (1, (.hole (.list 33 (.list 3 (.int .i64)))))], objs := [] }
def tmSm : FuncId → Nat → Option Tm := fun g i => match Nat.beq g 12 with
  | true => match Nat.beq i 0 with | true => some Sm_T0 | false => none
  | false => none
noncomputable def SSm : SE := { E := Go.Proofs.YtbbkdhlfgekagaaDoor.EP, ctr := Go.Proofs.YtbbkdhlfgekagaaDoor.c1, tm := tmSm, un := 300, ctrM := Go.Proofs.YtbbkdhlfgekagaaDoor.m3 }
theorem Sm_L0 (n : Nat) (nx : Nat → List Dy → Option (List Dy)) (m : Nat) (n0 : Int) (l1 : List (List Int)) (l2 : List (List Int)) :
    RL SSm [.bool] n 12 0 nx (m + 1) [⟨(.int .i64), n0⟩, ⟨(.list 33 (.list 3 (.int .i64))), l1⟩, ⟨(.list 33 (.list 3 (.int .i64))), l2⟩] =
    (bif (Decidable.decide (n0 < (↑(List.length l1) : Int))) then
      need (Decidable.decide ((0 : Int) ≤ n0)) <|
      need (Decidable.decide (n0 < (↑(List.length l1) : Int))) <|
      need (Decidable.decide (Int.toNat n0 < List.length l1)) <|
      need (Decidable.decide ((0 : Int) ≤ n0)) <|
      need (Decidable.decide (n0 < (↑(List.length l2) : Int))) <|
      need (Decidable.decide (Int.toNat n0 < List.length l2)) <|
      need (Decidable.decide (List.length (List.getD l1 (Int.toNat n0) []) ≤ (1000000000 : Nat))) <|
      bif (!Decidable.decide (List.getD l1 (Int.toNat n0) [] = List.getD l2 (Int.toNat n0) [])) then
        some [⟨.bool, (Bool.false : Bool)⟩]
      else
        RL SSm [.bool] n 12 0 nx m [⟨(.int .i64), (Go.IntKind.wrap Go.IntKind.i64 (n0 + (1 : Int)) : Int)⟩, ⟨(.list 33 (.list 3 (.int .i64))), (l1 : List (List Int))⟩, ⟨(.list 33 (.list 3 (.int .i64))), (l2 : List (List Int))⟩]
    else
      some [⟨.bool, (Bool.true : Bool)⟩]) := by kernel_rfl
theorem Sm_fn (n : Nat) (l0 : List (List Int)) (l1 : List (List Int)) :
    fnY SSm loopY [(.hole (.list 33 (.list 3 (.int .i64)))), (.hole (.list 33 (.list 3 (.int .i64))))] [.bool] n 12 [⟨(.list 33 (.list 3 (.int .i64))), l0⟩, ⟨(.list 33 (.list 3 (.int .i64))), l1⟩] =
    (bif ((↑(List.length l0) : Int) != (↑(List.length l1) : Int)) then
      some [⟨.bool, (Bool.false : Bool)⟩]
    else
      RL SSm [.bool] n 12 0 noNx n [⟨(.int .i64), ((0 : Int) : Int)⟩, ⟨(.list 33 (.list 3 (.int .i64))), (l0 : List (List Int))⟩, ⟨(.list 33 (.list 3 (.int .i64))), (l1 : List (List Int))⟩]) := by kernel_rfl

def Pr_T0 : Tm := { tmps := [(11, (.hole (.int .i64))), (10, (.hole (.int .i64))), (9, (.allG 1)), (4, (.ptr 0 0))], objs := [.row 73 (.int .i64) true, .row 5 .byte true] }
def tmPr : FuncId → Nat → Option Tm := fun g i => match Nat.beq g 10 with
  | true => match Nat.beq i 0 with | true => some Pr_T0 | false => none
  | false => none
noncomputable def SPr : SE := { E := Go.Proofs.YtbbkdhlfgekagaaDoor.EP, ctr := Go.Proofs.YtbbkdhlfgekagaaDoor.c1, tm := tmPr, un := 300, ctrM := Go.Proofs.YtbbkdhlfgekagaaDoor.m3 }
theorem Pr_L0 (n : Nat) (nx : Nat → List Dy → Option (List Dy)) (m : Nat) (l0 : List Int) (l1 : List UInt8) (n2 : Int) (n3 : Int) :
    RL SPr [(.list 33 (.list 3 (.int .i64))), .bool] n 10 0 nx (m + 1) [⟨(.list 73 (.int .i64)), l0⟩, ⟨(.list 5 .byte), l1⟩, ⟨(.int .i64), n2⟩, ⟨(.int .i64), n3⟩] =
    (bif (Decidable.decide (n2 < n3)) then
      need (Decidable.decide ((0 : Int) ≤ n2)) <|
      need (Decidable.decide (n2 < (↑(List.length l1) : Int))) <|
      need (Decidable.decide (Int.toNat n2 < List.length l1)) <|
      need (Go.Proofs.YtbbkdhlfgekagaaDoor.gR l0) <|
      bif (!Go.Proofs.YtbbkdhlfgekagaaDoor.isC (↑(UInt8.toNat (List.getD l1 (Int.toNat n2) (UInt8.ofNat (0 : Nat)))) : Int)) then
        some [⟨(.list 33 (.list 3 (.int .i64))), ([] : List (List Int))⟩, ⟨.bool, (Bool.false : Bool)⟩]
      else
        need (Decidable.decide (List.length l1 = List.length l1)) <|
        RL SPr [(.list 33 (.list 3 (.int .i64))), .bool] n 10 0 nx m [⟨(.list 73 (.int .i64)), (Go.Proofs.YtbbkdhlfgekagaaDoor.byF l0 (↑(UInt8.toNat (List.getD l1 (Int.toNat n2) (UInt8.ofNat (0 : Nat)))) : Int) : List Int)⟩, ⟨(.list 5 .byte), (l1 : List UInt8)⟩, ⟨(.int .i64), (Go.IntKind.wrap Go.IntKind.i64 (n2 + (1 : Int)) : Int)⟩, ⟨(.int .i64), (n3 : Int)⟩]
    else
      need (Go.Proofs.YtbbkdhlfgekagaaDoor.g0 l0) <|
      some [⟨(.list 33 (.list 3 (.int .i64))), (Go.Proofs.YtbbkdhlfgekagaaDoor.allF l0 : List (List Int))⟩, ⟨.bool, (Bool.true : Bool)⟩]) := by kernel_rfl
theorem Pr_fn (n : Nat) (s0 : List UInt8) :
    fnY SPr loopY [(.hole .str)] [(.list 33 (.list 3 (.int .i64))), .bool] n 10 [⟨.str, s0⟩] =
    (need (Decidable.decide (List.length s0 ≤ (140737488355328 : Nat))) <|
    need (Decidable.decide (List.length s0 = List.length s0)) <|
    RL SPr [(.list 33 (.list 3 (.int .i64))), .bool] n 10 0 noNx n [⟨(.list 73 (.int .i64)), (List.replicate (289 : Nat) (0 : Int) : List Int)⟩, ⟨(.list 5 .byte), (s0 : List UInt8)⟩, ⟨(.int .i64), ((0 : Int) : Int)⟩, ⟨(.int .i64), ((↑(List.length s0) : Int) : Int)⟩]) := by kernel_rfl

end Go.Proofs.YtbbkdhlfgekagaaDoor

namespace Go.Proofs.YtbbkdhlfgekagaaDoor
open Go Go.Am

def gT (T : List (List Int)) : Bool := T.all fun r => decide (r.length ≤ 1000000000)
theorem gT_at {T : List (List Int)} (h : gT T = true) {i : Nat} (hi : i < T.length) : (T.getD i []).length ≤ 1000000000 := by
  have := List.all_eq_true.1 h (T.getD i []) (by rw [List.getD_eq_getElem?_getD, List.getElem?_eq_getElem hi]; exact List.getElem_mem hi)
  simpa using this
theorem sm_loop (n : Nat) (a b : List (List Int)) (h : a.length = b.length) (hg : gT a = true) (hb : a.length ≤ 1000000000) : ∀ (m i : Nat), i ≤ a.length → a.length < i + m → RL SSm [.bool] n 12 0 noNx m [⟨.int .i64, (i : Int)⟩, ⟨tyR, a⟩, ⟨tyR, b⟩] = some [⟨.bool, decide (a.drop i = b.drop i)⟩]
  | 0, i, h1, h2 => by omega
  | m + 1, i, h1, h2 => by
    rw [Sm_L0]
    by_cases hi : i < a.length
    · rw [drop_cmp (d := []) hi (by omega), Int.toNat_natCast]
      refine bpd (by omega) (nd (by omega) (nd (by omega) (nd hi (nd (by omega) (nd (by omega) (nd (by omega) (nd (gT_at hg hi) ?_)))))))
      by_cases e : a.getD i [] = b.getD i []
      · rw [decide_eq_true e, Bool.true_and]
        refine bn rfl ?_
        rw [show IntKind.wrap .i64 ((i : Int) + 1) = ((i + 1 : Nat) : Int) by rw [w64 (by omega)]; omega]
        exact sm_loop n a b h hg hb m (i + 1) (by omega) (by omega)
      · rw [decide_eq_false e, Bool.false_and]
        exact bp rfl rfl
    · rw [List.drop_of_length_le (by omega), List.drop_of_length_le (by omega)]
      exact bnd (by omega) (by simp)
theorem sm_ok (a b : List (List Int)) (hg : gT a = true) (hb : a.length ≤ 1000000000) : ∃ n, fnY SSm loopY [.hole tyR, .hole tyR] [.bool] n 12 [⟨tyR, a⟩, ⟨tyR, b⟩] = some [⟨.bool, decide (a = b)⟩] := by
  refine ⟨a.length + 1, ?_⟩
  rw [Sm_fn]
  by_cases h : a.length = b.length
  · refine bn (by simp [h]) ?_
    have := sm_loop (a.length + 1) a b h hg hb (a.length + 1) 0 (by omega) (by omega)
    rw [List.drop_zero, List.drop_zero] at this
    exact this
  · rw [decide_eq_false fun e => h (by rw [e])]
    exact bp (by simp only [bne, Bool.not_eq_true', beq_eq_false_iff_ne]; omega) rfl
def sameT (a b : List (List Int)) : Bool := decide (a = b)
def cSm : Ctr := ctr2 tyR tyR [.bool] (fun (a : List (List Int)) (_ : List (List Int)) => [gT a, decide (a.length ≤ 1000000000)]) fun (a b : List (List Int)) => [⟨.bool, sameT a b⟩]
theorem cSm_ok : CtrOk EP 12 cSm := ctr2_ok (S := SSm) (t := tyR) (u := tyR) (S_ok c1_ok m3_ok) (fun _ => rfl) rfl fun (a b : List (List Int)) h => sm_ok a b (by simp only [List.all_cons, id, Bool.and_eq_true] at h; exact h.1) (by simp only [List.all_cons, id, Bool.and_eq_true, decide_eq_true_eq] at h; exact h.2.1)

def bi (b : UInt8) : Int := (b.toNat : Int)
def readT (T : List (List Int)) (s : List UInt8) : List (List Int) := s.foldl (fun T b => byteT T (bi b)) T
def cutT (T : List (List Int)) : List (List Int) := (T.take 32).map (·.take 8)
def isS (s : List UInt8) : Bool := s.all fun b => isC (bi b)
def prT (s : List UInt8) : List (List Int) := if isS s = true then cutT (readT [] s) else []
theorem pr_loop (n : Nat) (s : List UInt8) (hb : s.length ≤ 140737488355328) : ∀ (m i : Nat) (T : List (List Int)) (l : List Int), i ≤ s.length → s.length < i + m → Rep T l →
    RL SPr [tyR, .bool] n 10 0 noNx m [⟨.list 73 (.int .i64), l⟩, ⟨.list 5 .byte, s⟩, ⟨.int .i64, (i : Int)⟩, ⟨.int .i64, (s.length : Int)⟩] = some [⟨tyR, if isS (s.drop i) = true then cutT (readT T (s.drop i)) else []⟩, ⟨.bool, isS (s.drop i)⟩]
  | 0, i, T, l, h1, h2, _ => by omega
  | m + 1, i, T, l, h1, h2, hR => by
    rw [Pr_L0]
    by_cases hi : i < s.length
    · rw [Int.toNat_natCast]
      have e0 : s.getD i (UInt8.ofNat 0) = s[i] := by rw [List.getD_eq_getElem?_getD, List.getElem?_eq_getElem hi]; rfl
      have e1 : s.drop i = s[i] :: s.drop (i + 1) := List.drop_eq_getElem_cons hi
      rw [e0, e1]
      refine bpd (by omega) (nd (by omega) (nd (by omega) (nd hi ?_)))
      rw [need_pos hR.gR]
      have e2 : isS (s[i] :: s.drop (i + 1)) = (isC (bi s[i]) && isS (s.drop (i + 1))) := rfl
      cases hc : isC (bi s[i]) with
      | false =>
        rw [e2, hc, Bool.false_and, if_neg (by simp)]
        exact bp (by rw [show isC (↑(s[i].toNat) : Int) = false from hc]; rfl) rfl
      | true =>
        refine bn (by rw [show isC (↑(s[i].toNat) : Int) = true from hc]; rfl) (nd rfl ?_)
        rw [show IntKind.wrap .i64 ((i : Int) + 1) = ((i + 1 : Nat) : Int) by rw [w64 (by omega)]; omega]
        rw [e2, hc, Bool.true_and]
        exact pr_loop n s hb m (i + 1) (byteT T (bi s[i])) _ (by omega) (by omega) (hR.byte hc)
    · rw [List.drop_of_length_le (by omega)]
      refine bnd (by omega) ?_
      rw [need_pos hR.g0, hR.all]
      rfl
theorem pr_ok (s : List UInt8) (hb : s.length ≤ 140737488355328) : ∃ n, fnY SPr loopY [.hole .str] [tyR, .bool] n 10 [⟨.str, s⟩] = some [⟨tyR, prT s⟩, ⟨.bool, isS s⟩] := by
  refine ⟨s.length + 1, ?_⟩
  rw [Pr_fn]
  refine nd hb (nd rfl ?_)
  exact pr_loop (s.length + 1) s hb (s.length + 1) 0 [] _ (by omega) (by omega) rep_nil
def cPr : Ctr := ctr1 .str [tyR, .bool] (fun (s : List UInt8) => [decide (s.length ≤ 140737488355328)]) fun (s : List UInt8) => [⟨tyR, prT s⟩, ⟨.bool, isS s⟩]
theorem cPr_ok : CtrOk EP 10 cPr := ctr1_ok (S := SPr) (t := .str) (S_ok c1_ok m3_ok) (fun _ => rfl) rfl fun (s : List UInt8) h => pr_ok s (by simpa using h)
end Go.Proofs.YtbbkdhlfgekagaaDoor

namespace Go.Proofs.YtbbkdhlfgekagaaDoor
open Go Go.Am
set_option linter.unusedVariables false
def Wr_T0 : Tm := { tmps := [(13, (.hole (.int .i64))), (12, (.hole (.int .i64))), (11, (.hole (.list 33 (.list 3 (.int .i64))))), (4, .h 0), (3, (.func 31 [] []))], objs := [.lst 9 .str true], prep := [(4, 9)] }
def Wr_T2 : Tm := { tmps := [(19, (.hole (.int .i64))), (18, (.hole (.int .i64))), (17, (.hole (.list 3 (.int .i64)))), (7, .h 1), (13, (.hole (.int .i64))), (12, (.hole (.int .i64))), (11, (.hole (.list 33 (.list 3 (.int .i64))))), (4, (.h 0)), (3, (.func 31 [] []))], objs := [.lst 9 .str true, .lst 9 .str true], prep := [(7, 9)] }
def tmWr : FuncId → Nat → Option Tm := fun g i => match Nat.beq g 11 with
  | true => match Nat.beq i 0 with | true => some Wr_T0 | false => match Nat.beq i 2 with | true => some Wr_T2 | false => none
  | false => none
noncomputable def SWr : SE := { E := Go.Proofs.YtbbkdhlfgekagaaDoor.EP, ctr := Go.Proofs.YtbbkdhlfgekagaaDoor.c1, tm := tmWr, un := 300, ctrM := Go.Proofs.YtbbkdhlfgekagaaDoor.m3 }
theorem Wr_L0 (n : Nat) (nx : Nat → List Dy → Option (List Dy)) (m : Nat) (l0 : List (List UInt8)) (n1 : Int) (n2 : Int) (l3 : List (List Int)) :
    RL SWr [.str] n 11 0 nx (m + 1) [⟨(.list 9 .str), l0⟩, ⟨(.int .i64), n1⟩, ⟨(.int .i64), n2⟩, ⟨(.list 33 (.list 3 (.int .i64))), l3⟩] =
    (bif (Decidable.decide (n1 < n2)) then
      need (Decidable.decide ((0 : Int) ≤ n1)) <|
      need (Decidable.decide (n1 < (↑(List.length l3) : Int))) <|
      need (Decidable.decide (Int.toNat n1 < List.length l3)) <|
      RL SWr [.str] n 11 2 (updNx nx 0 (RL SWr [.str] n 11 0 nx m)) n [⟨(.list 9 .str), (l0 : List (List UInt8))⟩, ⟨(.list 9 .str), ([] : List (List UInt8))⟩, ⟨(.int .i64), ((0 : Int) : Int)⟩, ⟨(.int .i64), ((↑(List.length (List.getD l3 (Int.toNat n1) [])) : Int) : Int)⟩, ⟨(.list 3 (.int .i64)), (List.getD l3 (Int.toNat n1) [] : List Int)⟩, ⟨(.int .i64), (n1 : Int)⟩, ⟨(.int .i64), (n2 : Int)⟩, ⟨(.list 33 (.list 3 (.int .i64))), (l3 : List (List Int))⟩]
    else
      need (Decidable.decide (List.length l0 ≤ (140737488355328 : Nat))) <|
      need (Decidable.decide (List.length (Go.Lib.join l0 [(59 : UInt8)]) ≤ (140737488355328 : Nat))) <|
      some [⟨.str, (Go.Lib.join l0 [(59 : UInt8)] : List UInt8)⟩]) := by kernel_rfl
theorem Wr_L2 (n : Nat) (nx : Nat → List Dy → Option (List Dy)) (m : Nat) (l0 : List (List UInt8)) (l1 : List (List UInt8)) (n2 : Int) (n3 : Int) (l4 : List Int) (n5 : Int) (n6 : Int) (l7 : List (List Int)) :
    RL SWr [.str] n 11 2 nx (m + 1) [⟨(.list 9 .str), l0⟩, ⟨(.list 9 .str), l1⟩, ⟨(.int .i64), n2⟩, ⟨(.int .i64), n3⟩, ⟨(.list 3 (.int .i64)), l4⟩, ⟨(.int .i64), n5⟩, ⟨(.int .i64), n6⟩, ⟨(.list 33 (.list 3 (.int .i64))), l7⟩] =
    (bif (Decidable.decide (n2 < n3)) then
      need (Decidable.decide ((0 : Int) ≤ n2)) <|
      need (Decidable.decide (n2 < (↑(List.length l4) : Int))) <|
      need (Decidable.decide (Int.toNat n2 < List.length l4)) <|
      bif (Decidable.decide ((0 : Int) ≤ List.getD l4 (Int.toNat n2) (0 : Int))) then
        need (Decidable.decide ((-9223372036854775808 : Int) ≤ List.getD l4 (Int.toNat n2) (0 : Int))) <|
        need (Decidable.decide (List.getD l4 (Int.toNat n2) (0 : Int) ≤ (9223372036854775807 : Int))) <|
        need (Decidable.decide ((List.length l1 + List.length [Go.Lib.itoa (List.getD l4 (Int.toNat n2) (0 : Int))]) * (16 : Nat) ≤ (140737488355328 : Nat))) <|
        need (Decidable.decide (List.length l1 + List.length [Go.Lib.itoa (List.getD l4 (Int.toNat n2) (0 : Int))] ≤ (140737488355328 : Nat))) <|
        RL SWr [.str] n 11 2 nx m [⟨(.list 9 .str), (l0 : List (List UInt8))⟩, ⟨(.list 9 .str), (l1 ++ [Go.Lib.itoa (List.getD l4 (Int.toNat n2) (0 : Int))] : List (List UInt8))⟩, ⟨(.int .i64), (Go.IntKind.wrap Go.IntKind.i64 (n2 + (1 : Int)) : Int)⟩, ⟨(.int .i64), (n3 : Int)⟩, ⟨(.list 3 (.int .i64)), (l4 : List Int)⟩, ⟨(.int .i64), (n5 : Int)⟩, ⟨(.int .i64), (n6 : Int)⟩, ⟨(.list 33 (.list 3 (.int .i64))), (l7 : List (List Int))⟩]
      else
        need (Decidable.decide ((List.length l1 + (1 : Nat)) * (16 : Nat) ≤ (140737488355328 : Nat))) <|
        need (Decidable.decide (List.length l1 + (1 : Nat) ≤ (140737488355328 : Nat))) <|
        RL SWr [.str] n 11 2 nx m [⟨(.list 9 .str), (l0 : List (List UInt8))⟩, ⟨(.list 9 .str), (l1 ++ [[]] : List (List UInt8))⟩, ⟨(.int .i64), (Go.IntKind.wrap Go.IntKind.i64 (n2 + (1 : Int)) : Int)⟩, ⟨(.int .i64), (n3 : Int)⟩, ⟨(.list 3 (.int .i64)), (l4 : List Int)⟩, ⟨(.int .i64), (n5 : Int)⟩, ⟨(.int .i64), (n6 : Int)⟩, ⟨(.list 33 (.list 3 (.int .i64))), (l7 : List (List Int))⟩]
    else
      need (Decidable.decide (List.length l1 ≤ (140737488355328 : Nat))) <|
      need (Decidable.decide (List.length (Go.Lib.join l1 [(58 : UInt8)]) ≤ (140737488355328 : Nat))) <|
      need (Decidable.decide ((List.length l0 + List.length [Go.Lib.join l1 [(58 : UInt8)]]) * (16 : Nat) ≤ (140737488355328 : Nat))) <|
      need (Decidable.decide (List.length l0 + List.length [Go.Lib.join l1 [(58 : UInt8)]] ≤ (140737488355328 : Nat))) <|
      nx 0 [⟨(.list 9 .str), (l0 ++ [Go.Lib.join l1 [(58 : UInt8)]] : List (List UInt8))⟩, ⟨(.int .i64), (Go.IntKind.wrap Go.IntKind.i64 (n5 + (1 : Int)) : Int)⟩, ⟨(.int .i64), (n6 : Int)⟩, ⟨(.list 33 (.list 3 (.int .i64))), (l7 : List (List Int))⟩]) := by kernel_rfl
theorem Wr_fn (n : Nat) (l0 : List (List Int)) :
    fnY SWr loopY [(.hole (.list 33 (.list 3 (.int .i64))))] [.str] n 11 [⟨(.list 33 (.list 3 (.int .i64))), l0⟩] =
    (RL SWr [.str] n 11 0 noNx n [⟨(.list 9 .str), ([] : List (List UInt8))⟩, ⟨(.int .i64), ((0 : Int) : Int)⟩, ⟨(.int .i64), ((↑(List.length l0) : Int) : Int)⟩, ⟨(.list 33 (.list 3 (.int .i64))), (l0 : List (List Int))⟩]) := by kernel_rfl

end Go.Proofs.YtbbkdhlfgekagaaDoor

namespace Go.Proofs.YtbbkdhlfgekagaaDoor
open Go Go.Am

def wrN (x : Int) : List UInt8 := if 0 ≤ x then Lib.itoa x else []
def wrR (r : List Int) : List UInt8 := Lib.join (r.map wrN) [58]
def wrT (T : List (List Int)) : List UInt8 := Lib.join (T.map wrR) [59]
def gWr (T : List (List Int)) : Bool := decide (T.length ≤ 1000) && T.all fun r => decide (r.length ≤ 1000) && r.all fun x => decide (x ≤ 65535)

theorem dec_len : ∀ (k u : Nat), u < 10 ^ (k + 1) → (Lib.decDigits u).length ≤ k + 1
  | 0, u, h => by rw [Lib.decDigits, dif_pos (by omega)]; simp
  | k + 1, u, h => by
    rw [Lib.decDigits]
    split
    · simp
    · rw [List.length_append, List.length_singleton]
      have := dec_len k (u / 10) (by rw [Nat.pow_succ] at h; omega)
      omega
theorem wrN_len {x : Int} (h : x ≤ 65535) : (wrN x).length ≤ 5 := by
  unfold wrN
  split
  · unfold Lib.itoa
    rw [if_neg (by omega)]
    exact dec_len 4 _ (by omega)
  · simp
theorem join_len {k : Nat} {c : UInt8} : ∀ {l : List (List UInt8)}, (∀ x ∈ l, x.length ≤ k) → (Lib.join l [c]).length ≤ l.length * (k + 1)
  | [], _ => by simp [Lib.join]
  | [a], h => by have := h a (by simp); simp [Lib.join]; omega
  | a :: b :: l, h => by
    have h1 := h a (by simp)
    have h2 := join_len (c := c) (l := b :: l) (k := k) fun x hx => h x (by simp [hx])
    have e : Lib.join (a :: b :: l) [c] = a ++ [c] ++ Lib.join (b :: l) [c] := by simp [Lib.join, List.intercalate]
    rw [e, List.length_append, List.length_append, List.length_singleton, List.length_cons, Nat.succ_mul]
    omega
theorem wrR_len {r : List Int} (h : r.length ≤ 1000) (hx : ∀ x ∈ r, x ≤ 65535) : (wrR r).length ≤ 6000 := by
  have := join_len (c := 58) (k := 5) (l := r.map wrN) fun y hy => by
    obtain ⟨x, hm, rfl⟩ := List.mem_map.1 hy
    exact wrN_len (hx x hm)
  unfold wrR
  rw [List.length_map] at this
  omega
theorem wrT_len {T : List (List Int)} (h : gWr T = true) : (wrT T).length ≤ 6001000 := by
  unfold gWr at h
  simp only [Bool.and_eq_true, decide_eq_true_eq, List.all_eq_true] at h
  have := join_len (c := 59) (k := 6000) (l := T.map wrR) fun y hy => by
    obtain ⟨r, hm, rfl⟩ := List.mem_map.1 hy
    exact wrR_len (h.2 r hm).1 (h.2 r hm).2
  unfold wrT
  rw [List.length_map] at this
  omega
theorem wr_row (n : Nat) (nx : Nat → List Dy → Option (List Dy)) (l0 : List (List UInt8)) (r : List Int) (n5 n6 : Int) (T : List (List Int)) (hr : r.length ≤ 1000) (hx : ∀ x ∈ r, x ≤ 65535) (h0 : l0.length ≤ 1000) : ∀ (m i : Nat) (acc : List (List UInt8)), i ≤ r.length → r.length < i + m → acc = (r.take i).map wrN →
    RL SWr [.str] n 11 2 nx m [⟨.list 9 .str, l0⟩, ⟨.list 9 .str, acc⟩, ⟨.int .i64, (i : Int)⟩, ⟨.int .i64, (r.length : Int)⟩, ⟨.list 3 (.int .i64), r⟩, ⟨.int .i64, n5⟩, ⟨.int .i64, n6⟩, ⟨tyR, T⟩] =
    nx 0 [⟨.list 9 .str, l0 ++ [wrR r]⟩, ⟨.int .i64, IntKind.wrap .i64 (n5 + 1)⟩, ⟨.int .i64, n6⟩, ⟨tyR, T⟩]
  | 0, i, acc, h1, h2, _ => by omega
  | m + 1, i, acc, h1, h2, ha => by
    have hal : acc.length = i := by rw [ha, List.length_map, List.length_take]; omega
    rw [Wr_L2]
    by_cases hi : i < r.length
    · rw [Int.toNat_natCast]
      have e0 : r.getD i 0 = r[i] := by rw [List.getD_eq_getElem?_getD, List.getElem?_eq_getElem hi]; rfl
      have hb := hx r[i] (List.getElem_mem hi)
      have ew : IntKind.wrap .i64 ((i : Int) + 1) = ((i + 1 : Nat) : Int) := by rw [w64 (by omega)]; omega
      have et : acc ++ [wrN r[i]] = (r.take (i + 1)).map wrN := by rw [ha, List.take_succ_eq_append_getElem hi, List.map_append]; rfl
      rw [e0, ew]
      refine bpd (by omega) (nd (by omega) (nd (by omega) (nd hi ?_)))
      by_cases hp : 0 ≤ r[i]
      · have e : Lib.itoa r[i] = wrN r[i] := by unfold wrN; rw [if_pos hp]
        rw [e]
        refine bpd hp (nd (by omega) (nd (by omega) (nd (by rw [hal]; simp; omega) (nd (by rw [hal]; simp; omega) ?_))))
        exact wr_row n nx l0 r n5 n6 T hr hx h0 m (i + 1) _ (by omega) (by omega) et
      · have e : ([] : List UInt8) = wrN r[i] := by unfold wrN; rw [if_neg hp]
        rw [e]
        refine bnd hp (nd (by omega) (nd (by omega) ?_))
        exact wr_row n nx l0 r n5 n6 T hr hx h0 m (i + 1) _ (by omega) (by omega) et
    · have e : acc = r.map wrN := by rw [ha, List.take_of_length_le (by omega)]
      have ej : Lib.join acc [58] = wrR r := by rw [e]; rfl
      have hw := wrR_len hr hx
      rw [ej]
      exact bnd (by omega) (nd (by omega) (nd (by omega) (nd (by simp; omega) (nd (by simp; omega) rfl))))
theorem wr_loop (n : Nat) (T : List (List Int)) (h : gWr T = true) (hn : 1000 < n) : ∀ (m i : Nat) (acc : List (List UInt8)), i ≤ T.length → T.length < i + m → acc = (T.take i).map wrR →
    RL SWr [.str] n 11 0 noNx m [⟨.list 9 .str, acc⟩, ⟨.int .i64, (i : Int)⟩, ⟨.int .i64, (T.length : Int)⟩, ⟨tyR, T⟩] = some [⟨.str, wrT T⟩]
  | 0, i, acc, h1, h2, _ => by omega
  | m + 1, i, acc, h1, h2, ha => by
    have hal : acc.length = i := by rw [ha, List.length_map, List.length_take]; omega
    have hg := h
    unfold gWr at hg
    simp only [Bool.and_eq_true, decide_eq_true_eq, List.all_eq_true] at hg
    rw [Wr_L0]
    by_cases hi : i < T.length
    · rw [Int.toNat_natCast]
      have e0 : T.getD i [] = T[i] := by rw [List.getD_eq_getElem?_getD, List.getElem?_eq_getElem hi]; rfl
      have hr := hg.2 T[i] (List.getElem_mem hi)
      rw [e0]
      refine bpd (by omega) (nd (by omega) (nd (by omega) (nd hi ?_)))
      have := wr_row n (updNx noNx 0 (RL SWr [.str] n 11 0 noNx m)) acc T[i] (i : Int) (T.length : Int) T hr.1 hr.2 (by omega) n 0 [] (by omega) (by omega) rfl
      refine Eq.trans this ?_
      show RL SWr [.str] n 11 0 noNx m _ = _
      rw [show IntKind.wrap .i64 ((i : Int) + 1) = ((i + 1 : Nat) : Int) by rw [w64 (by omega)]; omega]
      exact wr_loop n T h hn m (i + 1) _ (by omega) (by omega) (by rw [ha, List.take_succ_eq_append_getElem hi, List.map_append]; rfl)
    · have e : acc = T.map wrR := by rw [ha, List.take_of_length_le (by omega)]
      have ej : Lib.join acc [59] = wrT T := by rw [e]; rfl
      have hw := wrT_len h
      rw [ej]
      exact bnd (by omega) (nd (by omega) (nd (by omega) rfl))
theorem wr_ok (T : List (List Int)) (h : gWr T = true) : ∃ n, fnY SWr loopY [.hole tyR] [.str] n 11 [⟨tyR, T⟩] = some [⟨.str, wrT T⟩] := by
  have hg := h
  unfold gWr at hg
  simp only [Bool.and_eq_true, decide_eq_true_eq, List.all_eq_true] at hg
  refine ⟨1001, ?_⟩
  rw [Wr_fn]
  exact wr_loop 1001 T h (by omega) 1001 0 [] (by omega) (by omega) rfl
def cWr : Ctr := ctr1 tyR [.str] (fun (T : List (List Int)) => [gWr T]) fun (T : List (List Int)) => [⟨.str, wrT T⟩]
theorem cWr_ok : CtrOk EP 11 cWr := ctr1_ok (S := SWr) (t := tyR) (S_ok c1_ok m3_ok) (fun _ => rfl) rfl fun (T : List (List Int)) h => wr_ok T (by simpa using h)
def c2 : FuncId → List Ctr := addCtr (addCtr (addCtr c1 12 cSm) 10 cPr) 11 cWr
theorem c2_ok : ∀ g ct, ct ∈ c2 g → CtrOk EP g ct := addCtr_ok (addCtr_ok (addCtr_ok c1_ok cSm_ok) cPr_ok) cWr_ok
end Go.Proofs.YtbbkdhlfgekagaaDoor

namespace Go.Proofs.YtbbkdhlfgekagaaDoor
open Go Go.Am

def drA (b : UInt8) : UInt8 := UInt8.ofNat (Int.toNat (↑(UInt8.toNat (List.getD [(48 : UInt8), (49 : UInt8), (50 : UInt8), (51 : UInt8), (52 : UInt8), (53 : UInt8), (54 : UInt8), (55 : UInt8), (56 : UInt8), (57 : UInt8), (59 : UInt8), (59 : UInt8), (58 : UInt8), (58 : UInt8), (57 : UInt8), (59 : UInt8)] (Int.toNat (Int.tmod (Go.IntKind.wrap Go.IntKind.i64 (↑(UInt8.toNat b) : Int)) (16 : Int))) (UInt8.ofNat (0 : Nat)))) : Int))
def drC (b : UInt8) : UInt8 := UInt8.ofNat (Int.toNat (↑(UInt8.toNat (List.getD [(48 : UInt8), (49 : UInt8), (50 : UInt8), (51 : UInt8), (52 : UInt8), (53 : UInt8), (54 : UInt8), (55 : UInt8), (56 : UInt8), (57 : UInt8), (59 : UInt8), (59 : UInt8), (59 : UInt8), (58 : UInt8), (58 : UInt8), (49 : UInt8), (50 : UInt8), (47 : UInt8), (120 : UInt8)] (Int.toNat (Int.tmod (Go.IntKind.wrap Go.IntKind.i64 (↑(UInt8.toNat b) : Int)) (19 : Int))) (UInt8.ofNat (0 : Nat)))) : Int))
def drB (b : UInt8) : UInt8 := if (b.toNat : Int) < 240 then drA b else drC b
def drS (s : List UInt8) : List UInt8 := (s.take 400).map drB
theorem u8_nat (b : UInt8) : b.toNat < 256 := b.toNat_lt
theorem dr_loop (n : Nat) (s : List UInt8) : ∀ (m i : Nat) (acc : List UInt8), i ≤ 400 → i ≤ s.length → 400 < i + m → acc = (s.take i).map drB →
    RL SDr [.str] n 9 0 noNx m [⟨.list 5 .byte, acc⟩, ⟨.int .i64, (i : Int)⟩, ⟨.list 5 .byte, s⟩] = some [⟨.str, drS s⟩]
  | 0, i, acc, h1, _, h2, _ => by omega
  | m + 1, i, acc, h1, h3, h2, ha => by
    have hal : acc.length = i := by rw [ha, List.length_map, List.length_take]; omega
    rw [Dr_L0]
    by_cases hi : i < s.length ∧ i < 400
    · rw [Int.toNat_natCast]
      obtain ⟨hi, h4⟩ := hi
      have e0 : s.getD i (UInt8.ofNat 0) = s[i] := by rw [List.getD_eq_getElem?_getD, List.getElem?_eq_getElem hi]; rfl
      have hu := u8_nat s[i]
      have et : acc ++ [drB s[i]] = (s.take (i + 1)).map drB := by rw [ha, List.take_succ_eq_append_getElem hi, List.map_append]; rfl
      have ew : IntKind.wrap .i64 ((i : Int) + 1) = ((i + 1 : Nat) : Int) := by rw [w64 (by omega)]; omega
      have ew2 : IntKind.wrap .i64 (s[i].toNat : Int) = (s[i].toNat : Int) := w64 (by omega)
      have hm19 : 0 ≤ Int.tmod (IntKind.wrap .i64 (s[i].toNat : Int)) 19 ∧ Int.tmod (IntKind.wrap .i64 (s[i].toNat : Int)) 19 < 19 := by
        rw [ew2, Int.tmod_eq_emod_of_nonneg (by omega)]; omega
      have hm16 : 0 ≤ Int.tmod (IntKind.wrap .i64 (s[i].toNat : Int)) 16 ∧ Int.tmod (IntKind.wrap .i64 (s[i].toNat : Int)) 16 < 16 := by
        rw [ew2, Int.tmod_eq_emod_of_nonneg (by omega)]; omega
      rw [e0, ew]
      refine bp (by rw [Bool.and_eq_true, decide_eq_true_eq, decide_eq_true_eq]; omega) (nd (by omega) (nd (by omega) (nd hi (nd hm19.1 (nd hm19.2 (nd (by omega) (nd (by omega) (nd hi ?_))))))))
      by_cases h240 : (s[i].toNat : Int) < 240
      · have e : drA s[i] = drB s[i] := by unfold drB; rw [if_pos h240]
        refine bpd h240 (nd (by omega) (nd (by omega) (nd hi (nd hm16.1 (nd hm16.2 (nd (by have := u8_nat (List.getD [(48 : UInt8), (49 : UInt8), (50 : UInt8), (51 : UInt8), (52 : UInt8), (53 : UInt8), (54 : UInt8), (55 : UInt8), (56 : UInt8), (57 : UInt8), (59 : UInt8), (59 : UInt8), (58 : UInt8), (58 : UInt8), (57 : UInt8), (59 : UInt8)] (Int.toNat (Int.tmod (Go.IntKind.wrap Go.IntKind.i64 (↑(UInt8.toNat s[i]) : Int)) (16 : Int))) (UInt8.ofNat (0 : Nat))); omega) (nd (by rw [hal]; simp only [List.length_singleton]; omega) (nd (by rw [hal]; simp only [List.length_singleton]; omega) ?_))))))))
        show RL SDr [.str] n 9 0 noNx m [⟨.list 5 .byte, acc ++ [drA s[i]]⟩, _, _] = _
        rw [e]
        exact dr_loop n s m (i + 1) _ (by omega) (by omega) (by omega) et
      · have e : drC s[i] = drB s[i] := by unfold drB; rw [if_neg h240]
        refine bnd h240 (nd (by have := u8_nat (List.getD [(48 : UInt8), (49 : UInt8), (50 : UInt8), (51 : UInt8), (52 : UInt8), (53 : UInt8), (54 : UInt8), (55 : UInt8), (56 : UInt8), (57 : UInt8), (59 : UInt8), (59 : UInt8), (59 : UInt8), (58 : UInt8), (58 : UInt8), (49 : UInt8), (50 : UInt8), (47 : UInt8), (120 : UInt8)] (Int.toNat (Int.tmod (Go.IntKind.wrap Go.IntKind.i64 (↑(UInt8.toNat s[i]) : Int)) (19 : Int))) (UInt8.ofNat (0 : Nat))); omega) (nd (by rw [hal]; simp only [List.length_singleton]; omega) (nd (by rw [hal]; simp only [List.length_singleton]; omega) ?_)))
        show RL SDr [.str] n 9 0 noNx m [⟨.list 5 .byte, acc ++ [drC s[i]]⟩, _, _] = _
        rw [e]
        exact dr_loop n s m (i + 1) _ (by omega) (by omega) (by omega) et
    · refine bn (by rw [Bool.and_eq_false_iff, decide_eq_false_iff_not, decide_eq_false_iff_not]; omega) ?_
      rw [ha]
      unfold drS
      congr 4
      by_cases h : i = 400
      · rw [h]
      · rw [List.take_of_length_le (by omega), List.take_of_length_le (by omega)]
theorem dr_ok (s : List UInt8) : ∃ n, fnY SDr loopY [.hole (.list 5 .byte)] [.str] n 9 [⟨.list 5 .byte, s⟩] = some [⟨.str, drS s⟩] := by
  refine ⟨401, ?_⟩
  rw [Dr_fn]
  exact dr_loop 401 s 401 0 [] (by omega) (by omega) (by omega) rfl
def cDr : Ctr := ctr1 (.list 5 .byte) [.str] (fun (_ : List UInt8) => []) fun (s : List UInt8) => [⟨.str, drS s⟩]
theorem cDr_ok : CtrOk EP 9 cDr := ctr1_ok (S := SDr) (t := .list 5 .byte) (S_ok c0_ok m0_ok) (fun _ => rfl) rfl fun (s : List UInt8) _ => dr_ok s
theorem drS_len (s : List UInt8) : (drS s).length ≤ 400 := by unfold drS; rw [List.length_map, List.length_take]; omega
def c3 : FuncId → List Ctr := addCtr c2 9 cDr
theorem c3_ok : ∀ g ct, ct ∈ c3 g → CtrOk EP g ct := addCtr_ok c2_ok cDr_ok
end Go.Proofs.YtbbkdhlfgekagaaDoor

namespace Go.Proofs.YtbbkdhlfgekagaaDoor
open Go Go.Am

theorem own_go : ∀ (n : Nat) (l : List UInt8), isS (Lib.mapGoD ownF n l) = true ∧ (Lib.mapGoD ownF n l).length ≤ n
  | 0, l => ⟨rfl, Nat.le_refl _⟩
  | n + 1, l => by
    unfold Lib.mapGoD
    split
    · exact ⟨rfl, Nat.zero_le _⟩
    obtain ⟨h1, h2⟩ := own_go n (l.drop (Lib.decodeL l).2)
    generalize hr : (Lib.decodeL l).1 = r
    have hf : ownF r = -1 ∨ (48 ≤ ownF r ∧ ownF r ≤ 59) := by unfold ownF; split <;> omega
    rcases hf with e | ⟨e1, e2⟩
    · rw [e, if_neg (by omega), List.nil_append]
      exact ⟨h1, by omega⟩
    · rw [if_pos (by omega)]
      unfold Lib.encodeRune
      rw [Lib.encodeRuneZ_one (by omega) (by omega)]
      generalize ownF r = z at e1 e2
      obtain ⟨k, rfl⟩ : ∃ k : Nat, z = (k : Int) := ⟨z.toNat, by omega⟩
      have hk : (((k : Int).toNat.toUInt8 : UInt8).toNat : Int) = (k : Int) := by
        rw [Int.toNat_natCast]
        have : (k.toUInt8).toNat = k % 256 := by simp
        omega
      refine ⟨?_, by simp; omega⟩
      show (isC (bi (k : Int).toNat.toUInt8) && isS (Lib.mapGoD ownF n _)) = true
      rw [h1, Bool.and_true]
      unfold bi isC
      rw [hk]
      simp
      omega
def ownS (s : List UInt8) : List UInt8 := Lib.mapD ownF (drS s)
theorem ownS_is (s : List UInt8) : isS (ownS s) = true := (own_go _ _).1
theorem ownS_len (s : List UInt8) : (ownS s).length ≤ 400 := Nat.le_trans (own_go _ _).2 (drS_len s)

theorem isS_cons {b : UInt8} {s : List UInt8} : isS (b :: s) = (isC (bi b) && isS s) := rfl
theorem isS_app {a b : List UInt8} : isS (a ++ b) = (isS a && isS b) := by unfold isS; rw [List.all_append]
theorem readT_app {T : List (List Int)} {a b : List UInt8} : readT T (a ++ b) = readT (readT T a) b := by unfold readT; rw [List.foldl_append]
theorem readT_cons {T : List (List Int)} {b : UInt8} {s : List UInt8} : readT T (b :: s) = readT (byteT T (bi b)) s := rfl
def okT (T : List (List Int)) : Prop := ∀ r ∈ T, r ≠ [] ∧ ∀ x ∈ r, -1 ≤ x ∧ x ≤ 65535
theorem okT_app {A B : List (List Int)} : okT (A ++ B) ↔ okT A ∧ okT B := by
  unfold okT
  constructor
  · intro h
    exact ⟨fun r hr => h r (List.mem_append_left _ hr), fun r hr => h r (List.mem_append_right _ hr)⟩
  · intro h r hr
    rcases List.mem_append.1 hr with h1 | h1
    · exact h.1 r h1
    · exact h.2 r h1
theorem okT_one {r : List Int} : okT [r] ↔ r ≠ [] ∧ ∀ x ∈ r, -1 ≤ x ∧ x ≤ 65535 := by simp [okT]
theorem okT_start {T : List (List Int)} (h : okT T) : okT (startT T) := by
  unfold startT
  split
  · exact okT_one.2 ⟨by simp, by simp⟩
  · exact h
theorem digV_in {x c : Int} (h : -1 ≤ x ∧ x ≤ 65535) (hc : 48 ≤ c ∧ c ≤ 57) : digV x c = if 65535 < (if x < 0 then 0 else x) * 10 + (c - 48) then 65535 else (if x < 0 then 0 else x) * 10 + (c - 48) := by
  have e : digW x c = (if x < 0 then 0 else x) * 10 + (c - 48) := by
    unfold digW
    have e1 : IntKind.wrap .u8 (c - 48) = c - 48 := by
      obtain ⟨k, hk, hk2⟩ : ∃ k : Nat, c - 48 = (k : Int) ∧ k < 10 := ⟨(c - 48).toNat, by omega, by omega⟩
      rw [hk]
      have : ∀ k : Nat, k < 10 → IntKind.wrap .u8 (k : Int) = (k : Int) := by decide
      exact this k hk2
    rw [e1]
    have e2 : ∀ y : Int, 0 ≤ y → y ≤ 65535 → IntKind.wrap .i64 (IntKind.wrap .i64 (y * 10) + IntKind.wrap .i64 (c - 48)) = y * 10 + (c - 48) := fun y h1 h2 => by
      rw [w64 (n := y * 10) (by omega), w64 (n := c - 48) (by omega), w64 (by omega)]
    split
    · exact e2 0 (by omega) (by omega)
    · exact e2 x (by omega) h.2
  unfold digV
  rw [e]
theorem digV_ok {x c : Int} (h : -1 ≤ x ∧ x ≤ 65535) (hc : 48 ≤ c ∧ c ≤ 57) : -1 ≤ digV x c ∧ digV x c ≤ 65535 := by
  rw [digV_in h hc]
  split <;> split <;> omega
theorem isC_at {c : Int} (h : isC c = true) : 48 ≤ c ∧ c ≤ 59 := by
  simp [isC] at h
  omega
theorem lastT_in {f : List Int → List Int} {T : List (List Int)} (h : T ≠ []) : ∃ I r, T = I ++ [r] ∧ lastT f T = I ++ [f r] := by
  obtain ⟨I, r, e⟩ := cons_last h
  exact ⟨I, r, e, by rw [e, lastT_app]⟩
theorem okT_byte {T : List (List Int)} {c : Int} (h : okT T) (hc : isC c = true) : okT (byteT T c) := by
  have h1 := okT_start h
  have hc := isC_at hc
  unfold byteT
  split
  · exact okT_app.2 ⟨h1, okT_one.2 ⟨by simp, by simp⟩⟩
  · split
    · unfold subT
      obtain ⟨I, r, e, e2⟩ := lastT_in (f := fun r => r ++ [-1]) (startT_ne (T := T))
      rw [e2]
      rw [e, okT_app, okT_one] at h1
      refine okT_app.2 ⟨h1.1, okT_one.2 ⟨by simp, fun x hx => ?_⟩⟩
      rcases List.mem_append.1 hx with hx | hx
      · exact h1.2.2 x hx
      · simp at hx; omega
    · unfold digT
      obtain ⟨I, r, e, e2⟩ := lastT_in (f := fun r => r.dropLast ++ [digV (r.getLast?.getD 0) c]) (startT_ne (T := T))
      rw [e2]
      rw [e, okT_app, okT_one] at h1
      refine okT_app.2 ⟨h1.1, okT_one.2 ⟨by simp, fun x hx => ?_⟩⟩
      rcases List.mem_append.1 hx with hx | hx
      · exact h1.2.2 x (List.dropLast_subset _ hx)
      · obtain ⟨q, y, rfl⟩ : ∃ q y, r = q ++ [y] := ⟨r.dropLast, r.getLast h1.2.1, (List.dropLast_concat_getLast h1.2.1).symm⟩
        simp only [List.getLast?_concat, Option.getD_some, List.mem_singleton] at hx
        subst hx
        exact digV_ok (h1.2.2 y (by simp)) (by omega)
theorem okT_read : ∀ {s : List UInt8} {T : List (List Int)}, okT T → isS s = true → okT (readT T s)
  | [], T, h, _ => h
  | b :: s, T, h, hs => by
    rw [isS_cons, Bool.and_eq_true] at hs
    rw [readT_cons]
    exact okT_read (okT_byte h hs.1) hs.2
theorem byteT_len {T : List (List Int)} {c : Int} : (byteT T c).length = (startT T).length + if c = 59 then 1 else 0 := by
  unfold byteT
  split
  · simp
  · split
    · unfold subT
      obtain ⟨I, r, e, e2⟩ := lastT_in (f := fun r => r ++ [-1]) (startT_ne (T := T))
      rw [e2, e]; simp
    · unfold digT
      obtain ⟨I, r, e, e2⟩ := lastT_in (f := fun r => r.dropLast ++ [digV (r.getLast?.getD 0) c]) (startT_ne (T := T))
      rw [e2, e]; simp
theorem startT_id {T : List (List Int)} (h : T ≠ []) : startT T = T := by unfold startT; rw [if_neg h]
theorem byteT_ne {T : List (List Int)} {c : Int} : byteT T c ≠ [] := by
  intro e
  have := byteT_len (T := T) (c := c)
  have h2 : (startT T).length ≠ 0 := fun q => startT_ne (List.length_eq_zero_iff.1 q)
  rw [e] at this
  simp at this
  omega
def cnt (s : List UInt8) : Nat := Lib.countByte s 59
theorem cnt_cons {b : UInt8} {s : List UInt8} : cnt (b :: s) = (if bi b = 59 then 1 else 0) + cnt s := by
  unfold cnt Lib.countByte bi
  by_cases h : b = 59
  · subst h; simp [Nat.add_comm]
  · have h2 : ¬ ((b.toNat : Int) = 59) := fun e => h (UInt8.toNat_inj.1 (by simpa using (by omega : b.toNat = 59)))
    simp [h, h2]
theorem cnt_le : ∀ {s : List UInt8}, cnt s ≤ s.length
  | [] => by simp [cnt, Lib.countByte]
  | b :: s => by
    rw [cnt_cons, List.length_cons]
    have := cnt_le (s := s)
    split <;> omega
theorem readT_len : ∀ {s : List UInt8} {T : List (List Int)}, T ≠ [] → (readT T s).length = T.length + cnt s ∧ readT T s ≠ []
  | [], T, h => ⟨by simp [readT, cnt, Lib.countByte], h⟩
  | b :: s, T, h => by
    rw [readT_cons]
    have := readT_len (s := s) (T := byteT T (bi b)) byteT_ne
    rw [byteT_len, startT_id h] at this
    refine ⟨?_, this.2⟩
    rw [this.1, cnt_cons]
    omega
theorem readT_len0 {s : List UInt8} (h : s ≠ []) : (readT [] s).length = 1 + cnt s ∧ readT [] s ≠ [] := by
  match s, h with
  | b :: s, _ =>
    rw [readT_cons]
    have := readT_len (s := s) (T := byteT [] (bi b)) byteT_ne
    rw [byteT_len, show startT [] = [[-1]] from rfl] at this
    refine ⟨?_, this.2⟩
    rw [this.1, cnt_cons]
    simp
    omega
theorem readT_pre : ∀ {s : List UInt8} {T : List (List Int)}, T.dropLast <+: readT T s
  | [], T => List.dropLast_prefix T
  | b :: s, T => by
    rw [readT_cons]
    have ih := readT_pre (s := s) (T := byteT T (bi b))
    refine List.IsPrefix.trans (l₂ := (startT T).dropLast) ?_ (List.IsPrefix.trans ?_ ih)
    · by_cases h : T = []
      · subst h; exact List.nil_prefix
      · rw [startT_id h]; exact List.prefix_rfl
    · unfold byteT
      split
      · rw [List.dropLast_concat]; exact List.dropLast_prefix _
      · split
        · unfold subT
          obtain ⟨I, r, e, e2⟩ := lastT_in (f := fun r => r ++ [-1]) (startT_ne (T := T))
          rw [e2, e, List.dropLast_concat, List.dropLast_concat]; exact List.prefix_rfl
        · unfold digT
          obtain ⟨I, r, e, e2⟩ := lastT_in (f := fun r => r.dropLast ++ [digV (r.getLast?.getD 0) (bi b)]) (startT_ne (T := T))
          rw [e2, e, List.dropLast_concat, List.dropLast_concat]; exact List.prefix_rfl
theorem cutT_len {T : List (List Int)} : (cutT T).length = min T.length 32 := by unfold cutT; rw [List.length_map, List.length_take]; omega
theorem cutT_at {T : List (List Int)} {i : Nat} (h : i < T.length) (h32 : i < 32) : (cutT T).getD i [] = (T[i]).take 8 := by
  unfold cutT
  rw [List.getD_eq_getElem?_getD, List.getElem?_map, List.getElem?_take, if_pos h32, List.getElem?_eq_getElem h]
  rfl
theorem cutT_row {T : List (List Int)} (h : okT T) {r : List Int} (hr : r ∈ cutT T) : 1 ≤ r.length ∧ r.length ≤ 8 ∧ ∀ x ∈ r, -1 ≤ x ∧ x ≤ 65535 := by
  unfold cutT at hr
  obtain ⟨q, hq, rfl⟩ := List.mem_map.1 hr
  have := h q (List.mem_of_mem_take hq)
  have hl : q.length ≠ 0 := fun e => this.1 (List.length_eq_zero_iff.1 e)
  rw [List.length_take]
  refine ⟨by omega, by omega, fun x hx => this.2 x (List.mem_of_mem_take hx)⟩
theorem okT_nil : okT [] := fun r hr => by cases hr
end Go.Proofs.YtbbkdhlfgekagaaDoor

namespace Go.Proofs.YtbbkdhlfgekagaaDoor
open Go Go.Am
set_option linter.unusedVariables false
def PB_T0 : Tm := { tmps := [(12, (.hole (.int .i64))), (11, .h 0), (1, (.hole (.list 34 (.list 35 (.int .u16)))))], objs := [.lst 33 (.list 3 (.int .i64)) true], prep := [(11, 33)] }
def PB_T2 : Tm := { tmps := [(14, (.hole (.int .i64))), (13, (.same (.sl 1 0 1 (.some 1)))), (12, (.hole (.int .i64))), (11, (.h 0)), (1, (.hole (.list 34 (.list 35 (.int .u16)))))], objs := [.lst 33 (.list 3 (.int .i64)) true, .cells [(.hole (.int .i64))] 3 true] }
def PB_T1000002 : Tm := { tmps := [(14, (.hole (.int .i64))), (13, (.h 3)), (12, (.hole (.int .i64))), (11, (.h 0)), (1, (.hole (.list 34 (.list 35 (.int .u16)))))], objs := [.lst 33 (.list 3 (.int .i64)) true, .dead, .dead, .lst 3 (.int .i64) true] }
def tmPB : FuncId → Nat → Option Tm := fun g i => match Nat.beq g 3 with
  | true => match Nat.beq i 0 with | true => some PB_T0 | false => match Nat.beq i 2 with | true => some PB_T2 | false => match Nat.beq i 1000002 with | true => some PB_T1000002 | false => none
  | false => none
noncomputable def SPB : SE := { E := Go.Proofs.YtbbkdhlfgekagaaDoor.EP, ctr := Go.Proofs.YtbbkdhlfgekagaaDoor.c3, tm := tmPB, un := 300, ctrM := Go.Proofs.YtbbkdhlfgekagaaDoor.m3 }
theorem PB_L0 (n : Nat) (nx : Nat → List Dy → Option (List Dy)) (m : Nat) (l0 : List (List Int)) (n1 : Int) (l2 : List (List Int)) :
    RL SPB [.bool] n 3 0 nx (m + 1) [⟨(.list 33 (.list 3 (.int .i64))), l0⟩, ⟨(.int .i64), n1⟩, ⟨(.list 34 (.list 35 (.int .u16))), l2⟩] =
    (bif (Decidable.decide (n1 < (↑(List.length l2) : Int)) && Decidable.decide (n1 < (32 : Int))) then
      RL SPB [.bool] n 3 2 (updNx nx 0 (RL SPB [.bool] n 3 0 nx m)) n [⟨(.list 33 (.list 3 (.int .i64))), (l0 : List (List Int))⟩, ⟨(.int .i64), ((-1 : Int) : Int)⟩, ⟨(.int .i64), ((0 : Int) : Int)⟩, ⟨(.int .i64), (n1 : Int)⟩, ⟨(.list 34 (.list 35 (.int .u16))), (l2 : List (List Int))⟩]
    else
      need (!(↑(List.length l0) : Int) == (1 : Int) || Bool.true) <|
      need (!(↑(List.length l0) : Int) == (1 : Int) || Decidable.decide ((0 : Int) < (↑(List.length l0) : Int))) <|
      need (!(↑(List.length l0) : Int) == (1 : Int) || Decidable.decide ((0 : Nat) < List.length l0)) <|
      need (!((↑(List.length l0) : Int) == (1 : Int) && (↑(List.length (List.getD l0 (0 : Nat) [])) : Int) == (1 : Int)) || Bool.true) <|
      need (!((↑(List.length l0) : Int) == (1 : Int) && (↑(List.length (List.getD l0 (0 : Nat) [])) : Int) == (1 : Int)) || Decidable.decide ((0 : Int) < (↑(List.length l0) : Int))) <|
      need (!((↑(List.length l0) : Int) == (1 : Int) && (↑(List.length (List.getD l0 (0 : Nat) [])) : Int) == (1 : Int)) || Decidable.decide ((0 : Nat) < List.length l0)) <|
      need (!((↑(List.length l0) : Int) == (1 : Int) && (↑(List.length (List.getD l0 (0 : Nat) [])) : Int) == (1 : Int)) || Bool.true) <|
      need (!((↑(List.length l0) : Int) == (1 : Int) && (↑(List.length (List.getD l0 (0 : Nat) [])) : Int) == (1 : Int)) || Decidable.decide ((0 : Int) < (↑(List.length (List.getD l0 (0 : Nat) [])) : Int))) <|
      need (!((↑(List.length l0) : Int) == (1 : Int) && (↑(List.length (List.getD l0 (0 : Nat) [])) : Int) == (1 : Int)) || Decidable.decide ((0 : Nat) < List.length (List.getD l0 (0 : Nat) []))) <|
      bif ((↑(List.length l0) : Int) == (1 : Int) && (↑(List.length (List.getD l0 (0 : Nat) [])) : Int) == (1 : Int) && Decidable.decide (List.getD (List.getD l0 (0 : Nat) []) (0 : Nat) (0 : Int) < (0 : Int))) then
        need (Go.Proofs.YtbbkdhlfgekagaaDoor.gWr l0) <|
        need (Decidable.decide (List.length (Go.Proofs.YtbbkdhlfgekagaaDoor.wrT l0) ≤ (140737488355328 : Nat))) <|
        need (!Go.Proofs.YtbbkdhlfgekagaaDoor.isS (Go.Proofs.YtbbkdhlfgekagaaDoor.wrT l0) || Go.Proofs.YtbbkdhlfgekagaaDoor.gT (Go.Proofs.YtbbkdhlfgekagaaDoor.prT (Go.Proofs.YtbbkdhlfgekagaaDoor.wrT l0))) <|
        need (!Go.Proofs.YtbbkdhlfgekagaaDoor.isS (Go.Proofs.YtbbkdhlfgekagaaDoor.wrT l0) || Decidable.decide (List.length (Go.Proofs.YtbbkdhlfgekagaaDoor.prT (Go.Proofs.YtbbkdhlfgekagaaDoor.wrT l0)) ≤ (1000000000 : Nat))) <|
        some [⟨.bool, (Go.Proofs.YtbbkdhlfgekagaaDoor.isS (Go.Proofs.YtbbkdhlfgekagaaDoor.wrT l0) && Go.Proofs.YtbbkdhlfgekagaaDoor.sameT (Go.Proofs.YtbbkdhlfgekagaaDoor.prT (Go.Proofs.YtbbkdhlfgekagaaDoor.wrT l0)) [] : Bool)⟩]
      else
        need (Go.Proofs.YtbbkdhlfgekagaaDoor.gWr l0) <|
        need (Decidable.decide (List.length (Go.Proofs.YtbbkdhlfgekagaaDoor.wrT l0) ≤ (140737488355328 : Nat))) <|
        need (!Go.Proofs.YtbbkdhlfgekagaaDoor.isS (Go.Proofs.YtbbkdhlfgekagaaDoor.wrT l0) || Go.Proofs.YtbbkdhlfgekagaaDoor.gT (Go.Proofs.YtbbkdhlfgekagaaDoor.prT (Go.Proofs.YtbbkdhlfgekagaaDoor.wrT l0))) <|
        need (!Go.Proofs.YtbbkdhlfgekagaaDoor.isS (Go.Proofs.YtbbkdhlfgekagaaDoor.wrT l0) || Decidable.decide (List.length (Go.Proofs.YtbbkdhlfgekagaaDoor.prT (Go.Proofs.YtbbkdhlfgekagaaDoor.wrT l0)) ≤ (1000000000 : Nat))) <|
        some [⟨.bool, (Go.Proofs.YtbbkdhlfgekagaaDoor.isS (Go.Proofs.YtbbkdhlfgekagaaDoor.wrT l0) && Go.Proofs.YtbbkdhlfgekagaaDoor.sameT (Go.Proofs.YtbbkdhlfgekagaaDoor.prT (Go.Proofs.YtbbkdhlfgekagaaDoor.wrT l0)) l0 : Bool)⟩]) := by kernel_rfl
theorem PB_L2 (n : Nat) (nx : Nat → List Dy → Option (List Dy)) (m : Nat) (l0 : List (List Int)) (n1 : Int) (n2 : Int) (n3 : Int) (l4 : List (List Int)) :
    RL SPB [.bool] n 3 2 nx (m + 1) [⟨(.list 33 (.list 3 (.int .i64))), l0⟩, ⟨(.int .i64), n1⟩, ⟨(.int .i64), n2⟩, ⟨(.int .i64), n3⟩, ⟨(.list 34 (.list 35 (.int .u16))), l4⟩] =
    (need (Decidable.decide ((0 : Int) ≤ n3)) <|
    need (Decidable.decide (n3 < (↑(List.length l4) : Int))) <|
    need (Decidable.decide (Int.toNat n3 < List.length l4)) <|
    bif (Decidable.decide (n2 < (↑(List.length (List.getD l4 (Int.toNat n3) [])) : Int)) && Decidable.decide (n2 < (8 : Int))) then
      need (Decidable.decide ((0 : Int) ≤ n3)) <|
      need (Decidable.decide (n3 < (↑(List.length l4) : Int))) <|
      need (Decidable.decide (Int.toNat n3 < List.length l4)) <|
      need (Decidable.decide ((0 : Int) ≤ n2)) <|
      need (Decidable.decide (n2 < (↑(List.length (List.getD l4 (Int.toNat n3) [])) : Int))) <|
      need (Decidable.decide (Int.toNat n2 < List.length (List.getD l4 (Int.toNat n3) []))) <|
      bif (Int.tmod (Go.IntKind.wrap Go.IntKind.i64 (List.getD (List.getD l4 (Int.toNat n3) []) (Int.toNat n2) (0 : Int))) (7 : Int) == (6 : Int)) then
        bif (Decidable.decide (n2 = (0 : Int))) then
          RL SPB [.bool] n 3 2 nx m [⟨(.list 33 (.list 3 (.int .i64))), (l0 : List (List Int))⟩, ⟨(.int .i64), ((-1 : Int) : Int)⟩, ⟨(.int .i64), (Go.IntKind.wrap Go.IntKind.i64 (n2 + (1 : Int)) : Int)⟩, ⟨(.int .i64), (n3 : Int)⟩, ⟨(.list 34 (.list 35 (.int .u16))), (l4 : List (List Int))⟩]
        else
          need (Decidable.decide (n2 = (1 : Int))) <|
          RL SPB [.bool] n 3 1000002 nx m [⟨(.list 33 (.list 3 (.int .i64))), (l0 : List (List Int))⟩, ⟨(.list 3 (.int .i64)), ([n1] ++ [(-1 : Int)] : List Int)⟩, ⟨(.int .i64), (Go.IntKind.wrap Go.IntKind.i64 (n2 + (1 : Int)) : Int)⟩, ⟨(.int .i64), (n3 : Int)⟩, ⟨(.list 34 (.list 35 (.int .u16))), (l4 : List (List Int))⟩]
      else
        bif (Decidable.decide (n2 = (0 : Int))) then
          RL SPB [.bool] n 3 2 nx m [⟨(.list 33 (.list 3 (.int .i64))), (l0 : List (List Int))⟩, ⟨(.int .i64), (Go.IntKind.wrap Go.IntKind.i64 (List.getD (List.getD l4 (Int.toNat n3) []) (Int.toNat n2) (0 : Int)) : Int)⟩, ⟨(.int .i64), (Go.IntKind.wrap Go.IntKind.i64 (n2 + (1 : Int)) : Int)⟩, ⟨(.int .i64), (n3 : Int)⟩, ⟨(.list 34 (.list 35 (.int .u16))), (l4 : List (List Int))⟩]
        else
          need (Decidable.decide (n2 = (1 : Int))) <|
          RL SPB [.bool] n 3 1000002 nx m [⟨(.list 33 (.list 3 (.int .i64))), (l0 : List (List Int))⟩, ⟨(.list 3 (.int .i64)), ([n1] ++ [Go.IntKind.wrap Go.IntKind.i64 (List.getD (List.getD l4 (Int.toNat n3) []) (Int.toNat n2) (0 : Int))] : List Int)⟩, ⟨(.int .i64), (Go.IntKind.wrap Go.IntKind.i64 (n2 + (1 : Int)) : Int)⟩, ⟨(.int .i64), (n3 : Int)⟩, ⟨(.list 34 (.list 35 (.int .u16))), (l4 : List (List Int))⟩]
    else
      need (Decidable.decide ((List.length l0 + List.length [[n1]]) * (24 : Nat) ≤ (140737488355328 : Nat))) <|
      need (Decidable.decide (List.length l0 + List.length [[n1]] ≤ (140737488355328 : Nat))) <|
      nx 0 [⟨(.list 33 (.list 3 (.int .i64))), (l0 ++ [[n1]] : List (List Int))⟩, ⟨(.int .i64), (Go.IntKind.wrap Go.IntKind.i64 (n3 + (1 : Int)) : Int)⟩, ⟨(.list 34 (.list 35 (.int .u16))), (l4 : List (List Int))⟩]) := by kernel_rfl
theorem PB_L1000002 (n : Nat) (nx : Nat → List Dy → Option (List Dy)) (m : Nat) (l0 : List (List Int)) (l1 : List Int) (n2 : Int) (n3 : Int) (l4 : List (List Int)) :
    RL SPB [.bool] n 3 1000002 nx (m + 1) [⟨(.list 33 (.list 3 (.int .i64))), l0⟩, ⟨(.list 3 (.int .i64)), l1⟩, ⟨(.int .i64), n2⟩, ⟨(.int .i64), n3⟩, ⟨(.list 34 (.list 35 (.int .u16))), l4⟩] =
    (need (Decidable.decide ((0 : Int) ≤ n3)) <|
    need (Decidable.decide (n3 < (↑(List.length l4) : Int))) <|
    need (Decidable.decide (Int.toNat n3 < List.length l4)) <|
    bif (Decidable.decide (n2 < (↑(List.length (List.getD l4 (Int.toNat n3) [])) : Int)) && Decidable.decide (n2 < (8 : Int))) then
      need (Decidable.decide ((0 : Int) ≤ n3)) <|
      need (Decidable.decide (n3 < (↑(List.length l4) : Int))) <|
      need (Decidable.decide (Int.toNat n3 < List.length l4)) <|
      need (Decidable.decide ((0 : Int) ≤ n2)) <|
      need (Decidable.decide (n2 < (↑(List.length (List.getD l4 (Int.toNat n3) [])) : Int))) <|
      need (Decidable.decide (Int.toNat n2 < List.length (List.getD l4 (Int.toNat n3) []))) <|
      bif (Int.tmod (Go.IntKind.wrap Go.IntKind.i64 (List.getD (List.getD l4 (Int.toNat n3) []) (Int.toNat n2) (0 : Int))) (7 : Int) == (6 : Int)) then
        bif (Decidable.decide (n2 = (↑(List.length l1) : Int))) then
          need (Decidable.decide ((List.length l1 + (1 : Nat)) * (8 : Nat) ≤ (140737488355328 : Nat))) <|
          need (Decidable.decide (List.length l1 + (1 : Nat) ≤ (140737488355328 : Nat))) <|
          RL SPB [.bool] n 3 1000002 nx m [⟨(.list 33 (.list 3 (.int .i64))), (l0 : List (List Int))⟩, ⟨(.list 3 (.int .i64)), (l1 ++ [(-1 : Int)] : List Int)⟩, ⟨(.int .i64), (Go.IntKind.wrap Go.IntKind.i64 (n2 + (1 : Int)) : Int)⟩, ⟨(.int .i64), (n3 : Int)⟩, ⟨(.list 34 (.list 35 (.int .u16))), (l4 : List (List Int))⟩]
        else
          need (Decidable.decide ((0 : Int) ≤ n2)) <|
          need (Decidable.decide (n2 ≤ (↑(List.length l1) : Int))) <|
          none
      else
        bif (Decidable.decide (n2 = (↑(List.length l1) : Int))) then
          need (Decidable.decide ((List.length l1 + List.length [Go.IntKind.wrap Go.IntKind.i64 (List.getD (List.getD l4 (Int.toNat n3) []) (Int.toNat n2) (0 : Int))]) * (8 : Nat) ≤ (140737488355328 : Nat))) <|
          need (Decidable.decide (List.length l1 + List.length [Go.IntKind.wrap Go.IntKind.i64 (List.getD (List.getD l4 (Int.toNat n3) []) (Int.toNat n2) (0 : Int))] ≤ (140737488355328 : Nat))) <|
          RL SPB [.bool] n 3 1000002 nx m [⟨(.list 33 (.list 3 (.int .i64))), (l0 : List (List Int))⟩, ⟨(.list 3 (.int .i64)), (l1 ++ [Go.IntKind.wrap Go.IntKind.i64 (List.getD (List.getD l4 (Int.toNat n3) []) (Int.toNat n2) (0 : Int))] : List Int)⟩, ⟨(.int .i64), (Go.IntKind.wrap Go.IntKind.i64 (n2 + (1 : Int)) : Int)⟩, ⟨(.int .i64), (n3 : Int)⟩, ⟨(.list 34 (.list 35 (.int .u16))), (l4 : List (List Int))⟩]
        else
          need (Decidable.decide ((0 : Int) ≤ n2)) <|
          need (Decidable.decide (n2 ≤ (↑(List.length l1) : Int))) <|
          none
    else
      need (Decidable.decide ((List.length l0 + List.length [l1]) * (24 : Nat) ≤ (140737488355328 : Nat))) <|
      need (Decidable.decide (List.length l0 + List.length [l1] ≤ (140737488355328 : Nat))) <|
      nx 0 [⟨(.list 33 (.list 3 (.int .i64))), (l0 ++ [l1] : List (List Int))⟩, ⟨(.int .i64), (Go.IntKind.wrap Go.IntKind.i64 (n3 + (1 : Int)) : Int)⟩, ⟨(.list 34 (.list 35 (.int .u16))), (l4 : List (List Int))⟩]) := by kernel_rfl
theorem PB_fn (n : Nat) (l0 : List UInt8) (l1 : List (List Int)) :
    fnY SPB loopY [(.hole (.list 5 .byte)), (.hole (.list 34 (.list 35 (.int .u16))))] [.bool] n 3 [⟨(.list 5 .byte), l0⟩, ⟨(.list 34 (.list 35 (.int .u16))), l1⟩] =
    (need (Decidable.decide (List.length (Go.Proofs.YtbbkdhlfgekagaaDoor.drS l0) < (35184372088832 : Nat))) <|
    need (Decidable.decide (List.length (Go.Lib.mapD Go.Proofs.YtbbkdhlfgekagaaDoor.ownF (Go.Proofs.YtbbkdhlfgekagaaDoor.drS l0)) ≤ (140737488355328 : Nat))) <|
    need (Go.Proofs.YtbbkdhlfgekagaaDoor.gWr (Go.Proofs.YtbbkdhlfgekagaaDoor.prT (Go.Lib.mapD Go.Proofs.YtbbkdhlfgekagaaDoor.ownF (Go.Proofs.YtbbkdhlfgekagaaDoor.drS l0)))) <|
    need (Decidable.decide (List.length (Go.Proofs.YtbbkdhlfgekagaaDoor.wrT (Go.Proofs.YtbbkdhlfgekagaaDoor.prT (Go.Lib.mapD Go.Proofs.YtbbkdhlfgekagaaDoor.ownF (Go.Proofs.YtbbkdhlfgekagaaDoor.drS l0)))) ≤ (140737488355328 : Nat))) <|
    need (!Go.Proofs.YtbbkdhlfgekagaaDoor.isS (Go.Lib.mapD Go.Proofs.YtbbkdhlfgekagaaDoor.ownF (Go.Proofs.YtbbkdhlfgekagaaDoor.drS l0)) || !Go.Proofs.YtbbkdhlfgekagaaDoor.isS (Go.Proofs.YtbbkdhlfgekagaaDoor.wrT (Go.Proofs.YtbbkdhlfgekagaaDoor.prT (Go.Lib.mapD Go.Proofs.YtbbkdhlfgekagaaDoor.ownF (Go.Proofs.YtbbkdhlfgekagaaDoor.drS l0)))) || Go.Proofs.YtbbkdhlfgekagaaDoor.gT (Go.Proofs.YtbbkdhlfgekagaaDoor.prT (Go.Lib.mapD Go.Proofs.YtbbkdhlfgekagaaDoor.ownF (Go.Proofs.YtbbkdhlfgekagaaDoor.drS l0)))) <|
    need (!Go.Proofs.YtbbkdhlfgekagaaDoor.isS (Go.Lib.mapD Go.Proofs.YtbbkdhlfgekagaaDoor.ownF (Go.Proofs.YtbbkdhlfgekagaaDoor.drS l0)) || !Go.Proofs.YtbbkdhlfgekagaaDoor.isS (Go.Proofs.YtbbkdhlfgekagaaDoor.wrT (Go.Proofs.YtbbkdhlfgekagaaDoor.prT (Go.Lib.mapD Go.Proofs.YtbbkdhlfgekagaaDoor.ownF (Go.Proofs.YtbbkdhlfgekagaaDoor.drS l0)))) || Decidable.decide (List.length (Go.Proofs.YtbbkdhlfgekagaaDoor.prT (Go.Lib.mapD Go.Proofs.YtbbkdhlfgekagaaDoor.ownF (Go.Proofs.YtbbkdhlfgekagaaDoor.drS l0))) ≤ (1000000000 : Nat))) <|
    bif (!Go.Proofs.YtbbkdhlfgekagaaDoor.isS (Go.Lib.mapD Go.Proofs.YtbbkdhlfgekagaaDoor.ownF (Go.Proofs.YtbbkdhlfgekagaaDoor.drS l0)) || !Go.Proofs.YtbbkdhlfgekagaaDoor.isS (Go.Proofs.YtbbkdhlfgekagaaDoor.wrT (Go.Proofs.YtbbkdhlfgekagaaDoor.prT (Go.Lib.mapD Go.Proofs.YtbbkdhlfgekagaaDoor.ownF (Go.Proofs.YtbbkdhlfgekagaaDoor.drS l0)))) || !Go.Proofs.YtbbkdhlfgekagaaDoor.sameT (Go.Proofs.YtbbkdhlfgekagaaDoor.prT (Go.Lib.mapD Go.Proofs.YtbbkdhlfgekagaaDoor.ownF (Go.Proofs.YtbbkdhlfgekagaaDoor.drS l0))) (Go.Proofs.YtbbkdhlfgekagaaDoor.prT (Go.Proofs.YtbbkdhlfgekagaaDoor.wrT (Go.Proofs.YtbbkdhlfgekagaaDoor.prT (Go.Lib.mapD Go.Proofs.YtbbkdhlfgekagaaDoor.ownF (Go.Proofs.YtbbkdhlfgekagaaDoor.drS l0))))) || Decidable.decide ((↑(List.length (Go.Lib.mapD Go.Proofs.YtbbkdhlfgekagaaDoor.ownF (Go.Proofs.YtbbkdhlfgekagaaDoor.drS l0))) : Int) < (↑(List.length (Go.Proofs.YtbbkdhlfgekagaaDoor.wrT (Go.Proofs.YtbbkdhlfgekagaaDoor.prT (Go.Lib.mapD Go.Proofs.YtbbkdhlfgekagaaDoor.ownF (Go.Proofs.YtbbkdhlfgekagaaDoor.drS l0))))) : Int))) then
      some [⟨.bool, (Bool.false : Bool)⟩]
    else
      RL SPB [.bool] n 3 0 noNx n [⟨(.list 33 (.list 3 (.int .i64))), ([] : List (List Int))⟩, ⟨(.int .i64), ((0 : Int) : Int)⟩, ⟨(.list 34 (.list 35 (.int .u16))), (l1 : List (List Int))⟩]) := by kernel_rfl

end Go.Proofs.YtbbkdhlfgekagaaDoor
