/-
  Texts of this session, one behind the other: AmExt.
-/
import Derived.Test.YtfdhkpfkdcdloaaPart10
import Derived.Lib.Bytealg
import Derived.Lib.MakeNoZero
namespace Go.Am
open Go

def idxB : List UInt8 → UInt8 → Nat → Int
 | [], _, _ => -1
 | b :: r, c, i => if b == c then (i : Int) else idxB r c (i + 1)

theorem idxB_eq (c : UInt8) : ∀ (l : List UInt8) (i : Nat), idxB l c i = if Lib.indexByte l c == -1 then -1 else (i : Int) + Lib.indexByte l c
 | [], i => rfl
 | b :: r, i => by
  unfold idxB Lib.indexByte
  by_cases hb : (b == c) = true
  ·simp [hb]
  ·rw [if_neg hb, if_neg hb, idxB_eq c r (i + 1)]
   have := Lib.indexByte_ge r c
   by_cases h : (Lib.indexByte r c == -1) = true
   ·simp [h]
   ·rw [if_neg h, if_neg h, if_neg (by simp at h ⊢; omega)]
    omega

def cntB : List UInt8 → UInt8 → Int → Int
 | [], _, n => n
 | b :: r, c, n => cntB r c (if b == c then n + 1 else n)

theorem cntB_eq (c : UInt8) : ∀ (l : List UInt8) (n : Int), cntB l c n = n + (Lib.countByte l c : Nat)
 | [], n => by simp [cntB, Lib.countByte]
 | b :: r, n => by
  unfold cntB
  rw [cntB_eq c r]
  unfold Lib.countByte
  rw [List.count_cons]
  split <;> simp_all <;> omega

structure Std where
 ix : Option FuncId := none
 ct : Option FuncId := none
 ne : Option FuncId := none
 mz : Option (FuncId × TypeId) := none

def Std.ext (s : Std) (f : FuncId) (args : List V) : Option V :=
 match args with
 | [.str l, .int .u8 c] => if s.ix = some f then some (.int .i64 (idxB l c.toNat.toUInt8 0)) else if s.ct = some f then some (.int .i64 (cntB l c.toNat.toUInt8 0)) else none
 | _ => none

def stdEnv (P : Program) (s : Std) : Env :=
 { P := P, G := fun _ => none, ext := s.ext, orc := fun _ _ _ => none, same := fun f => s.ne == some f, made := fun f => match s.mz with | some (g, e) => if g = f then some e else none | none => none }

structure IsExt (P : Program) (f : FuncId) (g : Array Value → Sem Value) : Prop where
 is : ∃ fn, P.funcs[f]? = some fn ∧ fn.body.isNone = true ∧ (fn.name == "runtime.NumGoroutine") = false ∧ (Extern.findNext fn).isNone = true ∧ Extern.find fn = some g

theorem IsExt.run {P : Program} {f : FuncId} {g : Array Value → Sem Value} (h : IsExt P f g) {args : Array Value} {w w' : World} {v : Value} (hr : (g args).run P w = .ok v w') : (callFunc f args).run P w = .ok (.value v) w' := by
 obtain ⟨fn, h1, h2, h3, h4, h5⟩ := h.is
 have h4' : Extern.findNext fn = none := by simpa using h4
 have h3' : fn.name ≠ "runtime.NumGoroutine" := by simpa using h3
 have h2' : fn.body = none := by simpa using h2
 simp [callFunc, h1, h2', h3', h4', h5, hr]

structure Std.Ok (P : Program) (s : Std) : Prop where
 mixed : P.follows .mixedOrders = true
 names : P.funcs.toList.all (fun fn => !(fn.name == "runtime.NumGoroutine")) = true
 ix : ∀ f, s.ix = some f → IsExt P f Extern.BytealgIndexByte.indexByte
 ct : ∀ f, s.ct = some f → IsExt P f Extern.BytealgCount.count
 ne : ∀ f, s.ne = some f → IsExt P f Extern.AbiNoEscape.same
 mz : ∀ f e, s.mz = some (f, e) → ∃ ps t, IsExt P f (Extern.BytealgMakeNoZero.makeNoZero ps #[t]) ∧ P.underlying t = some (.slice e) ∧ sizeT P e = some 1

theorem stdEnv_ok {P : Program} {s : Std} (h : s.Ok P) : (stdEnv P s).Ok where
 mixed := h.mixed
 names f fn hf _ e := by
  have h1 : fn ∈ P.funcs.toList := by
   have := Array.mem_of_getElem? (show P.funcs[f]? = some fn from hf)
   exact Array.mem_toList_iff.mpr this
  have h2 := List.all_eq_true.mp h.names fn h1
  simp [e] at h2
 ext f args v hv := by
  simp only [stdEnv] at hv ⊢
  unfold Std.ext at hv
  split at hv
  ·rename_i l c
   split at hv
   ·rename_i hx
    simp only [Option.some.injEq] at hv
    subst hv
    refine ⟨rfl, fun ρ w => (h.ix f hx).run ?_⟩
    have := Lib.run_indexByteString (P := P) ⟨⟨l⟩⟩ c w
    rw [idxB_eq]
    simp only [List.map_cons, List.map_nil, emb_str, emb_int]
    rw [this]
    congr 2
    simp only
    split
    ·rename_i h1; simpa using h1
    ·omega
   ·split at hv
    ·rename_i hx
     simp only [Option.some.injEq] at hv
     subst hv
     refine ⟨rfl, fun ρ w => (h.ct f hx).run ?_⟩
     have := Lib.run_countString (P := P) ⟨⟨l⟩⟩ c w
     rw [cntB_eq]
     simp only [List.map_cons, List.map_nil, emb_str, emb_int]
     rw [this]
     congr 2
     simp only [Int.zero_add]
    ·cases hv
  ·cases hv
 made f e he := by
  simp only [stdEnv] at he ⊢
  split at he
  ·rename_i g e' hmz
   split at he
   ·rename_i hg
    subst hg
    simp only [Option.some.injEq] at he
    subst he
    obtain ⟨ps, t, h1, h2, h3⟩ := h.mz _ _ hmz
    refine ⟨h3, fun n w hn => ?_⟩
    obtain ⟨cs, hr, hle, hmx⟩ := Lib.run_makeNoZero (P := P) w ps t e' h2 n (by omega)
    exact ⟨cs, h1.run hr, hle, hmx (by unfold maxLen; omega)⟩
   ·cases he
  ·cases he
 same f hf v w := by
  simp only [stdEnv, beq_iff_eq] at hf
  exact (h.ne f hf).run rfl
 orc f args H v hv := by simp [stdEnv] at hv

end Go.Am
