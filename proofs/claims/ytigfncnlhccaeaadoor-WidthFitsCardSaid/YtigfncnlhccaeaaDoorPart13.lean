/-
  Texts of this session, one behind the other: WfEnv, WfOf, WfOf2, WfS, WfG1, WfPure, WfC1, WfG2, WfC2, WfG3, WfL.
-/
import Derived.Test.YtigfncnlhccaeaaDoorPart12
import Derived.Test.YtigfncnlhccaeaaDoorProg
import Derived.KernelRfl
/-
  Chapter 4 (what fits): the outside, with utf8.DecodeRuneInString known.
-/
namespace Go.Proofs.YtigfncnlhccaeaaDoor
open Go Go.Am Go.Shelf

def ren : Ren where
  f := fun x => match x with
    | 197 => 8
    | 260 => 12
    | n => n
  t := fun x => match x with
    | 9 => 9
    | 21 => 21
    | 3 => 3
    | 4 => 4
    | 5 => 5
    | 105 => 28
    | 119 => 39
    | 0 => 0
    | 46 => 40
    | 139 => 43
    | 138 => 42
    | n => n
  g := fun x => match x with
    | 3 => 0
    | 4 => 1
    | n => n
theorem lays : Lays.n197 Tryd.prog ren :=
{ mixed := Eq.refl true, f197 := Eq.trans Tryd.func8 (congrArg some (Eq.refl (Body.n197 ren))),
  f260 := Eq.trans Tryd.func12 (congrArg some (Eq.refl (Body.n260 ren))), t0 := Tryd.underlying0,
  a0 := Tryd.isAgg0, z0 := Tryd.sizeOf0, v0 := Tryd.zeroValue0, t3 := Tryd.underlying3, a3 := Tryd.isAgg3,
  z3 := Tryd.sizeOf3, v3 := Tryd.zeroValue3, t4 := Tryd.underlying4, a4 := Tryd.isAgg4, z4 := Tryd.sizeOf4,
  v4 := Tryd.zeroValue4, t5 := Tryd.underlying5, a5 := Tryd.isAgg5, z5 := Tryd.sizeOf5, v5 := Tryd.zeroValue5,
  t9 := Tryd.underlying9, a9 := Tryd.isAgg9, z9 := Tryd.sizeOf9, v9 := Tryd.zeroValue9, t21 := Tryd.underlying21,
  a21 := Tryd.isAgg21, z21 := Tryd.sizeOf21, v21 := Tryd.zeroValue21, t46 := Tryd.underlying40, a46 := Tryd.isAgg40,
  z46 := Tryd.sizeOf40, v46 := Tryd.zeroValue40, t105 := Tryd.underlying28, a105 := Tryd.isAgg28, z105 := Tryd.sizeOf28,
  v105 := Tryd.zeroValue28, t119 := Tryd.underlying39, a119 := Tryd.isAgg39, z119 := Tryd.sizeOf39,
  t138 := Tryd.underlying42, a138 := Tryd.isAgg42, z138 := Tryd.sizeOf42, v138 := Tryd.zeroValue42,
  t139 := Tryd.underlying43, a139 := Tryd.isAgg43, z139 := Tryd.sizeOf43, v139 := Tryd.zeroValue43,
  g3 := by kernel_rfl, g4 := by kernel_rfl }

def std : Std := {}
set_option maxRecDepth 100000 in
theorem std_ok : std.Ok Tryd.prog where
  mixed := by kernel_rfl
  names := by kernel_rfl
  ix f h := by cases h
  ct f h := by cases h
  ne f h := by cases h
  mz f e h := by cases h
noncomputable def E : Env := { stdEnv Tryd.prog std with G := utf8G 0 1, orc := decArgs 8 }
theorem E_ok : E.Ok := (stdEnv_ok std_ok).withDec (E := stdEnv Tryd.prog std) lays (by decide)
end Go.Proofs.YtigfncnlhccaeaaDoor

/-
  The walks of width.Of and what it calls.
-/
namespace Go.Proofs.YtigfncnlhccaeaaDoor
open Go Go.Am

def cmpSpec (a b x : Int) : Int := if b < x then -1 else if a > x then 1 else 0

theorem f18_ok (a b x : Int) (H : List AObj) : Gives E 18 [.agg [.int .i32 a, .int .i32 b], .int .i32 x] H (.pure (.int .i64 (cmpSpec a b x))) := by
  refine Gives.walk [] rfl Tryd.func18 rfl rfl rfl rfl (by simp [keysB]) (by simp) ?_
  repeat' (first
    | refine Run.seq ?_
    | refine Run.region rfl ?_
    | refine Run.drawn rfl rfl rfl ?_
    | refine Run.block ?_
    | refine Run.condT rfl ?_
    | refine Run.condF rfl ?_
    | refine Run.skip ?_
    | refine Run.ret ?_
    | refine Run.exit ?_
    | refine Run.label ?_
    | refine Done.seq ?_
    | refine Done.seqE ?_
    | refine Done.seqR ?_
    | refine Done.blockN ?_
    | refine Done.blockR ?_
    | refine Done.hit ?_
    | refine Done.miss rfl ?_
    | refine Done.invE ?_
    | refine Done.invR ?_
    | refine RunO.nil ?_
    | refine RunO.move rfl rfl rfl rfl ?_
    | refine RunO.assign rfl rfl rfl rfl ?_
    | refine RunO.load 0 rfl rfl rfl rfl rfl rfl ?_
    | refine RunO.load 1 rfl rfl rfl rfl rfl rfl ?_
    | refine RunO.load 2 rfl rfl rfl rfl rfl rfl ?_
    | refine RunO.load 3 rfl rfl rfl rfl rfl rfl ?_
    | refine RunO.load 4 rfl rfl rfl rfl rfl rfl ?_
    | refine RunO.indexAddr rfl rfl rfl rfl rfl (by omega) rfl rfl rfl ?_
    | refine RunO.box rfl rfl rfl rfl rfl rfl (fun _ => ?_)
    | refine RunO.alloc rfl rfl rfl rfl rfl rfl (fun _ => ?_)
    | refine RunO.store 0 rfl rfl rfl rfl rfl rfl (by decide) (by decide) rfl rfl ?_
    | refine RunO.store 1 rfl rfl rfl rfl rfl rfl (by decide) (by decide) rfl rfl ?_
    | refine RunO.store 2 rfl rfl rfl rfl rfl rfl (by decide) (by decide) rfl rfl ?_
    | refine RunO.store 3 rfl rfl rfl rfl rfl rfl (by decide) (by decide) rfl rfl ?_
    | refine RunO.store 4 rfl rfl rfl rfl rfl rfl (by decide) (by decide) rfl rfl ?_
    | refine RunO.cmpT rfl (fun _ => rfl) rfl rfl (by omega) ?_
    | refine RunO.cmpF rfl (fun _ => rfl) rfl rfl (by omega) ?_
    | refine RunO.cmp rfl (fun _ => rfl) rfl rfl (fun _ => ?_) (fun _ => ?_)
    | refine RunO.bin rfl rfl rfl (fun _ _ => rfl) (IntWalk.i64_in _ (by omega)) rfl rfl ?_
    | refine RunO.conv rfl rfl rfl rfl (IntWalk.i64_in _ (by omega)) rfl rfl ?_
    | refine RunO.bin rfl rfl rfl (fun _ _ => rfl) (IntWalk.i32_in _ (by omega)) rfl rfl ?_
    | refine RunO.conv rfl rfl rfl rfl (IntWalk.i32_in _ (by omega)) rfl rfl ?_
    | refine RunO.bin rfl rfl rfl (fun _ _ => rfl) (IntWalk.u8_in _ (by omega)) rfl rfl ?_
    | refine RunO.conv rfl rfl rfl rfl (IntWalk.u8_in _ (by omega)) rfl rfl ?_
    | refine RunO.bin rfl rfl rfl (fun _ _ => rfl) (IntWalk.u64_in _ (by omega)) rfl rfl ?_
    | refine RunO.conv rfl rfl rfl rfl (IntWalk.u64_in _ (by omega)) rfl rfl ?_
    | refine RunO.bin rfl rfl rfl (fun _ _ => rfl) (IntWalk.u32_in _ (by omega)) rfl rfl ?_
    | refine RunO.conv rfl rfl rfl rfl (IntWalk.u32_in _ (by omega)) rfl rfl ?_
    | refine RunO.bin rfl rfl rfl (fun _ _ => rfl) (IntWalk.u16_in _ (by omega)) rfl rfl ?_
    | refine RunO.conv rfl rfl rfl rfl (IntWalk.u16_in _ (by omega)) rfl rfl ?_
    | refine RunO.val rfl (fun _ => rfl) rfl rfl ?_
    | refine RunO.no rfl rfl rfl ?_
    | refine RunQ.nil ?_
    | refine RunQ.move rfl rfl rfl rfl ?_
    | refine RunQ.assign rfl rfl rfl rfl ?_
    | refine RunQ.load 0 rfl rfl rfl rfl rfl rfl ?_
    | refine RunQ.load 1 rfl rfl rfl rfl rfl rfl ?_
    | refine RunQ.load 2 rfl rfl rfl rfl rfl rfl ?_
    | refine RunQ.load 3 rfl rfl rfl rfl rfl rfl ?_
    | refine RunQ.load 4 rfl rfl rfl rfl rfl rfl ?_
    | refine RunQ.indexAddr rfl rfl rfl rfl rfl (by omega) rfl rfl rfl ?_
    | refine RunQ.cmpT rfl (fun _ => rfl) rfl rfl (by omega) ?_
    | refine RunQ.cmpF rfl (fun _ => rfl) rfl rfl (by omega) ?_
    | refine RunQ.cmp rfl (fun _ => rfl) rfl rfl (fun _ => ?_) (fun _ => ?_)
    | refine RunQ.bin rfl rfl rfl (fun _ _ => rfl) (IntWalk.i64_in _ (by omega)) rfl rfl ?_
    | refine RunQ.conv rfl rfl rfl rfl (IntWalk.i64_in _ (by omega)) rfl rfl ?_
    | refine RunQ.bin rfl rfl rfl (fun _ _ => rfl) (IntWalk.i32_in _ (by omega)) rfl rfl ?_
    | refine RunQ.conv rfl rfl rfl rfl (IntWalk.i32_in _ (by omega)) rfl rfl ?_
    | refine RunQ.bin rfl rfl rfl (fun _ _ => rfl) (IntWalk.u8_in _ (by omega)) rfl rfl ?_
    | refine RunQ.conv rfl rfl rfl rfl (IntWalk.u8_in _ (by omega)) rfl rfl ?_
    | refine RunQ.bin rfl rfl rfl (fun _ _ => rfl) (IntWalk.u64_in _ (by omega)) rfl rfl ?_
    | refine RunQ.conv rfl rfl rfl rfl (IntWalk.u64_in _ (by omega)) rfl rfl ?_
    | refine RunQ.bin rfl rfl rfl (fun _ _ => rfl) (IntWalk.u32_in _ (by omega)) rfl rfl ?_
    | refine RunQ.conv rfl rfl rfl rfl (IntWalk.u32_in _ (by omega)) rfl rfl ?_
    | refine RunQ.bin rfl rfl rfl (fun _ _ => rfl) (IntWalk.u16_in _ (by omega)) rfl rfl ?_
    | refine RunQ.conv rfl rfl rfl rfl (IntWalk.u16_in _ (by omega)) rfl rfl ?_
    | refine RunQ.val rfl rfl (fun _ => rfl) rfl rfl ?_
    | refine RunQ.no rfl rfl rfl ?_)
  all_goals refine Done.pure (.inr rfl) (fun _ => rfl) ?_ rfl
  all_goals simp only [tupV, cmpSpec, *, if_true, if_false]

def flat : List (Int × Int) → List V
  | [] => []
  | s :: r => .int .i32 s.1 :: .int .i32 s.2 :: flat r

theorem flat_len : ∀ l : List (Int × Int), (flat l).length = l.length * 2
  | [] => rfl
  | s :: r => by simp only [flat, List.length_cons, flat_len r]; omega

theorem flat_at : ∀ (l : List (Int × Int)) (i : Nat) (s : Int × Int), l[i]? = some s → ((flat l).drop (i * 2)).take 2 = [.int .i32 s.1, .int .i32 s.2]
  | [], i, s, h => by simp at h
  | u :: r, 0, s, h => by simp at h; subst h; simp [flat]
  | u :: r, i + 1, s, h => by
    have := flat_at r i s (by simpa using h)
    rw [show (i + 1) * 2 = i * 2 + 2 by omega]
    simpa [flat] using this

theorem flat_load (l : List (Int × Int)) (i : Nat) (s : Int × Int) (h : l[i]? = some s) : loadC E.P 35 (flat l) (0 + i * 2) = some (.agg [.int .i32 s.1, .int .i32 s.2]) := by
  have hl : i < l.length := (List.getElem?_eq_some_iff.mp h).1
  have e1 : isAggT E.P 35 = some true := by kernel_rfl
  have e2 : sizeT E.P 35 = some 2 := by kernel_rfl
  unfold loadC
  simp only [e1, e2, Nat.zero_add, flat_at l i s h, flat_len]
  rw [if_pos (by omega)]

def isIn (l : List (Int × Int)) (x : Int) : Bool := l.any fun s => decide (s.1 ≤ x) && decide (x ≤ s.2)

def Rising (l : List (Int × Int)) : Prop := (∀ (i : Nat) s, l[i]? = some s → s.1 ≤ s.2) ∧ ∀ (i j : Nat) s u, l[i]? = some s → l[j]? = some u → i < j → s.2 < u.1

def headS (k : Nat) (l : List (Int × Int)) (x : Int) (cp : Option Nat) (e : TypeId) (m : Am.Mode) (fz : Bool) (a : Nat × Nat) : SA :=
  ⟨[(9, .int .i64 a.1), (10, .int .i64 a.2), (8, .int .i64 l.length), (0, .slice k 0 l.length cp), (1, .int .i32 x), (2, .func 18 [] [])], [(false, k, .cells (flat l) e m fz)], []⟩

theorem cmp_neg {a b x : Int} : cmpSpec a b x < 0 ↔ b < x := by
  unfold cmpSpec; repeat' split
  all_goals omega

theorem cmp_zero {a b x : Int} : cmpSpec a b x = 0 ↔ ¬ b < x ∧ a ≤ x := by
  unfold cmpSpec; repeat' split
  all_goals omega

theorem isIn_of {l : List (Int × Int)} {x : Int} {i : Nat} {s : Int × Int} (h : l[i]? = some s) (h1 : s.1 ≤ x) (h2 : ¬ s.2 < x) : isIn l x = true := by
  unfold isIn
  rw [List.any_eq_true]
  exact ⟨s, List.mem_of_getElem? h, by simp only [Bool.and_eq_true, decide_eq_true_eq]; omega⟩

theorem not_isIn {l : List (Int × Int)} {x : Int} (i : Nat) (hr : Rising l) (h3 : ∀ (k : Nat) s, l[k]? = some s → k < i → s.2 < x) (h4 : ∀ s, l[i]? = some s → x < s.1) : isIn l x = false := by
  unfold isIn
  rw [List.any_eq_false]
  intro s hs
  obtain ⟨k, hk⟩ := List.mem_iff_getElem?.mp hs
  simp only [Bool.and_eq_true, decide_eq_true_eq]
  rintro ⟨a, b⟩
  by_cases h : k < i
  · have := h3 k s hk h; omega
  · by_cases e : k = i
    · subst e; have := h4 s hk; omega
    · obtain ⟨u, hu⟩ : ∃ u, l[i]? = some u := ⟨_, List.getElem?_eq_getElem (by have := (List.getElem?_eq_some_iff.mp hk).1; omega)⟩
      have a1 := h4 u hu
      have a2 := hr.1 i u hu
      have a3 := hr.2 i k u s hu hk (by omega)
      omega

set_option maxHeartbeats 2000000 in
theorem f17_ok (k : Nat) (l : List (Int × Int)) (x : Int) (cp : Option Nat) (e : TypeId) (m : Am.Mode) (fz : Bool) (H : List AObj) (hk : H[k]? = some (.cells (flat l) e m fz)) (hl : l.length < 1000000000) (hr : Rising l) :
    WPcall E 17 [.slice k 0 l.length cp, .int .i32 x, .func 18 [] []] H fun c => ∃ p : Int, c = .pure (.tup [.int .i64 p, .bool (isIn l x)]) := by
  refine WPcall.walk [(false, k, .cells (flat l) e m fz)] rfl Tryd.func17 rfl rfl rfl rfl (by simp [keysB]) (by simpa using hk) ?_
  repeat' (first
    | refine Run.seq ?_
    | refine Run.region rfl ?_
    | refine Run.drawn rfl rfl rfl ?_
    | refine Run.block ?_
    | refine Run.condT rfl ?_
    | refine Run.condF rfl ?_
    | refine Run.skip ?_
    | refine Run.ret ?_
    | refine Run.exit ?_
    | refine Run.label ?_
    | refine Done.seq ?_
    | refine Done.seqE ?_
    | refine Done.seqR ?_
    | refine Done.blockN ?_
    | refine Done.blockR ?_
    | refine Done.hit ?_
    | refine Done.miss rfl ?_
    | refine Done.invE ?_
    | refine Done.invR ?_
    | refine RunO.nil ?_
    | refine RunO.move rfl rfl rfl rfl ?_
    | refine RunO.assign rfl rfl rfl rfl ?_
    | refine RunO.load 0 rfl rfl rfl rfl rfl rfl ?_
    | refine RunO.load 1 rfl rfl rfl rfl rfl rfl ?_
    | refine RunO.load 2 rfl rfl rfl rfl rfl rfl ?_
    | refine RunO.load 3 rfl rfl rfl rfl rfl rfl ?_
    | refine RunO.load 4 rfl rfl rfl rfl rfl rfl ?_
    | refine RunO.indexAddr rfl rfl rfl rfl rfl (by omega) rfl rfl rfl ?_
    | refine RunO.box rfl rfl rfl rfl rfl rfl (fun _ => ?_)
    | refine RunO.alloc rfl rfl rfl rfl rfl rfl (fun _ => ?_)
    | refine RunO.store 0 rfl rfl rfl rfl rfl rfl (by decide) (by decide) rfl rfl ?_
    | refine RunO.store 1 rfl rfl rfl rfl rfl rfl (by decide) (by decide) rfl rfl ?_
    | refine RunO.store 2 rfl rfl rfl rfl rfl rfl (by decide) (by decide) rfl rfl ?_
    | refine RunO.store 3 rfl rfl rfl rfl rfl rfl (by decide) (by decide) rfl rfl ?_
    | refine RunO.store 4 rfl rfl rfl rfl rfl rfl (by decide) (by decide) rfl rfl ?_
    | refine RunO.cmpT rfl (fun _ => rfl) rfl rfl (by omega) ?_
    | refine RunO.cmpF rfl (fun _ => rfl) rfl rfl (by omega) ?_
    | refine RunO.cmp rfl (fun _ => rfl) rfl rfl (fun _ => ?_) (fun _ => ?_)
    | refine RunO.bin rfl rfl rfl (fun _ _ => rfl) (IntWalk.i64_in _ (by omega)) rfl rfl ?_
    | refine RunO.conv rfl rfl rfl rfl (IntWalk.i64_in _ (by omega)) rfl rfl ?_
    | refine RunO.bin rfl rfl rfl (fun _ _ => rfl) (IntWalk.i32_in _ (by omega)) rfl rfl ?_
    | refine RunO.conv rfl rfl rfl rfl (IntWalk.i32_in _ (by omega)) rfl rfl ?_
    | refine RunO.bin rfl rfl rfl (fun _ _ => rfl) (IntWalk.u8_in _ (by omega)) rfl rfl ?_
    | refine RunO.conv rfl rfl rfl rfl (IntWalk.u8_in _ (by omega)) rfl rfl ?_
    | refine RunO.bin rfl rfl rfl (fun _ _ => rfl) (IntWalk.u64_in _ (by omega)) rfl rfl ?_
    | refine RunO.conv rfl rfl rfl rfl (IntWalk.u64_in _ (by omega)) rfl rfl ?_
    | refine RunO.bin rfl rfl rfl (fun _ _ => rfl) (IntWalk.u32_in _ (by omega)) rfl rfl ?_
    | refine RunO.conv rfl rfl rfl rfl (IntWalk.u32_in _ (by omega)) rfl rfl ?_
    | refine RunO.bin rfl rfl rfl (fun _ _ => rfl) (IntWalk.u16_in _ (by omega)) rfl rfl ?_
    | refine RunO.conv rfl rfl rfl rfl (IntWalk.u16_in _ (by omega)) rfl rfl ?_
    | refine RunO.val rfl (fun _ => rfl) rfl rfl ?_
    | refine RunO.no rfl rfl rfl ?_
    | refine RunQ.nil ?_
    | refine RunQ.move rfl rfl rfl rfl ?_
    | refine RunQ.assign rfl rfl rfl rfl ?_
    | refine RunQ.load 0 rfl rfl rfl rfl rfl rfl ?_
    | refine RunQ.load 1 rfl rfl rfl rfl rfl rfl ?_
    | refine RunQ.load 2 rfl rfl rfl rfl rfl rfl ?_
    | refine RunQ.load 3 rfl rfl rfl rfl rfl rfl ?_
    | refine RunQ.load 4 rfl rfl rfl rfl rfl rfl ?_
    | refine RunQ.indexAddr rfl rfl rfl rfl rfl (by omega) rfl rfl rfl ?_
    | refine RunQ.cmpT rfl (fun _ => rfl) rfl rfl (by omega) ?_
    | refine RunQ.cmpF rfl (fun _ => rfl) rfl rfl (by omega) ?_
    | refine RunQ.cmp rfl (fun _ => rfl) rfl rfl (fun _ => ?_) (fun _ => ?_)
    | refine RunQ.bin rfl rfl rfl (fun _ _ => rfl) (IntWalk.i64_in _ (by omega)) rfl rfl ?_
    | refine RunQ.conv rfl rfl rfl rfl (IntWalk.i64_in _ (by omega)) rfl rfl ?_
    | refine RunQ.bin rfl rfl rfl (fun _ _ => rfl) (IntWalk.i32_in _ (by omega)) rfl rfl ?_
    | refine RunQ.conv rfl rfl rfl rfl (IntWalk.i32_in _ (by omega)) rfl rfl ?_
    | refine RunQ.bin rfl rfl rfl (fun _ _ => rfl) (IntWalk.u8_in _ (by omega)) rfl rfl ?_
    | refine RunQ.conv rfl rfl rfl rfl (IntWalk.u8_in _ (by omega)) rfl rfl ?_
    | refine RunQ.bin rfl rfl rfl (fun _ _ => rfl) (IntWalk.u64_in _ (by omega)) rfl rfl ?_
    | refine RunQ.conv rfl rfl rfl rfl (IntWalk.u64_in _ (by omega)) rfl rfl ?_
    | refine RunQ.bin rfl rfl rfl (fun _ _ => rfl) (IntWalk.u32_in _ (by omega)) rfl rfl ?_
    | refine RunQ.conv rfl rfl rfl rfl (IntWalk.u32_in _ (by omega)) rfl rfl ?_
    | refine RunQ.bin rfl rfl rfl (fun _ _ => rfl) (IntWalk.u16_in _ (by omega)) rfl rfl ?_
    | refine RunQ.conv rfl rfl rfl rfl (IntWalk.u16_in _ (by omega)) rfl rfl ?_
    | refine RunQ.val rfl rfl (fun _ => rfl) rfl rfl ?_
    | refine RunQ.no rfl rfl rfl ?_)
  refine Run.loop (fun a : Nat × Nat => a.1 ≤ a.2 ∧ a.2 ≤ l.length ∧ (∀ i s, l[i]? = some s → i < a.1 → s.2 < x) ∧ (∀ i s, l[i]? = some s → a.2 ≤ i → ¬ s.2 < x)) (headS k l x cp e m fz) (fun a => a.2 - a.1) (0, l.length) ?_ ?_ ?_
  · refine ⟨Nat.zero_le _, Nat.le_refl _, fun _ _ _ h => absurd h (Nat.not_lt_zero _), fun i s h hi => ?_⟩
    have := (List.getElem?_eq_some_iff.mp h).1
    omega
  · exact ⟨⟨rfl, rfl, rfl, rfl, rfl, rfl, trivial⟩, .refl _, rfl⟩
  · rintro ⟨i, j⟩ ⟨h1, h2, h3, h4⟩
    unfold headS
    dsimp only at h1 h2 h3 h4 ⊢
    repeat' (first
      | refine Run.seq ?_
      | refine Run.region rfl ?_
      | refine Run.drawn rfl rfl rfl ?_
      | refine Run.block ?_
      | refine Run.condT rfl ?_
      | refine Run.condF rfl ?_
      | refine Run.skip ?_
      | refine Run.ret ?_
      | refine Run.exit ?_
      | refine Run.label ?_
      | refine Done.seq ?_
      | refine Done.seqE ?_
      | refine Done.seqR ?_
      | refine Done.blockN ?_
      | refine Done.blockR ?_
      | refine Done.hit ?_
      | refine Done.miss rfl ?_
      | refine Done.invE ?_
      | refine Done.invR ?_
      | refine RunO.bin rfl rfl rfl (fun _ _ => rfl) (shr1 _ (by decide)) rfl rfl ?_
      | refine RunO.nil ?_
      | refine RunO.move rfl rfl rfl rfl ?_
      | refine RunO.assign rfl rfl rfl rfl ?_
      | refine RunO.load 0 rfl rfl rfl rfl rfl rfl ?_
      | refine RunO.load 1 rfl rfl rfl rfl rfl rfl ?_
      | refine RunO.load 2 rfl rfl rfl rfl rfl rfl ?_
      | refine RunO.load 3 rfl rfl rfl rfl rfl rfl ?_
      | refine RunO.load 4 rfl rfl rfl rfl rfl rfl ?_
      | refine RunO.indexAddr rfl rfl rfl rfl rfl (by omega) rfl rfl rfl ?_
      | refine RunO.box rfl rfl rfl rfl rfl rfl (fun _ => ?_)
      | refine RunO.alloc rfl rfl rfl rfl rfl rfl (fun _ => ?_)
      | refine RunO.store 0 rfl rfl rfl rfl rfl rfl (by decide) (by decide) rfl rfl ?_
      | refine RunO.store 1 rfl rfl rfl rfl rfl rfl (by decide) (by decide) rfl rfl ?_
      | refine RunO.store 2 rfl rfl rfl rfl rfl rfl (by decide) (by decide) rfl rfl ?_
      | refine RunO.store 3 rfl rfl rfl rfl rfl rfl (by decide) (by decide) rfl rfl ?_
      | refine RunO.store 4 rfl rfl rfl rfl rfl rfl (by decide) (by decide) rfl rfl ?_
      | refine RunO.cmpT rfl (fun _ => rfl) rfl rfl (by omega) ?_
      | refine RunO.cmpF rfl (fun _ => rfl) rfl rfl (by omega) ?_
      | refine RunO.cmp rfl (fun _ => rfl) rfl rfl (fun _ => ?_) (fun _ => ?_)
      | refine RunO.bin rfl rfl rfl (fun _ _ => rfl) (IntWalk.i64_in _ (by omega)) rfl rfl ?_
      | refine RunO.conv rfl rfl rfl rfl (IntWalk.i64_in _ (by omega)) rfl rfl ?_
      | refine RunO.bin rfl rfl rfl (fun _ _ => rfl) (IntWalk.i32_in _ (by omega)) rfl rfl ?_
      | refine RunO.conv rfl rfl rfl rfl (IntWalk.i32_in _ (by omega)) rfl rfl ?_
      | refine RunO.bin rfl rfl rfl (fun _ _ => rfl) (IntWalk.u8_in _ (by omega)) rfl rfl ?_
      | refine RunO.conv rfl rfl rfl rfl (IntWalk.u8_in _ (by omega)) rfl rfl ?_
      | refine RunO.bin rfl rfl rfl (fun _ _ => rfl) (IntWalk.u64_in _ (by omega)) rfl rfl ?_
      | refine RunO.conv rfl rfl rfl rfl (IntWalk.u64_in _ (by omega)) rfl rfl ?_
      | refine RunO.bin rfl rfl rfl (fun _ _ => rfl) (IntWalk.u32_in _ (by omega)) rfl rfl ?_
      | refine RunO.conv rfl rfl rfl rfl (IntWalk.u32_in _ (by omega)) rfl rfl ?_
      | refine RunO.bin rfl rfl rfl (fun _ _ => rfl) (IntWalk.u16_in _ (by omega)) rfl rfl ?_
      | refine RunO.conv rfl rfl rfl rfl (IntWalk.u16_in _ (by omega)) rfl rfl ?_
      | refine RunO.val rfl (fun _ => rfl) rfl rfl ?_
      | refine RunO.no rfl rfl rfl ?_
      | refine RunQ.nil ?_
      | refine RunQ.move rfl rfl rfl rfl ?_
      | refine RunQ.assign rfl rfl rfl rfl ?_
      | refine RunQ.load 0 rfl rfl rfl rfl rfl rfl ?_
      | refine RunQ.load 1 rfl rfl rfl rfl rfl rfl ?_
      | refine RunQ.load 2 rfl rfl rfl rfl rfl rfl ?_
      | refine RunQ.load 3 rfl rfl rfl rfl rfl rfl ?_
      | refine RunQ.load 4 rfl rfl rfl rfl rfl rfl ?_
      | refine RunQ.indexAddr rfl rfl rfl rfl rfl (by omega) rfl rfl rfl ?_
      | refine RunQ.cmpT rfl (fun _ => rfl) rfl rfl (by omega) ?_
      | refine RunQ.cmpF rfl (fun _ => rfl) rfl rfl (by omega) ?_
      | refine RunQ.cmp rfl (fun _ => rfl) rfl rfl (fun _ => ?_) (fun _ => ?_)
      | refine RunQ.bin rfl rfl rfl (fun _ _ => rfl) (IntWalk.i64_in _ (by omega)) rfl rfl ?_
      | refine RunQ.conv rfl rfl rfl rfl (IntWalk.i64_in _ (by omega)) rfl rfl ?_
      | refine RunQ.bin rfl rfl rfl (fun _ _ => rfl) (IntWalk.i32_in _ (by omega)) rfl rfl ?_
      | refine RunQ.conv rfl rfl rfl rfl (IntWalk.i32_in _ (by omega)) rfl rfl ?_
      | refine RunQ.bin rfl rfl rfl (fun _ _ => rfl) (IntWalk.u8_in _ (by omega)) rfl rfl ?_
      | refine RunQ.conv rfl rfl rfl rfl (IntWalk.u8_in _ (by omega)) rfl rfl ?_
      | refine RunQ.bin rfl rfl rfl (fun _ _ => rfl) (IntWalk.u64_in _ (by omega)) rfl rfl ?_
      | refine RunQ.conv rfl rfl rfl rfl (IntWalk.u64_in _ (by omega)) rfl rfl ?_
      | refine RunQ.bin rfl rfl rfl (fun _ _ => rfl) (IntWalk.u32_in _ (by omega)) rfl rfl ?_
      | refine RunQ.conv rfl rfl rfl rfl (IntWalk.u32_in _ (by omega)) rfl rfl ?_
      | refine RunQ.bin rfl rfl rfl (fun _ _ => rfl) (IntWalk.u16_in _ (by omega)) rfl rfl ?_
      | refine RunQ.conv rfl rfl rfl rfl (IntWalk.u16_in _ (by omega)) rfl rfl ?_
      | refine RunQ.val rfl rfl (fun _ => rfl) rfl rfl ?_
      | refine RunQ.no rfl rfl rfl ?_)
    · obtain ⟨s, hs⟩ : ∃ s, l[(((i : Int) + j) / 2).toNat]? = some s := ⟨_, List.getElem?_eq_getElem (by omega)⟩
      refine RunO.load 0 rfl rfl rfl (flat_load l _ _ hs) rfl rfl ?_
      repeat' (first
        | refine Run.seq ?_
        | refine Run.region rfl ?_
        | refine Run.drawn rfl rfl rfl ?_
        | refine Run.block ?_
        | refine Run.condT rfl ?_
        | refine Run.condF rfl ?_
        | refine Run.skip ?_
        | refine Run.ret ?_
        | refine Run.exit ?_
        | refine Run.label ?_
        | refine Done.seq ?_
        | refine Done.seqE ?_
        | refine Done.seqR ?_
        | refine Done.blockN ?_
        | refine Done.blockR ?_
        | refine Done.hit ?_
        | refine Done.miss rfl ?_
        | refine Done.invE ?_
        | refine Done.invR ?_
        | refine RunO.pure rfl (fun _ => rfl) rfl rfl (fun _ _ => f18_ok _ _ _ _) ?_
        | refine RunO.nil ?_
        | refine RunO.move rfl rfl rfl rfl ?_
        | refine RunO.assign rfl rfl rfl rfl ?_
        | refine RunO.load 0 rfl rfl rfl rfl rfl rfl ?_
        | refine RunO.load 1 rfl rfl rfl rfl rfl rfl ?_
        | refine RunO.load 2 rfl rfl rfl rfl rfl rfl ?_
        | refine RunO.load 3 rfl rfl rfl rfl rfl rfl ?_
        | refine RunO.load 4 rfl rfl rfl rfl rfl rfl ?_
        | refine RunO.indexAddr rfl rfl rfl rfl rfl (by omega) rfl rfl rfl ?_
        | refine RunO.box rfl rfl rfl rfl rfl rfl (fun _ => ?_)
        | refine RunO.alloc rfl rfl rfl rfl rfl rfl (fun _ => ?_)
        | refine RunO.store 0 rfl rfl rfl rfl rfl rfl (by decide) (by decide) rfl rfl ?_
        | refine RunO.store 1 rfl rfl rfl rfl rfl rfl (by decide) (by decide) rfl rfl ?_
        | refine RunO.store 2 rfl rfl rfl rfl rfl rfl (by decide) (by decide) rfl rfl ?_
        | refine RunO.store 3 rfl rfl rfl rfl rfl rfl (by decide) (by decide) rfl rfl ?_
        | refine RunO.store 4 rfl rfl rfl rfl rfl rfl (by decide) (by decide) rfl rfl ?_
        | refine RunO.cmpT rfl (fun _ => rfl) rfl rfl (by omega) ?_
        | refine RunO.cmpF rfl (fun _ => rfl) rfl rfl (by omega) ?_
        | refine RunO.cmp rfl (fun _ => rfl) rfl rfl (fun _ => ?_) (fun _ => ?_)
        | refine RunO.bin rfl rfl rfl (fun _ _ => rfl) (IntWalk.i64_in _ (by omega)) rfl rfl ?_
        | refine RunO.conv rfl rfl rfl rfl (IntWalk.i64_in _ (by omega)) rfl rfl ?_
        | refine RunO.bin rfl rfl rfl (fun _ _ => rfl) (IntWalk.i32_in _ (by omega)) rfl rfl ?_
        | refine RunO.conv rfl rfl rfl rfl (IntWalk.i32_in _ (by omega)) rfl rfl ?_
        | refine RunO.bin rfl rfl rfl (fun _ _ => rfl) (IntWalk.u8_in _ (by omega)) rfl rfl ?_
        | refine RunO.conv rfl rfl rfl rfl (IntWalk.u8_in _ (by omega)) rfl rfl ?_
        | refine RunO.bin rfl rfl rfl (fun _ _ => rfl) (IntWalk.u64_in _ (by omega)) rfl rfl ?_
        | refine RunO.conv rfl rfl rfl rfl (IntWalk.u64_in _ (by omega)) rfl rfl ?_
        | refine RunO.bin rfl rfl rfl (fun _ _ => rfl) (IntWalk.u32_in _ (by omega)) rfl rfl ?_
        | refine RunO.conv rfl rfl rfl rfl (IntWalk.u32_in _ (by omega)) rfl rfl ?_
        | refine RunO.bin rfl rfl rfl (fun _ _ => rfl) (IntWalk.u16_in _ (by omega)) rfl rfl ?_
        | refine RunO.conv rfl rfl rfl rfl (IntWalk.u16_in _ (by omega)) rfl rfl ?_
        | refine RunO.val rfl (fun _ => rfl) rfl rfl ?_
        | refine RunO.no rfl rfl rfl ?_
        | refine RunQ.nil ?_
        | refine RunQ.move rfl rfl rfl rfl ?_
        | refine RunQ.assign rfl rfl rfl rfl ?_
        | refine RunQ.load 0 rfl rfl rfl rfl rfl rfl ?_
        | refine RunQ.load 1 rfl rfl rfl rfl rfl rfl ?_
        | refine RunQ.load 2 rfl rfl rfl rfl rfl rfl ?_
        | refine RunQ.load 3 rfl rfl rfl rfl rfl rfl ?_
        | refine RunQ.load 4 rfl rfl rfl rfl rfl rfl ?_
        | refine RunQ.indexAddr rfl rfl rfl rfl rfl (by omega) rfl rfl rfl ?_
        | refine RunQ.cmpT rfl (fun _ => rfl) rfl rfl (by omega) ?_
        | refine RunQ.cmpF rfl (fun _ => rfl) rfl rfl (by omega) ?_
        | refine RunQ.cmp rfl (fun _ => rfl) rfl rfl (fun _ => ?_) (fun _ => ?_)
        | refine RunQ.bin rfl rfl rfl (fun _ _ => rfl) (IntWalk.i64_in _ (by omega)) rfl rfl ?_
        | refine RunQ.conv rfl rfl rfl rfl (IntWalk.i64_in _ (by omega)) rfl rfl ?_
        | refine RunQ.bin rfl rfl rfl (fun _ _ => rfl) (IntWalk.i32_in _ (by omega)) rfl rfl ?_
        | refine RunQ.conv rfl rfl rfl rfl (IntWalk.i32_in _ (by omega)) rfl rfl ?_
        | refine RunQ.bin rfl rfl rfl (fun _ _ => rfl) (IntWalk.u8_in _ (by omega)) rfl rfl ?_
        | refine RunQ.conv rfl rfl rfl rfl (IntWalk.u8_in _ (by omega)) rfl rfl ?_
        | refine RunQ.bin rfl rfl rfl (fun _ _ => rfl) (IntWalk.u64_in _ (by omega)) rfl rfl ?_
        | refine RunQ.conv rfl rfl rfl rfl (IntWalk.u64_in _ (by omega)) rfl rfl ?_
        | refine RunQ.bin rfl rfl rfl (fun _ _ => rfl) (IntWalk.u32_in _ (by omega)) rfl rfl ?_
        | refine RunQ.conv rfl rfl rfl rfl (IntWalk.u32_in _ (by omega)) rfl rfl ?_
        | refine RunQ.bin rfl rfl rfl (fun _ _ => rfl) (IntWalk.u16_in _ (by omega)) rfl rfl ?_
        | refine RunQ.conv rfl rfl rfl rfl (IntWalk.u16_in _ (by omega)) rfl rfl ?_
        | refine RunQ.val rfl rfl (fun _ => rfl) rfl rfl ?_
        | refine RunQ.no rfl rfl rfl ?_)
      · rename_i hc
        refine Done.inv (((((i : Int) + j) / 2).toNat + 1 : Nat), j) ⟨by dsimp only; omega, h2, fun i' s' h' hi' => ?_, h4⟩ (by dsimp only; omega) ⟨⟨?_, rfl, rfl, rfl, rfl, rfl, trivial⟩, .refl _, rfl⟩
        · dsimp only at hi'
          by_cases e : i' = (((i : Int) + j) / 2).toNat
          · subst e; rw [hs] at h'; cases h'; exact cmp_neg.mp hc
          · have := hr.2 i' _ s' s h' hs (by omega); have := hr.1 _ s hs; have := cmp_neg.mp hc; omega
        · show some _ = some _
          congr 2 <;> omega
      · rename_i hc
        refine Done.inv (i, (((i : Int) + j) / 2).toNat) ⟨by dsimp only; omega, by dsimp only; omega, h3, fun i' s' h' hi' => ?_⟩ (by dsimp only; omega) ⟨⟨rfl, ?_, rfl, rfl, rfl, rfl, trivial⟩, .refl _, rfl⟩
        · dsimp only at hi'
          by_cases e : i' = (((i : Int) + j) / 2).toNat
          · subst e; rw [hs] at h'; cases h'; exact fun h => hc (cmp_neg.mpr h)
          · have := hr.2 _ i' s s' hs h' (by omega); have := hr.1 _ s' h'; have := mt cmp_neg.mpr hc; omega
        · show some _ = some _
          congr 2 <;> omega
    · obtain ⟨s, hs⟩ : ∃ s, l[((i : Int)).toNat]? = some s := ⟨_, List.getElem?_eq_getElem (by omega)⟩
      refine RunO.load 0 rfl rfl rfl (flat_load l _ _ hs) rfl rfl ?_
      repeat' (first
        | refine Run.seq ?_
        | refine Run.region rfl ?_
        | refine Run.drawn rfl rfl rfl ?_
        | refine Run.block ?_
        | refine Run.condT rfl ?_
        | refine Run.condF rfl ?_
        | refine Run.skip ?_
        | refine Run.ret ?_
        | refine Run.exit ?_
        | refine Run.label ?_
        | refine Done.seq ?_
        | refine Done.seqE ?_
        | refine Done.seqR ?_
        | refine Done.blockN ?_
        | refine Done.blockR ?_
        | refine Done.hit ?_
        | refine Done.miss rfl ?_
        | refine Done.invE ?_
        | refine Done.invR ?_
        | refine RunO.pure rfl (fun _ => rfl) rfl rfl (fun _ _ => f18_ok _ _ _ _) ?_
        | refine RunO.nil ?_
        | refine RunO.move rfl rfl rfl rfl ?_
        | refine RunO.assign rfl rfl rfl rfl ?_
        | refine RunO.load 0 rfl rfl rfl rfl rfl rfl ?_
        | refine RunO.load 1 rfl rfl rfl rfl rfl rfl ?_
        | refine RunO.load 2 rfl rfl rfl rfl rfl rfl ?_
        | refine RunO.load 3 rfl rfl rfl rfl rfl rfl ?_
        | refine RunO.load 4 rfl rfl rfl rfl rfl rfl ?_
        | refine RunO.indexAddr rfl rfl rfl rfl rfl (by omega) rfl rfl rfl ?_
        | refine RunO.box rfl rfl rfl rfl rfl rfl (fun _ => ?_)
        | refine RunO.alloc rfl rfl rfl rfl rfl rfl (fun _ => ?_)
        | refine RunO.store 0 rfl rfl rfl rfl rfl rfl (by decide) (by decide) rfl rfl ?_
        | refine RunO.store 1 rfl rfl rfl rfl rfl rfl (by decide) (by decide) rfl rfl ?_
        | refine RunO.store 2 rfl rfl rfl rfl rfl rfl (by decide) (by decide) rfl rfl ?_
        | refine RunO.store 3 rfl rfl rfl rfl rfl rfl (by decide) (by decide) rfl rfl ?_
        | refine RunO.store 4 rfl rfl rfl rfl rfl rfl (by decide) (by decide) rfl rfl ?_
        | refine RunO.cmpT rfl (fun _ => rfl) rfl rfl (by omega) ?_
        | refine RunO.cmpF rfl (fun _ => rfl) rfl rfl (by omega) ?_
        | refine RunO.cmp rfl (fun _ => rfl) rfl rfl (fun _ => ?_) (fun _ => ?_)
        | refine RunO.bin rfl rfl rfl (fun _ _ => rfl) (IntWalk.i64_in _ (by omega)) rfl rfl ?_
        | refine RunO.conv rfl rfl rfl rfl (IntWalk.i64_in _ (by omega)) rfl rfl ?_
        | refine RunO.bin rfl rfl rfl (fun _ _ => rfl) (IntWalk.i32_in _ (by omega)) rfl rfl ?_
        | refine RunO.conv rfl rfl rfl rfl (IntWalk.i32_in _ (by omega)) rfl rfl ?_
        | refine RunO.bin rfl rfl rfl (fun _ _ => rfl) (IntWalk.u8_in _ (by omega)) rfl rfl ?_
        | refine RunO.conv rfl rfl rfl rfl (IntWalk.u8_in _ (by omega)) rfl rfl ?_
        | refine RunO.bin rfl rfl rfl (fun _ _ => rfl) (IntWalk.u64_in _ (by omega)) rfl rfl ?_
        | refine RunO.conv rfl rfl rfl rfl (IntWalk.u64_in _ (by omega)) rfl rfl ?_
        | refine RunO.bin rfl rfl rfl (fun _ _ => rfl) (IntWalk.u32_in _ (by omega)) rfl rfl ?_
        | refine RunO.conv rfl rfl rfl rfl (IntWalk.u32_in _ (by omega)) rfl rfl ?_
        | refine RunO.bin rfl rfl rfl (fun _ _ => rfl) (IntWalk.u16_in _ (by omega)) rfl rfl ?_
        | refine RunO.conv rfl rfl rfl rfl (IntWalk.u16_in _ (by omega)) rfl rfl ?_
        | refine RunO.val rfl (fun _ => rfl) rfl rfl ?_
        | refine RunO.no rfl rfl rfl ?_
        | refine RunQ.nil ?_
        | refine RunQ.move rfl rfl rfl rfl ?_
        | refine RunQ.assign rfl rfl rfl rfl ?_
        | refine RunQ.load 0 rfl rfl rfl rfl rfl rfl ?_
        | refine RunQ.load 1 rfl rfl rfl rfl rfl rfl ?_
        | refine RunQ.load 2 rfl rfl rfl rfl rfl rfl ?_
        | refine RunQ.load 3 rfl rfl rfl rfl rfl rfl ?_
        | refine RunQ.load 4 rfl rfl rfl rfl rfl rfl ?_
        | refine RunQ.indexAddr rfl rfl rfl rfl rfl (by omega) rfl rfl rfl ?_
        | refine RunQ.cmpT rfl (fun _ => rfl) rfl rfl (by omega) ?_
        | refine RunQ.cmpF rfl (fun _ => rfl) rfl rfl (by omega) ?_
        | refine RunQ.cmp rfl (fun _ => rfl) rfl rfl (fun _ => ?_) (fun _ => ?_)
        | refine RunQ.bin rfl rfl rfl (fun _ _ => rfl) (IntWalk.i64_in _ (by omega)) rfl rfl ?_
        | refine RunQ.conv rfl rfl rfl rfl (IntWalk.i64_in _ (by omega)) rfl rfl ?_
        | refine RunQ.bin rfl rfl rfl (fun _ _ => rfl) (IntWalk.i32_in _ (by omega)) rfl rfl ?_
        | refine RunQ.conv rfl rfl rfl rfl (IntWalk.i32_in _ (by omega)) rfl rfl ?_
        | refine RunQ.bin rfl rfl rfl (fun _ _ => rfl) (IntWalk.u8_in _ (by omega)) rfl rfl ?_
        | refine RunQ.conv rfl rfl rfl rfl (IntWalk.u8_in _ (by omega)) rfl rfl ?_
        | refine RunQ.bin rfl rfl rfl (fun _ _ => rfl) (IntWalk.u64_in _ (by omega)) rfl rfl ?_
        | refine RunQ.conv rfl rfl rfl rfl (IntWalk.u64_in _ (by omega)) rfl rfl ?_
        | refine RunQ.bin rfl rfl rfl (fun _ _ => rfl) (IntWalk.u32_in _ (by omega)) rfl rfl ?_
        | refine RunQ.conv rfl rfl rfl rfl (IntWalk.u32_in _ (by omega)) rfl rfl ?_
        | refine RunQ.bin rfl rfl rfl (fun _ _ => rfl) (IntWalk.u16_in _ (by omega)) rfl rfl ?_
        | refine RunQ.conv rfl rfl rfl rfl (IntWalk.u16_in _ (by omega)) rfl rfl ?_
        | refine RunQ.val rfl rfl (fun _ => rfl) rfl rfl ?_
        | refine RunQ.no rfl rfl rfl ?_)
      · rename_i hc
        refine Done.pureP (.inr rfl) (fun _ => rfl) rfl rfl ⟨i, ?_⟩
        rw [isIn_of hs (cmp_zero.mp hc).2 (cmp_zero.mp hc).1]
        rfl
      · rename_i hc
        refine Done.pureP (.inr rfl) (fun _ => rfl) rfl rfl ⟨i, ?_⟩
        rw [not_isIn i hr h3 (fun u hu => ?_)]
        · rfl
        · have hs' : l[i]? = some s := by simpa using hs
          rw [hs'] at hu; cases hu
          have := h4 i s hs' (by omega)
          have := mt cmp_zero.mpr hc
          omega
    · refine Done.pureP (.inr rfl) (fun _ => rfl) rfl rfl ⟨i, ?_⟩
      rw [not_isIn i hr h3 (fun u hu => ?_)]
      · rfl
      · have := (List.getElem?_eq_some_iff.mp hu).1
        omega

end Go.Proofs.YtigfncnlhccaeaaDoor

/-
  width.Of: what it answers for each number.
-/
namespace Go.Proofs.YtigfncnlhccaeaaDoor
open Go Go.Am

def hiddenL : List (Int × Int) := [(-2147483648, 31), (127, 159), (55296, 57343), (1114112, 2147483647)]
def marksL : List (Int × Int) := [
  (0x300, 0x36f), (0x483, 0x489), (0x591, 0x5bd), (0x5bf, 0x5bf), (0x5c1, 0x5c2), (0x5c4, 0x5c5), (0x5c7, 0x5c7),
  (0x610, 0x61a), (0x64b, 0x65f), (0x670, 0x670), (0x6d6, 0x6dc), (0x6df, 0x6e4), (0x6e7, 0x6e8), (0x6ea, 0x6ed),
  (0x711, 0x711), (0x730, 0x74a), (0x7a6, 0x7b0), (0xe31, 0xe31), (0xe34, 0xe3a), (0xe47, 0xe4e),
  (0x1ab0, 0x1ace), (0x1dc0, 0x1dff), (0x200b, 0x200f), (0x202a, 0x202e), (0x2060, 0x2064), (0x20d0, 0x20f0),
  (0x302a, 0x302d), (0x3099, 0x309a), (0xfe00, 0xfe0f), (0xfe20, 0xfe2f), (0xfeff, 0xfeff), (0xe0100, 0xe01ef)]
def widesL : List (Int × Int) := [
  (0x1100, 0x115f), (0x2329, 0x232a), (0x2e80, 0x303e), (0x3041, 0x4dbf), (0x4e00, 0xa4c6), (0xac00, 0xd7a3),
  (0xf900, 0xfaff), (0xfe10, 0xfe19), (0xfe30, 0xfe6f), (0xff01, 0xff60), (0xffe0, 0xffe6),
  (0x1f300, 0x1f64f), (0x1f900, 0x1f9ff), (0x20000, 0x2fffd), (0x30000, 0x3fffd)]

def risingB : List (Int × Int) → Bool
  | [] => true
  | s :: r => decide (s.1 ≤ s.2) && r.all (fun u => decide (s.2 < u.1)) && risingB r

theorem rising_of : ∀ {l : List (Int × Int)}, risingB l = true → Rising l
  | [], _ => ⟨fun i s h => by simp at h, fun i j s u h => by simp at h⟩
  | a :: r, h => by
    simp only [risingB, Bool.and_eq_true, decide_eq_true_eq, List.all_eq_true] at h
    obtain ⟨⟨h1, h2⟩, h3⟩ := h
    have ih := rising_of h3
    refine ⟨fun i s hs => ?_, fun i j s u hs hu hij => ?_⟩
    · cases i with
      | zero => simp at hs; subst hs; exact h1
      | succ i => exact ih.1 i s (by simpa using hs)
    · cases j with
      | zero => omega
      | succ j =>
        have hu' : r[j]? = some u := by simpa using hu
        cases i with
        | zero => simp at hs; subst hs; exact h2 u (List.mem_of_getElem? hu')
        | succ i => exact ih.2 i j s u (by simpa using hs) hu' (by omega)

theorem hidden_rising : Rising hiddenL := rising_of (by decide)
theorem marks_rising : Rising marksL := rising_of (by decide)
theorem wides_rising : Rising widesL := rising_of (by decide)

set_option maxHeartbeats 2000000 in
theorem f14_ok (H : List AObj) : WPcall E 14 [] H (MakesB H (fun k => .slice k 0 4 (some 4)) (.cells (flat hiddenL) 35 .rw false)) := by
  refine WPcall.walk [] rfl Tryd.func14 rfl rfl rfl rfl (by simp [keysB]) (by simp) ?_
  repeat' (first
    | refine Run.seq ?_
    | refine Run.region rfl ?_
    | refine Run.drawn rfl rfl rfl ?_
    | refine Run.block ?_
    | refine Run.condT rfl ?_
    | refine Run.condF rfl ?_
    | refine Run.skip ?_
    | refine Run.ret ?_
    | refine Run.exit ?_
    | refine Run.label ?_
    | refine Done.seq ?_
    | refine Done.seqE ?_
    | refine Done.seqR ?_
    | refine Done.blockN ?_
    | refine Done.blockR ?_
    | refine Done.hit ?_
    | refine Done.miss rfl ?_
    | refine Done.invE ?_
    | refine Done.invR ?_
    | refine RunO.buildSlice (cs := flat hiddenL) rfl rfl rfl rfl rfl ⟨Nat.le_of_ble_eq_true rfl, rfl⟩ (by kernel_rfl) (by kernel_rfl) rfl rfl (fun k => ?_)
    | refine RunO.nil ?_
    | refine RunO.move rfl rfl rfl rfl ?_
    | refine RunO.assign rfl rfl rfl rfl ?_
    | refine RunO.load 0 rfl rfl rfl rfl rfl rfl ?_
    | refine RunO.load 1 rfl rfl rfl rfl rfl rfl ?_
    | refine RunO.load 2 rfl rfl rfl rfl rfl rfl ?_
    | refine RunO.load 3 rfl rfl rfl rfl rfl rfl ?_
    | refine RunO.load 4 rfl rfl rfl rfl rfl rfl ?_
    | refine RunO.indexAddr rfl rfl rfl rfl rfl (by omega) rfl rfl rfl ?_
    | refine RunO.box rfl rfl rfl rfl rfl rfl (fun _ => ?_)
    | refine RunO.alloc rfl rfl rfl rfl rfl rfl (fun _ => ?_)
    | refine RunO.store 0 rfl rfl rfl rfl rfl rfl (by decide) (by decide) rfl rfl ?_
    | refine RunO.store 1 rfl rfl rfl rfl rfl rfl (by decide) (by decide) rfl rfl ?_
    | refine RunO.store 2 rfl rfl rfl rfl rfl rfl (by decide) (by decide) rfl rfl ?_
    | refine RunO.store 3 rfl rfl rfl rfl rfl rfl (by decide) (by decide) rfl rfl ?_
    | refine RunO.store 4 rfl rfl rfl rfl rfl rfl (by decide) (by decide) rfl rfl ?_
    | refine RunO.cmpT rfl (fun _ => rfl) rfl rfl (by omega) ?_
    | refine RunO.cmpF rfl (fun _ => rfl) rfl rfl (by omega) ?_
    | refine RunO.cmp rfl (fun _ => rfl) rfl rfl (fun _ => ?_) (fun _ => ?_)
    | refine RunO.bin rfl rfl rfl (fun _ _ => rfl) (IntWalk.i64_in _ (by omega)) rfl rfl ?_
    | refine RunO.conv rfl rfl rfl rfl (IntWalk.i64_in _ (by omega)) rfl rfl ?_
    | refine RunO.bin rfl rfl rfl (fun _ _ => rfl) (IntWalk.i32_in _ (by omega)) rfl rfl ?_
    | refine RunO.conv rfl rfl rfl rfl (IntWalk.i32_in _ (by omega)) rfl rfl ?_
    | refine RunO.bin rfl rfl rfl (fun _ _ => rfl) (IntWalk.u8_in _ (by omega)) rfl rfl ?_
    | refine RunO.conv rfl rfl rfl rfl (IntWalk.u8_in _ (by omega)) rfl rfl ?_
    | refine RunO.bin rfl rfl rfl (fun _ _ => rfl) (IntWalk.u64_in _ (by omega)) rfl rfl ?_
    | refine RunO.conv rfl rfl rfl rfl (IntWalk.u64_in _ (by omega)) rfl rfl ?_
    | refine RunO.bin rfl rfl rfl (fun _ _ => rfl) (IntWalk.u32_in _ (by omega)) rfl rfl ?_
    | refine RunO.conv rfl rfl rfl rfl (IntWalk.u32_in _ (by omega)) rfl rfl ?_
    | refine RunO.bin rfl rfl rfl (fun _ _ => rfl) (IntWalk.u16_in _ (by omega)) rfl rfl ?_
    | refine RunO.conv rfl rfl rfl rfl (IntWalk.u16_in _ (by omega)) rfl rfl ?_
    | refine RunO.val rfl (fun _ => rfl) rfl rfl ?_
    | refine RunO.no rfl rfl rfl ?_
    | refine RunQ.nil ?_
    | refine RunQ.move rfl rfl rfl rfl ?_
    | refine RunQ.assign rfl rfl rfl rfl ?_
    | refine RunQ.load 0 rfl rfl rfl rfl rfl rfl ?_
    | refine RunQ.load 1 rfl rfl rfl rfl rfl rfl ?_
    | refine RunQ.load 2 rfl rfl rfl rfl rfl rfl ?_
    | refine RunQ.load 3 rfl rfl rfl rfl rfl rfl ?_
    | refine RunQ.load 4 rfl rfl rfl rfl rfl rfl ?_
    | refine RunQ.indexAddr rfl rfl rfl rfl rfl (by omega) rfl rfl rfl ?_
    | refine RunQ.cmpT rfl (fun _ => rfl) rfl rfl (by omega) ?_
    | refine RunQ.cmpF rfl (fun _ => rfl) rfl rfl (by omega) ?_
    | refine RunQ.cmp rfl (fun _ => rfl) rfl rfl (fun _ => ?_) (fun _ => ?_)
    | refine RunQ.bin rfl rfl rfl (fun _ _ => rfl) (IntWalk.i64_in _ (by omega)) rfl rfl ?_
    | refine RunQ.conv rfl rfl rfl rfl (IntWalk.i64_in _ (by omega)) rfl rfl ?_
    | refine RunQ.bin rfl rfl rfl (fun _ _ => rfl) (IntWalk.i32_in _ (by omega)) rfl rfl ?_
    | refine RunQ.conv rfl rfl rfl rfl (IntWalk.i32_in _ (by omega)) rfl rfl ?_
    | refine RunQ.bin rfl rfl rfl (fun _ _ => rfl) (IntWalk.u8_in _ (by omega)) rfl rfl ?_
    | refine RunQ.conv rfl rfl rfl rfl (IntWalk.u8_in _ (by omega)) rfl rfl ?_
    | refine RunQ.bin rfl rfl rfl (fun _ _ => rfl) (IntWalk.u64_in _ (by omega)) rfl rfl ?_
    | refine RunQ.conv rfl rfl rfl rfl (IntWalk.u64_in _ (by omega)) rfl rfl ?_
    | refine RunQ.bin rfl rfl rfl (fun _ _ => rfl) (IntWalk.u32_in _ (by omega)) rfl rfl ?_
    | refine RunQ.conv rfl rfl rfl rfl (IntWalk.u32_in _ (by omega)) rfl rfl ?_
    | refine RunQ.bin rfl rfl rfl (fun _ _ => rfl) (IntWalk.u16_in _ (by omega)) rfl rfl ?_
    | refine RunQ.conv rfl rfl rfl rfl (IntWalk.u16_in _ (by omega)) rfl rfl ?_
    | refine RunQ.val rfl rfl (fun _ => rfl) rfl rfl ?_
    | refine RunQ.no rfl rfl rfl ?_)
  exact Done.makes 0 (.inr rfl) rfl (fun _ => rfl) rfl rfl

set_option maxHeartbeats 4000000 in
theorem f19_ok (H : List AObj) : WPcall E 19 [] H (MakesB H (fun k => .slice k 0 32 (some 32)) (.cells (flat marksL) 35 .rw false)) := by
  refine WPcall.walk [] rfl Tryd.func19 rfl rfl rfl rfl (by simp [keysB]) (by simp) ?_
  repeat' (first
    | refine Run.seq ?_
    | refine Run.region rfl ?_
    | refine Run.drawn rfl rfl rfl ?_
    | refine Run.block ?_
    | refine Run.condT rfl ?_
    | refine Run.condF rfl ?_
    | refine Run.skip ?_
    | refine Run.ret ?_
    | refine Run.exit ?_
    | refine Run.label ?_
    | refine Done.seq ?_
    | refine Done.seqE ?_
    | refine Done.seqR ?_
    | refine Done.blockN ?_
    | refine Done.blockR ?_
    | refine Done.hit ?_
    | refine Done.miss rfl ?_
    | refine Done.invE ?_
    | refine Done.invR ?_
    | refine RunO.buildSlice (cs := flat marksL) rfl rfl rfl rfl rfl ⟨Nat.le_of_ble_eq_true rfl, rfl⟩ (by kernel_rfl) (by kernel_rfl) rfl rfl (fun k => ?_)
    | refine RunO.nil ?_
    | refine RunO.move rfl rfl rfl rfl ?_
    | refine RunO.assign rfl rfl rfl rfl ?_
    | refine RunO.load 0 rfl rfl rfl rfl rfl rfl ?_
    | refine RunO.load 1 rfl rfl rfl rfl rfl rfl ?_
    | refine RunO.load 2 rfl rfl rfl rfl rfl rfl ?_
    | refine RunO.load 3 rfl rfl rfl rfl rfl rfl ?_
    | refine RunO.load 4 rfl rfl rfl rfl rfl rfl ?_
    | refine RunO.indexAddr rfl rfl rfl rfl rfl (by omega) rfl rfl rfl ?_
    | refine RunO.box rfl rfl rfl rfl rfl rfl (fun _ => ?_)
    | refine RunO.alloc rfl rfl rfl rfl rfl rfl (fun _ => ?_)
    | refine RunO.store 0 rfl rfl rfl rfl rfl rfl (by decide) (by decide) rfl rfl ?_
    | refine RunO.store 1 rfl rfl rfl rfl rfl rfl (by decide) (by decide) rfl rfl ?_
    | refine RunO.store 2 rfl rfl rfl rfl rfl rfl (by decide) (by decide) rfl rfl ?_
    | refine RunO.store 3 rfl rfl rfl rfl rfl rfl (by decide) (by decide) rfl rfl ?_
    | refine RunO.store 4 rfl rfl rfl rfl rfl rfl (by decide) (by decide) rfl rfl ?_
    | refine RunO.cmpT rfl (fun _ => rfl) rfl rfl (by omega) ?_
    | refine RunO.cmpF rfl (fun _ => rfl) rfl rfl (by omega) ?_
    | refine RunO.cmp rfl (fun _ => rfl) rfl rfl (fun _ => ?_) (fun _ => ?_)
    | refine RunO.bin rfl rfl rfl (fun _ _ => rfl) (IntWalk.i64_in _ (by omega)) rfl rfl ?_
    | refine RunO.conv rfl rfl rfl rfl (IntWalk.i64_in _ (by omega)) rfl rfl ?_
    | refine RunO.bin rfl rfl rfl (fun _ _ => rfl) (IntWalk.i32_in _ (by omega)) rfl rfl ?_
    | refine RunO.conv rfl rfl rfl rfl (IntWalk.i32_in _ (by omega)) rfl rfl ?_
    | refine RunO.bin rfl rfl rfl (fun _ _ => rfl) (IntWalk.u8_in _ (by omega)) rfl rfl ?_
    | refine RunO.conv rfl rfl rfl rfl (IntWalk.u8_in _ (by omega)) rfl rfl ?_
    | refine RunO.bin rfl rfl rfl (fun _ _ => rfl) (IntWalk.u64_in _ (by omega)) rfl rfl ?_
    | refine RunO.conv rfl rfl rfl rfl (IntWalk.u64_in _ (by omega)) rfl rfl ?_
    | refine RunO.bin rfl rfl rfl (fun _ _ => rfl) (IntWalk.u32_in _ (by omega)) rfl rfl ?_
    | refine RunO.conv rfl rfl rfl rfl (IntWalk.u32_in _ (by omega)) rfl rfl ?_
    | refine RunO.bin rfl rfl rfl (fun _ _ => rfl) (IntWalk.u16_in _ (by omega)) rfl rfl ?_
    | refine RunO.conv rfl rfl rfl rfl (IntWalk.u16_in _ (by omega)) rfl rfl ?_
    | refine RunO.val rfl (fun _ => rfl) rfl rfl ?_
    | refine RunO.no rfl rfl rfl ?_
    | refine RunQ.nil ?_
    | refine RunQ.move rfl rfl rfl rfl ?_
    | refine RunQ.assign rfl rfl rfl rfl ?_
    | refine RunQ.load 0 rfl rfl rfl rfl rfl rfl ?_
    | refine RunQ.load 1 rfl rfl rfl rfl rfl rfl ?_
    | refine RunQ.load 2 rfl rfl rfl rfl rfl rfl ?_
    | refine RunQ.load 3 rfl rfl rfl rfl rfl rfl ?_
    | refine RunQ.load 4 rfl rfl rfl rfl rfl rfl ?_
    | refine RunQ.indexAddr rfl rfl rfl rfl rfl (by omega) rfl rfl rfl ?_
    | refine RunQ.cmpT rfl (fun _ => rfl) rfl rfl (by omega) ?_
    | refine RunQ.cmpF rfl (fun _ => rfl) rfl rfl (by omega) ?_
    | refine RunQ.cmp rfl (fun _ => rfl) rfl rfl (fun _ => ?_) (fun _ => ?_)
    | refine RunQ.bin rfl rfl rfl (fun _ _ => rfl) (IntWalk.i64_in _ (by omega)) rfl rfl ?_
    | refine RunQ.conv rfl rfl rfl rfl (IntWalk.i64_in _ (by omega)) rfl rfl ?_
    | refine RunQ.bin rfl rfl rfl (fun _ _ => rfl) (IntWalk.i32_in _ (by omega)) rfl rfl ?_
    | refine RunQ.conv rfl rfl rfl rfl (IntWalk.i32_in _ (by omega)) rfl rfl ?_
    | refine RunQ.bin rfl rfl rfl (fun _ _ => rfl) (IntWalk.u8_in _ (by omega)) rfl rfl ?_
    | refine RunQ.conv rfl rfl rfl rfl (IntWalk.u8_in _ (by omega)) rfl rfl ?_
    | refine RunQ.bin rfl rfl rfl (fun _ _ => rfl) (IntWalk.u64_in _ (by omega)) rfl rfl ?_
    | refine RunQ.conv rfl rfl rfl rfl (IntWalk.u64_in _ (by omega)) rfl rfl ?_
    | refine RunQ.bin rfl rfl rfl (fun _ _ => rfl) (IntWalk.u32_in _ (by omega)) rfl rfl ?_
    | refine RunQ.conv rfl rfl rfl rfl (IntWalk.u32_in _ (by omega)) rfl rfl ?_
    | refine RunQ.bin rfl rfl rfl (fun _ _ => rfl) (IntWalk.u16_in _ (by omega)) rfl rfl ?_
    | refine RunQ.conv rfl rfl rfl rfl (IntWalk.u16_in _ (by omega)) rfl rfl ?_
    | refine RunQ.val rfl rfl (fun _ => rfl) rfl rfl ?_
    | refine RunQ.no rfl rfl rfl ?_)
  exact Done.makes 0 (.inr rfl) rfl (fun _ => rfl) rfl rfl

set_option maxHeartbeats 4000000 in
theorem f20_ok (H : List AObj) : WPcall E 20 [] H (MakesB H (fun k => .slice k 0 15 (some 15)) (.cells (flat widesL) 35 .rw false)) := by
  refine WPcall.walk [] rfl Tryd.func20 rfl rfl rfl rfl (by simp [keysB]) (by simp) ?_
  repeat' (first
    | refine Run.seq ?_
    | refine Run.region rfl ?_
    | refine Run.drawn rfl rfl rfl ?_
    | refine Run.block ?_
    | refine Run.condT rfl ?_
    | refine Run.condF rfl ?_
    | refine Run.skip ?_
    | refine Run.ret ?_
    | refine Run.exit ?_
    | refine Run.label ?_
    | refine Done.seq ?_
    | refine Done.seqE ?_
    | refine Done.seqR ?_
    | refine Done.blockN ?_
    | refine Done.blockR ?_
    | refine Done.hit ?_
    | refine Done.miss rfl ?_
    | refine Done.invE ?_
    | refine Done.invR ?_
    | refine RunO.buildSlice (cs := flat widesL) rfl rfl rfl rfl rfl ⟨Nat.le_of_ble_eq_true rfl, rfl⟩ (by kernel_rfl) (by kernel_rfl) rfl rfl (fun k => ?_)
    | refine RunO.nil ?_
    | refine RunO.move rfl rfl rfl rfl ?_
    | refine RunO.assign rfl rfl rfl rfl ?_
    | refine RunO.load 0 rfl rfl rfl rfl rfl rfl ?_
    | refine RunO.load 1 rfl rfl rfl rfl rfl rfl ?_
    | refine RunO.load 2 rfl rfl rfl rfl rfl rfl ?_
    | refine RunO.load 3 rfl rfl rfl rfl rfl rfl ?_
    | refine RunO.load 4 rfl rfl rfl rfl rfl rfl ?_
    | refine RunO.indexAddr rfl rfl rfl rfl rfl (by omega) rfl rfl rfl ?_
    | refine RunO.box rfl rfl rfl rfl rfl rfl (fun _ => ?_)
    | refine RunO.alloc rfl rfl rfl rfl rfl rfl (fun _ => ?_)
    | refine RunO.store 0 rfl rfl rfl rfl rfl rfl (by decide) (by decide) rfl rfl ?_
    | refine RunO.store 1 rfl rfl rfl rfl rfl rfl (by decide) (by decide) rfl rfl ?_
    | refine RunO.store 2 rfl rfl rfl rfl rfl rfl (by decide) (by decide) rfl rfl ?_
    | refine RunO.store 3 rfl rfl rfl rfl rfl rfl (by decide) (by decide) rfl rfl ?_
    | refine RunO.store 4 rfl rfl rfl rfl rfl rfl (by decide) (by decide) rfl rfl ?_
    | refine RunO.cmpT rfl (fun _ => rfl) rfl rfl (by omega) ?_
    | refine RunO.cmpF rfl (fun _ => rfl) rfl rfl (by omega) ?_
    | refine RunO.cmp rfl (fun _ => rfl) rfl rfl (fun _ => ?_) (fun _ => ?_)
    | refine RunO.bin rfl rfl rfl (fun _ _ => rfl) (IntWalk.i64_in _ (by omega)) rfl rfl ?_
    | refine RunO.conv rfl rfl rfl rfl (IntWalk.i64_in _ (by omega)) rfl rfl ?_
    | refine RunO.bin rfl rfl rfl (fun _ _ => rfl) (IntWalk.i32_in _ (by omega)) rfl rfl ?_
    | refine RunO.conv rfl rfl rfl rfl (IntWalk.i32_in _ (by omega)) rfl rfl ?_
    | refine RunO.bin rfl rfl rfl (fun _ _ => rfl) (IntWalk.u8_in _ (by omega)) rfl rfl ?_
    | refine RunO.conv rfl rfl rfl rfl (IntWalk.u8_in _ (by omega)) rfl rfl ?_
    | refine RunO.bin rfl rfl rfl (fun _ _ => rfl) (IntWalk.u64_in _ (by omega)) rfl rfl ?_
    | refine RunO.conv rfl rfl rfl rfl (IntWalk.u64_in _ (by omega)) rfl rfl ?_
    | refine RunO.bin rfl rfl rfl (fun _ _ => rfl) (IntWalk.u32_in _ (by omega)) rfl rfl ?_
    | refine RunO.conv rfl rfl rfl rfl (IntWalk.u32_in _ (by omega)) rfl rfl ?_
    | refine RunO.bin rfl rfl rfl (fun _ _ => rfl) (IntWalk.u16_in _ (by omega)) rfl rfl ?_
    | refine RunO.conv rfl rfl rfl rfl (IntWalk.u16_in _ (by omega)) rfl rfl ?_
    | refine RunO.val rfl (fun _ => rfl) rfl rfl ?_
    | refine RunO.no rfl rfl rfl ?_
    | refine RunQ.nil ?_
    | refine RunQ.move rfl rfl rfl rfl ?_
    | refine RunQ.assign rfl rfl rfl rfl ?_
    | refine RunQ.load 0 rfl rfl rfl rfl rfl rfl ?_
    | refine RunQ.load 1 rfl rfl rfl rfl rfl rfl ?_
    | refine RunQ.load 2 rfl rfl rfl rfl rfl rfl ?_
    | refine RunQ.load 3 rfl rfl rfl rfl rfl rfl ?_
    | refine RunQ.load 4 rfl rfl rfl rfl rfl rfl ?_
    | refine RunQ.indexAddr rfl rfl rfl rfl rfl (by omega) rfl rfl rfl ?_
    | refine RunQ.cmpT rfl (fun _ => rfl) rfl rfl (by omega) ?_
    | refine RunQ.cmpF rfl (fun _ => rfl) rfl rfl (by omega) ?_
    | refine RunQ.cmp rfl (fun _ => rfl) rfl rfl (fun _ => ?_) (fun _ => ?_)
    | refine RunQ.bin rfl rfl rfl (fun _ _ => rfl) (IntWalk.i64_in _ (by omega)) rfl rfl ?_
    | refine RunQ.conv rfl rfl rfl rfl (IntWalk.i64_in _ (by omega)) rfl rfl ?_
    | refine RunQ.bin rfl rfl rfl (fun _ _ => rfl) (IntWalk.i32_in _ (by omega)) rfl rfl ?_
    | refine RunQ.conv rfl rfl rfl rfl (IntWalk.i32_in _ (by omega)) rfl rfl ?_
    | refine RunQ.bin rfl rfl rfl (fun _ _ => rfl) (IntWalk.u8_in _ (by omega)) rfl rfl ?_
    | refine RunQ.conv rfl rfl rfl rfl (IntWalk.u8_in _ (by omega)) rfl rfl ?_
    | refine RunQ.bin rfl rfl rfl (fun _ _ => rfl) (IntWalk.u64_in _ (by omega)) rfl rfl ?_
    | refine RunQ.conv rfl rfl rfl rfl (IntWalk.u64_in _ (by omega)) rfl rfl ?_
    | refine RunQ.bin rfl rfl rfl (fun _ _ => rfl) (IntWalk.u32_in _ (by omega)) rfl rfl ?_
    | refine RunQ.conv rfl rfl rfl rfl (IntWalk.u32_in _ (by omega)) rfl rfl ?_
    | refine RunQ.bin rfl rfl rfl (fun _ _ => rfl) (IntWalk.u16_in _ (by omega)) rfl rfl ?_
    | refine RunQ.conv rfl rfl rfl rfl (IntWalk.u16_in _ (by omega)) rfl rfl ?_
    | refine RunQ.val rfl rfl (fun _ => rfl) rfl rfl ?_
    | refine RunQ.no rfl rfl rfl ?_)
  exact Done.makes 0 (.inr rfl) rfl (fun _ => rfl) rfl rfl

theorem f13_ok (k : Nat) (l : List (Int × Int)) (x : Int) (cp : Option Nat) (e : TypeId) (m : Am.Mode) (fz : Bool) (H : List AObj) (hk : H[k]? = some (.cells (flat l) e m fz)) (hl : l.length < 1000000000) (hr : Rising l) :
    Gives E 13 [.int .i32 x, .slice k 0 l.length cp] H (.pure (.bool (isIn l x))) := by
  refine Gives.walk [(false, k, .cells (flat l) e m fz)] rfl Tryd.func13 rfl rfl rfl rfl (by simp [keysB]) (by simpa using hk) ?_
  repeat' (first
    | refine Run.seq ?_
    | refine Run.region rfl ?_
    | refine Run.drawn rfl rfl rfl ?_
    | refine Run.block ?_
    | refine Run.condT rfl ?_
    | refine Run.condF rfl ?_
    | refine Run.skip ?_
    | refine Run.ret ?_
    | refine Run.exit ?_
    | refine Run.label ?_
    | refine Done.seq ?_
    | refine Done.seqE ?_
    | refine Done.seqR ?_
    | refine Done.blockN ?_
    | refine Done.blockR ?_
    | refine Done.hit ?_
    | refine Done.miss rfl ?_
    | refine Done.invE ?_
    | refine Done.invR ?_
    | refine RunO.pureE (fun p : Int => .tup [.int .i64 p, .bool (isIn l x)]) rfl (fun _ => rfl) rfl rfl (fun H hh => f17_ok k l x cp e m fz H.objs (hh.at (i := 0) rfl) hl hr) (fun p => ?_)
    | refine RunO.nil ?_
    | refine RunO.move rfl rfl rfl rfl ?_
    | refine RunO.assign rfl rfl rfl rfl ?_
    | refine RunO.load 0 rfl rfl rfl rfl rfl rfl ?_
    | refine RunO.load 1 rfl rfl rfl rfl rfl rfl ?_
    | refine RunO.load 2 rfl rfl rfl rfl rfl rfl ?_
    | refine RunO.load 3 rfl rfl rfl rfl rfl rfl ?_
    | refine RunO.load 4 rfl rfl rfl rfl rfl rfl ?_
    | refine RunO.indexAddr rfl rfl rfl rfl rfl (by omega) rfl rfl rfl ?_
    | refine RunO.box rfl rfl rfl rfl rfl rfl (fun _ => ?_)
    | refine RunO.alloc rfl rfl rfl rfl rfl rfl (fun _ => ?_)
    | refine RunO.store 0 rfl rfl rfl rfl rfl rfl (by decide) (by decide) rfl rfl ?_
    | refine RunO.store 1 rfl rfl rfl rfl rfl rfl (by decide) (by decide) rfl rfl ?_
    | refine RunO.store 2 rfl rfl rfl rfl rfl rfl (by decide) (by decide) rfl rfl ?_
    | refine RunO.store 3 rfl rfl rfl rfl rfl rfl (by decide) (by decide) rfl rfl ?_
    | refine RunO.store 4 rfl rfl rfl rfl rfl rfl (by decide) (by decide) rfl rfl ?_
    | refine RunO.cmpT rfl (fun _ => rfl) rfl rfl (by omega) ?_
    | refine RunO.cmpF rfl (fun _ => rfl) rfl rfl (by omega) ?_
    | refine RunO.cmp rfl (fun _ => rfl) rfl rfl (fun _ => ?_) (fun _ => ?_)
    | refine RunO.bin rfl rfl rfl (fun _ _ => rfl) (IntWalk.i64_in _ (by omega)) rfl rfl ?_
    | refine RunO.conv rfl rfl rfl rfl (IntWalk.i64_in _ (by omega)) rfl rfl ?_
    | refine RunO.bin rfl rfl rfl (fun _ _ => rfl) (IntWalk.i32_in _ (by omega)) rfl rfl ?_
    | refine RunO.conv rfl rfl rfl rfl (IntWalk.i32_in _ (by omega)) rfl rfl ?_
    | refine RunO.bin rfl rfl rfl (fun _ _ => rfl) (IntWalk.u8_in _ (by omega)) rfl rfl ?_
    | refine RunO.conv rfl rfl rfl rfl (IntWalk.u8_in _ (by omega)) rfl rfl ?_
    | refine RunO.bin rfl rfl rfl (fun _ _ => rfl) (IntWalk.u64_in _ (by omega)) rfl rfl ?_
    | refine RunO.conv rfl rfl rfl rfl (IntWalk.u64_in _ (by omega)) rfl rfl ?_
    | refine RunO.bin rfl rfl rfl (fun _ _ => rfl) (IntWalk.u32_in _ (by omega)) rfl rfl ?_
    | refine RunO.conv rfl rfl rfl rfl (IntWalk.u32_in _ (by omega)) rfl rfl ?_
    | refine RunO.bin rfl rfl rfl (fun _ _ => rfl) (IntWalk.u16_in _ (by omega)) rfl rfl ?_
    | refine RunO.conv rfl rfl rfl rfl (IntWalk.u16_in _ (by omega)) rfl rfl ?_
    | refine RunO.val rfl (fun _ => rfl) rfl rfl ?_
    | refine RunO.no rfl rfl rfl ?_
    | refine RunQ.nil ?_
    | refine RunQ.move rfl rfl rfl rfl ?_
    | refine RunQ.assign rfl rfl rfl rfl ?_
    | refine RunQ.load 0 rfl rfl rfl rfl rfl rfl ?_
    | refine RunQ.load 1 rfl rfl rfl rfl rfl rfl ?_
    | refine RunQ.load 2 rfl rfl rfl rfl rfl rfl ?_
    | refine RunQ.load 3 rfl rfl rfl rfl rfl rfl ?_
    | refine RunQ.load 4 rfl rfl rfl rfl rfl rfl ?_
    | refine RunQ.indexAddr rfl rfl rfl rfl rfl (by omega) rfl rfl rfl ?_
    | refine RunQ.cmpT rfl (fun _ => rfl) rfl rfl (by omega) ?_
    | refine RunQ.cmpF rfl (fun _ => rfl) rfl rfl (by omega) ?_
    | refine RunQ.cmp rfl (fun _ => rfl) rfl rfl (fun _ => ?_) (fun _ => ?_)
    | refine RunQ.bin rfl rfl rfl (fun _ _ => rfl) (IntWalk.i64_in _ (by omega)) rfl rfl ?_
    | refine RunQ.conv rfl rfl rfl rfl (IntWalk.i64_in _ (by omega)) rfl rfl ?_
    | refine RunQ.bin rfl rfl rfl (fun _ _ => rfl) (IntWalk.i32_in _ (by omega)) rfl rfl ?_
    | refine RunQ.conv rfl rfl rfl rfl (IntWalk.i32_in _ (by omega)) rfl rfl ?_
    | refine RunQ.bin rfl rfl rfl (fun _ _ => rfl) (IntWalk.u8_in _ (by omega)) rfl rfl ?_
    | refine RunQ.conv rfl rfl rfl rfl (IntWalk.u8_in _ (by omega)) rfl rfl ?_
    | refine RunQ.bin rfl rfl rfl (fun _ _ => rfl) (IntWalk.u64_in _ (by omega)) rfl rfl ?_
    | refine RunQ.conv rfl rfl rfl rfl (IntWalk.u64_in _ (by omega)) rfl rfl ?_
    | refine RunQ.bin rfl rfl rfl (fun _ _ => rfl) (IntWalk.u32_in _ (by omega)) rfl rfl ?_
    | refine RunQ.conv rfl rfl rfl rfl (IntWalk.u32_in _ (by omega)) rfl rfl ?_
    | refine RunQ.bin rfl rfl rfl (fun _ _ => rfl) (IntWalk.u16_in _ (by omega)) rfl rfl ?_
    | refine RunQ.conv rfl rfl rfl rfl (IntWalk.u16_in _ (by omega)) rfl rfl ?_
    | refine RunQ.val rfl rfl (fun _ => rfl) rfl rfl ?_
    | refine RunQ.no rfl rfl rfl ?_)
  exact Done.pure (.inr rfl) (fun _ => rfl) rfl rfl

def ofSpec (x : Int) : Int := if isIn hiddenL x = true then -1 else if isIn marksL x = true then 0 else if isIn widesL x = true then 2 else 1

theorem f15_ok (x : Int) (H : List AObj) : Gives E 15 [.int .i32 x] H (.pure (.bool (isIn marksL x))) := by
  refine Gives.walk [] rfl Tryd.func15 rfl rfl rfl rfl (by simp [keysB]) (by simp) ?_
  repeat' (first
    | refine Run.seq ?_
    | refine Run.region rfl ?_
    | refine Run.drawn rfl rfl rfl ?_
    | refine Run.block ?_
    | refine Run.condT rfl ?_
    | refine Run.condF rfl ?_
    | refine Run.skip ?_
    | refine Run.ret ?_
    | refine Run.exit ?_
    | refine Run.label ?_
    | refine Done.seq ?_
    | refine Done.seqE ?_
    | refine Done.seqR ?_
    | refine Done.blockN ?_
    | refine Done.blockR ?_
    | refine Done.hit ?_
    | refine Done.miss rfl ?_
    | refine Done.invE ?_
    | refine Done.invR ?_
    | refine RunO.callB rfl (fun _ => rfl) rfl rfl (fun H hh => f19_ok H.objs) (fun k => ?_)
    | refine RunO.pure rfl (fun _ => rfl) rfl rfl (fun H hh => f13_ok _ marksL _ _ _ _ _ H.objs (hh.at (i := 0) rfl) (by decide) marks_rising) ?_
    | refine RunO.nil ?_
    | refine RunO.move rfl rfl rfl rfl ?_
    | refine RunO.assign rfl rfl rfl rfl ?_
    | refine RunO.load 0 rfl rfl rfl rfl rfl rfl ?_
    | refine RunO.load 1 rfl rfl rfl rfl rfl rfl ?_
    | refine RunO.load 2 rfl rfl rfl rfl rfl rfl ?_
    | refine RunO.load 3 rfl rfl rfl rfl rfl rfl ?_
    | refine RunO.load 4 rfl rfl rfl rfl rfl rfl ?_
    | refine RunO.indexAddr rfl rfl rfl rfl rfl (by omega) rfl rfl rfl ?_
    | refine RunO.box rfl rfl rfl rfl rfl rfl (fun _ => ?_)
    | refine RunO.alloc rfl rfl rfl rfl rfl rfl (fun _ => ?_)
    | refine RunO.store 0 rfl rfl rfl rfl rfl rfl (by decide) (by decide) rfl rfl ?_
    | refine RunO.store 1 rfl rfl rfl rfl rfl rfl (by decide) (by decide) rfl rfl ?_
    | refine RunO.store 2 rfl rfl rfl rfl rfl rfl (by decide) (by decide) rfl rfl ?_
    | refine RunO.store 3 rfl rfl rfl rfl rfl rfl (by decide) (by decide) rfl rfl ?_
    | refine RunO.store 4 rfl rfl rfl rfl rfl rfl (by decide) (by decide) rfl rfl ?_
    | refine RunO.cmpT rfl (fun _ => rfl) rfl rfl (by omega) ?_
    | refine RunO.cmpF rfl (fun _ => rfl) rfl rfl (by omega) ?_
    | refine RunO.cmp rfl (fun _ => rfl) rfl rfl (fun _ => ?_) (fun _ => ?_)
    | refine RunO.bin rfl rfl rfl (fun _ _ => rfl) (IntWalk.i64_in _ (by omega)) rfl rfl ?_
    | refine RunO.conv rfl rfl rfl rfl (IntWalk.i64_in _ (by omega)) rfl rfl ?_
    | refine RunO.bin rfl rfl rfl (fun _ _ => rfl) (IntWalk.i32_in _ (by omega)) rfl rfl ?_
    | refine RunO.conv rfl rfl rfl rfl (IntWalk.i32_in _ (by omega)) rfl rfl ?_
    | refine RunO.bin rfl rfl rfl (fun _ _ => rfl) (IntWalk.u8_in _ (by omega)) rfl rfl ?_
    | refine RunO.conv rfl rfl rfl rfl (IntWalk.u8_in _ (by omega)) rfl rfl ?_
    | refine RunO.bin rfl rfl rfl (fun _ _ => rfl) (IntWalk.u64_in _ (by omega)) rfl rfl ?_
    | refine RunO.conv rfl rfl rfl rfl (IntWalk.u64_in _ (by omega)) rfl rfl ?_
    | refine RunO.bin rfl rfl rfl (fun _ _ => rfl) (IntWalk.u32_in _ (by omega)) rfl rfl ?_
    | refine RunO.conv rfl rfl rfl rfl (IntWalk.u32_in _ (by omega)) rfl rfl ?_
    | refine RunO.bin rfl rfl rfl (fun _ _ => rfl) (IntWalk.u16_in _ (by omega)) rfl rfl ?_
    | refine RunO.conv rfl rfl rfl rfl (IntWalk.u16_in _ (by omega)) rfl rfl ?_
    | refine RunO.val rfl (fun _ => rfl) rfl rfl ?_
    | refine RunO.no rfl rfl rfl ?_
    | refine RunQ.nil ?_
    | refine RunQ.move rfl rfl rfl rfl ?_
    | refine RunQ.assign rfl rfl rfl rfl ?_
    | refine RunQ.load 0 rfl rfl rfl rfl rfl rfl ?_
    | refine RunQ.load 1 rfl rfl rfl rfl rfl rfl ?_
    | refine RunQ.load 2 rfl rfl rfl rfl rfl rfl ?_
    | refine RunQ.load 3 rfl rfl rfl rfl rfl rfl ?_
    | refine RunQ.load 4 rfl rfl rfl rfl rfl rfl ?_
    | refine RunQ.indexAddr rfl rfl rfl rfl rfl (by omega) rfl rfl rfl ?_
    | refine RunQ.cmpT rfl (fun _ => rfl) rfl rfl (by omega) ?_
    | refine RunQ.cmpF rfl (fun _ => rfl) rfl rfl (by omega) ?_
    | refine RunQ.cmp rfl (fun _ => rfl) rfl rfl (fun _ => ?_) (fun _ => ?_)
    | refine RunQ.bin rfl rfl rfl (fun _ _ => rfl) (IntWalk.i64_in _ (by omega)) rfl rfl ?_
    | refine RunQ.conv rfl rfl rfl rfl (IntWalk.i64_in _ (by omega)) rfl rfl ?_
    | refine RunQ.bin rfl rfl rfl (fun _ _ => rfl) (IntWalk.i32_in _ (by omega)) rfl rfl ?_
    | refine RunQ.conv rfl rfl rfl rfl (IntWalk.i32_in _ (by omega)) rfl rfl ?_
    | refine RunQ.bin rfl rfl rfl (fun _ _ => rfl) (IntWalk.u8_in _ (by omega)) rfl rfl ?_
    | refine RunQ.conv rfl rfl rfl rfl (IntWalk.u8_in _ (by omega)) rfl rfl ?_
    | refine RunQ.bin rfl rfl rfl (fun _ _ => rfl) (IntWalk.u64_in _ (by omega)) rfl rfl ?_
    | refine RunQ.conv rfl rfl rfl rfl (IntWalk.u64_in _ (by omega)) rfl rfl ?_
    | refine RunQ.bin rfl rfl rfl (fun _ _ => rfl) (IntWalk.u32_in _ (by omega)) rfl rfl ?_
    | refine RunQ.conv rfl rfl rfl rfl (IntWalk.u32_in _ (by omega)) rfl rfl ?_
    | refine RunQ.bin rfl rfl rfl (fun _ _ => rfl) (IntWalk.u16_in _ (by omega)) rfl rfl ?_
    | refine RunQ.conv rfl rfl rfl rfl (IntWalk.u16_in _ (by omega)) rfl rfl ?_
    | refine RunQ.val rfl rfl (fun _ => rfl) rfl rfl ?_
    | refine RunQ.no rfl rfl rfl ?_)
  exact Done.pure (.inr rfl) (fun _ => rfl) rfl rfl

theorem f16_ok (x : Int) (H : List AObj) : Gives E 16 [.int .i32 x] H (.pure (.bool (isIn widesL x && !isIn marksL x))) := by
  refine Gives.walk [] rfl Tryd.func16 rfl rfl rfl rfl (by simp [keysB]) (by simp) ?_
  repeat' (first
    | refine Run.seq ?_
    | refine Run.region rfl ?_
    | refine Run.drawn rfl rfl rfl ?_
    | refine Run.block ?_
    | refine Run.condT rfl ?_
    | refine Run.condF rfl ?_
    | refine Run.skip ?_
    | refine Run.ret ?_
    | refine Run.exit ?_
    | refine Run.label ?_
    | refine Done.seq ?_
    | refine Done.seqE ?_
    | refine Done.seqR ?_
    | refine Done.blockN ?_
    | refine Done.blockR ?_
    | refine Done.hit ?_
    | refine Done.miss rfl ?_
    | refine Done.invE ?_
    | refine Done.invR ?_
    | refine RunO.callB rfl (fun _ => rfl) rfl rfl (fun H hh => f20_ok H.objs) (fun k => ?_)
    | refine RunO.pure rfl (fun _ => rfl) rfl rfl (fun H hh => f13_ok _ widesL _ _ _ _ _ H.objs (hh.at (i := 0) rfl) (by decide) wides_rising) ?_
    | refine RunO.cmpM rfl rfl rfl rfl (fun _ => ?_) (fun _ => ?_)
    | refine RunO.pure rfl (fun _ => rfl) rfl rfl (fun H hh => f15_ok _ H.objs) ?_
    | refine RunO.nil ?_
    | refine RunO.move rfl rfl rfl rfl ?_
    | refine RunO.assign rfl rfl rfl rfl ?_
    | refine RunO.load 0 rfl rfl rfl rfl rfl rfl ?_
    | refine RunO.load 1 rfl rfl rfl rfl rfl rfl ?_
    | refine RunO.load 2 rfl rfl rfl rfl rfl rfl ?_
    | refine RunO.load 3 rfl rfl rfl rfl rfl rfl ?_
    | refine RunO.load 4 rfl rfl rfl rfl rfl rfl ?_
    | refine RunO.indexAddr rfl rfl rfl rfl rfl (by omega) rfl rfl rfl ?_
    | refine RunO.box rfl rfl rfl rfl rfl rfl (fun _ => ?_)
    | refine RunO.alloc rfl rfl rfl rfl rfl rfl (fun _ => ?_)
    | refine RunO.store 0 rfl rfl rfl rfl rfl rfl (by decide) (by decide) rfl rfl ?_
    | refine RunO.store 1 rfl rfl rfl rfl rfl rfl (by decide) (by decide) rfl rfl ?_
    | refine RunO.store 2 rfl rfl rfl rfl rfl rfl (by decide) (by decide) rfl rfl ?_
    | refine RunO.store 3 rfl rfl rfl rfl rfl rfl (by decide) (by decide) rfl rfl ?_
    | refine RunO.store 4 rfl rfl rfl rfl rfl rfl (by decide) (by decide) rfl rfl ?_
    | refine RunO.cmpT rfl (fun _ => rfl) rfl rfl (by omega) ?_
    | refine RunO.cmpF rfl (fun _ => rfl) rfl rfl (by omega) ?_
    | refine RunO.cmp rfl (fun _ => rfl) rfl rfl (fun _ => ?_) (fun _ => ?_)
    | refine RunO.bin rfl rfl rfl (fun _ _ => rfl) (IntWalk.i64_in _ (by omega)) rfl rfl ?_
    | refine RunO.conv rfl rfl rfl rfl (IntWalk.i64_in _ (by omega)) rfl rfl ?_
    | refine RunO.bin rfl rfl rfl (fun _ _ => rfl) (IntWalk.i32_in _ (by omega)) rfl rfl ?_
    | refine RunO.conv rfl rfl rfl rfl (IntWalk.i32_in _ (by omega)) rfl rfl ?_
    | refine RunO.bin rfl rfl rfl (fun _ _ => rfl) (IntWalk.u8_in _ (by omega)) rfl rfl ?_
    | refine RunO.conv rfl rfl rfl rfl (IntWalk.u8_in _ (by omega)) rfl rfl ?_
    | refine RunO.bin rfl rfl rfl (fun _ _ => rfl) (IntWalk.u64_in _ (by omega)) rfl rfl ?_
    | refine RunO.conv rfl rfl rfl rfl (IntWalk.u64_in _ (by omega)) rfl rfl ?_
    | refine RunO.bin rfl rfl rfl (fun _ _ => rfl) (IntWalk.u32_in _ (by omega)) rfl rfl ?_
    | refine RunO.conv rfl rfl rfl rfl (IntWalk.u32_in _ (by omega)) rfl rfl ?_
    | refine RunO.bin rfl rfl rfl (fun _ _ => rfl) (IntWalk.u16_in _ (by omega)) rfl rfl ?_
    | refine RunO.conv rfl rfl rfl rfl (IntWalk.u16_in _ (by omega)) rfl rfl ?_
    | refine RunO.val rfl (fun _ => rfl) rfl rfl ?_
    | refine RunO.no rfl rfl rfl ?_
    | refine RunQ.nil ?_
    | refine RunQ.move rfl rfl rfl rfl ?_
    | refine RunQ.assign rfl rfl rfl rfl ?_
    | refine RunQ.load 0 rfl rfl rfl rfl rfl rfl ?_
    | refine RunQ.load 1 rfl rfl rfl rfl rfl rfl ?_
    | refine RunQ.load 2 rfl rfl rfl rfl rfl rfl ?_
    | refine RunQ.load 3 rfl rfl rfl rfl rfl rfl ?_
    | refine RunQ.load 4 rfl rfl rfl rfl rfl rfl ?_
    | refine RunQ.indexAddr rfl rfl rfl rfl rfl (by omega) rfl rfl rfl ?_
    | refine RunQ.cmpT rfl (fun _ => rfl) rfl rfl (by omega) ?_
    | refine RunQ.cmpF rfl (fun _ => rfl) rfl rfl (by omega) ?_
    | refine RunQ.cmp rfl (fun _ => rfl) rfl rfl (fun _ => ?_) (fun _ => ?_)
    | refine RunQ.bin rfl rfl rfl (fun _ _ => rfl) (IntWalk.i64_in _ (by omega)) rfl rfl ?_
    | refine RunQ.conv rfl rfl rfl rfl (IntWalk.i64_in _ (by omega)) rfl rfl ?_
    | refine RunQ.bin rfl rfl rfl (fun _ _ => rfl) (IntWalk.i32_in _ (by omega)) rfl rfl ?_
    | refine RunQ.conv rfl rfl rfl rfl (IntWalk.i32_in _ (by omega)) rfl rfl ?_
    | refine RunQ.bin rfl rfl rfl (fun _ _ => rfl) (IntWalk.u8_in _ (by omega)) rfl rfl ?_
    | refine RunQ.conv rfl rfl rfl rfl (IntWalk.u8_in _ (by omega)) rfl rfl ?_
    | refine RunQ.bin rfl rfl rfl (fun _ _ => rfl) (IntWalk.u64_in _ (by omega)) rfl rfl ?_
    | refine RunQ.conv rfl rfl rfl rfl (IntWalk.u64_in _ (by omega)) rfl rfl ?_
    | refine RunQ.bin rfl rfl rfl (fun _ _ => rfl) (IntWalk.u32_in _ (by omega)) rfl rfl ?_
    | refine RunQ.conv rfl rfl rfl rfl (IntWalk.u32_in _ (by omega)) rfl rfl ?_
    | refine RunQ.bin rfl rfl rfl (fun _ _ => rfl) (IntWalk.u16_in _ (by omega)) rfl rfl ?_
    | refine RunQ.conv rfl rfl rfl rfl (IntWalk.u16_in _ (by omega)) rfl rfl ?_
    | refine RunQ.val rfl rfl (fun _ => rfl) rfl rfl ?_
    | refine RunQ.no rfl rfl rfl ?_)
  all_goals rename_i hx
  · exact Done.pure (.inr rfl) (fun _ => rfl) (by rw [hx]; rfl) rfl
  · exact Done.pure (.inr rfl) (fun _ => rfl) (by rw [hx]; rfl) rfl

theorem f9_ok (x : Int) (H : List AObj) : Gives E 9 [.int .i32 x] H (.pure (.int .i64 (ofSpec x))) := by
  refine Gives.walk [] rfl Tryd.func9 rfl rfl rfl rfl (by simp [keysB]) (by simp) ?_
  repeat' (first
    | refine Run.seq ?_
    | refine Run.region rfl ?_
    | refine Run.drawn rfl rfl rfl ?_
    | refine Run.block ?_
    | refine Run.condT rfl ?_
    | refine Run.condF rfl ?_
    | refine Run.skip ?_
    | refine Run.ret ?_
    | refine Run.exit ?_
    | refine Run.label ?_
    | refine Done.seq ?_
    | refine Done.seqE ?_
    | refine Done.seqR ?_
    | refine Done.blockN ?_
    | refine Done.blockR ?_
    | refine Done.hit ?_
    | refine Done.miss rfl ?_
    | refine Done.invE ?_
    | refine Done.invR ?_
    | refine RunO.callB rfl (fun _ => rfl) rfl rfl (fun H hh => f14_ok H.objs) (fun k => ?_)
    | refine RunO.pure rfl (fun _ => rfl) rfl rfl (fun H hh => f13_ok _ hiddenL _ _ _ _ _ H.objs (hh.at (i := 0) rfl) (by decide) hidden_rising) ?_
    | refine RunO.pure rfl (fun _ => rfl) rfl rfl (fun H hh => f15_ok _ H.objs) ?_
    | refine RunO.pure rfl (fun _ => rfl) rfl rfl (fun H hh => f16_ok _ H.objs) ?_
    | refine Run.cond rfl (fun _ => ?_) (fun _ => ?_)
    | refine RunO.nil ?_
    | refine RunO.move rfl rfl rfl rfl ?_
    | refine RunO.assign rfl rfl rfl rfl ?_
    | refine RunO.load 0 rfl rfl rfl rfl rfl rfl ?_
    | refine RunO.load 1 rfl rfl rfl rfl rfl rfl ?_
    | refine RunO.load 2 rfl rfl rfl rfl rfl rfl ?_
    | refine RunO.load 3 rfl rfl rfl rfl rfl rfl ?_
    | refine RunO.load 4 rfl rfl rfl rfl rfl rfl ?_
    | refine RunO.indexAddr rfl rfl rfl rfl rfl (by omega) rfl rfl rfl ?_
    | refine RunO.box rfl rfl rfl rfl rfl rfl (fun _ => ?_)
    | refine RunO.alloc rfl rfl rfl rfl rfl rfl (fun _ => ?_)
    | refine RunO.store 0 rfl rfl rfl rfl rfl rfl (by decide) (by decide) rfl rfl ?_
    | refine RunO.store 1 rfl rfl rfl rfl rfl rfl (by decide) (by decide) rfl rfl ?_
    | refine RunO.store 2 rfl rfl rfl rfl rfl rfl (by decide) (by decide) rfl rfl ?_
    | refine RunO.store 3 rfl rfl rfl rfl rfl rfl (by decide) (by decide) rfl rfl ?_
    | refine RunO.store 4 rfl rfl rfl rfl rfl rfl (by decide) (by decide) rfl rfl ?_
    | refine RunO.cmpT rfl (fun _ => rfl) rfl rfl (by omega) ?_
    | refine RunO.cmpF rfl (fun _ => rfl) rfl rfl (by omega) ?_
    | refine RunO.cmp rfl (fun _ => rfl) rfl rfl (fun _ => ?_) (fun _ => ?_)
    | refine RunO.bin rfl rfl rfl (fun _ _ => rfl) (IntWalk.i64_in _ (by omega)) rfl rfl ?_
    | refine RunO.conv rfl rfl rfl rfl (IntWalk.i64_in _ (by omega)) rfl rfl ?_
    | refine RunO.bin rfl rfl rfl (fun _ _ => rfl) (IntWalk.i32_in _ (by omega)) rfl rfl ?_
    | refine RunO.conv rfl rfl rfl rfl (IntWalk.i32_in _ (by omega)) rfl rfl ?_
    | refine RunO.bin rfl rfl rfl (fun _ _ => rfl) (IntWalk.u8_in _ (by omega)) rfl rfl ?_
    | refine RunO.conv rfl rfl rfl rfl (IntWalk.u8_in _ (by omega)) rfl rfl ?_
    | refine RunO.bin rfl rfl rfl (fun _ _ => rfl) (IntWalk.u64_in _ (by omega)) rfl rfl ?_
    | refine RunO.conv rfl rfl rfl rfl (IntWalk.u64_in _ (by omega)) rfl rfl ?_
    | refine RunO.bin rfl rfl rfl (fun _ _ => rfl) (IntWalk.u32_in _ (by omega)) rfl rfl ?_
    | refine RunO.conv rfl rfl rfl rfl (IntWalk.u32_in _ (by omega)) rfl rfl ?_
    | refine RunO.bin rfl rfl rfl (fun _ _ => rfl) (IntWalk.u16_in _ (by omega)) rfl rfl ?_
    | refine RunO.conv rfl rfl rfl rfl (IntWalk.u16_in _ (by omega)) rfl rfl ?_
    | refine RunO.val rfl (fun _ => rfl) rfl rfl ?_
    | refine RunO.no rfl rfl rfl ?_
    | refine RunQ.nil ?_
    | refine RunQ.move rfl rfl rfl rfl ?_
    | refine RunQ.assign rfl rfl rfl rfl ?_
    | refine RunQ.load 0 rfl rfl rfl rfl rfl rfl ?_
    | refine RunQ.load 1 rfl rfl rfl rfl rfl rfl ?_
    | refine RunQ.load 2 rfl rfl rfl rfl rfl rfl ?_
    | refine RunQ.load 3 rfl rfl rfl rfl rfl rfl ?_
    | refine RunQ.load 4 rfl rfl rfl rfl rfl rfl ?_
    | refine RunQ.indexAddr rfl rfl rfl rfl rfl (by omega) rfl rfl rfl ?_
    | refine RunQ.cmpT rfl (fun _ => rfl) rfl rfl (by omega) ?_
    | refine RunQ.cmpF rfl (fun _ => rfl) rfl rfl (by omega) ?_
    | refine RunQ.cmp rfl (fun _ => rfl) rfl rfl (fun _ => ?_) (fun _ => ?_)
    | refine RunQ.bin rfl rfl rfl (fun _ _ => rfl) (IntWalk.i64_in _ (by omega)) rfl rfl ?_
    | refine RunQ.conv rfl rfl rfl rfl (IntWalk.i64_in _ (by omega)) rfl rfl ?_
    | refine RunQ.bin rfl rfl rfl (fun _ _ => rfl) (IntWalk.i32_in _ (by omega)) rfl rfl ?_
    | refine RunQ.conv rfl rfl rfl rfl (IntWalk.i32_in _ (by omega)) rfl rfl ?_
    | refine RunQ.bin rfl rfl rfl (fun _ _ => rfl) (IntWalk.u8_in _ (by omega)) rfl rfl ?_
    | refine RunQ.conv rfl rfl rfl rfl (IntWalk.u8_in _ (by omega)) rfl rfl ?_
    | refine RunQ.bin rfl rfl rfl (fun _ _ => rfl) (IntWalk.u64_in _ (by omega)) rfl rfl ?_
    | refine RunQ.conv rfl rfl rfl rfl (IntWalk.u64_in _ (by omega)) rfl rfl ?_
    | refine RunQ.bin rfl rfl rfl (fun _ _ => rfl) (IntWalk.u32_in _ (by omega)) rfl rfl ?_
    | refine RunQ.conv rfl rfl rfl rfl (IntWalk.u32_in _ (by omega)) rfl rfl ?_
    | refine RunQ.bin rfl rfl rfl (fun _ _ => rfl) (IntWalk.u16_in _ (by omega)) rfl rfl ?_
    | refine RunQ.conv rfl rfl rfl rfl (IntWalk.u16_in _ (by omega)) rfl rfl ?_
    | refine RunQ.val rfl rfl (fun _ => rfl) rfl rfl ?_
    | refine RunQ.no rfl rfl rfl ?_)
  · rename_i h1
    exact Done.pure (.inr rfl) (fun _ => rfl) (by unfold ofSpec; rw [if_pos h1]; rfl) rfl
  · rename_i h1 h2
    exact Done.pure (.inr rfl) (fun _ => rfl) (by unfold ofSpec; rw [if_neg (by simp [h1]), if_pos h2]; rfl) rfl
  · rename_i h1 h2 h3
    exact Done.pure (.inr rfl) (fun _ => rfl) (by unfold ofSpec; rw [if_neg (by simp [h1]), if_neg (by simp [h2]), if_pos (by simp at h3; exact h3.1)]; rfl) rfl
  · rename_i h1 h2 h3
    exact Done.pure (.inr rfl) (fun _ => rfl) (by unfold ofSpec; rw [if_neg (by simp [h1]), if_neg (by simp [h2]), if_neg (by simp [h2] at h3; simp [h3])]; rfl) rfl

def ofArgs : List V → Option V
  | [.int .i32 x] => some (.int .i64 (ofSpec x))
  | _ => none

/-- The outside, with width.Of known. -/
noncomputable def E1 : Env := E.know 9 ofArgs

theorem ltL_flat1 {k : IntKind} {x : Int} : ltL 0 [V.int k x] := by
  intro v hv
  simp only [List.mem_singleton] at hv
  subst hv
  rfl

theorem E1_ok : E1.Ok := E_ok.know fun args v h => by
  unfold ofArgs at h
  split at h
  · cases h
    exact ⟨rfl, ltL_flat1, _, f9_ok _ _, rfl⟩
  · cases h

end Go.Proofs.YtigfncnlhccaeaaDoor

/-
  Chapter 4 (what fits): what symbolic evaluation stands upon.
-/
namespace Go.Proofs.YtigfncnlhccaeaaDoor
open Go Go.Am
theorem works_eval : evCall E1 1000 4 [] [] = some (.pure (.bool true)) := by kernel_rfl
noncomputable def E2 : Env := E1.know 4 fun a => match a with | [] => some (.bool true) | _ => none
theorem E2_ok : E2.Ok := E1_ok.knowEval works_eval rfl
def ctrs0 : FuncId → List Ctr := addCtr (addCtr (addCtr (fun _ => []) 9 (ctr1 (.int .i32) [.int .i64] (fun _ => []) fun x => [⟨.int .i64, ofSpec x⟩])) 4 (ctr0 [.bool] [⟨.bool, true⟩]))
  8 (ctr1 .str [.int .i32, .int .i64] (fun (_ : List UInt8) => []) fun (x : List UInt8) => [⟨.int .i32, ((decGo x).1 : Int)⟩, ⟨.int .i64, ((decGo x).2 : Int)⟩])
theorem ctrs0_ok : ∀ g ct, ct ∈ ctrs0 g → CtrOk E2 g ct :=
  addCtr_ok (addCtr_ok (addCtr_ok (fun g ct h => by cases h) (ctr1_orcI fun x => rfl)) (ctr0_orcB rfl)) (ctr1_orcS2 fun x => rfl)
theorem G2 : GFlat E2 := fun g cs h v hv => by
  have h : utf8G 0 1 g = some cs := h
  unfold utf8G at h
  split at h
  · cases h
    obtain ⟨x, _, rfl⟩ := List.mem_map.1 hv
    rfl
  · split at h
    · cases h
      obtain ⟨x, _, rfl⟩ := List.mem_map.1 hv
      rfl
    · cases h
theorem orc2 : ∀ g, E2.full g = true → ∀ vs, E2.orc g vs = none := fun g h => by cases h
theorem S_ok {ctr : FuncId → List Ctr} {tm : FuncId → Nat → Option Tm} {un : Nat} (h : ∀ g ct, ct ∈ ctr g → CtrOk E2 g ct) : SOkE { E := E2, ctr := ctr, tm := tm, un := un } := ⟨G2, h, orc2⟩
end Go.Proofs.YtigfncnlhccaeaaDoor

/-
  Printed by a tool of this session: what functions come to.
-/
namespace Go.Proofs.YtigfncnlhccaeaaDoor
open Go Go.Am
set_option linter.unusedVariables false
def Tx_T0 : Tm := { tmps := [(6, (.ptr 0 0)), (2, (.hole (.int .i64)))], objs := [.it] }
def tmTx : FuncId → Nat → Option Tm := fun g i => match Nat.beq g 6 with
  | true => match Nat.beq i 0 with | true => some Tx_T0 | false => none
  | false => none
noncomputable def STx : SE := { E := Go.Proofs.YtigfncnlhccaeaaDoor.E2, ctr := Go.Proofs.YtigfncnlhccaeaaDoor.ctrs0, tm := tmTx, un := 300 }
theorem Tx_L0 (n : Nat) (nx : Nat → List Dy → Option (List Dy)) (m : Nat) (s0 : List UInt8) (n1 : Int) (n2 : Int) :
    RL STx [(.int .i64)] n 6 0 nx (m + 1) [⟨.str, s0⟩, ⟨(.int .i64), n1⟩, ⟨(.int .i64), n2⟩] =
    (bif (Decidable.decide (Int.toNat n1 < List.length s0)) then
      RL STx [(.int .i64)] n 6 0 nx m [⟨.str, (s0 : List UInt8)⟩, ⟨(.int .i64), ((↑(Int.toNat n1 + Prod.snd (Go.Am.decode (List.drop (Int.toNat n1) s0))) : Int) : Int)⟩, ⟨(.int .i64), (Go.IntKind.wrap Go.IntKind.i64 (n2 + if (0 : Int) < Go.Proofs.YtigfncnlhccaeaaDoor.ofSpec (↑(Prod.fst (Go.Am.decode (List.drop (Int.toNat n1) s0))) : Int) then Go.Proofs.YtigfncnlhccaeaaDoor.ofSpec (↑(Prod.fst (Go.Am.decode (List.drop (Int.toNat n1) s0))) : Int) else (0 : Int)) : Int)⟩]
    else
      some [⟨(.int .i64), (n2 : Int)⟩]) := by kernel_rfl
theorem Tx_fn (n : Nat) (s0 : List UInt8) :
    fnY STx loopY [(.hole .str)] [(.int .i64)] n 6 [⟨.str, s0⟩] =
    (RL STx [(.int .i64)] n 6 0 noNx n [⟨.str, (s0 : List UInt8)⟩, ⟨(.int .i64), ((0 : Int) : Int)⟩, ⟨(.int .i64), ((0 : Int) : Int)⟩]) := by kernel_rfl

def Ft_T0 : Tm := { tmps := [(11, (.ptr 0 0)), (6, (.hole (.int .i64))), (0, (.hole .str)), (1, (.hole (.int .i64)))], objs := [.it] }
def tmFt : FuncId → Nat → Option Tm := fun g i => match Nat.beq g 5 with
  | true => match Nat.beq i 0 with | true => some Ft_T0 | false => none
  | false => none
noncomputable def SFt : SE := { E := Go.Proofs.YtigfncnlhccaeaaDoor.E2, ctr := Go.Proofs.YtigfncnlhccaeaaDoor.ctrs0, tm := tmFt, un := 300 }
theorem Ft_L0 (n : Nat) (nx : Nat → List Dy → Option (List Dy)) (m : Nat) (s0 : List UInt8) (n1 : Int) (n2 : Int) (s3 : List UInt8) (n4 : Int) :
    RL SFt [.str, (.int .i64)] n 5 0 nx (m + 1) [⟨.str, s0⟩, ⟨(.int .i64), n1⟩, ⟨(.int .i64), n2⟩, ⟨.str, s3⟩, ⟨(.int .i64), n4⟩] =
    (bif (Decidable.decide (Int.toNat n1 < List.length s0)) then
      bif (Decidable.decide (n4 < Go.IntKind.wrap Go.IntKind.i64 (n2 + if (0 : Int) < Go.Proofs.YtigfncnlhccaeaaDoor.ofSpec (↑(Prod.fst (Go.Am.decode (List.drop (Int.toNat n1) s0))) : Int) then Go.Proofs.YtigfncnlhccaeaaDoor.ofSpec (↑(Prod.fst (Go.Am.decode (List.drop (Int.toNat n1) s0))) : Int) else (0 : Int)))) then
        need (Decidable.decide ((↑(Int.toNat n1) : Int) ≤ (↑(List.length s3) : Int))) <|
        some [⟨.str, (List.take (Int.toNat (↑(Int.toNat n1) : Int)) s3 : List UInt8)⟩, ⟨(.int .i64), (n2 : Int)⟩]
      else
        RL SFt [.str, (.int .i64)] n 5 0 nx m [⟨.str, (s0 : List UInt8)⟩, ⟨(.int .i64), ((↑(Int.toNat n1 + Prod.snd (Go.Am.decode (List.drop (Int.toNat n1) s0))) : Int) : Int)⟩, ⟨(.int .i64), (Go.IntKind.wrap Go.IntKind.i64 (n2 + if (0 : Int) < Go.Proofs.YtigfncnlhccaeaaDoor.ofSpec (↑(Prod.fst (Go.Am.decode (List.drop (Int.toNat n1) s0))) : Int) then Go.Proofs.YtigfncnlhccaeaaDoor.ofSpec (↑(Prod.fst (Go.Am.decode (List.drop (Int.toNat n1) s0))) : Int) else (0 : Int)) : Int)⟩, ⟨.str, (s3 : List UInt8)⟩, ⟨(.int .i64), (n4 : Int)⟩]
    else
      some [⟨.str, (s3 : List UInt8)⟩, ⟨(.int .i64), (n2 : Int)⟩]) := by kernel_rfl
theorem Ft_fn (n : Nat) (s0 : List UInt8) (n1 : Int) :
    fnY SFt loopY [(.hole .str), (.hole (.int .i64))] [.str, (.int .i64)] n 5 [⟨.str, s0⟩, ⟨(.int .i64), n1⟩] =
    (RL SFt [.str, (.int .i64)] n 5 0 noNx n [⟨.str, (s0 : List UInt8)⟩, ⟨(.int .i64), ((0 : Int) : Int)⟩, ⟨(.int .i64), ((0 : Int) : Int)⟩, ⟨.str, (s0 : List UInt8)⟩, ⟨(.int .i64), (n1 : Int)⟩]) := by kernel_rfl

def tmHp : FuncId → Nat → Option Tm := fun g i => match Nat.beq g 11 with
  | true => none
  | false => none
noncomputable def SHp : SE := { E := Go.Proofs.YtigfncnlhccaeaaDoor.E2, ctr := Go.Proofs.YtigfncnlhccaeaaDoor.ctrs0, tm := tmHp, un := 300 }
theorem Hp_fn (n : Nat) (s0 : List UInt8) (s1 : List UInt8) :
    fnY SHp loopY [(.hole .str), (.hole .str)] [.bool] n 11 [⟨.str, s0⟩, ⟨.str, s1⟩] =
    (need (!Decidable.decide ((↑(List.length s1) : Int) ≤ (↑(List.length s0) : Int)) || Bool.true) <|
    need (!Decidable.decide ((↑(List.length s1) : Int) ≤ (↑(List.length s0) : Int)) || Decidable.decide ((0 : Int) ≤ (↑(List.length s1) : Int))) <|
    need (!Decidable.decide ((↑(List.length s1) : Int) ≤ (↑(List.length s0) : Int)) || Decidable.decide ((↑(List.length s1) : Int) ≤ (↑(List.length s0) : Int))) <|
    some [⟨.bool, (Decidable.decide ((↑(List.length s1) : Int) ≤ (↑(List.length s0) : Int)) && List.take (Int.toNat (↑(List.length s1) : Int)) s0 == s1 : Bool)⟩]) := by kernel_rfl

end Go.Proofs.YtigfncnlhccaeaaDoor

/-
  Chapter 4 (what fits): plain facts.
-/
namespace Go.Proofs.YtigfncnlhccaeaaDoor
open Go Go.Am

theorem dec_nil : Am.decode [] = (0, 1) := rfl
theorem dec_bounds (a : UInt8) (r : List UInt8) : 1 ≤ (Am.decode (a :: r)).2 ∧ (Am.decode (a :: r)).2 ≤ r.length + 1 := by
  unfold Am.decode
  dsimp only
  repeat' split
  all_goals (try simp only [Bool.and_eq_true, decide_eq_true_eq] at *)
  all_goals (constructor <;> omega)
def decF (b0 n x1 x2 x3 : Nat) : Nat × Nat :=
  if b0 < 0x80 then (b0, 1)
  else if (b0 / 32 == 6 && (decide (1 ≤ n) && x1 / 64 == 2)) = true then
    if (b0 % 32) * 64 + x1 % 64 ≥ 0x80 then ((b0 % 32) * 64 + x1 % 64, 2) else (Utf8.runeError, 1)
  else if (b0 / 16 == 14 && (decide (1 ≤ n) && x1 / 64 == 2) && (decide (2 ≤ n) && x2 / 64 == 2)) = true then
    if (decide ((b0 % 16) * 4096 + (x1 % 64) * 64 + x2 % 64 ≥ 0x800) && Utf8.valid ((b0 % 16) * 4096 + (x1 % 64) * 64 + x2 % 64)) = true then ((b0 % 16) * 4096 + (x1 % 64) * 64 + x2 % 64, 3) else (Utf8.runeError, 1)
  else if (b0 / 8 == 30 && (decide (1 ≤ n) && x1 / 64 == 2) && (decide (2 ≤ n) && x2 / 64 == 2) && (decide (3 ≤ n) && x3 / 64 == 2)) = true then
    if (decide ((b0 % 8) * 262144 + (x1 % 64) * 4096 + (x2 % 64) * 64 + x3 % 64 ≥ 0x10000) && Utf8.valid ((b0 % 8) * 262144 + (x1 % 64) * 4096 + (x2 % 64) * 64 + x3 % 64)) = true then ((b0 % 8) * 262144 + (x1 % 64) * 4096 + (x2 % 64) * 64 + x3 % 64, 4) else (Utf8.runeError, 1)
  else (Utf8.runeError, 1)
theorem decF_eq (a : UInt8) (r : List UInt8) : Am.decode (a :: r) = decF a.toNat r.length (r.getD 0 0).toNat (r.getD 1 0).toNat (r.getD 2 0).toNat := rfl
theorem decF_take (b0 L n x1 x2 x3 y1 y2 y3 : Nat) (h1 : 1 ≤ n → y1 = x1) (h2 : 2 ≤ n → y2 = x2) (h3 : 3 ≤ n → y3 = x3) (h : (decF b0 L x1 x2 x3).2 ≤ n + 1) : decF b0 (min n L) y1 y2 y3 = decF b0 L x1 x2 x3 := by
  have d : ∀ k, k ≤ n → decide (k ≤ min n L) = decide (k ≤ L) := fun k hk => by
    by_cases e : k ≤ L
    · rw [decide_eq_true e, decide_eq_true (by omega)]
    · rw [decide_eq_false e, decide_eq_false (by omega)]
  have f : ∀ k, n < k → decide (k ≤ min n L) = false := fun k hk => decide_eq_false (by omega)
  rcases (show n = 0 ∨ n = 1 ∨ n = 2 ∨ 3 ≤ n by omega) with rfl | rfl | rfl | hn
  · unfold decF at h ⊢
    rw [f 1 (by omega), f 2 (by omega), f 3 (by omega)]
    simp only [Bool.and_false, Bool.false_and, Bool.false_eq_true, if_false]
    by_cases h0 : b0 < 0x80
    · simp only [if_pos h0]
    · simp only [if_neg h0] at h ⊢
      repeat' split
      all_goals first | rfl | (exfalso; simp_all; done)
  · obtain rfl := h1 (by omega)
    unfold decF at h ⊢
    rw [d 1 (by omega), f 2 (by omega), f 3 (by omega)]
    simp only [Bool.and_false, Bool.false_and, Bool.false_eq_true, if_false]
    by_cases h0 : b0 < 0x80
    · simp only [if_pos h0]
    · simp only [if_neg h0] at h ⊢
      generalize (b0 / 32 == 6 && (decide (1 ≤ L) && y1 / 64 == 2)) = C at h ⊢
      cases C
      · simp only [Bool.false_eq_true, if_false] at h ⊢
        repeat' split
        all_goals first | rfl | (exfalso; simp_all; done)
      · rfl
  · obtain rfl := h1 (by omega)
    obtain rfl := h2 (by omega)
    unfold decF at h ⊢
    rw [d 1 (by omega), d 2 (by omega), f 3 (by omega)]
    simp only [Bool.and_false, Bool.false_and, Bool.false_eq_true, if_false]
    by_cases h0 : b0 < 0x80
    · simp only [if_pos h0]
    · simp only [if_neg h0] at h ⊢
      generalize (b0 / 32 == 6 && (decide (1 ≤ L) && y1 / 64 == 2)) = C at h ⊢
      cases C
      · simp only [Bool.false_eq_true, if_false] at h ⊢
        generalize (b0 / 16 == 14 && (decide (1 ≤ L) && y1 / 64 == 2) && (decide (2 ≤ L) && y2 / 64 == 2)) = D at h ⊢
        cases D
        · simp only [Bool.false_eq_true, if_false] at h ⊢
          repeat' split
          all_goals first | rfl | (exfalso; simp_all; done)
        · rfl
      · rfl
  · obtain rfl := h1 (by omega)
    obtain rfl := h2 (by omega)
    obtain rfl := h3 (by omega)
    unfold decF
    rw [d 1 (by omega), d 2 (by omega), d 3 (by omega)]
theorem dec_take (a : UInt8) (r : List UInt8) (n : Nat) (h : (Am.decode (a :: r)).2 ≤ n + 1) : Am.decode (a :: r.take n) = Am.decode (a :: r) := by
  have g : ∀ k, k < n → ((r.take n).getD k 0).toNat = (r.getD k 0).toNat := fun k hk => by
    rw [List.getD_eq_getElem?_getD, List.getD_eq_getElem?_getD, List.getElem?_take_of_lt hk]
  rw [decF_eq] at h
  rw [decF_eq, decF_eq, List.length_take]
  exact decF_take _ _ _ _ _ _ _ _ _ (fun h => g 0 (by omega)) (fun h => g 1 (by omega)) (fun h => g 2 (by omega)) h

/-- The columns of a rune. -/
def wr (r : Nat) : Int := if (0 : Int) < ofSpec (r : Int) then ofSpec (r : Int) else 0
theorem wr_bounds (r : Nat) : 0 ≤ wr r ∧ wr r ≤ 2 := by
  unfold wr ofSpec
  repeat' split
  all_goals omega
def txt : Nat → List UInt8 → Int
  | 0, _ => 0
  | _ + 1, [] => 0
  | k + 1, a :: r => wr (Am.decode (a :: r)).1 + txt k ((a :: r).drop (Am.decode (a :: r)).2)
def fitP : Nat → List UInt8 → Int → Nat × Int
  | 0, _, _ => (0, 0)
  | _ + 1, [], _ => (0, 0)
  | k + 1, a :: r, m => if m < wr (Am.decode (a :: r)).1 then (0, 0) else
    ((Am.decode (a :: r)).2 + (fitP k ((a :: r).drop (Am.decode (a :: r)).2) (m - wr (Am.decode (a :: r)).1)).1, wr (Am.decode (a :: r)).1 + (fitP k ((a :: r).drop (Am.decode (a :: r)).2) (m - wr (Am.decode (a :: r)).1)).2)

theorem drop_len (a : UInt8) (r : List UInt8) {k : Nat} (h : (a :: r).length ≤ k + 1) : ((a :: r).drop (Am.decode (a :: r)).2).length ≤ k := by
  have := dec_bounds a r
  simp only [List.length_drop, List.length_cons] at h ⊢
  omega
theorem txt_bounds : ∀ (k : Nat) (l : List UInt8), 0 ≤ txt k l ∧ txt k l ≤ 2 * k
  | 0, _ => by simp [txt]
  | k + 1, [] => by simp [txt]; omega
  | k + 1, a :: r => by
    have := txt_bounds k ((a :: r).drop (Am.decode (a :: r)).2)
    have := wr_bounds (Am.decode (a :: r)).1
    simp only [txt]
    omega
theorem txt_fuel : ∀ (k j : Nat) (l : List UInt8), l.length ≤ k → l.length ≤ j → txt k l = txt j l
  | 0, j, l, h, _ => by
    have : l = [] := List.eq_nil_of_length_eq_zero (by omega)
    subst this
    cases j <;> rfl
  | k + 1, 0, l, _, h => by
    have : l = [] := List.eq_nil_of_length_eq_zero (by omega)
    subst this
    rfl
  | k + 1, j + 1, [], _, _ => rfl
  | k + 1, j + 1, a :: r, h1, h2 => by
    simp only [txt]
    rw [txt_fuel k j _ (drop_len a r h1) (drop_len a r h2)]
theorem fit_fuel : ∀ (k j : Nat) (l : List UInt8) (m : Int), l.length ≤ k → l.length ≤ j → fitP k l m = fitP j l m
  | 0, j, l, m, h, _ => by
    have : l = [] := List.eq_nil_of_length_eq_zero (by omega)
    subst this
    cases j <;> rfl
  | k + 1, 0, l, m, _, h => by
    have : l = [] := List.eq_nil_of_length_eq_zero (by omega)
    subst this
    rfl
  | k + 1, j + 1, [], m, _, _ => rfl
  | k + 1, j + 1, a :: r, m, h1, h2 => by
    simp only [fitP]
    rw [fit_fuel k j _ _ (drop_len a r h1) (drop_len a r h2)]

/-- What fits: so many bytes, so many columns. -/
structure Fits (k : Nat) (l : List UInt8) (m : Int) (p : Nat) (w : Int) : Prop where
  le : p ≤ l.length
  w0 : 0 ≤ w
  wm : 0 ≤ m → w ≤ m
  txt : txt k (l.take p) = w
  next : p < l.length → m < w + wr (Am.decode (l.drop p)).1
  all : p = l.length → w = Go.Proofs.YtigfncnlhccaeaaDoor.txt k l
theorem fits_ok : ∀ (k : Nat) (l : List UInt8) (m : Int), l.length ≤ k → Fits k l m (fitP k l m).1 (fitP k l m).2
  | 0, l, m, h => by
    have : l = [] := List.eq_nil_of_length_eq_zero (by omega)
    subst this
    exact ⟨Nat.le_refl _, Int.le_refl _, fun h => h, rfl, fun h => absurd h (Nat.lt_irrefl _), fun _ => rfl⟩
  | k + 1, [], m, h => ⟨Nat.le_refl _, Int.le_refl _, fun h => h, rfl, fun h => absurd h (Nat.lt_irrefl _), fun _ => rfl⟩
  | k + 1, a :: r, m, h => by
    have hb := dec_bounds a r
    have hw := wr_bounds (Am.decode (a :: r)).1
    have hd := drop_len a r h
    simp only [fitP]
    split
    · rename_i hm
      refine ⟨Nat.zero_le _, Int.le_refl _, fun h => h, rfl, fun _ => ?_, fun e => ?_⟩
      · simp only [List.drop_zero, Int.zero_add]
        exact hm
      · simp at e
    · rename_i hm
      have ih := fits_ok k ((a :: r).drop (Am.decode (a :: r)).2) (m - wr (Am.decode (a :: r)).1) hd
      generalize fitP k ((a :: r).drop (Am.decode (a :: r)).2) (m - wr (Am.decode (a :: r)).1) = q at ih ⊢
      obtain ⟨p, w⟩ := q
      obtain ⟨i1, i2, i3, i4, i5, i6⟩ := ih
      simp only [List.length_drop, List.length_cons] at i1 i5 i6 h
      dsimp only
      refine ⟨by simp only [List.length_cons]; omega, by omega, fun h0 => ?_, ?_, fun hp => ?_, fun hp => ?_⟩
      · have := i3 (by omega)
        omega
      · obtain ⟨j, hj⟩ : ∃ j, (Am.decode (a :: r)).2 + p = j + 1 := ⟨(Am.decode (a :: r)).2 + p - 1, by omega⟩
        rw [hj, List.take_succ_cons]
        simp only [YtigfncnlhccaeaaDoor.txt]
        rw [dec_take a r j (by omega), ← List.take_succ_cons, ← hj, List.drop_take, Nat.add_sub_cancel_left, i4]
      · simp only [List.length_cons] at hp
        have := i5 (by omega)
        rw [← List.drop_drop]
        omega
      · simp only [List.length_cons] at hp
        have := i6 (by omega)
        simp only [YtigfncnlhccaeaaDoor.txt]
        omega
/-- The more columns, the more fits. -/
theorem fit_mono : ∀ (k : Nat) (l : List UInt8) (m m' : Int), m ≤ m' → (fitP k l m).1 ≤ (fitP k l m').1
  | 0, l, m, m', h => Nat.le_refl _
  | k + 1, [], m, m', h => Nat.le_refl _
  | k + 1, a :: r, m, m', h => by
    have := fit_mono k ((a :: r).drop (Am.decode (a :: r)).2) (m - wr (Am.decode (a :: r)).1) (m' - wr (Am.decode (a :: r)).1) (by omega)
    simp only [fitP]
    split
    · exact Nat.zero_le _
    · rw [if_neg (by omega)]
      dsimp only
      omega
theorem fit_all : ∀ (k : Nat) (l : List UInt8), l.length ≤ k → (fitP k l (txt k l)).1 = l.length
  | 0, l, h => by
    have : l = [] := List.eq_nil_of_length_eq_zero (by omega)
    subst this
    rfl
  | k + 1, [], h => rfl
  | k + 1, a :: r, h => by
    have hb := dec_bounds a r
    have ht := txt_bounds k ((a :: r).drop (Am.decode (a :: r)).2)
    have ih := fit_all k ((a :: r).drop (Am.decode (a :: r)).2) (drop_len a r h)
    have e : txt (k + 1) (a :: r) = wr (Am.decode (a :: r)).1 + txt k ((a :: r).drop (Am.decode (a :: r)).2) := rfl
    rw [e]
    simp only [fitP]
    rw [if_neg (by omega)]
    dsimp only
    have e2 : ∀ x y : Int, x + y - x = y := fun x y => by omega
    rw [e2, ih]
    simp only [List.length_drop, List.length_cons]
    omega
theorem fit_mono2 : ∀ (k : Nat) (l : List UInt8) (m m' : Int), m ≤ m' → 0 ≤ (fitP k l m).2 ∧ (fitP k l m).2 ≤ (fitP k l m').2
  | 0, l, m, m', h => ⟨Int.le_refl _, Int.le_refl _⟩
  | k + 1, [], m, m', h => ⟨Int.le_refl _, Int.le_refl _⟩
  | k + 1, a :: r, m, m', h => by
    have h1 := fit_mono2 k ((a :: r).drop (Am.decode (a :: r)).2) (m - wr (Am.decode (a :: r)).1) (m' - wr (Am.decode (a :: r)).1) (by omega)
    have h2 := (fit_mono2 k ((a :: r).drop (Am.decode (a :: r)).2) (m' - wr (Am.decode (a :: r)).1) (m' - wr (Am.decode (a :: r)).1) (by omega)).1
    have hw := wr_bounds (Am.decode (a :: r)).1
    simp only [fitP]
    by_cases h3 : m < wr (Am.decode (a :: r)).1
    · rw [if_pos h3]
      refine ⟨Int.le_refl _, ?_⟩
      split
      · exact Int.le_refl _
      · dsimp only
        omega
    · rw [if_neg h3, if_neg (by omega)]
      dsimp only
      omega
end Go.Proofs.YtigfncnlhccaeaaDoor

/-
  Chapter 4 (what fits): contracts of Text, Fit, HasPrefix.
-/
namespace Go.Proofs.YtigfncnlhccaeaaDoor
open Go Go.Am

theorem wr_def (r : Nat) : (if (0 : Int) < ofSpec (r : Int) then ofSpec (r : Int) else 0) = wr r := rfl

theorem tx_loop (n : Nat) (nx : Nat → List Dy → Option (List Dy)) (s : List UInt8) (hs : s.length ≤ 1000000000) : ∀ (k pos : Nat) (w : Int), s.length ≤ k + pos → pos ≤ s.length → 0 ≤ w → w ≤ 2 * pos →
    RL STx [.int .i64] n 6 0 nx (k + 1) [⟨.str, s⟩, ⟨.int .i64, (pos : Int)⟩, ⟨.int .i64, w⟩] = some [⟨.int .i64, w + txt k (s.drop pos)⟩] := by
  intro k
  induction k with
  | zero =>
    intro pos w h1 h2 h3 h4
    rw [Tx_L0, Int.toNat_natCast]
    refine bnd (by omega) (ret1 (dyI ?_))
    show w = w + 0
    omega
  | succ k ih =>
    intro pos w h1 h2 h3 h4
    rw [Tx_L0, Int.toNat_natCast]
    by_cases hp : pos < s.length
    · obtain ⟨a, r, he⟩ : ∃ a r, s.drop pos = a :: r := by
        cases h : s.drop pos with
        | nil => have := List.drop_eq_nil_iff.1 h; omega
        | cons a r => exact ⟨a, r, rfl⟩
      have hl : s.length - pos = r.length + 1 := by rw [← List.length_drop, he]; rfl
      have hb := dec_bounds a r
      have hw := wr_bounds (Am.decode (a :: r)).1
      rw [he, wr_def, w64 (by omega)]
      refine bpd hp ((ih (pos + (Am.decode (a :: r)).2) _ (by omega) (by omega) (by omega) (by omega)).trans (ret1 (dyI ?_)))
      rw [← List.drop_drop, he]
      simp only [txt]
      omega
    · refine bnd hp (ret1 (dyI ?_))
      rw [List.drop_of_length_le (by omega)]
      show w = w + 0
      omega

/-- How many columns a text takes. -/
def textW (s : List UInt8) : Int := txt s.length s
theorem tx_ok (s : List UInt8) (hs : s.length ≤ 1000000000) : ∃ n, fnY STx loopY [.hole .str] [.int .i64] n 6 [⟨.str, s⟩] = some [⟨.int .i64, textW s⟩] := by
  refine ⟨s.length + 1, ?_⟩
  rw [Tx_fn]
  refine (tx_loop _ _ s hs s.length 0 0 (by omega) (by omega) (by omega) (by omega)).trans (ret1 (dyI ?_))
  simp only [List.drop_zero, textW, Int.zero_add]

theorem ft_loop (n : Nat) (nx : Nat → List Dy → Option (List Dy)) (s : List UInt8) (hs : s.length ≤ 1000000000) (m : Int) : ∀ (k pos : Nat) (w : Int), s.length ≤ k + pos → pos ≤ s.length → 0 ≤ w → w ≤ 2 * pos →
    RL SFt [.str, .int .i64] n 5 0 nx (k + 1) [⟨.str, s⟩, ⟨.int .i64, (pos : Int)⟩, ⟨.int .i64, w⟩, ⟨.str, s⟩, ⟨.int .i64, m⟩] =
      some [⟨.str, s.take (pos + (fitP k (s.drop pos) (m - w)).1)⟩, ⟨.int .i64, w + (fitP k (s.drop pos) (m - w)).2⟩] := by
  intro k
  induction k with
  | zero =>
    intro pos w h1 h2 h3 h4
    rw [Ft_L0, Int.toNat_natCast]
    refine bnd (by omega) (ret2 (dyS ?_) (dyI ?_))
    · rw [List.take_of_length_le (by omega)]
    · show w = w + 0
      omega
  | succ k ih =>
    intro pos w h1 h2 h3 h4
    rw [Ft_L0, Int.toNat_natCast]
    by_cases hp : pos < s.length
    · obtain ⟨a, r, he⟩ : ∃ a r, s.drop pos = a :: r := by
        cases h : s.drop pos with
        | nil => have := List.drop_eq_nil_iff.1 h; omega
        | cons a r => exact ⟨a, r, rfl⟩
      have hl : s.length - pos = r.length + 1 := by rw [← List.length_drop, he]; rfl
      have hb := dec_bounds a r
      have hw := wr_bounds (Am.decode (a :: r)).1
      rw [he, wr_def, w64 (by omega)]
      refine bpd hp (bcd (fun hm => nd (by omega) (ret2 (dyS ?_) (dyI ?_))) fun hm => (ih (pos + (Am.decode (a :: r)).2) _ (by omega) (by omega) (by omega) (by omega)).trans (ret2 (dyS ?_) (dyI ?_)))
      · simp only [fitP]
        rw [if_pos (by omega), Int.toNat_natCast]
        rfl
      · simp only [fitP]
        rw [if_pos (by omega)]
        show w = w + 0
        omega
      · rw [← List.drop_drop, he]
        simp only [fitP]
        rw [if_neg (by omega), show m - (w + wr (Am.decode (a :: r)).1) = m - w - wr (Am.decode (a :: r)).1 by omega, Nat.add_assoc]
      · rw [← List.drop_drop, he]
        simp only [fitP]
        rw [if_neg (by omega), show m - (w + wr (Am.decode (a :: r)).1) = m - w - wr (Am.decode (a :: r)).1 by omega, Int.add_assoc]
    · rw [List.drop_of_length_le (by omega)]
      refine bnd hp (ret2 (dyS ?_) (dyI ?_))
      · rw [List.take_of_length_le (by omega)]
      · show w = w + 0
        omega

/-- What fits of a text: bytes, columns. -/
def fitS (s : List UInt8) (m : Int) : Nat × Int := fitP s.length s m
theorem ft_ok (s : List UInt8) (m : Int) (hs : s.length ≤ 1000000000) : ∃ n, fnY SFt loopY [.hole .str, .hole (.int .i64)] [.str, .int .i64] n 5 [⟨.str, s⟩, ⟨.int .i64, m⟩] = some [⟨.str, s.take (fitS s m).1⟩, ⟨.int .i64, (fitS s m).2⟩] := by
  refine ⟨s.length + 1, ?_⟩
  rw [Ft_fn]
  refine (ft_loop _ _ s hs m s.length 0 0 (by omega) (by omega) (by omega) (by omega)).trans (ret2 (dyS ?_) (dyI ?_))
  · simp only [List.drop_zero, fitS, Nat.zero_add, Int.sub_zero]
  · simp only [List.drop_zero, fitS, Int.zero_add, Int.sub_zero]

/-- Does a text begin so? -/
def hasPre (s p : List UInt8) : Bool := decide (p.length ≤ s.length) && s.take p.length == p
theorem hp_ok (s p : List UInt8) (n : Nat) : fnY SHp loopY [.hole .str, .hole .str] [.bool] n 11 [⟨.str, s⟩, ⟨.str, p⟩] = some [⟨.bool, hasPre s p⟩] := by
  rw [Hp_fn]
  refine np (Bool.or_true _) (np ?_ (np ?_ (ret1 (dyB ?_))))
  · rw [decide_eq_true (p := (0 : Int) ≤ (p.length : Int)) (by omega), Bool.or_true]
  · cases decide ((p.length : Int) ≤ (s.length : Int)) <;> rfl
  · rw [Int.toNat_natCast]
    unfold hasPre
    congr 1
    exact decide_eq_decide.2 (by omega)

def ctrs1 : FuncId → List Ctr := addCtr (addCtr (addCtr ctrs0 6 (ctr1 .str [.int .i64] (fun (s : List UInt8) => [decide (s.length ≤ 1000000000)]) fun (s : List UInt8) => [⟨.int .i64, textW s⟩]))
  5 (ctr2 .str (.int .i64) [.str, .int .i64] (fun (s : List UInt8) (_ : Int) => [decide (s.length ≤ 1000000000)]) fun (s : List UInt8) (m : Int) => [⟨.str, s.take (fitS s m).1⟩, ⟨.int .i64, (fitS s m).2⟩]))
  11 (ctr2 .str .str [.bool] (fun (_ : List UInt8) (_ : List UInt8) => []) fun (s : List UInt8) (p : List UInt8) => [⟨.bool, hasPre s p⟩])
theorem ctrs1_ok : ∀ g ct, ct ∈ ctrs1 g → CtrOk E2 g ct :=
  addCtr_ok (addCtr_ok (addCtr_ok ctrs0_ok
    (ctr1_ok (S := STx) (t := .str) (S_ok ctrs0_ok) (fun _ => rfl) rfl fun (s : List UInt8) h => by
      simp only [List.all_cons, id, decide_eq_true_eq, List.all_nil, Bool.and_true] at h
      exact tx_ok s h))
    (ctr2_ok (S := SFt) (t := .str) (u := .int .i64) (S_ok ctrs0_ok) (fun _ => rfl) rfl fun (s : List UInt8) (m : Int) h => by
      simp only [List.all_cons, id, decide_eq_true_eq, List.all_nil, Bool.and_true] at h
      exact ft_ok s m h))
    (ctr2_ok (S := SHp) (t := .str) (u := .str) (S_ok ctrs0_ok) (fun _ => rfl) rfl fun (s : List UInt8) (p : List UInt8) _ => ⟨1, hp_ok s p 1⟩)
end Go.Proofs.YtigfncnlhccaeaaDoor

/-
  Printed by a tool of this session: what functions come to.
-/
namespace Go.Proofs.YtigfncnlhccaeaaDoor
open Go Go.Am
set_option linter.unusedVariables false
def tmHq : FuncId → Nat → Option Tm := fun g i => match Nat.beq g 7 with
  | true => none
  | false => none
noncomputable def SHq : SE := { E := Go.Proofs.YtigfncnlhccaeaaDoor.E2, ctr := Go.Proofs.YtigfncnlhccaeaaDoor.ctrs1, tm := tmHq, un := 300 }
theorem Hq_fn (n : Nat) (s0 : List UInt8) (s1 : List UInt8) :
    fnY SHq loopY [(.hole .str), (.hole .str)] [.bool] n 7 [⟨.str, s0⟩, ⟨.str, s1⟩] =
    (some [⟨.bool, (Go.Proofs.YtigfncnlhccaeaaDoor.hasPre s0 s1 : Bool)⟩]) := by kernel_rfl

end Go.Proofs.YtigfncnlhccaeaaDoor

/-
  Chapter 4 (what fits): strings.HasPrefix.
-/
namespace Go.Proofs.YtigfncnlhccaeaaDoor
open Go Go.Am
def ctrs2 : FuncId → List Ctr := addCtr ctrs1 7 (ctr2 .str .str [.bool] (fun (_ : List UInt8) (_ : List UInt8) => []) fun (s : List UInt8) (p : List UInt8) => [⟨.bool, hasPre s p⟩])
theorem ctrs2_ok : ∀ g ct, ct ∈ ctrs2 g → CtrOk E2 g ct :=
  addCtr_ok ctrs1_ok (ctr2_ok (S := SHq) (t := .str) (u := .str) (S_ok ctrs1_ok) (fun _ => rfl) rfl fun (s : List UInt8) (p : List UInt8) _ => ⟨1, Hq_fn 1 s p⟩)
end Go.Proofs.YtigfncnlhccaeaaDoor

/-
  Printed by a tool of this session: what functions come to.
-/
namespace Go.Proofs.YtigfncnlhccaeaaDoor
open Go Go.Am
set_option linter.unusedVariables false
def tmL3 : FuncId → Nat → Option Tm := fun g i => match Nat.beq g 3 with
  | true => none
  | false => none
noncomputable def SL3 : SE := { E := Go.Proofs.YtigfncnlhccaeaaDoor.E2, ctr := Go.Proofs.YtigfncnlhccaeaaDoor.ctrs2, tm := tmL3, un := 300 }
theorem L3_fn (n : Nat) (s0 : List UInt8) (p1 : UInt8 × UInt8 × PUnit) :
    fnY SL3 loopY [(.hole .str), (.hole (.pair .byte (.pair .byte .unit)))] [.bool] n 3 [⟨.str, s0⟩, ⟨(.pair .byte (.pair .byte .unit)), p1⟩] =
    (need (Decidable.decide ((0 : Int) ≤ if (300 : Int) < (↑(List.length s0) : Int) then (300 : Int) else (↑(List.length s0) : Int))) <|
    need (Decidable.decide ((if (300 : Int) < (↑(List.length s0) : Int) then (300 : Int) else (↑(List.length s0) : Int)) ≤ (↑(List.length s0) : Int))) <|
    need (Decidable.decide (List.length (List.take (Int.toNat (if (300 : Int) < (↑(List.length s0) : Int) then (300 : Int) else (↑(List.length s0) : Int))) s0) ≤ (1000000000 : Nat))) <|
    need (Decidable.decide (List.length (List.take (Int.toNat (if (300 : Int) < (↑(List.length s0) : Int) then (300 : Int) else (↑(List.length s0) : Int))) s0) ≤ (1000000000 : Nat))) <|
    need (Decidable.decide (List.length (List.take (Int.toNat (if (300 : Int) < (↑(List.length s0) : Int) then (300 : Int) else (↑(List.length s0) : Int))) s0) ≤ (1000000000 : Nat))) <|
    need (Decidable.decide (List.length (List.take (Int.toNat (if (300 : Int) < (↑(List.length s0) : Int) then (300 : Int) else (↑(List.length s0) : Int))) s0) ≤ (1000000000 : Nat))) <|
    need (!Go.Proofs.YtigfncnlhccaeaaDoor.hasPre (List.take (Int.toNat (if (300 : Int) < (↑(List.length s0) : Int) then (300 : Int) else (↑(List.length s0) : Int))) s0) (List.take (Prod.fst (Go.Proofs.YtigfncnlhccaeaaDoor.fitS (List.take (Int.toNat (if (300 : Int) < (↑(List.length s0) : Int) then (300 : Int) else (↑(List.length s0) : Int))) s0) (Go.IntKind.wrap Go.IntKind.i64 (if (↑(UInt8.toNat (Prod.fst (Prod.snd p1))) : Int) < (↑(UInt8.toNat (Prod.fst p1)) : Int) then (↑(UInt8.toNat (Prod.fst (Prod.snd p1))) : Int) else (↑(UInt8.toNat (Prod.fst p1)) : Int))))) (List.take (Int.toNat (if (300 : Int) < (↑(List.length s0) : Int) then (300 : Int) else (↑(List.length s0) : Int))) s0)) || !Go.Proofs.YtigfncnlhccaeaaDoor.hasPre (List.take (Prod.fst (Go.Proofs.YtigfncnlhccaeaaDoor.fitS (List.take (Int.toNat (if (300 : Int) < (↑(List.length s0) : Int) then (300 : Int) else (↑(List.length s0) : Int))) s0) (Go.IntKind.wrap Go.IntKind.i64 (if (↑(UInt8.toNat (Prod.fst p1)) : Int) < (↑(UInt8.toNat (Prod.fst (Prod.snd p1))) : Int) then (↑(UInt8.toNat (Prod.fst (Prod.snd p1))) : Int) else (↑(UInt8.toNat (Prod.fst p1)) : Int))))) (List.take (Int.toNat (if (300 : Int) < (↑(List.length s0) : Int) then (300 : Int) else (↑(List.length s0) : Int))) s0)) (List.take (Prod.fst (Go.Proofs.YtigfncnlhccaeaaDoor.fitS (List.take (Int.toNat (if (300 : Int) < (↑(List.length s0) : Int) then (300 : Int) else (↑(List.length s0) : Int))) s0) (Go.IntKind.wrap Go.IntKind.i64 (if (↑(UInt8.toNat (Prod.fst (Prod.snd p1))) : Int) < (↑(UInt8.toNat (Prod.fst p1)) : Int) then (↑(UInt8.toNat (Prod.fst (Prod.snd p1))) : Int) else (↑(UInt8.toNat (Prod.fst p1)) : Int))))) (List.take (Int.toNat (if (300 : Int) < (↑(List.length s0) : Int) then (300 : Int) else (↑(List.length s0) : Int))) s0)) || !Go.Proofs.YtigfncnlhccaeaaDoor.hasPre (List.take (Int.toNat (if (300 : Int) < (↑(List.length s0) : Int) then (300 : Int) else (↑(List.length s0) : Int))) s0) (List.take (Prod.fst (Go.Proofs.YtigfncnlhccaeaaDoor.fitS (List.take (Int.toNat (if (300 : Int) < (↑(List.length s0) : Int) then (300 : Int) else (↑(List.length s0) : Int))) s0) (Go.IntKind.wrap Go.IntKind.i64 (if (↑(UInt8.toNat (Prod.fst p1)) : Int) < (↑(UInt8.toNat (Prod.fst (Prod.snd p1))) : Int) then (↑(UInt8.toNat (Prod.fst (Prod.snd p1))) : Int) else (↑(UInt8.toNat (Prod.fst p1)) : Int))))) (List.take (Int.toNat (if (300 : Int) < (↑(List.length s0) : Int) then (300 : Int) else (↑(List.length s0) : Int))) s0)) || Decidable.decide (Go.IntKind.wrap Go.IntKind.i64 (if (↑(UInt8.toNat (Prod.fst (Prod.snd p1))) : Int) < (↑(UInt8.toNat (Prod.fst p1)) : Int) then (↑(UInt8.toNat (Prod.fst (Prod.snd p1))) : Int) else (↑(UInt8.toNat (Prod.fst p1)) : Int)) < Prod.snd (Go.Proofs.YtigfncnlhccaeaaDoor.fitS (List.take (Int.toNat (if (300 : Int) < (↑(List.length s0) : Int) then (300 : Int) else (↑(List.length s0) : Int))) s0) (Go.IntKind.wrap Go.IntKind.i64 (if (↑(UInt8.toNat (Prod.fst (Prod.snd p1))) : Int) < (↑(UInt8.toNat (Prod.fst p1)) : Int) then (↑(UInt8.toNat (Prod.fst (Prod.snd p1))) : Int) else (↑(UInt8.toNat (Prod.fst p1)) : Int))))) || Decidable.decide (Prod.snd (Go.Proofs.YtigfncnlhccaeaaDoor.fitS (List.take (Int.toNat (if (300 : Int) < (↑(List.length s0) : Int) then (300 : Int) else (↑(List.length s0) : Int))) s0) (Go.IntKind.wrap Go.IntKind.i64 (if (↑(UInt8.toNat (Prod.fst p1)) : Int) < (↑(UInt8.toNat (Prod.fst (Prod.snd p1))) : Int) then (↑(UInt8.toNat (Prod.fst (Prod.snd p1))) : Int) else (↑(UInt8.toNat (Prod.fst p1)) : Int)))) < Prod.snd (Go.Proofs.YtigfncnlhccaeaaDoor.fitS (List.take (Int.toNat (if (300 : Int) < (↑(List.length s0) : Int) then (300 : Int) else (↑(List.length s0) : Int))) s0) (Go.IntKind.wrap Go.IntKind.i64 (if (↑(UInt8.toNat (Prod.fst (Prod.snd p1))) : Int) < (↑(UInt8.toNat (Prod.fst p1)) : Int) then (↑(UInt8.toNat (Prod.fst (Prod.snd p1))) : Int) else (↑(UInt8.toNat (Prod.fst p1)) : Int))))) || Decidable.decide (List.length (List.take (Prod.fst (Go.Proofs.YtigfncnlhccaeaaDoor.fitS (List.take (Int.toNat (if (300 : Int) < (↑(List.length s0) : Int) then (300 : Int) else (↑(List.length s0) : Int))) s0) (Go.IntKind.wrap Go.IntKind.i64 (if (↑(UInt8.toNat (Prod.fst (Prod.snd p1))) : Int) < (↑(UInt8.toNat (Prod.fst p1)) : Int) then (↑(UInt8.toNat (Prod.fst (Prod.snd p1))) : Int) else (↑(UInt8.toNat (Prod.fst p1)) : Int))))) (List.take (Int.toNat (if (300 : Int) < (↑(List.length s0) : Int) then (300 : Int) else (↑(List.length s0) : Int))) s0)) ≤ (1000000000 : Nat))) <|
    need (!Go.Proofs.YtigfncnlhccaeaaDoor.hasPre (List.take (Int.toNat (if (300 : Int) < (↑(List.length s0) : Int) then (300 : Int) else (↑(List.length s0) : Int))) s0) (List.take (Prod.fst (Go.Proofs.YtigfncnlhccaeaaDoor.fitS (List.take (Int.toNat (if (300 : Int) < (↑(List.length s0) : Int) then (300 : Int) else (↑(List.length s0) : Int))) s0) (Go.IntKind.wrap Go.IntKind.i64 (if (↑(UInt8.toNat (Prod.fst (Prod.snd p1))) : Int) < (↑(UInt8.toNat (Prod.fst p1)) : Int) then (↑(UInt8.toNat (Prod.fst (Prod.snd p1))) : Int) else (↑(UInt8.toNat (Prod.fst p1)) : Int))))) (List.take (Int.toNat (if (300 : Int) < (↑(List.length s0) : Int) then (300 : Int) else (↑(List.length s0) : Int))) s0)) || !Go.Proofs.YtigfncnlhccaeaaDoor.hasPre (List.take (Prod.fst (Go.Proofs.YtigfncnlhccaeaaDoor.fitS (List.take (Int.toNat (if (300 : Int) < (↑(List.length s0) : Int) then (300 : Int) else (↑(List.length s0) : Int))) s0) (Go.IntKind.wrap Go.IntKind.i64 (if (↑(UInt8.toNat (Prod.fst p1)) : Int) < (↑(UInt8.toNat (Prod.fst (Prod.snd p1))) : Int) then (↑(UInt8.toNat (Prod.fst (Prod.snd p1))) : Int) else (↑(UInt8.toNat (Prod.fst p1)) : Int))))) (List.take (Int.toNat (if (300 : Int) < (↑(List.length s0) : Int) then (300 : Int) else (↑(List.length s0) : Int))) s0)) (List.take (Prod.fst (Go.Proofs.YtigfncnlhccaeaaDoor.fitS (List.take (Int.toNat (if (300 : Int) < (↑(List.length s0) : Int) then (300 : Int) else (↑(List.length s0) : Int))) s0) (Go.IntKind.wrap Go.IntKind.i64 (if (↑(UInt8.toNat (Prod.fst (Prod.snd p1))) : Int) < (↑(UInt8.toNat (Prod.fst p1)) : Int) then (↑(UInt8.toNat (Prod.fst (Prod.snd p1))) : Int) else (↑(UInt8.toNat (Prod.fst p1)) : Int))))) (List.take (Int.toNat (if (300 : Int) < (↑(List.length s0) : Int) then (300 : Int) else (↑(List.length s0) : Int))) s0)) || !Go.Proofs.YtigfncnlhccaeaaDoor.hasPre (List.take (Int.toNat (if (300 : Int) < (↑(List.length s0) : Int) then (300 : Int) else (↑(List.length s0) : Int))) s0) (List.take (Prod.fst (Go.Proofs.YtigfncnlhccaeaaDoor.fitS (List.take (Int.toNat (if (300 : Int) < (↑(List.length s0) : Int) then (300 : Int) else (↑(List.length s0) : Int))) s0) (Go.IntKind.wrap Go.IntKind.i64 (if (↑(UInt8.toNat (Prod.fst p1)) : Int) < (↑(UInt8.toNat (Prod.fst (Prod.snd p1))) : Int) then (↑(UInt8.toNat (Prod.fst (Prod.snd p1))) : Int) else (↑(UInt8.toNat (Prod.fst p1)) : Int))))) (List.take (Int.toNat (if (300 : Int) < (↑(List.length s0) : Int) then (300 : Int) else (↑(List.length s0) : Int))) s0)) || Decidable.decide (Go.IntKind.wrap Go.IntKind.i64 (if (↑(UInt8.toNat (Prod.fst (Prod.snd p1))) : Int) < (↑(UInt8.toNat (Prod.fst p1)) : Int) then (↑(UInt8.toNat (Prod.fst (Prod.snd p1))) : Int) else (↑(UInt8.toNat (Prod.fst p1)) : Int)) < Prod.snd (Go.Proofs.YtigfncnlhccaeaaDoor.fitS (List.take (Int.toNat (if (300 : Int) < (↑(List.length s0) : Int) then (300 : Int) else (↑(List.length s0) : Int))) s0) (Go.IntKind.wrap Go.IntKind.i64 (if (↑(UInt8.toNat (Prod.fst (Prod.snd p1))) : Int) < (↑(UInt8.toNat (Prod.fst p1)) : Int) then (↑(UInt8.toNat (Prod.fst (Prod.snd p1))) : Int) else (↑(UInt8.toNat (Prod.fst p1)) : Int))))) || Decidable.decide (Prod.snd (Go.Proofs.YtigfncnlhccaeaaDoor.fitS (List.take (Int.toNat (if (300 : Int) < (↑(List.length s0) : Int) then (300 : Int) else (↑(List.length s0) : Int))) s0) (Go.IntKind.wrap Go.IntKind.i64 (if (↑(UInt8.toNat (Prod.fst p1)) : Int) < (↑(UInt8.toNat (Prod.fst (Prod.snd p1))) : Int) then (↑(UInt8.toNat (Prod.fst (Prod.snd p1))) : Int) else (↑(UInt8.toNat (Prod.fst p1)) : Int)))) < Prod.snd (Go.Proofs.YtigfncnlhccaeaaDoor.fitS (List.take (Int.toNat (if (300 : Int) < (↑(List.length s0) : Int) then (300 : Int) else (↑(List.length s0) : Int))) s0) (Go.IntKind.wrap Go.IntKind.i64 (if (↑(UInt8.toNat (Prod.fst (Prod.snd p1))) : Int) < (↑(UInt8.toNat (Prod.fst p1)) : Int) then (↑(UInt8.toNat (Prod.fst (Prod.snd p1))) : Int) else (↑(UInt8.toNat (Prod.fst p1)) : Int))))) || Prod.snd (Go.Proofs.YtigfncnlhccaeaaDoor.fitS (List.take (Int.toNat (if (300 : Int) < (↑(List.length s0) : Int) then (300 : Int) else (↑(List.length s0) : Int))) s0) (Go.IntKind.wrap Go.IntKind.i64 (if (↑(UInt8.toNat (Prod.fst (Prod.snd p1))) : Int) < (↑(UInt8.toNat (Prod.fst p1)) : Int) then (↑(UInt8.toNat (Prod.fst (Prod.snd p1))) : Int) else (↑(UInt8.toNat (Prod.fst p1)) : Int)))) != Go.Proofs.YtigfncnlhccaeaaDoor.textW (List.take (Prod.fst (Go.Proofs.YtigfncnlhccaeaaDoor.fitS (List.take (Int.toNat (if (300 : Int) < (↑(List.length s0) : Int) then (300 : Int) else (↑(List.length s0) : Int))) s0) (Go.IntKind.wrap Go.IntKind.i64 (if (↑(UInt8.toNat (Prod.fst (Prod.snd p1))) : Int) < (↑(UInt8.toNat (Prod.fst p1)) : Int) then (↑(UInt8.toNat (Prod.fst (Prod.snd p1))) : Int) else (↑(UInt8.toNat (Prod.fst p1)) : Int))))) (List.take (Int.toNat (if (300 : Int) < (↑(List.length s0) : Int) then (300 : Int) else (↑(List.length s0) : Int))) s0)) || Decidable.decide (List.length (List.take (Prod.fst (Go.Proofs.YtigfncnlhccaeaaDoor.fitS (List.take (Int.toNat (if (300 : Int) < (↑(List.length s0) : Int) then (300 : Int) else (↑(List.length s0) : Int))) s0) (Go.IntKind.wrap Go.IntKind.i64 (if (↑(UInt8.toNat (Prod.fst p1)) : Int) < (↑(UInt8.toNat (Prod.fst (Prod.snd p1))) : Int) then (↑(UInt8.toNat (Prod.fst (Prod.snd p1))) : Int) else (↑(UInt8.toNat (Prod.fst p1)) : Int))))) (List.take (Int.toNat (if (300 : Int) < (↑(List.length s0) : Int) then (300 : Int) else (↑(List.length s0) : Int))) s0)) ≤ (1000000000 : Nat))) <|
    need (!Go.Proofs.YtigfncnlhccaeaaDoor.hasPre (List.take (Int.toNat (if (300 : Int) < (↑(List.length s0) : Int) then (300 : Int) else (↑(List.length s0) : Int))) s0) (List.take (Prod.fst (Go.Proofs.YtigfncnlhccaeaaDoor.fitS (List.take (Int.toNat (if (300 : Int) < (↑(List.length s0) : Int) then (300 : Int) else (↑(List.length s0) : Int))) s0) (Go.IntKind.wrap Go.IntKind.i64 (if (↑(UInt8.toNat (Prod.fst (Prod.snd p1))) : Int) < (↑(UInt8.toNat (Prod.fst p1)) : Int) then (↑(UInt8.toNat (Prod.fst (Prod.snd p1))) : Int) else (↑(UInt8.toNat (Prod.fst p1)) : Int))))) (List.take (Int.toNat (if (300 : Int) < (↑(List.length s0) : Int) then (300 : Int) else (↑(List.length s0) : Int))) s0)) || !Go.Proofs.YtigfncnlhccaeaaDoor.hasPre (List.take (Prod.fst (Go.Proofs.YtigfncnlhccaeaaDoor.fitS (List.take (Int.toNat (if (300 : Int) < (↑(List.length s0) : Int) then (300 : Int) else (↑(List.length s0) : Int))) s0) (Go.IntKind.wrap Go.IntKind.i64 (if (↑(UInt8.toNat (Prod.fst p1)) : Int) < (↑(UInt8.toNat (Prod.fst (Prod.snd p1))) : Int) then (↑(UInt8.toNat (Prod.fst (Prod.snd p1))) : Int) else (↑(UInt8.toNat (Prod.fst p1)) : Int))))) (List.take (Int.toNat (if (300 : Int) < (↑(List.length s0) : Int) then (300 : Int) else (↑(List.length s0) : Int))) s0)) (List.take (Prod.fst (Go.Proofs.YtigfncnlhccaeaaDoor.fitS (List.take (Int.toNat (if (300 : Int) < (↑(List.length s0) : Int) then (300 : Int) else (↑(List.length s0) : Int))) s0) (Go.IntKind.wrap Go.IntKind.i64 (if (↑(UInt8.toNat (Prod.fst (Prod.snd p1))) : Int) < (↑(UInt8.toNat (Prod.fst p1)) : Int) then (↑(UInt8.toNat (Prod.fst (Prod.snd p1))) : Int) else (↑(UInt8.toNat (Prod.fst p1)) : Int))))) (List.take (Int.toNat (if (300 : Int) < (↑(List.length s0) : Int) then (300 : Int) else (↑(List.length s0) : Int))) s0)) || !Go.Proofs.YtigfncnlhccaeaaDoor.hasPre (List.take (Int.toNat (if (300 : Int) < (↑(List.length s0) : Int) then (300 : Int) else (↑(List.length s0) : Int))) s0) (List.take (Prod.fst (Go.Proofs.YtigfncnlhccaeaaDoor.fitS (List.take (Int.toNat (if (300 : Int) < (↑(List.length s0) : Int) then (300 : Int) else (↑(List.length s0) : Int))) s0) (Go.IntKind.wrap Go.IntKind.i64 (if (↑(UInt8.toNat (Prod.fst p1)) : Int) < (↑(UInt8.toNat (Prod.fst (Prod.snd p1))) : Int) then (↑(UInt8.toNat (Prod.fst (Prod.snd p1))) : Int) else (↑(UInt8.toNat (Prod.fst p1)) : Int))))) (List.take (Int.toNat (if (300 : Int) < (↑(List.length s0) : Int) then (300 : Int) else (↑(List.length s0) : Int))) s0)) || Decidable.decide (Go.IntKind.wrap Go.IntKind.i64 (if (↑(UInt8.toNat (Prod.fst (Prod.snd p1))) : Int) < (↑(UInt8.toNat (Prod.fst p1)) : Int) then (↑(UInt8.toNat (Prod.fst (Prod.snd p1))) : Int) else (↑(UInt8.toNat (Prod.fst p1)) : Int)) < Prod.snd (Go.Proofs.YtigfncnlhccaeaaDoor.fitS (List.take (Int.toNat (if (300 : Int) < (↑(List.length s0) : Int) then (300 : Int) else (↑(List.length s0) : Int))) s0) (Go.IntKind.wrap Go.IntKind.i64 (if (↑(UInt8.toNat (Prod.fst (Prod.snd p1))) : Int) < (↑(UInt8.toNat (Prod.fst p1)) : Int) then (↑(UInt8.toNat (Prod.fst (Prod.snd p1))) : Int) else (↑(UInt8.toNat (Prod.fst p1)) : Int))))) || Decidable.decide (Prod.snd (Go.Proofs.YtigfncnlhccaeaaDoor.fitS (List.take (Int.toNat (if (300 : Int) < (↑(List.length s0) : Int) then (300 : Int) else (↑(List.length s0) : Int))) s0) (Go.IntKind.wrap Go.IntKind.i64 (if (↑(UInt8.toNat (Prod.fst p1)) : Int) < (↑(UInt8.toNat (Prod.fst (Prod.snd p1))) : Int) then (↑(UInt8.toNat (Prod.fst (Prod.snd p1))) : Int) else (↑(UInt8.toNat (Prod.fst p1)) : Int)))) < Prod.snd (Go.Proofs.YtigfncnlhccaeaaDoor.fitS (List.take (Int.toNat (if (300 : Int) < (↑(List.length s0) : Int) then (300 : Int) else (↑(List.length s0) : Int))) s0) (Go.IntKind.wrap Go.IntKind.i64 (if (↑(UInt8.toNat (Prod.fst (Prod.snd p1))) : Int) < (↑(UInt8.toNat (Prod.fst p1)) : Int) then (↑(UInt8.toNat (Prod.fst (Prod.snd p1))) : Int) else (↑(UInt8.toNat (Prod.fst p1)) : Int))))) || Prod.snd (Go.Proofs.YtigfncnlhccaeaaDoor.fitS (List.take (Int.toNat (if (300 : Int) < (↑(List.length s0) : Int) then (300 : Int) else (↑(List.length s0) : Int))) s0) (Go.IntKind.wrap Go.IntKind.i64 (if (↑(UInt8.toNat (Prod.fst (Prod.snd p1))) : Int) < (↑(UInt8.toNat (Prod.fst p1)) : Int) then (↑(UInt8.toNat (Prod.fst (Prod.snd p1))) : Int) else (↑(UInt8.toNat (Prod.fst p1)) : Int)))) != Go.Proofs.YtigfncnlhccaeaaDoor.textW (List.take (Prod.fst (Go.Proofs.YtigfncnlhccaeaaDoor.fitS (List.take (Int.toNat (if (300 : Int) < (↑(List.length s0) : Int) then (300 : Int) else (↑(List.length s0) : Int))) s0) (Go.IntKind.wrap Go.IntKind.i64 (if (↑(UInt8.toNat (Prod.fst (Prod.snd p1))) : Int) < (↑(UInt8.toNat (Prod.fst p1)) : Int) then (↑(UInt8.toNat (Prod.fst (Prod.snd p1))) : Int) else (↑(UInt8.toNat (Prod.fst p1)) : Int))))) (List.take (Int.toNat (if (300 : Int) < (↑(List.length s0) : Int) then (300 : Int) else (↑(List.length s0) : Int))) s0)) || Prod.snd (Go.Proofs.YtigfncnlhccaeaaDoor.fitS (List.take (Int.toNat (if (300 : Int) < (↑(List.length s0) : Int) then (300 : Int) else (↑(List.length s0) : Int))) s0) (Go.IntKind.wrap Go.IntKind.i64 (if (↑(UInt8.toNat (Prod.fst p1)) : Int) < (↑(UInt8.toNat (Prod.fst (Prod.snd p1))) : Int) then (↑(UInt8.toNat (Prod.fst (Prod.snd p1))) : Int) else (↑(UInt8.toNat (Prod.fst p1)) : Int)))) != Go.Proofs.YtigfncnlhccaeaaDoor.textW (List.take (Prod.fst (Go.Proofs.YtigfncnlhccaeaaDoor.fitS (List.take (Int.toNat (if (300 : Int) < (↑(List.length s0) : Int) then (300 : Int) else (↑(List.length s0) : Int))) s0) (Go.IntKind.wrap Go.IntKind.i64 (if (↑(UInt8.toNat (Prod.fst p1)) : Int) < (↑(UInt8.toNat (Prod.fst (Prod.snd p1))) : Int) then (↑(UInt8.toNat (Prod.fst (Prod.snd p1))) : Int) else (↑(UInt8.toNat (Prod.fst p1)) : Int))))) (List.take (Int.toNat (if (300 : Int) < (↑(List.length s0) : Int) then (300 : Int) else (↑(List.length s0) : Int))) s0)) || !List.take (Prod.fst (Go.Proofs.YtigfncnlhccaeaaDoor.fitS (List.take (Int.toNat (if (300 : Int) < (↑(List.length s0) : Int) then (300 : Int) else (↑(List.length s0) : Int))) s0) (Go.Proofs.YtigfncnlhccaeaaDoor.textW (List.take (Int.toNat (if (300 : Int) < (↑(List.length s0) : Int) then (300 : Int) else (↑(List.length s0) : Int))) s0)))) (List.take (Int.toNat (if (300 : Int) < (↑(List.length s0) : Int) then (300 : Int) else (↑(List.length s0) : Int))) s0) == List.take (Int.toNat (if (300 : Int) < (↑(List.length s0) : Int) then (300 : Int) else (↑(List.length s0) : Int))) s0 || Decidable.decide (List.length (List.take (Int.toNat (if (300 : Int) < (↑(List.length s0) : Int) then (300 : Int) else (↑(List.length s0) : Int))) s0) ≤ (1000000000 : Nat))) <|
    bif (!Go.Proofs.YtigfncnlhccaeaaDoor.hasPre (List.take (Int.toNat (if (300 : Int) < (↑(List.length s0) : Int) then (300 : Int) else (↑(List.length s0) : Int))) s0) (List.take (Prod.fst (Go.Proofs.YtigfncnlhccaeaaDoor.fitS (List.take (Int.toNat (if (300 : Int) < (↑(List.length s0) : Int) then (300 : Int) else (↑(List.length s0) : Int))) s0) (Go.IntKind.wrap Go.IntKind.i64 (if (↑(UInt8.toNat (Prod.fst (Prod.snd p1))) : Int) < (↑(UInt8.toNat (Prod.fst p1)) : Int) then (↑(UInt8.toNat (Prod.fst (Prod.snd p1))) : Int) else (↑(UInt8.toNat (Prod.fst p1)) : Int))))) (List.take (Int.toNat (if (300 : Int) < (↑(List.length s0) : Int) then (300 : Int) else (↑(List.length s0) : Int))) s0)) || !Go.Proofs.YtigfncnlhccaeaaDoor.hasPre (List.take (Prod.fst (Go.Proofs.YtigfncnlhccaeaaDoor.fitS (List.take (Int.toNat (if (300 : Int) < (↑(List.length s0) : Int) then (300 : Int) else (↑(List.length s0) : Int))) s0) (Go.IntKind.wrap Go.IntKind.i64 (if (↑(UInt8.toNat (Prod.fst p1)) : Int) < (↑(UInt8.toNat (Prod.fst (Prod.snd p1))) : Int) then (↑(UInt8.toNat (Prod.fst (Prod.snd p1))) : Int) else (↑(UInt8.toNat (Prod.fst p1)) : Int))))) (List.take (Int.toNat (if (300 : Int) < (↑(List.length s0) : Int) then (300 : Int) else (↑(List.length s0) : Int))) s0)) (List.take (Prod.fst (Go.Proofs.YtigfncnlhccaeaaDoor.fitS (List.take (Int.toNat (if (300 : Int) < (↑(List.length s0) : Int) then (300 : Int) else (↑(List.length s0) : Int))) s0) (Go.IntKind.wrap Go.IntKind.i64 (if (↑(UInt8.toNat (Prod.fst (Prod.snd p1))) : Int) < (↑(UInt8.toNat (Prod.fst p1)) : Int) then (↑(UInt8.toNat (Prod.fst (Prod.snd p1))) : Int) else (↑(UInt8.toNat (Prod.fst p1)) : Int))))) (List.take (Int.toNat (if (300 : Int) < (↑(List.length s0) : Int) then (300 : Int) else (↑(List.length s0) : Int))) s0)) || !Go.Proofs.YtigfncnlhccaeaaDoor.hasPre (List.take (Int.toNat (if (300 : Int) < (↑(List.length s0) : Int) then (300 : Int) else (↑(List.length s0) : Int))) s0) (List.take (Prod.fst (Go.Proofs.YtigfncnlhccaeaaDoor.fitS (List.take (Int.toNat (if (300 : Int) < (↑(List.length s0) : Int) then (300 : Int) else (↑(List.length s0) : Int))) s0) (Go.IntKind.wrap Go.IntKind.i64 (if (↑(UInt8.toNat (Prod.fst p1)) : Int) < (↑(UInt8.toNat (Prod.fst (Prod.snd p1))) : Int) then (↑(UInt8.toNat (Prod.fst (Prod.snd p1))) : Int) else (↑(UInt8.toNat (Prod.fst p1)) : Int))))) (List.take (Int.toNat (if (300 : Int) < (↑(List.length s0) : Int) then (300 : Int) else (↑(List.length s0) : Int))) s0)) || Decidable.decide (Go.IntKind.wrap Go.IntKind.i64 (if (↑(UInt8.toNat (Prod.fst (Prod.snd p1))) : Int) < (↑(UInt8.toNat (Prod.fst p1)) : Int) then (↑(UInt8.toNat (Prod.fst (Prod.snd p1))) : Int) else (↑(UInt8.toNat (Prod.fst p1)) : Int)) < Prod.snd (Go.Proofs.YtigfncnlhccaeaaDoor.fitS (List.take (Int.toNat (if (300 : Int) < (↑(List.length s0) : Int) then (300 : Int) else (↑(List.length s0) : Int))) s0) (Go.IntKind.wrap Go.IntKind.i64 (if (↑(UInt8.toNat (Prod.fst (Prod.snd p1))) : Int) < (↑(UInt8.toNat (Prod.fst p1)) : Int) then (↑(UInt8.toNat (Prod.fst (Prod.snd p1))) : Int) else (↑(UInt8.toNat (Prod.fst p1)) : Int))))) || Decidable.decide (Prod.snd (Go.Proofs.YtigfncnlhccaeaaDoor.fitS (List.take (Int.toNat (if (300 : Int) < (↑(List.length s0) : Int) then (300 : Int) else (↑(List.length s0) : Int))) s0) (Go.IntKind.wrap Go.IntKind.i64 (if (↑(UInt8.toNat (Prod.fst p1)) : Int) < (↑(UInt8.toNat (Prod.fst (Prod.snd p1))) : Int) then (↑(UInt8.toNat (Prod.fst (Prod.snd p1))) : Int) else (↑(UInt8.toNat (Prod.fst p1)) : Int)))) < Prod.snd (Go.Proofs.YtigfncnlhccaeaaDoor.fitS (List.take (Int.toNat (if (300 : Int) < (↑(List.length s0) : Int) then (300 : Int) else (↑(List.length s0) : Int))) s0) (Go.IntKind.wrap Go.IntKind.i64 (if (↑(UInt8.toNat (Prod.fst (Prod.snd p1))) : Int) < (↑(UInt8.toNat (Prod.fst p1)) : Int) then (↑(UInt8.toNat (Prod.fst (Prod.snd p1))) : Int) else (↑(UInt8.toNat (Prod.fst p1)) : Int))))) || Prod.snd (Go.Proofs.YtigfncnlhccaeaaDoor.fitS (List.take (Int.toNat (if (300 : Int) < (↑(List.length s0) : Int) then (300 : Int) else (↑(List.length s0) : Int))) s0) (Go.IntKind.wrap Go.IntKind.i64 (if (↑(UInt8.toNat (Prod.fst (Prod.snd p1))) : Int) < (↑(UInt8.toNat (Prod.fst p1)) : Int) then (↑(UInt8.toNat (Prod.fst (Prod.snd p1))) : Int) else (↑(UInt8.toNat (Prod.fst p1)) : Int)))) != Go.Proofs.YtigfncnlhccaeaaDoor.textW (List.take (Prod.fst (Go.Proofs.YtigfncnlhccaeaaDoor.fitS (List.take (Int.toNat (if (300 : Int) < (↑(List.length s0) : Int) then (300 : Int) else (↑(List.length s0) : Int))) s0) (Go.IntKind.wrap Go.IntKind.i64 (if (↑(UInt8.toNat (Prod.fst (Prod.snd p1))) : Int) < (↑(UInt8.toNat (Prod.fst p1)) : Int) then (↑(UInt8.toNat (Prod.fst (Prod.snd p1))) : Int) else (↑(UInt8.toNat (Prod.fst p1)) : Int))))) (List.take (Int.toNat (if (300 : Int) < (↑(List.length s0) : Int) then (300 : Int) else (↑(List.length s0) : Int))) s0)) || Prod.snd (Go.Proofs.YtigfncnlhccaeaaDoor.fitS (List.take (Int.toNat (if (300 : Int) < (↑(List.length s0) : Int) then (300 : Int) else (↑(List.length s0) : Int))) s0) (Go.IntKind.wrap Go.IntKind.i64 (if (↑(UInt8.toNat (Prod.fst p1)) : Int) < (↑(UInt8.toNat (Prod.fst (Prod.snd p1))) : Int) then (↑(UInt8.toNat (Prod.fst (Prod.snd p1))) : Int) else (↑(UInt8.toNat (Prod.fst p1)) : Int)))) != Go.Proofs.YtigfncnlhccaeaaDoor.textW (List.take (Prod.fst (Go.Proofs.YtigfncnlhccaeaaDoor.fitS (List.take (Int.toNat (if (300 : Int) < (↑(List.length s0) : Int) then (300 : Int) else (↑(List.length s0) : Int))) s0) (Go.IntKind.wrap Go.IntKind.i64 (if (↑(UInt8.toNat (Prod.fst p1)) : Int) < (↑(UInt8.toNat (Prod.fst (Prod.snd p1))) : Int) then (↑(UInt8.toNat (Prod.fst (Prod.snd p1))) : Int) else (↑(UInt8.toNat (Prod.fst p1)) : Int))))) (List.take (Int.toNat (if (300 : Int) < (↑(List.length s0) : Int) then (300 : Int) else (↑(List.length s0) : Int))) s0)) || !List.take (Prod.fst (Go.Proofs.YtigfncnlhccaeaaDoor.fitS (List.take (Int.toNat (if (300 : Int) < (↑(List.length s0) : Int) then (300 : Int) else (↑(List.length s0) : Int))) s0) (Go.Proofs.YtigfncnlhccaeaaDoor.textW (List.take (Int.toNat (if (300 : Int) < (↑(List.length s0) : Int) then (300 : Int) else (↑(List.length s0) : Int))) s0)))) (List.take (Int.toNat (if (300 : Int) < (↑(List.length s0) : Int) then (300 : Int) else (↑(List.length s0) : Int))) s0) == List.take (Int.toNat (if (300 : Int) < (↑(List.length s0) : Int) then (300 : Int) else (↑(List.length s0) : Int))) s0 || Prod.snd (Go.Proofs.YtigfncnlhccaeaaDoor.fitS (List.take (Int.toNat (if (300 : Int) < (↑(List.length s0) : Int) then (300 : Int) else (↑(List.length s0) : Int))) s0) (Go.Proofs.YtigfncnlhccaeaaDoor.textW (List.take (Int.toNat (if (300 : Int) < (↑(List.length s0) : Int) then (300 : Int) else (↑(List.length s0) : Int))) s0))) != Go.Proofs.YtigfncnlhccaeaaDoor.textW (List.take (Int.toNat (if (300 : Int) < (↑(List.length s0) : Int) then (300 : Int) else (↑(List.length s0) : Int))) s0)) then
      some [⟨.bool, (Bool.false : Bool)⟩]
    else
      bif (!List.take (Prod.fst (Go.Proofs.YtigfncnlhccaeaaDoor.fitS (List.take (Int.toNat (if (300 : Int) < (↑(List.length s0) : Int) then (300 : Int) else (↑(List.length s0) : Int))) s0) (Go.IntKind.wrap Go.IntKind.i64 (if (↑(UInt8.toNat (Prod.fst (Prod.snd p1))) : Int) < (↑(UInt8.toNat (Prod.fst p1)) : Int) then (↑(UInt8.toNat (Prod.fst (Prod.snd p1))) : Int) else (↑(UInt8.toNat (Prod.fst p1)) : Int))))) (List.take (Int.toNat (if (300 : Int) < (↑(List.length s0) : Int) then (300 : Int) else (↑(List.length s0) : Int))) s0) == List.take (Int.toNat (if (300 : Int) < (↑(List.length s0) : Int) then (300 : Int) else (↑(List.length s0) : Int))) s0) then
        need (Decidable.decide ((↑(List.length (List.take (Prod.fst (Go.Proofs.YtigfncnlhccaeaaDoor.fitS (List.take (Int.toNat (if (300 : Int) < (↑(List.length s0) : Int) then (300 : Int) else (↑(List.length s0) : Int))) s0) (Go.IntKind.wrap Go.IntKind.i64 (if (↑(UInt8.toNat (Prod.fst (Prod.snd p1))) : Int) < (↑(UInt8.toNat (Prod.fst p1)) : Int) then (↑(UInt8.toNat (Prod.fst (Prod.snd p1))) : Int) else (↑(UInt8.toNat (Prod.fst p1)) : Int))))) (List.take (Int.toNat (if (300 : Int) < (↑(List.length s0) : Int) then (300 : Int) else (↑(List.length s0) : Int))) s0))) : Int) ≤ (↑(List.length (List.take (Int.toNat (if (300 : Int) < (↑(List.length s0) : Int) then (300 : Int) else (↑(List.length s0) : Int))) s0)) : Int))) <|
        need (Decidable.decide ((↑(List.length (List.take (Int.toNat (if (300 : Int) < (↑(List.length s0) : Int) then (300 : Int) else (↑(List.length s0) : Int))) s0)) : Int) ≤ (↑(List.length (List.take (Int.toNat (if (300 : Int) < (↑(List.length s0) : Int) then (300 : Int) else (↑(List.length s0) : Int))) s0)) : Int))) <|
        bif (Decidable.decide (Go.IntKind.wrap Go.IntKind.i64 (Prod.snd (Go.Proofs.YtigfncnlhccaeaaDoor.fitS (List.take (Int.toNat (if (300 : Int) < (↑(List.length s0) : Int) then (300 : Int) else (↑(List.length s0) : Int))) s0) (Go.IntKind.wrap Go.IntKind.i64 (if (↑(UInt8.toNat (Prod.fst (Prod.snd p1))) : Int) < (↑(UInt8.toNat (Prod.fst p1)) : Int) then (↑(UInt8.toNat (Prod.fst (Prod.snd p1))) : Int) else (↑(UInt8.toNat (Prod.fst p1)) : Int)))) + if (0 : Int) < Go.Proofs.YtigfncnlhccaeaaDoor.ofSpec (↑(Prod.fst (Go.Am.decGo (List.take (Int.toNat (↑(List.length (List.take (Int.toNat (if (300 : Int) < (↑(List.length s0) : Int) then (300 : Int) else (↑(List.length s0) : Int))) s0)) : Int) - Int.toNat (↑(List.length (List.take (Prod.fst (Go.Proofs.YtigfncnlhccaeaaDoor.fitS (List.take (Int.toNat (if (300 : Int) < (↑(List.length s0) : Int) then (300 : Int) else (↑(List.length s0) : Int))) s0) (Go.IntKind.wrap Go.IntKind.i64 (if (↑(UInt8.toNat (Prod.fst (Prod.snd p1))) : Int) < (↑(UInt8.toNat (Prod.fst p1)) : Int) then (↑(UInt8.toNat (Prod.fst (Prod.snd p1))) : Int) else (↑(UInt8.toNat (Prod.fst p1)) : Int))))) (List.take (Int.toNat (if (300 : Int) < (↑(List.length s0) : Int) then (300 : Int) else (↑(List.length s0) : Int))) s0))) : Int)) (List.drop (Int.toNat (↑(List.length (List.take (Prod.fst (Go.Proofs.YtigfncnlhccaeaaDoor.fitS (List.take (Int.toNat (if (300 : Int) < (↑(List.length s0) : Int) then (300 : Int) else (↑(List.length s0) : Int))) s0) (Go.IntKind.wrap Go.IntKind.i64 (if (↑(UInt8.toNat (Prod.fst (Prod.snd p1))) : Int) < (↑(UInt8.toNat (Prod.fst p1)) : Int) then (↑(UInt8.toNat (Prod.fst (Prod.snd p1))) : Int) else (↑(UInt8.toNat (Prod.fst p1)) : Int))))) (List.take (Int.toNat (if (300 : Int) < (↑(List.length s0) : Int) then (300 : Int) else (↑(List.length s0) : Int))) s0))) : Int)) (List.take (Int.toNat (if (300 : Int) < (↑(List.length s0) : Int) then (300 : Int) else (↑(List.length s0) : Int))) s0))))) : Int) then Go.Proofs.YtigfncnlhccaeaaDoor.ofSpec (↑(Prod.fst (Go.Am.decGo (List.take (Int.toNat (↑(List.length (List.take (Int.toNat (if (300 : Int) < (↑(List.length s0) : Int) then (300 : Int) else (↑(List.length s0) : Int))) s0)) : Int) - Int.toNat (↑(List.length (List.take (Prod.fst (Go.Proofs.YtigfncnlhccaeaaDoor.fitS (List.take (Int.toNat (if (300 : Int) < (↑(List.length s0) : Int) then (300 : Int) else (↑(List.length s0) : Int))) s0) (Go.IntKind.wrap Go.IntKind.i64 (if (↑(UInt8.toNat (Prod.fst (Prod.snd p1))) : Int) < (↑(UInt8.toNat (Prod.fst p1)) : Int) then (↑(UInt8.toNat (Prod.fst (Prod.snd p1))) : Int) else (↑(UInt8.toNat (Prod.fst p1)) : Int))))) (List.take (Int.toNat (if (300 : Int) < (↑(List.length s0) : Int) then (300 : Int) else (↑(List.length s0) : Int))) s0))) : Int)) (List.drop (Int.toNat (↑(List.length (List.take (Prod.fst (Go.Proofs.YtigfncnlhccaeaaDoor.fitS (List.take (Int.toNat (if (300 : Int) < (↑(List.length s0) : Int) then (300 : Int) else (↑(List.length s0) : Int))) s0) (Go.IntKind.wrap Go.IntKind.i64 (if (↑(UInt8.toNat (Prod.fst (Prod.snd p1))) : Int) < (↑(UInt8.toNat (Prod.fst p1)) : Int) then (↑(UInt8.toNat (Prod.fst (Prod.snd p1))) : Int) else (↑(UInt8.toNat (Prod.fst p1)) : Int))))) (List.take (Int.toNat (if (300 : Int) < (↑(List.length s0) : Int) then (300 : Int) else (↑(List.length s0) : Int))) s0))) : Int)) (List.take (Int.toNat (if (300 : Int) < (↑(List.length s0) : Int) then (300 : Int) else (↑(List.length s0) : Int))) s0))))) : Int) else (0 : Int)) ≤ Go.IntKind.wrap Go.IntKind.i64 (if (↑(UInt8.toNat (Prod.fst (Prod.snd p1))) : Int) < (↑(UInt8.toNat (Prod.fst p1)) : Int) then (↑(UInt8.toNat (Prod.fst (Prod.snd p1))) : Int) else (↑(UInt8.toNat (Prod.fst p1)) : Int))) || Decidable.decide ((↑(Prod.snd (Go.Am.decGo (List.take (Int.toNat (↑(List.length (List.take (Int.toNat (if (300 : Int) < (↑(List.length s0) : Int) then (300 : Int) else (↑(List.length s0) : Int))) s0)) : Int) - Int.toNat (↑(List.length (List.take (Prod.fst (Go.Proofs.YtigfncnlhccaeaaDoor.fitS (List.take (Int.toNat (if (300 : Int) < (↑(List.length s0) : Int) then (300 : Int) else (↑(List.length s0) : Int))) s0) (Go.IntKind.wrap Go.IntKind.i64 (if (↑(UInt8.toNat (Prod.fst (Prod.snd p1))) : Int) < (↑(UInt8.toNat (Prod.fst p1)) : Int) then (↑(UInt8.toNat (Prod.fst (Prod.snd p1))) : Int) else (↑(UInt8.toNat (Prod.fst p1)) : Int))))) (List.take (Int.toNat (if (300 : Int) < (↑(List.length s0) : Int) then (300 : Int) else (↑(List.length s0) : Int))) s0))) : Int)) (List.drop (Int.toNat (↑(List.length (List.take (Prod.fst (Go.Proofs.YtigfncnlhccaeaaDoor.fitS (List.take (Int.toNat (if (300 : Int) < (↑(List.length s0) : Int) then (300 : Int) else (↑(List.length s0) : Int))) s0) (Go.IntKind.wrap Go.IntKind.i64 (if (↑(UInt8.toNat (Prod.fst (Prod.snd p1))) : Int) < (↑(UInt8.toNat (Prod.fst p1)) : Int) then (↑(UInt8.toNat (Prod.fst (Prod.snd p1))) : Int) else (↑(UInt8.toNat (Prod.fst p1)) : Int))))) (List.take (Int.toNat (if (300 : Int) < (↑(List.length s0) : Int) then (300 : Int) else (↑(List.length s0) : Int))) s0))) : Int)) (List.take (Int.toNat (if (300 : Int) < (↑(List.length s0) : Int) then (300 : Int) else (↑(List.length s0) : Int))) s0))))) : Int) < (1 : Int))) then
          some [⟨.bool, (Bool.false : Bool)⟩]
        else
          need (Decidable.decide (List.length (List.take (Int.toNat (if (300 : Int) < (↑(List.length s0) : Int) then (300 : Int) else (↑(List.length s0) : Int))) s0) ≤ (1000000000 : Nat))) <|
          some [⟨.bool, (Decidable.decide (Go.IntKind.wrap Go.IntKind.i64 (if (↑(UInt8.toNat (Prod.fst (Prod.snd p1))) : Int) < (↑(UInt8.toNat (Prod.fst p1)) : Int) then (↑(UInt8.toNat (Prod.fst (Prod.snd p1))) : Int) else (↑(UInt8.toNat (Prod.fst p1)) : Int)) < Go.Proofs.YtigfncnlhccaeaaDoor.textW (List.take (Int.toNat (if (300 : Int) < (↑(List.length s0) : Int) then (300 : Int) else (↑(List.length s0) : Int))) s0)) || List.take (Prod.fst (Go.Proofs.YtigfncnlhccaeaaDoor.fitS (List.take (Int.toNat (if (300 : Int) < (↑(List.length s0) : Int) then (300 : Int) else (↑(List.length s0) : Int))) s0) (Go.IntKind.wrap Go.IntKind.i64 (if (↑(UInt8.toNat (Prod.fst (Prod.snd p1))) : Int) < (↑(UInt8.toNat (Prod.fst p1)) : Int) then (↑(UInt8.toNat (Prod.fst (Prod.snd p1))) : Int) else (↑(UInt8.toNat (Prod.fst p1)) : Int))))) (List.take (Int.toNat (if (300 : Int) < (↑(List.length s0) : Int) then (300 : Int) else (↑(List.length s0) : Int))) s0) == List.take (Int.toNat (if (300 : Int) < (↑(List.length s0) : Int) then (300 : Int) else (↑(List.length s0) : Int))) s0 : Bool)⟩]
      else
        need (Decidable.decide (List.length (List.take (Int.toNat (if (300 : Int) < (↑(List.length s0) : Int) then (300 : Int) else (↑(List.length s0) : Int))) s0) ≤ (1000000000 : Nat))) <|
        some [⟨.bool, (Decidable.decide (Go.IntKind.wrap Go.IntKind.i64 (if (↑(UInt8.toNat (Prod.fst (Prod.snd p1))) : Int) < (↑(UInt8.toNat (Prod.fst p1)) : Int) then (↑(UInt8.toNat (Prod.fst (Prod.snd p1))) : Int) else (↑(UInt8.toNat (Prod.fst p1)) : Int)) < Go.Proofs.YtigfncnlhccaeaaDoor.textW (List.take (Int.toNat (if (300 : Int) < (↑(List.length s0) : Int) then (300 : Int) else (↑(List.length s0) : Int))) s0)) || List.take (Prod.fst (Go.Proofs.YtigfncnlhccaeaaDoor.fitS (List.take (Int.toNat (if (300 : Int) < (↑(List.length s0) : Int) then (300 : Int) else (↑(List.length s0) : Int))) s0) (Go.IntKind.wrap Go.IntKind.i64 (if (↑(UInt8.toNat (Prod.fst (Prod.snd p1))) : Int) < (↑(UInt8.toNat (Prod.fst p1)) : Int) then (↑(UInt8.toNat (Prod.fst (Prod.snd p1))) : Int) else (↑(UInt8.toNat (Prod.fst p1)) : Int))))) (List.take (Int.toNat (if (300 : Int) < (↑(List.length s0) : Int) then (300 : Int) else (↑(List.length s0) : Int))) s0) == List.take (Int.toNat (if (300 : Int) < (↑(List.length s0) : Int) then (300 : Int) else (↑(List.length s0) : Int))) s0 : Bool)⟩]) := by kernel_rfl

end Go.Proofs.YtigfncnlhccaeaaDoor

/-
  Chapter 4 (what fits): the law.
-/
namespace Go.Proofs.YtigfncnlhccaeaaDoor
open Go Go.Am

theorem hasPre_take (s : List UInt8) (p q : Nat) (h : p ≤ q) : hasPre (s.take q) (s.take p) = true := by
  unfold hasPre
  rw [Bool.and_eq_true, decide_eq_true_eq, beq_iff_eq, List.take_take, List.length_take, List.length_take]
  refine ⟨by omega, ?_⟩
  rw [show min (min p s.length) q = min p s.length by omega, ← List.take_take, List.take_length]

abbrev tysFits : List Ty := [.str, .pair .byte (.pair .byte .unit)]
theorem fits_law (ds : List Dy) (h : OkDs tysFits ds) : ∃ n, fnY SL3 loopY (tysFits.map .hole) [.bool] n 3 ds = some [⟨.bool, true⟩] := by
  obtain ⟨s0, _, rfl, _, p1, _, rfl, _, rfl⟩ := h
  refine ⟨1, ?_⟩
  show fnY SL3 loopY [.hole .str, .hole (.pair .byte (.pair .byte .unit))] [.bool] 1 3 [⟨.str, s0⟩, ⟨.pair .byte (.pair .byte .unit), p1⟩] = _
  have b0 := cutMin_le (K := 300) (by omega) (List.length s0)
  rw [L3_fn]
  refine nd b0.1 (nd b0.2 ?_)
  rw [cutMin (K := 300) 300 rfl s0]
  have l0 : (s0.take 300).length ≤ 300 := by simp; omega
  generalize s0.take 300 = a at l0 ⊢
  obtain ⟨u, v, _⟩ := p1
  dsimp only
  have hu : u.toNat < 256 := u.toNat_lt
  have hv : v.toNat < 256 := v.toNat_lt
  have wl : IntKind.i64.wrap (if (v.toNat : Int) < (u.toNat : Int) then (v.toNat : Int) else (u.toNat : Int)) = (if (v.toNat : Int) < (u.toNat : Int) then (v.toNat : Int) else (u.toNat : Int)) := w64 (by split <;> omega)
  have wh : IntKind.i64.wrap (if (u.toNat : Int) < (v.toNat : Int) then (v.toNat : Int) else (u.toNat : Int)) = (if (u.toNat : Int) < (v.toNat : Int) then (v.toNat : Int) else (u.toNat : Int)) := w64 (by split <;> omega)
  rw [wl, wh]
  have bl : 0 ≤ (if (v.toNat : Int) < (u.toNat : Int) then (v.toNat : Int) else (u.toNat : Int)) := by split <;> omega
  have bh : (if (v.toNat : Int) < (u.toNat : Int) then (v.toNat : Int) else (u.toNat : Int)) ≤ (if (u.toNat : Int) < (v.toNat : Int) then (v.toNat : Int) else (u.toNat : Int)) := by split <;> split <;> omega
  generalize (if (v.toNat : Int) < (u.toNat : Int) then (v.toNat : Int) else (u.toNat : Int)) = lo at bl bh ⊢
  generalize (if (u.toNat : Int) < (v.toNat : Int) then (v.toNat : Int) else (u.toNat : Int)) = hi at bh ⊢
  have F1 := fits_ok a.length a lo (Nat.le_refl _)
  have F2 := fits_ok a.length a hi (Nat.le_refl _)
  have mp := fit_mono a.length a lo hi bh
  have mw := fit_mono2 a.length a lo hi bh
  have FA := fit_all a.length a (Nat.le_refl _)
  have FT := fits_ok a.length a (textW a) (Nat.le_refl _)
  have tb := txt_bounds a.length a
  have ML := fit_mono a.length a (textW a) lo
  unfold fitS
  generalize fitP a.length a lo = q1 at F1 mp mw ML ⊢
  generalize fitP a.length a hi = q2 at F2 mp mw ⊢
  obtain ⟨p1, n1⟩ := q1
  obtain ⟨p2, n2⟩ := q2
  dsimp only at F1 F2 mp mw ML ⊢
  rw [show fitP a.length a (textW a) = (a.length, textW a) from by
    refine Prod.ext FA ?_
    have := FT.all FA
    exact this]
  rw [show txt a.length a = textW a from rfl] at FA tb
  rw [show fitP a.length a (textW a) = (a.length, textW a) from Prod.ext FA (FT.all FA)] at ML
  dsimp only at ML ⊢
  have f1 := F1.le
  have f2 := F2.le
  have len1 : (a.take p1).length = p1 := by rw [List.length_take]; omega
  have len2 : (a.take p2).length = p2 := by rw [List.length_take]; omega
  have t1 : textW (a.take p1) = n1 := by
    unfold textW
    rw [txt_fuel _ a.length _ (Nat.le_refl _) (by omega)]
    exact F1.txt
  have t2 : textW (a.take p2) = n2 := by
    unfold textW
    rw [txt_fuel _ a.length _ (Nat.le_refl _) (by omega)]
    exact F2.txt
  have h1 : hasPre a (a.take p1) = true := by
    have := hasPre_take a p1 a.length f1
    rwa [List.take_length] at this
  have h2 : hasPre (a.take p2) (a.take p1) = true := hasPre_take a p1 p2 mp
  have h3 : hasPre a (a.take p2) = true := by
    have := hasPre_take a p2 a.length f2
    rwa [List.take_length] at this
  rw [h1, h2, h3, t1, t2, List.take_length, len1, len2, Int.toNat_natCast, Int.toNat_natCast]
  have wb := F1.wm bl
  have w0 := F1.w0
  rw [decide_eq_false (p := lo < n1) (by omega), decide_eq_false (p := n2 < n1) (by omega), show (n1 != n1) = false by simp, show (n2 != n2) = false by simp, show (textW a != textW a) = false by simp, show (a == a) = true by simp]
  have fin : (decide (lo < textW a) || a.take p1 == a) = true := by
    by_cases e : lo < textW a
    · rw [decide_eq_true e]; rfl
    · have := ML (by omega)
      rw [show p1 = a.length by omega, List.take_length]
      simp
  refine nd (by omega) (nd (by omega) (nd (by omega) (nd (by omega) (np ?_ (np ?_ (np ?_ (bn rfl (bc (fun he => ?_) fun _ => nd (by omega) (ret1 (dyB fin))))))))))
  · rw [decide_eq_true (p := p1 ≤ 1000000000) (by omega)]; rfl
  · rw [decide_eq_true (p := p2 ≤ 1000000000) (by omega)]; rfl
  · rw [decide_eq_true (p := a.length ≤ 1000000000) (by omega)]; rfl
  · have hne : p1 < a.length := by
      rcases Nat.lt_or_ge p1 a.length with h | h
      · exact h
      · rw [List.take_of_length_le h] at he
        simp at he
    have hN := F1.next hne
    obtain ⟨c, r, hd⟩ : ∃ c r, a.drop p1 = c :: r := by
      cases h : a.drop p1 with
      | nil => have := List.drop_eq_nil_iff.1 h; omega
      | cons c r => exact ⟨c, r, rfl⟩
    rw [List.take_of_length_le (show (a.drop p1).length ≤ a.length - p1 by rw [List.length_drop]; omega), hd]
    rw [hd] at hN
    have hb := dec_bounds c r
    have hw := wr_bounds (Am.decode (c :: r)).1
    have eg : decGo (c :: r) = Am.decode (c :: r) := rfl
    rw [eg, wr_def, w64 (by omega)]
    refine nd (by omega) (nd (by omega) (bn ?_ (nd (by omega) (ret1 (dyB fin)))))
    rw [decide_eq_false (by omega), decide_eq_false (by omega)]
    rfl

end Go.Proofs.YtigfncnlhccaeaaDoor
