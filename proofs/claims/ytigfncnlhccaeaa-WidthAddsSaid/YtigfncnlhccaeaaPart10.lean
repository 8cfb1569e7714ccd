/-
  Texts of this session, one behind the other: WdEnv, WdOf, WdOf2, WdWorks, WdS, WdG1, WdSh, WdC1, WdG2, WdL4.
-/
import Derived.Test.YtigfncnlhccaeaaPart9
import Derived.Test.YtigfncnlhccaeaaProg
import Derived.KernelRfl
namespace Go.Proofs.Ytigfncnlhccaeaa
open Go Go.Am
noncomputable def E : Env := { P := Try.prog, G := fun _ => none, ext := fun _ _ => none, orc := fun _ _ => none, same := fun f => f == 24 }
theorem namesB : Try.prog.funcs.toList.all (fun fn => !(fn.name == "runtime.NumGoroutine")) = true := by kernel_rfl
theorem E_ok : E.Ok where
  mixed := by kernel_rfl
  names f fn h _ e := by
    have h1 : fn ∈ Try.prog.funcs.toList := by
      have := Array.mem_of_getElem? (show Try.prog.funcs[f]? = some fn from h)
      exact Array.mem_toList_iff.mpr this
    have h2 := List.all_eq_true.mp namesB fn h1
    simp [e] at h2
  made f e h := by simp [E] at h
  same f h v w := by
    have : f = 24 := by simpa [E] using h
    subst this
    rfl
  ext f args v h := by simp [E] at h
  orc f args v h := by simp [E] at h
end Go.Proofs.Ytigfncnlhccaeaa

/-
  The walks of width.Of and what it calls.
-/
namespace Go.Proofs.Ytigfncnlhccaeaa
open Go Go.Am

def cmpSpec (a b x : Int) : Int := if b < x then -1 else if a > x then 1 else 0

theorem f21_ok (a b x : Int) (H : List AObj) : Gives E 21 [.agg [.int .i32 a, .int .i32 b], .int .i32 x] H (.pure (.int .i64 (cmpSpec a b x))) := by
  refine Gives.walk [] rfl Try.func21 rfl rfl rfl rfl (by simp [keysB]) (by simp) ?_
  repeat' (first
    | refine Run.seq ?_
    | refine Run.region rfl ?_
    | refine Run.drawn rfl rfl rfl ?_
    | refine Run.block ?_
    | refine Run.condT rfl ?_
    | refine Run.condF rfl ?_
    | refine Run.skip ?_
    | refine Run.ret ?_
    | refine Run.exit ?_
    | refine Run.label ?_
    | refine Done.seq ?_
    | refine Done.seqE ?_
    | refine Done.seqR ?_
    | refine Done.blockN ?_
    | refine Done.blockR ?_
    | refine Done.hit ?_
    | refine Done.miss rfl ?_
    | refine Done.invE ?_
    | refine Done.invR ?_
    | refine RunO.nil ?_
    | refine RunO.move rfl rfl rfl rfl ?_
    | refine RunO.assign rfl rfl rfl rfl ?_
    | refine RunO.load 0 rfl rfl rfl rfl rfl rfl ?_
    | refine RunO.load 1 rfl rfl rfl rfl rfl rfl ?_
    | refine RunO.load 2 rfl rfl rfl rfl rfl rfl ?_
    | refine RunO.load 3 rfl rfl rfl rfl rfl rfl ?_
    | refine RunO.load 4 rfl rfl rfl rfl rfl rfl ?_
    | refine RunO.indexAddr rfl rfl rfl rfl rfl (by omega) rfl rfl rfl ?_
    | refine RunO.box rfl rfl rfl rfl rfl rfl (fun _ => ?_)
    | refine RunO.alloc rfl rfl rfl rfl rfl rfl (fun _ => ?_)
    | refine RunO.store 0 rfl rfl rfl rfl rfl rfl (by decide) (by decide) rfl rfl ?_
    | refine RunO.store 1 rfl rfl rfl rfl rfl rfl (by decide) (by decide) rfl rfl ?_
    | refine RunO.store 2 rfl rfl rfl rfl rfl rfl (by decide) (by decide) rfl rfl ?_
    | refine RunO.store 3 rfl rfl rfl rfl rfl rfl (by decide) (by decide) rfl rfl ?_
    | refine RunO.store 4 rfl rfl rfl rfl rfl rfl (by decide) (by decide) rfl rfl ?_
    | refine RunO.cmpT rfl (fun _ => rfl) rfl rfl (by omega) ?_
    | refine RunO.cmpF rfl (fun _ => rfl) rfl rfl (by omega) ?_
    | refine RunO.cmp rfl (fun _ => rfl) rfl rfl (fun _ => ?_) (fun _ => ?_)
    | refine RunO.bin rfl rfl rfl (fun _ _ => rfl) (IntWalk.i64_in _ (by omega)) rfl rfl ?_
    | refine RunO.conv rfl rfl rfl rfl (IntWalk.i64_in _ (by omega)) rfl rfl ?_
    | refine RunO.bin rfl rfl rfl (fun _ _ => rfl) (IntWalk.i32_in _ (by omega)) rfl rfl ?_
    | refine RunO.conv rfl rfl rfl rfl (IntWalk.i32_in _ (by omega)) rfl rfl ?_
    | refine RunO.bin rfl rfl rfl (fun _ _ => rfl) (IntWalk.u8_in _ (by omega)) rfl rfl ?_
    | refine RunO.conv rfl rfl rfl rfl (IntWalk.u8_in _ (by omega)) rfl rfl ?_
    | refine RunO.bin rfl rfl rfl (fun _ _ => rfl) (IntWalk.u64_in _ (by omega)) rfl rfl ?_
    | refine RunO.conv rfl rfl rfl rfl (IntWalk.u64_in _ (by omega)) rfl rfl ?_
    | refine RunO.bin rfl rfl rfl (fun _ _ => rfl) (IntWalk.u32_in _ (by omega)) rfl rfl ?_
    | refine RunO.conv rfl rfl rfl rfl (IntWalk.u32_in _ (by omega)) rfl rfl ?_
    | refine RunO.bin rfl rfl rfl (fun _ _ => rfl) (IntWalk.u16_in _ (by omega)) rfl rfl ?_
    | refine RunO.conv rfl rfl rfl rfl (IntWalk.u16_in _ (by omega)) rfl rfl ?_
    | refine RunO.val rfl (fun _ => rfl) rfl rfl ?_
    | refine RunO.no rfl rfl rfl ?_
    | refine RunQ.nil ?_
    | refine RunQ.move rfl rfl rfl rfl ?_
    | refine RunQ.assign rfl rfl rfl rfl ?_
    | refine RunQ.load 0 rfl rfl rfl rfl rfl rfl ?_
    | refine RunQ.load 1 rfl rfl rfl rfl rfl rfl ?_
    | refine RunQ.load 2 rfl rfl rfl rfl rfl rfl ?_
    | refine RunQ.load 3 rfl rfl rfl rfl rfl rfl ?_
    | refine RunQ.load 4 rfl rfl rfl rfl rfl rfl ?_
    | refine RunQ.indexAddr rfl rfl rfl rfl rfl (by omega) rfl rfl rfl ?_
    | refine RunQ.cmpT rfl (fun _ => rfl) rfl rfl (by omega) ?_
    | refine RunQ.cmpF rfl (fun _ => rfl) rfl rfl (by omega) ?_
    | refine RunQ.cmp rfl (fun _ => rfl) rfl rfl (fun _ => ?_) (fun _ => ?_)
    | refine RunQ.bin rfl rfl rfl (fun _ _ => rfl) (IntWalk.i64_in _ (by omega)) rfl rfl ?_
    | refine RunQ.conv rfl rfl rfl rfl (IntWalk.i64_in _ (by omega)) rfl rfl ?_
    | refine RunQ.bin rfl rfl rfl (fun _ _ => rfl) (IntWalk.i32_in _ (by omega)) rfl rfl ?_
    | refine RunQ.conv rfl rfl rfl rfl (IntWalk.i32_in _ (by omega)) rfl rfl ?_
    | refine RunQ.bin rfl rfl rfl (fun _ _ => rfl) (IntWalk.u8_in _ (by omega)) rfl rfl ?_
    | refine RunQ.conv rfl rfl rfl rfl (IntWalk.u8_in _ (by omega)) rfl rfl ?_
    | refine RunQ.bin rfl rfl rfl (fun _ _ => rfl) (IntWalk.u64_in _ (by omega)) rfl rfl ?_
    | refine RunQ.conv rfl rfl rfl rfl (IntWalk.u64_in _ (by omega)) rfl rfl ?_
    | refine RunQ.bin rfl rfl rfl (fun _ _ => rfl) (IntWalk.u32_in _ (by omega)) rfl rfl ?_
    | refine RunQ.conv rfl rfl rfl rfl (IntWalk.u32_in _ (by omega)) rfl rfl ?_
    | refine RunQ.bin rfl rfl rfl (fun _ _ => rfl) (IntWalk.u16_in _ (by omega)) rfl rfl ?_
    | refine RunQ.conv rfl rfl rfl rfl (IntWalk.u16_in _ (by omega)) rfl rfl ?_
    | refine RunQ.val rfl rfl (fun _ => rfl) rfl rfl ?_
    | refine RunQ.no rfl rfl rfl ?_)
  all_goals refine Done.pure (.inr rfl) (fun _ => rfl) ?_ rfl
  all_goals simp only [tupV, cmpSpec, *, if_true, if_false]

def flat : List (Int × Int) → List V
  | [] => []
  | s :: r => .int .i32 s.1 :: .int .i32 s.2 :: flat r

theorem flat_len : ∀ l : List (Int × Int), (flat l).length = l.length * 2
  | [] => rfl
  | s :: r => by simp only [flat, List.length_cons, flat_len r]; omega

theorem flat_at : ∀ (l : List (Int × Int)) (i : Nat) (s : Int × Int), l[i]? = some s → ((flat l).drop (i * 2)).take 2 = [.int .i32 s.1, .int .i32 s.2]
  | [], i, s, h => by simp at h
  | u :: r, 0, s, h => by simp at h; subst h; simp [flat]
  | u :: r, i + 1, s, h => by
    have := flat_at r i s (by simpa using h)
    rw [show (i + 1) * 2 = i * 2 + 2 by omega]
    simpa [flat] using this

theorem flat_load (l : List (Int × Int)) (i : Nat) (s : Int × Int) (h : l[i]? = some s) : loadC E.P 34 (flat l) (0 + i * 2) = some (.agg [.int .i32 s.1, .int .i32 s.2]) := by
  have hl : i < l.length := (List.getElem?_eq_some_iff.mp h).1
  have e1 : isAggT E.P 34 = some true := by kernel_rfl
  have e2 : sizeT E.P 34 = some 2 := by kernel_rfl
  unfold loadC
  simp only [e1, e2, Nat.zero_add, flat_at l i s h, flat_len]
  rw [if_pos (by omega)]

def isIn (l : List (Int × Int)) (x : Int) : Bool := l.any fun s => decide (s.1 ≤ x) && decide (x ≤ s.2)

def Rising (l : List (Int × Int)) : Prop := (∀ (i : Nat) s, l[i]? = some s → s.1 ≤ s.2) ∧ ∀ (i j : Nat) s u, l[i]? = some s → l[j]? = some u → i < j → s.2 < u.1

def headS (k : Nat) (l : List (Int × Int)) (x : Int) (cp : Option Nat) (e : TypeId) (m : Am.Mode) (fz : Bool) (a : Nat × Nat) : SA :=
  ⟨[(9, .int .i64 a.1), (10, .int .i64 a.2), (8, .int .i64 l.length), (0, .slice k 0 l.length cp), (1, .int .i32 x), (2, .func 21 [] [])], [(false, k, .cells (flat l) e m fz)], []⟩

theorem cmp_neg {a b x : Int} : cmpSpec a b x < 0 ↔ b < x := by
  unfold cmpSpec; repeat' split
  all_goals omega

theorem cmp_zero {a b x : Int} : cmpSpec a b x = 0 ↔ ¬ b < x ∧ a ≤ x := by
  unfold cmpSpec; repeat' split
  all_goals omega

theorem isIn_of {l : List (Int × Int)} {x : Int} {i : Nat} {s : Int × Int} (h : l[i]? = some s) (h1 : s.1 ≤ x) (h2 : ¬ s.2 < x) : isIn l x = true := by
  unfold isIn
  rw [List.any_eq_true]
  exact ⟨s, List.mem_of_getElem? h, by simp only [Bool.and_eq_true, decide_eq_true_eq]; omega⟩

theorem not_isIn {l : List (Int × Int)} {x : Int} (i : Nat) (hr : Rising l) (h3 : ∀ (k : Nat) s, l[k]? = some s → k < i → s.2 < x) (h4 : ∀ s, l[i]? = some s → x < s.1) : isIn l x = false := by
  unfold isIn
  rw [List.any_eq_false]
  intro s hs
  obtain ⟨k, hk⟩ := List.mem_iff_getElem?.mp hs
  simp only [Bool.and_eq_true, decide_eq_true_eq]
  rintro ⟨a, b⟩
  by_cases h : k < i
  · have := h3 k s hk h; omega
  · by_cases e : k = i
    · subst e; have := h4 s hk; omega
    · obtain ⟨u, hu⟩ : ∃ u, l[i]? = some u := ⟨_, List.getElem?_eq_getElem (by have := (List.getElem?_eq_some_iff.mp hk).1; omega)⟩
      have a1 := h4 u hu
      have a2 := hr.1 i u hu
      have a3 := hr.2 i k u s hu hk (by omega)
      omega

set_option maxHeartbeats 2000000 in
theorem f20_ok (k : Nat) (l : List (Int × Int)) (x : Int) (cp : Option Nat) (e : TypeId) (m : Am.Mode) (fz : Bool) (H : List AObj) (hk : H[k]? = some (.cells (flat l) e m fz)) (hl : l.length < 1000000000) (hr : Rising l) :
    WPcall E 20 [.slice k 0 l.length cp, .int .i32 x, .func 21 [] []] H fun c => ∃ p : Int, c = .pure (.tup [.int .i64 p, .bool (isIn l x)]) := by
  refine WPcall.walk [(false, k, .cells (flat l) e m fz)] rfl Try.func20 rfl rfl rfl rfl (by simp [keysB]) (by simpa using hk) ?_
  repeat' (first
    | refine Run.seq ?_
    | refine Run.region rfl ?_
    | refine Run.drawn rfl rfl rfl ?_
    | refine Run.block ?_
    | refine Run.condT rfl ?_
    | refine Run.condF rfl ?_
    | refine Run.skip ?_
    | refine Run.ret ?_
    | refine Run.exit ?_
    | refine Run.label ?_
    | refine Done.seq ?_
    | refine Done.seqE ?_
    | refine Done.seqR ?_
    | refine Done.blockN ?_
    | refine Done.blockR ?_
    | refine Done.hit ?_
    | refine Done.miss rfl ?_
    | refine Done.invE ?_
    | refine Done.invR ?_
    | refine RunO.nil ?_
    | refine RunO.move rfl rfl rfl rfl ?_
    | refine RunO.assign rfl rfl rfl rfl ?_
    | refine RunO.load 0 rfl rfl rfl rfl rfl rfl ?_
    | refine RunO.load 1 rfl rfl rfl rfl rfl rfl ?_
    | refine RunO.load 2 rfl rfl rfl rfl rfl rfl ?_
    | refine RunO.load 3 rfl rfl rfl rfl rfl rfl ?_
    | refine RunO.load 4 rfl rfl rfl rfl rfl rfl ?_
    | refine RunO.indexAddr rfl rfl rfl rfl rfl (by omega) rfl rfl rfl ?_
    | refine RunO.box rfl rfl rfl rfl rfl rfl (fun _ => ?_)
    | refine RunO.alloc rfl rfl rfl rfl rfl rfl (fun _ => ?_)
    | refine RunO.store 0 rfl rfl rfl rfl rfl rfl (by decide) (by decide) rfl rfl ?_
    | refine RunO.store 1 rfl rfl rfl rfl rfl rfl (by decide) (by decide) rfl rfl ?_
    | refine RunO.store 2 rfl rfl rfl rfl rfl rfl (by decide) (by decide) rfl rfl ?_
    | refine RunO.store 3 rfl rfl rfl rfl rfl rfl (by decide) (by decide) rfl rfl ?_
    | refine RunO.store 4 rfl rfl rfl rfl rfl rfl (by decide) (by decide) rfl rfl ?_
    | refine RunO.cmpT rfl (fun _ => rfl) rfl rfl (by omega) ?_
    | refine RunO.cmpF rfl (fun _ => rfl) rfl rfl (by omega) ?_
    | refine RunO.cmp rfl (fun _ => rfl) rfl rfl (fun _ => ?_) (fun _ => ?_)
    | refine RunO.bin rfl rfl rfl (fun _ _ => rfl) (IntWalk.i64_in _ (by omega)) rfl rfl ?_
    | refine RunO.conv rfl rfl rfl rfl (IntWalk.i64_in _ (by omega)) rfl rfl ?_
    | refine RunO.bin rfl rfl rfl (fun _ _ => rfl) (IntWalk.i32_in _ (by omega)) rfl rfl ?_
    | refine RunO.conv rfl rfl rfl rfl (IntWalk.i32_in _ (by omega)) rfl rfl ?_
    | refine RunO.bin rfl rfl rfl (fun _ _ => rfl) (IntWalk.u8_in _ (by omega)) rfl rfl ?_
    | refine RunO.conv rfl rfl rfl rfl (IntWalk.u8_in _ (by omega)) rfl rfl ?_
    | refine RunO.bin rfl rfl rfl (fun _ _ => rfl) (IntWalk.u64_in _ (by omega)) rfl rfl ?_
    | refine RunO.conv rfl rfl rfl rfl (IntWalk.u64_in _ (by omega)) rfl rfl ?_
    | refine RunO.bin rfl rfl rfl (fun _ _ => rfl) (IntWalk.u32_in _ (by omega)) rfl rfl ?_
    | refine RunO.conv rfl rfl rfl rfl (IntWalk.u32_in _ (by omega)) rfl rfl ?_
    | refine RunO.bin rfl rfl rfl (fun _ _ => rfl) (IntWalk.u16_in _ (by omega)) rfl rfl ?_
    | refine RunO.conv rfl rfl rfl rfl (IntWalk.u16_in _ (by omega)) rfl rfl ?_
    | refine RunO.val rfl (fun _ => rfl) rfl rfl ?_
    | refine RunO.no rfl rfl rfl ?_
    | refine RunQ.nil ?_
    | refine RunQ.move rfl rfl rfl rfl ?_
    | refine RunQ.assign rfl rfl rfl rfl ?_
    | refine RunQ.load 0 rfl rfl rfl rfl rfl rfl ?_
    | refine RunQ.load 1 rfl rfl rfl rfl rfl rfl ?_
    | refine RunQ.load 2 rfl rfl rfl rfl rfl rfl ?_
    | refine RunQ.load 3 rfl rfl rfl rfl rfl rfl ?_
    | refine RunQ.load 4 rfl rfl rfl rfl rfl rfl ?_
    | refine RunQ.indexAddr rfl rfl rfl rfl rfl (by omega) rfl rfl rfl ?_
    | refine RunQ.cmpT rfl (fun _ => rfl) rfl rfl (by omega) ?_
    | refine RunQ.cmpF rfl (fun _ => rfl) rfl rfl (by omega) ?_
    | refine RunQ.cmp rfl (fun _ => rfl) rfl rfl (fun _ => ?_) (fun _ => ?_)
    | refine RunQ.bin rfl rfl rfl (fun _ _ => rfl) (IntWalk.i64_in _ (by omega)) rfl rfl ?_
    | refine RunQ.conv rfl rfl rfl rfl (IntWalk.i64_in _ (by omega)) rfl rfl ?_
    | refine RunQ.bin rfl rfl rfl (fun _ _ => rfl) (IntWalk.i32_in _ (by omega)) rfl rfl ?_
    | refine RunQ.conv rfl rfl rfl rfl (IntWalk.i32_in _ (by omega)) rfl rfl ?_
    | refine RunQ.bin rfl rfl rfl (fun _ _ => rfl) (IntWalk.u8_in _ (by omega)) rfl rfl ?_
    | refine RunQ.conv rfl rfl rfl rfl (IntWalk.u8_in _ (by omega)) rfl rfl ?_
    | refine RunQ.bin rfl rfl rfl (fun _ _ => rfl) (IntWalk.u64_in _ (by omega)) rfl rfl ?_
    | refine RunQ.conv rfl rfl rfl rfl (IntWalk.u64_in _ (by omega)) rfl rfl ?_
    | refine RunQ.bin rfl rfl rfl (fun _ _ => rfl) (IntWalk.u32_in _ (by omega)) rfl rfl ?_
    | refine RunQ.conv rfl rfl rfl rfl (IntWalk.u32_in _ (by omega)) rfl rfl ?_
    | refine RunQ.bin rfl rfl rfl (fun _ _ => rfl) (IntWalk.u16_in _ (by omega)) rfl rfl ?_
    | refine RunQ.conv rfl rfl rfl rfl (IntWalk.u16_in _ (by omega)) rfl rfl ?_
    | refine RunQ.val rfl rfl (fun _ => rfl) rfl rfl ?_
    | refine RunQ.no rfl rfl rfl ?_)
  refine Run.loop (fun a : Nat × Nat => a.1 ≤ a.2 ∧ a.2 ≤ l.length ∧ (∀ i s, l[i]? = some s → i < a.1 → s.2 < x) ∧ (∀ i s, l[i]? = some s → a.2 ≤ i → ¬ s.2 < x)) (headS k l x cp e m fz) (fun a => a.2 - a.1) (0, l.length) ?_ ?_ ?_
  · refine ⟨Nat.zero_le _, Nat.le_refl _, fun _ _ _ h => absurd h (Nat.not_lt_zero _), fun i s h hi => ?_⟩
    have := (List.getElem?_eq_some_iff.mp h).1
    omega
  · exact ⟨⟨rfl, rfl, rfl, rfl, rfl, rfl, trivial⟩, .refl _, rfl⟩
  · rintro ⟨i, j⟩ ⟨h1, h2, h3, h4⟩
    unfold headS
    dsimp only at h1 h2 h3 h4 ⊢
    repeat' (first
      | refine Run.seq ?_
      | refine Run.region rfl ?_
      | refine Run.drawn rfl rfl rfl ?_
      | refine Run.block ?_
      | refine Run.condT rfl ?_
      | refine Run.condF rfl ?_
      | refine Run.skip ?_
      | refine Run.ret ?_
      | refine Run.exit ?_
      | refine Run.label ?_
      | refine Done.seq ?_
      | refine Done.seqE ?_
      | refine Done.seqR ?_
      | refine Done.blockN ?_
      | refine Done.blockR ?_
      | refine Done.hit ?_
      | refine Done.miss rfl ?_
      | refine Done.invE ?_
      | refine Done.invR ?_
      | refine RunO.bin rfl rfl rfl (fun _ _ => rfl) (shr1 _ (by decide)) rfl rfl ?_
      | refine RunO.nil ?_
      | refine RunO.move rfl rfl rfl rfl ?_
      | refine RunO.assign rfl rfl rfl rfl ?_
      | refine RunO.load 0 rfl rfl rfl rfl rfl rfl ?_
      | refine RunO.load 1 rfl rfl rfl rfl rfl rfl ?_
      | refine RunO.load 2 rfl rfl rfl rfl rfl rfl ?_
      | refine RunO.load 3 rfl rfl rfl rfl rfl rfl ?_
      | refine RunO.load 4 rfl rfl rfl rfl rfl rfl ?_
      | refine RunO.indexAddr rfl rfl rfl rfl rfl (by omega) rfl rfl rfl ?_
      | refine RunO.box rfl rfl rfl rfl rfl rfl (fun _ => ?_)
      | refine RunO.alloc rfl rfl rfl rfl rfl rfl (fun _ => ?_)
      | refine RunO.store 0 rfl rfl rfl rfl rfl rfl (by decide) (by decide) rfl rfl ?_
      | refine RunO.store 1 rfl rfl rfl rfl rfl rfl (by decide) (by decide) rfl rfl ?_
      | refine RunO.store 2 rfl rfl rfl rfl rfl rfl (by decide) (by decide) rfl rfl ?_
      | refine RunO.store 3 rfl rfl rfl rfl rfl rfl (by decide) (by decide) rfl rfl ?_
      | refine RunO.store 4 rfl rfl rfl rfl rfl rfl (by decide) (by decide) rfl rfl ?_
      | refine RunO.cmpT rfl (fun _ => rfl) rfl rfl (by omega) ?_
      | refine RunO.cmpF rfl (fun _ => rfl) rfl rfl (by omega) ?_
      | refine RunO.cmp rfl (fun _ => rfl) rfl rfl (fun _ => ?_) (fun _ => ?_)
      | refine RunO.bin rfl rfl rfl (fun _ _ => rfl) (IntWalk.i64_in _ (by omega)) rfl rfl ?_
      | refine RunO.conv rfl rfl rfl rfl (IntWalk.i64_in _ (by omega)) rfl rfl ?_
      | refine RunO.bin rfl rfl rfl (fun _ _ => rfl) (IntWalk.i32_in _ (by omega)) rfl rfl ?_
      | refine RunO.conv rfl rfl rfl rfl (IntWalk.i32_in _ (by omega)) rfl rfl ?_
      | refine RunO.bin rfl rfl rfl (fun _ _ => rfl) (IntWalk.u8_in _ (by omega)) rfl rfl ?_
      | refine RunO.conv rfl rfl rfl rfl (IntWalk.u8_in _ (by omega)) rfl rfl ?_
      | refine RunO.bin rfl rfl rfl (fun _ _ => rfl) (IntWalk.u64_in _ (by omega)) rfl rfl ?_
      | refine RunO.conv rfl rfl rfl rfl (IntWalk.u64_in _ (by omega)) rfl rfl ?_
      | refine RunO.bin rfl rfl rfl (fun _ _ => rfl) (IntWalk.u32_in _ (by omega)) rfl rfl ?_
      | refine RunO.conv rfl rfl rfl rfl (IntWalk.u32_in _ (by omega)) rfl rfl ?_
      | refine RunO.bin rfl rfl rfl (fun _ _ => rfl) (IntWalk.u16_in _ (by omega)) rfl rfl ?_
      | refine RunO.conv rfl rfl rfl rfl (IntWalk.u16_in _ (by omega)) rfl rfl ?_
      | refine RunO.val rfl (fun _ => rfl) rfl rfl ?_
      | refine RunO.no rfl rfl rfl ?_
      | refine RunQ.nil ?_
      | refine RunQ.move rfl rfl rfl rfl ?_
      | refine RunQ.assign rfl rfl rfl rfl ?_
      | refine RunQ.load 0 rfl rfl rfl rfl rfl rfl ?_
      | refine RunQ.load 1 rfl rfl rfl rfl rfl rfl ?_
      | refine RunQ.load 2 rfl rfl rfl rfl rfl rfl ?_
      | refine RunQ.load 3 rfl rfl rfl rfl rfl rfl ?_
      | refine RunQ.load 4 rfl rfl rfl rfl rfl rfl ?_
      | refine RunQ.indexAddr rfl rfl rfl rfl rfl (by omega) rfl rfl rfl ?_
      | refine RunQ.cmpT rfl (fun _ => rfl) rfl rfl (by omega) ?_
      | refine RunQ.cmpF rfl (fun _ => rfl) rfl rfl (by omega) ?_
      | refine RunQ.cmp rfl (fun _ => rfl) rfl rfl (fun _ => ?_) (fun _ => ?_)
      | refine RunQ.bin rfl rfl rfl (fun _ _ => rfl) (IntWalk.i64_in _ (by omega)) rfl rfl ?_
      | refine RunQ.conv rfl rfl rfl rfl (IntWalk.i64_in _ (by omega)) rfl rfl ?_
      | refine RunQ.bin rfl rfl rfl (fun _ _ => rfl) (IntWalk.i32_in _ (by omega)) rfl rfl ?_
      | refine RunQ.conv rfl rfl rfl rfl (IntWalk.i32_in _ (by omega)) rfl rfl ?_
      | refine RunQ.bin rfl rfl rfl (fun _ _ => rfl) (IntWalk.u8_in _ (by omega)) rfl rfl ?_
      | refine RunQ.conv rfl rfl rfl rfl (IntWalk.u8_in _ (by omega)) rfl rfl ?_
      | refine RunQ.bin rfl rfl rfl (fun _ _ => rfl) (IntWalk.u64_in _ (by omega)) rfl rfl ?_
      | refine RunQ.conv rfl rfl rfl rfl (IntWalk.u64_in _ (by omega)) rfl rfl ?_
      | refine RunQ.bin rfl rfl rfl (fun _ _ => rfl) (IntWalk.u32_in _ (by omega)) rfl rfl ?_
      | refine RunQ.conv rfl rfl rfl rfl (IntWalk.u32_in _ (by omega)) rfl rfl ?_
      | refine RunQ.bin rfl rfl rfl (fun _ _ => rfl) (IntWalk.u16_in _ (by omega)) rfl rfl ?_
      | refine RunQ.conv rfl rfl rfl rfl (IntWalk.u16_in _ (by omega)) rfl rfl ?_
      | refine RunQ.val rfl rfl (fun _ => rfl) rfl rfl ?_
      | refine RunQ.no rfl rfl rfl ?_)
    · obtain ⟨s, hs⟩ : ∃ s, l[(((i : Int) + j) / 2).toNat]? = some s := ⟨_, List.getElem?_eq_getElem (by omega)⟩
      refine RunO.load 0 rfl rfl rfl (flat_load l _ _ hs) rfl rfl ?_
      repeat' (first
        | refine Run.seq ?_
        | refine Run.region rfl ?_
        | refine Run.drawn rfl rfl rfl ?_
        | refine Run.block ?_
        | refine Run.condT rfl ?_
        | refine Run.condF rfl ?_
        | refine Run.skip ?_
        | refine Run.ret ?_
        | refine Run.exit ?_
        | refine Run.label ?_
        | refine Done.seq ?_
        | refine Done.seqE ?_
        | refine Done.seqR ?_
        | refine Done.blockN ?_
        | refine Done.blockR ?_
        | refine Done.hit ?_
        | refine Done.miss rfl ?_
        | refine Done.invE ?_
        | refine Done.invR ?_
        | refine RunO.pure rfl (fun _ => rfl) rfl rfl (fun _ _ => f21_ok _ _ _ _) ?_
        | refine RunO.nil ?_
        | refine RunO.move rfl rfl rfl rfl ?_
        | refine RunO.assign rfl rfl rfl rfl ?_
        | refine RunO.load 0 rfl rfl rfl rfl rfl rfl ?_
        | refine RunO.load 1 rfl rfl rfl rfl rfl rfl ?_
        | refine RunO.load 2 rfl rfl rfl rfl rfl rfl ?_
        | refine RunO.load 3 rfl rfl rfl rfl rfl rfl ?_
        | refine RunO.load 4 rfl rfl rfl rfl rfl rfl ?_
        | refine RunO.indexAddr rfl rfl rfl rfl rfl (by omega) rfl rfl rfl ?_
        | refine RunO.box rfl rfl rfl rfl rfl rfl (fun _ => ?_)
        | refine RunO.alloc rfl rfl rfl rfl rfl rfl (fun _ => ?_)
        | refine RunO.store 0 rfl rfl rfl rfl rfl rfl (by decide) (by decide) rfl rfl ?_
        | refine RunO.store 1 rfl rfl rfl rfl rfl rfl (by decide) (by decide) rfl rfl ?_
        | refine RunO.store 2 rfl rfl rfl rfl rfl rfl (by decide) (by decide) rfl rfl ?_
        | refine RunO.store 3 rfl rfl rfl rfl rfl rfl (by decide) (by decide) rfl rfl ?_
        | refine RunO.store 4 rfl rfl rfl rfl rfl rfl (by decide) (by decide) rfl rfl ?_
        | refine RunO.cmpT rfl (fun _ => rfl) rfl rfl (by omega) ?_
        | refine RunO.cmpF rfl (fun _ => rfl) rfl rfl (by omega) ?_
        | refine RunO.cmp rfl (fun _ => rfl) rfl rfl (fun _ => ?_) (fun _ => ?_)
        | refine RunO.bin rfl rfl rfl (fun _ _ => rfl) (IntWalk.i64_in _ (by omega)) rfl rfl ?_
        | refine RunO.conv rfl rfl rfl rfl (IntWalk.i64_in _ (by omega)) rfl rfl ?_
        | refine RunO.bin rfl rfl rfl (fun _ _ => rfl) (IntWalk.i32_in _ (by omega)) rfl rfl ?_
        | refine RunO.conv rfl rfl rfl rfl (IntWalk.i32_in _ (by omega)) rfl rfl ?_
        | refine RunO.bin rfl rfl rfl (fun _ _ => rfl) (IntWalk.u8_in _ (by omega)) rfl rfl ?_
        | refine RunO.conv rfl rfl rfl rfl (IntWalk.u8_in _ (by omega)) rfl rfl ?_
        | refine RunO.bin rfl rfl rfl (fun _ _ => rfl) (IntWalk.u64_in _ (by omega)) rfl rfl ?_
        | refine RunO.conv rfl rfl rfl rfl (IntWalk.u64_in _ (by omega)) rfl rfl ?_
        | refine RunO.bin rfl rfl rfl (fun _ _ => rfl) (IntWalk.u32_in _ (by omega)) rfl rfl ?_
        | refine RunO.conv rfl rfl rfl rfl (IntWalk.u32_in _ (by omega)) rfl rfl ?_
        | refine RunO.bin rfl rfl rfl (fun _ _ => rfl) (IntWalk.u16_in _ (by omega)) rfl rfl ?_
        | refine RunO.conv rfl rfl rfl rfl (IntWalk.u16_in _ (by omega)) rfl rfl ?_
        | refine RunO.val rfl (fun _ => rfl) rfl rfl ?_
        | refine RunO.no rfl rfl rfl ?_
        | refine RunQ.nil ?_
        | refine RunQ.move rfl rfl rfl rfl ?_
        | refine RunQ.assign rfl rfl rfl rfl ?_
        | refine RunQ.load 0 rfl rfl rfl rfl rfl rfl ?_
        | refine RunQ.load 1 rfl rfl rfl rfl rfl rfl ?_
        | refine RunQ.load 2 rfl rfl rfl rfl rfl rfl ?_
        | refine RunQ.load 3 rfl rfl rfl rfl rfl rfl ?_
        | refine RunQ.load 4 rfl rfl rfl rfl rfl rfl ?_
        | refine RunQ.indexAddr rfl rfl rfl rfl rfl (by omega) rfl rfl rfl ?_
        | refine RunQ.cmpT rfl (fun _ => rfl) rfl rfl (by omega) ?_
        | refine RunQ.cmpF rfl (fun _ => rfl) rfl rfl (by omega) ?_
        | refine RunQ.cmp rfl (fun _ => rfl) rfl rfl (fun _ => ?_) (fun _ => ?_)
        | refine RunQ.bin rfl rfl rfl (fun _ _ => rfl) (IntWalk.i64_in _ (by omega)) rfl rfl ?_
        | refine RunQ.conv rfl rfl rfl rfl (IntWalk.i64_in _ (by omega)) rfl rfl ?_
        | refine RunQ.bin rfl rfl rfl (fun _ _ => rfl) (IntWalk.i32_in _ (by omega)) rfl rfl ?_
        | refine RunQ.conv rfl rfl rfl rfl (IntWalk.i32_in _ (by omega)) rfl rfl ?_
        | refine RunQ.bin rfl rfl rfl (fun _ _ => rfl) (IntWalk.u8_in _ (by omega)) rfl rfl ?_
        | refine RunQ.conv rfl rfl rfl rfl (IntWalk.u8_in _ (by omega)) rfl rfl ?_
        | refine RunQ.bin rfl rfl rfl (fun _ _ => rfl) (IntWalk.u64_in _ (by omega)) rfl rfl ?_
        | refine RunQ.conv rfl rfl rfl rfl (IntWalk.u64_in _ (by omega)) rfl rfl ?_
        | refine RunQ.bin rfl rfl rfl (fun _ _ => rfl) (IntWalk.u32_in _ (by omega)) rfl rfl ?_
        | refine RunQ.conv rfl rfl rfl rfl (IntWalk.u32_in _ (by omega)) rfl rfl ?_
        | refine RunQ.bin rfl rfl rfl (fun _ _ => rfl) (IntWalk.u16_in _ (by omega)) rfl rfl ?_
        | refine RunQ.conv rfl rfl rfl rfl (IntWalk.u16_in _ (by omega)) rfl rfl ?_
        | refine RunQ.val rfl rfl (fun _ => rfl) rfl rfl ?_
        | refine RunQ.no rfl rfl rfl ?_)
      · rename_i hc
        refine Done.inv (((((i : Int) + j) / 2).toNat + 1 : Nat), j) ⟨by dsimp only; omega, h2, fun i' s' h' hi' => ?_, h4⟩ (by dsimp only; omega) ⟨⟨?_, rfl, rfl, rfl, rfl, rfl, trivial⟩, .refl _, rfl⟩
        · dsimp only at hi'
          by_cases e : i' = (((i : Int) + j) / 2).toNat
          · subst e; rw [hs] at h'; cases h'; exact cmp_neg.mp hc
          · have := hr.2 i' _ s' s h' hs (by omega); have := hr.1 _ s hs; have := cmp_neg.mp hc; omega
        · show some _ = some _
          congr 2 <;> omega
      · rename_i hc
        refine Done.inv (i, (((i : Int) + j) / 2).toNat) ⟨by dsimp only; omega, by dsimp only; omega, h3, fun i' s' h' hi' => ?_⟩ (by dsimp only; omega) ⟨⟨rfl, ?_, rfl, rfl, rfl, rfl, trivial⟩, .refl _, rfl⟩
        · dsimp only at hi'
          by_cases e : i' = (((i : Int) + j) / 2).toNat
          · subst e; rw [hs] at h'; cases h'; exact fun h => hc (cmp_neg.mpr h)
          · have := hr.2 _ i' s s' hs h' (by omega); have := hr.1 _ s' h'; have := mt cmp_neg.mpr hc; omega
        · show some _ = some _
          congr 2 <;> omega
    · obtain ⟨s, hs⟩ : ∃ s, l[((i : Int)).toNat]? = some s := ⟨_, List.getElem?_eq_getElem (by omega)⟩
      refine RunO.load 0 rfl rfl rfl (flat_load l _ _ hs) rfl rfl ?_
      repeat' (first
        | refine Run.seq ?_
        | refine Run.region rfl ?_
        | refine Run.drawn rfl rfl rfl ?_
        | refine Run.block ?_
        | refine Run.condT rfl ?_
        | refine Run.condF rfl ?_
        | refine Run.skip ?_
        | refine Run.ret ?_
        | refine Run.exit ?_
        | refine Run.label ?_
        | refine Done.seq ?_
        | refine Done.seqE ?_
        | refine Done.seqR ?_
        | refine Done.blockN ?_
        | refine Done.blockR ?_
        | refine Done.hit ?_
        | refine Done.miss rfl ?_
        | refine Done.invE ?_
        | refine Done.invR ?_
        | refine RunO.pure rfl (fun _ => rfl) rfl rfl (fun _ _ => f21_ok _ _ _ _) ?_
        | refine RunO.nil ?_
        | refine RunO.move rfl rfl rfl rfl ?_
        | refine RunO.assign rfl rfl rfl rfl ?_
        | refine RunO.load 0 rfl rfl rfl rfl rfl rfl ?_
        | refine RunO.load 1 rfl rfl rfl rfl rfl rfl ?_
        | refine RunO.load 2 rfl rfl rfl rfl rfl rfl ?_
        | refine RunO.load 3 rfl rfl rfl rfl rfl rfl ?_
        | refine RunO.load 4 rfl rfl rfl rfl rfl rfl ?_
        | refine RunO.indexAddr rfl rfl rfl rfl rfl (by omega) rfl rfl rfl ?_
        | refine RunO.box rfl rfl rfl rfl rfl rfl (fun _ => ?_)
        | refine RunO.alloc rfl rfl rfl rfl rfl rfl (fun _ => ?_)
        | refine RunO.store 0 rfl rfl rfl rfl rfl rfl (by decide) (by decide) rfl rfl ?_
        | refine RunO.store 1 rfl rfl rfl rfl rfl rfl (by decide) (by decide) rfl rfl ?_
        | refine RunO.store 2 rfl rfl rfl rfl rfl rfl (by decide) (by decide) rfl rfl ?_
        | refine RunO.store 3 rfl rfl rfl rfl rfl rfl (by decide) (by decide) rfl rfl ?_
        | refine RunO.store 4 rfl rfl rfl rfl rfl rfl (by decide) (by decide) rfl rfl ?_
        | refine RunO.cmpT rfl (fun _ => rfl) rfl rfl (by omega) ?_
        | refine RunO.cmpF rfl (fun _ => rfl) rfl rfl (by omega) ?_
        | refine RunO.cmp rfl (fun _ => rfl) rfl rfl (fun _ => ?_) (fun _ => ?_)
        | refine RunO.bin rfl rfl rfl (fun _ _ => rfl) (IntWalk.i64_in _ (by omega)) rfl rfl ?_
        | refine RunO.conv rfl rfl rfl rfl (IntWalk.i64_in _ (by omega)) rfl rfl ?_
        | refine RunO.bin rfl rfl rfl (fun _ _ => rfl) (IntWalk.i32_in _ (by omega)) rfl rfl ?_
        | refine RunO.conv rfl rfl rfl rfl (IntWalk.i32_in _ (by omega)) rfl rfl ?_
        | refine RunO.bin rfl rfl rfl (fun _ _ => rfl) (IntWalk.u8_in _ (by omega)) rfl rfl ?_
        | refine RunO.conv rfl rfl rfl rfl (IntWalk.u8_in _ (by omega)) rfl rfl ?_
        | refine RunO.bin rfl rfl rfl (fun _ _ => rfl) (IntWalk.u64_in _ (by omega)) rfl rfl ?_
        | refine RunO.conv rfl rfl rfl rfl (IntWalk.u64_in _ (by omega)) rfl rfl ?_
        | refine RunO.bin rfl rfl rfl (fun _ _ => rfl) (IntWalk.u32_in _ (by omega)) rfl rfl ?_
        | refine RunO.conv rfl rfl rfl rfl (IntWalk.u32_in _ (by omega)) rfl rfl ?_
        | refine RunO.bin rfl rfl rfl (fun _ _ => rfl) (IntWalk.u16_in _ (by omega)) rfl rfl ?_
        | refine RunO.conv rfl rfl rfl rfl (IntWalk.u16_in _ (by omega)) rfl rfl ?_
        | refine RunO.val rfl (fun _ => rfl) rfl rfl ?_
        | refine RunO.no rfl rfl rfl ?_
        | refine RunQ.nil ?_
        | refine RunQ.move rfl rfl rfl rfl ?_
        | refine RunQ.assign rfl rfl rfl rfl ?_
        | refine RunQ.load 0 rfl rfl rfl rfl rfl rfl ?_
        | refine RunQ.load 1 rfl rfl rfl rfl rfl rfl ?_
        | refine RunQ.load 2 rfl rfl rfl rfl rfl rfl ?_
        | refine RunQ.load 3 rfl rfl rfl rfl rfl rfl ?_
        | refine RunQ.load 4 rfl rfl rfl rfl rfl rfl ?_
        | refine RunQ.indexAddr rfl rfl rfl rfl rfl (by omega) rfl rfl rfl ?_
        | refine RunQ.cmpT rfl (fun _ => rfl) rfl rfl (by omega) ?_
        | refine RunQ.cmpF rfl (fun _ => rfl) rfl rfl (by omega) ?_
        | refine RunQ.cmp rfl (fun _ => rfl) rfl rfl (fun _ => ?_) (fun _ => ?_)
        | refine RunQ.bin rfl rfl rfl (fun _ _ => rfl) (IntWalk.i64_in _ (by omega)) rfl rfl ?_
        | refine RunQ.conv rfl rfl rfl rfl (IntWalk.i64_in _ (by omega)) rfl rfl ?_
        | refine RunQ.bin rfl rfl rfl (fun _ _ => rfl) (IntWalk.i32_in _ (by omega)) rfl rfl ?_
        | refine RunQ.conv rfl rfl rfl rfl (IntWalk.i32_in _ (by omega)) rfl rfl ?_
        | refine RunQ.bin rfl rfl rfl (fun _ _ => rfl) (IntWalk.u8_in _ (by omega)) rfl rfl ?_
        | refine RunQ.conv rfl rfl rfl rfl (IntWalk.u8_in _ (by omega)) rfl rfl ?_
        | refine RunQ.bin rfl rfl rfl (fun _ _ => rfl) (IntWalk.u64_in _ (by omega)) rfl rfl ?_
        | refine RunQ.conv rfl rfl rfl rfl (IntWalk.u64_in _ (by omega)) rfl rfl ?_
        | refine RunQ.bin rfl rfl rfl (fun _ _ => rfl) (IntWalk.u32_in _ (by omega)) rfl rfl ?_
        | refine RunQ.conv rfl rfl rfl rfl (IntWalk.u32_in _ (by omega)) rfl rfl ?_
        | refine RunQ.bin rfl rfl rfl (fun _ _ => rfl) (IntWalk.u16_in _ (by omega)) rfl rfl ?_
        | refine RunQ.conv rfl rfl rfl rfl (IntWalk.u16_in _ (by omega)) rfl rfl ?_
        | refine RunQ.val rfl rfl (fun _ => rfl) rfl rfl ?_
        | refine RunQ.no rfl rfl rfl ?_)
      · rename_i hc
        refine Done.pureP (.inr rfl) (fun _ => rfl) rfl rfl ⟨i, ?_⟩
        rw [isIn_of hs (cmp_zero.mp hc).2 (cmp_zero.mp hc).1]
        rfl
      · rename_i hc
        refine Done.pureP (.inr rfl) (fun _ => rfl) rfl rfl ⟨i, ?_⟩
        rw [not_isIn i hr h3 (fun u hu => ?_)]
        · rfl
        · have hs' : l[i]? = some s := by simpa using hs
          rw [hs'] at hu; cases hu
          have := h4 i s hs' (by omega)
          have := mt cmp_zero.mpr hc
          omega
    · refine Done.pureP (.inr rfl) (fun _ => rfl) rfl rfl ⟨i, ?_⟩
      rw [not_isIn i hr h3 (fun u hu => ?_)]
      · rfl
      · have := (List.getElem?_eq_some_iff.mp hu).1
        omega

end Go.Proofs.Ytigfncnlhccaeaa

/-
  width.Of: what it answers for each number.
-/
namespace Go.Proofs.Ytigfncnlhccaeaa
open Go Go.Am

def hiddenL : List (Int × Int) := [(-2147483648, 31), (127, 159), (55296, 57343), (1114112, 2147483647)]
def marksL : List (Int × Int) := [
  (0x300, 0x36f), (0x483, 0x489), (0x591, 0x5bd), (0x5bf, 0x5bf), (0x5c1, 0x5c2), (0x5c4, 0x5c5), (0x5c7, 0x5c7),
  (0x610, 0x61a), (0x64b, 0x65f), (0x670, 0x670), (0x6d6, 0x6dc), (0x6df, 0x6e4), (0x6e7, 0x6e8), (0x6ea, 0x6ed),
  (0x711, 0x711), (0x730, 0x74a), (0x7a6, 0x7b0), (0xe31, 0xe31), (0xe34, 0xe3a), (0xe47, 0xe4e),
  (0x1ab0, 0x1ace), (0x1dc0, 0x1dff), (0x200b, 0x200f), (0x202a, 0x202e), (0x2060, 0x2064), (0x20d0, 0x20f0),
  (0x302a, 0x302d), (0x3099, 0x309a), (0xfe00, 0xfe0f), (0xfe20, 0xfe2f), (0xfeff, 0xfeff), (0xe0100, 0xe01ef)]
def widesL : List (Int × Int) := [
  (0x1100, 0x115f), (0x2329, 0x232a), (0x2e80, 0x303e), (0x3041, 0x4dbf), (0x4e00, 0xa4c6), (0xac00, 0xd7a3),
  (0xf900, 0xfaff), (0xfe10, 0xfe19), (0xfe30, 0xfe6f), (0xff01, 0xff60), (0xffe0, 0xffe6),
  (0x1f300, 0x1f64f), (0x1f900, 0x1f9ff), (0x20000, 0x2fffd), (0x30000, 0x3fffd)]

def risingB : List (Int × Int) → Bool
  | [] => true
  | s :: r => decide (s.1 ≤ s.2) && r.all (fun u => decide (s.2 < u.1)) && risingB r

theorem rising_of : ∀ {l : List (Int × Int)}, risingB l = true → Rising l
  | [], _ => ⟨fun i s h => by simp at h, fun i j s u h => by simp at h⟩
  | a :: r, h => by
    simp only [risingB, Bool.and_eq_true, decide_eq_true_eq, List.all_eq_true] at h
    obtain ⟨⟨h1, h2⟩, h3⟩ := h
    have ih := rising_of h3
    refine ⟨fun i s hs => ?_, fun i j s u hs hu hij => ?_⟩
    · cases i with
      | zero => simp at hs; subst hs; exact h1
      | succ i => exact ih.1 i s (by simpa using hs)
    · cases j with
      | zero => omega
      | succ j =>
        have hu' : r[j]? = some u := by simpa using hu
        cases i with
        | zero => simp at hs; subst hs; exact h2 u (List.mem_of_getElem? hu')
        | succ i => exact ih.2 i j s u (by simpa using hs) hu' (by omega)

theorem hidden_rising : Rising hiddenL := rising_of (by decide)
theorem marks_rising : Rising marksL := rising_of (by decide)
theorem wides_rising : Rising widesL := rising_of (by decide)

set_option maxHeartbeats 2000000 in
theorem f14_ok (H : List AObj) : WPcall E 14 [] H (MakesB H (fun k => .slice k 0 4 (some 4)) (.cells (flat hiddenL) 34 .rw false)) := by
  refine WPcall.walk [] rfl Try.func14 rfl rfl rfl rfl (by simp [keysB]) (by simp) ?_
  repeat' (first
    | refine Run.seq ?_
    | refine Run.region rfl ?_
    | refine Run.drawn rfl rfl rfl ?_
    | refine Run.block ?_
    | refine Run.condT rfl ?_
    | refine Run.condF rfl ?_
    | refine Run.skip ?_
    | refine Run.ret ?_
    | refine Run.exit ?_
    | refine Run.label ?_
    | refine Done.seq ?_
    | refine Done.seqE ?_
    | refine Done.seqR ?_
    | refine Done.blockN ?_
    | refine Done.blockR ?_
    | refine Done.hit ?_
    | refine Done.miss rfl ?_
    | refine Done.invE ?_
    | refine Done.invR ?_
    | refine RunO.buildSlice (cs := flat hiddenL) rfl rfl rfl rfl rfl ⟨Nat.le_of_ble_eq_true rfl, rfl⟩ (by kernel_rfl) (by kernel_rfl) rfl rfl (fun k => ?_)
    | refine RunO.nil ?_
    | refine RunO.move rfl rfl rfl rfl ?_
    | refine RunO.assign rfl rfl rfl rfl ?_
    | refine RunO.load 0 rfl rfl rfl rfl rfl rfl ?_
    | refine RunO.load 1 rfl rfl rfl rfl rfl rfl ?_
    | refine RunO.load 2 rfl rfl rfl rfl rfl rfl ?_
    | refine RunO.load 3 rfl rfl rfl rfl rfl rfl ?_
    | refine RunO.load 4 rfl rfl rfl rfl rfl rfl ?_
    | refine RunO.indexAddr rfl rfl rfl rfl rfl (by omega) rfl rfl rfl ?_
    | refine RunO.box rfl rfl rfl rfl rfl rfl (fun _ => ?_)
    | refine RunO.alloc rfl rfl rfl rfl rfl rfl (fun _ => ?_)
    | refine RunO.store 0 rfl rfl rfl rfl rfl rfl (by decide) (by decide) rfl rfl ?_
    | refine RunO.store 1 rfl rfl rfl rfl rfl rfl (by decide) (by decide) rfl rfl ?_
    | refine RunO.store 2 rfl rfl rfl rfl rfl rfl (by decide) (by decide) rfl rfl ?_
    | refine RunO.store 3 rfl rfl rfl rfl rfl rfl (by decide) (by decide) rfl rfl ?_
    | refine RunO.store 4 rfl rfl rfl rfl rfl rfl (by decide) (by decide) rfl rfl ?_
    | refine RunO.cmpT rfl (fun _ => rfl) rfl rfl (by omega) ?_
    | refine RunO.cmpF rfl (fun _ => rfl) rfl rfl (by omega) ?_
    | refine RunO.cmp rfl (fun _ => rfl) rfl rfl (fun _ => ?_) (fun _ => ?_)
    | refine RunO.bin rfl rfl rfl (fun _ _ => rfl) (IntWalk.i64_in _ (by omega)) rfl rfl ?_
    | refine RunO.conv rfl rfl rfl rfl (IntWalk.i64_in _ (by omega)) rfl rfl ?_
    | refine RunO.bin rfl rfl rfl (fun _ _ => rfl) (IntWalk.i32_in _ (by omega)) rfl rfl ?_
    | refine RunO.conv rfl rfl rfl rfl (IntWalk.i32_in _ (by omega)) rfl rfl ?_
    | refine RunO.bin rfl rfl rfl (fun _ _ => rfl) (IntWalk.u8_in _ (by omega)) rfl rfl ?_
    | refine RunO.conv rfl rfl rfl rfl (IntWalk.u8_in _ (by omega)) rfl rfl ?_
    | refine RunO.bin rfl rfl rfl (fun _ _ => rfl) (IntWalk.u64_in _ (by omega)) rfl rfl ?_
    | refine RunO.conv rfl rfl rfl rfl (IntWalk.u64_in _ (by omega)) rfl rfl ?_
    | refine RunO.bin rfl rfl rfl (fun _ _ => rfl) (IntWalk.u32_in _ (by omega)) rfl rfl ?_
    | refine RunO.conv rfl rfl rfl rfl (IntWalk.u32_in _ (by omega)) rfl rfl ?_
    | refine RunO.bin rfl rfl rfl (fun _ _ => rfl) (IntWalk.u16_in _ (by omega)) rfl rfl ?_
    | refine RunO.conv rfl rfl rfl rfl (IntWalk.u16_in _ (by omega)) rfl rfl ?_
    | refine RunO.val rfl (fun _ => rfl) rfl rfl ?_
    | refine RunO.no rfl rfl rfl ?_
    | refine RunQ.nil ?_
    | refine RunQ.move rfl rfl rfl rfl ?_
    | refine RunQ.assign rfl rfl rfl rfl ?_
    | refine RunQ.load 0 rfl rfl rfl rfl rfl rfl ?_
    | refine RunQ.load 1 rfl rfl rfl rfl rfl rfl ?_
    | refine RunQ.load 2 rfl rfl rfl rfl rfl rfl ?_
    | refine RunQ.load 3 rfl rfl rfl rfl rfl rfl ?_
    | refine RunQ.load 4 rfl rfl rfl rfl rfl rfl ?_
    | refine RunQ.indexAddr rfl rfl rfl rfl rfl (by omega) rfl rfl rfl ?_
    | refine RunQ.cmpT rfl (fun _ => rfl) rfl rfl (by omega) ?_
    | refine RunQ.cmpF rfl (fun _ => rfl) rfl rfl (by omega) ?_
    | refine RunQ.cmp rfl (fun _ => rfl) rfl rfl (fun _ => ?_) (fun _ => ?_)
    | refine RunQ.bin rfl rfl rfl (fun _ _ => rfl) (IntWalk.i64_in _ (by omega)) rfl rfl ?_
    | refine RunQ.conv rfl rfl rfl rfl (IntWalk.i64_in _ (by omega)) rfl rfl ?_
    | refine RunQ.bin rfl rfl rfl (fun _ _ => rfl) (IntWalk.i32_in _ (by omega)) rfl rfl ?_
    | refine RunQ.conv rfl rfl rfl rfl (IntWalk.i32_in _ (by omega)) rfl rfl ?_
    | refine RunQ.bin rfl rfl rfl (fun _ _ => rfl) (IntWalk.u8_in _ (by omega)) rfl rfl ?_
    | refine RunQ.conv rfl rfl rfl rfl (IntWalk.u8_in _ (by omega)) rfl rfl ?_
    | refine RunQ.bin rfl rfl rfl (fun _ _ => rfl) (IntWalk.u64_in _ (by omega)) rfl rfl ?_
    | refine RunQ.conv rfl rfl rfl rfl (IntWalk.u64_in _ (by omega)) rfl rfl ?_
    | refine RunQ.bin rfl rfl rfl (fun _ _ => rfl) (IntWalk.u32_in _ (by omega)) rfl rfl ?_
    | refine RunQ.conv rfl rfl rfl rfl (IntWalk.u32_in _ (by omega)) rfl rfl ?_
    | refine RunQ.bin rfl rfl rfl (fun _ _ => rfl) (IntWalk.u16_in _ (by omega)) rfl rfl ?_
    | refine RunQ.conv rfl rfl rfl rfl (IntWalk.u16_in _ (by omega)) rfl rfl ?_
    | refine RunQ.val rfl rfl (fun _ => rfl) rfl rfl ?_
    | refine RunQ.no rfl rfl rfl ?_)
  exact Done.makes 0 (.inr rfl) rfl (fun _ => rfl) rfl rfl

set_option maxHeartbeats 4000000 in
theorem f17_ok (H : List AObj) : WPcall E 17 [] H (MakesB H (fun k => .slice k 0 32 (some 32)) (.cells (flat marksL) 34 .rw false)) := by
  refine WPcall.walk [] rfl Try.func17 rfl rfl rfl rfl (by simp [keysB]) (by simp) ?_
  repeat' (first
    | refine Run.seq ?_
    | refine Run.region rfl ?_
    | refine Run.drawn rfl rfl rfl ?_
    | refine Run.block ?_
    | refine Run.condT rfl ?_
    | refine Run.condF rfl ?_
    | refine Run.skip ?_
    | refine Run.ret ?_
    | refine Run.exit ?_
    | refine Run.label ?_
    | refine Done.seq ?_
    | refine Done.seqE ?_
    | refine Done.seqR ?_
    | refine Done.blockN ?_
    | refine Done.blockR ?_
    | refine Done.hit ?_
    | refine Done.miss rfl ?_
    | refine Done.invE ?_
    | refine Done.invR ?_
    | refine RunO.buildSlice (cs := flat marksL) rfl rfl rfl rfl rfl ⟨Nat.le_of_ble_eq_true rfl, rfl⟩ (by kernel_rfl) (by kernel_rfl) rfl rfl (fun k => ?_)
    | refine RunO.nil ?_
    | refine RunO.move rfl rfl rfl rfl ?_
    | refine RunO.assign rfl rfl rfl rfl ?_
    | refine RunO.load 0 rfl rfl rfl rfl rfl rfl ?_
    | refine RunO.load 1 rfl rfl rfl rfl rfl rfl ?_
    | refine RunO.load 2 rfl rfl rfl rfl rfl rfl ?_
    | refine RunO.load 3 rfl rfl rfl rfl rfl rfl ?_
    | refine RunO.load 4 rfl rfl rfl rfl rfl rfl ?_
    | refine RunO.indexAddr rfl rfl rfl rfl rfl (by omega) rfl rfl rfl ?_
    | refine RunO.box rfl rfl rfl rfl rfl rfl (fun _ => ?_)
    | refine RunO.alloc rfl rfl rfl rfl rfl rfl (fun _ => ?_)
    | refine RunO.store 0 rfl rfl rfl rfl rfl rfl (by decide) (by decide) rfl rfl ?_
    | refine RunO.store 1 rfl rfl rfl rfl rfl rfl (by decide) (by decide) rfl rfl ?_
    | refine RunO.store 2 rfl rfl rfl rfl rfl rfl (by decide) (by decide) rfl rfl ?_
    | refine RunO.store 3 rfl rfl rfl rfl rfl rfl (by decide) (by decide) rfl rfl ?_
    | refine RunO.store 4 rfl rfl rfl rfl rfl rfl (by decide) (by decide) rfl rfl ?_
    | refine RunO.cmpT rfl (fun _ => rfl) rfl rfl (by omega) ?_
    | refine RunO.cmpF rfl (fun _ => rfl) rfl rfl (by omega) ?_
    | refine RunO.cmp rfl (fun _ => rfl) rfl rfl (fun _ => ?_) (fun _ => ?_)
    | refine RunO.bin rfl rfl rfl (fun _ _ => rfl) (IntWalk.i64_in _ (by omega)) rfl rfl ?_
    | refine RunO.conv rfl rfl rfl rfl (IntWalk.i64_in _ (by omega)) rfl rfl ?_
    | refine RunO.bin rfl rfl rfl (fun _ _ => rfl) (IntWalk.i32_in _ (by omega)) rfl rfl ?_
    | refine RunO.conv rfl rfl rfl rfl (IntWalk.i32_in _ (by omega)) rfl rfl ?_
    | refine RunO.bin rfl rfl rfl (fun _ _ => rfl) (IntWalk.u8_in _ (by omega)) rfl rfl ?_
    | refine RunO.conv rfl rfl rfl rfl (IntWalk.u8_in _ (by omega)) rfl rfl ?_
    | refine RunO.bin rfl rfl rfl (fun _ _ => rfl) (IntWalk.u64_in _ (by omega)) rfl rfl ?_
    | refine RunO.conv rfl rfl rfl rfl (IntWalk.u64_in _ (by omega)) rfl rfl ?_
    | refine RunO.bin rfl rfl rfl (fun _ _ => rfl) (IntWalk.u32_in _ (by omega)) rfl rfl ?_
    | refine RunO.conv rfl rfl rfl rfl (IntWalk.u32_in _ (by omega)) rfl rfl ?_
    | refine RunO.bin rfl rfl rfl (fun _ _ => rfl) (IntWalk.u16_in _ (by omega)) rfl rfl ?_
    | refine RunO.conv rfl rfl rfl rfl (IntWalk.u16_in _ (by omega)) rfl rfl ?_
    | refine RunO.val rfl (fun _ => rfl) rfl rfl ?_
    | refine RunO.no rfl rfl rfl ?_
    | refine RunQ.nil ?_
    | refine RunQ.move rfl rfl rfl rfl ?_
    | refine RunQ.assign rfl rfl rfl rfl ?_
    | refine RunQ.load 0 rfl rfl rfl rfl rfl rfl ?_
    | refine RunQ.load 1 rfl rfl rfl rfl rfl rfl ?_
    | refine RunQ.load 2 rfl rfl rfl rfl rfl rfl ?_
    | refine RunQ.load 3 rfl rfl rfl rfl rfl rfl ?_
    | refine RunQ.load 4 rfl rfl rfl rfl rfl rfl ?_
    | refine RunQ.indexAddr rfl rfl rfl rfl rfl (by omega) rfl rfl rfl ?_
    | refine RunQ.cmpT rfl (fun _ => rfl) rfl rfl (by omega) ?_
    | refine RunQ.cmpF rfl (fun _ => rfl) rfl rfl (by omega) ?_
    | refine RunQ.cmp rfl (fun _ => rfl) rfl rfl (fun _ => ?_) (fun _ => ?_)
    | refine RunQ.bin rfl rfl rfl (fun _ _ => rfl) (IntWalk.i64_in _ (by omega)) rfl rfl ?_
    | refine RunQ.conv rfl rfl rfl rfl (IntWalk.i64_in _ (by omega)) rfl rfl ?_
    | refine RunQ.bin rfl rfl rfl (fun _ _ => rfl) (IntWalk.i32_in _ (by omega)) rfl rfl ?_
    | refine RunQ.conv rfl rfl rfl rfl (IntWalk.i32_in _ (by omega)) rfl rfl ?_
    | refine RunQ.bin rfl rfl rfl (fun _ _ => rfl) (IntWalk.u8_in _ (by omega)) rfl rfl ?_
    | refine RunQ.conv rfl rfl rfl rfl (IntWalk.u8_in _ (by omega)) rfl rfl ?_
    | refine RunQ.bin rfl rfl rfl (fun _ _ => rfl) (IntWalk.u64_in _ (by omega)) rfl rfl ?_
    | refine RunQ.conv rfl rfl rfl rfl (IntWalk.u64_in _ (by omega)) rfl rfl ?_
    | refine RunQ.bin rfl rfl rfl (fun _ _ => rfl) (IntWalk.u32_in _ (by omega)) rfl rfl ?_
    | refine RunQ.conv rfl rfl rfl rfl (IntWalk.u32_in _ (by omega)) rfl rfl ?_
    | refine RunQ.bin rfl rfl rfl (fun _ _ => rfl) (IntWalk.u16_in _ (by omega)) rfl rfl ?_
    | refine RunQ.conv rfl rfl rfl rfl (IntWalk.u16_in _ (by omega)) rfl rfl ?_
    | refine RunQ.val rfl rfl (fun _ => rfl) rfl rfl ?_
    | refine RunQ.no rfl rfl rfl ?_)
  exact Done.makes 0 (.inr rfl) rfl (fun _ => rfl) rfl rfl

set_option maxHeartbeats 4000000 in
theorem f18_ok (H : List AObj) : WPcall E 18 [] H (MakesB H (fun k => .slice k 0 15 (some 15)) (.cells (flat widesL) 34 .rw false)) := by
  refine WPcall.walk [] rfl Try.func18 rfl rfl rfl rfl (by simp [keysB]) (by simp) ?_
  repeat' (first
    | refine Run.seq ?_
    | refine Run.region rfl ?_
    | refine Run.drawn rfl rfl rfl ?_
    | refine Run.block ?_
    | refine Run.condT rfl ?_
    | refine Run.condF rfl ?_
    | refine Run.skip ?_
    | refine Run.ret ?_
    | refine Run.exit ?_
    | refine Run.label ?_
    | refine Done.seq ?_
    | refine Done.seqE ?_
    | refine Done.seqR ?_
    | refine Done.blockN ?_
    | refine Done.blockR ?_
    | refine Done.hit ?_
    | refine Done.miss rfl ?_
    | refine Done.invE ?_
    | refine Done.invR ?_
    | refine RunO.buildSlice (cs := flat widesL) rfl rfl rfl rfl rfl ⟨Nat.le_of_ble_eq_true rfl, rfl⟩ (by kernel_rfl) (by kernel_rfl) rfl rfl (fun k => ?_)
    | refine RunO.nil ?_
    | refine RunO.move rfl rfl rfl rfl ?_
    | refine RunO.assign rfl rfl rfl rfl ?_
    | refine RunO.load 0 rfl rfl rfl rfl rfl rfl ?_
    | refine RunO.load 1 rfl rfl rfl rfl rfl rfl ?_
    | refine RunO.load 2 rfl rfl rfl rfl rfl rfl ?_
    | refine RunO.load 3 rfl rfl rfl rfl rfl rfl ?_
    | refine RunO.load 4 rfl rfl rfl rfl rfl rfl ?_
    | refine RunO.indexAddr rfl rfl rfl rfl rfl (by omega) rfl rfl rfl ?_
    | refine RunO.box rfl rfl rfl rfl rfl rfl (fun _ => ?_)
    | refine RunO.alloc rfl rfl rfl rfl rfl rfl (fun _ => ?_)
    | refine RunO.store 0 rfl rfl rfl rfl rfl rfl (by decide) (by decide) rfl rfl ?_
    | refine RunO.store 1 rfl rfl rfl rfl rfl rfl (by decide) (by decide) rfl rfl ?_
    | refine RunO.store 2 rfl rfl rfl rfl rfl rfl (by decide) (by decide) rfl rfl ?_
    | refine RunO.store 3 rfl rfl rfl rfl rfl rfl (by decide) (by decide) rfl rfl ?_
    | refine RunO.store 4 rfl rfl rfl rfl rfl rfl (by decide) (by decide) rfl rfl ?_
    | refine RunO.cmpT rfl (fun _ => rfl) rfl rfl (by omega) ?_
    | refine RunO.cmpF rfl (fun _ => rfl) rfl rfl (by omega) ?_
    | refine RunO.cmp rfl (fun _ => rfl) rfl rfl (fun _ => ?_) (fun _ => ?_)
    | refine RunO.bin rfl rfl rfl (fun _ _ => rfl) (IntWalk.i64_in _ (by omega)) rfl rfl ?_
    | refine RunO.conv rfl rfl rfl rfl (IntWalk.i64_in _ (by omega)) rfl rfl ?_
    | refine RunO.bin rfl rfl rfl (fun _ _ => rfl) (IntWalk.i32_in _ (by omega)) rfl rfl ?_
    | refine RunO.conv rfl rfl rfl rfl (IntWalk.i32_in _ (by omega)) rfl rfl ?_
    | refine RunO.bin rfl rfl rfl (fun _ _ => rfl) (IntWalk.u8_in _ (by omega)) rfl rfl ?_
    | refine RunO.conv rfl rfl rfl rfl (IntWalk.u8_in _ (by omega)) rfl rfl ?_
    | refine RunO.bin rfl rfl rfl (fun _ _ => rfl) (IntWalk.u64_in _ (by omega)) rfl rfl ?_
    | refine RunO.conv rfl rfl rfl rfl (IntWalk.u64_in _ (by omega)) rfl rfl ?_
    | refine RunO.bin rfl rfl rfl (fun _ _ => rfl) (IntWalk.u32_in _ (by omega)) rfl rfl ?_
    | refine RunO.conv rfl rfl rfl rfl (IntWalk.u32_in _ (by omega)) rfl rfl ?_
    | refine RunO.bin rfl rfl rfl (fun _ _ => rfl) (IntWalk.u16_in _ (by omega)) rfl rfl ?_
    | refine RunO.conv rfl rfl rfl rfl (IntWalk.u16_in _ (by omega)) rfl rfl ?_
    | refine RunO.val rfl (fun _ => rfl) rfl rfl ?_
    | refine RunO.no rfl rfl rfl ?_
    | refine RunQ.nil ?_
    | refine RunQ.move rfl rfl rfl rfl ?_
    | refine RunQ.assign rfl rfl rfl rfl ?_
    | refine RunQ.load 0 rfl rfl rfl rfl rfl rfl ?_
    | refine RunQ.load 1 rfl rfl rfl rfl rfl rfl ?_
    | refine RunQ.load 2 rfl rfl rfl rfl rfl rfl ?_
    | refine RunQ.load 3 rfl rfl rfl rfl rfl rfl ?_
    | refine RunQ.load 4 rfl rfl rfl rfl rfl rfl ?_
    | refine RunQ.indexAddr rfl rfl rfl rfl rfl (by omega) rfl rfl rfl ?_
    | refine RunQ.cmpT rfl (fun _ => rfl) rfl rfl (by omega) ?_
    | refine RunQ.cmpF rfl (fun _ => rfl) rfl rfl (by omega) ?_
    | refine RunQ.cmp rfl (fun _ => rfl) rfl rfl (fun _ => ?_) (fun _ => ?_)
    | refine RunQ.bin rfl rfl rfl (fun _ _ => rfl) (IntWalk.i64_in _ (by omega)) rfl rfl ?_
    | refine RunQ.conv rfl rfl rfl rfl (IntWalk.i64_in _ (by omega)) rfl rfl ?_
    | refine RunQ.bin rfl rfl rfl (fun _ _ => rfl) (IntWalk.i32_in _ (by omega)) rfl rfl ?_
    | refine RunQ.conv rfl rfl rfl rfl (IntWalk.i32_in _ (by omega)) rfl rfl ?_
    | refine RunQ.bin rfl rfl rfl (fun _ _ => rfl) (IntWalk.u8_in _ (by omega)) rfl rfl ?_
    | refine RunQ.conv rfl rfl rfl rfl (IntWalk.u8_in _ (by omega)) rfl rfl ?_
    | refine RunQ.bin rfl rfl rfl (fun _ _ => rfl) (IntWalk.u64_in _ (by omega)) rfl rfl ?_
    | refine RunQ.conv rfl rfl rfl rfl (IntWalk.u64_in _ (by omega)) rfl rfl ?_
    | refine RunQ.bin rfl rfl rfl (fun _ _ => rfl) (IntWalk.u32_in _ (by omega)) rfl rfl ?_
    | refine RunQ.conv rfl rfl rfl rfl (IntWalk.u32_in _ (by omega)) rfl rfl ?_
    | refine RunQ.bin rfl rfl rfl (fun _ _ => rfl) (IntWalk.u16_in _ (by omega)) rfl rfl ?_
    | refine RunQ.conv rfl rfl rfl rfl (IntWalk.u16_in _ (by omega)) rfl rfl ?_
    | refine RunQ.val rfl rfl (fun _ => rfl) rfl rfl ?_
    | refine RunQ.no rfl rfl rfl ?_)
  exact Done.makes 0 (.inr rfl) rfl (fun _ => rfl) rfl rfl

theorem f13_ok (k : Nat) (l : List (Int × Int)) (x : Int) (cp : Option Nat) (e : TypeId) (m : Am.Mode) (fz : Bool) (H : List AObj) (hk : H[k]? = some (.cells (flat l) e m fz)) (hl : l.length < 1000000000) (hr : Rising l) :
    Gives E 13 [.int .i32 x, .slice k 0 l.length cp] H (.pure (.bool (isIn l x))) := by
  refine Gives.walk [(false, k, .cells (flat l) e m fz)] rfl Try.func13 rfl rfl rfl rfl (by simp [keysB]) (by simpa using hk) ?_
  repeat' (first
    | refine Run.seq ?_
    | refine Run.region rfl ?_
    | refine Run.drawn rfl rfl rfl ?_
    | refine Run.block ?_
    | refine Run.condT rfl ?_
    | refine Run.condF rfl ?_
    | refine Run.skip ?_
    | refine Run.ret ?_
    | refine Run.exit ?_
    | refine Run.label ?_
    | refine Done.seq ?_
    | refine Done.seqE ?_
    | refine Done.seqR ?_
    | refine Done.blockN ?_
    | refine Done.blockR ?_
    | refine Done.hit ?_
    | refine Done.miss rfl ?_
    | refine Done.invE ?_
    | refine Done.invR ?_
    | refine RunO.pureE (fun p : Int => .tup [.int .i64 p, .bool (isIn l x)]) rfl (fun _ => rfl) rfl rfl (fun H hh => f20_ok k l x cp e m fz H.objs (hh.at (i := 0) rfl) hl hr) (fun p => ?_)
    | refine RunO.nil ?_
    | refine RunO.move rfl rfl rfl rfl ?_
    | refine RunO.assign rfl rfl rfl rfl ?_
    | refine RunO.load 0 rfl rfl rfl rfl rfl rfl ?_
    | refine RunO.load 1 rfl rfl rfl rfl rfl rfl ?_
    | refine RunO.load 2 rfl rfl rfl rfl rfl rfl ?_
    | refine RunO.load 3 rfl rfl rfl rfl rfl rfl ?_
    | refine RunO.load 4 rfl rfl rfl rfl rfl rfl ?_
    | refine RunO.indexAddr rfl rfl rfl rfl rfl (by omega) rfl rfl rfl ?_
    | refine RunO.box rfl rfl rfl rfl rfl rfl (fun _ => ?_)
    | refine RunO.alloc rfl rfl rfl rfl rfl rfl (fun _ => ?_)
    | refine RunO.store 0 rfl rfl rfl rfl rfl rfl (by decide) (by decide) rfl rfl ?_
    | refine RunO.store 1 rfl rfl rfl rfl rfl rfl (by decide) (by decide) rfl rfl ?_
    | refine RunO.store 2 rfl rfl rfl rfl rfl rfl (by decide) (by decide) rfl rfl ?_
    | refine RunO.store 3 rfl rfl rfl rfl rfl rfl (by decide) (by decide) rfl rfl ?_
    | refine RunO.store 4 rfl rfl rfl rfl rfl rfl (by decide) (by decide) rfl rfl ?_
    | refine RunO.cmpT rfl (fun _ => rfl) rfl rfl (by omega) ?_
    | refine RunO.cmpF rfl (fun _ => rfl) rfl rfl (by omega) ?_
    | refine RunO.cmp rfl (fun _ => rfl) rfl rfl (fun _ => ?_) (fun _ => ?_)
    | refine RunO.bin rfl rfl rfl (fun _ _ => rfl) (IntWalk.i64_in _ (by omega)) rfl rfl ?_
    | refine RunO.conv rfl rfl rfl rfl (IntWalk.i64_in _ (by omega)) rfl rfl ?_
    | refine RunO.bin rfl rfl rfl (fun _ _ => rfl) (IntWalk.i32_in _ (by omega)) rfl rfl ?_
    | refine RunO.conv rfl rfl rfl rfl (IntWalk.i32_in _ (by omega)) rfl rfl ?_
    | refine RunO.bin rfl rfl rfl (fun _ _ => rfl) (IntWalk.u8_in _ (by omega)) rfl rfl ?_
    | refine RunO.conv rfl rfl rfl rfl (IntWalk.u8_in _ (by omega)) rfl rfl ?_
    | refine RunO.bin rfl rfl rfl (fun _ _ => rfl) (IntWalk.u64_in _ (by omega)) rfl rfl ?_
    | refine RunO.conv rfl rfl rfl rfl (IntWalk.u64_in _ (by omega)) rfl rfl ?_
    | refine RunO.bin rfl rfl rfl (fun _ _ => rfl) (IntWalk.u32_in _ (by omega)) rfl rfl ?_
    | refine RunO.conv rfl rfl rfl rfl (IntWalk.u32_in _ (by omega)) rfl rfl ?_
    | refine RunO.bin rfl rfl rfl (fun _ _ => rfl) (IntWalk.u16_in _ (by omega)) rfl rfl ?_
    | refine RunO.conv rfl rfl rfl rfl (IntWalk.u16_in _ (by omega)) rfl rfl ?_
    | refine RunO.val rfl (fun _ => rfl) rfl rfl ?_
    | refine RunO.no rfl rfl rfl ?_
    | refine RunQ.nil ?_
    | refine RunQ.move rfl rfl rfl rfl ?_
    | refine RunQ.assign rfl rfl rfl rfl ?_
    | refine RunQ.load 0 rfl rfl rfl rfl rfl rfl ?_
    | refine RunQ.load 1 rfl rfl rfl rfl rfl rfl ?_
    | refine RunQ.load 2 rfl rfl rfl rfl rfl rfl ?_
    | refine RunQ.load 3 rfl rfl rfl rfl rfl rfl ?_
    | refine RunQ.load 4 rfl rfl rfl rfl rfl rfl ?_
    | refine RunQ.indexAddr rfl rfl rfl rfl rfl (by omega) rfl rfl rfl ?_
    | refine RunQ.cmpT rfl (fun _ => rfl) rfl rfl (by omega) ?_
    | refine RunQ.cmpF rfl (fun _ => rfl) rfl rfl (by omega) ?_
    | refine RunQ.cmp rfl (fun _ => rfl) rfl rfl (fun _ => ?_) (fun _ => ?_)
    | refine RunQ.bin rfl rfl rfl (fun _ _ => rfl) (IntWalk.i64_in _ (by omega)) rfl rfl ?_
    | refine RunQ.conv rfl rfl rfl rfl (IntWalk.i64_in _ (by omega)) rfl rfl ?_
    | refine RunQ.bin rfl rfl rfl (fun _ _ => rfl) (IntWalk.i32_in _ (by omega)) rfl rfl ?_
    | refine RunQ.conv rfl rfl rfl rfl (IntWalk.i32_in _ (by omega)) rfl rfl ?_
    | refine RunQ.bin rfl rfl rfl (fun _ _ => rfl) (IntWalk.u8_in _ (by omega)) rfl rfl ?_
    | refine RunQ.conv rfl rfl rfl rfl (IntWalk.u8_in _ (by omega)) rfl rfl ?_
    | refine RunQ.bin rfl rfl rfl (fun _ _ => rfl) (IntWalk.u64_in _ (by omega)) rfl rfl ?_
    | refine RunQ.conv rfl rfl rfl rfl (IntWalk.u64_in _ (by omega)) rfl rfl ?_
    | refine RunQ.bin rfl rfl rfl (fun _ _ => rfl) (IntWalk.u32_in _ (by omega)) rfl rfl ?_
    | refine RunQ.conv rfl rfl rfl rfl (IntWalk.u32_in _ (by omega)) rfl rfl ?_
    | refine RunQ.bin rfl rfl rfl (fun _ _ => rfl) (IntWalk.u16_in _ (by omega)) rfl rfl ?_
    | refine RunQ.conv rfl rfl rfl rfl (IntWalk.u16_in _ (by omega)) rfl rfl ?_
    | refine RunQ.val rfl rfl (fun _ => rfl) rfl rfl ?_
    | refine RunQ.no rfl rfl rfl ?_)
  exact Done.pure (.inr rfl) (fun _ => rfl) rfl rfl

def ofSpec (x : Int) : Int := if isIn hiddenL x = true then -1 else if isIn marksL x = true then 0 else if isIn widesL x = true then 2 else 1

theorem f9_ok (x : Int) (H : List AObj) : Gives E 9 [.int .i32 x] H (.pure (.bool (isIn marksL x))) := by
  refine Gives.walk [] rfl Try.func9 rfl rfl rfl rfl (by simp [keysB]) (by simp) ?_
  repeat' (first
    | refine Run.seq ?_
    | refine Run.region rfl ?_
    | refine Run.drawn rfl rfl rfl ?_
    | refine Run.block ?_
    | refine Run.condT rfl ?_
    | refine Run.condF rfl ?_
    | refine Run.skip ?_
    | refine Run.ret ?_
    | refine Run.exit ?_
    | refine Run.label ?_
    | refine Done.seq ?_
    | refine Done.seqE ?_
    | refine Done.seqR ?_
    | refine Done.blockN ?_
    | refine Done.blockR ?_
    | refine Done.hit ?_
    | refine Done.miss rfl ?_
    | refine Done.invE ?_
    | refine Done.invR ?_
    | refine RunO.callB rfl (fun _ => rfl) rfl rfl (fun H hh => f17_ok H.objs) (fun k => ?_)
    | refine RunO.pure rfl (fun _ => rfl) rfl rfl (fun H hh => f13_ok _ marksL _ _ _ _ _ H.objs (hh.at (i := 0) rfl) (by decide) marks_rising) ?_
    | refine RunO.nil ?_
    | refine RunO.move rfl rfl rfl rfl ?_
    | refine RunO.assign rfl rfl rfl rfl ?_
    | refine RunO.load 0 rfl rfl rfl rfl rfl rfl ?_
    | refine RunO.load 1 rfl rfl rfl rfl rfl rfl ?_
    | refine RunO.load 2 rfl rfl rfl rfl rfl rfl ?_
    | refine RunO.load 3 rfl rfl rfl rfl rfl rfl ?_
    | refine RunO.load 4 rfl rfl rfl rfl rfl rfl ?_
    | refine RunO.indexAddr rfl rfl rfl rfl rfl (by omega) rfl rfl rfl ?_
    | refine RunO.box rfl rfl rfl rfl rfl rfl (fun _ => ?_)
    | refine RunO.alloc rfl rfl rfl rfl rfl rfl (fun _ => ?_)
    | refine RunO.store 0 rfl rfl rfl rfl rfl rfl (by decide) (by decide) rfl rfl ?_
    | refine RunO.store 1 rfl rfl rfl rfl rfl rfl (by decide) (by decide) rfl rfl ?_
    | refine RunO.store 2 rfl rfl rfl rfl rfl rfl (by decide) (by decide) rfl rfl ?_
    | refine RunO.store 3 rfl rfl rfl rfl rfl rfl (by decide) (by decide) rfl rfl ?_
    | refine RunO.store 4 rfl rfl rfl rfl rfl rfl (by decide) (by decide) rfl rfl ?_
    | refine RunO.cmpT rfl (fun _ => rfl) rfl rfl (by omega) ?_
    | refine RunO.cmpF rfl (fun _ => rfl) rfl rfl (by omega) ?_
    | refine RunO.cmp rfl (fun _ => rfl) rfl rfl (fun _ => ?_) (fun _ => ?_)
    | refine RunO.bin rfl rfl rfl (fun _ _ => rfl) (IntWalk.i64_in _ (by omega)) rfl rfl ?_
    | refine RunO.conv rfl rfl rfl rfl (IntWalk.i64_in _ (by omega)) rfl rfl ?_
    | refine RunO.bin rfl rfl rfl (fun _ _ => rfl) (IntWalk.i32_in _ (by omega)) rfl rfl ?_
    | refine RunO.conv rfl rfl rfl rfl (IntWalk.i32_in _ (by omega)) rfl rfl ?_
    | refine RunO.bin rfl rfl rfl (fun _ _ => rfl) (IntWalk.u8_in _ (by omega)) rfl rfl ?_
    | refine RunO.conv rfl rfl rfl rfl (IntWalk.u8_in _ (by omega)) rfl rfl ?_
    | refine RunO.bin rfl rfl rfl (fun _ _ => rfl) (IntWalk.u64_in _ (by omega)) rfl rfl ?_
    | refine RunO.conv rfl rfl rfl rfl (IntWalk.u64_in _ (by omega)) rfl rfl ?_
    | refine RunO.bin rfl rfl rfl (fun _ _ => rfl) (IntWalk.u32_in _ (by omega)) rfl rfl ?_
    | refine RunO.conv rfl rfl rfl rfl (IntWalk.u32_in _ (by omega)) rfl rfl ?_
    | refine RunO.bin rfl rfl rfl (fun _ _ => rfl) (IntWalk.u16_in _ (by omega)) rfl rfl ?_
    | refine RunO.conv rfl rfl rfl rfl (IntWalk.u16_in _ (by omega)) rfl rfl ?_
    | refine RunO.val rfl (fun _ => rfl) rfl rfl ?_
    | refine RunO.no rfl rfl rfl ?_
    | refine RunQ.nil ?_
    | refine RunQ.move rfl rfl rfl rfl ?_
    | refine RunQ.assign rfl rfl rfl rfl ?_
    | refine RunQ.load 0 rfl rfl rfl rfl rfl rfl ?_
    | refine RunQ.load 1 rfl rfl rfl rfl rfl rfl ?_
    | refine RunQ.load 2 rfl rfl rfl rfl rfl rfl ?_
    | refine RunQ.load 3 rfl rfl rfl rfl rfl rfl ?_
    | refine RunQ.load 4 rfl rfl rfl rfl rfl rfl ?_
    | refine RunQ.indexAddr rfl rfl rfl rfl rfl (by omega) rfl rfl rfl ?_
    | refine RunQ.cmpT rfl (fun _ => rfl) rfl rfl (by omega) ?_
    | refine RunQ.cmpF rfl (fun _ => rfl) rfl rfl (by omega) ?_
    | refine RunQ.cmp rfl (fun _ => rfl) rfl rfl (fun _ => ?_) (fun _ => ?_)
    | refine RunQ.bin rfl rfl rfl (fun _ _ => rfl) (IntWalk.i64_in _ (by omega)) rfl rfl ?_
    | refine RunQ.conv rfl rfl rfl rfl (IntWalk.i64_in _ (by omega)) rfl rfl ?_
    | refine RunQ.bin rfl rfl rfl (fun _ _ => rfl) (IntWalk.i32_in _ (by omega)) rfl rfl ?_
    | refine RunQ.conv rfl rfl rfl rfl (IntWalk.i32_in _ (by omega)) rfl rfl ?_
    | refine RunQ.bin rfl rfl rfl (fun _ _ => rfl) (IntWalk.u8_in _ (by omega)) rfl rfl ?_
    | refine RunQ.conv rfl rfl rfl rfl (IntWalk.u8_in _ (by omega)) rfl rfl ?_
    | refine RunQ.bin rfl rfl rfl (fun _ _ => rfl) (IntWalk.u64_in _ (by omega)) rfl rfl ?_
    | refine RunQ.conv rfl rfl rfl rfl (IntWalk.u64_in _ (by omega)) rfl rfl ?_
    | refine RunQ.bin rfl rfl rfl (fun _ _ => rfl) (IntWalk.u32_in _ (by omega)) rfl rfl ?_
    | refine RunQ.conv rfl rfl rfl rfl (IntWalk.u32_in _ (by omega)) rfl rfl ?_
    | refine RunQ.bin rfl rfl rfl (fun _ _ => rfl) (IntWalk.u16_in _ (by omega)) rfl rfl ?_
    | refine RunQ.conv rfl rfl rfl rfl (IntWalk.u16_in _ (by omega)) rfl rfl ?_
    | refine RunQ.val rfl rfl (fun _ => rfl) rfl rfl ?_
    | refine RunQ.no rfl rfl rfl ?_)
  exact Done.pure (.inr rfl) (fun _ => rfl) rfl rfl

theorem f10_ok (x : Int) (H : List AObj) : Gives E 10 [.int .i32 x] H (.pure (.bool (isIn widesL x && !isIn marksL x))) := by
  refine Gives.walk [] rfl Try.func10 rfl rfl rfl rfl (by simp [keysB]) (by simp) ?_
  repeat' (first
    | refine Run.seq ?_
    | refine Run.region rfl ?_
    | refine Run.drawn rfl rfl rfl ?_
    | refine Run.block ?_
    | refine Run.condT rfl ?_
    | refine Run.condF rfl ?_
    | refine Run.skip ?_
    | refine Run.ret ?_
    | refine Run.exit ?_
    | refine Run.label ?_
    | refine Done.seq ?_
    | refine Done.seqE ?_
    | refine Done.seqR ?_
    | refine Done.blockN ?_
    | refine Done.blockR ?_
    | refine Done.hit ?_
    | refine Done.miss rfl ?_
    | refine Done.invE ?_
    | refine Done.invR ?_
    | refine RunO.callB rfl (fun _ => rfl) rfl rfl (fun H hh => f18_ok H.objs) (fun k => ?_)
    | refine RunO.pure rfl (fun _ => rfl) rfl rfl (fun H hh => f13_ok _ widesL _ _ _ _ _ H.objs (hh.at (i := 0) rfl) (by decide) wides_rising) ?_
    | refine RunO.cmpM rfl rfl rfl rfl (fun _ => ?_) (fun _ => ?_)
    | refine RunO.pure rfl (fun _ => rfl) rfl rfl (fun H hh => f9_ok _ H.objs) ?_
    | refine RunO.nil ?_
    | refine RunO.move rfl rfl rfl rfl ?_
    | refine RunO.assign rfl rfl rfl rfl ?_
    | refine RunO.load 0 rfl rfl rfl rfl rfl rfl ?_
    | refine RunO.load 1 rfl rfl rfl rfl rfl rfl ?_
    | refine RunO.load 2 rfl rfl rfl rfl rfl rfl ?_
    | refine RunO.load 3 rfl rfl rfl rfl rfl rfl ?_
    | refine RunO.load 4 rfl rfl rfl rfl rfl rfl ?_
    | refine RunO.indexAddr rfl rfl rfl rfl rfl (by omega) rfl rfl rfl ?_
    | refine RunO.box rfl rfl rfl rfl rfl rfl (fun _ => ?_)
    | refine RunO.alloc rfl rfl rfl rfl rfl rfl (fun _ => ?_)
    | refine RunO.store 0 rfl rfl rfl rfl rfl rfl (by decide) (by decide) rfl rfl ?_
    | refine RunO.store 1 rfl rfl rfl rfl rfl rfl (by decide) (by decide) rfl rfl ?_
    | refine RunO.store 2 rfl rfl rfl rfl rfl rfl (by decide) (by decide) rfl rfl ?_
    | refine RunO.store 3 rfl rfl rfl rfl rfl rfl (by decide) (by decide) rfl rfl ?_
    | refine RunO.store 4 rfl rfl rfl rfl rfl rfl (by decide) (by decide) rfl rfl ?_
    | refine RunO.cmpT rfl (fun _ => rfl) rfl rfl (by omega) ?_
    | refine RunO.cmpF rfl (fun _ => rfl) rfl rfl (by omega) ?_
    | refine RunO.cmp rfl (fun _ => rfl) rfl rfl (fun _ => ?_) (fun _ => ?_)
    | refine RunO.bin rfl rfl rfl (fun _ _ => rfl) (IntWalk.i64_in _ (by omega)) rfl rfl ?_
    | refine RunO.conv rfl rfl rfl rfl (IntWalk.i64_in _ (by omega)) rfl rfl ?_
    | refine RunO.bin rfl rfl rfl (fun _ _ => rfl) (IntWalk.i32_in _ (by omega)) rfl rfl ?_
    | refine RunO.conv rfl rfl rfl rfl (IntWalk.i32_in _ (by omega)) rfl rfl ?_
    | refine RunO.bin rfl rfl rfl (fun _ _ => rfl) (IntWalk.u8_in _ (by omega)) rfl rfl ?_
    | refine RunO.conv rfl rfl rfl rfl (IntWalk.u8_in _ (by omega)) rfl rfl ?_
    | refine RunO.bin rfl rfl rfl (fun _ _ => rfl) (IntWalk.u64_in _ (by omega)) rfl rfl ?_
    | refine RunO.conv rfl rfl rfl rfl (IntWalk.u64_in _ (by omega)) rfl rfl ?_
    | refine RunO.bin rfl rfl rfl (fun _ _ => rfl) (IntWalk.u32_in _ (by omega)) rfl rfl ?_
    | refine RunO.conv rfl rfl rfl rfl (IntWalk.u32_in _ (by omega)) rfl rfl ?_
    | refine RunO.bin rfl rfl rfl (fun _ _ => rfl) (IntWalk.u16_in _ (by omega)) rfl rfl ?_
    | refine RunO.conv rfl rfl rfl rfl (IntWalk.u16_in _ (by omega)) rfl rfl ?_
    | refine RunO.val rfl (fun _ => rfl) rfl rfl ?_
    | refine RunO.no rfl rfl rfl ?_
    | refine RunQ.nil ?_
    | refine RunQ.move rfl rfl rfl rfl ?_
    | refine RunQ.assign rfl rfl rfl rfl ?_
    | refine RunQ.load 0 rfl rfl rfl rfl rfl rfl ?_
    | refine RunQ.load 1 rfl rfl rfl rfl rfl rfl ?_
    | refine RunQ.load 2 rfl rfl rfl rfl rfl rfl ?_
    | refine RunQ.load 3 rfl rfl rfl rfl rfl rfl ?_
    | refine RunQ.load 4 rfl rfl rfl rfl rfl rfl ?_
    | refine RunQ.indexAddr rfl rfl rfl rfl rfl (by omega) rfl rfl rfl ?_
    | refine RunQ.cmpT rfl (fun _ => rfl) rfl rfl (by omega) ?_
    | refine RunQ.cmpF rfl (fun _ => rfl) rfl rfl (by omega) ?_
    | refine RunQ.cmp rfl (fun _ => rfl) rfl rfl (fun _ => ?_) (fun _ => ?_)
    | refine RunQ.bin rfl rfl rfl (fun _ _ => rfl) (IntWalk.i64_in _ (by omega)) rfl rfl ?_
    | refine RunQ.conv rfl rfl rfl rfl (IntWalk.i64_in _ (by omega)) rfl rfl ?_
    | refine RunQ.bin rfl rfl rfl (fun _ _ => rfl) (IntWalk.i32_in _ (by omega)) rfl rfl ?_
    | refine RunQ.conv rfl rfl rfl rfl (IntWalk.i32_in _ (by omega)) rfl rfl ?_
    | refine RunQ.bin rfl rfl rfl (fun _ _ => rfl) (IntWalk.u8_in _ (by omega)) rfl rfl ?_
    | refine RunQ.conv rfl rfl rfl rfl (IntWalk.u8_in _ (by omega)) rfl rfl ?_
    | refine RunQ.bin rfl rfl rfl (fun _ _ => rfl) (IntWalk.u64_in _ (by omega)) rfl rfl ?_
    | refine RunQ.conv rfl rfl rfl rfl (IntWalk.u64_in _ (by omega)) rfl rfl ?_
    | refine RunQ.bin rfl rfl rfl (fun _ _ => rfl) (IntWalk.u32_in _ (by omega)) rfl rfl ?_
    | refine RunQ.conv rfl rfl rfl rfl (IntWalk.u32_in _ (by omega)) rfl rfl ?_
    | refine RunQ.bin rfl rfl rfl (fun _ _ => rfl) (IntWalk.u16_in _ (by omega)) rfl rfl ?_
    | refine RunQ.conv rfl rfl rfl rfl (IntWalk.u16_in _ (by omega)) rfl rfl ?_
    | refine RunQ.val rfl rfl (fun _ => rfl) rfl rfl ?_
    | refine RunQ.no rfl rfl rfl ?_)
  all_goals rename_i hx
  · exact Done.pure (.inr rfl) (fun _ => rfl) (by rw [hx]; rfl) rfl
  · exact Done.pure (.inr rfl) (fun _ => rfl) (by rw [hx]; rfl) rfl

theorem f7_ok (x : Int) (H : List AObj) : Gives E 7 [.int .i32 x] H (.pure (.int .i64 (ofSpec x))) := by
  refine Gives.walk [] rfl Try.func7 rfl rfl rfl rfl (by simp [keysB]) (by simp) ?_
  repeat' (first
    | refine Run.seq ?_
    | refine Run.region rfl ?_
    | refine Run.drawn rfl rfl rfl ?_
    | refine Run.block ?_
    | refine Run.condT rfl ?_
    | refine Run.condF rfl ?_
    | refine Run.skip ?_
    | refine Run.ret ?_
    | refine Run.exit ?_
    | refine Run.label ?_
    | refine Done.seq ?_
    | refine Done.seqE ?_
    | refine Done.seqR ?_
    | refine Done.blockN ?_
    | refine Done.blockR ?_
    | refine Done.hit ?_
    | refine Done.miss rfl ?_
    | refine Done.invE ?_
    | refine Done.invR ?_
    | refine RunO.callB rfl (fun _ => rfl) rfl rfl (fun H hh => f14_ok H.objs) (fun k => ?_)
    | refine RunO.pure rfl (fun _ => rfl) rfl rfl (fun H hh => f13_ok _ hiddenL _ _ _ _ _ H.objs (hh.at (i := 0) rfl) (by decide) hidden_rising) ?_
    | refine RunO.pure rfl (fun _ => rfl) rfl rfl (fun H hh => f9_ok _ H.objs) ?_
    | refine RunO.pure rfl (fun _ => rfl) rfl rfl (fun H hh => f10_ok _ H.objs) ?_
    | refine Run.cond rfl (fun _ => ?_) (fun _ => ?_)
    | refine RunO.nil ?_
    | refine RunO.move rfl rfl rfl rfl ?_
    | refine RunO.assign rfl rfl rfl rfl ?_
    | refine RunO.load 0 rfl rfl rfl rfl rfl rfl ?_
    | refine RunO.load 1 rfl rfl rfl rfl rfl rfl ?_
    | refine RunO.load 2 rfl rfl rfl rfl rfl rfl ?_
    | refine RunO.load 3 rfl rfl rfl rfl rfl rfl ?_
    | refine RunO.load 4 rfl rfl rfl rfl rfl rfl ?_
    | refine RunO.indexAddr rfl rfl rfl rfl rfl (by omega) rfl rfl rfl ?_
    | refine RunO.box rfl rfl rfl rfl rfl rfl (fun _ => ?_)
    | refine RunO.alloc rfl rfl rfl rfl rfl rfl (fun _ => ?_)
    | refine RunO.store 0 rfl rfl rfl rfl rfl rfl (by decide) (by decide) rfl rfl ?_
    | refine RunO.store 1 rfl rfl rfl rfl rfl rfl (by decide) (by decide) rfl rfl ?_
    | refine RunO.store 2 rfl rfl rfl rfl rfl rfl (by decide) (by decide) rfl rfl ?_
    | refine RunO.store 3 rfl rfl rfl rfl rfl rfl (by decide) (by decide) rfl rfl ?_
    | refine RunO.store 4 rfl rfl rfl rfl rfl rfl (by decide) (by decide) rfl rfl ?_
    | refine RunO.cmpT rfl (fun _ => rfl) rfl rfl (by omega) ?_
    | refine RunO.cmpF rfl (fun _ => rfl) rfl rfl (by omega) ?_
    | refine RunO.cmp rfl (fun _ => rfl) rfl rfl (fun _ => ?_) (fun _ => ?_)
    | refine RunO.bin rfl rfl rfl (fun _ _ => rfl) (IntWalk.i64_in _ (by omega)) rfl rfl ?_
    | refine RunO.conv rfl rfl rfl rfl (IntWalk.i64_in _ (by omega)) rfl rfl ?_
    | refine RunO.bin rfl rfl rfl (fun _ _ => rfl) (IntWalk.i32_in _ (by omega)) rfl rfl ?_
    | refine RunO.conv rfl rfl rfl rfl (IntWalk.i32_in _ (by omega)) rfl rfl ?_
    | refine RunO.bin rfl rfl rfl (fun _ _ => rfl) (IntWalk.u8_in _ (by omega)) rfl rfl ?_
    | refine RunO.conv rfl rfl rfl rfl (IntWalk.u8_in _ (by omega)) rfl rfl ?_
    | refine RunO.bin rfl rfl rfl (fun _ _ => rfl) (IntWalk.u64_in _ (by omega)) rfl rfl ?_
    | refine RunO.conv rfl rfl rfl rfl (IntWalk.u64_in _ (by omega)) rfl rfl ?_
    | refine RunO.bin rfl rfl rfl (fun _ _ => rfl) (IntWalk.u32_in _ (by omega)) rfl rfl ?_
    | refine RunO.conv rfl rfl rfl rfl (IntWalk.u32_in _ (by omega)) rfl rfl ?_
    | refine RunO.bin rfl rfl rfl (fun _ _ => rfl) (IntWalk.u16_in _ (by omega)) rfl rfl ?_
    | refine RunO.conv rfl rfl rfl rfl (IntWalk.u16_in _ (by omega)) rfl rfl ?_
    | refine RunO.val rfl (fun _ => rfl) rfl rfl ?_
    | refine RunO.no rfl rfl rfl ?_
    | refine RunQ.nil ?_
    | refine RunQ.move rfl rfl rfl rfl ?_
    | refine RunQ.assign rfl rfl rfl rfl ?_
    | refine RunQ.load 0 rfl rfl rfl rfl rfl rfl ?_
    | refine RunQ.load 1 rfl rfl rfl rfl rfl rfl ?_
    | refine RunQ.load 2 rfl rfl rfl rfl rfl rfl ?_
    | refine RunQ.load 3 rfl rfl rfl rfl rfl rfl ?_
    | refine RunQ.load 4 rfl rfl rfl rfl rfl rfl ?_
    | refine RunQ.indexAddr rfl rfl rfl rfl rfl (by omega) rfl rfl rfl ?_
    | refine RunQ.cmpT rfl (fun _ => rfl) rfl rfl (by omega) ?_
    | refine RunQ.cmpF rfl (fun _ => rfl) rfl rfl (by omega) ?_
    | refine RunQ.cmp rfl (fun _ => rfl) rfl rfl (fun _ => ?_) (fun _ => ?_)
    | refine RunQ.bin rfl rfl rfl (fun _ _ => rfl) (IntWalk.i64_in _ (by omega)) rfl rfl ?_
    | refine RunQ.conv rfl rfl rfl rfl (IntWalk.i64_in _ (by omega)) rfl rfl ?_
    | refine RunQ.bin rfl rfl rfl (fun _ _ => rfl) (IntWalk.i32_in _ (by omega)) rfl rfl ?_
    | refine RunQ.conv rfl rfl rfl rfl (IntWalk.i32_in _ (by omega)) rfl rfl ?_
    | refine RunQ.bin rfl rfl rfl (fun _ _ => rfl) (IntWalk.u8_in _ (by omega)) rfl rfl ?_
    | refine RunQ.conv rfl rfl rfl rfl (IntWalk.u8_in _ (by omega)) rfl rfl ?_
    | refine RunQ.bin rfl rfl rfl (fun _ _ => rfl) (IntWalk.u64_in _ (by omega)) rfl rfl ?_
    | refine RunQ.conv rfl rfl rfl rfl (IntWalk.u64_in _ (by omega)) rfl rfl ?_
    | refine RunQ.bin rfl rfl rfl (fun _ _ => rfl) (IntWalk.u32_in _ (by omega)) rfl rfl ?_
    | refine RunQ.conv rfl rfl rfl rfl (IntWalk.u32_in _ (by omega)) rfl rfl ?_
    | refine RunQ.bin rfl rfl rfl (fun _ _ => rfl) (IntWalk.u16_in _ (by omega)) rfl rfl ?_
    | refine RunQ.conv rfl rfl rfl rfl (IntWalk.u16_in _ (by omega)) rfl rfl ?_
    | refine RunQ.val rfl rfl (fun _ => rfl) rfl rfl ?_
    | refine RunQ.no rfl rfl rfl ?_)
  · rename_i h1
    exact Done.pure (.inr rfl) (fun _ => rfl) (by unfold ofSpec; rw [if_pos h1]; rfl) rfl
  · rename_i h1 h2
    exact Done.pure (.inr rfl) (fun _ => rfl) (by unfold ofSpec; rw [if_neg (by simp [h1]), if_pos h2]; rfl) rfl
  · rename_i h1 h2 h3
    exact Done.pure (.inr rfl) (fun _ => rfl) (by unfold ofSpec; rw [if_neg (by simp [h1]), if_neg (by simp [h2]), if_pos (by simp at h3; exact h3.1)]; rfl) rfl
  · rename_i h1 h2 h3
    exact Done.pure (.inr rfl) (fun _ => rfl) (by unfold ofSpec; rw [if_neg (by simp [h1]), if_neg (by simp [h2]), if_neg (by simp [h2] at h3; simp [h3])]; rfl) rfl

def ofArgs : List V → Option V
  | [.int .i32 x] => some (.int .i64 (ofSpec x))
  | _ => none

/-- The outside, with width.Of known. -/
noncomputable def E1 : Env := E.know 7 ofArgs

theorem ltL_flat1 {k : IntKind} {x : Int} : ltL 0 [V.int k x] := by
  intro v hv
  simp only [List.mem_singleton] at hv
  subst hv
  rfl

theorem E1_ok : E1.Ok := E_ok.know fun args v h => by
  unfold ofArgs at h
  split at h
  · cases h
    exact ⟨rfl, ltL_flat1, _, f7_ok _ _, rfl⟩
  · cases h

end Go.Proofs.Ytigfncnlhccaeaa

/-
  marqueelaw04.works: true.
-/
namespace Go.Proofs.Ytigfncnlhccaeaa
open Go Go.Am
theorem works_eval : evCall E1 1000 6 [] [] = some (.pure (.bool true)) := by kernel_rfl

/-- The outside, with works known, too. -/
noncomputable def E2 : Env := E1.know 6 fun a => match a with | [] => some (.bool true) | _ => none
theorem E2_ok : E2.Ok := E1_ok.knowEval works_eval rfl
end Go.Proofs.Ytigfncnlhccaeaa

/-
  Chapter 4: what symbolic evaluation stands upon.
-/
namespace Go.Proofs.Ytigfncnlhccaeaa
open Go Go.Am
def markS (x : Int) : Bool := isIn marksL x
def wideS (x : Int) : Bool := isIn widesL x && !isIn marksL x
def markA : List V → Option V
  | [.int .i32 x] => some (.bool (markS x))
  | _ => none
def wideA : List V → Option V
  | [.int .i32 x] => some (.bool (wideS x))
  | _ => none
theorem EM_ok : ((E2.know 9 markA).know 10 wideA).Ok :=
  Env.Ok.knowFrom (E0 := E) (Env.Ok.knowFrom (E0 := E) E2_ok E_ok rfl rfl fun args v h => by
    unfold markA at h
    split at h
    · cases h; exact ⟨rfl, ltL_flat1, _, f9_ok _ _, rfl⟩
    · cases h) E_ok rfl rfl fun args v h => by
    unfold wideA at h
    split at h
    · cases h; exact ⟨rfl, ltL_flat1, _, f10_ok _ _, rfl⟩
    · cases h
noncomputable def E3 : Env := { (E2.know 9 markA).know 10 wideA with full := fun f => f == 15 || f == 16 || f == 22 || f == 23 || f == 25 }
theorem E3_ok : E3.Ok := { mixed := EM_ok.mixed, names := EM_ok.names, ext := EM_ok.ext, same := EM_ok.same, made := EM_ok.made, orc := EM_ok.orc }
def ctrs0 : FuncId → List Ctr := addCtr (addCtr (addCtr (addCtr (fun _ => []) 7 (ctr1 (.int .i32) [.int .i64] (fun _ => []) fun x => [⟨.int .i64, ofSpec x⟩])) 6 (ctr0 [.bool] [⟨.bool, true⟩]))
  9 (ctr1 (.int .i32) [.bool] (fun _ => []) fun x => [⟨.bool, markS x⟩])) 10 (ctr1 (.int .i32) [.bool] (fun _ => []) fun x => [⟨.bool, wideS x⟩])
theorem ctrs0_ok : ∀ g ct, ct ∈ ctrs0 g → CtrOk E3 g ct :=
  addCtr_ok (addCtr_ok (addCtr_ok (addCtr_ok (fun g ct h => by cases h) (ctr1_orcI fun x => rfl)) (ctr0_orcB rfl)) (ctr1_orcIB fun x => rfl)) (ctr1_orcIB fun x => rfl)
theorem G3 : GFlat E3 := fun g cs h => by cases h
theorem orc3 : ∀ g, E3.full g = true → ∀ vs, E3.orc g vs = none := fun g h vs => by
  have h : (g == 15 || g == 16 || g == 22 || g == 23 || g == 25) = true := h
  simp only [Bool.or_eq_true, beq_iff_eq] at h
  rcases h with (((rfl | rfl) | rfl) | rfl) | rfl <;> rfl
theorem S_ok {ctr : FuncId → List Ctr} {tm : FuncId → Nat → Option Tm} {un : Nat} (h : ∀ g ct, ct ∈ ctr g → CtrOk E3 g ct) : SOkE { E := E3, ctr := ctr, tm := tm, un := un } := ⟨G3, h, orc3⟩
end Go.Proofs.Ytigfncnlhccaeaa

/-
  Printed by a tool of this session: what functions come to.
-/
namespace Go.Proofs.Ytigfncnlhccaeaa
open Go Go.Am
set_option linter.unusedVariables false
def Tx_T0 : Tm := { tmps := [(6, (.ptr 0 0)), (2, (.hole (.int .i64)))], objs := [.it] }
def tmTx : FuncId → Nat → Option Tm := fun g i => match Nat.beq g 11 with
  | true => match Nat.beq i 0 with | true => some Tx_T0 | false => none
  | false => none
noncomputable def STx : SE := { E := Go.Proofs.Ytigfncnlhccaeaa.E3, ctr := Go.Proofs.Ytigfncnlhccaeaa.ctrs0, tm := tmTx, un := 300 }
theorem Tx_L0 (n : Nat) (nx : Nat → List Dy → Option (List Dy)) (m : Nat) (s0 : List UInt8) (n1 : Int) (n2 : Int) :
    RL STx [(.int .i64)] n 11 0 nx (m + 1) [⟨.str, s0⟩, ⟨(.int .i64), n1⟩, ⟨(.int .i64), n2⟩] =
    (bif (Decidable.decide (Int.toNat n1 < List.length s0)) then
      RL STx [(.int .i64)] n 11 0 nx m [⟨.str, (s0 : List UInt8)⟩, ⟨(.int .i64), ((↑(Int.toNat n1 + Prod.snd (Go.Am.decode (List.drop (Int.toNat n1) s0))) : Int) : Int)⟩, ⟨(.int .i64), (Go.IntKind.wrap Go.IntKind.i64 (n2 + if (0 : Int) < Go.Proofs.Ytigfncnlhccaeaa.ofSpec (↑(Prod.fst (Go.Am.decode (List.drop (Int.toNat n1) s0))) : Int) then Go.Proofs.Ytigfncnlhccaeaa.ofSpec (↑(Prod.fst (Go.Am.decode (List.drop (Int.toNat n1) s0))) : Int) else (0 : Int)) : Int)⟩]
    else
      some [⟨(.int .i64), (n2 : Int)⟩]) := by kernel_rfl
theorem Tx_fn (n : Nat) (s0 : List UInt8) :
    fnY STx loopY [(.hole .str)] [(.int .i64)] n 11 [⟨.str, s0⟩] =
    (RL STx [(.int .i64)] n 11 0 noNx n [⟨.str, (s0 : List UInt8)⟩, ⟨(.int .i64), ((0 : Int) : Int)⟩, ⟨(.int .i64), ((0 : Int) : Int)⟩]) := by kernel_rfl

def Sw_T0 : Tm := { tmps := [(8, (.hole (.int .i64))), (7, (.hole (.int .i64))), (6, (.hole (.list 21 (.int .i32)))), (3, (.ptr 0 0))], objs := [.cells [(.lit .nilp), (.lit .nils)] 40 true] }
def Sw_T1000000 : Tm := { tmps := [(8, (.hole (.int .i64))), (7, (.hole (.int .i64))), (6, (.hole (.list 21 (.int .i32)))), (3, (.ptr 0 0))], objs := [.cells [(.ptr 0 0), (.h 2)] 40 true, .dead, .lst 5 .byte true] }
def tmSw : FuncId → Nat → Option Tm := fun g i => match Nat.beq g 8 with
  | true => match Nat.beq i 0 with | true => some Sw_T0 | false => match Nat.beq i 1000000 with | true => some Sw_T1000000 | false => none
  | false => none
noncomputable def SSw : SE := { E := Go.Proofs.Ytigfncnlhccaeaa.E3, ctr := Go.Proofs.Ytigfncnlhccaeaa.ctrs0, tm := tmSw, un := 300 }
theorem Sw_L0 (n : Nat) (nx : Nat → List Dy → Option (List Dy)) (m : Nat) (n0 : Int) (n1 : Int) (l2 : List Int) :
    RL SSw [.str] n 8 0 nx (m + 1) [⟨(.int .i64), n0⟩, ⟨(.int .i64), n1⟩, ⟨(.list 21 (.int .i32)), l2⟩] =
    (bif (Decidable.decide (n0 < n1)) then
      need (Decidable.decide ((0 : Int) ≤ n0)) <|
      need (Decidable.decide (n0 < (↑(List.length l2) : Int))) <|
      need (Decidable.decide (Int.toNat n0 < List.length l2)) <|
      bif (Decidable.decide ((0 : Int) ≤ Go.Proofs.Ytigfncnlhccaeaa.ofSpec (List.getD l2 (Int.toNat n0) (0 : Int)))) then
        bif (Decidable.decide (Go.IntKind.wrap Go.IntKind.u32 (List.getD l2 (Int.toNat n0) (0 : Int)) ≤ (127 : Int))) then
          need (Decidable.decide ((0 : Int) ≤ Go.IntKind.wrap Go.IntKind.u8 (List.getD l2 (Int.toNat n0) (0 : Int)))) <|
          need (Decidable.decide (Go.IntKind.wrap Go.IntKind.u8 (List.getD l2 (Int.toNat n0) (0 : Int)) < (256 : Int))) <|
          RL SSw [.str] n 8 1000000 nx m [⟨(.list 5 .byte), ([UInt8.ofNat (Int.toNat (Go.IntKind.wrap Go.IntKind.u8 (List.getD l2 (Int.toNat n0) (0 : Int))))] : List UInt8)⟩, ⟨(.int .i64), (Go.IntKind.wrap Go.IntKind.i64 (n0 + (1 : Int)) : Int)⟩, ⟨(.int .i64), (n1 : Int)⟩, ⟨(.list 21 (.int .i32)), (l2 : List Int)⟩]
        else
          bif (Decidable.decide (Go.IntKind.wrap Go.IntKind.u32 (List.getD l2 (Int.toNat n0) (0 : Int)) ≤ (2047 : Int))) then
            need (Decidable.decide (Go.IntKind.wrap Go.IntKind.u8 (↑(BitVec.toNat (BitVec.ofInt (8 : Nat) (192 : Int) ||| BitVec.ofInt (8 : Nat) (Go.IntKind.wrap Go.IntKind.u8 (Int.fdiv (List.getD l2 (Int.toNat n0) (0 : Int)) (64 : Int))))) : Int) < (256 : Int))) <|
            need (Decidable.decide (Go.IntKind.wrap Go.IntKind.u8 (↑(BitVec.toNat (BitVec.ofInt (8 : Nat) (128 : Int) ||| BitVec.ofInt (8 : Nat) (Go.IntKind.wrap Go.IntKind.u8 (↑(BitVec.toNat (BitVec.ofInt (8 : Nat) (Go.IntKind.wrap Go.IntKind.u8 (List.getD l2 (Int.toNat n0) (0 : Int))) &&& BitVec.ofInt (8 : Nat) (63 : Int))) : Int)))) : Int) < (256 : Int))) <|
            RL SSw [.str] n 8 1000000 nx m [⟨(.list 5 .byte), ([UInt8.ofNat (Int.toNat (Go.IntKind.wrap Go.IntKind.u8 (↑(BitVec.toNat (BitVec.ofInt (8 : Nat) (192 : Int) ||| BitVec.ofInt (8 : Nat) (Go.IntKind.wrap Go.IntKind.u8 (Int.fdiv (List.getD l2 (Int.toNat n0) (0 : Int)) (64 : Int))))) : Int))), UInt8.ofNat (Int.toNat (Go.IntKind.wrap Go.IntKind.u8 (↑(BitVec.toNat (BitVec.ofInt (8 : Nat) (128 : Int) ||| BitVec.ofInt (8 : Nat) (Go.IntKind.wrap Go.IntKind.u8 (↑(BitVec.toNat (BitVec.ofInt (8 : Nat) (Go.IntKind.wrap Go.IntKind.u8 (List.getD l2 (Int.toNat n0) (0 : Int))) &&& BitVec.ofInt (8 : Nat) (63 : Int))) : Int)))) : Int)))] : List UInt8)⟩, ⟨(.int .i64), (Go.IntKind.wrap Go.IntKind.i64 (n0 + (1 : Int)) : Int)⟩, ⟨(.int .i64), (n1 : Int)⟩, ⟨(.list 21 (.int .i32)), (l2 : List Int)⟩]
          else
            bif (Decidable.decide (Go.IntKind.wrap Go.IntKind.u32 (List.getD l2 (Int.toNat n0) (0 : Int)) < (55296 : Int))) then
              bif (Decidable.decide (Go.IntKind.wrap Go.IntKind.u32 (List.getD l2 (Int.toNat n0) (0 : Int)) < (55296 : Int))) then
                need (Decidable.decide (Go.IntKind.wrap Go.IntKind.u8 (↑(BitVec.toNat (BitVec.ofInt (8 : Nat) (224 : Int) ||| BitVec.ofInt (8 : Nat) (Go.IntKind.wrap Go.IntKind.u8 (Int.fdiv (List.getD l2 (Int.toNat n0) (0 : Int)) (4096 : Int))))) : Int) < (256 : Int))) <|
                need (Decidable.decide (Go.IntKind.wrap Go.IntKind.u8 (↑(BitVec.toNat (BitVec.ofInt (8 : Nat) (128 : Int) ||| BitVec.ofInt (8 : Nat) (Go.IntKind.wrap Go.IntKind.u8 (↑(BitVec.toNat (BitVec.ofInt (8 : Nat) (Go.IntKind.wrap Go.IntKind.u8 (Int.fdiv (List.getD l2 (Int.toNat n0) (0 : Int)) (64 : Int))) &&& BitVec.ofInt (8 : Nat) (63 : Int))) : Int)))) : Int) < (256 : Int))) <|
                need (Decidable.decide (Go.IntKind.wrap Go.IntKind.u8 (↑(BitVec.toNat (BitVec.ofInt (8 : Nat) (128 : Int) ||| BitVec.ofInt (8 : Nat) (Go.IntKind.wrap Go.IntKind.u8 (↑(BitVec.toNat (BitVec.ofInt (8 : Nat) (Go.IntKind.wrap Go.IntKind.u8 (List.getD l2 (Int.toNat n0) (0 : Int))) &&& BitVec.ofInt (8 : Nat) (63 : Int))) : Int)))) : Int) < (256 : Int))) <|
                RL SSw [.str] n 8 1000000 nx m [⟨(.list 5 .byte), ([UInt8.ofNat (Int.toNat (Go.IntKind.wrap Go.IntKind.u8 (↑(BitVec.toNat (BitVec.ofInt (8 : Nat) (224 : Int) ||| BitVec.ofInt (8 : Nat) (Go.IntKind.wrap Go.IntKind.u8 (Int.fdiv (List.getD l2 (Int.toNat n0) (0 : Int)) (4096 : Int))))) : Int))), UInt8.ofNat (Int.toNat (Go.IntKind.wrap Go.IntKind.u8 (↑(BitVec.toNat (BitVec.ofInt (8 : Nat) (128 : Int) ||| BitVec.ofInt (8 : Nat) (Go.IntKind.wrap Go.IntKind.u8 (↑(BitVec.toNat (BitVec.ofInt (8 : Nat) (Go.IntKind.wrap Go.IntKind.u8 (Int.fdiv (List.getD l2 (Int.toNat n0) (0 : Int)) (64 : Int))) &&& BitVec.ofInt (8 : Nat) (63 : Int))) : Int)))) : Int))), UInt8.ofNat (Int.toNat (Go.IntKind.wrap Go.IntKind.u8 (↑(BitVec.toNat (BitVec.ofInt (8 : Nat) (128 : Int) ||| BitVec.ofInt (8 : Nat) (Go.IntKind.wrap Go.IntKind.u8 (↑(BitVec.toNat (BitVec.ofInt (8 : Nat) (Go.IntKind.wrap Go.IntKind.u8 (List.getD l2 (Int.toNat n0) (0 : Int))) &&& BitVec.ofInt (8 : Nat) (63 : Int))) : Int)))) : Int)))] : List UInt8)⟩, ⟨(.int .i64), (Go.IntKind.wrap Go.IntKind.i64 (n0 + (1 : Int)) : Int)⟩, ⟨(.int .i64), (n1 : Int)⟩, ⟨(.list 21 (.int .i32)), (l2 : List Int)⟩]
              else
                bif (Decidable.decide ((65535 : Int) < Go.IntKind.wrap Go.IntKind.u32 (List.getD l2 (Int.toNat n0) (0 : Int))) && Decidable.decide (Go.IntKind.wrap Go.IntKind.u32 (List.getD l2 (Int.toNat n0) (0 : Int)) ≤ (1114111 : Int))) then
                  need (Decidable.decide (Go.IntKind.wrap Go.IntKind.u8 (↑(BitVec.toNat (BitVec.ofInt (8 : Nat) (240 : Int) ||| BitVec.ofInt (8 : Nat) (Go.IntKind.wrap Go.IntKind.u8 (Int.fdiv (List.getD l2 (Int.toNat n0) (0 : Int)) (262144 : Int))))) : Int) < (256 : Int))) <|
                  need (Decidable.decide (Go.IntKind.wrap Go.IntKind.u8 (↑(BitVec.toNat (BitVec.ofInt (8 : Nat) (128 : Int) ||| BitVec.ofInt (8 : Nat) (Go.IntKind.wrap Go.IntKind.u8 (↑(BitVec.toNat (BitVec.ofInt (8 : Nat) (Go.IntKind.wrap Go.IntKind.u8 (Int.fdiv (List.getD l2 (Int.toNat n0) (0 : Int)) (4096 : Int))) &&& BitVec.ofInt (8 : Nat) (63 : Int))) : Int)))) : Int) < (256 : Int))) <|
                  need (Decidable.decide (Go.IntKind.wrap Go.IntKind.u8 (↑(BitVec.toNat (BitVec.ofInt (8 : Nat) (128 : Int) ||| BitVec.ofInt (8 : Nat) (Go.IntKind.wrap Go.IntKind.u8 (↑(BitVec.toNat (BitVec.ofInt (8 : Nat) (Go.IntKind.wrap Go.IntKind.u8 (Int.fdiv (List.getD l2 (Int.toNat n0) (0 : Int)) (64 : Int))) &&& BitVec.ofInt (8 : Nat) (63 : Int))) : Int)))) : Int) < (256 : Int))) <|
                  need (Decidable.decide (Go.IntKind.wrap Go.IntKind.u8 (↑(BitVec.toNat (BitVec.ofInt (8 : Nat) (128 : Int) ||| BitVec.ofInt (8 : Nat) (Go.IntKind.wrap Go.IntKind.u8 (↑(BitVec.toNat (BitVec.ofInt (8 : Nat) (Go.IntKind.wrap Go.IntKind.u8 (List.getD l2 (Int.toNat n0) (0 : Int))) &&& BitVec.ofInt (8 : Nat) (63 : Int))) : Int)))) : Int) < (256 : Int))) <|
                  RL SSw [.str] n 8 1000000 nx m [⟨(.list 5 .byte), ([UInt8.ofNat (Int.toNat (Go.IntKind.wrap Go.IntKind.u8 (↑(BitVec.toNat (BitVec.ofInt (8 : Nat) (240 : Int) ||| BitVec.ofInt (8 : Nat) (Go.IntKind.wrap Go.IntKind.u8 (Int.fdiv (List.getD l2 (Int.toNat n0) (0 : Int)) (262144 : Int))))) : Int))), UInt8.ofNat (Int.toNat (Go.IntKind.wrap Go.IntKind.u8 (↑(BitVec.toNat (BitVec.ofInt (8 : Nat) (128 : Int) ||| BitVec.ofInt (8 : Nat) (Go.IntKind.wrap Go.IntKind.u8 (↑(BitVec.toNat (BitVec.ofInt (8 : Nat) (Go.IntKind.wrap Go.IntKind.u8 (Int.fdiv (List.getD l2 (Int.toNat n0) (0 : Int)) (4096 : Int))) &&& BitVec.ofInt (8 : Nat) (63 : Int))) : Int)))) : Int))), UInt8.ofNat (Int.toNat (Go.IntKind.wrap Go.IntKind.u8 (↑(BitVec.toNat (BitVec.ofInt (8 : Nat) (128 : Int) ||| BitVec.ofInt (8 : Nat) (Go.IntKind.wrap Go.IntKind.u8 (↑(BitVec.toNat (BitVec.ofInt (8 : Nat) (Go.IntKind.wrap Go.IntKind.u8 (Int.fdiv (List.getD l2 (Int.toNat n0) (0 : Int)) (64 : Int))) &&& BitVec.ofInt (8 : Nat) (63 : Int))) : Int)))) : Int))), UInt8.ofNat (Int.toNat (Go.IntKind.wrap Go.IntKind.u8 (↑(BitVec.toNat (BitVec.ofInt (8 : Nat) (128 : Int) ||| BitVec.ofInt (8 : Nat) (Go.IntKind.wrap Go.IntKind.u8 (↑(BitVec.toNat (BitVec.ofInt (8 : Nat) (Go.IntKind.wrap Go.IntKind.u8 (List.getD l2 (Int.toNat n0) (0 : Int))) &&& BitVec.ofInt (8 : Nat) (63 : Int))) : Int)))) : Int)))] : List UInt8)⟩, ⟨(.int .i64), (Go.IntKind.wrap Go.IntKind.i64 (n0 + (1 : Int)) : Int)⟩, ⟨(.int .i64), (n1 : Int)⟩, ⟨(.list 21 (.int .i32)), (l2 : List Int)⟩]
                else
                  RL SSw [.str] n 8 1000000 nx m [⟨(.list 5 .byte), ([(239 : UInt8), (191 : UInt8), (189 : UInt8)] : List UInt8)⟩, ⟨(.int .i64), (Go.IntKind.wrap Go.IntKind.i64 (n0 + (1 : Int)) : Int)⟩, ⟨(.int .i64), (n1 : Int)⟩, ⟨(.list 21 (.int .i32)), (l2 : List Int)⟩]
            else
              bif (Decidable.decide ((57343 : Int) < Go.IntKind.wrap Go.IntKind.u32 (List.getD l2 (Int.toNat n0) (0 : Int))) && Decidable.decide (Go.IntKind.wrap Go.IntKind.u32 (List.getD l2 (Int.toNat n0) (0 : Int)) ≤ (65535 : Int))) then
                need (Decidable.decide (Go.IntKind.wrap Go.IntKind.u8 (↑(BitVec.toNat (BitVec.ofInt (8 : Nat) (224 : Int) ||| BitVec.ofInt (8 : Nat) (Go.IntKind.wrap Go.IntKind.u8 (Int.fdiv (List.getD l2 (Int.toNat n0) (0 : Int)) (4096 : Int))))) : Int) < (256 : Int))) <|
                need (Decidable.decide (Go.IntKind.wrap Go.IntKind.u8 (↑(BitVec.toNat (BitVec.ofInt (8 : Nat) (128 : Int) ||| BitVec.ofInt (8 : Nat) (Go.IntKind.wrap Go.IntKind.u8 (↑(BitVec.toNat (BitVec.ofInt (8 : Nat) (Go.IntKind.wrap Go.IntKind.u8 (Int.fdiv (List.getD l2 (Int.toNat n0) (0 : Int)) (64 : Int))) &&& BitVec.ofInt (8 : Nat) (63 : Int))) : Int)))) : Int) < (256 : Int))) <|
                need (Decidable.decide (Go.IntKind.wrap Go.IntKind.u8 (↑(BitVec.toNat (BitVec.ofInt (8 : Nat) (128 : Int) ||| BitVec.ofInt (8 : Nat) (Go.IntKind.wrap Go.IntKind.u8 (↑(BitVec.toNat (BitVec.ofInt (8 : Nat) (Go.IntKind.wrap Go.IntKind.u8 (List.getD l2 (Int.toNat n0) (0 : Int))) &&& BitVec.ofInt (8 : Nat) (63 : Int))) : Int)))) : Int) < (256 : Int))) <|
                RL SSw [.str] n 8 1000000 nx m [⟨(.list 5 .byte), ([UInt8.ofNat (Int.toNat (Go.IntKind.wrap Go.IntKind.u8 (↑(BitVec.toNat (BitVec.ofInt (8 : Nat) (224 : Int) ||| BitVec.ofInt (8 : Nat) (Go.IntKind.wrap Go.IntKind.u8 (Int.fdiv (List.getD l2 (Int.toNat n0) (0 : Int)) (4096 : Int))))) : Int))), UInt8.ofNat (Int.toNat (Go.IntKind.wrap Go.IntKind.u8 (↑(BitVec.toNat (BitVec.ofInt (8 : Nat) (128 : Int) ||| BitVec.ofInt (8 : Nat) (Go.IntKind.wrap Go.IntKind.u8 (↑(BitVec.toNat (BitVec.ofInt (8 : Nat) (Go.IntKind.wrap Go.IntKind.u8 (Int.fdiv (List.getD l2 (Int.toNat n0) (0 : Int)) (64 : Int))) &&& BitVec.ofInt (8 : Nat) (63 : Int))) : Int)))) : Int))), UInt8.ofNat (Int.toNat (Go.IntKind.wrap Go.IntKind.u8 (↑(BitVec.toNat (BitVec.ofInt (8 : Nat) (128 : Int) ||| BitVec.ofInt (8 : Nat) (Go.IntKind.wrap Go.IntKind.u8 (↑(BitVec.toNat (BitVec.ofInt (8 : Nat) (Go.IntKind.wrap Go.IntKind.u8 (List.getD l2 (Int.toNat n0) (0 : Int))) &&& BitVec.ofInt (8 : Nat) (63 : Int))) : Int)))) : Int)))] : List UInt8)⟩, ⟨(.int .i64), (Go.IntKind.wrap Go.IntKind.i64 (n0 + (1 : Int)) : Int)⟩, ⟨(.int .i64), (n1 : Int)⟩, ⟨(.list 21 (.int .i32)), (l2 : List Int)⟩]
              else
                bif (Decidable.decide ((65535 : Int) < Go.IntKind.wrap Go.IntKind.u32 (List.getD l2 (Int.toNat n0) (0 : Int))) && Decidable.decide (Go.IntKind.wrap Go.IntKind.u32 (List.getD l2 (Int.toNat n0) (0 : Int)) ≤ (1114111 : Int))) then
                  need (Decidable.decide (Go.IntKind.wrap Go.IntKind.u8 (↑(BitVec.toNat (BitVec.ofInt (8 : Nat) (240 : Int) ||| BitVec.ofInt (8 : Nat) (Go.IntKind.wrap Go.IntKind.u8 (Int.fdiv (List.getD l2 (Int.toNat n0) (0 : Int)) (262144 : Int))))) : Int) < (256 : Int))) <|
                  need (Decidable.decide (Go.IntKind.wrap Go.IntKind.u8 (↑(BitVec.toNat (BitVec.ofInt (8 : Nat) (128 : Int) ||| BitVec.ofInt (8 : Nat) (Go.IntKind.wrap Go.IntKind.u8 (↑(BitVec.toNat (BitVec.ofInt (8 : Nat) (Go.IntKind.wrap Go.IntKind.u8 (Int.fdiv (List.getD l2 (Int.toNat n0) (0 : Int)) (4096 : Int))) &&& BitVec.ofInt (8 : Nat) (63 : Int))) : Int)))) : Int) < (256 : Int))) <|
                  need (Decidable.decide (Go.IntKind.wrap Go.IntKind.u8 (↑(BitVec.toNat (BitVec.ofInt (8 : Nat) (128 : Int) ||| BitVec.ofInt (8 : Nat) (Go.IntKind.wrap Go.IntKind.u8 (↑(BitVec.toNat (BitVec.ofInt (8 : Nat) (Go.IntKind.wrap Go.IntKind.u8 (Int.fdiv (List.getD l2 (Int.toNat n0) (0 : Int)) (64 : Int))) &&& BitVec.ofInt (8 : Nat) (63 : Int))) : Int)))) : Int) < (256 : Int))) <|
                  need (Decidable.decide (Go.IntKind.wrap Go.IntKind.u8 (↑(BitVec.toNat (BitVec.ofInt (8 : Nat) (128 : Int) ||| BitVec.ofInt (8 : Nat) (Go.IntKind.wrap Go.IntKind.u8 (↑(BitVec.toNat (BitVec.ofInt (8 : Nat) (Go.IntKind.wrap Go.IntKind.u8 (List.getD l2 (Int.toNat n0) (0 : Int))) &&& BitVec.ofInt (8 : Nat) (63 : Int))) : Int)))) : Int) < (256 : Int))) <|
                  RL SSw [.str] n 8 1000000 nx m [⟨(.list 5 .byte), ([UInt8.ofNat (Int.toNat (Go.IntKind.wrap Go.IntKind.u8 (↑(BitVec.toNat (BitVec.ofInt (8 : Nat) (240 : Int) ||| BitVec.ofInt (8 : Nat) (Go.IntKind.wrap Go.IntKind.u8 (Int.fdiv (List.getD l2 (Int.toNat n0) (0 : Int)) (262144 : Int))))) : Int))), UInt8.ofNat (Int.toNat (Go.IntKind.wrap Go.IntKind.u8 (↑(BitVec.toNat (BitVec.ofInt (8 : Nat) (128 : Int) ||| BitVec.ofInt (8 : Nat) (Go.IntKind.wrap Go.IntKind.u8 (↑(BitVec.toNat (BitVec.ofInt (8 : Nat) (Go.IntKind.wrap Go.IntKind.u8 (Int.fdiv (List.getD l2 (Int.toNat n0) (0 : Int)) (4096 : Int))) &&& BitVec.ofInt (8 : Nat) (63 : Int))) : Int)))) : Int))), UInt8.ofNat (Int.toNat (Go.IntKind.wrap Go.IntKind.u8 (↑(BitVec.toNat (BitVec.ofInt (8 : Nat) (128 : Int) ||| BitVec.ofInt (8 : Nat) (Go.IntKind.wrap Go.IntKind.u8 (↑(BitVec.toNat (BitVec.ofInt (8 : Nat) (Go.IntKind.wrap Go.IntKind.u8 (Int.fdiv (List.getD l2 (Int.toNat n0) (0 : Int)) (64 : Int))) &&& BitVec.ofInt (8 : Nat) (63 : Int))) : Int)))) : Int))), UInt8.ofNat (Int.toNat (Go.IntKind.wrap Go.IntKind.u8 (↑(BitVec.toNat (BitVec.ofInt (8 : Nat) (128 : Int) ||| BitVec.ofInt (8 : Nat) (Go.IntKind.wrap Go.IntKind.u8 (↑(BitVec.toNat (BitVec.ofInt (8 : Nat) (Go.IntKind.wrap Go.IntKind.u8 (List.getD l2 (Int.toNat n0) (0 : Int))) &&& BitVec.ofInt (8 : Nat) (63 : Int))) : Int)))) : Int)))] : List UInt8)⟩, ⟨(.int .i64), (Go.IntKind.wrap Go.IntKind.i64 (n0 + (1 : Int)) : Int)⟩, ⟨(.int .i64), (n1 : Int)⟩, ⟨(.list 21 (.int .i32)), (l2 : List Int)⟩]
                else
                  RL SSw [.str] n 8 1000000 nx m [⟨(.list 5 .byte), ([(239 : UInt8), (191 : UInt8), (189 : UInt8)] : List UInt8)⟩, ⟨(.int .i64), (Go.IntKind.wrap Go.IntKind.i64 (n0 + (1 : Int)) : Int)⟩, ⟨(.int .i64), (n1 : Int)⟩, ⟨(.list 21 (.int .i32)), (l2 : List Int)⟩]
      else
        RL SSw [.str] n 8 0 nx m [⟨(.int .i64), (Go.IntKind.wrap Go.IntKind.i64 (n0 + (1 : Int)) : Int)⟩, ⟨(.int .i64), (n1 : Int)⟩, ⟨(.list 21 (.int .i32)), (l2 : List Int)⟩]
    else
      some [⟨.str, ([] : List UInt8)⟩]) := by kernel_rfl
theorem Sw_L1000000 (n : Nat) (nx : Nat → List Dy → Option (List Dy)) (m : Nat) (l0 : List UInt8) (n1 : Int) (n2 : Int) (l3 : List Int) :
    RL SSw [.str] n 8 1000000 nx (m + 1) [⟨(.list 5 .byte), l0⟩, ⟨(.int .i64), n1⟩, ⟨(.int .i64), n2⟩, ⟨(.list 21 (.int .i32)), l3⟩] =
    (bif (Decidable.decide (n1 < n2)) then
      need (Decidable.decide ((0 : Int) ≤ n1)) <|
      need (Decidable.decide (n1 < (↑(List.length l3) : Int))) <|
      need (Decidable.decide (Int.toNat n1 < List.length l3)) <|
      bif (Decidable.decide ((0 : Int) ≤ Go.Proofs.Ytigfncnlhccaeaa.ofSpec (List.getD l3 (Int.toNat n1) (0 : Int)))) then
        bif (Decidable.decide (Go.IntKind.wrap Go.IntKind.u32 (List.getD l3 (Int.toNat n1) (0 : Int)) ≤ (127 : Int))) then
          need (Decidable.decide ((0 : Int) ≤ Go.IntKind.wrap Go.IntKind.u8 (List.getD l3 (Int.toNat n1) (0 : Int)))) <|
          need (Decidable.decide (Go.IntKind.wrap Go.IntKind.u8 (List.getD l3 (Int.toNat n1) (0 : Int)) < (256 : Int))) <|
          need (Decidable.decide ((List.length l0 + List.length [UInt8.ofNat (Int.toNat (Go.IntKind.wrap Go.IntKind.u8 (List.getD l3 (Int.toNat n1) (0 : Int))))]) * (1 : Nat) ≤ (140737488355328 : Nat))) <|
          need (Decidable.decide (List.length l0 + List.length [UInt8.ofNat (Int.toNat (Go.IntKind.wrap Go.IntKind.u8 (List.getD l3 (Int.toNat n1) (0 : Int))))] ≤ (140737488355328 : Nat))) <|
          RL SSw [.str] n 8 1000000 nx m [⟨(.list 5 .byte), (l0 ++ [UInt8.ofNat (Int.toNat (Go.IntKind.wrap Go.IntKind.u8 (List.getD l3 (Int.toNat n1) (0 : Int))))] : List UInt8)⟩, ⟨(.int .i64), (Go.IntKind.wrap Go.IntKind.i64 (n1 + (1 : Int)) : Int)⟩, ⟨(.int .i64), (n2 : Int)⟩, ⟨(.list 21 (.int .i32)), (l3 : List Int)⟩]
        else
          bif (Decidable.decide (Go.IntKind.wrap Go.IntKind.u32 (List.getD l3 (Int.toNat n1) (0 : Int)) ≤ (2047 : Int))) then
            need (Decidable.decide (Go.IntKind.wrap Go.IntKind.u8 (↑(BitVec.toNat (BitVec.ofInt (8 : Nat) (192 : Int) ||| BitVec.ofInt (8 : Nat) (Go.IntKind.wrap Go.IntKind.u8 (Int.fdiv (List.getD l3 (Int.toNat n1) (0 : Int)) (64 : Int))))) : Int) < (256 : Int))) <|
            need (Decidable.decide (Go.IntKind.wrap Go.IntKind.u8 (↑(BitVec.toNat (BitVec.ofInt (8 : Nat) (128 : Int) ||| BitVec.ofInt (8 : Nat) (Go.IntKind.wrap Go.IntKind.u8 (↑(BitVec.toNat (BitVec.ofInt (8 : Nat) (Go.IntKind.wrap Go.IntKind.u8 (List.getD l3 (Int.toNat n1) (0 : Int))) &&& BitVec.ofInt (8 : Nat) (63 : Int))) : Int)))) : Int) < (256 : Int))) <|
            need (Decidable.decide ((List.length l0 + List.length [UInt8.ofNat (Int.toNat (Go.IntKind.wrap Go.IntKind.u8 (↑(BitVec.toNat (BitVec.ofInt (8 : Nat) (192 : Int) ||| BitVec.ofInt (8 : Nat) (Go.IntKind.wrap Go.IntKind.u8 (Int.fdiv (List.getD l3 (Int.toNat n1) (0 : Int)) (64 : Int))))) : Int))), UInt8.ofNat (Int.toNat (Go.IntKind.wrap Go.IntKind.u8 (↑(BitVec.toNat (BitVec.ofInt (8 : Nat) (128 : Int) ||| BitVec.ofInt (8 : Nat) (Go.IntKind.wrap Go.IntKind.u8 (↑(BitVec.toNat (BitVec.ofInt (8 : Nat) (Go.IntKind.wrap Go.IntKind.u8 (List.getD l3 (Int.toNat n1) (0 : Int))) &&& BitVec.ofInt (8 : Nat) (63 : Int))) : Int)))) : Int)))]) * (1 : Nat) ≤ (140737488355328 : Nat))) <|
            need (Decidable.decide (List.length l0 + List.length [UInt8.ofNat (Int.toNat (Go.IntKind.wrap Go.IntKind.u8 (↑(BitVec.toNat (BitVec.ofInt (8 : Nat) (192 : Int) ||| BitVec.ofInt (8 : Nat) (Go.IntKind.wrap Go.IntKind.u8 (Int.fdiv (List.getD l3 (Int.toNat n1) (0 : Int)) (64 : Int))))) : Int))), UInt8.ofNat (Int.toNat (Go.IntKind.wrap Go.IntKind.u8 (↑(BitVec.toNat (BitVec.ofInt (8 : Nat) (128 : Int) ||| BitVec.ofInt (8 : Nat) (Go.IntKind.wrap Go.IntKind.u8 (↑(BitVec.toNat (BitVec.ofInt (8 : Nat) (Go.IntKind.wrap Go.IntKind.u8 (List.getD l3 (Int.toNat n1) (0 : Int))) &&& BitVec.ofInt (8 : Nat) (63 : Int))) : Int)))) : Int)))] ≤ (140737488355328 : Nat))) <|
            RL SSw [.str] n 8 1000000 nx m [⟨(.list 5 .byte), (l0 ++ [UInt8.ofNat (Int.toNat (Go.IntKind.wrap Go.IntKind.u8 (↑(BitVec.toNat (BitVec.ofInt (8 : Nat) (192 : Int) ||| BitVec.ofInt (8 : Nat) (Go.IntKind.wrap Go.IntKind.u8 (Int.fdiv (List.getD l3 (Int.toNat n1) (0 : Int)) (64 : Int))))) : Int))), UInt8.ofNat (Int.toNat (Go.IntKind.wrap Go.IntKind.u8 (↑(BitVec.toNat (BitVec.ofInt (8 : Nat) (128 : Int) ||| BitVec.ofInt (8 : Nat) (Go.IntKind.wrap Go.IntKind.u8 (↑(BitVec.toNat (BitVec.ofInt (8 : Nat) (Go.IntKind.wrap Go.IntKind.u8 (List.getD l3 (Int.toNat n1) (0 : Int))) &&& BitVec.ofInt (8 : Nat) (63 : Int))) : Int)))) : Int)))] : List UInt8)⟩, ⟨(.int .i64), (Go.IntKind.wrap Go.IntKind.i64 (n1 + (1 : Int)) : Int)⟩, ⟨(.int .i64), (n2 : Int)⟩, ⟨(.list 21 (.int .i32)), (l3 : List Int)⟩]
          else
            bif (Decidable.decide (Go.IntKind.wrap Go.IntKind.u32 (List.getD l3 (Int.toNat n1) (0 : Int)) < (55296 : Int))) then
              bif (Decidable.decide (Go.IntKind.wrap Go.IntKind.u32 (List.getD l3 (Int.toNat n1) (0 : Int)) < (55296 : Int))) then
                need (Decidable.decide (Go.IntKind.wrap Go.IntKind.u8 (↑(BitVec.toNat (BitVec.ofInt (8 : Nat) (224 : Int) ||| BitVec.ofInt (8 : Nat) (Go.IntKind.wrap Go.IntKind.u8 (Int.fdiv (List.getD l3 (Int.toNat n1) (0 : Int)) (4096 : Int))))) : Int) < (256 : Int))) <|
                need (Decidable.decide (Go.IntKind.wrap Go.IntKind.u8 (↑(BitVec.toNat (BitVec.ofInt (8 : Nat) (128 : Int) ||| BitVec.ofInt (8 : Nat) (Go.IntKind.wrap Go.IntKind.u8 (↑(BitVec.toNat (BitVec.ofInt (8 : Nat) (Go.IntKind.wrap Go.IntKind.u8 (Int.fdiv (List.getD l3 (Int.toNat n1) (0 : Int)) (64 : Int))) &&& BitVec.ofInt (8 : Nat) (63 : Int))) : Int)))) : Int) < (256 : Int))) <|
                need (Decidable.decide (Go.IntKind.wrap Go.IntKind.u8 (↑(BitVec.toNat (BitVec.ofInt (8 : Nat) (128 : Int) ||| BitVec.ofInt (8 : Nat) (Go.IntKind.wrap Go.IntKind.u8 (↑(BitVec.toNat (BitVec.ofInt (8 : Nat) (Go.IntKind.wrap Go.IntKind.u8 (List.getD l3 (Int.toNat n1) (0 : Int))) &&& BitVec.ofInt (8 : Nat) (63 : Int))) : Int)))) : Int) < (256 : Int))) <|
                need (Decidable.decide ((List.length l0 + List.length [UInt8.ofNat (Int.toNat (Go.IntKind.wrap Go.IntKind.u8 (↑(BitVec.toNat (BitVec.ofInt (8 : Nat) (224 : Int) ||| BitVec.ofInt (8 : Nat) (Go.IntKind.wrap Go.IntKind.u8 (Int.fdiv (List.getD l3 (Int.toNat n1) (0 : Int)) (4096 : Int))))) : Int))), UInt8.ofNat (Int.toNat (Go.IntKind.wrap Go.IntKind.u8 (↑(BitVec.toNat (BitVec.ofInt (8 : Nat) (128 : Int) ||| BitVec.ofInt (8 : Nat) (Go.IntKind.wrap Go.IntKind.u8 (↑(BitVec.toNat (BitVec.ofInt (8 : Nat) (Go.IntKind.wrap Go.IntKind.u8 (Int.fdiv (List.getD l3 (Int.toNat n1) (0 : Int)) (64 : Int))) &&& BitVec.ofInt (8 : Nat) (63 : Int))) : Int)))) : Int))), UInt8.ofNat (Int.toNat (Go.IntKind.wrap Go.IntKind.u8 (↑(BitVec.toNat (BitVec.ofInt (8 : Nat) (128 : Int) ||| BitVec.ofInt (8 : Nat) (Go.IntKind.wrap Go.IntKind.u8 (↑(BitVec.toNat (BitVec.ofInt (8 : Nat) (Go.IntKind.wrap Go.IntKind.u8 (List.getD l3 (Int.toNat n1) (0 : Int))) &&& BitVec.ofInt (8 : Nat) (63 : Int))) : Int)))) : Int)))]) * (1 : Nat) ≤ (140737488355328 : Nat))) <|
                need (Decidable.decide (List.length l0 + List.length [UInt8.ofNat (Int.toNat (Go.IntKind.wrap Go.IntKind.u8 (↑(BitVec.toNat (BitVec.ofInt (8 : Nat) (224 : Int) ||| BitVec.ofInt (8 : Nat) (Go.IntKind.wrap Go.IntKind.u8 (Int.fdiv (List.getD l3 (Int.toNat n1) (0 : Int)) (4096 : Int))))) : Int))), UInt8.ofNat (Int.toNat (Go.IntKind.wrap Go.IntKind.u8 (↑(BitVec.toNat (BitVec.ofInt (8 : Nat) (128 : Int) ||| BitVec.ofInt (8 : Nat) (Go.IntKind.wrap Go.IntKind.u8 (↑(BitVec.toNat (BitVec.ofInt (8 : Nat) (Go.IntKind.wrap Go.IntKind.u8 (Int.fdiv (List.getD l3 (Int.toNat n1) (0 : Int)) (64 : Int))) &&& BitVec.ofInt (8 : Nat) (63 : Int))) : Int)))) : Int))), UInt8.ofNat (Int.toNat (Go.IntKind.wrap Go.IntKind.u8 (↑(BitVec.toNat (BitVec.ofInt (8 : Nat) (128 : Int) ||| BitVec.ofInt (8 : Nat) (Go.IntKind.wrap Go.IntKind.u8 (↑(BitVec.toNat (BitVec.ofInt (8 : Nat) (Go.IntKind.wrap Go.IntKind.u8 (List.getD l3 (Int.toNat n1) (0 : Int))) &&& BitVec.ofInt (8 : Nat) (63 : Int))) : Int)))) : Int)))] ≤ (140737488355328 : Nat))) <|
                RL SSw [.str] n 8 1000000 nx m [⟨(.list 5 .byte), (l0 ++ [UInt8.ofNat (Int.toNat (Go.IntKind.wrap Go.IntKind.u8 (↑(BitVec.toNat (BitVec.ofInt (8 : Nat) (224 : Int) ||| BitVec.ofInt (8 : Nat) (Go.IntKind.wrap Go.IntKind.u8 (Int.fdiv (List.getD l3 (Int.toNat n1) (0 : Int)) (4096 : Int))))) : Int))), UInt8.ofNat (Int.toNat (Go.IntKind.wrap Go.IntKind.u8 (↑(BitVec.toNat (BitVec.ofInt (8 : Nat) (128 : Int) ||| BitVec.ofInt (8 : Nat) (Go.IntKind.wrap Go.IntKind.u8 (↑(BitVec.toNat (BitVec.ofInt (8 : Nat) (Go.IntKind.wrap Go.IntKind.u8 (Int.fdiv (List.getD l3 (Int.toNat n1) (0 : Int)) (64 : Int))) &&& BitVec.ofInt (8 : Nat) (63 : Int))) : Int)))) : Int))), UInt8.ofNat (Int.toNat (Go.IntKind.wrap Go.IntKind.u8 (↑(BitVec.toNat (BitVec.ofInt (8 : Nat) (128 : Int) ||| BitVec.ofInt (8 : Nat) (Go.IntKind.wrap Go.IntKind.u8 (↑(BitVec.toNat (BitVec.ofInt (8 : Nat) (Go.IntKind.wrap Go.IntKind.u8 (List.getD l3 (Int.toNat n1) (0 : Int))) &&& BitVec.ofInt (8 : Nat) (63 : Int))) : Int)))) : Int)))] : List UInt8)⟩, ⟨(.int .i64), (Go.IntKind.wrap Go.IntKind.i64 (n1 + (1 : Int)) : Int)⟩, ⟨(.int .i64), (n2 : Int)⟩, ⟨(.list 21 (.int .i32)), (l3 : List Int)⟩]
              else
                bif (Decidable.decide ((65535 : Int) < Go.IntKind.wrap Go.IntKind.u32 (List.getD l3 (Int.toNat n1) (0 : Int))) && Decidable.decide (Go.IntKind.wrap Go.IntKind.u32 (List.getD l3 (Int.toNat n1) (0 : Int)) ≤ (1114111 : Int))) then
                  need (Decidable.decide (Go.IntKind.wrap Go.IntKind.u8 (↑(BitVec.toNat (BitVec.ofInt (8 : Nat) (240 : Int) ||| BitVec.ofInt (8 : Nat) (Go.IntKind.wrap Go.IntKind.u8 (Int.fdiv (List.getD l3 (Int.toNat n1) (0 : Int)) (262144 : Int))))) : Int) < (256 : Int))) <|
                  need (Decidable.decide (Go.IntKind.wrap Go.IntKind.u8 (↑(BitVec.toNat (BitVec.ofInt (8 : Nat) (128 : Int) ||| BitVec.ofInt (8 : Nat) (Go.IntKind.wrap Go.IntKind.u8 (↑(BitVec.toNat (BitVec.ofInt (8 : Nat) (Go.IntKind.wrap Go.IntKind.u8 (Int.fdiv (List.getD l3 (Int.toNat n1) (0 : Int)) (4096 : Int))) &&& BitVec.ofInt (8 : Nat) (63 : Int))) : Int)))) : Int) < (256 : Int))) <|
                  need (Decidable.decide (Go.IntKind.wrap Go.IntKind.u8 (↑(BitVec.toNat (BitVec.ofInt (8 : Nat) (128 : Int) ||| BitVec.ofInt (8 : Nat) (Go.IntKind.wrap Go.IntKind.u8 (↑(BitVec.toNat (BitVec.ofInt (8 : Nat) (Go.IntKind.wrap Go.IntKind.u8 (Int.fdiv (List.getD l3 (Int.toNat n1) (0 : Int)) (64 : Int))) &&& BitVec.ofInt (8 : Nat) (63 : Int))) : Int)))) : Int) < (256 : Int))) <|
                  need (Decidable.decide (Go.IntKind.wrap Go.IntKind.u8 (↑(BitVec.toNat (BitVec.ofInt (8 : Nat) (128 : Int) ||| BitVec.ofInt (8 : Nat) (Go.IntKind.wrap Go.IntKind.u8 (↑(BitVec.toNat (BitVec.ofInt (8 : Nat) (Go.IntKind.wrap Go.IntKind.u8 (List.getD l3 (Int.toNat n1) (0 : Int))) &&& BitVec.ofInt (8 : Nat) (63 : Int))) : Int)))) : Int) < (256 : Int))) <|
                  need (Decidable.decide ((List.length l0 + List.length [UInt8.ofNat (Int.toNat (Go.IntKind.wrap Go.IntKind.u8 (↑(BitVec.toNat (BitVec.ofInt (8 : Nat) (240 : Int) ||| BitVec.ofInt (8 : Nat) (Go.IntKind.wrap Go.IntKind.u8 (Int.fdiv (List.getD l3 (Int.toNat n1) (0 : Int)) (262144 : Int))))) : Int))), UInt8.ofNat (Int.toNat (Go.IntKind.wrap Go.IntKind.u8 (↑(BitVec.toNat (BitVec.ofInt (8 : Nat) (128 : Int) ||| BitVec.ofInt (8 : Nat) (Go.IntKind.wrap Go.IntKind.u8 (↑(BitVec.toNat (BitVec.ofInt (8 : Nat) (Go.IntKind.wrap Go.IntKind.u8 (Int.fdiv (List.getD l3 (Int.toNat n1) (0 : Int)) (4096 : Int))) &&& BitVec.ofInt (8 : Nat) (63 : Int))) : Int)))) : Int))), UInt8.ofNat (Int.toNat (Go.IntKind.wrap Go.IntKind.u8 (↑(BitVec.toNat (BitVec.ofInt (8 : Nat) (128 : Int) ||| BitVec.ofInt (8 : Nat) (Go.IntKind.wrap Go.IntKind.u8 (↑(BitVec.toNat (BitVec.ofInt (8 : Nat) (Go.IntKind.wrap Go.IntKind.u8 (Int.fdiv (List.getD l3 (Int.toNat n1) (0 : Int)) (64 : Int))) &&& BitVec.ofInt (8 : Nat) (63 : Int))) : Int)))) : Int))), UInt8.ofNat (Int.toNat (Go.IntKind.wrap Go.IntKind.u8 (↑(BitVec.toNat (BitVec.ofInt (8 : Nat) (128 : Int) ||| BitVec.ofInt (8 : Nat) (Go.IntKind.wrap Go.IntKind.u8 (↑(BitVec.toNat (BitVec.ofInt (8 : Nat) (Go.IntKind.wrap Go.IntKind.u8 (List.getD l3 (Int.toNat n1) (0 : Int))) &&& BitVec.ofInt (8 : Nat) (63 : Int))) : Int)))) : Int)))]) * (1 : Nat) ≤ (140737488355328 : Nat))) <|
                  need (Decidable.decide (List.length l0 + List.length [UInt8.ofNat (Int.toNat (Go.IntKind.wrap Go.IntKind.u8 (↑(BitVec.toNat (BitVec.ofInt (8 : Nat) (240 : Int) ||| BitVec.ofInt (8 : Nat) (Go.IntKind.wrap Go.IntKind.u8 (Int.fdiv (List.getD l3 (Int.toNat n1) (0 : Int)) (262144 : Int))))) : Int))), UInt8.ofNat (Int.toNat (Go.IntKind.wrap Go.IntKind.u8 (↑(BitVec.toNat (BitVec.ofInt (8 : Nat) (128 : Int) ||| BitVec.ofInt (8 : Nat) (Go.IntKind.wrap Go.IntKind.u8 (↑(BitVec.toNat (BitVec.ofInt (8 : Nat) (Go.IntKind.wrap Go.IntKind.u8 (Int.fdiv (List.getD l3 (Int.toNat n1) (0 : Int)) (4096 : Int))) &&& BitVec.ofInt (8 : Nat) (63 : Int))) : Int)))) : Int))), UInt8.ofNat (Int.toNat (Go.IntKind.wrap Go.IntKind.u8 (↑(BitVec.toNat (BitVec.ofInt (8 : Nat) (128 : Int) ||| BitVec.ofInt (8 : Nat) (Go.IntKind.wrap Go.IntKind.u8 (↑(BitVec.toNat (BitVec.ofInt (8 : Nat) (Go.IntKind.wrap Go.IntKind.u8 (Int.fdiv (List.getD l3 (Int.toNat n1) (0 : Int)) (64 : Int))) &&& BitVec.ofInt (8 : Nat) (63 : Int))) : Int)))) : Int))), UInt8.ofNat (Int.toNat (Go.IntKind.wrap Go.IntKind.u8 (↑(BitVec.toNat (BitVec.ofInt (8 : Nat) (128 : Int) ||| BitVec.ofInt (8 : Nat) (Go.IntKind.wrap Go.IntKind.u8 (↑(BitVec.toNat (BitVec.ofInt (8 : Nat) (Go.IntKind.wrap Go.IntKind.u8 (List.getD l3 (Int.toNat n1) (0 : Int))) &&& BitVec.ofInt (8 : Nat) (63 : Int))) : Int)))) : Int)))] ≤ (140737488355328 : Nat))) <|
                  RL SSw [.str] n 8 1000000 nx m [⟨(.list 5 .byte), (l0 ++ [UInt8.ofNat (Int.toNat (Go.IntKind.wrap Go.IntKind.u8 (↑(BitVec.toNat (BitVec.ofInt (8 : Nat) (240 : Int) ||| BitVec.ofInt (8 : Nat) (Go.IntKind.wrap Go.IntKind.u8 (Int.fdiv (List.getD l3 (Int.toNat n1) (0 : Int)) (262144 : Int))))) : Int))), UInt8.ofNat (Int.toNat (Go.IntKind.wrap Go.IntKind.u8 (↑(BitVec.toNat (BitVec.ofInt (8 : Nat) (128 : Int) ||| BitVec.ofInt (8 : Nat) (Go.IntKind.wrap Go.IntKind.u8 (↑(BitVec.toNat (BitVec.ofInt (8 : Nat) (Go.IntKind.wrap Go.IntKind.u8 (Int.fdiv (List.getD l3 (Int.toNat n1) (0 : Int)) (4096 : Int))) &&& BitVec.ofInt (8 : Nat) (63 : Int))) : Int)))) : Int))), UInt8.ofNat (Int.toNat (Go.IntKind.wrap Go.IntKind.u8 (↑(BitVec.toNat (BitVec.ofInt (8 : Nat) (128 : Int) ||| BitVec.ofInt (8 : Nat) (Go.IntKind.wrap Go.IntKind.u8 (↑(BitVec.toNat (BitVec.ofInt (8 : Nat) (Go.IntKind.wrap Go.IntKind.u8 (Int.fdiv (List.getD l3 (Int.toNat n1) (0 : Int)) (64 : Int))) &&& BitVec.ofInt (8 : Nat) (63 : Int))) : Int)))) : Int))), UInt8.ofNat (Int.toNat (Go.IntKind.wrap Go.IntKind.u8 (↑(BitVec.toNat (BitVec.ofInt (8 : Nat) (128 : Int) ||| BitVec.ofInt (8 : Nat) (Go.IntKind.wrap Go.IntKind.u8 (↑(BitVec.toNat (BitVec.ofInt (8 : Nat) (Go.IntKind.wrap Go.IntKind.u8 (List.getD l3 (Int.toNat n1) (0 : Int))) &&& BitVec.ofInt (8 : Nat) (63 : Int))) : Int)))) : Int)))] : List UInt8)⟩, ⟨(.int .i64), (Go.IntKind.wrap Go.IntKind.i64 (n1 + (1 : Int)) : Int)⟩, ⟨(.int .i64), (n2 : Int)⟩, ⟨(.list 21 (.int .i32)), (l3 : List Int)⟩]
                else
                  need (Decidable.decide ((List.length l0 + (3 : Nat)) * (1 : Nat) ≤ (140737488355328 : Nat))) <|
                  need (Decidable.decide (List.length l0 + (3 : Nat) ≤ (140737488355328 : Nat))) <|
                  RL SSw [.str] n 8 1000000 nx m [⟨(.list 5 .byte), (l0 ++ [(239 : UInt8), (191 : UInt8), (189 : UInt8)] : List UInt8)⟩, ⟨(.int .i64), (Go.IntKind.wrap Go.IntKind.i64 (n1 + (1 : Int)) : Int)⟩, ⟨(.int .i64), (n2 : Int)⟩, ⟨(.list 21 (.int .i32)), (l3 : List Int)⟩]
            else
              bif (Decidable.decide ((57343 : Int) < Go.IntKind.wrap Go.IntKind.u32 (List.getD l3 (Int.toNat n1) (0 : Int))) && Decidable.decide (Go.IntKind.wrap Go.IntKind.u32 (List.getD l3 (Int.toNat n1) (0 : Int)) ≤ (65535 : Int))) then
                need (Decidable.decide (Go.IntKind.wrap Go.IntKind.u8 (↑(BitVec.toNat (BitVec.ofInt (8 : Nat) (224 : Int) ||| BitVec.ofInt (8 : Nat) (Go.IntKind.wrap Go.IntKind.u8 (Int.fdiv (List.getD l3 (Int.toNat n1) (0 : Int)) (4096 : Int))))) : Int) < (256 : Int))) <|
                need (Decidable.decide (Go.IntKind.wrap Go.IntKind.u8 (↑(BitVec.toNat (BitVec.ofInt (8 : Nat) (128 : Int) ||| BitVec.ofInt (8 : Nat) (Go.IntKind.wrap Go.IntKind.u8 (↑(BitVec.toNat (BitVec.ofInt (8 : Nat) (Go.IntKind.wrap Go.IntKind.u8 (Int.fdiv (List.getD l3 (Int.toNat n1) (0 : Int)) (64 : Int))) &&& BitVec.ofInt (8 : Nat) (63 : Int))) : Int)))) : Int) < (256 : Int))) <|
                need (Decidable.decide (Go.IntKind.wrap Go.IntKind.u8 (↑(BitVec.toNat (BitVec.ofInt (8 : Nat) (128 : Int) ||| BitVec.ofInt (8 : Nat) (Go.IntKind.wrap Go.IntKind.u8 (↑(BitVec.toNat (BitVec.ofInt (8 : Nat) (Go.IntKind.wrap Go.IntKind.u8 (List.getD l3 (Int.toNat n1) (0 : Int))) &&& BitVec.ofInt (8 : Nat) (63 : Int))) : Int)))) : Int) < (256 : Int))) <|
                need (Decidable.decide ((List.length l0 + List.length [UInt8.ofNat (Int.toNat (Go.IntKind.wrap Go.IntKind.u8 (↑(BitVec.toNat (BitVec.ofInt (8 : Nat) (224 : Int) ||| BitVec.ofInt (8 : Nat) (Go.IntKind.wrap Go.IntKind.u8 (Int.fdiv (List.getD l3 (Int.toNat n1) (0 : Int)) (4096 : Int))))) : Int))), UInt8.ofNat (Int.toNat (Go.IntKind.wrap Go.IntKind.u8 (↑(BitVec.toNat (BitVec.ofInt (8 : Nat) (128 : Int) ||| BitVec.ofInt (8 : Nat) (Go.IntKind.wrap Go.IntKind.u8 (↑(BitVec.toNat (BitVec.ofInt (8 : Nat) (Go.IntKind.wrap Go.IntKind.u8 (Int.fdiv (List.getD l3 (Int.toNat n1) (0 : Int)) (64 : Int))) &&& BitVec.ofInt (8 : Nat) (63 : Int))) : Int)))) : Int))), UInt8.ofNat (Int.toNat (Go.IntKind.wrap Go.IntKind.u8 (↑(BitVec.toNat (BitVec.ofInt (8 : Nat) (128 : Int) ||| BitVec.ofInt (8 : Nat) (Go.IntKind.wrap Go.IntKind.u8 (↑(BitVec.toNat (BitVec.ofInt (8 : Nat) (Go.IntKind.wrap Go.IntKind.u8 (List.getD l3 (Int.toNat n1) (0 : Int))) &&& BitVec.ofInt (8 : Nat) (63 : Int))) : Int)))) : Int)))]) * (1 : Nat) ≤ (140737488355328 : Nat))) <|
                need (Decidable.decide (List.length l0 + List.length [UInt8.ofNat (Int.toNat (Go.IntKind.wrap Go.IntKind.u8 (↑(BitVec.toNat (BitVec.ofInt (8 : Nat) (224 : Int) ||| BitVec.ofInt (8 : Nat) (Go.IntKind.wrap Go.IntKind.u8 (Int.fdiv (List.getD l3 (Int.toNat n1) (0 : Int)) (4096 : Int))))) : Int))), UInt8.ofNat (Int.toNat (Go.IntKind.wrap Go.IntKind.u8 (↑(BitVec.toNat (BitVec.ofInt (8 : Nat) (128 : Int) ||| BitVec.ofInt (8 : Nat) (Go.IntKind.wrap Go.IntKind.u8 (↑(BitVec.toNat (BitVec.ofInt (8 : Nat) (Go.IntKind.wrap Go.IntKind.u8 (Int.fdiv (List.getD l3 (Int.toNat n1) (0 : Int)) (64 : Int))) &&& BitVec.ofInt (8 : Nat) (63 : Int))) : Int)))) : Int))), UInt8.ofNat (Int.toNat (Go.IntKind.wrap Go.IntKind.u8 (↑(BitVec.toNat (BitVec.ofInt (8 : Nat) (128 : Int) ||| BitVec.ofInt (8 : Nat) (Go.IntKind.wrap Go.IntKind.u8 (↑(BitVec.toNat (BitVec.ofInt (8 : Nat) (Go.IntKind.wrap Go.IntKind.u8 (List.getD l3 (Int.toNat n1) (0 : Int))) &&& BitVec.ofInt (8 : Nat) (63 : Int))) : Int)))) : Int)))] ≤ (140737488355328 : Nat))) <|
                RL SSw [.str] n 8 1000000 nx m [⟨(.list 5 .byte), (l0 ++ [UInt8.ofNat (Int.toNat (Go.IntKind.wrap Go.IntKind.u8 (↑(BitVec.toNat (BitVec.ofInt (8 : Nat) (224 : Int) ||| BitVec.ofInt (8 : Nat) (Go.IntKind.wrap Go.IntKind.u8 (Int.fdiv (List.getD l3 (Int.toNat n1) (0 : Int)) (4096 : Int))))) : Int))), UInt8.ofNat (Int.toNat (Go.IntKind.wrap Go.IntKind.u8 (↑(BitVec.toNat (BitVec.ofInt (8 : Nat) (128 : Int) ||| BitVec.ofInt (8 : Nat) (Go.IntKind.wrap Go.IntKind.u8 (↑(BitVec.toNat (BitVec.ofInt (8 : Nat) (Go.IntKind.wrap Go.IntKind.u8 (Int.fdiv (List.getD l3 (Int.toNat n1) (0 : Int)) (64 : Int))) &&& BitVec.ofInt (8 : Nat) (63 : Int))) : Int)))) : Int))), UInt8.ofNat (Int.toNat (Go.IntKind.wrap Go.IntKind.u8 (↑(BitVec.toNat (BitVec.ofInt (8 : Nat) (128 : Int) ||| BitVec.ofInt (8 : Nat) (Go.IntKind.wrap Go.IntKind.u8 (↑(BitVec.toNat (BitVec.ofInt (8 : Nat) (Go.IntKind.wrap Go.IntKind.u8 (List.getD l3 (Int.toNat n1) (0 : Int))) &&& BitVec.ofInt (8 : Nat) (63 : Int))) : Int)))) : Int)))] : List UInt8)⟩, ⟨(.int .i64), (Go.IntKind.wrap Go.IntKind.i64 (n1 + (1 : Int)) : Int)⟩, ⟨(.int .i64), (n2 : Int)⟩, ⟨(.list 21 (.int .i32)), (l3 : List Int)⟩]
              else
                bif (Decidable.decide ((65535 : Int) < Go.IntKind.wrap Go.IntKind.u32 (List.getD l3 (Int.toNat n1) (0 : Int))) && Decidable.decide (Go.IntKind.wrap Go.IntKind.u32 (List.getD l3 (Int.toNat n1) (0 : Int)) ≤ (1114111 : Int))) then
                  need (Decidable.decide (Go.IntKind.wrap Go.IntKind.u8 (↑(BitVec.toNat (BitVec.ofInt (8 : Nat) (240 : Int) ||| BitVec.ofInt (8 : Nat) (Go.IntKind.wrap Go.IntKind.u8 (Int.fdiv (List.getD l3 (Int.toNat n1) (0 : Int)) (262144 : Int))))) : Int) < (256 : Int))) <|
                  need (Decidable.decide (Go.IntKind.wrap Go.IntKind.u8 (↑(BitVec.toNat (BitVec.ofInt (8 : Nat) (128 : Int) ||| BitVec.ofInt (8 : Nat) (Go.IntKind.wrap Go.IntKind.u8 (↑(BitVec.toNat (BitVec.ofInt (8 : Nat) (Go.IntKind.wrap Go.IntKind.u8 (Int.fdiv (List.getD l3 (Int.toNat n1) (0 : Int)) (4096 : Int))) &&& BitVec.ofInt (8 : Nat) (63 : Int))) : Int)))) : Int) < (256 : Int))) <|
                  need (Decidable.decide (Go.IntKind.wrap Go.IntKind.u8 (↑(BitVec.toNat (BitVec.ofInt (8 : Nat) (128 : Int) ||| BitVec.ofInt (8 : Nat) (Go.IntKind.wrap Go.IntKind.u8 (↑(BitVec.toNat (BitVec.ofInt (8 : Nat) (Go.IntKind.wrap Go.IntKind.u8 (Int.fdiv (List.getD l3 (Int.toNat n1) (0 : Int)) (64 : Int))) &&& BitVec.ofInt (8 : Nat) (63 : Int))) : Int)))) : Int) < (256 : Int))) <|
                  need (Decidable.decide (Go.IntKind.wrap Go.IntKind.u8 (↑(BitVec.toNat (BitVec.ofInt (8 : Nat) (128 : Int) ||| BitVec.ofInt (8 : Nat) (Go.IntKind.wrap Go.IntKind.u8 (↑(BitVec.toNat (BitVec.ofInt (8 : Nat) (Go.IntKind.wrap Go.IntKind.u8 (List.getD l3 (Int.toNat n1) (0 : Int))) &&& BitVec.ofInt (8 : Nat) (63 : Int))) : Int)))) : Int) < (256 : Int))) <|
                  need (Decidable.decide ((List.length l0 + List.length [UInt8.ofNat (Int.toNat (Go.IntKind.wrap Go.IntKind.u8 (↑(BitVec.toNat (BitVec.ofInt (8 : Nat) (240 : Int) ||| BitVec.ofInt (8 : Nat) (Go.IntKind.wrap Go.IntKind.u8 (Int.fdiv (List.getD l3 (Int.toNat n1) (0 : Int)) (262144 : Int))))) : Int))), UInt8.ofNat (Int.toNat (Go.IntKind.wrap Go.IntKind.u8 (↑(BitVec.toNat (BitVec.ofInt (8 : Nat) (128 : Int) ||| BitVec.ofInt (8 : Nat) (Go.IntKind.wrap Go.IntKind.u8 (↑(BitVec.toNat (BitVec.ofInt (8 : Nat) (Go.IntKind.wrap Go.IntKind.u8 (Int.fdiv (List.getD l3 (Int.toNat n1) (0 : Int)) (4096 : Int))) &&& BitVec.ofInt (8 : Nat) (63 : Int))) : Int)))) : Int))), UInt8.ofNat (Int.toNat (Go.IntKind.wrap Go.IntKind.u8 (↑(BitVec.toNat (BitVec.ofInt (8 : Nat) (128 : Int) ||| BitVec.ofInt (8 : Nat) (Go.IntKind.wrap Go.IntKind.u8 (↑(BitVec.toNat (BitVec.ofInt (8 : Nat) (Go.IntKind.wrap Go.IntKind.u8 (Int.fdiv (List.getD l3 (Int.toNat n1) (0 : Int)) (64 : Int))) &&& BitVec.ofInt (8 : Nat) (63 : Int))) : Int)))) : Int))), UInt8.ofNat (Int.toNat (Go.IntKind.wrap Go.IntKind.u8 (↑(BitVec.toNat (BitVec.ofInt (8 : Nat) (128 : Int) ||| BitVec.ofInt (8 : Nat) (Go.IntKind.wrap Go.IntKind.u8 (↑(BitVec.toNat (BitVec.ofInt (8 : Nat) (Go.IntKind.wrap Go.IntKind.u8 (List.getD l3 (Int.toNat n1) (0 : Int))) &&& BitVec.ofInt (8 : Nat) (63 : Int))) : Int)))) : Int)))]) * (1 : Nat) ≤ (140737488355328 : Nat))) <|
                  need (Decidable.decide (List.length l0 + List.length [UInt8.ofNat (Int.toNat (Go.IntKind.wrap Go.IntKind.u8 (↑(BitVec.toNat (BitVec.ofInt (8 : Nat) (240 : Int) ||| BitVec.ofInt (8 : Nat) (Go.IntKind.wrap Go.IntKind.u8 (Int.fdiv (List.getD l3 (Int.toNat n1) (0 : Int)) (262144 : Int))))) : Int))), UInt8.ofNat (Int.toNat (Go.IntKind.wrap Go.IntKind.u8 (↑(BitVec.toNat (BitVec.ofInt (8 : Nat) (128 : Int) ||| BitVec.ofInt (8 : Nat) (Go.IntKind.wrap Go.IntKind.u8 (↑(BitVec.toNat (BitVec.ofInt (8 : Nat) (Go.IntKind.wrap Go.IntKind.u8 (Int.fdiv (List.getD l3 (Int.toNat n1) (0 : Int)) (4096 : Int))) &&& BitVec.ofInt (8 : Nat) (63 : Int))) : Int)))) : Int))), UInt8.ofNat (Int.toNat (Go.IntKind.wrap Go.IntKind.u8 (↑(BitVec.toNat (BitVec.ofInt (8 : Nat) (128 : Int) ||| BitVec.ofInt (8 : Nat) (Go.IntKind.wrap Go.IntKind.u8 (↑(BitVec.toNat (BitVec.ofInt (8 : Nat) (Go.IntKind.wrap Go.IntKind.u8 (Int.fdiv (List.getD l3 (Int.toNat n1) (0 : Int)) (64 : Int))) &&& BitVec.ofInt (8 : Nat) (63 : Int))) : Int)))) : Int))), UInt8.ofNat (Int.toNat (Go.IntKind.wrap Go.IntKind.u8 (↑(BitVec.toNat (BitVec.ofInt (8 : Nat) (128 : Int) ||| BitVec.ofInt (8 : Nat) (Go.IntKind.wrap Go.IntKind.u8 (↑(BitVec.toNat (BitVec.ofInt (8 : Nat) (Go.IntKind.wrap Go.IntKind.u8 (List.getD l3 (Int.toNat n1) (0 : Int))) &&& BitVec.ofInt (8 : Nat) (63 : Int))) : Int)))) : Int)))] ≤ (140737488355328 : Nat))) <|
                  RL SSw [.str] n 8 1000000 nx m [⟨(.list 5 .byte), (l0 ++ [UInt8.ofNat (Int.toNat (Go.IntKind.wrap Go.IntKind.u8 (↑(BitVec.toNat (BitVec.ofInt (8 : Nat) (240 : Int) ||| BitVec.ofInt (8 : Nat) (Go.IntKind.wrap Go.IntKind.u8 (Int.fdiv (List.getD l3 (Int.toNat n1) (0 : Int)) (262144 : Int))))) : Int))), UInt8.ofNat (Int.toNat (Go.IntKind.wrap Go.IntKind.u8 (↑(BitVec.toNat (BitVec.ofInt (8 : Nat) (128 : Int) ||| BitVec.ofInt (8 : Nat) (Go.IntKind.wrap Go.IntKind.u8 (↑(BitVec.toNat (BitVec.ofInt (8 : Nat) (Go.IntKind.wrap Go.IntKind.u8 (Int.fdiv (List.getD l3 (Int.toNat n1) (0 : Int)) (4096 : Int))) &&& BitVec.ofInt (8 : Nat) (63 : Int))) : Int)))) : Int))), UInt8.ofNat (Int.toNat (Go.IntKind.wrap Go.IntKind.u8 (↑(BitVec.toNat (BitVec.ofInt (8 : Nat) (128 : Int) ||| BitVec.ofInt (8 : Nat) (Go.IntKind.wrap Go.IntKind.u8 (↑(BitVec.toNat (BitVec.ofInt (8 : Nat) (Go.IntKind.wrap Go.IntKind.u8 (Int.fdiv (List.getD l3 (Int.toNat n1) (0 : Int)) (64 : Int))) &&& BitVec.ofInt (8 : Nat) (63 : Int))) : Int)))) : Int))), UInt8.ofNat (Int.toNat (Go.IntKind.wrap Go.IntKind.u8 (↑(BitVec.toNat (BitVec.ofInt (8 : Nat) (128 : Int) ||| BitVec.ofInt (8 : Nat) (Go.IntKind.wrap Go.IntKind.u8 (↑(BitVec.toNat (BitVec.ofInt (8 : Nat) (Go.IntKind.wrap Go.IntKind.u8 (List.getD l3 (Int.toNat n1) (0 : Int))) &&& BitVec.ofInt (8 : Nat) (63 : Int))) : Int)))) : Int)))] : List UInt8)⟩, ⟨(.int .i64), (Go.IntKind.wrap Go.IntKind.i64 (n1 + (1 : Int)) : Int)⟩, ⟨(.int .i64), (n2 : Int)⟩, ⟨(.list 21 (.int .i32)), (l3 : List Int)⟩]
                else
                  need (Decidable.decide ((List.length l0 + (3 : Nat)) * (1 : Nat) ≤ (140737488355328 : Nat))) <|
                  need (Decidable.decide (List.length l0 + (3 : Nat) ≤ (140737488355328 : Nat))) <|
                  RL SSw [.str] n 8 1000000 nx m [⟨(.list 5 .byte), (l0 ++ [(239 : UInt8), (191 : UInt8), (189 : UInt8)] : List UInt8)⟩, ⟨(.int .i64), (Go.IntKind.wrap Go.IntKind.i64 (n1 + (1 : Int)) : Int)⟩, ⟨(.int .i64), (n2 : Int)⟩, ⟨(.list 21 (.int .i32)), (l3 : List Int)⟩]
      else
        RL SSw [.str] n 8 1000000 nx m [⟨(.list 5 .byte), (l0 : List UInt8)⟩, ⟨(.int .i64), (Go.IntKind.wrap Go.IntKind.i64 (n1 + (1 : Int)) : Int)⟩, ⟨(.int .i64), (n2 : Int)⟩, ⟨(.list 21 (.int .i32)), (l3 : List Int)⟩]
    else
      need (Decidable.decide ((0 : Nat) < List.length l0)) <|
      need (Decidable.decide ((↑(List.length l0) : Int) = (↑(List.length l0) : Int))) <|
      need (Decidable.decide ((0 : Nat) < List.length l0)) <|
      need (Decidable.decide (List.length l0 ≤ (9223372036854775807 : Nat))) <|
      some [⟨.str, (l0 : List UInt8)⟩]) := by kernel_rfl
theorem Sw_fn (n : Nat) (l0 : List Int) :
    fnY SSw loopY [(.hole (.list 21 (.int .i32)))] [.str] n 8 [⟨(.list 21 (.int .i32)), l0⟩] =
    (RL SSw [.str] n 8 0 noNx n [⟨(.int .i64), ((0 : Int) : Int)⟩, ⟨(.int .i64), ((↑(List.length l0) : Int) : Int)⟩, ⟨(.list 21 (.int .i32)), (l0 : List Int)⟩]) := by kernel_rfl

end Go.Proofs.Ytigfncnlhccaeaa

/-
  Chapter 4: what is shown of runes; how many columns texts take.
-/
namespace Go.Proofs.Ytigfncnlhccaeaa
open Go Go.Am

/-- What is shown of runes. -/
def shown : List Int → List UInt8
  | [] => []
  | x :: r => if 0 ≤ ofSpec x then encode x ++ shown r else shown r
theorem shown_app : ∀ a b : List Int, shown (a ++ b) = shown a ++ shown b
  | [], b => rfl
  | x :: r, b => by
    simp only [List.cons_append, shown, shown_app r b]
    split
    · rw [List.append_assoc]
    · rfl
theorem shown_len : ∀ l : List Int, (shown l).length ≤ 4 * l.length
  | [] => by simp [shown]
  | x :: r => by
    have := shown_len r
    have := enc_len4 x
    simp only [shown, List.length_cons]
    split
    · rw [List.length_append]; omega
    · omega

theorem vis_val {x : Int} (h : 0 ≤ ofSpec x) (hb : -2147483648 ≤ x ∧ x ≤ 2147483647) : ValR x := by
  unfold ofSpec at h
  split at h
  · omega
  · rename_i hh
    simp only [isIn, hiddenL, List.any_cons, List.any_nil, Bool.or_false, Bool.or_eq_true, Bool.and_eq_true, decide_eq_true_eq, not_or, not_and] at hh
    unfold ValR
    omega

theorem drop_get {l : List Int} {i : Nat} (h : i < l.length) : l.drop i = l.getD i 0 :: l.drop (i + 1) := by
  rw [List.drop_eq_getElem_cons h]
  simp [List.getD_eq_getElem?_getD, h]

/-- All are of 32 bits. -/
def I32 (l : List Int) : Prop := ∀ i, -2147483648 ≤ l.getD i 0 ∧ l.getD i 0 ≤ 2147483647

theorem sw2 (n : Nat) (nx : Nat → List Dy → Option (List Dy)) (l : List Int) (hl : I32 l) (h0 : l.length ≤ 1000) : ∀ (m i : Nat) (acc : List UInt8), i ≤ l.length → l.length < i + m → acc ≠ [] → acc.length + 4 * (l.length - i) ≤ 100000 →
    RL SSw [.str] n 8 1000000 nx m [⟨.list 5 .byte, acc⟩, ⟨.int .i64, (i : Int)⟩, ⟨.int .i64, (l.length : Int)⟩, ⟨.list 21 (.int .i32), l⟩] = some [⟨.str, acc ++ shown (l.drop i)⟩]
  | 0, i, acc, h1, h2, _, _ => by omega
  | m + 1, i, acc, h1, h2, hne, hb => by
    have hpos : 0 < acc.length := List.length_pos_iff.2 hne
    rw [Sw_L1000000]
    by_cases hi : i < l.length
    · have e1 : IntKind.i64.wrap ((i : Int) + 1) = ((i + 1 : Nat) : Int) := by rw [w64 (by omega)]; omega
      rw [drop_get hi, Int.toNat_natCast, e1]
      have hx := hl i
      simp only [shown]
      generalize l.getD i 0 = x at hx ⊢
      refine bpd (by omega) (nd (by omega) (nd (by omega) (nd hi ?_)))
      by_cases ho : 0 ≤ ofSpec x
      · have hv := vis_val ho hx
        have hv' := hv
        unfold ValR at hv'
        rw [if_pos ho]
        refine bpd ho ?_
        have ih := fun a ha => sw2 n nx l hl h0 m (i + 1) (acc ++ a) (by omega) (by omega) (by simp [hne]) ha
        simp only [List.append_assoc] at ih
        rw [wu32 (n := x) (by omega)]
        have hlen := enc_len4 x
        by_cases c1 : x ≤ 127
        · have e2 := put1 hv c1
          refine bpd c1 (nd (by rw [w8 (by omega)]; omega) (nd (by rw [w8 (by omega)]; omega) ?_))
          rw [e2]
          exact nd (by omega) (nd (by omega) (ih _ (by rw [List.length_append]; omega)))
        refine bnd c1 ?_
        by_cases c2 : x ≤ 2047
        · have e2 := put2 hv (by omega) c2
          have f1 : 0 ≤ Int.fdiv x 64 ∧ Int.fdiv x 64 < 32 := by rw [fdv 64 (by omega) (by omega)]; omega
          refine bpd c2 ?_
          rw [head2 f1.1 f1.2, cont_i (y := x) (by omega), e2]
          exact nd (by omega) (nd (by omega) (nd (by omega) (nd (by omega) (ih _ (by rw [List.length_append]; omega)))))
        refine bnd c2 ?_
        by_cases c3 : x ≤ 65535
        · have e2 := put3 hv (by omega) c3
          have f1 : 0 ≤ Int.fdiv x 64 := by rw [fdv 64 (by omega) (by omega)]; omega
          have f2 : 0 ≤ Int.fdiv x 4096 ∧ Int.fdiv x 4096 < 16 := by rw [fdv 4096 (by omega) (by omega)]; omega
          rw [head3 f2.1 f2.2, cont_i (y := x) (by omega), cont_i (y := Int.fdiv x 64) f1, e2]
          by_cases c4 : x < 55296
          · refine bpd c4 (bpd c4 ?_)
            exact nd (by omega) (nd (by omega) (nd (by omega) (nd (by omega) (nd (by omega) (ih _ (by rw [List.length_append]; omega))))))
          · refine bnd c4 (bp (by simp; omega) ?_)
            exact nd (by omega) (nd (by omega) (nd (by omega) (nd (by omega) (nd (by omega) (ih _ (by rw [List.length_append]; omega))))))
        · have e2 := put4 hv (by omega)
          have f1 : 0 ≤ Int.fdiv x 64 := by rw [fdv 64 (by omega) (by omega)]; omega
          have f2 : 0 ≤ Int.fdiv x 4096 := by rw [fdv 4096 (by omega) (by omega)]; omega
          have f3 : 0 ≤ Int.fdiv x 262144 ∧ Int.fdiv x 262144 < 8 := by rw [fdv 262144 (by omega) (by omega)]; omega
          rw [head4 f3.1 f3.2, cont_i (y := x) (by omega), cont_i (y := Int.fdiv x 64) f1, cont_i (y := Int.fdiv x 4096) f2, e2]
          refine bnd (by omega) (bn (by simp; omega) (bp (by simp; omega) ?_))
          exact nd (by omega) (nd (by omega) (nd (by omega) (nd (by omega) (nd (by omega) (nd (by omega) (ih _ (by rw [List.length_append]; omega)))))))
      · rw [if_neg ho]
        refine bnd ho ?_
        exact sw2 n nx l hl h0 m (i + 1) acc (by omega) (by omega) hne (by omega)
    · have : l.drop i = [] := List.drop_eq_nil_iff.2 (by omega)
      rw [this]
      refine bnd (by omega) (nd hpos (nd rfl (nd hpos (nd (by omega) ?_))))
      simp [shown]

theorem sw1 (n : Nat) (nx : Nat → List Dy → Option (List Dy)) (l : List Int) (hl : I32 l) (h0 : l.length ≤ 1000) : ∀ (m i : Nat), i ≤ l.length → l.length < i + m →
    RL SSw [.str] n 8 0 nx m [⟨.int .i64, (i : Int)⟩, ⟨.int .i64, (l.length : Int)⟩, ⟨.list 21 (.int .i32), l⟩] = some [⟨.str, shown (l.drop i)⟩]
  | 0, i, h1, h2 => by omega
  | m + 1, i, h1, h2 => by
    rw [Sw_L0]
    by_cases hi : i < l.length
    · have e1 : IntKind.i64.wrap ((i : Int) + 1) = ((i + 1 : Nat) : Int) := by rw [w64 (by omega)]; omega
      rw [drop_get hi, Int.toNat_natCast, e1]
      have hx := hl i
      simp only [shown]
      generalize l.getD i 0 = x at hx ⊢
      refine bpd (by omega) (nd (by omega) (nd (by omega) (nd hi ?_)))
      by_cases ho : 0 ≤ ofSpec x
      · have hv := vis_val ho hx
        have hv' := hv
        unfold ValR at hv'
        rw [if_pos ho]
        refine bpd ho ?_
        have hlen := enc_len4 x
        have hne : encode x ≠ [] := by intro e; rw [e] at hlen; simp at hlen
        have ih := sw2 n nx l hl h0 m (i + 1) (encode x) (by omega) (by omega) hne (by omega)
        rw [wu32 (n := x) (by omega)]
        by_cases c1 : x ≤ 127
        · have e2 := put1 hv c1
          refine bpd c1 (nd (by rw [w8 (by omega)]; omega) (nd (by rw [w8 (by omega)]; omega) ?_))
          rw [e2]
          exact ih
        refine bnd c1 ?_
        by_cases c2 : x ≤ 2047
        · have e2 := put2 hv (by omega) c2
          have f1 : 0 ≤ Int.fdiv x 64 ∧ Int.fdiv x 64 < 32 := by rw [fdv 64 (by omega) (by omega)]; omega
          refine bpd c2 ?_
          rw [head2 f1.1 f1.2, cont_i (y := x) (by omega), e2]
          exact nd (by omega) (nd (by omega) ih)
        refine bnd c2 ?_
        by_cases c3 : x ≤ 65535
        · have e2 := put3 hv (by omega) c3
          have f1 : 0 ≤ Int.fdiv x 64 := by rw [fdv 64 (by omega) (by omega)]; omega
          have f2 : 0 ≤ Int.fdiv x 4096 ∧ Int.fdiv x 4096 < 16 := by rw [fdv 4096 (by omega) (by omega)]; omega
          rw [head3 f2.1 f2.2, cont_i (y := x) (by omega), cont_i (y := Int.fdiv x 64) f1, e2]
          by_cases c4 : x < 55296
          · refine bpd c4 (bpd c4 ?_)
            exact nd (by omega) (nd (by omega) (nd (by omega) ih))
          · refine bnd c4 (bp (by simp; omega) ?_)
            exact nd (by omega) (nd (by omega) (nd (by omega) ih))
        · have e2 := put4 hv (by omega)
          have f1 : 0 ≤ Int.fdiv x 64 := by rw [fdv 64 (by omega) (by omega)]; omega
          have f2 : 0 ≤ Int.fdiv x 4096 := by rw [fdv 4096 (by omega) (by omega)]; omega
          have f3 : 0 ≤ Int.fdiv x 262144 ∧ Int.fdiv x 262144 < 8 := by rw [fdv 262144 (by omega) (by omega)]; omega
          rw [head4 f3.1 f3.2, cont_i (y := x) (by omega), cont_i (y := Int.fdiv x 64) f1, cont_i (y := Int.fdiv x 4096) f2, e2]
          refine bnd (by omega) (bn (by simp; omega) (bp (by simp; omega) ?_))
          exact nd (by omega) (nd (by omega) (nd (by omega) (nd (by omega) ih)))
      · rw [if_neg ho]
        refine bnd ho ?_
        exact sw1 n nx l hl h0 m (i + 1) (by omega) (by omega)
    · have : l.drop i = [] := List.drop_eq_nil_iff.2 (by omega)
      rw [this]
      exact bnd (by omega) rfl

theorem sw_ok (l : List Int) (hl : I32 l) (h0 : l.length ≤ 1000) : ∃ n, fnY SSw loopY [.hole (.list 21 (.int .i32))] [.str] n 8 [⟨.list 21 (.int .i32), l⟩] = some [⟨.str, shown l⟩] := by
  refine ⟨l.length + 1, ?_⟩
  rw [Sw_fn]
  exact sw1 _ _ l hl h0 _ 0 (by omega) (by omega)

end Go.Proofs.Ytigfncnlhccaeaa

/-
  Chapter 4: contracts of Shown and Text.
-/
namespace Go.Proofs.Ytigfncnlhccaeaa
open Go Go.Am

/-- The columns of a rune, of a text. -/
def wr (x : Int) : Int := if (0 : Int) < ofSpec x then ofSpec x else 0
theorem of_bounds (x : Int) : -1 ≤ ofSpec x ∧ ofSpec x ≤ 2 := by
  unfold ofSpec
  repeat' split
  all_goals omega
theorem wr_bounds (x : Int) : 0 ≤ wr x ∧ wr x ≤ 2 := by
  have := of_bounds x
  unfold wr
  split <;> omega
def txt : Nat → List UInt8 → Int
  | 0, _ => 0
  | _ + 1, [] => 0
  | k + 1, a :: r => wr ((Am.decode (a :: r)).1 : Int) + txt k ((a :: r).drop (Am.decode (a :: r)).2)
def textW (s : List UInt8) : Int := txt s.length s
theorem dec_bounds (a : UInt8) (r : List UInt8) : 1 ≤ (Am.decode (a :: r)).2 ∧ (Am.decode (a :: r)).2 ≤ r.length + 1 := by
  unfold Am.decode
  dsimp only
  repeat' split
  all_goals (try simp only [Bool.and_eq_true, decide_eq_true_eq] at *)
  all_goals (constructor <;> omega)
theorem txt_fuel : ∀ (k j : Nat) (s : List UInt8), s.length ≤ k → s.length ≤ j → txt k s = txt j s
  | 0, 0, s, _, _ => rfl
  | 0, j + 1, s, h, _ => by
    obtain rfl : s = [] := List.eq_nil_of_length_eq_zero (by omega)
    rfl
  | k + 1, 0, s, _, h => by
    obtain rfl : s = [] := List.eq_nil_of_length_eq_zero (by omega)
    rfl
  | k + 1, j + 1, [], _, _ => rfl
  | k + 1, j + 1, a :: r, h1, h2 => by
    have hb := dec_bounds a r
    simp only [txt]
    rw [txt_fuel k j _ (by rw [List.length_drop]; simp only [List.length_cons] at *; omega) (by rw [List.length_drop]; simp only [List.length_cons] at *; omega)]
theorem textW_cons (a : UInt8) (r : List UInt8) : textW (a :: r) = wr ((Am.decode (a :: r)).1 : Int) + textW ((a :: r).drop (Am.decode (a :: r)).2) := by
  have hb := dec_bounds a r
  unfold textW
  simp only [List.length_cons, txt]
  rw [txt_fuel _ _ _ (by rw [List.length_drop]; simp only [List.length_cons]; omega) (Nat.le_refl _)]
theorem textW_bounds : ∀ (k : Nat) (s : List UInt8), 0 ≤ txt k s ∧ txt k s ≤ 2 * (k : Int)
  | 0, _ => by simp [txt]
  | _ + 1, [] => by simp only [txt]; omega
  | k + 1, a :: r => by
    have := textW_bounds k ((a :: r).drop (Am.decode (a :: r)).2)
    have := wr_bounds ((Am.decode (a :: r)).1 : Int)
    simp only [txt]
    omega
theorem textW_le (s : List UInt8) : 0 ≤ textW s ∧ textW s ≤ 2 * (s.length : Int) := textW_bounds _ s

/-- A rune ahead. -/
theorem textW_enc {x : Int} (h : ValR x) (s : List UInt8) : textW (encode x ++ s) = wr x + textW s := by
  have hd := dec_enc h s
  have hl := enc_len4 x
  have hx : ((x.toNat : Nat) : Int) = x := by unfold ValR at h; omega
  match he : encode x with
  | [] => rw [he] at hl; simp at hl
  | a :: r =>
    rw [he] at hd
    rw [List.cons_append] at hd ⊢
    rw [textW_cons, hd, hx]
    simp

theorem textW_shown : ∀ (l : List Int) (_ : I32 l) (s : List UInt8), textW (shown l ++ s) = textW (shown l) + textW s
  | [], _, s => by simp [shown, textW, txt]
  | x :: r, hl, s => by
    have hx : -2147483648 ≤ x ∧ x ≤ 2147483647 := hl 0
    have ih := fun s => textW_shown r (fun i => hl (i + 1)) s
    simp only [shown]
    split
    · rename_i ho
      have hv := vis_val ho hx
      rw [List.append_assoc, textW_enc hv, textW_enc hv, ih s]
      omega
    · exact ih s

theorem tx_loop (n : Nat) (nx : Nat → List Dy → Option (List Dy)) (s : List UInt8) (hs : s.length ≤ 10000) : ∀ (m p : Nat) (w : Int), p ≤ s.length → s.length < p + m → 0 ≤ w → w + 2 * ((s.length : Int) - p) ≤ 100000 →
    RL STx [.int .i64] n 11 0 nx m [⟨.str, s⟩, ⟨.int .i64, (p : Int)⟩, ⟨.int .i64, w⟩] = some [⟨.int .i64, w + textW (s.drop p)⟩]
  | 0, p, w, h1, h2, _, _ => by omega
  | m + 1, p, w, h1, h2, h3, h4 => by
    rw [Tx_L0]
    simp only [Int.toNat_natCast]
    by_cases hp : p < s.length
    · refine bpd hp ?_
      obtain ⟨a, r, hd⟩ : ∃ a r, s.drop p = a :: r := ⟨_, _, List.drop_eq_getElem_cons hp⟩
      have hb := dec_bounds a r
      have hl : r.length + 1 = s.length - p := by
        have := congrArg List.length hd
        simp only [List.length_drop, List.length_cons] at this
        omega
      have hw := wr_bounds ((Am.decode (a :: r)).1 : Int)
      rw [hd, textW_cons, ← hd, List.drop_drop]
      rw [hd]
      show RL STx [.int .i64] n 11 0 nx m [⟨.str, s⟩, ⟨.int .i64, ((p + (Am.decode (a :: r)).2 : Nat) : Int)⟩, ⟨.int .i64, IntKind.i64.wrap (w + wr ((Am.decode (a :: r)).1 : Int))⟩] = _
      rw [w64 (by omega), tx_loop n nx s hs m _ _ (by omega) (by omega) (by omega) (by omega)]
      exact ret1 (dyI (by omega))
    · refine bnd hp ?_
      have : s.drop p = [] := List.drop_eq_nil_iff.2 (by omega)
      rw [this]
      exact ret1 (dyI (by simp [textW, txt]))
theorem tx_ok (s : List UInt8) (hs : s.length ≤ 10000) : ∃ n, fnY STx loopY [.hole .str] [.int .i64] n 11 [⟨.str, s⟩] = some [⟨.int .i64, textW s⟩] := by
  refine ⟨s.length + 1, ?_⟩
  rw [Tx_fn]
  have := tx_loop (s.length + 1) noNx s hs (s.length + 1) 0 0 (by omega) (by omega) (by omega) (by omega)
  exact this.trans (ret1 (dyI (by simp)))

def i32B (l : List Int) : Bool := l.all fun x => decide (-2147483648 ≤ x) && decide (x ≤ 2147483647)
theorem i32_of {l : List Int} (h : i32B l = true) : I32 l := by
  intro i
  rw [List.getD_eq_getElem?_getD]
  cases hi : l[i]? with
  | none => simp
  | some x =>
    have := List.all_eq_true.1 h x (List.mem_of_getElem? hi)
    simp only [Bool.and_eq_true, decide_eq_true_eq] at this
    simpa using this
def cSw : Ctr := ctr1 (.list 21 (.int .i32)) [.str] (fun (l : List Int) => [i32B l, decide (l.length ≤ 1000)]) fun (l : List Int) => [⟨.str, shown l⟩]
def cTx : Ctr := ctr1 .str [.int .i64] (fun (s : List UInt8) => [decide (s.length ≤ 10000)]) fun (s : List UInt8) => [⟨.int .i64, textW s⟩]
theorem cSw_ok : CtrOk E3 8 cSw := ctr1_ok (S := SSw) (t := .list 21 (.int .i32)) (S_ok ctrs0_ok) (fun _ => rfl) rfl fun (l : List Int) h => by
  simp only [List.all_cons, id, decide_eq_true_eq, List.all_nil, Bool.and_true, Bool.and_eq_true] at h
  exact sw_ok l (i32_of h.1) h.2
theorem cTx_ok : CtrOk E3 11 cTx := ctr1_ok (S := STx) (t := .str) (S_ok ctrs0_ok) (fun _ => rfl) rfl fun (s : List UInt8) h => by
  simp only [List.all_cons, id, decide_eq_true_eq, List.all_nil, Bool.and_true] at h
  exact tx_ok s h
def ctrs1 : FuncId → List Ctr := addCtr (addCtr ctrs0 8 cSw) 11 cTx
theorem ctrs1_ok : ∀ g ct, ct ∈ ctrs1 g → CtrOk E3 g ct := addCtr_ok (addCtr_ok ctrs0_ok cSw_ok) cTx_ok
end Go.Proofs.Ytigfncnlhccaeaa

/-
  Printed by a tool of this session: what functions come to.
-/
namespace Go.Proofs.Ytigfncnlhccaeaa
open Go Go.Am
set_option linter.unusedVariables false
def La_T0 : Tm := { tmps := [(9, (.hole (.int .i64))), (8, .h 0), (7, (.hole (.int .i64))), (6, (.hole .str)), (5, (.hole .str)), (1, (.hole (.list 21 (.int .i32)))), (0, (.hole (.list 21 (.int .i32))))], objs := [.lst 21 (.int .i32) true], prep := [(8, 21)] }
def tmLa : FuncId → Nat → Option Tm := fun g i => match Nat.beq g 4 with
  | true => match Nat.beq i 0 with | true => some La_T0 | false => none
  | false => none
noncomputable def SLa : SE := { E := Go.Proofs.Ytigfncnlhccaeaa.E3, ctr := Go.Proofs.Ytigfncnlhccaeaa.ctrs1, tm := tmLa, un := 300 }
theorem La_L0 (n : Nat) (nx : Nat → List Dy → Option (List Dy)) (m : Nat) (l0 : List Int) (n1 : Int) (n2 : Int) (s3 : List UInt8) (s4 : List UInt8) (l5 : List Int) (l6 : List Int) :
    RL SLa [.bool] n 4 0 nx (m + 1) [⟨(.list 21 (.int .i32)), l0⟩, ⟨(.int .i64), n1⟩, ⟨(.int .i64), n2⟩, ⟨.str, s3⟩, ⟨.str, s4⟩, ⟨(.list 21 (.int .i32)), l5⟩, ⟨(.list 21 (.int .i32)), l6⟩] =
    (bif (Decidable.decide (n1 < (↑(List.length l6) : Int))) then
      need (Decidable.decide ((0 : Int) ≤ n1)) <|
      need (Decidable.decide (n1 < (↑(List.length l6) : Int))) <|
      need (Decidable.decide (Int.toNat n1 < List.length l6)) <|
      need (Decidable.decide (Go.Proofs.Ytigfncnlhccaeaa.ofSpec (List.getD l6 (Int.toNat n1) (0 : Int)) < (-1 : Int)) || Decidable.decide ((2 : Int) < Go.Proofs.Ytigfncnlhccaeaa.ofSpec (List.getD l6 (Int.toNat n1) (0 : Int))) || Decidable.decide ((0 : Int) ≤ n1)) <|
      need (Decidable.decide (Go.Proofs.Ytigfncnlhccaeaa.ofSpec (List.getD l6 (Int.toNat n1) (0 : Int)) < (-1 : Int)) || Decidable.decide ((2 : Int) < Go.Proofs.Ytigfncnlhccaeaa.ofSpec (List.getD l6 (Int.toNat n1) (0 : Int))) || Decidable.decide (n1 < (↑(List.length l6) : Int))) <|
      need (Decidable.decide (Go.Proofs.Ytigfncnlhccaeaa.ofSpec (List.getD l6 (Int.toNat n1) (0 : Int)) < (-1 : Int)) || Decidable.decide ((2 : Int) < Go.Proofs.Ytigfncnlhccaeaa.ofSpec (List.getD l6 (Int.toNat n1) (0 : Int))) || Decidable.decide (Int.toNat n1 < List.length l6)) <|
      need (Decidable.decide (Go.Proofs.Ytigfncnlhccaeaa.ofSpec (List.getD l6 (Int.toNat n1) (0 : Int)) < (-1 : Int)) || Decidable.decide ((2 : Int) < Go.Proofs.Ytigfncnlhccaeaa.ofSpec (List.getD l6 (Int.toNat n1) (0 : Int))) || (!Go.Proofs.Ytigfncnlhccaeaa.markS (List.getD l6 (Int.toNat n1) (0 : Int)) || Decidable.decide ((0 : Int) ≤ n1))) <|
      need (Decidable.decide (Go.Proofs.Ytigfncnlhccaeaa.ofSpec (List.getD l6 (Int.toNat n1) (0 : Int)) < (-1 : Int)) || Decidable.decide ((2 : Int) < Go.Proofs.Ytigfncnlhccaeaa.ofSpec (List.getD l6 (Int.toNat n1) (0 : Int))) || (!Go.Proofs.Ytigfncnlhccaeaa.markS (List.getD l6 (Int.toNat n1) (0 : Int)) || Decidable.decide (n1 < (↑(List.length l6) : Int)))) <|
      need (Decidable.decide (Go.Proofs.Ytigfncnlhccaeaa.ofSpec (List.getD l6 (Int.toNat n1) (0 : Int)) < (-1 : Int)) || Decidable.decide ((2 : Int) < Go.Proofs.Ytigfncnlhccaeaa.ofSpec (List.getD l6 (Int.toNat n1) (0 : Int))) || (!Go.Proofs.Ytigfncnlhccaeaa.markS (List.getD l6 (Int.toNat n1) (0 : Int)) || Decidable.decide (Int.toNat n1 < List.length l6))) <|
      need (Decidable.decide (Go.Proofs.Ytigfncnlhccaeaa.ofSpec (List.getD l6 (Int.toNat n1) (0 : Int)) < (-1 : Int)) || Decidable.decide ((2 : Int) < Go.Proofs.Ytigfncnlhccaeaa.ofSpec (List.getD l6 (Int.toNat n1) (0 : Int))) || Go.Proofs.Ytigfncnlhccaeaa.markS (List.getD l6 (Int.toNat n1) (0 : Int)) && Go.Proofs.Ytigfncnlhccaeaa.wideS (List.getD l6 (Int.toNat n1) (0 : Int)) || Decidable.decide ((0 : Int) ≤ n1)) <|
      need (Decidable.decide (Go.Proofs.Ytigfncnlhccaeaa.ofSpec (List.getD l6 (Int.toNat n1) (0 : Int)) < (-1 : Int)) || Decidable.decide ((2 : Int) < Go.Proofs.Ytigfncnlhccaeaa.ofSpec (List.getD l6 (Int.toNat n1) (0 : Int))) || Go.Proofs.Ytigfncnlhccaeaa.markS (List.getD l6 (Int.toNat n1) (0 : Int)) && Go.Proofs.Ytigfncnlhccaeaa.wideS (List.getD l6 (Int.toNat n1) (0 : Int)) || Decidable.decide (n1 < (↑(List.length l6) : Int))) <|
      need (Decidable.decide (Go.Proofs.Ytigfncnlhccaeaa.ofSpec (List.getD l6 (Int.toNat n1) (0 : Int)) < (-1 : Int)) || Decidable.decide ((2 : Int) < Go.Proofs.Ytigfncnlhccaeaa.ofSpec (List.getD l6 (Int.toNat n1) (0 : Int))) || Go.Proofs.Ytigfncnlhccaeaa.markS (List.getD l6 (Int.toNat n1) (0 : Int)) && Go.Proofs.Ytigfncnlhccaeaa.wideS (List.getD l6 (Int.toNat n1) (0 : Int)) || Decidable.decide (Int.toNat n1 < List.length l6)) <|
      need (Decidable.decide (Go.Proofs.Ytigfncnlhccaeaa.ofSpec (List.getD l6 (Int.toNat n1) (0 : Int)) < (-1 : Int)) || Decidable.decide ((2 : Int) < Go.Proofs.Ytigfncnlhccaeaa.ofSpec (List.getD l6 (Int.toNat n1) (0 : Int))) || Go.Proofs.Ytigfncnlhccaeaa.markS (List.getD l6 (Int.toNat n1) (0 : Int)) && Go.Proofs.Ytigfncnlhccaeaa.wideS (List.getD l6 (Int.toNat n1) (0 : Int)) || !(Go.Proofs.Ytigfncnlhccaeaa.ofSpec (List.getD l6 (Int.toNat n1) (0 : Int)) == (0 : Int)) == Go.Proofs.Ytigfncnlhccaeaa.markS (List.getD l6 (Int.toNat n1) (0 : Int)) || Decidable.decide ((0 : Int) ≤ n1)) <|
      need (Decidable.decide (Go.Proofs.Ytigfncnlhccaeaa.ofSpec (List.getD l6 (Int.toNat n1) (0 : Int)) < (-1 : Int)) || Decidable.decide ((2 : Int) < Go.Proofs.Ytigfncnlhccaeaa.ofSpec (List.getD l6 (Int.toNat n1) (0 : Int))) || Go.Proofs.Ytigfncnlhccaeaa.markS (List.getD l6 (Int.toNat n1) (0 : Int)) && Go.Proofs.Ytigfncnlhccaeaa.wideS (List.getD l6 (Int.toNat n1) (0 : Int)) || !(Go.Proofs.Ytigfncnlhccaeaa.ofSpec (List.getD l6 (Int.toNat n1) (0 : Int)) == (0 : Int)) == Go.Proofs.Ytigfncnlhccaeaa.markS (List.getD l6 (Int.toNat n1) (0 : Int)) || Decidable.decide (n1 < (↑(List.length l6) : Int))) <|
      need (Decidable.decide (Go.Proofs.Ytigfncnlhccaeaa.ofSpec (List.getD l6 (Int.toNat n1) (0 : Int)) < (-1 : Int)) || Decidable.decide ((2 : Int) < Go.Proofs.Ytigfncnlhccaeaa.ofSpec (List.getD l6 (Int.toNat n1) (0 : Int))) || Go.Proofs.Ytigfncnlhccaeaa.markS (List.getD l6 (Int.toNat n1) (0 : Int)) && Go.Proofs.Ytigfncnlhccaeaa.wideS (List.getD l6 (Int.toNat n1) (0 : Int)) || !(Go.Proofs.Ytigfncnlhccaeaa.ofSpec (List.getD l6 (Int.toNat n1) (0 : Int)) == (0 : Int)) == Go.Proofs.Ytigfncnlhccaeaa.markS (List.getD l6 (Int.toNat n1) (0 : Int)) || Decidable.decide (Int.toNat n1 < List.length l6)) <|
      bif (Decidable.decide (Go.Proofs.Ytigfncnlhccaeaa.ofSpec (List.getD l6 (Int.toNat n1) (0 : Int)) < (-1 : Int)) || Decidable.decide ((2 : Int) < Go.Proofs.Ytigfncnlhccaeaa.ofSpec (List.getD l6 (Int.toNat n1) (0 : Int))) || Go.Proofs.Ytigfncnlhccaeaa.markS (List.getD l6 (Int.toNat n1) (0 : Int)) && Go.Proofs.Ytigfncnlhccaeaa.wideS (List.getD l6 (Int.toNat n1) (0 : Int)) || !(Go.Proofs.Ytigfncnlhccaeaa.ofSpec (List.getD l6 (Int.toNat n1) (0 : Int)) == (0 : Int)) == Go.Proofs.Ytigfncnlhccaeaa.markS (List.getD l6 (Int.toNat n1) (0 : Int)) || !(Go.Proofs.Ytigfncnlhccaeaa.ofSpec (List.getD l6 (Int.toNat n1) (0 : Int)) == (2 : Int)) == Go.Proofs.Ytigfncnlhccaeaa.wideS (List.getD l6 (Int.toNat n1) (0 : Int))) then
        some [⟨.bool, (Bool.false : Bool)⟩]
      else
        bif (Decidable.decide ((0 : Int) ≤ Go.Proofs.Ytigfncnlhccaeaa.ofSpec (List.getD l6 (Int.toNat n1) (0 : Int)))) then
          need (Decidable.decide ((0 : Int) ≤ n1)) <|
          need (Decidable.decide (n1 < (↑(List.length l6) : Int))) <|
          need (Decidable.decide (Int.toNat n1 < List.length l6)) <|
          need (Decidable.decide ((List.length l0 + List.length [List.getD l6 (Int.toNat n1) (0 : Int)]) * (4 : Nat) ≤ (140737488355328 : Nat))) <|
          need (Decidable.decide (List.length l0 + List.length [List.getD l6 (Int.toNat n1) (0 : Int)] ≤ (140737488355328 : Nat))) <|
          RL SLa [.bool] n 4 0 nx m [⟨(.list 21 (.int .i32)), (l0 ++ [List.getD l6 (Int.toNat n1) (0 : Int)] : List Int)⟩, ⟨(.int .i64), (Go.IntKind.wrap Go.IntKind.i64 (n1 + (1 : Int)) : Int)⟩, ⟨(.int .i64), (Go.IntKind.wrap Go.IntKind.i64 (n2 + Go.Proofs.Ytigfncnlhccaeaa.ofSpec (List.getD l6 (Int.toNat n1) (0 : Int))) : Int)⟩, ⟨.str, (s3 : List UInt8)⟩, ⟨.str, (s4 : List UInt8)⟩, ⟨(.list 21 (.int .i32)), (l5 : List Int)⟩, ⟨(.list 21 (.int .i32)), (l6 : List Int)⟩]
        else
          RL SLa [.bool] n 4 0 nx m [⟨(.list 21 (.int .i32)), (l0 : List Int)⟩, ⟨(.int .i64), (Go.IntKind.wrap Go.IntKind.i64 (n1 + (1 : Int)) : Int)⟩, ⟨(.int .i64), (n2 : Int)⟩, ⟨.str, (s3 : List UInt8)⟩, ⟨.str, (s4 : List UInt8)⟩, ⟨(.list 21 (.int .i32)), (l5 : List Int)⟩, ⟨(.list 21 (.int .i32)), (l6 : List Int)⟩]
    else
      need (Decidable.decide (List.length s4 ≤ (10000 : Nat))) <|
      bif (Go.Proofs.Ytigfncnlhccaeaa.textW s4 == n2) then
        need (!s4 == Go.Am.runesS l0 || Decidable.decide (List.length s4 + List.length s3 ≤ (9223372036854775807 : Nat))) <|
        need (!s4 == Go.Am.runesS l0 || Decidable.decide (List.length (s4 ++ s3) ≤ (10000 : Nat))) <|
        need (!s4 == Go.Am.runesS l0 || Decidable.decide (List.length s3 ≤ (10000 : Nat))) <|
        bif (s4 == Go.Am.runesS l0 && Go.Proofs.Ytigfncnlhccaeaa.textW (s4 ++ s3) == Go.IntKind.wrap Go.IntKind.i64 (n2 + Go.Proofs.Ytigfncnlhccaeaa.textW s3)) then
          need (Decidable.decide (List.length l6 * (4 : Nat) ≤ (140737488355328 : Nat))) <|
          need (Decidable.decide (List.length l6 ≤ (140737488355328 : Nat))) <|
          need (Decidable.decide ((List.length l6 + List.length l5) * (4 : Nat) ≤ (140737488355328 : Nat))) <|
          need (Decidable.decide (List.length l6 + List.length l5 ≤ (140737488355328 : Nat))) <|
          need (Go.Proofs.Ytigfncnlhccaeaa.i32B (l6 ++ l5)) <|
          need (Decidable.decide (List.length (l6 ++ l5) ≤ (1000 : Nat))) <|
          need (Decidable.decide (List.length s4 + List.length s3 ≤ (9223372036854775807 : Nat))) <|
          need (!Go.Proofs.Ytigfncnlhccaeaa.shown (l6 ++ l5) == s4 ++ s3 || Decidable.decide (List.length s4 + (6 : Nat) ≤ (9223372036854775807 : Nat))) <|
          need (!Go.Proofs.Ytigfncnlhccaeaa.shown (l6 ++ l5) == s4 ++ s3 || Decidable.decide (List.length (s4 ++ [(204 : UInt8), (129 : UInt8), (226 : UInt8), (128 : UInt8), (139 : UInt8), (7 : UInt8)]) + List.length s3 ≤ (9223372036854775807 : Nat))) <|
          need (!Go.Proofs.Ytigfncnlhccaeaa.shown (l6 ++ l5) == s4 ++ s3 || Decidable.decide (List.length (s4 ++ [(204 : UInt8), (129 : UInt8), (226 : UInt8), (128 : UInt8), (139 : UInt8), (7 : UInt8)] ++ s3) ≤ (10000 : Nat))) <|
          need (!Go.Proofs.Ytigfncnlhccaeaa.shown (l6 ++ l5) == s4 ++ s3 || Decidable.decide (List.length s3 ≤ (10000 : Nat))) <|
          some [⟨.bool, (Go.Proofs.Ytigfncnlhccaeaa.shown (l6 ++ l5) == s4 ++ s3 && Go.Proofs.Ytigfncnlhccaeaa.textW (s4 ++ [(204 : UInt8), (129 : UInt8), (226 : UInt8), (128 : UInt8), (139 : UInt8), (7 : UInt8)] ++ s3) == Go.IntKind.wrap Go.IntKind.i64 (n2 + Go.Proofs.Ytigfncnlhccaeaa.textW s3) : Bool)⟩]
        else
          some [⟨.bool, (Bool.false && Go.Proofs.Ytigfncnlhccaeaa.textW (s4 ++ [(204 : UInt8), (129 : UInt8), (226 : UInt8), (128 : UInt8), (139 : UInt8), (7 : UInt8)] ++ s3) == Go.IntKind.wrap Go.IntKind.i64 (n2 + Go.Proofs.Ytigfncnlhccaeaa.textW s3) : Bool)⟩]
      else
        some [⟨.bool, (Bool.false && Go.Proofs.Ytigfncnlhccaeaa.textW (s4 ++ [(204 : UInt8), (129 : UInt8), (226 : UInt8), (128 : UInt8), (139 : UInt8), (7 : UInt8)] ++ s3) == Go.IntKind.wrap Go.IntKind.i64 (n2 + Go.Proofs.Ytigfncnlhccaeaa.textW s3) : Bool)⟩]) := by kernel_rfl
theorem La_fn (n : Nat) (l0 : List Int) (l1 : List Int) :
    fnY SLa loopY [(.hole (.list 21 (.int .i32))), (.hole (.list 21 (.int .i32)))] [.bool] n 4 [⟨(.list 21 (.int .i32)), l0⟩, ⟨(.list 21 (.int .i32)), l1⟩] =
    (need (Decidable.decide ((0 : Int) ≤ if (60 : Int) < (↑(List.length l0) : Int) then (60 : Int) else (↑(List.length l0) : Int))) <|
    need (Decidable.decide ((if (60 : Int) < (↑(List.length l0) : Int) then (60 : Int) else (↑(List.length l0) : Int)) ≤ (↑(List.length l0) : Int))) <|
    need (Decidable.decide ((0 : Int) ≤ if (60 : Int) < (↑(List.length l1) : Int) then (60 : Int) else (↑(List.length l1) : Int))) <|
    need (Decidable.decide ((if (60 : Int) < (↑(List.length l1) : Int) then (60 : Int) else (↑(List.length l1) : Int)) ≤ (↑(List.length l1) : Int))) <|
    need (Go.Proofs.Ytigfncnlhccaeaa.i32B (List.take (Int.toNat (if (60 : Int) < (↑(List.length l0) : Int) then (60 : Int) else (↑(List.length l0) : Int))) l0)) <|
    need (Decidable.decide (List.length (List.take (Int.toNat (if (60 : Int) < (↑(List.length l0) : Int) then (60 : Int) else (↑(List.length l0) : Int))) l0) ≤ (1000 : Nat))) <|
    need (Go.Proofs.Ytigfncnlhccaeaa.i32B (List.take (Int.toNat (if (60 : Int) < (↑(List.length l1) : Int) then (60 : Int) else (↑(List.length l1) : Int))) l1)) <|
    need (Decidable.decide (List.length (List.take (Int.toNat (if (60 : Int) < (↑(List.length l1) : Int) then (60 : Int) else (↑(List.length l1) : Int))) l1) ≤ (1000 : Nat))) <|
    RL SLa [.bool] n 4 0 noNx n [⟨(.list 21 (.int .i32)), ([] : List Int)⟩, ⟨(.int .i64), ((0 : Int) : Int)⟩, ⟨(.int .i64), ((0 : Int) : Int)⟩, ⟨.str, (Go.Proofs.Ytigfncnlhccaeaa.shown (List.take (Int.toNat (if (60 : Int) < (↑(List.length l1) : Int) then (60 : Int) else (↑(List.length l1) : Int))) l1) : List UInt8)⟩, ⟨.str, (Go.Proofs.Ytigfncnlhccaeaa.shown (List.take (Int.toNat (if (60 : Int) < (↑(List.length l0) : Int) then (60 : Int) else (↑(List.length l0) : Int))) l0) : List UInt8)⟩, ⟨(.list 21 (.int .i32)), (List.take (Int.toNat (if (60 : Int) < (↑(List.length l1) : Int) then (60 : Int) else (↑(List.length l1) : Int))) l1 : List Int)⟩, ⟨(.list 21 (.int .i32)), (List.take (Int.toNat (if (60 : Int) < (↑(List.length l0) : Int) then (60 : Int) else (↑(List.length l0) : Int))) l0 : List Int)⟩]) := by kernel_rfl

end Go.Proofs.Ytigfncnlhccaeaa

/-
  Chapter 4: texts of runes, one behind the other, take as many columns as both.
-/
namespace Go.Proofs.Ytigfncnlhccaeaa
open Go Go.Am

theorem or_r {a b : Bool} (h : b = true) : (a || b) = true := by rw [h, Bool.or_true]

theorem hid_no {x : Int} (h : isIn hiddenL x = true) : isIn marksL x = false ∧ isIn widesL x = false := by
  simp only [isIn, hiddenL, List.any_cons, List.any_nil, Bool.or_false, Bool.or_eq_true, Bool.and_eq_true, decide_eq_true_eq] at h
  constructor
  · simp only [isIn, marksL, List.any_cons, List.any_nil, Bool.or_false, Bool.or_eq_false_iff, Bool.and_eq_false_iff, decide_eq_false_iff_not]
    omega
  · simp only [isIn, widesL, List.any_cons, List.any_nil, Bool.or_false, Bool.or_eq_false_iff, Bool.and_eq_false_iff, decide_eq_false_iff_not]
    omega
theorem tells (x : Int) : (decide (ofSpec x < (-1 : Int)) || decide ((2 : Int) < ofSpec x) || markS x && wideS x || !(ofSpec x == (0 : Int)) == markS x || !(ofSpec x == (2 : Int)) == wideS x) = false := by
  unfold markS wideS
  cases h : isIn hiddenL x with
  | true =>
    obtain ⟨h1, h2⟩ := hid_no h
    have : ofSpec x = -1 := by unfold ofSpec; rw [if_pos h]
    rw [this, h1, h2]; rfl
  | false =>
    cases h1 : isIn marksL x with
    | true =>
      have : ofSpec x = 0 := by unfold ofSpec; rw [if_neg (by simp [h]), if_pos h1]
      rw [this]; cases isIn widesL x <;> rfl
    | false =>
      cases h2 : isIn widesL x with
      | true =>
        have : ofSpec x = 2 := by unfold ofSpec; rw [if_neg (by simp [h]), if_neg (by simp [h1]), if_pos h2]
        rw [this]; rfl
      | false =>
        have : ofSpec x = 1 := by unfold ofSpec; rw [if_neg (by simp [h]), if_neg (by simp [h1]), if_neg (by simp [h2])]
        rw [this]; rfl

theorem I32.take {l : List Int} (h : I32 l) (k : Nat) : I32 (l.take k) := by
  intro i
  by_cases hi : i < k
  · have : (l.take k).getD i 0 = l.getD i 0 := by simp [List.getD_eq_getElem?_getD, List.getElem?_take_of_lt hi]
    rw [this]; exact h i
  · have : (l.take k).getD i 0 = 0 := by
      rw [List.getD_eq_getElem?_getD, List.getElem?_eq_none_iff.2 (by rw [List.length_take]; omega)]
      rfl
    rw [this]; omega
theorem take_get {l : List Int} {i : Nat} (h : i < l.length) : l.take (i + 1) = l.take i ++ [l.getD i 0] := by
  rw [List.take_succ_eq_append_getElem h]
  simp [List.getD_eq_getElem?_getD, h]
theorem odd_text (s : List UInt8) : textW ([204, 129, 226, 128, 139, 7] ++ s) = textW s := by
  have e : ([204, 129, 226, 128, 139, 7] : List UInt8) ++ s = encode 769 ++ (encode 8203 ++ (encode 7 ++ s)) := rfl
  have w1 : wr 769 = 0 := by kernel_rfl
  have w2 : wr 8203 = 0 := by kernel_rfl
  have w3 : wr 7 = 0 := by kernel_rfl
  rw [e, textW_enc (by unfold ValR; omega), textW_enc (by unfold ValR; omega), textW_enc (by unfold ValR; omega), w1, w2, w3]
  omega

theorem la_loop (n : Nat) (l p : List Int) (hl : I32 l) (hp : I32 p) (hi32 : i32B (l ++ p) = true) (h0 : l.length ≤ 60) (h0p : p.length ≤ 60) : ∀ (m i : Nat) (kept : List Int) (w : Int), i ≤ l.length → l.length < i + m → runesS kept = shown (l.take i) → w = textW (shown (l.take i)) → kept.length ≤ i →
    RL SLa [.bool] n 4 0 noNx m [⟨.list 21 (.int .i32), kept⟩, ⟨.int .i64, (i : Int)⟩, ⟨.int .i64, w⟩, ⟨.str, shown p⟩, ⟨.str, shown l⟩, ⟨.list 21 (.int .i32), p⟩, ⟨.list 21 (.int .i32), l⟩] = some [⟨.bool, true⟩]
  | 0, i, kept, w, h1, h2, _, _, _ => by omega
  | m + 1, i, kept, w, h1, h2, h3, h4, h5 => by
    rw [La_L0]
    have sl := shown_len l
    have sp := shown_len p
    by_cases hi : i < l.length
    · have e1 : IntKind.i64.wrap ((i : Int) + 1) = ((i + 1 : Nat) : Int) := by rw [w64 (by omega)]; omega
      have hx := hl i
      have ht := take_get hi
      rw [Int.toNat_natCast, e1]
      generalize l.getD i 0 = x at hx ht ⊢
      have d1 : decide ((0 : Int) ≤ (i : Int)) = true := decide_eq_true (by omega)
      have d2 : decide ((i : Int) < (l.length : Int)) = true := decide_eq_true (by omega)
      have d3 : decide (i < l.length) = true := decide_eq_true hi
      refine bp d2 (np d1 (np d2 (np d3 (np (or_r d1) (np (or_r d2) (np (or_r d3) (np (or_r (or_r d1)) (np (or_r (or_r d2)) (np (or_r (or_r d3)) (np (or_r d1) (np (or_r d2) (np (or_r d3) (np (or_r d1) (np (or_r d2) (np (or_r d3) (bn (tells x) ?_))))))))))))))))
      by_cases ho : 0 ≤ ofSpec x
      · have hv := vis_val ho hx
        have hb := of_bounds x
        have hs : shown (l.take (i + 1)) = shown (l.take i) ++ encode x := by
          rw [ht, shown_app]
          simp [shown, ho]
        have hw : textW (shown (l.take (i + 1))) = w + ofSpec x := by
          have e2 : textW (encode x) = wr x := by
            have := textW_enc hv []
            simpa [textW, txt] using this
          have e3 : wr x = ofSpec x := by unfold wr; split <;> omega
          rw [hs, textW_shown _ (hl.take i), e2, e3, h4]
        have hle := textW_le (shown (l.take i))
        have hsl := shown_len (l.take i)
        have hlt : (l.take i).length ≤ 60 := by rw [List.length_take]; omega
        refine bpd ho (np d1 (np d2 (np d3 (nd (by simp; omega) (nd (by simp; omega) ?_)))))
        rw [w64 (n := w + ofSpec x) (by omega)]
        refine la_loop n l p hl hp hi32 h0 h0p m (i + 1) _ _ (by omega) (by omega) ?_ hw.symm (by simp; omega)
        rw [hs, ← h3]
        simp [runesS]
      · refine bnd ho ?_
        have hs : shown (l.take (i + 1)) = shown (l.take i) := by
          rw [ht, shown_app]
          simp [shown, ho]
        exact la_loop n l p hl hp hi32 h0 h0p m (i + 1) _ _ (by omega) (by omega) (by rw [hs]; exact h3) (by rw [hs]; exact h4) (by omega)
    · have e : l.take i = l := List.take_of_length_le (by omega)
      rw [e] at h3 h4
      have t1 := textW_le (shown l)
      have t2 := textW_le (shown p)
      refine bnd (by omega) (nd (by omega) (bp (by rw [h4]; simp) ?_))
      have c1 : (shown l ++ shown p).length ≤ 10000 := by rw [List.length_append]; omega
      refine np (or_r (decide_eq_true (by omega))) (np (or_r (decide_eq_true c1)) (np (or_r (decide_eq_true (by omega))) (bp ?_ ?_)))
      · rw [h3, textW_shown _ hl, w64 (by omega), h4]; simp
      refine nd (by omega) (nd (by omega) (nd (by omega) (nd (by omega) (np hi32 (nd (by rw [List.length_append]; omega) (nd (by omega) (np (or_r (decide_eq_true (by omega))) (np (or_r (decide_eq_true ?_)) (np (or_r (decide_eq_true ?_)) (np (or_r (decide_eq_true (by omega))) ?_))))))))))
      · rw [List.length_append]; simp; omega
      · rw [List.length_append, List.length_append]; simp; omega
      · have f1 : textW (shown l ++ [204, 129, 226, 128, 139, 7] ++ shown p) = w + textW (shown p) := by
          rw [List.append_assoc, textW_shown _ hl, odd_text, h4]
        refine ret1 (dyB ?_)
        rw [shown_app, f1, w64 (by omega)]
        simp

abbrev tysAdds : List Ty := [.list 21 (.int .i32), .list 21 (.int .i32)]
theorem i32B_of {l : List Int} (h : ∀ x ∈ l, OkTy (.int .i32) x) : i32B l = true := by
  unfold i32B
  rw [List.all_eq_true]
  intro x hx
  have := h x hx
  simp only [OkTy] at this
  have e1 : IntKind.i32.min = -2147483648 := by kernel_rfl
  have e2 : IntKind.i32.max = 2147483647 := by kernel_rfl
  rw [e1, e2] at this
  simp only [Bool.and_eq_true, decide_eq_true_eq]
  exact this
theorem i32B_app {a b : List Int} (h1 : i32B a = true) (h2 : i32B b = true) : i32B (a ++ b) = true := by
  unfold i32B at *
  rw [List.all_append, h1, h2]; rfl
theorem adds_law (ds : List Dy) (h : OkDs tysAdds ds) : ∃ n, fnY SLa loopY (tysAdds.map .hole) [.bool] n 4 ds = some [⟨.bool, true⟩] := by
  obtain ⟨l0, _, rfl, o1, l1, _, rfl, o2, rfl⟩ := h
  refine ⟨100, ?_⟩
  show fnY SLa loopY [.hole (.list 21 (.int .i32)), .hole (.list 21 (.int .i32))] [.bool] 100 4 [⟨.list 21 (.int .i32), l0⟩, ⟨.list 21 (.int .i32), l1⟩] = _
  have b0 := cutMin_le (K := 60) (by omega) (List.length l0)
  have b1 := cutMin_le (K := 60) (by omega) (List.length l1)
  rw [La_fn, need_dec b0.1, need_dec b0.2, need_dec b1.1, need_dec b1.2, cutMin (K := 60) 60 rfl l0, cutMin (K := 60) 60 rfl l1]
  have i0 : i32B (l0.take 60) = true := i32B_of fun x hx => o1.2 x (List.mem_of_mem_take hx)
  have i1 : i32B (l1.take 60) = true := i32B_of fun x hx => o2.2 x (List.mem_of_mem_take hx)
  have n0 : (l0.take 60).length ≤ 60 := by rw [List.length_take]; omega
  have n1 : (l1.take 60).length ≤ 60 := by rw [List.length_take]; omega
  rw [need_pos i0, need_dec (by omega), need_pos i1, need_dec (by omega)]
  exact la_loop 100 _ _ (i32_of i0) (i32_of i1) (i32B_app i0 i1) n0 n1 100 0 [] 0 (by omega) (by omega) (by simp [runesS, shown]) (by simp [shown, textW, txt]) (by simp)
end Go.Proofs.Ytigfncnlhccaeaa
