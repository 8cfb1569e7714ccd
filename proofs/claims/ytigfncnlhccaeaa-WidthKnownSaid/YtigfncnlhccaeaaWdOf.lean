/-
  The walks of width.Of and what it calls.
-/
import Derived.Test.YtigfncnlhccaeaaWdEnv
import Derived.Test.YtigfncnlhccaeaaAmSepH
namespace Go.Proofs.Ytigfncnlhccaeaa
open Go Go.Am

def cmpSpec (a b x : Int) : Int := if b < x then -1 else if a > x then 1 else 0

theorem f21_ok (a b x : Int) (H : List AObj) : Gives E 21 [.agg [.int .i32 a, .int .i32 b], .int .i32 x] H (.pure (.int .i64 (cmpSpec a b x))) := by
  refine Gives.walk [] rfl Try.func21 rfl rfl rfl rfl (by simp [keysB]) (by simp) ?_
  repeat' (first
    | refine Run.seq ?_
    | refine Run.region rfl ?_
    | refine Run.drawn rfl rfl rfl ?_
    | refine Run.block ?_
    | refine Run.condT rfl ?_
    | refine Run.condF rfl ?_
    | refine Run.skip ?_
    | refine Run.ret ?_
    | refine Run.exit ?_
    | refine Run.label ?_
    | refine Done.seq ?_
    | refine Done.seqE ?_
    | refine Done.seqR ?_
    | refine Done.blockN ?_
    | refine Done.blockR ?_
    | refine Done.hit ?_
    | refine Done.miss rfl ?_
    | refine Done.invE ?_
    | refine Done.invR ?_
    | refine RunO.nil ?_
    | refine RunO.move rfl rfl rfl rfl ?_
    | refine RunO.assign rfl rfl rfl rfl ?_
    | refine RunO.load 0 rfl rfl rfl rfl rfl rfl ?_
    | refine RunO.load 1 rfl rfl rfl rfl rfl rfl ?_
    | refine RunO.load 2 rfl rfl rfl rfl rfl rfl ?_
    | refine RunO.load 3 rfl rfl rfl rfl rfl rfl ?_
    | refine RunO.load 4 rfl rfl rfl rfl rfl rfl ?_
    | refine RunO.indexAddr rfl rfl rfl rfl rfl (by omega) rfl rfl rfl ?_
    | refine RunO.box rfl rfl rfl rfl rfl rfl (fun _ => ?_)
    | refine RunO.alloc rfl rfl rfl rfl rfl rfl (fun _ => ?_)
    | refine RunO.store 0 rfl rfl rfl rfl rfl rfl (by decide) (by decide) rfl rfl ?_
    | refine RunO.store 1 rfl rfl rfl rfl rfl rfl (by decide) (by decide) rfl rfl ?_
    | refine RunO.store 2 rfl rfl rfl rfl rfl rfl (by decide) (by decide) rfl rfl ?_
    | refine RunO.store 3 rfl rfl rfl rfl rfl rfl (by decide) (by decide) rfl rfl ?_
    | refine RunO.store 4 rfl rfl rfl rfl rfl rfl (by decide) (by decide) rfl rfl ?_
    | refine RunO.cmpT rfl (fun _ => rfl) rfl rfl (by omega) ?_
    | refine RunO.cmpF rfl (fun _ => rfl) rfl rfl (by omega) ?_
    | refine RunO.cmp rfl (fun _ => rfl) rfl rfl (fun _ => ?_) (fun _ => ?_)
    | refine RunO.bin rfl rfl rfl (fun _ _ => rfl) (IntWalk.i64_in _ (by omega)) rfl rfl ?_
    | refine RunO.conv rfl rfl rfl rfl (IntWalk.i64_in _ (by omega)) rfl rfl ?_
    | refine RunO.bin rfl rfl rfl (fun _ _ => rfl) (IntWalk.i32_in _ (by omega)) rfl rfl ?_
    | refine RunO.conv rfl rfl rfl rfl (IntWalk.i32_in _ (by omega)) rfl rfl ?_
    | refine RunO.bin rfl rfl rfl (fun _ _ => rfl) (IntWalk.u8_in _ (by omega)) rfl rfl ?_
    | refine RunO.conv rfl rfl rfl rfl (IntWalk.u8_in _ (by omega)) rfl rfl ?_
    | refine RunO.bin rfl rfl rfl (fun _ _ => rfl) (IntWalk.u64_in _ (by omega)) rfl rfl ?_
    | refine RunO.conv rfl rfl rfl rfl (IntWalk.u64_in _ (by omega)) rfl rfl ?_
    | refine RunO.bin rfl rfl rfl (fun _ _ => rfl) (IntWalk.u32_in _ (by omega)) rfl rfl ?_
    | refine RunO.conv rfl rfl rfl rfl (IntWalk.u32_in _ (by omega)) rfl rfl ?_
    | refine RunO.bin rfl rfl rfl (fun _ _ => rfl) (IntWalk.u16_in _ (by omega)) rfl rfl ?_
    | refine RunO.conv rfl rfl rfl rfl (IntWalk.u16_in _ (by omega)) rfl rfl ?_
    | refine RunO.val rfl (fun _ => rfl) rfl rfl ?_
    | refine RunO.no rfl rfl rfl ?_
    | refine RunQ.nil ?_
    | refine RunQ.move rfl rfl rfl rfl ?_
    | refine RunQ.assign rfl rfl rfl rfl ?_
    | refine RunQ.load 0 rfl rfl rfl rfl rfl rfl ?_
    | refine RunQ.load 1 rfl rfl rfl rfl rfl rfl ?_
    | refine RunQ.load 2 rfl rfl rfl rfl rfl rfl ?_
    | refine RunQ.load 3 rfl rfl rfl rfl rfl rfl ?_
    | refine RunQ.load 4 rfl rfl rfl rfl rfl rfl ?_
    | refine RunQ.indexAddr rfl rfl rfl rfl rfl (by omega) rfl rfl rfl ?_
    | refine RunQ.cmpT rfl (fun _ => rfl) rfl rfl (by omega) ?_
    | refine RunQ.cmpF rfl (fun _ => rfl) rfl rfl (by omega) ?_
    | refine RunQ.cmp rfl (fun _ => rfl) rfl rfl (fun _ => ?_) (fun _ => ?_)
    | refine RunQ.bin rfl rfl rfl (fun _ _ => rfl) (IntWalk.i64_in _ (by omega)) rfl rfl ?_
    | refine RunQ.conv rfl rfl rfl rfl (IntWalk.i64_in _ (by omega)) rfl rfl ?_
    | refine RunQ.bin rfl rfl rfl (fun _ _ => rfl) (IntWalk.i32_in _ (by omega)) rfl rfl ?_
    | refine RunQ.conv rfl rfl rfl rfl (IntWalk.i32_in _ (by omega)) rfl rfl ?_
    | refine RunQ.bin rfl rfl rfl (fun _ _ => rfl) (IntWalk.u8_in _ (by omega)) rfl rfl ?_
    | refine RunQ.conv rfl rfl rfl rfl (IntWalk.u8_in _ (by omega)) rfl rfl ?_
    | refine RunQ.bin rfl rfl rfl (fun _ _ => rfl) (IntWalk.u64_in _ (by omega)) rfl rfl ?_
    | refine RunQ.conv rfl rfl rfl rfl (IntWalk.u64_in _ (by omega)) rfl rfl ?_
    | refine RunQ.bin rfl rfl rfl (fun _ _ => rfl) (IntWalk.u32_in _ (by omega)) rfl rfl ?_
    | refine RunQ.conv rfl rfl rfl rfl (IntWalk.u32_in _ (by omega)) rfl rfl ?_
    | refine RunQ.bin rfl rfl rfl (fun _ _ => rfl) (IntWalk.u16_in _ (by omega)) rfl rfl ?_
    | refine RunQ.conv rfl rfl rfl rfl (IntWalk.u16_in _ (by omega)) rfl rfl ?_
    | refine RunQ.val rfl rfl (fun _ => rfl) rfl rfl ?_
    | refine RunQ.no rfl rfl rfl ?_)
  all_goals refine Done.pure (.inr rfl) (fun _ => rfl) ?_ rfl
  all_goals simp only [tupV, cmpSpec, *, if_true, if_false]

def flat : List (Int × Int) → List V
  | [] => []
  | s :: r => .int .i32 s.1 :: .int .i32 s.2 :: flat r

theorem flat_len : ∀ l : List (Int × Int), (flat l).length = l.length * 2
  | [] => rfl
  | s :: r => by simp only [flat, List.length_cons, flat_len r]; omega

theorem flat_at : ∀ (l : List (Int × Int)) (i : Nat) (s : Int × Int), l[i]? = some s → ((flat l).drop (i * 2)).take 2 = [.int .i32 s.1, .int .i32 s.2]
  | [], i, s, h => by simp at h
  | u :: r, 0, s, h => by simp at h; subst h; simp [flat]
  | u :: r, i + 1, s, h => by
    have := flat_at r i s (by simpa using h)
    rw [show (i + 1) * 2 = i * 2 + 2 by omega]
    simpa [flat] using this

theorem flat_load (l : List (Int × Int)) (i : Nat) (s : Int × Int) (h : l[i]? = some s) : loadC E.P 34 (flat l) (0 + i * 2) = some (.agg [.int .i32 s.1, .int .i32 s.2]) := by
  have hl : i < l.length := (List.getElem?_eq_some_iff.mp h).1
  have e1 : isAggT E.P 34 = some true := by kernel_rfl
  have e2 : sizeT E.P 34 = some 2 := by kernel_rfl
  unfold loadC
  simp only [e1, e2, Nat.zero_add, flat_at l i s h, flat_len]
  rw [if_pos (by omega)]

def isIn (l : List (Int × Int)) (x : Int) : Bool := l.any fun s => decide (s.1 ≤ x) && decide (x ≤ s.2)

def Rising (l : List (Int × Int)) : Prop := (∀ (i : Nat) s, l[i]? = some s → s.1 ≤ s.2) ∧ ∀ (i j : Nat) s u, l[i]? = some s → l[j]? = some u → i < j → s.2 < u.1

def headS (k : Nat) (l : List (Int × Int)) (x : Int) (cp : Option Nat) (e : TypeId) (m : Am.Mode) (fz : Bool) (a : Nat × Nat) : SA :=
  ⟨[(9, .int .i64 a.1), (10, .int .i64 a.2), (8, .int .i64 l.length), (0, .slice k 0 l.length cp), (1, .int .i32 x), (2, .func 21 [] [])], [(false, k, .cells (flat l) e m fz)], []⟩

theorem cmp_neg {a b x : Int} : cmpSpec a b x < 0 ↔ b < x := by
  unfold cmpSpec; repeat' split
  all_goals omega

theorem cmp_zero {a b x : Int} : cmpSpec a b x = 0 ↔ ¬ b < x ∧ a ≤ x := by
  unfold cmpSpec; repeat' split
  all_goals omega

theorem isIn_of {l : List (Int × Int)} {x : Int} {i : Nat} {s : Int × Int} (h : l[i]? = some s) (h1 : s.1 ≤ x) (h2 : ¬ s.2 < x) : isIn l x = true := by
  unfold isIn
  rw [List.any_eq_true]
  exact ⟨s, List.mem_of_getElem? h, by simp only [Bool.and_eq_true, decide_eq_true_eq]; omega⟩

theorem not_isIn {l : List (Int × Int)} {x : Int} (i : Nat) (hr : Rising l) (h3 : ∀ (k : Nat) s, l[k]? = some s → k < i → s.2 < x) (h4 : ∀ s, l[i]? = some s → x < s.1) : isIn l x = false := by
  unfold isIn
  rw [List.any_eq_false]
  intro s hs
  obtain ⟨k, hk⟩ := List.mem_iff_getElem?.mp hs
  simp only [Bool.and_eq_true, decide_eq_true_eq]
  rintro ⟨a, b⟩
  by_cases h : k < i
  · have := h3 k s hk h; omega
  · by_cases e : k = i
    · subst e; have := h4 s hk; omega
    · obtain ⟨u, hu⟩ : ∃ u, l[i]? = some u := ⟨_, List.getElem?_eq_getElem (by have := (List.getElem?_eq_some_iff.mp hk).1; omega)⟩
      have a1 := h4 u hu
      have a2 := hr.1 i u hu
      have a3 := hr.2 i k u s hu hk (by omega)
      omega

set_option maxHeartbeats 2000000 in
theorem f20_ok (k : Nat) (l : List (Int × Int)) (x : Int) (cp : Option Nat) (e : TypeId) (m : Am.Mode) (fz : Bool) (H : List AObj) (hk : H[k]? = some (.cells (flat l) e m fz)) (hl : l.length < 1000000000) (hr : Rising l) :
    WPcall E 20 [.slice k 0 l.length cp, .int .i32 x, .func 21 [] []] H fun c => ∃ p : Int, c = .pure (.tup [.int .i64 p, .bool (isIn l x)]) := by
  refine WPcall.walk [(false, k, .cells (flat l) e m fz)] rfl Try.func20 rfl rfl rfl rfl (by simp [keysB]) (by simpa using hk) ?_
  repeat' (first
    | refine Run.seq ?_
    | refine Run.region rfl ?_
    | refine Run.drawn rfl rfl rfl ?_
    | refine Run.block ?_
    | refine Run.condT rfl ?_
    | refine Run.condF rfl ?_
    | refine Run.skip ?_
    | refine Run.ret ?_
    | refine Run.exit ?_
    | refine Run.label ?_
    | refine Done.seq ?_
    | refine Done.seqE ?_
    | refine Done.seqR ?_
    | refine Done.blockN ?_
    | refine Done.blockR ?_
    | refine Done.hit ?_
    | refine Done.miss rfl ?_
    | refine Done.invE ?_
    | refine Done.invR ?_
    | refine RunO.nil ?_
    | refine RunO.move rfl rfl rfl rfl ?_
    | refine RunO.assign rfl rfl rfl rfl ?_
    | refine RunO.load 0 rfl rfl rfl rfl rfl rfl ?_
    | refine RunO.load 1 rfl rfl rfl rfl rfl rfl ?_
    | refine RunO.load 2 rfl rfl rfl rfl rfl rfl ?_
    | refine RunO.load 3 rfl rfl rfl rfl rfl rfl ?_
    | refine RunO.load 4 rfl rfl rfl rfl rfl rfl ?_
    | refine RunO.indexAddr rfl rfl rfl rfl rfl (by omega) rfl rfl rfl ?_
    | refine RunO.box rfl rfl rfl rfl rfl rfl (fun _ => ?_)
    | refine RunO.alloc rfl rfl rfl rfl rfl rfl (fun _ => ?_)
    | refine RunO.store 0 rfl rfl rfl rfl rfl rfl (by decide) (by decide) rfl rfl ?_
    | refine RunO.store 1 rfl rfl rfl rfl rfl rfl (by decide) (by decide) rfl rfl ?_
    | refine RunO.store 2 rfl rfl rfl rfl rfl rfl (by decide) (by decide) rfl rfl ?_
    | refine RunO.store 3 rfl rfl rfl rfl rfl rfl (by decide) (by decide) rfl rfl ?_
    | refine RunO.store 4 rfl rfl rfl rfl rfl rfl (by decide) (by decide) rfl rfl ?_
    | refine RunO.cmpT rfl (fun _ => rfl) rfl rfl (by omega) ?_
    | refine RunO.cmpF rfl (fun _ => rfl) rfl rfl (by omega) ?_
    | refine RunO.cmp rfl (fun _ => rfl) rfl rfl (fun _ => ?_) (fun _ => ?_)
    | refine RunO.bin rfl rfl rfl (fun _ _ => rfl) (IntWalk.i64_in _ (by omega)) rfl rfl ?_
    | refine RunO.conv rfl rfl rfl rfl (IntWalk.i64_in _ (by omega)) rfl rfl ?_
    | refine RunO.bin rfl rfl rfl (fun _ _ => rfl) (IntWalk.i32_in _ (by omega)) rfl rfl ?_
    | refine RunO.conv rfl rfl rfl rfl (IntWalk.i32_in _ (by omega)) rfl rfl ?_
    | refine RunO.bin rfl rfl rfl (fun _ _ => rfl) (IntWalk.u8_in _ (by omega)) rfl rfl ?_
    | refine RunO.conv rfl rfl rfl rfl (IntWalk.u8_in _ (by omega)) rfl rfl ?_
    | refine RunO.bin rfl rfl rfl (fun _ _ => rfl) (IntWalk.u64_in _ (by omega)) rfl rfl ?_
    | refine RunO.conv rfl rfl rfl rfl (IntWalk.u64_in _ (by omega)) rfl rfl ?_
    | refine RunO.bin rfl rfl rfl (fun _ _ => rfl) (IntWalk.u32_in _ (by omega)) rfl rfl ?_
    | refine RunO.conv rfl rfl rfl rfl (IntWalk.u32_in _ (by omega)) rfl rfl ?_
    | refine RunO.bin rfl rfl rfl (fun _ _ => rfl) (IntWalk.u16_in _ (by omega)) rfl rfl ?_
    | refine RunO.conv rfl rfl rfl rfl (IntWalk.u16_in _ (by omega)) rfl rfl ?_
    | refine RunO.val rfl (fun _ => rfl) rfl rfl ?_
    | refine RunO.no rfl rfl rfl ?_
    | refine RunQ.nil ?_
    | refine RunQ.move rfl rfl rfl rfl ?_
    | refine RunQ.assign rfl rfl rfl rfl ?_
    | refine RunQ.load 0 rfl rfl rfl rfl rfl rfl ?_
    | refine RunQ.load 1 rfl rfl rfl rfl rfl rfl ?_
    | refine RunQ.load 2 rfl rfl rfl rfl rfl rfl ?_
    | refine RunQ.load 3 rfl rfl rfl rfl rfl rfl ?_
    | refine RunQ.load 4 rfl rfl rfl rfl rfl rfl ?_
    | refine RunQ.indexAddr rfl rfl rfl rfl rfl (by omega) rfl rfl rfl ?_
    | refine RunQ.cmpT rfl (fun _ => rfl) rfl rfl (by omega) ?_
    | refine RunQ.cmpF rfl (fun _ => rfl) rfl rfl (by omega) ?_
    | refine RunQ.cmp rfl (fun _ => rfl) rfl rfl (fun _ => ?_) (fun _ => ?_)
    | refine RunQ.bin rfl rfl rfl (fun _ _ => rfl) (IntWalk.i64_in _ (by omega)) rfl rfl ?_
    | refine RunQ.conv rfl rfl rfl rfl (IntWalk.i64_in _ (by omega)) rfl rfl ?_
    | refine RunQ.bin rfl rfl rfl (fun _ _ => rfl) (IntWalk.i32_in _ (by omega)) rfl rfl ?_
    | refine RunQ.conv rfl rfl rfl rfl (IntWalk.i32_in _ (by omega)) rfl rfl ?_
    | refine RunQ.bin rfl rfl rfl (fun _ _ => rfl) (IntWalk.u8_in _ (by omega)) rfl rfl ?_
    | refine RunQ.conv rfl rfl rfl rfl (IntWalk.u8_in _ (by omega)) rfl rfl ?_
    | refine RunQ.bin rfl rfl rfl (fun _ _ => rfl) (IntWalk.u64_in _ (by omega)) rfl rfl ?_
    | refine RunQ.conv rfl rfl rfl rfl (IntWalk.u64_in _ (by omega)) rfl rfl ?_
    | refine RunQ.bin rfl rfl rfl (fun _ _ => rfl) (IntWalk.u32_in _ (by omega)) rfl rfl ?_
    | refine RunQ.conv rfl rfl rfl rfl (IntWalk.u32_in _ (by omega)) rfl rfl ?_
    | refine RunQ.bin rfl rfl rfl (fun _ _ => rfl) (IntWalk.u16_in _ (by omega)) rfl rfl ?_
    | refine RunQ.conv rfl rfl rfl rfl (IntWalk.u16_in _ (by omega)) rfl rfl ?_
    | refine RunQ.val rfl rfl (fun _ => rfl) rfl rfl ?_
    | refine RunQ.no rfl rfl rfl ?_)
  refine Run.loop (fun a : Nat × Nat => a.1 ≤ a.2 ∧ a.2 ≤ l.length ∧ (∀ i s, l[i]? = some s → i < a.1 → s.2 < x) ∧ (∀ i s, l[i]? = some s → a.2 ≤ i → ¬ s.2 < x)) (headS k l x cp e m fz) (fun a => a.2 - a.1) (0, l.length) ?_ ?_ ?_
  · refine ⟨Nat.zero_le _, Nat.le_refl _, fun _ _ _ h => absurd h (Nat.not_lt_zero _), fun i s h hi => ?_⟩
    have := (List.getElem?_eq_some_iff.mp h).1
    omega
  · exact ⟨⟨rfl, rfl, rfl, rfl, rfl, rfl, trivial⟩, .refl _, rfl⟩
  · rintro ⟨i, j⟩ ⟨h1, h2, h3, h4⟩
    unfold headS
    dsimp only at h1 h2 h3 h4 ⊢
    repeat' (first
      | refine Run.seq ?_
      | refine Run.region rfl ?_
      | refine Run.drawn rfl rfl rfl ?_
      | refine Run.block ?_
      | refine Run.condT rfl ?_
      | refine Run.condF rfl ?_
      | refine Run.skip ?_
      | refine Run.ret ?_
      | refine Run.exit ?_
      | refine Run.label ?_
      | refine Done.seq ?_
      | refine Done.seqE ?_
      | refine Done.seqR ?_
      | refine Done.blockN ?_
      | refine Done.blockR ?_
      | refine Done.hit ?_
      | refine Done.miss rfl ?_
      | refine Done.invE ?_
      | refine Done.invR ?_
      | refine RunO.bin rfl rfl rfl (fun _ _ => rfl) (shr1 _ (by decide)) rfl rfl ?_
      | refine RunO.nil ?_
      | refine RunO.move rfl rfl rfl rfl ?_
      | refine RunO.assign rfl rfl rfl rfl ?_
      | refine RunO.load 0 rfl rfl rfl rfl rfl rfl ?_
      | refine RunO.load 1 rfl rfl rfl rfl rfl rfl ?_
      | refine RunO.load 2 rfl rfl rfl rfl rfl rfl ?_
      | refine RunO.load 3 rfl rfl rfl rfl rfl rfl ?_
      | refine RunO.load 4 rfl rfl rfl rfl rfl rfl ?_
      | refine RunO.indexAddr rfl rfl rfl rfl rfl (by omega) rfl rfl rfl ?_
      | refine RunO.box rfl rfl rfl rfl rfl rfl (fun _ => ?_)
      | refine RunO.alloc rfl rfl rfl rfl rfl rfl (fun _ => ?_)
      | refine RunO.store 0 rfl rfl rfl rfl rfl rfl (by decide) (by decide) rfl rfl ?_
      | refine RunO.store 1 rfl rfl rfl rfl rfl rfl (by decide) (by decide) rfl rfl ?_
      | refine RunO.store 2 rfl rfl rfl rfl rfl rfl (by decide) (by decide) rfl rfl ?_
      | refine RunO.store 3 rfl rfl rfl rfl rfl rfl (by decide) (by decide) rfl rfl ?_
      | refine RunO.store 4 rfl rfl rfl rfl rfl rfl (by decide) (by decide) rfl rfl ?_
      | refine RunO.cmpT rfl (fun _ => rfl) rfl rfl (by omega) ?_
      | refine RunO.cmpF rfl (fun _ => rfl) rfl rfl (by omega) ?_
      | refine RunO.cmp rfl (fun _ => rfl) rfl rfl (fun _ => ?_) (fun _ => ?_)
      | refine RunO.bin rfl rfl rfl (fun _ _ => rfl) (IntWalk.i64_in _ (by omega)) rfl rfl ?_
      | refine RunO.conv rfl rfl rfl rfl (IntWalk.i64_in _ (by omega)) rfl rfl ?_
      | refine RunO.bin rfl rfl rfl (fun _ _ => rfl) (IntWalk.i32_in _ (by omega)) rfl rfl ?_
      | refine RunO.conv rfl rfl rfl rfl (IntWalk.i32_in _ (by omega)) rfl rfl ?_
      | refine RunO.bin rfl rfl rfl (fun _ _ => rfl) (IntWalk.u8_in _ (by omega)) rfl rfl ?_
      | refine RunO.conv rfl rfl rfl rfl (IntWalk.u8_in _ (by omega)) rfl rfl ?_
      | refine RunO.bin rfl rfl rfl (fun _ _ => rfl) (IntWalk.u64_in _ (by omega)) rfl rfl ?_
      | refine RunO.conv rfl rfl rfl rfl (IntWalk.u64_in _ (by omega)) rfl rfl ?_
      | refine RunO.bin rfl rfl rfl (fun _ _ => rfl) (IntWalk.u32_in _ (by omega)) rfl rfl ?_
      | refine RunO.conv rfl rfl rfl rfl (IntWalk.u32_in _ (by omega)) rfl rfl ?_
      | refine RunO.bin rfl rfl rfl (fun _ _ => rfl) (IntWalk.u16_in _ (by omega)) rfl rfl ?_
      | refine RunO.conv rfl rfl rfl rfl (IntWalk.u16_in _ (by omega)) rfl rfl ?_
      | refine RunO.val rfl (fun _ => rfl) rfl rfl ?_
      | refine RunO.no rfl rfl rfl ?_
      | refine RunQ.nil ?_
      | refine RunQ.move rfl rfl rfl rfl ?_
      | refine RunQ.assign rfl rfl rfl rfl ?_
      | refine RunQ.load 0 rfl rfl rfl rfl rfl rfl ?_
      | refine RunQ.load 1 rfl rfl rfl rfl rfl rfl ?_
      | refine RunQ.load 2 rfl rfl rfl rfl rfl rfl ?_
      | refine RunQ.load 3 rfl rfl rfl rfl rfl rfl ?_
      | refine RunQ.load 4 rfl rfl rfl rfl rfl rfl ?_
      | refine RunQ.indexAddr rfl rfl rfl rfl rfl (by omega) rfl rfl rfl ?_
      | refine RunQ.cmpT rfl (fun _ => rfl) rfl rfl (by omega) ?_
      | refine RunQ.cmpF rfl (fun _ => rfl) rfl rfl (by omega) ?_
      | refine RunQ.cmp rfl (fun _ => rfl) rfl rfl (fun _ => ?_) (fun _ => ?_)
      | refine RunQ.bin rfl rfl rfl (fun _ _ => rfl) (IntWalk.i64_in _ (by omega)) rfl rfl ?_
      | refine RunQ.conv rfl rfl rfl rfl (IntWalk.i64_in _ (by omega)) rfl rfl ?_
      | refine RunQ.bin rfl rfl rfl (fun _ _ => rfl) (IntWalk.i32_in _ (by omega)) rfl rfl ?_
      | refine RunQ.conv rfl rfl rfl rfl (IntWalk.i32_in _ (by omega)) rfl rfl ?_
      | refine RunQ.bin rfl rfl rfl (fun _ _ => rfl) (IntWalk.u8_in _ (by omega)) rfl rfl ?_
      | refine RunQ.conv rfl rfl rfl rfl (IntWalk.u8_in _ (by omega)) rfl rfl ?_
      | refine RunQ.bin rfl rfl rfl (fun _ _ => rfl) (IntWalk.u64_in _ (by omega)) rfl rfl ?_
      | refine RunQ.conv rfl rfl rfl rfl (IntWalk.u64_in _ (by omega)) rfl rfl ?_
      | refine RunQ.bin rfl rfl rfl (fun _ _ => rfl) (IntWalk.u32_in _ (by omega)) rfl rfl ?_
      | refine RunQ.conv rfl rfl rfl rfl (IntWalk.u32_in _ (by omega)) rfl rfl ?_
      | refine RunQ.bin rfl rfl rfl (fun _ _ => rfl) (IntWalk.u16_in _ (by omega)) rfl rfl ?_
      | refine RunQ.conv rfl rfl rfl rfl (IntWalk.u16_in _ (by omega)) rfl rfl ?_
      | refine RunQ.val rfl rfl (fun _ => rfl) rfl rfl ?_
      | refine RunQ.no rfl rfl rfl ?_)
    · obtain ⟨s, hs⟩ : ∃ s, l[(((i : Int) + j) / 2).toNat]? = some s := ⟨_, List.getElem?_eq_getElem (by omega)⟩
      refine RunO.load 0 rfl rfl rfl (flat_load l _ _ hs) rfl rfl ?_
      repeat' (first
        | refine Run.seq ?_
        | refine Run.region rfl ?_
        | refine Run.drawn rfl rfl rfl ?_
        | refine Run.block ?_
        | refine Run.condT rfl ?_
        | refine Run.condF rfl ?_
        | refine Run.skip ?_
        | refine Run.ret ?_
        | refine Run.exit ?_
        | refine Run.label ?_
        | refine Done.seq ?_
        | refine Done.seqE ?_
        | refine Done.seqR ?_
        | refine Done.blockN ?_
        | refine Done.blockR ?_
        | refine Done.hit ?_
        | refine Done.miss rfl ?_
        | refine Done.invE ?_
        | refine Done.invR ?_
        | refine RunO.pure rfl (fun _ => rfl) rfl rfl (fun _ _ => f21_ok _ _ _ _) ?_
        | refine RunO.nil ?_
        | refine RunO.move rfl rfl rfl rfl ?_
        | refine RunO.assign rfl rfl rfl rfl ?_
        | refine RunO.load 0 rfl rfl rfl rfl rfl rfl ?_
        | refine RunO.load 1 rfl rfl rfl rfl rfl rfl ?_
        | refine RunO.load 2 rfl rfl rfl rfl rfl rfl ?_
        | refine RunO.load 3 rfl rfl rfl rfl rfl rfl ?_
        | refine RunO.load 4 rfl rfl rfl rfl rfl rfl ?_
        | refine RunO.indexAddr rfl rfl rfl rfl rfl (by omega) rfl rfl rfl ?_
        | refine RunO.box rfl rfl rfl rfl rfl rfl (fun _ => ?_)
        | refine RunO.alloc rfl rfl rfl rfl rfl rfl (fun _ => ?_)
        | refine RunO.store 0 rfl rfl rfl rfl rfl rfl (by decide) (by decide) rfl rfl ?_
        | refine RunO.store 1 rfl rfl rfl rfl rfl rfl (by decide) (by decide) rfl rfl ?_
        | refine RunO.store 2 rfl rfl rfl rfl rfl rfl (by decide) (by decide) rfl rfl ?_
        | refine RunO.store 3 rfl rfl rfl rfl rfl rfl (by decide) (by decide) rfl rfl ?_
        | refine RunO.store 4 rfl rfl rfl rfl rfl rfl (by decide) (by decide) rfl rfl ?_
        | refine RunO.cmpT rfl (fun _ => rfl) rfl rfl (by omega) ?_
        | refine RunO.cmpF rfl (fun _ => rfl) rfl rfl (by omega) ?_
        | refine RunO.cmp rfl (fun _ => rfl) rfl rfl (fun _ => ?_) (fun _ => ?_)
        | refine RunO.bin rfl rfl rfl (fun _ _ => rfl) (IntWalk.i64_in _ (by omega)) rfl rfl ?_
        | refine RunO.conv rfl rfl rfl rfl (IntWalk.i64_in _ (by omega)) rfl rfl ?_
        | refine RunO.bin rfl rfl rfl (fun _ _ => rfl) (IntWalk.i32_in _ (by omega)) rfl rfl ?_
        | refine RunO.conv rfl rfl rfl rfl (IntWalk.i32_in _ (by omega)) rfl rfl ?_
        | refine RunO.bin rfl rfl rfl (fun _ _ => rfl) (IntWalk.u8_in _ (by omega)) rfl rfl ?_
        | refine RunO.conv rfl rfl rfl rfl (IntWalk.u8_in _ (by omega)) rfl rfl ?_
        | refine RunO.bin rfl rfl rfl (fun _ _ => rfl) (IntWalk.u64_in _ (by omega)) rfl rfl ?_
        | refine RunO.conv rfl rfl rfl rfl (IntWalk.u64_in _ (by omega)) rfl rfl ?_
        | refine RunO.bin rfl rfl rfl (fun _ _ => rfl) (IntWalk.u32_in _ (by omega)) rfl rfl ?_
        | refine RunO.conv rfl rfl rfl rfl (IntWalk.u32_in _ (by omega)) rfl rfl ?_
        | refine RunO.bin rfl rfl rfl (fun _ _ => rfl) (IntWalk.u16_in _ (by omega)) rfl rfl ?_
        | refine RunO.conv rfl rfl rfl rfl (IntWalk.u16_in _ (by omega)) rfl rfl ?_
        | refine RunO.val rfl (fun _ => rfl) rfl rfl ?_
        | refine RunO.no rfl rfl rfl ?_
        | refine RunQ.nil ?_
        | refine RunQ.move rfl rfl rfl rfl ?_
        | refine RunQ.assign rfl rfl rfl rfl ?_
        | refine RunQ.load 0 rfl rfl rfl rfl rfl rfl ?_
        | refine RunQ.load 1 rfl rfl rfl rfl rfl rfl ?_
        | refine RunQ.load 2 rfl rfl rfl rfl rfl rfl ?_
        | refine RunQ.load 3 rfl rfl rfl rfl rfl rfl ?_
        | refine RunQ.load 4 rfl rfl rfl rfl rfl rfl ?_
        | refine RunQ.indexAddr rfl rfl rfl rfl rfl (by omega) rfl rfl rfl ?_
        | refine RunQ.cmpT rfl (fun _ => rfl) rfl rfl (by omega) ?_
        | refine RunQ.cmpF rfl (fun _ => rfl) rfl rfl (by omega) ?_
        | refine RunQ.cmp rfl (fun _ => rfl) rfl rfl (fun _ => ?_) (fun _ => ?_)
        | refine RunQ.bin rfl rfl rfl (fun _ _ => rfl) (IntWalk.i64_in _ (by omega)) rfl rfl ?_
        | refine RunQ.conv rfl rfl rfl rfl (IntWalk.i64_in _ (by omega)) rfl rfl ?_
        | refine RunQ.bin rfl rfl rfl (fun _ _ => rfl) (IntWalk.i32_in _ (by omega)) rfl rfl ?_
        | refine RunQ.conv rfl rfl rfl rfl (IntWalk.i32_in _ (by omega)) rfl rfl ?_
        | refine RunQ.bin rfl rfl rfl (fun _ _ => rfl) (IntWalk.u8_in _ (by omega)) rfl rfl ?_
        | refine RunQ.conv rfl rfl rfl rfl (IntWalk.u8_in _ (by omega)) rfl rfl ?_
        | refine RunQ.bin rfl rfl rfl (fun _ _ => rfl) (IntWalk.u64_in _ (by omega)) rfl rfl ?_
        | refine RunQ.conv rfl rfl rfl rfl (IntWalk.u64_in _ (by omega)) rfl rfl ?_
        | refine RunQ.bin rfl rfl rfl (fun _ _ => rfl) (IntWalk.u32_in _ (by omega)) rfl rfl ?_
        | refine RunQ.conv rfl rfl rfl rfl (IntWalk.u32_in _ (by omega)) rfl rfl ?_
        | refine RunQ.bin rfl rfl rfl (fun _ _ => rfl) (IntWalk.u16_in _ (by omega)) rfl rfl ?_
        | refine RunQ.conv rfl rfl rfl rfl (IntWalk.u16_in _ (by omega)) rfl rfl ?_
        | refine RunQ.val rfl rfl (fun _ => rfl) rfl rfl ?_
        | refine RunQ.no rfl rfl rfl ?_)
      · rename_i hc
        refine Done.inv (((((i : Int) + j) / 2).toNat + 1 : Nat), j) ⟨by dsimp only; omega, h2, fun i' s' h' hi' => ?_, h4⟩ (by dsimp only; omega) ⟨⟨?_, rfl, rfl, rfl, rfl, rfl, trivial⟩, .refl _, rfl⟩
        · dsimp only at hi'
          by_cases e : i' = (((i : Int) + j) / 2).toNat
          · subst e; rw [hs] at h'; cases h'; exact cmp_neg.mp hc
          · have := hr.2 i' _ s' s h' hs (by omega); have := hr.1 _ s hs; have := cmp_neg.mp hc; omega
        · show some _ = some _
          congr 2 <;> omega
      · rename_i hc
        refine Done.inv (i, (((i : Int) + j) / 2).toNat) ⟨by dsimp only; omega, by dsimp only; omega, h3, fun i' s' h' hi' => ?_⟩ (by dsimp only; omega) ⟨⟨rfl, ?_, rfl, rfl, rfl, rfl, trivial⟩, .refl _, rfl⟩
        · dsimp only at hi'
          by_cases e : i' = (((i : Int) + j) / 2).toNat
          · subst e; rw [hs] at h'; cases h'; exact fun h => hc (cmp_neg.mpr h)
          · have := hr.2 _ i' s s' hs h' (by omega); have := hr.1 _ s' h'; have := mt cmp_neg.mpr hc; omega
        · show some _ = some _
          congr 2 <;> omega
    · obtain ⟨s, hs⟩ : ∃ s, l[((i : Int)).toNat]? = some s := ⟨_, List.getElem?_eq_getElem (by omega)⟩
      refine RunO.load 0 rfl rfl rfl (flat_load l _ _ hs) rfl rfl ?_
      repeat' (first
        | refine Run.seq ?_
        | refine Run.region rfl ?_
        | refine Run.drawn rfl rfl rfl ?_
        | refine Run.block ?_
        | refine Run.condT rfl ?_
        | refine Run.condF rfl ?_
        | refine Run.skip ?_
        | refine Run.ret ?_
        | refine Run.exit ?_
        | refine Run.label ?_
        | refine Done.seq ?_
        | refine Done.seqE ?_
        | refine Done.seqR ?_
        | refine Done.blockN ?_
        | refine Done.blockR ?_
        | refine Done.hit ?_
        | refine Done.miss rfl ?_
        | refine Done.invE ?_
        | refine Done.invR ?_
        | refine RunO.pure rfl (fun _ => rfl) rfl rfl (fun _ _ => f21_ok _ _ _ _) ?_
        | refine RunO.nil ?_
        | refine RunO.move rfl rfl rfl rfl ?_
        | refine RunO.assign rfl rfl rfl rfl ?_
        | refine RunO.load 0 rfl rfl rfl rfl rfl rfl ?_
        | refine RunO.load 1 rfl rfl rfl rfl rfl rfl ?_
        | refine RunO.load 2 rfl rfl rfl rfl rfl rfl ?_
        | refine RunO.load 3 rfl rfl rfl rfl rfl rfl ?_
        | refine RunO.load 4 rfl rfl rfl rfl rfl rfl ?_
        | refine RunO.indexAddr rfl rfl rfl rfl rfl (by omega) rfl rfl rfl ?_
        | refine RunO.box rfl rfl rfl rfl rfl rfl (fun _ => ?_)
        | refine RunO.alloc rfl rfl rfl rfl rfl rfl (fun _ => ?_)
        | refine RunO.store 0 rfl rfl rfl rfl rfl rfl (by decide) (by decide) rfl rfl ?_
        | refine RunO.store 1 rfl rfl rfl rfl rfl rfl (by decide) (by decide) rfl rfl ?_
        | refine RunO.store 2 rfl rfl rfl rfl rfl rfl (by decide) (by decide) rfl rfl ?_
        | refine RunO.store 3 rfl rfl rfl rfl rfl rfl (by decide) (by decide) rfl rfl ?_
        | refine RunO.store 4 rfl rfl rfl rfl rfl rfl (by decide) (by decide) rfl rfl ?_
        | refine RunO.cmpT rfl (fun _ => rfl) rfl rfl (by omega) ?_
        | refine RunO.cmpF rfl (fun _ => rfl) rfl rfl (by omega) ?_
        | refine RunO.cmp rfl (fun _ => rfl) rfl rfl (fun _ => ?_) (fun _ => ?_)
        | refine RunO.bin rfl rfl rfl (fun _ _ => rfl) (IntWalk.i64_in _ (by omega)) rfl rfl ?_
        | refine RunO.conv rfl rfl rfl rfl (IntWalk.i64_in _ (by omega)) rfl rfl ?_
        | refine RunO.bin rfl rfl rfl (fun _ _ => rfl) (IntWalk.i32_in _ (by omega)) rfl rfl ?_
        | refine RunO.conv rfl rfl rfl rfl (IntWalk.i32_in _ (by omega)) rfl rfl ?_
        | refine RunO.bin rfl rfl rfl (fun _ _ => rfl) (IntWalk.u8_in _ (by omega)) rfl rfl ?_
        | refine RunO.conv rfl rfl rfl rfl (IntWalk.u8_in _ (by omega)) rfl rfl ?_
        | refine RunO.bin rfl rfl rfl (fun _ _ => rfl) (IntWalk.u64_in _ (by omega)) rfl rfl ?_
        | refine RunO.conv rfl rfl rfl rfl (IntWalk.u64_in _ (by omega)) rfl rfl ?_
        | refine RunO.bin rfl rfl rfl (fun _ _ => rfl) (IntWalk.u32_in _ (by omega)) rfl rfl ?_
        | refine RunO.conv rfl rfl rfl rfl (IntWalk.u32_in _ (by omega)) rfl rfl ?_
        | refine RunO.bin rfl rfl rfl (fun _ _ => rfl) (IntWalk.u16_in _ (by omega)) rfl rfl ?_
        | refine RunO.conv rfl rfl rfl rfl (IntWalk.u16_in _ (by omega)) rfl rfl ?_
        | refine RunO.val rfl (fun _ => rfl) rfl rfl ?_
        | refine RunO.no rfl rfl rfl ?_
        | refine RunQ.nil ?_
        | refine RunQ.move rfl rfl rfl rfl ?_
        | refine RunQ.assign rfl rfl rfl rfl ?_
        | refine RunQ.load 0 rfl rfl rfl rfl rfl rfl ?_
        | refine RunQ.load 1 rfl rfl rfl rfl rfl rfl ?_
        | refine RunQ.load 2 rfl rfl rfl rfl rfl rfl ?_
        | refine RunQ.load 3 rfl rfl rfl rfl rfl rfl ?_
        | refine RunQ.load 4 rfl rfl rfl rfl rfl rfl ?_
        | refine RunQ.indexAddr rfl rfl rfl rfl rfl (by omega) rfl rfl rfl ?_
        | refine RunQ.cmpT rfl (fun _ => rfl) rfl rfl (by omega) ?_
        | refine RunQ.cmpF rfl (fun _ => rfl) rfl rfl (by omega) ?_
        | refine RunQ.cmp rfl (fun _ => rfl) rfl rfl (fun _ => ?_) (fun _ => ?_)
        | refine RunQ.bin rfl rfl rfl (fun _ _ => rfl) (IntWalk.i64_in _ (by omega)) rfl rfl ?_
        | refine RunQ.conv rfl rfl rfl rfl (IntWalk.i64_in _ (by omega)) rfl rfl ?_
        | refine RunQ.bin rfl rfl rfl (fun _ _ => rfl) (IntWalk.i32_in _ (by omega)) rfl rfl ?_
        | refine RunQ.conv rfl rfl rfl rfl (IntWalk.i32_in _ (by omega)) rfl rfl ?_
        | refine RunQ.bin rfl rfl rfl (fun _ _ => rfl) (IntWalk.u8_in _ (by omega)) rfl rfl ?_
        | refine RunQ.conv rfl rfl rfl rfl (IntWalk.u8_in _ (by omega)) rfl rfl ?_
        | refine RunQ.bin rfl rfl rfl (fun _ _ => rfl) (IntWalk.u64_in _ (by omega)) rfl rfl ?_
        | refine RunQ.conv rfl rfl rfl rfl (IntWalk.u64_in _ (by omega)) rfl rfl ?_
        | refine RunQ.bin rfl rfl rfl (fun _ _ => rfl) (IntWalk.u32_in _ (by omega)) rfl rfl ?_
        | refine RunQ.conv rfl rfl rfl rfl (IntWalk.u32_in _ (by omega)) rfl rfl ?_
        | refine RunQ.bin rfl rfl rfl (fun _ _ => rfl) (IntWalk.u16_in _ (by omega)) rfl rfl ?_
        | refine RunQ.conv rfl rfl rfl rfl (IntWalk.u16_in _ (by omega)) rfl rfl ?_
        | refine RunQ.val rfl rfl (fun _ => rfl) rfl rfl ?_
        | refine RunQ.no rfl rfl rfl ?_)
      · rename_i hc
        refine Done.pureP (.inr rfl) (fun _ => rfl) rfl rfl ⟨i, ?_⟩
        rw [isIn_of hs (cmp_zero.mp hc).2 (cmp_zero.mp hc).1]
        rfl
      · rename_i hc
        refine Done.pureP (.inr rfl) (fun _ => rfl) rfl rfl ⟨i, ?_⟩
        rw [not_isIn i hr h3 (fun u hu => ?_)]
        · rfl
        · have hs' : l[i]? = some s := by simpa using hs
          rw [hs'] at hu; cases hu
          have := h4 i s hs' (by omega)
          have := mt cmp_zero.mpr hc
          omega
    · refine Done.pureP (.inr rfl) (fun _ => rfl) rfl rfl ⟨i, ?_⟩
      rw [not_isIn i hr h3 (fun u hu => ?_)]
      · rfl
      · have := (List.getElem?_eq_some_iff.mp hu).1
        omega

end Go.Proofs.Ytigfncnlhccaeaa
