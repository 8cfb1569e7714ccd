/-
  The walk of marqueelaw04.WidthRanges.
-/
import Derived.Test.YtigfncnlhccaeaaWdWorks
namespace Go.Proofs.Ytigfncnlhccaeaa
open Go Go.Am

theorem of_E2 (x : Int) (H : List AObj) : Gives E2 7 [.int .i32 x] H (.pure (.int .i64 (ofSpec x))) := Gives.orc rfl
theorem works_E2 (H : List AObj) : Gives E2 6 [] H (.pure (.bool true)) := Gives.orc rfl

theorem tmod_nn (a b : Int) (h : 0 ≤ a) : a.tmod b = a % b := Int.tmod_eq_emod_of_nonneg h

theorem ofSpec_hidden {x : Int} (h : isIn hiddenL x = true) : ofSpec x = -1 := by unfold ofSpec; rw [if_pos h]
theorem ofSpec_mark {x : Int} (h : isIn hiddenL x = false) (h1 : isIn marksL x = true) : ofSpec x = 0 := by unfold ofSpec; rw [if_neg (by simp [h]), if_pos h1]
theorem ofSpec_wide {x : Int} (h : isIn hiddenL x = false) (h1 : isIn marksL x = false) (h2 : isIn widesL x = true) : ofSpec x = 2 := by unfold ofSpec; rw [if_neg (by simp [h]), if_neg (by simp [h1]), if_pos h2]
theorem ofSpec_one {x : Int} (h : isIn hiddenL x = false) (h1 : isIn marksL x = false) (h2 : isIn widesL x = false) : ofSpec x = 1 := by unfold ofSpec; rw [if_neg (by simp [h]), if_neg (by simp [h1]), if_neg (by simp [h2])]

theorem is_hidden {x : Int} (h : (-2147483648 ≤ x ∧ x ≤ 31) ∨ (127 ≤ x ∧ x ≤ 159) ∨ (55296 ≤ x ∧ x ≤ 57343) ∨ (1114112 ≤ x ∧ x ≤ 2147483647)) : isIn hiddenL x = true := by
  simp only [isIn, hiddenL, List.any_cons, List.any_nil, Bool.or_false, Bool.or_eq_true, Bool.and_eq_true, decide_eq_true_eq]
  omega
theorem no_hidden {x : Int} (h : (32 ≤ x ∧ x ≤ 126) ∨ (160 ≤ x ∧ x ≤ 55295) ∨ (57344 ≤ x ∧ x ≤ 1114111)) : isIn hiddenL x = false := by
  simp only [isIn, hiddenL, List.any_cons, List.any_nil, Bool.or_false, Bool.or_eq_false_iff, Bool.and_eq_false_iff, decide_eq_false_iff_not]
  omega
theorem no_marks {x : Int} (h : (19968 ≤ x ∧ x ≤ 65023) ∨ (32 ≤ x ∧ x ≤ 0x2ff) ∨ (0x370 ≤ x ∧ x ≤ 0x482) ∨ (0x20000 ≤ x ∧ x ≤ 0x2fffd)) : isIn marksL x = false := by
  simp only [isIn, marksL, List.any_cons, List.any_nil, Bool.or_false, Bool.or_eq_false_iff, Bool.and_eq_false_iff, decide_eq_false_iff_not]
  omega
theorem is_wide {x : Int} (h : (0x4e00 ≤ x ∧ x ≤ 0xa4c6) ∨ (0xac00 ≤ x ∧ x ≤ 0xd7a3) ∨ (0x20000 ≤ x ∧ x ≤ 0x2fffd)) : isIn widesL x = true := by
  simp only [isIn, widesL, List.any_cons, List.any_nil, Bool.or_false, Bool.or_eq_true, Bool.and_eq_true, decide_eq_true_eq]
  omega
theorem no_wide {x : Int} (h : x ≤ 0x10ff) : isIn widesL x = false := by
  simp only [isIn, widesL, List.any_cons, List.any_nil, Bool.or_false, Bool.or_eq_false_iff, Bool.and_eq_false_iff, decide_eq_false_iff_not]
  omega
theorem is_mark {x : Int} (h : 0x300 ≤ x ∧ x ≤ 0x36f) : isIn marksL x = true := by
  simp only [isIn, marksL, List.any_cons, List.any_nil, Bool.or_false, Bool.or_eq_true, Bool.and_eq_true, decide_eq_true_eq]
  omega

theorem of_two {x : Int} (h : (0x4e00 ≤ x ∧ x ≤ 0xa4c6) ∨ (0xac00 ≤ x ∧ x ≤ 0xd7a3) ∨ (0x20000 ≤ x ∧ x ≤ 0x2fffd)) (H : List AObj) : Gives E2 7 [.int .i32 x] H (.pure (.int .i64 2)) := by
  have := of_E2 x H
  rwa [ofSpec_wide (no_hidden (by omega)) (no_marks (by omega)) (is_wide h)] at this
theorem of_one {x : Int} (h : (32 ≤ x ∧ x ≤ 126) ∨ (160 ≤ x ∧ x ≤ 0x2ff) ∨ (0x370 ≤ x ∧ x ≤ 0x482)) (H : List AObj) : Gives E2 7 [.int .i32 x] H (.pure (.int .i64 1)) := by
  have := of_E2 x H
  rwa [ofSpec_one (no_hidden (by omega)) (no_marks (by omega)) (no_wide (by omega))] at this
theorem of_zero {x : Int} (h : 0x300 ≤ x ∧ x ≤ 0x36f) (H : List AObj) : Gives E2 7 [.int .i32 x] H (.pure (.int .i64 0)) := by
  have := of_E2 x H
  rwa [ofSpec_mark (no_hidden (by omega)) (is_mark h)] at this
theorem of_neg {x : Int} (h : (-2147483648 ≤ x ∧ x ≤ 31) ∨ (127 ≤ x ∧ x ≤ 159) ∨ (55296 ≤ x ∧ x ≤ 57343) ∨ (1114112 ≤ x ∧ x ≤ 2147483647)) (H : List AObj) : Gives E2 7 [.int .i32 x] H (.pure (.int .i64 (-1))) := by
  have := of_E2 x H
  rwa [ofSpec_hidden (is_hidden h)] at this

set_option maxHeartbeats 4000000 in
theorem f3_ok (n : Int) (h : 0 ≤ n ∧ n ≤ 4294967295) (H : List AObj) : Gives E2 3 [.int .u32 n] H (.pure (.bool true)) := by
  refine Gives.walk [] rfl Try.func3 rfl rfl rfl rfl (by simp [keysB]) (by simp) ?_
  obtain ⟨h1, h2⟩ := h
  repeat' (first
    | refine Run.seq ?_
    | refine Run.region rfl ?_
    | refine Run.drawn rfl rfl ?_
    | refine Run.block ?_
    | refine Run.condT rfl ?_
    | refine Run.condF rfl ?_
    | refine Run.skip ?_
    | refine Run.ret ?_
    | refine Run.exit ?_
    | refine Run.label ?_
    | refine Done.seq ?_
    | refine Done.seqE ?_
    | refine Done.seqR ?_
    | refine Done.blockN ?_
    | refine Done.blockR ?_
    | refine Done.hit ?_
    | refine Done.miss rfl ?_
    | refine Done.invE ?_
    | refine Done.invR ?_
    | refine RunO.un rfl rfl rfl (IntWalk.i32_in _ (by omega)) rfl rfl ?_
    | refine RunO.pure rfl (fun _ => rfl) rfl rfl (fun H hh => works_E2 H.objs) ?_
    | refine RunO.bin rfl rfl rfl (fun _ _ => rfl) (tmod_nn _ _ (by omega)) rfl rfl ?_
    | refine RunO.pure rfl (fun _ => rfl) rfl rfl (fun H hh => of_two (by omega) H.objs) ?_
    | refine RunO.pure rfl (fun _ => rfl) rfl rfl (fun H hh => of_one (by omega) H.objs) ?_
    | refine RunO.pure rfl (fun _ => rfl) rfl rfl (fun H hh => of_neg (by omega) H.objs) ?_
    | refine RunO.pure rfl (fun _ => rfl) rfl rfl (fun H hh => of_zero (by omega) H.objs) ?_
    | refine RunO.nil ?_
    | refine RunO.move rfl rfl rfl rfl ?_
    | refine RunO.assign rfl rfl rfl rfl ?_
    | refine RunO.load 0 rfl rfl rfl rfl rfl rfl ?_
    | refine RunO.load 1 rfl rfl rfl rfl rfl rfl ?_
    | refine RunO.load 2 rfl rfl rfl rfl rfl rfl ?_
    | refine RunO.load 3 rfl rfl rfl rfl rfl rfl ?_
    | refine RunO.load 4 rfl rfl rfl rfl rfl rfl ?_
    | refine RunO.indexAddr rfl rfl rfl rfl rfl (by omega) rfl rfl rfl ?_
    | refine RunO.box rfl rfl rfl rfl rfl rfl (fun _ => ?_)
    | refine RunO.alloc rfl rfl rfl rfl rfl rfl (fun _ => ?_)
    | refine RunO.store 0 rfl rfl rfl rfl rfl rfl (by decide) (by decide) rfl rfl ?_
    | refine RunO.store 1 rfl rfl rfl rfl rfl rfl (by decide) (by decide) rfl rfl ?_
    | refine RunO.store 2 rfl rfl rfl rfl rfl rfl (by decide) (by decide) rfl rfl ?_
    | refine RunO.store 3 rfl rfl rfl rfl rfl rfl (by decide) (by decide) rfl rfl ?_
    | refine RunO.store 4 rfl rfl rfl rfl rfl rfl (by decide) (by decide) rfl rfl ?_
    | refine RunO.cmpT rfl (fun _ => rfl) rfl rfl (by omega) ?_
    | refine RunO.cmpF rfl (fun _ => rfl) rfl rfl (by omega) ?_
    | refine RunO.cmp rfl (fun _ => rfl) rfl rfl (fun _ => ?_) (fun _ => ?_)
    | refine RunO.bin rfl rfl rfl (fun _ _ => rfl) (IntWalk.i64_in _ (by omega)) rfl rfl ?_
    | refine RunO.conv rfl rfl rfl rfl (IntWalk.i64_in _ (by omega)) rfl rfl ?_
    | refine RunO.bin rfl rfl rfl (fun _ _ => rfl) (IntWalk.i32_in _ (by omega)) rfl rfl ?_
    | refine RunO.conv rfl rfl rfl rfl (IntWalk.i32_in _ (by omega)) rfl rfl ?_
    | refine RunO.bin rfl rfl rfl (fun _ _ => rfl) (IntWalk.u8_in _ (by omega)) rfl rfl ?_
    | refine RunO.conv rfl rfl rfl rfl (IntWalk.u8_in _ (by omega)) rfl rfl ?_
    | refine RunO.bin rfl rfl rfl (fun _ _ => rfl) (IntWalk.u64_in _ (by omega)) rfl rfl ?_
    | refine RunO.conv rfl rfl rfl rfl (IntWalk.u64_in _ (by omega)) rfl rfl ?_
    | refine RunO.bin rfl rfl rfl (fun _ _ => rfl) (IntWalk.u32_in _ (by omega)) rfl rfl ?_
    | refine RunO.conv rfl rfl rfl rfl (IntWalk.u32_in _ (by omega)) rfl rfl ?_
    | refine RunO.bin rfl rfl rfl (fun _ _ => rfl) (IntWalk.u16_in _ (by omega)) rfl rfl ?_
    | refine RunO.conv rfl rfl rfl rfl (IntWalk.u16_in _ (by omega)) rfl rfl ?_
    | refine RunO.val rfl (fun _ => rfl) rfl rfl ?_
    | refine RunO.no rfl rfl rfl ?_
    | refine RunQ.nil ?_
    | refine RunQ.move rfl rfl rfl rfl ?_
    | refine RunQ.assign rfl rfl rfl rfl ?_
    | refine RunQ.load 0 rfl rfl rfl rfl rfl rfl ?_
    | refine RunQ.load 1 rfl rfl rfl rfl rfl rfl ?_
    | refine RunQ.load 2 rfl rfl rfl rfl rfl rfl ?_
    | refine RunQ.load 3 rfl rfl rfl rfl rfl rfl ?_
    | refine RunQ.load 4 rfl rfl rfl rfl rfl rfl ?_
    | refine RunQ.indexAddr rfl rfl rfl rfl rfl (by omega) rfl rfl rfl ?_
    | refine RunQ.cmpT rfl (fun _ => rfl) rfl rfl (by omega) ?_
    | refine RunQ.cmpF rfl (fun _ => rfl) rfl rfl (by omega) ?_
    | refine RunQ.cmp rfl (fun _ => rfl) rfl rfl (fun _ => ?_) (fun _ => ?_)
    | refine RunQ.bin rfl rfl rfl (fun _ _ => rfl) (IntWalk.i64_in _ (by omega)) rfl rfl ?_
    | refine RunQ.conv rfl rfl rfl rfl (IntWalk.i64_in _ (by omega)) rfl rfl ?_
    | refine RunQ.bin rfl rfl rfl (fun _ _ => rfl) (IntWalk.i32_in _ (by omega)) rfl rfl ?_
    | refine RunQ.conv rfl rfl rfl rfl (IntWalk.i32_in _ (by omega)) rfl rfl ?_
    | refine RunQ.bin rfl rfl rfl (fun _ _ => rfl) (IntWalk.u8_in _ (by omega)) rfl rfl ?_
    | refine RunQ.conv rfl rfl rfl rfl (IntWalk.u8_in _ (by omega)) rfl rfl ?_
    | refine RunQ.bin rfl rfl rfl (fun _ _ => rfl) (IntWalk.u64_in _ (by omega)) rfl rfl ?_
    | refine RunQ.conv rfl rfl rfl rfl (IntWalk.u64_in _ (by omega)) rfl rfl ?_
    | refine RunQ.bin rfl rfl rfl (fun _ _ => rfl) (IntWalk.u32_in _ (by omega)) rfl rfl ?_
    | refine RunQ.conv rfl rfl rfl rfl (IntWalk.u32_in _ (by omega)) rfl rfl ?_
    | refine RunQ.bin rfl rfl rfl (fun _ _ => rfl) (IntWalk.u16_in _ (by omega)) rfl rfl ?_
    | refine RunQ.conv rfl rfl rfl rfl (IntWalk.u16_in _ (by omega)) rfl rfl ?_
    | refine RunQ.val rfl rfl (fun _ => rfl) rfl rfl ?_
    | refine RunQ.no rfl rfl rfl ?_)
  exact Done.pure (.inr rfl) (fun _ => rfl) rfl rfl

end Go.Proofs.Ytigfncnlhccaeaa
