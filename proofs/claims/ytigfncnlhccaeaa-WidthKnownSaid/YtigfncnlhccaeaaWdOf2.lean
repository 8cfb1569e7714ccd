/-
  width.Of: what it answers for each number.
-/
import Derived.Test.YtigfncnlhccaeaaWdOf
namespace Go.Proofs.Ytigfncnlhccaeaa
open Go Go.Am

def hiddenL : List (Int × Int) := [(-2147483648, 31), (127, 159), (55296, 57343), (1114112, 2147483647)]
def marksL : List (Int × Int) := [
  (0x300, 0x36f), (0x483, 0x489), (0x591, 0x5bd), (0x5bf, 0x5bf), (0x5c1, 0x5c2), (0x5c4, 0x5c5), (0x5c7, 0x5c7),
  (0x610, 0x61a), (0x64b, 0x65f), (0x670, 0x670), (0x6d6, 0x6dc), (0x6df, 0x6e4), (0x6e7, 0x6e8), (0x6ea, 0x6ed),
  (0x711, 0x711), (0x730, 0x74a), (0x7a6, 0x7b0), (0xe31, 0xe31), (0xe34, 0xe3a), (0xe47, 0xe4e),
  (0x1ab0, 0x1ace), (0x1dc0, 0x1dff), (0x200b, 0x200f), (0x202a, 0x202e), (0x2060, 0x2064), (0x20d0, 0x20f0),
  (0x302a, 0x302d), (0x3099, 0x309a), (0xfe00, 0xfe0f), (0xfe20, 0xfe2f), (0xfeff, 0xfeff), (0xe0100, 0xe01ef)]
def widesL : List (Int × Int) := [
  (0x1100, 0x115f), (0x2329, 0x232a), (0x2e80, 0x303e), (0x3041, 0x4dbf), (0x4e00, 0xa4c6), (0xac00, 0xd7a3),
  (0xf900, 0xfaff), (0xfe10, 0xfe19), (0xfe30, 0xfe6f), (0xff01, 0xff60), (0xffe0, 0xffe6),
  (0x1f300, 0x1f64f), (0x1f900, 0x1f9ff), (0x20000, 0x2fffd), (0x30000, 0x3fffd)]

def risingB : List (Int × Int) → Bool
  | [] => true
  | s :: r => decide (s.1 ≤ s.2) && r.all (fun u => decide (s.2 < u.1)) && risingB r

theorem rising_of : ∀ {l : List (Int × Int)}, risingB l = true → Rising l
  | [], _ => ⟨fun i s h => by simp at h, fun i j s u h => by simp at h⟩
  | a :: r, h => by
    simp only [risingB, Bool.and_eq_true, decide_eq_true_eq, List.all_eq_true] at h
    obtain ⟨⟨h1, h2⟩, h3⟩ := h
    have ih := rising_of h3
    refine ⟨fun i s hs => ?_, fun i j s u hs hu hij => ?_⟩
    · cases i with
      | zero => simp at hs; subst hs; exact h1
      | succ i => exact ih.1 i s (by simpa using hs)
    · cases j with
      | zero => omega
      | succ j =>
        have hu' : r[j]? = some u := by simpa using hu
        cases i with
        | zero => simp at hs; subst hs; exact h2 u (List.mem_of_getElem? hu')
        | succ i => exact ih.2 i j s u (by simpa using hs) hu' (by omega)

theorem hidden_rising : Rising hiddenL := rising_of (by decide)
theorem marks_rising : Rising marksL := rising_of (by decide)
theorem wides_rising : Rising widesL := rising_of (by decide)

set_option maxHeartbeats 2000000 in
theorem f14_ok (H : List AObj) : WPcall E 14 [] H (MakesB H (fun k => .slice k 0 4 (some 4)) (.cells (flat hiddenL) 34 .rw false)) := by
  refine WPcall.walk [] rfl Try.func14 rfl rfl rfl rfl (by simp [keysB]) (by simp) ?_
  repeat' (first
    | refine Run.seq ?_
    | refine Run.region rfl ?_
    | refine Run.drawn rfl rfl rfl ?_
    | refine Run.block ?_
    | refine Run.condT rfl ?_
    | refine Run.condF rfl ?_
    | refine Run.skip ?_
    | refine Run.ret ?_
    | refine Run.exit ?_
    | refine Run.label ?_
    | refine Done.seq ?_
    | refine Done.seqE ?_
    | refine Done.seqR ?_
    | refine Done.blockN ?_
    | refine Done.blockR ?_
    | refine Done.hit ?_
    | refine Done.miss rfl ?_
    | refine Done.invE ?_
    | refine Done.invR ?_
    | refine RunO.buildSlice (cs := flat hiddenL) rfl rfl rfl rfl rfl ⟨Nat.le_of_ble_eq_true rfl, rfl⟩ (by kernel_rfl) (by kernel_rfl) rfl rfl (fun k => ?_)
    | refine RunO.nil ?_
    | refine RunO.move rfl rfl rfl rfl ?_
    | refine RunO.assign rfl rfl rfl rfl ?_
    | refine RunO.load 0 rfl rfl rfl rfl rfl rfl ?_
    | refine RunO.load 1 rfl rfl rfl rfl rfl rfl ?_
    | refine RunO.load 2 rfl rfl rfl rfl rfl rfl ?_
    | refine RunO.load 3 rfl rfl rfl rfl rfl rfl ?_
    | refine RunO.load 4 rfl rfl rfl rfl rfl rfl ?_
    | refine RunO.indexAddr rfl rfl rfl rfl rfl (by omega) rfl rfl rfl ?_
    | refine RunO.box rfl rfl rfl rfl rfl rfl (fun _ => ?_)
    | refine RunO.alloc rfl rfl rfl rfl rfl rfl (fun _ => ?_)
    | refine RunO.store 0 rfl rfl rfl rfl rfl rfl (by decide) (by decide) rfl rfl ?_
    | refine RunO.store 1 rfl rfl rfl rfl rfl rfl (by decide) (by decide) rfl rfl ?_
    | refine RunO.store 2 rfl rfl rfl rfl rfl rfl (by decide) (by decide) rfl rfl ?_
    | refine RunO.store 3 rfl rfl rfl rfl rfl rfl (by decide) (by decide) rfl rfl ?_
    | refine RunO.store 4 rfl rfl rfl rfl rfl rfl (by decide) (by decide) rfl rfl ?_
    | refine RunO.cmpT rfl (fun _ => rfl) rfl rfl (by omega) ?_
    | refine RunO.cmpF rfl (fun _ => rfl) rfl rfl (by omega) ?_
    | refine RunO.cmp rfl (fun _ => rfl) rfl rfl (fun _ => ?_) (fun _ => ?_)
    | refine RunO.bin rfl rfl rfl (fun _ _ => rfl) (IntWalk.i64_in _ (by omega)) rfl rfl ?_
    | refine RunO.conv rfl rfl rfl rfl (IntWalk.i64_in _ (by omega)) rfl rfl ?_
    | refine RunO.bin rfl rfl rfl (fun _ _ => rfl) (IntWalk.i32_in _ (by omega)) rfl rfl ?_
    | refine RunO.conv rfl rfl rfl rfl (IntWalk.i32_in _ (by omega)) rfl rfl ?_
    | refine RunO.bin rfl rfl rfl (fun _ _ => rfl) (IntWalk.u8_in _ (by omega)) rfl rfl ?_
    | refine RunO.conv rfl rfl rfl rfl (IntWalk.u8_in _ (by omega)) rfl rfl ?_
    | refine RunO.bin rfl rfl rfl (fun _ _ => rfl) (IntWalk.u64_in _ (by omega)) rfl rfl ?_
    | refine RunO.conv rfl rfl rfl rfl (IntWalk.u64_in _ (by omega)) rfl rfl ?_
    | refine RunO.bin rfl rfl rfl (fun _ _ => rfl) (IntWalk.u32_in _ (by omega)) rfl rfl ?_
    | refine RunO.conv rfl rfl rfl rfl (IntWalk.u32_in _ (by omega)) rfl rfl ?_
    | refine RunO.bin rfl rfl rfl (fun _ _ => rfl) (IntWalk.u16_in _ (by omega)) rfl rfl ?_
    | refine RunO.conv rfl rfl rfl rfl (IntWalk.u16_in _ (by omega)) rfl rfl ?_
    | refine RunO.val rfl (fun _ => rfl) rfl rfl ?_
    | refine RunO.no rfl rfl rfl ?_
    | refine RunQ.nil ?_
    | refine RunQ.move rfl rfl rfl rfl ?_
    | refine RunQ.assign rfl rfl rfl rfl ?_
    | refine RunQ.load 0 rfl rfl rfl rfl rfl rfl ?_
    | refine RunQ.load 1 rfl rfl rfl rfl rfl rfl ?_
    | refine RunQ.load 2 rfl rfl rfl rfl rfl rfl ?_
    | refine RunQ.load 3 rfl rfl rfl rfl rfl rfl ?_
    | refine RunQ.load 4 rfl rfl rfl rfl rfl rfl ?_
    | refine RunQ.indexAddr rfl rfl rfl rfl rfl (by omega) rfl rfl rfl ?_
    | refine RunQ.cmpT rfl (fun _ => rfl) rfl rfl (by omega) ?_
    | refine RunQ.cmpF rfl (fun _ => rfl) rfl rfl (by omega) ?_
    | refine RunQ.cmp rfl (fun _ => rfl) rfl rfl (fun _ => ?_) (fun _ => ?_)
    | refine RunQ.bin rfl rfl rfl (fun _ _ => rfl) (IntWalk.i64_in _ (by omega)) rfl rfl ?_
    | refine RunQ.conv rfl rfl rfl rfl (IntWalk.i64_in _ (by omega)) rfl rfl ?_
    | refine RunQ.bin rfl rfl rfl (fun _ _ => rfl) (IntWalk.i32_in _ (by omega)) rfl rfl ?_
    | refine RunQ.conv rfl rfl rfl rfl (IntWalk.i32_in _ (by omega)) rfl rfl ?_
    | refine RunQ.bin rfl rfl rfl (fun _ _ => rfl) (IntWalk.u8_in _ (by omega)) rfl rfl ?_
    | refine RunQ.conv rfl rfl rfl rfl (IntWalk.u8_in _ (by omega)) rfl rfl ?_
    | refine RunQ.bin rfl rfl rfl (fun _ _ => rfl) (IntWalk.u64_in _ (by omega)) rfl rfl ?_
    | refine RunQ.conv rfl rfl rfl rfl (IntWalk.u64_in _ (by omega)) rfl rfl ?_
    | refine RunQ.bin rfl rfl rfl (fun _ _ => rfl) (IntWalk.u32_in _ (by omega)) rfl rfl ?_
    | refine RunQ.conv rfl rfl rfl rfl (IntWalk.u32_in _ (by omega)) rfl rfl ?_
    | refine RunQ.bin rfl rfl rfl (fun _ _ => rfl) (IntWalk.u16_in _ (by omega)) rfl rfl ?_
    | refine RunQ.conv rfl rfl rfl rfl (IntWalk.u16_in _ (by omega)) rfl rfl ?_
    | refine RunQ.val rfl rfl (fun _ => rfl) rfl rfl ?_
    | refine RunQ.no rfl rfl rfl ?_)
  exact Done.makes 0 (.inr rfl) rfl (fun _ => rfl) rfl rfl

set_option maxHeartbeats 4000000 in
theorem f17_ok (H : List AObj) : WPcall E 17 [] H (MakesB H (fun k => .slice k 0 32 (some 32)) (.cells (flat marksL) 34 .rw false)) := by
  refine WPcall.walk [] rfl Try.func17 rfl rfl rfl rfl (by simp [keysB]) (by simp) ?_
  repeat' (first
    | refine Run.seq ?_
    | refine Run.region rfl ?_
    | refine Run.drawn rfl rfl rfl ?_
    | refine Run.block ?_
    | refine Run.condT rfl ?_
    | refine Run.condF rfl ?_
    | refine Run.skip ?_
    | refine Run.ret ?_
    | refine Run.exit ?_
    | refine Run.label ?_
    | refine Done.seq ?_
    | refine Done.seqE ?_
    | refine Done.seqR ?_
    | refine Done.blockN ?_
    | refine Done.blockR ?_
    | refine Done.hit ?_
    | refine Done.miss rfl ?_
    | refine Done.invE ?_
    | refine Done.invR ?_
    | refine RunO.buildSlice (cs := flat marksL) rfl rfl rfl rfl rfl ⟨Nat.le_of_ble_eq_true rfl, rfl⟩ (by kernel_rfl) (by kernel_rfl) rfl rfl (fun k => ?_)
    | refine RunO.nil ?_
    | refine RunO.move rfl rfl rfl rfl ?_
    | refine RunO.assign rfl rfl rfl rfl ?_
    | refine RunO.load 0 rfl rfl rfl rfl rfl rfl ?_
    | refine RunO.load 1 rfl rfl rfl rfl rfl rfl ?_
    | refine RunO.load 2 rfl rfl rfl rfl rfl rfl ?_
    | refine RunO.load 3 rfl rfl rfl rfl rfl rfl ?_
    | refine RunO.load 4 rfl rfl rfl rfl rfl rfl ?_
    | refine RunO.indexAddr rfl rfl rfl rfl rfl (by omega) rfl rfl rfl ?_
    | refine RunO.box rfl rfl rfl rfl rfl rfl (fun _ => ?_)
    | refine RunO.alloc rfl rfl rfl rfl rfl rfl (fun _ => ?_)
    | refine RunO.store 0 rfl rfl rfl rfl rfl rfl (by decide) (by decide) rfl rfl ?_
    | refine RunO.store 1 rfl rfl rfl rfl rfl rfl (by decide) (by decide) rfl rfl ?_
    | refine RunO.store 2 rfl rfl rfl rfl rfl rfl (by decide) (by decide) rfl rfl ?_
    | refine RunO.store 3 rfl rfl rfl rfl rfl rfl (by decide) (by decide) rfl rfl ?_
    | refine RunO.store 4 rfl rfl rfl rfl rfl rfl (by decide) (by decide) rfl rfl ?_
    | refine RunO.cmpT rfl (fun _ => rfl) rfl rfl (by omega) ?_
    | refine RunO.cmpF rfl (fun _ => rfl) rfl rfl (by omega) ?_
    | refine RunO.cmp rfl (fun _ => rfl) rfl rfl (fun _ => ?_) (fun _ => ?_)
    | refine RunO.bin rfl rfl rfl (fun _ _ => rfl) (IntWalk.i64_in _ (by omega)) rfl rfl ?_
    | refine RunO.conv rfl rfl rfl rfl (IntWalk.i64_in _ (by omega)) rfl rfl ?_
    | refine RunO.bin rfl rfl rfl (fun _ _ => rfl) (IntWalk.i32_in _ (by omega)) rfl rfl ?_
    | refine RunO.conv rfl rfl rfl rfl (IntWalk.i32_in _ (by omega)) rfl rfl ?_
    | refine RunO.bin rfl rfl rfl (fun _ _ => rfl) (IntWalk.u8_in _ (by omega)) rfl rfl ?_
    | refine RunO.conv rfl rfl rfl rfl (IntWalk.u8_in _ (by omega)) rfl rfl ?_
    | refine RunO.bin rfl rfl rfl (fun _ _ => rfl) (IntWalk.u64_in _ (by omega)) rfl rfl ?_
    | refine RunO.conv rfl rfl rfl rfl (IntWalk.u64_in _ (by omega)) rfl rfl ?_
    | refine RunO.bin rfl rfl rfl (fun _ _ => rfl) (IntWalk.u32_in _ (by omega)) rfl rfl ?_
    | refine RunO.conv rfl rfl rfl rfl (IntWalk.u32_in _ (by omega)) rfl rfl ?_
    | refine RunO.bin rfl rfl rfl (fun _ _ => rfl) (IntWalk.u16_in _ (by omega)) rfl rfl ?_
    | refine RunO.conv rfl rfl rfl rfl (IntWalk.u16_in _ (by omega)) rfl rfl ?_
    | refine RunO.val rfl (fun _ => rfl) rfl rfl ?_
    | refine RunO.no rfl rfl rfl ?_
    | refine RunQ.nil ?_
    | refine RunQ.move rfl rfl rfl rfl ?_
    | refine RunQ.assign rfl rfl rfl rfl ?_
    | refine RunQ.load 0 rfl rfl rfl rfl rfl rfl ?_
    | refine RunQ.load 1 rfl rfl rfl rfl rfl rfl ?_
    | refine RunQ.load 2 rfl rfl rfl rfl rfl rfl ?_
    | refine RunQ.load 3 rfl rfl rfl rfl rfl rfl ?_
    | refine RunQ.load 4 rfl rfl rfl rfl rfl rfl ?_
    | refine RunQ.indexAddr rfl rfl rfl rfl rfl (by omega) rfl rfl rfl ?_
    | refine RunQ.cmpT rfl (fun _ => rfl) rfl rfl (by omega) ?_
    | refine RunQ.cmpF rfl (fun _ => rfl) rfl rfl (by omega) ?_
    | refine RunQ.cmp rfl (fun _ => rfl) rfl rfl (fun _ => ?_) (fun _ => ?_)
    | refine RunQ.bin rfl rfl rfl (fun _ _ => rfl) (IntWalk.i64_in _ (by omega)) rfl rfl ?_
    | refine RunQ.conv rfl rfl rfl rfl (IntWalk.i64_in _ (by omega)) rfl rfl ?_
    | refine RunQ.bin rfl rfl rfl (fun _ _ => rfl) (IntWalk.i32_in _ (by omega)) rfl rfl ?_
    | refine RunQ.conv rfl rfl rfl rfl (IntWalk.i32_in _ (by omega)) rfl rfl ?_
    | refine RunQ.bin rfl rfl rfl (fun _ _ => rfl) (IntWalk.u8_in _ (by omega)) rfl rfl ?_
    | refine RunQ.conv rfl rfl rfl rfl (IntWalk.u8_in _ (by omega)) rfl rfl ?_
    | refine RunQ.bin rfl rfl rfl (fun _ _ => rfl) (IntWalk.u64_in _ (by omega)) rfl rfl ?_
    | refine RunQ.conv rfl rfl rfl rfl (IntWalk.u64_in _ (by omega)) rfl rfl ?_
    | refine RunQ.bin rfl rfl rfl (fun _ _ => rfl) (IntWalk.u32_in _ (by omega)) rfl rfl ?_
    | refine RunQ.conv rfl rfl rfl rfl (IntWalk.u32_in _ (by omega)) rfl rfl ?_
    | refine RunQ.bin rfl rfl rfl (fun _ _ => rfl) (IntWalk.u16_in _ (by omega)) rfl rfl ?_
    | refine RunQ.conv rfl rfl rfl rfl (IntWalk.u16_in _ (by omega)) rfl rfl ?_
    | refine RunQ.val rfl rfl (fun _ => rfl) rfl rfl ?_
    | refine RunQ.no rfl rfl rfl ?_)
  exact Done.makes 0 (.inr rfl) rfl (fun _ => rfl) rfl rfl

set_option maxHeartbeats 4000000 in
theorem f18_ok (H : List AObj) : WPcall E 18 [] H (MakesB H (fun k => .slice k 0 15 (some 15)) (.cells (flat widesL) 34 .rw false)) := by
  refine WPcall.walk [] rfl Try.func18 rfl rfl rfl rfl (by simp [keysB]) (by simp) ?_
  repeat' (first
    | refine Run.seq ?_
    | refine Run.region rfl ?_
    | refine Run.drawn rfl rfl rfl ?_
    | refine Run.block ?_
    | refine Run.condT rfl ?_
    | refine Run.condF rfl ?_
    | refine Run.skip ?_
    | refine Run.ret ?_
    | refine Run.exit ?_
    | refine Run.label ?_
    | refine Done.seq ?_
    | refine Done.seqE ?_
    | refine Done.seqR ?_
    | refine Done.blockN ?_
    | refine Done.blockR ?_
    | refine Done.hit ?_
    | refine Done.miss rfl ?_
    | refine Done.invE ?_
    | refine Done.invR ?_
    | refine RunO.buildSlice (cs := flat widesL) rfl rfl rfl rfl rfl ⟨Nat.le_of_ble_eq_true rfl, rfl⟩ (by kernel_rfl) (by kernel_rfl) rfl rfl (fun k => ?_)
    | refine RunO.nil ?_
    | refine RunO.move rfl rfl rfl rfl ?_
    | refine RunO.assign rfl rfl rfl rfl ?_
    | refine RunO.load 0 rfl rfl rfl rfl rfl rfl ?_
    | refine RunO.load 1 rfl rfl rfl rfl rfl rfl ?_
    | refine RunO.load 2 rfl rfl rfl rfl rfl rfl ?_
    | refine RunO.load 3 rfl rfl rfl rfl rfl rfl ?_
    | refine RunO.load 4 rfl rfl rfl rfl rfl rfl ?_
    | refine RunO.indexAddr rfl rfl rfl rfl rfl (by omega) rfl rfl rfl ?_
    | refine RunO.box rfl rfl rfl rfl rfl rfl (fun _ => ?_)
    | refine RunO.alloc rfl rfl rfl rfl rfl rfl (fun _ => ?_)
    | refine RunO.store 0 rfl rfl rfl rfl rfl rfl (by decide) (by decide) rfl rfl ?_
    | refine RunO.store 1 rfl rfl rfl rfl rfl rfl (by decide) (by decide) rfl rfl ?_
    | refine RunO.store 2 rfl rfl rfl rfl rfl rfl (by decide) (by decide) rfl rfl ?_
    | refine RunO.store 3 rfl rfl rfl rfl rfl rfl (by decide) (by decide) rfl rfl ?_
    | refine RunO.store 4 rfl rfl rfl rfl rfl rfl (by decide) (by decide) rfl rfl ?_
    | refine RunO.cmpT rfl (fun _ => rfl) rfl rfl (by omega) ?_
    | refine RunO.cmpF rfl (fun _ => rfl) rfl rfl (by omega) ?_
    | refine RunO.cmp rfl (fun _ => rfl) rfl rfl (fun _ => ?_) (fun _ => ?_)
    | refine RunO.bin rfl rfl rfl (fun _ _ => rfl) (IntWalk.i64_in _ (by omega)) rfl rfl ?_
    | refine RunO.conv rfl rfl rfl rfl (IntWalk.i64_in _ (by omega)) rfl rfl ?_
    | refine RunO.bin rfl rfl rfl (fun _ _ => rfl) (IntWalk.i32_in _ (by omega)) rfl rfl ?_
    | refine RunO.conv rfl rfl rfl rfl (IntWalk.i32_in _ (by omega)) rfl rfl ?_
    | refine RunO.bin rfl rfl rfl (fun _ _ => rfl) (IntWalk.u8_in _ (by omega)) rfl rfl ?_
    | refine RunO.conv rfl rfl rfl rfl (IntWalk.u8_in _ (by omega)) rfl rfl ?_
    | refine RunO.bin rfl rfl rfl (fun _ _ => rfl) (IntWalk.u64_in _ (by omega)) rfl rfl ?_
    | refine RunO.conv rfl rfl rfl rfl (IntWalk.u64_in _ (by omega)) rfl rfl ?_
    | refine RunO.bin rfl rfl rfl (fun _ _ => rfl) (IntWalk.u32_in _ (by omega)) rfl rfl ?_
    | refine RunO.conv rfl rfl rfl rfl (IntWalk.u32_in _ (by omega)) rfl rfl ?_
    | refine RunO.bin rfl rfl rfl (fun _ _ => rfl) (IntWalk.u16_in _ (by omega)) rfl rfl ?_
    | refine RunO.conv rfl rfl rfl rfl (IntWalk.u16_in _ (by omega)) rfl rfl ?_
    | refine RunO.val rfl (fun _ => rfl) rfl rfl ?_
    | refine RunO.no rfl rfl rfl ?_
    | refine RunQ.nil ?_
    | refine RunQ.move rfl rfl rfl rfl ?_
    | refine RunQ.assign rfl rfl rfl rfl ?_
    | refine RunQ.load 0 rfl rfl rfl rfl rfl rfl ?_
    | refine RunQ.load 1 rfl rfl rfl rfl rfl rfl ?_
    | refine RunQ.load 2 rfl rfl rfl rfl rfl rfl ?_
    | refine RunQ.load 3 rfl rfl rfl rfl rfl rfl ?_
    | refine RunQ.load 4 rfl rfl rfl rfl rfl rfl ?_
    | refine RunQ.indexAddr rfl rfl rfl rfl rfl (by omega) rfl rfl rfl ?_
    | refine RunQ.cmpT rfl (fun _ => rfl) rfl rfl (by omega) ?_
    | refine RunQ.cmpF rfl (fun _ => rfl) rfl rfl (by omega) ?_
    | refine RunQ.cmp rfl (fun _ => rfl) rfl rfl (fun _ => ?_) (fun _ => ?_)
    | refine RunQ.bin rfl rfl rfl (fun _ _ => rfl) (IntWalk.i64_in _ (by omega)) rfl rfl ?_
    | refine RunQ.conv rfl rfl rfl rfl (IntWalk.i64_in _ (by omega)) rfl rfl ?_
    | refine RunQ.bin rfl rfl rfl (fun _ _ => rfl) (IntWalk.i32_in _ (by omega)) rfl rfl ?_
    | refine RunQ.conv rfl rfl rfl rfl (IntWalk.i32_in _ (by omega)) rfl rfl ?_
    | refine RunQ.bin rfl rfl rfl (fun _ _ => rfl) (IntWalk.u8_in _ (by omega)) rfl rfl ?_
    | refine RunQ.conv rfl rfl rfl rfl (IntWalk.u8_in _ (by omega)) rfl rfl ?_
    | refine RunQ.bin rfl rfl rfl (fun _ _ => rfl) (IntWalk.u64_in _ (by omega)) rfl rfl ?_
    | refine RunQ.conv rfl rfl rfl rfl (IntWalk.u64_in _ (by omega)) rfl rfl ?_
    | refine RunQ.bin rfl rfl rfl (fun _ _ => rfl) (IntWalk.u32_in _ (by omega)) rfl rfl ?_
    | refine RunQ.conv rfl rfl rfl rfl (IntWalk.u32_in _ (by omega)) rfl rfl ?_
    | refine RunQ.bin rfl rfl rfl (fun _ _ => rfl) (IntWalk.u16_in _ (by omega)) rfl rfl ?_
    | refine RunQ.conv rfl rfl rfl rfl (IntWalk.u16_in _ (by omega)) rfl rfl ?_
    | refine RunQ.val rfl rfl (fun _ => rfl) rfl rfl ?_
    | refine RunQ.no rfl rfl rfl ?_)
  exact Done.makes 0 (.inr rfl) rfl (fun _ => rfl) rfl rfl

theorem f13_ok (k : Nat) (l : List (Int × Int)) (x : Int) (cp : Option Nat) (e : TypeId) (m : Am.Mode) (fz : Bool) (H : List AObj) (hk : H[k]? = some (.cells (flat l) e m fz)) (hl : l.length < 1000000000) (hr : Rising l) :
    Gives E 13 [.int .i32 x, .slice k 0 l.length cp] H (.pure (.bool (isIn l x))) := by
  refine Gives.walk [(false, k, .cells (flat l) e m fz)] rfl Try.func13 rfl rfl rfl rfl (by simp [keysB]) (by simpa using hk) ?_
  repeat' (first
    | refine Run.seq ?_
    | refine Run.region rfl ?_
    | refine Run.drawn rfl rfl rfl ?_
    | refine Run.block ?_
    | refine Run.condT rfl ?_
    | refine Run.condF rfl ?_
    | refine Run.skip ?_
    | refine Run.ret ?_
    | refine Run.exit ?_
    | refine Run.label ?_
    | refine Done.seq ?_
    | refine Done.seqE ?_
    | refine Done.seqR ?_
    | refine Done.blockN ?_
    | refine Done.blockR ?_
    | refine Done.hit ?_
    | refine Done.miss rfl ?_
    | refine Done.invE ?_
    | refine Done.invR ?_
    | refine RunO.pureE (fun p : Int => .tup [.int .i64 p, .bool (isIn l x)]) rfl (fun _ => rfl) rfl rfl (fun H hh => f20_ok k l x cp e m fz H.objs (hh.at (i := 0) rfl) hl hr) (fun p => ?_)
    | refine RunO.nil ?_
    | refine RunO.move rfl rfl rfl rfl ?_
    | refine RunO.assign rfl rfl rfl rfl ?_
    | refine RunO.load 0 rfl rfl rfl rfl rfl rfl ?_
    | refine RunO.load 1 rfl rfl rfl rfl rfl rfl ?_
    | refine RunO.load 2 rfl rfl rfl rfl rfl rfl ?_
    | refine RunO.load 3 rfl rfl rfl rfl rfl rfl ?_
    | refine RunO.load 4 rfl rfl rfl rfl rfl rfl ?_
    | refine RunO.indexAddr rfl rfl rfl rfl rfl (by omega) rfl rfl rfl ?_
    | refine RunO.box rfl rfl rfl rfl rfl rfl (fun _ => ?_)
    | refine RunO.alloc rfl rfl rfl rfl rfl rfl (fun _ => ?_)
    | refine RunO.store 0 rfl rfl rfl rfl rfl rfl (by decide) (by decide) rfl rfl ?_
    | refine RunO.store 1 rfl rfl rfl rfl rfl rfl (by decide) (by decide) rfl rfl ?_
    | refine RunO.store 2 rfl rfl rfl rfl rfl rfl (by decide) (by decide) rfl rfl ?_
    | refine RunO.store 3 rfl rfl rfl rfl rfl rfl (by decide) (by decide) rfl rfl ?_
    | refine RunO.store 4 rfl rfl rfl rfl rfl rfl (by decide) (by decide) rfl rfl ?_
    | refine RunO.cmpT rfl (fun _ => rfl) rfl rfl (by omega) ?_
    | refine RunO.cmpF rfl (fun _ => rfl) rfl rfl (by omega) ?_
    | refine RunO.cmp rfl (fun _ => rfl) rfl rfl (fun _ => ?_) (fun _ => ?_)
    | refine RunO.bin rfl rfl rfl (fun _ _ => rfl) (IntWalk.i64_in _ (by omega)) rfl rfl ?_
    | refine RunO.conv rfl rfl rfl rfl (IntWalk.i64_in _ (by omega)) rfl rfl ?_
    | refine RunO.bin rfl rfl rfl (fun _ _ => rfl) (IntWalk.i32_in _ (by omega)) rfl rfl ?_
    | refine RunO.conv rfl rfl rfl rfl (IntWalk.i32_in _ (by omega)) rfl rfl ?_
    | refine RunO.bin rfl rfl rfl (fun _ _ => rfl) (IntWalk.u8_in _ (by omega)) rfl rfl ?_
    | refine RunO.conv rfl rfl rfl rfl (IntWalk.u8_in _ (by omega)) rfl rfl ?_
    | refine RunO.bin rfl rfl rfl (fun _ _ => rfl) (IntWalk.u64_in _ (by omega)) rfl rfl ?_
    | refine RunO.conv rfl rfl rfl rfl (IntWalk.u64_in _ (by omega)) rfl rfl ?_
    | refine RunO.bin rfl rfl rfl (fun _ _ => rfl) (IntWalk.u32_in _ (by omega)) rfl rfl ?_
    | refine RunO.conv rfl rfl rfl rfl (IntWalk.u32_in _ (by omega)) rfl rfl ?_
    | refine RunO.bin rfl rfl rfl (fun _ _ => rfl) (IntWalk.u16_in _ (by omega)) rfl rfl ?_
    | refine RunO.conv rfl rfl rfl rfl (IntWalk.u16_in _ (by omega)) rfl rfl ?_
    | refine RunO.val rfl (fun _ => rfl) rfl rfl ?_
    | refine RunO.no rfl rfl rfl ?_
    | refine RunQ.nil ?_
    | refine RunQ.move rfl rfl rfl rfl ?_
    | refine RunQ.assign rfl rfl rfl rfl ?_
    | refine RunQ.load 0 rfl rfl rfl rfl rfl rfl ?_
    | refine RunQ.load 1 rfl rfl rfl rfl rfl rfl ?_
    | refine RunQ.load 2 rfl rfl rfl rfl rfl rfl ?_
    | refine RunQ.load 3 rfl rfl rfl rfl rfl rfl ?_
    | refine RunQ.load 4 rfl rfl rfl rfl rfl rfl ?_
    | refine RunQ.indexAddr rfl rfl rfl rfl rfl (by omega) rfl rfl rfl ?_
    | refine RunQ.cmpT rfl (fun _ => rfl) rfl rfl (by omega) ?_
    | refine RunQ.cmpF rfl (fun _ => rfl) rfl rfl (by omega) ?_
    | refine RunQ.cmp rfl (fun _ => rfl) rfl rfl (fun _ => ?_) (fun _ => ?_)
    | refine RunQ.bin rfl rfl rfl (fun _ _ => rfl) (IntWalk.i64_in _ (by omega)) rfl rfl ?_
    | refine RunQ.conv rfl rfl rfl rfl (IntWalk.i64_in _ (by omega)) rfl rfl ?_
    | refine RunQ.bin rfl rfl rfl (fun _ _ => rfl) (IntWalk.i32_in _ (by omega)) rfl rfl ?_
    | refine RunQ.conv rfl rfl rfl rfl (IntWalk.i32_in _ (by omega)) rfl rfl ?_
    | refine RunQ.bin rfl rfl rfl (fun _ _ => rfl) (IntWalk.u8_in _ (by omega)) rfl rfl ?_
    | refine RunQ.conv rfl rfl rfl rfl (IntWalk.u8_in _ (by omega)) rfl rfl ?_
    | refine RunQ.bin rfl rfl rfl (fun _ _ => rfl) (IntWalk.u64_in _ (by omega)) rfl rfl ?_
    | refine RunQ.conv rfl rfl rfl rfl (IntWalk.u64_in _ (by omega)) rfl rfl ?_
    | refine RunQ.bin rfl rfl rfl (fun _ _ => rfl) (IntWalk.u32_in _ (by omega)) rfl rfl ?_
    | refine RunQ.conv rfl rfl rfl rfl (IntWalk.u32_in _ (by omega)) rfl rfl ?_
    | refine RunQ.bin rfl rfl rfl (fun _ _ => rfl) (IntWalk.u16_in _ (by omega)) rfl rfl ?_
    | refine RunQ.conv rfl rfl rfl rfl (IntWalk.u16_in _ (by omega)) rfl rfl ?_
    | refine RunQ.val rfl rfl (fun _ => rfl) rfl rfl ?_
    | refine RunQ.no rfl rfl rfl ?_)
  exact Done.pure (.inr rfl) (fun _ => rfl) rfl rfl

def ofSpec (x : Int) : Int := if isIn hiddenL x = true then -1 else if isIn marksL x = true then 0 else if isIn widesL x = true then 2 else 1

theorem f9_ok (x : Int) (H : List AObj) : Gives E 9 [.int .i32 x] H (.pure (.bool (isIn marksL x))) := by
  refine Gives.walk [] rfl Try.func9 rfl rfl rfl rfl (by simp [keysB]) (by simp) ?_
  repeat' (first
    | refine Run.seq ?_
    | refine Run.region rfl ?_
    | refine Run.drawn rfl rfl rfl ?_
    | refine Run.block ?_
    | refine Run.condT rfl ?_
    | refine Run.condF rfl ?_
    | refine Run.skip ?_
    | refine Run.ret ?_
    | refine Run.exit ?_
    | refine Run.label ?_
    | refine Done.seq ?_
    | refine Done.seqE ?_
    | refine Done.seqR ?_
    | refine Done.blockN ?_
    | refine Done.blockR ?_
    | refine Done.hit ?_
    | refine Done.miss rfl ?_
    | refine Done.invE ?_
    | refine Done.invR ?_
    | refine RunO.callB rfl (fun _ => rfl) rfl rfl (fun H hh => f17_ok H.objs) (fun k => ?_)
    | refine RunO.pure rfl (fun _ => rfl) rfl rfl (fun H hh => f13_ok _ marksL _ _ _ _ _ H.objs (hh.at (i := 0) rfl) (by decide) marks_rising) ?_
    | refine RunO.nil ?_
    | refine RunO.move rfl rfl rfl rfl ?_
    | refine RunO.assign rfl rfl rfl rfl ?_
    | refine RunO.load 0 rfl rfl rfl rfl rfl rfl ?_
    | refine RunO.load 1 rfl rfl rfl rfl rfl rfl ?_
    | refine RunO.load 2 rfl rfl rfl rfl rfl rfl ?_
    | refine RunO.load 3 rfl rfl rfl rfl rfl rfl ?_
    | refine RunO.load 4 rfl rfl rfl rfl rfl rfl ?_
    | refine RunO.indexAddr rfl rfl rfl rfl rfl (by omega) rfl rfl rfl ?_
    | refine RunO.box rfl rfl rfl rfl rfl rfl (fun _ => ?_)
    | refine RunO.alloc rfl rfl rfl rfl rfl rfl (fun _ => ?_)
    | refine RunO.store 0 rfl rfl rfl rfl rfl rfl (by decide) (by decide) rfl rfl ?_
    | refine RunO.store 1 rfl rfl rfl rfl rfl rfl (by decide) (by decide) rfl rfl ?_
    | refine RunO.store 2 rfl rfl rfl rfl rfl rfl (by decide) (by decide) rfl rfl ?_
    | refine RunO.store 3 rfl rfl rfl rfl rfl rfl (by decide) (by decide) rfl rfl ?_
    | refine RunO.store 4 rfl rfl rfl rfl rfl rfl (by decide) (by decide) rfl rfl ?_
    | refine RunO.cmpT rfl (fun _ => rfl) rfl rfl (by omega) ?_
    | refine RunO.cmpF rfl (fun _ => rfl) rfl rfl (by omega) ?_
    | refine RunO.cmp rfl (fun _ => rfl) rfl rfl (fun _ => ?_) (fun _ => ?_)
    | refine RunO.bin rfl rfl rfl (fun _ _ => rfl) (IntWalk.i64_in _ (by omega)) rfl rfl ?_
    | refine RunO.conv rfl rfl rfl rfl (IntWalk.i64_in _ (by omega)) rfl rfl ?_
    | refine RunO.bin rfl rfl rfl (fun _ _ => rfl) (IntWalk.i32_in _ (by omega)) rfl rfl ?_
    | refine RunO.conv rfl rfl rfl rfl (IntWalk.i32_in _ (by omega)) rfl rfl ?_
    | refine RunO.bin rfl rfl rfl (fun _ _ => rfl) (IntWalk.u8_in _ (by omega)) rfl rfl ?_
    | refine RunO.conv rfl rfl rfl rfl (IntWalk.u8_in _ (by omega)) rfl rfl ?_
    | refine RunO.bin rfl rfl rfl (fun _ _ => rfl) (IntWalk.u64_in _ (by omega)) rfl rfl ?_
    | refine RunO.conv rfl rfl rfl rfl (IntWalk.u64_in _ (by omega)) rfl rfl ?_
    | refine RunO.bin rfl rfl rfl (fun _ _ => rfl) (IntWalk.u32_in _ (by omega)) rfl rfl ?_
    | refine RunO.conv rfl rfl rfl rfl (IntWalk.u32_in _ (by omega)) rfl rfl ?_
    | refine RunO.bin rfl rfl rfl (fun _ _ => rfl) (IntWalk.u16_in _ (by omega)) rfl rfl ?_
    | refine RunO.conv rfl rfl rfl rfl (IntWalk.u16_in _ (by omega)) rfl rfl ?_
    | refine RunO.val rfl (fun _ => rfl) rfl rfl ?_
    | refine RunO.no rfl rfl rfl ?_
    | refine RunQ.nil ?_
    | refine RunQ.move rfl rfl rfl rfl ?_
    | refine RunQ.assign rfl rfl rfl rfl ?_
    | refine RunQ.load 0 rfl rfl rfl rfl rfl rfl ?_
    | refine RunQ.load 1 rfl rfl rfl rfl rfl rfl ?_
    | refine RunQ.load 2 rfl rfl rfl rfl rfl rfl ?_
    | refine RunQ.load 3 rfl rfl rfl rfl rfl rfl ?_
    | refine RunQ.load 4 rfl rfl rfl rfl rfl rfl ?_
    | refine RunQ.indexAddr rfl rfl rfl rfl rfl (by omega) rfl rfl rfl ?_
    | refine RunQ.cmpT rfl (fun _ => rfl) rfl rfl (by omega) ?_
    | refine RunQ.cmpF rfl (fun _ => rfl) rfl rfl (by omega) ?_
    | refine RunQ.cmp rfl (fun _ => rfl) rfl rfl (fun _ => ?_) (fun _ => ?_)
    | refine RunQ.bin rfl rfl rfl (fun _ _ => rfl) (IntWalk.i64_in _ (by omega)) rfl rfl ?_
    | refine RunQ.conv rfl rfl rfl rfl (IntWalk.i64_in _ (by omega)) rfl rfl ?_
    | refine RunQ.bin rfl rfl rfl (fun _ _ => rfl) (IntWalk.i32_in _ (by omega)) rfl rfl ?_
    | refine RunQ.conv rfl rfl rfl rfl (IntWalk.i32_in _ (by omega)) rfl rfl ?_
    | refine RunQ.bin rfl rfl rfl (fun _ _ => rfl) (IntWalk.u8_in _ (by omega)) rfl rfl ?_
    | refine RunQ.conv rfl rfl rfl rfl (IntWalk.u8_in _ (by omega)) rfl rfl ?_
    | refine RunQ.bin rfl rfl rfl (fun _ _ => rfl) (IntWalk.u64_in _ (by omega)) rfl rfl ?_
    | refine RunQ.conv rfl rfl rfl rfl (IntWalk.u64_in _ (by omega)) rfl rfl ?_
    | refine RunQ.bin rfl rfl rfl (fun _ _ => rfl) (IntWalk.u32_in _ (by omega)) rfl rfl ?_
    | refine RunQ.conv rfl rfl rfl rfl (IntWalk.u32_in _ (by omega)) rfl rfl ?_
    | refine RunQ.bin rfl rfl rfl (fun _ _ => rfl) (IntWalk.u16_in _ (by omega)) rfl rfl ?_
    | refine RunQ.conv rfl rfl rfl rfl (IntWalk.u16_in _ (by omega)) rfl rfl ?_
    | refine RunQ.val rfl rfl (fun _ => rfl) rfl rfl ?_
    | refine RunQ.no rfl rfl rfl ?_)
  exact Done.pure (.inr rfl) (fun _ => rfl) rfl rfl

theorem f10_ok (x : Int) (H : List AObj) : Gives E 10 [.int .i32 x] H (.pure (.bool (isIn widesL x && !isIn marksL x))) := by
  refine Gives.walk [] rfl Try.func10 rfl rfl rfl rfl (by simp [keysB]) (by simp) ?_
  repeat' (first
    | refine Run.seq ?_
    | refine Run.region rfl ?_
    | refine Run.drawn rfl rfl rfl ?_
    | refine Run.block ?_
    | refine Run.condT rfl ?_
    | refine Run.condF rfl ?_
    | refine Run.skip ?_
    | refine Run.ret ?_
    | refine Run.exit ?_
    | refine Run.label ?_
    | refine Done.seq ?_
    | refine Done.seqE ?_
    | refine Done.seqR ?_
    | refine Done.blockN ?_
    | refine Done.blockR ?_
    | refine Done.hit ?_
    | refine Done.miss rfl ?_
    | refine Done.invE ?_
    | refine Done.invR ?_
    | refine RunO.callB rfl (fun _ => rfl) rfl rfl (fun H hh => f18_ok H.objs) (fun k => ?_)
    | refine RunO.pure rfl (fun _ => rfl) rfl rfl (fun H hh => f13_ok _ widesL _ _ _ _ _ H.objs (hh.at (i := 0) rfl) (by decide) wides_rising) ?_
    | refine RunO.cmpM rfl rfl rfl rfl (fun _ => ?_) (fun _ => ?_)
    | refine RunO.pure rfl (fun _ => rfl) rfl rfl (fun H hh => f9_ok _ H.objs) ?_
    | refine RunO.nil ?_
    | refine RunO.move rfl rfl rfl rfl ?_
    | refine RunO.assign rfl rfl rfl rfl ?_
    | refine RunO.load 0 rfl rfl rfl rfl rfl rfl ?_
    | refine RunO.load 1 rfl rfl rfl rfl rfl rfl ?_
    | refine RunO.load 2 rfl rfl rfl rfl rfl rfl ?_
    | refine RunO.load 3 rfl rfl rfl rfl rfl rfl ?_
    | refine RunO.load 4 rfl rfl rfl rfl rfl rfl ?_
    | refine RunO.indexAddr rfl rfl rfl rfl rfl (by omega) rfl rfl rfl ?_
    | refine RunO.box rfl rfl rfl rfl rfl rfl (fun _ => ?_)
    | refine RunO.alloc rfl rfl rfl rfl rfl rfl (fun _ => ?_)
    | refine RunO.store 0 rfl rfl rfl rfl rfl rfl (by decide) (by decide) rfl rfl ?_
    | refine RunO.store 1 rfl rfl rfl rfl rfl rfl (by decide) (by decide) rfl rfl ?_
    | refine RunO.store 2 rfl rfl rfl rfl rfl rfl (by decide) (by decide) rfl rfl ?_
    | refine RunO.store 3 rfl rfl rfl rfl rfl rfl (by decide) (by decide) rfl rfl ?_
    | refine RunO.store 4 rfl rfl rfl rfl rfl rfl (by decide) (by decide) rfl rfl ?_
    | refine RunO.cmpT rfl (fun _ => rfl) rfl rfl (by omega) ?_
    | refine RunO.cmpF rfl (fun _ => rfl) rfl rfl (by omega) ?_
    | refine RunO.cmp rfl (fun _ => rfl) rfl rfl (fun _ => ?_) (fun _ => ?_)
    | refine RunO.bin rfl rfl rfl (fun _ _ => rfl) (IntWalk.i64_in _ (by omega)) rfl rfl ?_
    | refine RunO.conv rfl rfl rfl rfl (IntWalk.i64_in _ (by omega)) rfl rfl ?_
    | refine RunO.bin rfl rfl rfl (fun _ _ => rfl) (IntWalk.i32_in _ (by omega)) rfl rfl ?_
    | refine RunO.conv rfl rfl rfl rfl (IntWalk.i32_in _ (by omega)) rfl rfl ?_
    | refine RunO.bin rfl rfl rfl (fun _ _ => rfl) (IntWalk.u8_in _ (by omega)) rfl rfl ?_
    | refine RunO.conv rfl rfl rfl rfl (IntWalk.u8_in _ (by omega)) rfl rfl ?_
    | refine RunO.bin rfl rfl rfl (fun _ _ => rfl) (IntWalk.u64_in _ (by omega)) rfl rfl ?_
    | refine RunO.conv rfl rfl rfl rfl (IntWalk.u64_in _ (by omega)) rfl rfl ?_
    | refine RunO.bin rfl rfl rfl (fun _ _ => rfl) (IntWalk.u32_in _ (by omega)) rfl rfl ?_
    | refine RunO.conv rfl rfl rfl rfl (IntWalk.u32_in _ (by omega)) rfl rfl ?_
    | refine RunO.bin rfl rfl rfl (fun _ _ => rfl) (IntWalk.u16_in _ (by omega)) rfl rfl ?_
    | refine RunO.conv rfl rfl rfl rfl (IntWalk.u16_in _ (by omega)) rfl rfl ?_
    | refine RunO.val rfl (fun _ => rfl) rfl rfl ?_
    | refine RunO.no rfl rfl rfl ?_
    | refine RunQ.nil ?_
    | refine RunQ.move rfl rfl rfl rfl ?_
    | refine RunQ.assign rfl rfl rfl rfl ?_
    | refine RunQ.load 0 rfl rfl rfl rfl rfl rfl ?_
    | refine RunQ.load 1 rfl rfl rfl rfl rfl rfl ?_
    | refine RunQ.load 2 rfl rfl rfl rfl rfl rfl ?_
    | refine RunQ.load 3 rfl rfl rfl rfl rfl rfl ?_
    | refine RunQ.load 4 rfl rfl rfl rfl rfl rfl ?_
    | refine RunQ.indexAddr rfl rfl rfl rfl rfl (by omega) rfl rfl rfl ?_
    | refine RunQ.cmpT rfl (fun _ => rfl) rfl rfl (by omega) ?_
    | refine RunQ.cmpF rfl (fun _ => rfl) rfl rfl (by omega) ?_
    | refine RunQ.cmp rfl (fun _ => rfl) rfl rfl (fun _ => ?_) (fun _ => ?_)
    | refine RunQ.bin rfl rfl rfl (fun _ _ => rfl) (IntWalk.i64_in _ (by omega)) rfl rfl ?_
    | refine RunQ.conv rfl rfl rfl rfl (IntWalk.i64_in _ (by omega)) rfl rfl ?_
    | refine RunQ.bin rfl rfl rfl (fun _ _ => rfl) (IntWalk.i32_in _ (by omega)) rfl rfl ?_
    | refine RunQ.conv rfl rfl rfl rfl (IntWalk.i32_in _ (by omega)) rfl rfl ?_
    | refine RunQ.bin rfl rfl rfl (fun _ _ => rfl) (IntWalk.u8_in _ (by omega)) rfl rfl ?_
    | refine RunQ.conv rfl rfl rfl rfl (IntWalk.u8_in _ (by omega)) rfl rfl ?_
    | refine RunQ.bin rfl rfl rfl (fun _ _ => rfl) (IntWalk.u64_in _ (by omega)) rfl rfl ?_
    | refine RunQ.conv rfl rfl rfl rfl (IntWalk.u64_in _ (by omega)) rfl rfl ?_
    | refine RunQ.bin rfl rfl rfl (fun _ _ => rfl) (IntWalk.u32_in _ (by omega)) rfl rfl ?_
    | refine RunQ.conv rfl rfl rfl rfl (IntWalk.u32_in _ (by omega)) rfl rfl ?_
    | refine RunQ.bin rfl rfl rfl (fun _ _ => rfl) (IntWalk.u16_in _ (by omega)) rfl rfl ?_
    | refine RunQ.conv rfl rfl rfl rfl (IntWalk.u16_in _ (by omega)) rfl rfl ?_
    | refine RunQ.val rfl rfl (fun _ => rfl) rfl rfl ?_
    | refine RunQ.no rfl rfl rfl ?_)
  all_goals rename_i hx
  · exact Done.pure (.inr rfl) (fun _ => rfl) (by rw [hx]; rfl) rfl
  · exact Done.pure (.inr rfl) (fun _ => rfl) (by rw [hx]; rfl) rfl

theorem f7_ok (x : Int) (H : List AObj) : Gives E 7 [.int .i32 x] H (.pure (.int .i64 (ofSpec x))) := by
  refine Gives.walk [] rfl Try.func7 rfl rfl rfl rfl (by simp [keysB]) (by simp) ?_
  repeat' (first
    | refine Run.seq ?_
    | refine Run.region rfl ?_
    | refine Run.drawn rfl rfl rfl ?_
    | refine Run.block ?_
    | refine Run.condT rfl ?_
    | refine Run.condF rfl ?_
    | refine Run.skip ?_
    | refine Run.ret ?_
    | refine Run.exit ?_
    | refine Run.label ?_
    | refine Done.seq ?_
    | refine Done.seqE ?_
    | refine Done.seqR ?_
    | refine Done.blockN ?_
    | refine Done.blockR ?_
    | refine Done.hit ?_
    | refine Done.miss rfl ?_
    | refine Done.invE ?_
    | refine Done.invR ?_
    | refine RunO.callB rfl (fun _ => rfl) rfl rfl (fun H hh => f14_ok H.objs) (fun k => ?_)
    | refine RunO.pure rfl (fun _ => rfl) rfl rfl (fun H hh => f13_ok _ hiddenL _ _ _ _ _ H.objs (hh.at (i := 0) rfl) (by decide) hidden_rising) ?_
    | refine RunO.pure rfl (fun _ => rfl) rfl rfl (fun H hh => f9_ok _ H.objs) ?_
    | refine RunO.pure rfl (fun _ => rfl) rfl rfl (fun H hh => f10_ok _ H.objs) ?_
    | refine Run.cond rfl (fun _ => ?_) (fun _ => ?_)
    | refine RunO.nil ?_
    | refine RunO.move rfl rfl rfl rfl ?_
    | refine RunO.assign rfl rfl rfl rfl ?_
    | refine RunO.load 0 rfl rfl rfl rfl rfl rfl ?_
    | refine RunO.load 1 rfl rfl rfl rfl rfl rfl ?_
    | refine RunO.load 2 rfl rfl rfl rfl rfl rfl ?_
    | refine RunO.load 3 rfl rfl rfl rfl rfl rfl ?_
    | refine RunO.load 4 rfl rfl rfl rfl rfl rfl ?_
    | refine RunO.indexAddr rfl rfl rfl rfl rfl (by omega) rfl rfl rfl ?_
    | refine RunO.box rfl rfl rfl rfl rfl rfl (fun _ => ?_)
    | refine RunO.alloc rfl rfl rfl rfl rfl rfl (fun _ => ?_)
    | refine RunO.store 0 rfl rfl rfl rfl rfl rfl (by decide) (by decide) rfl rfl ?_
    | refine RunO.store 1 rfl rfl rfl rfl rfl rfl (by decide) (by decide) rfl rfl ?_
    | refine RunO.store 2 rfl rfl rfl rfl rfl rfl (by decide) (by decide) rfl rfl ?_
    | refine RunO.store 3 rfl rfl rfl rfl rfl rfl (by decide) (by decide) rfl rfl ?_
    | refine RunO.store 4 rfl rfl rfl rfl rfl rfl (by decide) (by decide) rfl rfl ?_
    | refine RunO.cmpT rfl (fun _ => rfl) rfl rfl (by omega) ?_
    | refine RunO.cmpF rfl (fun _ => rfl) rfl rfl (by omega) ?_
    | refine RunO.cmp rfl (fun _ => rfl) rfl rfl (fun _ => ?_) (fun _ => ?_)
    | refine RunO.bin rfl rfl rfl (fun _ _ => rfl) (IntWalk.i64_in _ (by omega)) rfl rfl ?_
    | refine RunO.conv rfl rfl rfl rfl (IntWalk.i64_in _ (by omega)) rfl rfl ?_
    | refine RunO.bin rfl rfl rfl (fun _ _ => rfl) (IntWalk.i32_in _ (by omega)) rfl rfl ?_
    | refine RunO.conv rfl rfl rfl rfl (IntWalk.i32_in _ (by omega)) rfl rfl ?_
    | refine RunO.bin rfl rfl rfl (fun _ _ => rfl) (IntWalk.u8_in _ (by omega)) rfl rfl ?_
    | refine RunO.conv rfl rfl rfl rfl (IntWalk.u8_in _ (by omega)) rfl rfl ?_
    | refine RunO.bin rfl rfl rfl (fun _ _ => rfl) (IntWalk.u64_in _ (by omega)) rfl rfl ?_
    | refine RunO.conv rfl rfl rfl rfl (IntWalk.u64_in _ (by omega)) rfl rfl ?_
    | refine RunO.bin rfl rfl rfl (fun _ _ => rfl) (IntWalk.u32_in _ (by omega)) rfl rfl ?_
    | refine RunO.conv rfl rfl rfl rfl (IntWalk.u32_in _ (by omega)) rfl rfl ?_
    | refine RunO.bin rfl rfl rfl (fun _ _ => rfl) (IntWalk.u16_in _ (by omega)) rfl rfl ?_
    | refine RunO.conv rfl rfl rfl rfl (IntWalk.u16_in _ (by omega)) rfl rfl ?_
    | refine RunO.val rfl (fun _ => rfl) rfl rfl ?_
    | refine RunO.no rfl rfl rfl ?_
    | refine RunQ.nil ?_
    | refine RunQ.move rfl rfl rfl rfl ?_
    | refine RunQ.assign rfl rfl rfl rfl ?_
    | refine RunQ.load 0 rfl rfl rfl rfl rfl rfl ?_
    | refine RunQ.load 1 rfl rfl rfl rfl rfl rfl ?_
    | refine RunQ.load 2 rfl rfl rfl rfl rfl rfl ?_
    | refine RunQ.load 3 rfl rfl rfl rfl rfl rfl ?_
    | refine RunQ.load 4 rfl rfl rfl rfl rfl rfl ?_
    | refine RunQ.indexAddr rfl rfl rfl rfl rfl (by omega) rfl rfl rfl ?_
    | refine RunQ.cmpT rfl (fun _ => rfl) rfl rfl (by omega) ?_
    | refine RunQ.cmpF rfl (fun _ => rfl) rfl rfl (by omega) ?_
    | refine RunQ.cmp rfl (fun _ => rfl) rfl rfl (fun _ => ?_) (fun _ => ?_)
    | refine RunQ.bin rfl rfl rfl (fun _ _ => rfl) (IntWalk.i64_in _ (by omega)) rfl rfl ?_
    | refine RunQ.conv rfl rfl rfl rfl (IntWalk.i64_in _ (by omega)) rfl rfl ?_
    | refine RunQ.bin rfl rfl rfl (fun _ _ => rfl) (IntWalk.i32_in _ (by omega)) rfl rfl ?_
    | refine RunQ.conv rfl rfl rfl rfl (IntWalk.i32_in _ (by omega)) rfl rfl ?_
    | refine RunQ.bin rfl rfl rfl (fun _ _ => rfl) (IntWalk.u8_in _ (by omega)) rfl rfl ?_
    | refine RunQ.conv rfl rfl rfl rfl (IntWalk.u8_in _ (by omega)) rfl rfl ?_
    | refine RunQ.bin rfl rfl rfl (fun _ _ => rfl) (IntWalk.u64_in _ (by omega)) rfl rfl ?_
    | refine RunQ.conv rfl rfl rfl rfl (IntWalk.u64_in _ (by omega)) rfl rfl ?_
    | refine RunQ.bin rfl rfl rfl (fun _ _ => rfl) (IntWalk.u32_in _ (by omega)) rfl rfl ?_
    | refine RunQ.conv rfl rfl rfl rfl (IntWalk.u32_in _ (by omega)) rfl rfl ?_
    | refine RunQ.bin rfl rfl rfl (fun _ _ => rfl) (IntWalk.u16_in _ (by omega)) rfl rfl ?_
    | refine RunQ.conv rfl rfl rfl rfl (IntWalk.u16_in _ (by omega)) rfl rfl ?_
    | refine RunQ.val rfl rfl (fun _ => rfl) rfl rfl ?_
    | refine RunQ.no rfl rfl rfl ?_)
  · rename_i h1
    exact Done.pure (.inr rfl) (fun _ => rfl) (by unfold ofSpec; rw [if_pos h1]; rfl) rfl
  · rename_i h1 h2
    exact Done.pure (.inr rfl) (fun _ => rfl) (by unfold ofSpec; rw [if_neg (by simp [h1]), if_pos h2]; rfl) rfl
  · rename_i h1 h2 h3
    exact Done.pure (.inr rfl) (fun _ => rfl) (by unfold ofSpec; rw [if_neg (by simp [h1]), if_neg (by simp [h2]), if_pos (by simp at h3; exact h3.1)]; rfl) rfl
  · rename_i h1 h2 h3
    exact Done.pure (.inr rfl) (fun _ => rfl) (by unfold ofSpec; rw [if_neg (by simp [h1]), if_neg (by simp [h2]), if_neg (by simp [h2] at h3; simp [h3])]; rfl) rfl

def ofArgs : List V → Option V
  | [.int .i32 x] => some (.int .i64 (ofSpec x))
  | _ => none

/-- The outside, with width.Of known. -/
noncomputable def E1 : Env := E.know 7 ofArgs

theorem ltL_flat1 {k : IntKind} {x : Int} : ltL 0 [V.int k x] := by
  intro v hv
  simp only [List.mem_singleton] at hv
  subst hv
  rfl

theorem E1_ok : E1.Ok := E_ok.know (fun _ => rfl) fun args v h => by
  unfold ofArgs at h
  split at h
  · cases h
    exact ⟨rfl, ltL_flat1, _, f7_ok _ _, rfl⟩
  · cases h

end Go.Proofs.Ytigfncnlhccaeaa
