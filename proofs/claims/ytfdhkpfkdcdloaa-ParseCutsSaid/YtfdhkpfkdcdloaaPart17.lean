/-
  Texts of this session, one behind the other: PsG18, PsC16, PsG19, PsG20, PsG21, PsC17, PsG22, PsC18, PsG23, PsC19, PsG24, PsC20, PsG25, PsC21, PsG26, PsC22, PsG29, PsC23, PsG31, PsC24, PsG32, PsD.
-/
import Derived.Test.YtfdhkpfkdcdloaaPart16
import Derived.KernelRfl
namespace Go.Proofs.Ytfdhkpfkdcdloaa
open Go Go.Am
set_option linter.unusedVariables false
def Re_pre : Tm := { tmps := [(0, .ptr 0 0), (1, .hole (.list 9 .str))], objs := [.cells [.hole (.int .i32), .hole (.int .u8), .hole (.int .u8), .hole (.int .u8), .hole (.int .u8), .hole (.int .i64), .ptr 1 0, .hole (.int .u8), .h 2, .hole .bool, .hole (.int .u8), .h 3, .hole .bool, .hole .bool] 56 true, .row 71 (.int .i64) true, .lst 5 .byte true, .lst 5 .byte true] }
def Re_post : Tm := { tmps := [(0, .hole (.list 41 tokTy))], objs := [.cells [.hole (.int .i32), .hole (.int .u8), .hole (.int .u8), .hole (.int .u8), .hole (.int .u8), .hole (.int .i64), .ptr 1 0, .hole (.int .u8), .h 2, .hole .bool, .hole (.int .u8), .h 3, .hole .bool, .hole .bool] 56 true, .row 71 (.int .i64) true, .lst 5 .byte true, .lst 5 .byte true], prepO := [(0, 8, 2, 5), (0, 11, 3, 5)] }
def Re_T0 : Tm := { tmps := [(11, (.hole (.int .i64))), (10, (.hole (.int .i64))), (9, (.hole (.list 9 .str))), (4, .h 4), (0, (.ptr 0 0))], objs := [.cells [(.hole (.int .i32)), (.hole (.int .u8)), (.hole (.int .u8)), (.hole (.int .u8)), (.hole (.int .u8)), (.hole (.int .i64)), (.ptr 1 0), (.hole (.int .u8)), (.h 2), (.hole .bool), (.hole (.int .u8)), (.h 3), (.hole .bool), (.hole .bool)] 56 true, .row 71 (.int .i64) true, .lst 5 .byte true, .lst 5 .byte true, .lst 41 tokTy true], prep := [(4, 41)] }
def Re_T2 : Tm := { tmps := [(18, (.hole (.int .i64))), (17, (.hole (.int .i64))), (16, (.allG 5)), (11, (.hole (.int .i64))), (10, (.hole (.int .i64))), (9, (.hole (.list 9 .str))), (4, (.h 4)), (0, (.ptr 0 0))], objs := [.cells [(.hole (.int .i32)), (.hole (.int .u8)), (.hole (.int .u8)), (.hole (.int .u8)), (.hole (.int .u8)), (.hole (.int .i64)), (.ptr 1 0), (.hole (.int .u8)), (.h 2), (.hole .bool), (.hole (.int .u8)), (.h 3), (.hole .bool), (.hole .bool)] 56 true, .row 71 (.int .i64) true, .lst 5 .byte true, .lst 5 .byte true, .lst 41 tokTy true, .row 5 .byte true] }
def tmRe : FuncId → Nat → Option Tm := fun g i => match Nat.beq g 14 with
 | true => match Nat.beq i 0 with | true => some Re_T0 | false => match Nat.beq i 2 with | true => some Re_T2 | false => none
 | false => none
noncomputable def SRe : SE := { E := EP, ctr := c3, tm := tmRe, un := 300, hold := [0, 1], ctrM := m14 }
theorem Re_L0 (n : Nat) (nx : Nat → List Dy → Option (List Dy)) (m : Nat) (s : PS) (t : List Tk) (n15 : Int) (n16 : Int) (l17 : List (List UInt8)) :
 RLM SRe Re_post n 14 0 nx (m + 1) (psD s t ++ [⟨(.int .i64), n15⟩, ⟨(.int .i64), n16⟩, ⟨(.list 9 .str), l17⟩]) =
 (bif (decide (n15 < n16)) then
  need (decide ((0 : Int) ≤ n15)) <|
  need (decide (n15 < (↑(List.length l17) : Int))) <|
  need (decide (Int.toNat n15 < List.length l17)) <|
  need (decide (List.length (List.getD l17 (Int.toNat n15) []) ≤ (140737488355328 : Nat))) <|
  need (decide (List.length (List.getD l17 (Int.toNat n15) []) = List.length (List.getD l17 (Int.toNat n15) []))) <|
  RLM SRe Re_post n 14 2 (updNx nx 0 (RLM SRe Re_post n 14 0 nx m)) n (psDB s t (List.getD l17 (Int.toNat n15) []) ++ [⟨(.int .i64), ((0 : Int) : Int)⟩, ⟨(.int .i64), ((↑(List.length (List.getD l17 (Int.toNat n15) [])) : Int) : Int)⟩, ⟨(.int .i64), (n15 : Int)⟩, ⟨(.int .i64), (n16 : Int)⟩, ⟨(.list 9 .str), (l17 : List (List UInt8))⟩])
 else
  some (psD0 s ++ [⟨(.list 41 tokTy), (t : List Tk)⟩])) := by kernel_rfl
theorem Re_L2 (n : Nat) (nx : Nat → List Dy → Option (List Dy)) (m : Nat) (s : PS) (t : List Tk) (l4 : List UInt8) (n16 : Int) (n17 : Int) (n18 : Int) (n19 : Int) (l20 : List (List UInt8)) :
 RLM SRe Re_post n 14 2 nx (m + 1) (psDB s t l4 ++ [⟨(.int .i64), n16⟩, ⟨(.int .i64), n17⟩, ⟨(.int .i64), n18⟩, ⟨(.int .i64), n19⟩, ⟨(.list 9 .str), l20⟩]) =
 (bif (decide (n16 < n17)) then
  need (decide ((0 : Int) ≤ n16)) <|
  need (decide (n16 < (↑(List.length l4) : Int))) <|
  need (decide (Int.toNat n16 < List.length l4)) <|
  need (gP s) <|
  need (is8 (↑(UInt8.toNat (List.getD l4 (Int.toNat n16) (UInt8.ofNat (0 : Nat)))) : Int)) <|
  need (decide ((List.length t + List.length (Prod.snd (pushS s (↑(UInt8.toNat (List.getD l4 (Int.toNat n16) (UInt8.ofNat (0 : Nat)))) : Int)))) * (80 : Nat) ≤ (140737488355328 : Nat))) <|
  need (decide (List.length t + List.length (Prod.snd (pushS s (↑(UInt8.toNat (List.getD l4 (Int.toNat n16) (UInt8.ofNat (0 : Nat)))) : Int))) ≤ (140737488355328 : Nat))) <|
  need (decide (List.length l4 = List.length l4)) <|
  RLM SRe Re_post n 14 2 nx m (psDB (Prod.fst (pushS s (↑(UInt8.toNat (List.getD l4 (Int.toNat n16) (UInt8.ofNat (0 : Nat)))) : Int))) (t ++ Prod.snd (pushS s (↑(UInt8.toNat (List.getD l4 (Int.toNat n16) (UInt8.ofNat (0 : Nat)))) : Int))) l4 ++ [⟨(.int .i64), (IntKind.wrap .i64 (n16 + (1 : Int)) : Int)⟩, ⟨(.int .i64), (n17 : Int)⟩, ⟨(.int .i64), (n18 : Int)⟩, ⟨(.int .i64), (n19 : Int)⟩, ⟨(.list 9 .str), (l20 : List (List UInt8))⟩])
 else
  nx 0 (psD s t ++ [⟨(.int .i64), (IntKind.wrap .i64 (n18 + (1 : Int)) : Int)⟩, ⟨(.int .i64), (n19 : Int)⟩, ⟨(.list 9 .str), (l20 : List (List UInt8))⟩])) := by kernel_rfl
theorem Re_fn (n : Nat) (s : PS) (l14 : List (List UInt8)) :
 fnM SRe loopY Re_pre Re_post n 14 (psD0 s ++ [⟨(.list 9 .str), l14⟩]) =
 (RLM SRe Re_post n 14 0 noNx n (psD s [] ++ [⟨(.int .i64), ((0 : Int) : Int)⟩, ⟨(.int .i64), ((↑(List.length l14) : Int) : Int)⟩, ⟨(.list 9 .str), (l14 : List (List UInt8))⟩])) := by kernel_rfl

end Go.Proofs.Ytfdhkpfkdcdloaa

namespace Go.Proofs.Ytfdhkpfkdcdloaa
open Go Go.Am

def feedS : PS → List UInt8 → PS × List Tk
 | s, [] => (s, [])
 | s, b :: r => ((feedS (pushS s (b.toNat : Int)).1 r).1, (pushS s (b.toNat : Int)).2 ++ (feedS (pushS s (b.toNat : Int)).1 r).2)
theorem is8_nat (b : UInt8) : is8 (b.toNat : Int) = true := by
 have := u8_lt b
 simp [is8]
 omega
theorem feed_app : ∀ (a : List UInt8) (s : PS) (b : List UInt8), feedS s (a ++ b) = ((feedS (feedS s a).1 b).1, (feedS s a).2 ++ (feedS (feedS s a).1 b).2)
 | [], s, b => rfl
 | x :: a, s, b => by
  simp only [List.cons_append, feedS]
  rw [feed_app a _ b]
  simp only [List.append_assoc]
theorem feed_ok : ∀ (l : List UInt8) {s : PS}, PI s → PI (feedS s l).1 ∧ (∀ x ∈ (feedS s l).2, gTk x = true) ∧ (feedS s l).2.length ≤ 4 * l.length
 | [], s, h => ⟨h, (fun x hx => by cases hx), Nat.le_refl _⟩
 | b :: r, s, h => by
  have h1 := push_ok h (is8_nat b)
  obtain ⟨h2, h3, h4⟩ := feed_ok r h1.s
  have h5 := h1.n
  refine ⟨h2, fun x hx => ?_, ?_⟩
  ·rcases List.mem_append.1 hx with hx | hx
   ·exact h1.t x hx
   ·exact h3 x hx
  ·simp only [feedS, List.length_append, List.length_cons]
   omega

theorem drop_bytes {bs : List UInt8} {j : Nat} (h : j < bs.length) : bs.drop j = bs.getD j 0 :: bs.drop (j + 1) := by
 rw [List.drop_eq_getElem_cons h, List.getD_eq_getElem?_getD, List.getElem?_eq_getElem h]
 rfl
theorem re_in (n : Nat) (nx : Nat → List Dy → Option (List Dy)) (bs : List UInt8) (i : Int) (N : Int) (L : List (List UInt8)) (hb : bs.length ≤ 1000000) : ∀ (m j : Nat) (s : PS) (t : List Tk), PI s → j ≤ bs.length → bs.length < j + m → t.length + 4 * (bs.length - j) ≤ 1000000000 →
 RLM SRe Re_post n 14 2 nx m (psDB s t bs ++ [⟨.int .i64, (j : Int)⟩, ⟨.int .i64, (bs.length : Int)⟩, ⟨.int .i64, i⟩, ⟨.int .i64, N⟩, ⟨.list 9 .str, L⟩]) =
  nx 0 (psD (feedS s (bs.drop j)).1 (t ++ (feedS s (bs.drop j)).2) ++ [⟨.int .i64, IntKind.wrap .i64 (i + 1)⟩, ⟨.int .i64, N⟩, ⟨.list 9 .str, L⟩])
 | 0, j, s, t, _, h1, h2, _ => by omega
 | m + 1, j, s, t, hs, h1, h2, h3 => by
  have hg := gP_iff.2 hs
  have ih := re_in n nx bs i N L hb m (j + 1)
  by_cases hj : j < bs.length
  ·have hp := push_ok hs (is8_nat (bs.getD j 0))
   have h5 := hp.n
   have := ih (pushS s ((bs.getD j 0).toNat : Int)).1 (t ++ (pushS s ((bs.getD j 0).toNat : Int)).2) hp.s (by omega) (by omega) (by rw [List.length_append]; omega)
   rw [drop_bytes hj]
   simp only [feedS]
   rw [← List.append_assoc]
   refine Eq.trans ?_ this
   obtain ⟨l, it, d, c, lf, gt, lo, hi, st, mk', fst, fin, sp, en⟩ := s
   refine (Re_L2 n nx m ⟨l, it, d, c, lf, gt, lo, hi, st, mk', fst, fin, sp, en⟩ t bs  j bs.length i N L).trans ?_
   rw [Int.toNat_natCast]
   refine bpd (by omega) (nd (by omega) (nd (by omega) (nd hj (np hg (np (is8_nat _) (nd ?_ (nd ?_ (nd rfl ?_))))))))
   ·refine Nat.le_trans (Nat.mul_le_mul_right 80 (Nat.add_le_add_left h5 _)) ?_
    omega
   ·refine Nat.le_trans (Nat.add_le_add_left h5 _) ?_
    omega
   ·rw [show IntKind.wrap .i64 ((j : Int) + 1) = ((j + 1 : Nat) : Int) by rw [w64 (by omega)]; omega]
    rfl
  ·rw [List.drop_of_length_le (by omega)]
   simp only [feedS, List.append_nil]
   obtain ⟨l, it, d, c, lf, gt, lo, hi, st, mk', fst, fin, sp, en⟩ := s
   refine (Re_L2 n nx m ⟨l, it, d, c, lf, gt, lo, hi, st, mk', fst, fin, sp, en⟩ t bs  j bs.length i N L).trans ?_
   exact bnd (by omega) rfl
theorem drop_flat {L : List (List UInt8)} {i : Nat} (h : i < L.length) : (L.drop i).flatten = L.getD i [] ++ (L.drop (i + 1)).flatten := by
 rw [List.drop_eq_getElem_cons h, List.flatten_cons, List.getD_eq_getElem?_getD, List.getElem?_eq_getElem h]
 rfl
theorem re_out (n : Nat) (L : List (List UInt8)) (hL : L.length ≤ 1000000) (hn : L.flatten.length < n) (hb : L.flatten.length ≤ 1000000) : ∀ (m i : Nat) (s : PS) (t : List Tk), PI s → i ≤ L.length → L.length < i + m → (L.drop i).flatten.length ≤ L.flatten.length → t.length + 4 * (L.drop i).flatten.length ≤ 10000000 →
 RLM SRe Re_post n 14 0 noNx m (psD s t ++ [⟨.int .i64, (i : Int)⟩, ⟨.int .i64, (L.length : Int)⟩, ⟨.list 9 .str, L⟩]) =
  some (psD0 (feedS s (L.drop i).flatten).1 ++ [⟨.list 41 tokTy, t ++ (feedS s (L.drop i).flatten).2⟩])
 | 0, i, s, t, _, h1, h2, _, _ => by omega
 | m + 1, i, s, t, hs, h1, h2, h3, h4 => by
  have ih := re_out n L hL hn hb m (i + 1)
  by_cases hi' : i < L.length
  ·rw [drop_flat hi'] at h3 h4 ⊢
   rw [List.length_append] at h3 h4
   have hin := re_in n (updNx noNx 0 (RLM SRe Re_post n 14 0 noNx m)) (L.getD i []) (i : Int) (L.length : Int) L (by omega) n 0 s t hs (by omega) (by omega) (by omega)
   rw [List.drop_zero] at hin
   obtain ⟨f1, f2, f3⟩ := feed_ok (L.getD i []) hs
   have ho := ih (feedS s (L.getD i [])).1 (t ++ (feedS s (L.getD i [])).2) f1 (by omega) (by omega) (by omega) (by rw [List.length_append]; omega)
   rw [feed_app]
   simp only
   rw [← List.append_assoc, ← ho]
   rw [show ((i + 1 : Nat) : Int) = IntKind.wrap .i64 ((i : Int) + 1) by rw [w64 (by omega)]; omega]
   refine Eq.trans ?_ hin
   obtain ⟨l, it, d, c, lf, gt, lo, hi, st, mk', fst, fin, sp, en⟩ := s
   refine (Re_L0 n noNx m ⟨l, it, d, c, lf, gt, lo, hi, st, mk', fst, fin, sp, en⟩ t  i L.length L).trans ?_
   rw [Int.toNat_natCast]
   exact bpd (by omega) (nd (by omega) (nd (by omega) (nd hi' (nd (by omega) (nd rfl rfl)))))
  ·rw [List.drop_of_length_le (by omega)]
   simp only [List.flatten_nil, feedS, List.append_nil]
   obtain ⟨l, it, d, c, lf, gt, lo, hi, st, mk', fst, fin, sp, en⟩ := s
   refine (Re_L0 n noNx m ⟨l, it, d, c, lf, gt, lo, hi, st, mk', fst, fin, sp, en⟩ t  i L.length L).trans ?_
   exact bnd (by omega) rfl
theorem re_ok (s : PS) (L : List (List UInt8)) (hs : PI s) (hL : L.length ≤ 1000000) (hb : L.flatten.length ≤ 1000000) : ∃ n, fnM SRe loopY Re_pre Re_post n 14 (psD0 s ++ [⟨.list 9 .str, L⟩]) = some (psD0 (feedS s L.flatten).1 ++ [⟨.list 41 tokTy, (feedS s L.flatten).2⟩]) := by
 refine ⟨L.length + L.flatten.length + 1, ?_⟩
 have := re_out (L.length + L.flatten.length + 1) L hL (by omega) hb (L.length + L.flatten.length + 1) 0 s [] hs (by omega) (by omega) (by simp) (by simp only [List.length_nil, List.drop_zero]; omega)
 rw [List.drop_zero, List.nil_append] at this
 rw [← this]
 obtain ⟨l, it, d, c, lf, gt, lo, hi, st, mk', fst, fin, sp, en⟩ := s
 exact Re_fn _ ⟨l, it, d, c, lf, gt, lo, hi, st, mk', fst, fin, sp, en⟩ L
noncomputable def cRe : CtrM := { pre := Re_pre, post := Re_post, res := fun ds => match popP ds with
 | some (s, ds) => match popD (.list 9 .str) ds with
  | some (L, []) => some ([gP s, decide (L.length ≤ 1000000), decide (L.flatten.length ≤ 1000000)], psD0 (feedS s L.flatten).1 ++ [⟨.list 41 tokTy, (feedS s L.flatten).2⟩])
  | _ => none
 | none => none }
theorem cRe_ok : CtrMOk EP 14 cRe := ctrM_ok (S := SRe) (S_ok c3_ok m14_ok) rfl rfl rfl rfl fun ds gs ds' hr hg => by
 simp only [cRe] at hr
 split at hr
 ·rename_i s ds h
  split at hr
  ·rename_i L h2
   cases hr
   rw [popP_eq h, popD_eq h2]
   simp only [List.all_cons, id, Bool.and_eq_true, List.all_nil, decide_eq_true_eq] at hg
   exact re_ok s L (gP_iff.1 hg.1) hg.2.1 hg.2.2.1
  ·cases hr
 ·cases hr
noncomputable def m15 : FuncId → List CtrM := addM m14 14 cRe
theorem m15_ok : ∀ g ct, ct ∈ m15 g → CtrMOk EP g ct := addM_ok m14_ok cRe_ok
end Go.Proofs.Ytfdhkpfkdcdloaa

namespace Go.Proofs.Ytfdhkpfkdcdloaa
open Go Go.Am
set_option linter.unusedVariables false
def tmTo : FuncId → Nat → Option Tm := fun g i => match Nat.beq g 12 with
 | true => none
 | false => none
noncomputable def STo : SE := { E := EP, ctr := c3, tm := tmTo, un := 300, ctrM := m15 }
theorem To_fn (n : Nat) (l0 : List (List UInt8)) :
 fnY STo loopY [(.hole (.list 9 .str))] [(.list 41 tokTy)] n 12 [⟨(.list 9 .str), l0⟩] =
 (need (gP { l := List.replicate (289 : Nat) (0 : Int), inter := [], data := [], c := (0 : Int), lf := (0 : Int), gt := (0 : Int), lo := (0 : Int), hi := (0 : Int), st := (0 : Int), mk' := (0 : Int), fst := true, fin := (0 : Int), sp := false, en := false }) <|
 need (decide (List.length l0 ≤ (1000000 : Nat))) <|
 need (decide (List.length (List.flatten l0) ≤ (1000000 : Nat))) <|
 some [⟨(.list 41 tokTy), (Prod.snd (feedS { l := List.replicate (289 : Nat) (0 : Int), inter := [], data := [], c := (0 : Int), lf := (0 : Int), gt := (0 : Int), lo := (0 : Int), hi := (0 : Int), st := (0 : Int), mk' := (0 : Int), fst := true, fin := (0 : Int), sp := false, en := false } (List.flatten l0)) : List Tk)⟩]) := by kernel_rfl

def SR_T0 : Tm := { tmps := [(5, (.hole (.int .i64))), (0, (.hole (.list 41 tokTy))), (1, (.hole (.list 41 tokTy)))], objs := [] }
def tmSR : FuncId → Nat → Option Tm := fun g i => match Nat.beq g 11 with
 | true => match Nat.beq i 0 with | true => some SR_T0 | false => none
 | false => none
noncomputable def SSR : SE := { E := EP, ctr := c3, tm := tmSR, un := 300, ctrM := m15 }
theorem SR_L0 (n : Nat) (nx : Nat → List Dy → Option (List Dy)) (m : Nat) (n0 : Int) (l1 : List Tk) (l2 : List Tk) :
 RL SSR [.bool] n 11 0 nx (m + 1) [⟨(.int .i64), n0⟩, ⟨(.list 41 tokTy), l1⟩, ⟨(.list 41 tokTy), l2⟩] =
 (bif (decide (n0 < (↑(List.length l1) : Int))) then
  need (decide ((0 : Int) ≤ n0)) <|
  need (decide (n0 < (↑(List.length l1) : Int))) <|
  need (decide (Int.toNat n0 < List.length l1)) <|
  need (decide ((0 : Int) ≤ n0)) <|
  need (decide (n0 < (↑(List.length l2) : Int))) <|
  need (decide (Int.toNat n0 < List.length l2)) <|
  need (Prod.fst (List.getD l1 (Int.toNat n0) ((0 : Int), (0 : Int), UInt8.ofNat (0 : Nat), [], [], UInt8.ofNat (0 : Nat), [], PUnit.unit)) != Prod.fst (List.getD l2 (Int.toNat n0) ((0 : Int), (0 : Int), UInt8.ofNat (0 : Nat), [], [], UInt8.ofNat (0 : Nat), [], PUnit.unit)) || Prod.fst (Prod.snd (List.getD l1 (Int.toNat n0) ((0 : Int), (0 : Int), UInt8.ofNat (0 : Nat), [], [], UInt8.ofNat (0 : Nat), [], PUnit.unit))) != Prod.fst (Prod.snd (List.getD l2 (Int.toNat n0) ((0 : Int), (0 : Int), UInt8.ofNat (0 : Nat), [], [], UInt8.ofNat (0 : Nat), [], PUnit.unit))) || (↑(UInt8.toNat (Prod.fst (Prod.snd (Prod.snd (List.getD l1 (Int.toNat n0) ((0 : Int), (0 : Int), UInt8.ofNat (0 : Nat), [], [], UInt8.ofNat (0 : Nat), [], PUnit.unit)))))) : Int) != (↑(UInt8.toNat (Prod.fst (Prod.snd (Prod.snd (List.getD l2 (Int.toNat n0) ((0 : Int), (0 : Int), UInt8.ofNat (0 : Nat), [], [], UInt8.ofNat (0 : Nat), [], PUnit.unit)))))) : Int) || !Prod.fst (Prod.snd (Prod.snd (Prod.snd (Prod.snd (List.getD l1 (Int.toNat n0) ((0 : Int), (0 : Int), UInt8.ofNat (0 : Nat), [], [], UInt8.ofNat (0 : Nat), [], PUnit.unit)))))) == Prod.fst (Prod.snd (Prod.snd (Prod.snd (Prod.snd (List.getD l2 (Int.toNat n0) ((0 : Int), (0 : Int), UInt8.ofNat (0 : Nat), [], [], UInt8.ofNat (0 : Nat), [], PUnit.unit)))))) || (↑(UInt8.toNat (Prod.fst (Prod.snd (Prod.snd (Prod.snd (Prod.snd (Prod.snd (List.getD l1 (Int.toNat n0) ((0 : Int), (0 : Int), UInt8.ofNat (0 : Nat), [], [], UInt8.ofNat (0 : Nat), [], PUnit.unit))))))))) : Int) != (↑(UInt8.toNat (Prod.fst (Prod.snd (Prod.snd (Prod.snd (Prod.snd (Prod.snd (List.getD l2 (Int.toNat n0) ((0 : Int), (0 : Int), UInt8.ofNat (0 : Nat), [], [], UInt8.ofNat (0 : Nat), [], PUnit.unit))))))))) : Int) || !Prod.fst (Prod.snd (Prod.snd (Prod.snd (Prod.snd (Prod.snd (Prod.snd (List.getD l1 (Int.toNat n0) ((0 : Int), (0 : Int), UInt8.ofNat (0 : Nat), [], [], UInt8.ofNat (0 : Nat), [], PUnit.unit)))))))) == Prod.fst (Prod.snd (Prod.snd (Prod.snd (Prod.snd (Prod.snd (Prod.snd (List.getD l2 (Int.toNat n0) ((0 : Int), (0 : Int), UInt8.ofNat (0 : Nat), [], [], UInt8.ofNat (0 : Nat), [], PUnit.unit)))))))) || gT (Prod.fst (Prod.snd (Prod.snd (Prod.snd (List.getD l1 (Int.toNat n0) ((0 : Int), (0 : Int), UInt8.ofNat (0 : Nat), [], [], UInt8.ofNat (0 : Nat), [], PUnit.unit))))))) <|
  need (Prod.fst (List.getD l1 (Int.toNat n0) ((0 : Int), (0 : Int), UInt8.ofNat (0 : Nat), [], [], UInt8.ofNat (0 : Nat), [], PUnit.unit)) != Prod.fst (List.getD l2 (Int.toNat n0) ((0 : Int), (0 : Int), UInt8.ofNat (0 : Nat), [], [], UInt8.ofNat (0 : Nat), [], PUnit.unit)) || Prod.fst (Prod.snd (List.getD l1 (Int.toNat n0) ((0 : Int), (0 : Int), UInt8.ofNat (0 : Nat), [], [], UInt8.ofNat (0 : Nat), [], PUnit.unit))) != Prod.fst (Prod.snd (List.getD l2 (Int.toNat n0) ((0 : Int), (0 : Int), UInt8.ofNat (0 : Nat), [], [], UInt8.ofNat (0 : Nat), [], PUnit.unit))) || (↑(UInt8.toNat (Prod.fst (Prod.snd (Prod.snd (List.getD l1 (Int.toNat n0) ((0 : Int), (0 : Int), UInt8.ofNat (0 : Nat), [], [], UInt8.ofNat (0 : Nat), [], PUnit.unit)))))) : Int) != (↑(UInt8.toNat (Prod.fst (Prod.snd (Prod.snd (List.getD l2 (Int.toNat n0) ((0 : Int), (0 : Int), UInt8.ofNat (0 : Nat), [], [], UInt8.ofNat (0 : Nat), [], PUnit.unit)))))) : Int) || !Prod.fst (Prod.snd (Prod.snd (Prod.snd (Prod.snd (List.getD l1 (Int.toNat n0) ((0 : Int), (0 : Int), UInt8.ofNat (0 : Nat), [], [], UInt8.ofNat (0 : Nat), [], PUnit.unit)))))) == Prod.fst (Prod.snd (Prod.snd (Prod.snd (Prod.snd (List.getD l2 (Int.toNat n0) ((0 : Int), (0 : Int), UInt8.ofNat (0 : Nat), [], [], UInt8.ofNat (0 : Nat), [], PUnit.unit)))))) || (↑(UInt8.toNat (Prod.fst (Prod.snd (Prod.snd (Prod.snd (Prod.snd (Prod.snd (List.getD l1 (Int.toNat n0) ((0 : Int), (0 : Int), UInt8.ofNat (0 : Nat), [], [], UInt8.ofNat (0 : Nat), [], PUnit.unit))))))))) : Int) != (↑(UInt8.toNat (Prod.fst (Prod.snd (Prod.snd (Prod.snd (Prod.snd (Prod.snd (List.getD l2 (Int.toNat n0) ((0 : Int), (0 : Int), UInt8.ofNat (0 : Nat), [], [], UInt8.ofNat (0 : Nat), [], PUnit.unit))))))))) : Int) || !Prod.fst (Prod.snd (Prod.snd (Prod.snd (Prod.snd (Prod.snd (Prod.snd (List.getD l1 (Int.toNat n0) ((0 : Int), (0 : Int), UInt8.ofNat (0 : Nat), [], [], UInt8.ofNat (0 : Nat), [], PUnit.unit)))))))) == Prod.fst (Prod.snd (Prod.snd (Prod.snd (Prod.snd (Prod.snd (Prod.snd (List.getD l2 (Int.toNat n0) ((0 : Int), (0 : Int), UInt8.ofNat (0 : Nat), [], [], UInt8.ofNat (0 : Nat), [], PUnit.unit)))))))) || decide (List.length (Prod.fst (Prod.snd (Prod.snd (Prod.snd (List.getD l1 (Int.toNat n0) ((0 : Int), (0 : Int), UInt8.ofNat (0 : Nat), [], [], UInt8.ofNat (0 : Nat), [], PUnit.unit)))))) ≤ (1000000000 : Nat))) <|
  bif (Prod.fst (List.getD l1 (Int.toNat n0) ((0 : Int), (0 : Int), UInt8.ofNat (0 : Nat), [], [], UInt8.ofNat (0 : Nat), [], PUnit.unit)) != Prod.fst (List.getD l2 (Int.toNat n0) ((0 : Int), (0 : Int), UInt8.ofNat (0 : Nat), [], [], UInt8.ofNat (0 : Nat), [], PUnit.unit)) || Prod.fst (Prod.snd (List.getD l1 (Int.toNat n0) ((0 : Int), (0 : Int), UInt8.ofNat (0 : Nat), [], [], UInt8.ofNat (0 : Nat), [], PUnit.unit))) != Prod.fst (Prod.snd (List.getD l2 (Int.toNat n0) ((0 : Int), (0 : Int), UInt8.ofNat (0 : Nat), [], [], UInt8.ofNat (0 : Nat), [], PUnit.unit))) || (↑(UInt8.toNat (Prod.fst (Prod.snd (Prod.snd (List.getD l1 (Int.toNat n0) ((0 : Int), (0 : Int), UInt8.ofNat (0 : Nat), [], [], UInt8.ofNat (0 : Nat), [], PUnit.unit)))))) : Int) != (↑(UInt8.toNat (Prod.fst (Prod.snd (Prod.snd (List.getD l2 (Int.toNat n0) ((0 : Int), (0 : Int), UInt8.ofNat (0 : Nat), [], [], UInt8.ofNat (0 : Nat), [], PUnit.unit)))))) : Int) || !Prod.fst (Prod.snd (Prod.snd (Prod.snd (Prod.snd (List.getD l1 (Int.toNat n0) ((0 : Int), (0 : Int), UInt8.ofNat (0 : Nat), [], [], UInt8.ofNat (0 : Nat), [], PUnit.unit)))))) == Prod.fst (Prod.snd (Prod.snd (Prod.snd (Prod.snd (List.getD l2 (Int.toNat n0) ((0 : Int), (0 : Int), UInt8.ofNat (0 : Nat), [], [], UInt8.ofNat (0 : Nat), [], PUnit.unit)))))) || (↑(UInt8.toNat (Prod.fst (Prod.snd (Prod.snd (Prod.snd (Prod.snd (Prod.snd (List.getD l1 (Int.toNat n0) ((0 : Int), (0 : Int), UInt8.ofNat (0 : Nat), [], [], UInt8.ofNat (0 : Nat), [], PUnit.unit))))))))) : Int) != (↑(UInt8.toNat (Prod.fst (Prod.snd (Prod.snd (Prod.snd (Prod.snd (Prod.snd (List.getD l2 (Int.toNat n0) ((0 : Int), (0 : Int), UInt8.ofNat (0 : Nat), [], [], UInt8.ofNat (0 : Nat), [], PUnit.unit))))))))) : Int) || !Prod.fst (Prod.snd (Prod.snd (Prod.snd (Prod.snd (Prod.snd (Prod.snd (List.getD l1 (Int.toNat n0) ((0 : Int), (0 : Int), UInt8.ofNat (0 : Nat), [], [], UInt8.ofNat (0 : Nat), [], PUnit.unit)))))))) == Prod.fst (Prod.snd (Prod.snd (Prod.snd (Prod.snd (Prod.snd (Prod.snd (List.getD l2 (Int.toNat n0) ((0 : Int), (0 : Int), UInt8.ofNat (0 : Nat), [], [], UInt8.ofNat (0 : Nat), [], PUnit.unit)))))))) || !sameT (Prod.fst (Prod.snd (Prod.snd (Prod.snd (List.getD l1 (Int.toNat n0) ((0 : Int), (0 : Int), UInt8.ofNat (0 : Nat), [], [], UInt8.ofNat (0 : Nat), [], PUnit.unit)))))) (Prod.fst (Prod.snd (Prod.snd (Prod.snd (List.getD l2 (Int.toNat n0) ((0 : Int), (0 : Int), UInt8.ofNat (0 : Nat), [], [], UInt8.ofNat (0 : Nat), [], PUnit.unit))))))) then
   some [⟨.bool, (false : Bool)⟩]
  else
   RL SSR [.bool] n 11 0 nx m [⟨(.int .i64), (IntKind.wrap .i64 (n0 + (1 : Int)) : Int)⟩, ⟨(.list 41 tokTy), (l1 : List Tk)⟩, ⟨(.list 41 tokTy), (l2 : List Tk)⟩]
 else
  some [⟨.bool, (true : Bool)⟩]) := by kernel_rfl
theorem SR_fn (n : Nat) (l0 : List Tk) (l1 : List Tk) :
 fnY SSR loopY [(.hole (.list 41 tokTy)), (.hole (.list 41 tokTy))] [.bool] n 11 [⟨(.list 41 tokTy), l0⟩, ⟨(.list 41 tokTy), l1⟩] =
 (bif ((↑(List.length l0) : Int) != (↑(List.length l1) : Int)) then
  some [⟨.bool, (false : Bool)⟩]
 else
  RL SSR [.bool] n 11 0 noNx n [⟨(.int .i64), ((0 : Int) : Int)⟩, ⟨(.list 41 tokTy), (l0 : List Tk)⟩, ⟨(.list 41 tokTy), (l1 : List Tk)⟩]) := by kernel_rfl

def Gr_pre : Tm := { tmps := [(0, .ptr 0 0)], objs := [.cells [.hole (.int .i32), .hole (.int .u8), .hole (.int .u8), .hole (.int .u8), .hole (.int .u8), .hole (.int .i64), .ptr 1 0, .hole (.int .u8), .h 2, .hole .bool, .hole (.int .u8), .h 3, .hole .bool, .hole .bool] 56 true, .row 71 (.int .i64) true, .lst 5 .byte true, .lst 5 .byte true] }
def Gr_post : Tm := { tmps := [(0, .hole .bool)], objs := [.cells [.hole (.int .i32), .hole (.int .u8), .hole (.int .u8), .hole (.int .u8), .hole (.int .u8), .hole (.int .i64), .ptr 1 0, .hole (.int .u8), .h 2, .hole .bool, .hole (.int .u8), .h 3, .hole .bool, .hole .bool] 56 true, .row 71 (.int .i64) true, .lst 5 .byte true, .lst 5 .byte true] }
def tmGr : FuncId → Nat → Option Tm := fun g i => match Nat.beq g 16 with
 | true => none
 | false => none
noncomputable def SGr : SE := { E := EP, ctr := c3, tm := tmGr, un := 300, hold := [0, 1], ctrM := m15 }
theorem Gr_fn (n : Nat) (s : PS) :
 fnM SGr loopY Gr_pre Gr_post n 16 (psD0 s) =
 (bif (s.st == (0 : Int)) then
  some (psD0 s ++ [⟨.bool, (IntKind.wrap .i64 s.gt == (0 : Int) : Bool)⟩])
 else
  some (psD0 s ++ [⟨.bool, (false : Bool)⟩])) := by kernel_rfl

def Cp_pre : Tm := { tmps := [(0, .ptr 0 0)], objs := [.cells [.hole (.int .i32), .hole (.int .u8), .hole (.int .u8), .hole (.int .u8), .hole (.int .u8), .hole (.int .i64), .ptr 1 0, .hole (.int .u8), .h 2, .hole .bool, .hole (.int .u8), .h 3, .hole .bool, .hole .bool] 56 true, .row 71 (.int .i64) true, .lst 5 .byte true, .lst 5 .byte true] }
def Cp_post : Tm := { tmps := [(0, .ptr 4 0)], objs := [.cells [.hole (.int .i32), .hole (.int .u8), .hole (.int .u8), .hole (.int .u8), .hole (.int .u8), .hole (.int .i64), .ptr 1 0, .hole (.int .u8), .h 2, .hole .bool, .hole (.int .u8), .h 3, .hole .bool, .hole .bool] 56 true, .row 71 (.int .i64) true, .lst 5 .byte true, .lst 5 .byte true, .cells [.hole (.int .i32), .hole (.int .u8), .hole (.int .u8), .hole (.int .u8), .hole (.int .u8), .hole (.int .i64), .ptr 5 0, .hole (.int .u8), .h 6, .hole .bool, .hole (.int .u8), .h 7, .hole .bool, .hole .bool] 56 true, .row 71 (.int .i64) true, .lst 5 .byte true, .lst 5 .byte true] }
def tmCp : FuncId → Nat → Option Tm := fun g i => match Nat.beq g 17 with
 | true => none
 | false => none
noncomputable def SCp : SE := { E := EP, ctr := c3, tm := tmCp, un := 300, hold := [0, 1], ctrM := m15 }

end Go.Proofs.Ytfdhkpfkdcdloaa

namespace Go.Proofs.Ytfdhkpfkdcdloaa
open Go Go.Am
set_option linter.unusedVariables false
def Pe_pre : Tm := { tmps := [(0, .agg [.hole (.int .i32), .hole (.int .u8), .hole (.int .u8), .hole (.int .u8), .hole (.int .u8)])], objs := [] }
def Pe_post : Tm := { tmps := [(0, .hole (.int .i64))], objs := [] }
def tmPe : FuncId → Nat → Option Tm := fun g i => match Nat.beq g 33 with
 | true => none
 | false => none
noncomputable def SPe : SE := { E := EP, ctr := c3, tm := tmPe, un := 300, hold := [], ctrM := m15 }
theorem Pe_fn (n : Nat) (n0 : Int) (n1 : Int) (n2 : Int) (n3 : Int) (n4 : Int) :
 fnM SPe loopY Pe_pre Pe_post n 33 [⟨(.int .i32), n0⟩, ⟨(.int .u8), n1⟩, ⟨(.int .u8), n2⟩, ⟨(.int .u8), n3⟩, ⟨(.int .u8), n4⟩] =
 (some [⟨(.int .i64), (IntKind.wrap .i64 n2 : Int)⟩]) := by kernel_rfl

end Go.Proofs.Ytfdhkpfkdcdloaa

namespace Go.Proofs.Ytfdhkpfkdcdloaa
open Go Go.Am
set_option linter.unusedVariables false
def S1_pre : Tm := { tmps := [(0, .ptr 0 0), (1, .ptr 0 0)], objs := [.cells [.hole (.int .i32), .hole (.int .u8), .hole (.int .u8), .hole (.int .u8), .hole (.int .u8), .hole (.int .i64), .ptr 1 0, .hole (.int .u8), .h 2, .hole .bool, .hole (.int .u8), .h 3, .hole .bool, .hole .bool] 56 true, .row 71 (.int .i64) true, .lst 5 .byte true, .lst 5 .byte true] }
def S1_post : Tm := { tmps := [(0, .hole .bool)], objs := [.cells [.hole (.int .i32), .hole (.int .u8), .hole (.int .u8), .hole (.int .u8), .hole (.int .u8), .hole (.int .i64), .ptr 1 0, .hole (.int .u8), .h 2, .hole .bool, .hole (.int .u8), .h 3, .hole .bool, .hole .bool] 56 true, .row 71 (.int .i64) true, .lst 5 .byte true, .lst 5 .byte true] }
def tmS1 : FuncId → Nat → Option Tm := fun g i => match Nat.beq g 13 with
 | true => none
 | false => none
noncomputable def SS1 : SE := { E := EP, ctr := c3, tm := tmS1, un := 300, hold := [0, 1], ctrM := m15 }

def S2_pre : Tm := { tmps := [(0, .ptr 0 0), (1, .ptr 4 0)], objs := [.cells [.hole (.int .i32), .hole (.int .u8), .hole (.int .u8), .hole (.int .u8), .hole (.int .u8), .hole (.int .i64), .ptr 1 0, .hole (.int .u8), .h 2, .hole .bool, .hole (.int .u8), .h 3, .hole .bool, .hole .bool] 56 true, .row 71 (.int .i64) true, .lst 5 .byte true, .lst 5 .byte true, .cells [.hole (.int .i32), .hole (.int .u8), .hole (.int .u8), .hole (.int .u8), .hole (.int .u8), .hole (.int .i64), .ptr 5 0, .hole (.int .u8), .h 6, .hole .bool, .hole (.int .u8), .h 7, .hole .bool, .hole .bool] 56 true, .row 71 (.int .i64) true, .lst 5 .byte true, .lst 5 .byte true] }
def S2_post : Tm := { tmps := [(0, .hole .bool)], objs := [.cells [.hole (.int .i32), .hole (.int .u8), .hole (.int .u8), .hole (.int .u8), .hole (.int .u8), .hole (.int .i64), .ptr 1 0, .hole (.int .u8), .h 2, .hole .bool, .hole (.int .u8), .h 3, .hole .bool, .hole .bool] 56 true, .row 71 (.int .i64) true, .lst 5 .byte true, .lst 5 .byte true, .cells [.hole (.int .i32), .hole (.int .u8), .hole (.int .u8), .hole (.int .u8), .hole (.int .u8), .hole (.int .i64), .ptr 5 0, .hole (.int .u8), .h 6, .hole .bool, .hole (.int .u8), .h 7, .hole .bool, .hole .bool] 56 true, .row 71 (.int .i64) true, .lst 5 .byte true, .lst 5 .byte true] }
def tmS2 : FuncId → Nat → Option Tm := fun g i => match Nat.beq g 13 with
 | true => none
 | false => none
noncomputable def SS2 : SE := { E := EP, ctr := c3, tm := tmS2, un := 300, hold := [0, 1, 4, 5], ctrM := m15 }

end Go.Proofs.Ytfdhkpfkdcdloaa

namespace Go.Proofs.Ytfdhkpfkdcdloaa
open Go Go.Am

theorem PI.new : PI newS := ⟨⟨[], rep_nil⟩, Nat.zero_le 2, Nat.zero_le 1024, ⟨Int.le_refl 0, (by decide : (0 : Int) ≤ 6)⟩, ⟨Int.le_refl 0, (by decide : (0 : Int) < 256)⟩, ⟨Int.le_refl 0, (by decide : (0 : Int) < 256)⟩⟩
theorem to_ok (L : List (List UInt8)) (h1 : L.length ≤ 1000000) (h2 : L.flatten.length ≤ 1000000) : fnY STo loopY [.hole (.list 9 .str)] [.list 41 tokTy] 0 12 [⟨.list 9 .str, L⟩] = some [⟨.list 41 tokTy, (feedS newS L.flatten).2⟩] :=
 (To_fn 0 L).trans (np (gP_iff.2 PI.new) (nd h1 (nd h2 rfl)))
def cTo : Ctr := ctr1 (.list 9 .str) [.list 41 tokTy] (fun (L : List (List UInt8)) => [decide (L.length ≤ 1000000), decide (L.flatten.length ≤ 1000000)]) fun (L : List (List UInt8)) => [⟨.list 41 tokTy, (feedS newS L.flatten).2⟩]
theorem cTo_ok : CtrOk EP 12 cTo := ctr1_ok (S := STo) (t := .list 9 .str) (S_ok c3_ok m15_ok) (fun _ => rfl) rfl fun (L : List (List UInt8)) h => by
 simp only [List.all_cons, id, Bool.and_eq_true, List.all_nil, decide_eq_true_eq] at h
 exact ⟨0, to_ok L h.1 h.2.1⟩

instance tkDec1 : DecidableEq (List (List Int) × List UInt8 × UInt8 × List UInt8 × Unit) := inferInstance
instance tkDec : DecidableEq Tk := inferInstanceAs (DecidableEq (Int × Int × UInt8 × List (List Int) × List UInt8 × UInt8 × List UInt8 × Unit))

def tkB (x y : Tk) : Bool := !(x.1 != y.1 || x.2.1 != y.2.1 || ((x.2.2.1.toNat : Int) != (y.2.2.1.toNat : Int)) || !(x.2.2.2.2.1 == y.2.2.2.2.1) || ((x.2.2.2.2.2.1.toNat : Int) != (y.2.2.2.2.2.1.toNat : Int)) || !(x.2.2.2.2.2.2.1 == y.2.2.2.2.2.2.1) || !sameT x.2.2.2.1 y.2.2.2.1)
theorem tkB_iff (x y : Tk) : tkB x y = decide (x = y) := by
 obtain ⟨a, b, c, T, s, f, d, u⟩ := x
 obtain ⟨a', b', c', T', s', f', d', u'⟩ := y
 rw [Bool.eq_iff_iff, decide_eq_true_eq]
 unfold tkB sameT
 simp only [Bool.not_or, Bool.and_eq_true, Bool.not_not, bne, beq_iff_eq, decide_eq_true_eq, Prod.mk.injEq]
 constructor
 ·rintro ⟨⟨⟨⟨⟨⟨h1, h2⟩, h3⟩, h4⟩, h5⟩, h6⟩, h7⟩
  exact ⟨h1, h2, UInt8.toNat_inj.1 (by omega), h7, h4, UInt8.toNat_inj.1 (by omega), h6, trivial⟩
 ·rintro ⟨rfl, rfl, rfl, rfl, rfl, rfl, rfl, _⟩
  exact ⟨⟨⟨⟨⟨⟨rfl, rfl⟩, rfl⟩, rfl⟩, rfl⟩, rfl⟩, rfl⟩
abbrev tk0 : Tk := (0, 0, UInt8.ofNat 0, [], [], UInt8.ofNat 0, [], PUnit.unit)
theorem gTok_gT {T : List (List Int)} (h : gTok T = true) : gT T = true ∧ T.length ≤ 1000000000 := by
 obtain ⟨h1, h2⟩ := gTok_at h
 refine ⟨?_, by omega⟩
 unfold gT
 rw [List.all_eq_true]
 intro r hr
 have := (h2 r hr).2
 exact decide_eq_true (by omega)
theorem bor_r {a b : Bool} (h : b = true) : (a || b) = true := by rw [h, Bool.or_true]
theorem sr_loop (n : Nat) (x y : List Tk) (h : x.length = y.length) (hg : ∀ a ∈ x, gTk a = true) (hx : x.length ≤ 1000000000) : ∀ (m i : Nat), i ≤ x.length → x.length < i + m → RL SSR [.bool] n 11 0 noNx m [⟨.int .i64, (i : Int)⟩, ⟨.list 41 tokTy, x⟩, ⟨.list 41 tokTy, y⟩] = some [⟨.bool, decide (x.drop i = y.drop i)⟩]
 | 0, i, h1, h2 => by omega
 | m + 1, i, h1, h2 => by
  refine (SR_L0 n noNx m i x y).trans ?_
  by_cases hi : i < x.length
  ·rw [drop_cmp (d := tk0) hi (by omega), Int.toNat_natCast, ← tkB_iff]
   have hgi : gTok (x.getD i tk0).2.2.2.1 = true := by
    rw [List.getD_eq_getElem?_getD, List.getElem?_eq_getElem hi]
    exact hg _ (List.getElem_mem hi)
   obtain ⟨g1, g2⟩ := gTok_gT hgi
   refine bpd (by omega) (nd (by omega) (nd (by omega) (nd (by omega) (nd (by omega) (nd (by omega) (nd (by omega) (np (bor_r g1) (np (bor_r (decide_eq_true g2)) ?_))))))))
   cases hc : tkB (x.getD i tk0) (y.getD i tk0) with
   | true =>
    rw [Bool.true_and]
    unfold tkB at hc
    rw [Bool.not_eq_true'] at hc
    refine bn hc ?_
    rw [show IntKind.wrap .i64 ((i : Int) + 1) = ((i + 1 : Nat) : Int) by rw [w64 (by omega)]; omega]
    exact sr_loop n x y h hg hx m (i + 1) (by omega) (by omega)
   | false =>
    rw [Bool.false_and]
    unfold tkB at hc
    rw [Bool.not_eq_false'] at hc
    exact bp hc rfl
  ·rw [List.drop_of_length_le (by omega), List.drop_of_length_le (by omega)]
   exact bnd (by omega) (by simp)
theorem sr_ok (x y : List Tk) (hg : ∀ a ∈ x, gTk a = true) (hx : x.length ≤ 1000000000) : ∃ n, fnY SSR loopY [.hole (.list 41 tokTy), .hole (.list 41 tokTy)] [.bool] n 11 [⟨.list 41 tokTy, x⟩, ⟨.list 41 tokTy, y⟩] = some [⟨.bool, decide (x = y)⟩] := by
 refine ⟨x.length + 1, (SR_fn (x.length + 1) x y).trans ?_⟩
 by_cases h : x.length = y.length
 ·refine bn (by simp [h]) ?_
  have := sr_loop (x.length + 1) x y h hg hx (x.length + 1) 0 (by omega) (by omega)
  rw [List.drop_zero, List.drop_zero] at this
  exact this
 ·rw [decide_eq_false fun e => h (by rw [e])]
  exact bp (by simp only [bne, Bool.not_eq_true', beq_eq_false_iff_ne]; omega) rfl
def sameK (x y : List Tk) : Bool := decide (x = y)
def cSR : Ctr := ctr2 (.list 41 tokTy) (.list 41 tokTy) [.bool] (fun (x : List Tk) (_ : List Tk) => [x.all gTk, decide (x.length ≤ 1000000000)]) fun (x y : List Tk) => [⟨.bool, sameK x y⟩]
theorem cSR_ok : CtrOk EP 11 cSR := ctr2_ok (S := SSR) (t := .list 41 tokTy) (u := .list 41 tokTy) (S_ok c3_ok m15_ok) (fun _ => rfl) rfl fun (x y : List Tk) h => by
 simp only [List.all_cons, id, Bool.and_eq_true, List.all_nil, decide_eq_true_eq] at h
 exact sr_ok x y (List.all_eq_true.1 h.1) h.2.1
def c4 : FuncId → List Ctr := addCtr (addCtr c3 12 cTo) 11 cSR
theorem c4_ok : ∀ g ct, ct ∈ c4 g → CtrOk EP g ct := addCtr_ok (addCtr_ok c3_ok cTo_ok) cSR_ok

def cPe : CtrM := { pre := Pe_pre, post := Pe_post, res := fun ds => match popDc ds with
 | some ((_, _, gt, _, _), []) => some ([], [⟨.int .i64, IntKind.wrap .i64 gt⟩])
 | _ => none }
theorem cPe_ok : CtrMOk EP 33 cPe := ctrM_ok (S := SPe) (S_ok c3_ok m15_ok) rfl rfl rfl rfl fun ds gs ds' hr hg => by
 simp only [cPe] at hr
 split at hr
 ·rename_i c lf gt lo hi h
  cases hr
  rw [popDc_eq h]
  exact ⟨0, Pe_fn 0 c lf gt lo hi⟩
 ·cases hr
def groundB (s : PS) : Bool := decide (s.st = 0) && (IntKind.wrap .i64 s.gt == 0)
theorem gr_ok (s : PS) : fnM SGr loopY Gr_pre Gr_post 0 16 (psD0 s) = some (psD0 s ++ [⟨.bool, groundB s⟩]) := by
 obtain ⟨l, it, d, c, lf, gt, lo, hi, st, mk', fst, fin, sp, en⟩ := s
 refine (Gr_fn 0 ⟨l, it, d, c, lf, gt, lo, hi, st, mk', fst, fin, sp, en⟩).trans ?_
 dsimp only
 unfold groundB
 by_cases h : st = 0
 ·rw [decide_eq_true (show (⟨l, it, d, c, lf, gt, lo, hi, st, mk', fst, fin, sp, en⟩ : PS).st = 0 from h), Bool.true_and]
  exact bp (by simpa using h) rfl
 ·rw [decide_eq_false (show ¬ (⟨l, it, d, c, lf, gt, lo, hi, st, mk', fst, fin, sp, en⟩ : PS).st = 0 from h), Bool.false_and]
  exact bn (by simpa using h) rfl
def cGr : CtrM := { pre := Gr_pre, post := Gr_post, res := fun ds => match popP ds with
 | some (s, []) => some ([], psD0 s ++ [⟨.bool, groundB s⟩])
 | _ => none }
theorem cGr_ok : CtrMOk EP 16 cGr := ctrM_ok (S := SGr) (S_ok c3_ok m15_ok) rfl rfl rfl rfl fun ds gs ds' hr hg => by
 simp only [cGr] at hr
 split at hr
 ·rename_i s h
  cases hr
  rw [popP_eq h, List.append_nil]
  exact ⟨0, gr_ok s⟩
 ·cases hr

def psD2 (s u : PS) : List Dy := [⟨.list 71 (.int .i64), s.l⟩, ⟨.list 5 .byte, s.inter⟩, ⟨.list 5 .byte, s.data⟩, ⟨.list 71 (.int .i64), u.l⟩, ⟨.list 5 .byte, u.inter⟩, ⟨.list 5 .byte, u.data⟩] ++ (psC s ++ psC u)
def popP2 (ds : List Dy) : Option (PS × PS × List Dy) :=
 match popD (.list 71 (.int .i64)) ds with
 | some (l, ds) => match popD (.list 5 .byte) ds with
  | some (inter, ds) => match popD (.list 5 .byte) ds with
   | some (data, ds) => match popD (.list 71 (.int .i64)) ds with
    | some (l2, ds) => match popD (.list 5 .byte) ds with
     | some (inter2, ds) => match popD (.list 5 .byte) ds with
      | some (data2, ds) => match popC l inter data ds with
       | some (s, ds) => match popC l2 inter2 data2 ds with
        | some (u, ds) => some (s, u, ds)
        | none => none
       | none => none
      | none => none
     | none => none
    | none => none
   | none => none
  | none => none
 | none => none
theorem popP2_eq {ds r : List Dy} {s u : PS} (h : popP2 ds = some (s, u, r)) : ds = psD2 s u ++ r := by
 unfold popP2 at h
 split at h
 case h_2 => cases h
 rename_i h1
 split at h
 case h_2 => cases h
 rename_i h2
 split at h
 case h_2 => cases h
 rename_i h3
 split at h
 case h_2 => cases h
 rename_i h4
 split at h
 case h_2 => cases h
 rename_i h5
 split at h
 case h_2 => cases h
 rename_i h6
 split at h
 case h_2 => cases h
 rename_i h7
 split at h
 case h_2 => cases h
 rename_i h8
 obtain ⟨e1, e2, e3, e4⟩ := popC_eq h7
 obtain ⟨f1, f2, f3, f4⟩ := popC_eq h8
 simp only [Option.some.injEq, Prod.mk.injEq] at h
 obtain ⟨rfl, rfl, rfl⟩ := h
 rw [popD_eq h1, popD_eq h2, popD_eq h3, popD_eq h4, popD_eq h5, popD_eq h6, e4, f4, ← e1, ← e2, ← e3, ← f1, ← f2, ← f3]
 rfl
def rowC (l : List Int) (n : Nat) : List Int := (List.range n).map fun i => l.getD i 0
theorem rowC_eq {l : List Int} {n : Nat} (h : l.length = n) : rowC l n = l := by
 apply List.ext_getElem?
 intro i
 unfold rowC
 rw [List.getElem?_map]
 by_cases hi : i < n
 ·rw [List.getElem?_range hi, Option.map_some, List.getD_eq_getElem?_getD, List.getElem?_eq_getElem (by omega)]
  rfl
 ·rw [List.getElem?_eq_none (by simp; omega), List.getElem?_eq_none (by omega)]
  rfl
set_option maxRecDepth 100000 in
theorem Cp_fn (n : Nat) (l : List Int) (it d : List UInt8) (c lf gt lo hi st mk' : Int) (fst : Bool) (fin : Int) (sp en : Bool) :
 fnM SCp loopY Cp_pre Cp_post n 17 (psD0 ⟨l, it, d, c, lf, gt, lo, hi, st, mk', fst, fin, sp, en⟩) =
 (need (decide (0 + 289 ≤ l.length)) <|
  need (decide (it.length * 1 ≤ 140737488355328)) <|
  need (decide (it.length ≤ 140737488355328)) <|
  need (decide (d.length * 1 ≤ 140737488355328)) <|
  need (decide (d.length ≤ 140737488355328)) <|
  some (psD2 ⟨l, it, d, c, lf, gt, lo, hi, st, mk', fst, fin, sp, en⟩ ⟨rowC l 289, it, d, c, lf, gt, lo, hi, st, mk', fst, fin, sp, en⟩)) := by kernel_rfl
theorem cp_ok (s : PS) (hs : PI s) : fnM SCp loopY Cp_pre Cp_post 0 17 (psD0 s) = some (psD2 s s) := by
 have h1 := hs.len
 have h2 := hs.inter
 have h3 := hs.data
 obtain ⟨l, it, d, c, lf, gt, lo, hi, st, mk', fst, fin, sp, en⟩ := s
 have h1 : l.length = 289 := h1
 have h2 : it.length ≤ 2 := h2
 have h3 : d.length ≤ 1024 := h3
 refine (Cp_fn 0 l it d c lf gt lo hi st mk' fst fin sp en).trans ?_
 refine nd (by omega) (nd (by omega) (nd (by omega) (nd (by omega) (nd (by omega) ?_))))
 rw [rowC_eq h1]
noncomputable def cCp : CtrM := { pre := Cp_pre, post := Cp_post, res := fun ds => match popP ds with
 | some (s, []) => some ([gP s], psD2 s s)
 | _ => none }
theorem cCp_ok : CtrMOk EP 17 cCp := ctrM_ok (S := SCp) (S_ok c3_ok m15_ok) rfl rfl rfl rfl fun ds gs ds' hr hg => by
 simp only [cCp] at hr
 split at hr
 ·rename_i s h
  cases hr
  rw [popP_eq h, List.append_nil]
  exact ⟨0, cp_ok s (gP_iff.1 (by simpa using hg))⟩
 ·cases hr

def eqN (l l' : List Int) : Nat → Nat → Bool
 | 0, _ => true
 | n + 1, i => l.getD i 0 == l'.getD i 0 && eqN l l' n (i + 1)
def eqOnes (l l' : List Int) : Nat → Nat → Bool
 | 0, _ => true
 | n + 1, i => (eqN l l' 8 i && (l.getD (i + 8) 0 == l'.getD (i + 8) 0 && true)) && eqOnes l l' n (i + 9)
def sameB (s u : PS) : Bool :=
 (s.c == u.c && (s.lf == u.lf && (s.gt == u.gt && ((s.lo == u.lo && (s.hi == u.hi && true)) && true)))) && (s.st == u.st && ((eqOnes s.l u.l 32 0 && (s.l.getD 288 0 == u.l.getD 288 0 && true)) && (s.mk' == u.mk' && (s.fin == u.fin && (s.inter == u.inter && (s.data == u.data && (s.fst == u.fst && (s.en == u.en && (s.sp == u.sp && true)))))))))
theorem eqN_iff {l l' : List Int} : ∀ {n i : Nat}, eqN l l' n i = true ↔ ∀ j, i ≤ j → j < i + n → l.getD j 0 = l'.getD j 0
 | 0, i => by simp only [eqN, true_iff]; intro j h1 h2; omega
 | n + 1, i => by
  simp only [eqN, Bool.and_eq_true, beq_iff_eq, eqN_iff (n := n)]
  constructor
  ·rintro ⟨h1, h2⟩ j h3 h4
   by_cases e : j = i
   ·rw [e]; exact h1
   ·exact h2 j (by omega) (by omega)
  ·intro h
   exact ⟨h i (by omega) (by omega), fun j h1 h2 => h j (by omega) (by omega)⟩
theorem eqOnes_iff {l l' : List Int} : ∀ {n i : Nat}, eqOnes l l' n i = true ↔ ∀ j, i ≤ j → j < i + 9 * n → l.getD j 0 = l'.getD j 0
 | 0, i => by simp only [eqOnes, true_iff]; intro j h1 h2; omega
 | n + 1, i => by
  simp only [eqOnes, Bool.and_eq_true, beq_iff_eq, eqOnes_iff (n := n), eqN_iff, and_true]
  constructor
  ·rintro ⟨⟨h1, h2⟩, h3⟩ j h4 h5
   by_cases e : j < i + 8
   ·exact h1 j h4 e
   by_cases e2 : j = i + 8
   ·rw [e2]; exact h2
   ·exact h3 j (by omega) (by omega)
  ·intro h
   exact ⟨⟨fun j h1 h2 => h j h1 (by omega), h _ (by omega) (by omega)⟩, fun j h1 h2 => h j (by omega) (by omega)⟩
theorem sameB_iff {s u : PS} (hs : s.l.length = 289) (hu : u.l.length = 289) : sameB s u = true ↔ s = u := by
 obtain ⟨l, it, d, c, lf, gt, lo, hi, st, mk', fst, fin, sp, en⟩ := s
 obtain ⟨l2, it2, d2, c2, lf2, gt2, lo2, hi2, st2, mk2, fst2, fin2, sp2, en2⟩ := u
 have hs : l.length = 289 := hs
 have hu : l2.length = 289 := hu
 simp only [sameB, Bool.and_eq_true, beq_iff_eq, and_true, eqOnes_iff, PS.mk.injEq]
 constructor
 ·rintro ⟨⟨h1, h2, h3, h4, h5⟩, h6, ⟨h7, h8⟩, h9, h10, h11, h12, h13, h14, h15⟩
  refine ⟨?_, h11, h12, h1, h2, h3, h4, h5, h6, h9, h13, h10, h15, h14⟩
  apply List.ext_getElem (by omega)
  intro i hi1 hi2
  have : l.getD i 0 = l2.getD i 0 := by
   by_cases e : i = 288
   ·rw [e]; exact h8
   ·exact h7 i (by omega) (by omega)
  rw [List.getD_eq_getElem?_getD, List.getD_eq_getElem?_getD, List.getElem?_eq_getElem hi1, List.getElem?_eq_getElem hi2] at this
  exact this
 ·rintro ⟨rfl, rfl, rfl, rfl, rfl, rfl, rfl, rfl, rfl, rfl, rfl, rfl, rfl, rfl⟩
  exact ⟨⟨rfl, rfl, rfl, rfl, rfl⟩, rfl, ⟨fun _ _ _ => rfl, rfl⟩, rfl, rfl, rfl, rfl, rfl, rfl, rfl⟩
set_option maxRecDepth 100000 in
theorem S1_fn (n : Nat) (l : List Int) (it d : List UInt8) (c lf gt lo hi st mk' : Int) (fst : Bool) (fin : Int) (sp en : Bool) :
 fnM SS1 loopY S1_pre S1_post n 13 (psD0 ⟨l, it, d, c, lf, gt, lo, hi, st, mk', fst, fin, sp, en⟩) =
 (need (decide (0 + 289 ≤ l.length)) <| need (decide (0 + 289 ≤ l.length)) <|
  some (psD0 ⟨l, it, d, c, lf, gt, lo, hi, st, mk', fst, fin, sp, en⟩ ++ [⟨.bool, sameB ⟨l, it, d, c, lf, gt, lo, hi, st, mk', fst, fin, sp, en⟩ ⟨l, it, d, c, lf, gt, lo, hi, st, mk', fst, fin, sp, en⟩⟩])) := by kernel_rfl
set_option maxRecDepth 100000 in
theorem S2_fn (n : Nat) (l : List Int) (it d : List UInt8) (c lf gt lo hi st mk' : Int) (fst : Bool) (fin : Int) (sp en : Bool) (l2 : List Int) (it2 d2 : List UInt8) (c2 lf2 gt2 lo2 hi2 st2 mk2 : Int) (fst2 : Bool) (fin2 : Int) (sp2 en2 : Bool) :
 fnM SS2 loopY S2_pre S2_post n 13 (psD2 ⟨l, it, d, c, lf, gt, lo, hi, st, mk', fst, fin, sp, en⟩ ⟨l2, it2, d2, c2, lf2, gt2, lo2, hi2, st2, mk2, fst2, fin2, sp2, en2⟩) =
 (need (decide (0 + 289 ≤ l.length)) <| need (decide (0 + 289 ≤ l2.length)) <|
  some (psD2 ⟨l, it, d, c, lf, gt, lo, hi, st, mk', fst, fin, sp, en⟩ ⟨l2, it2, d2, c2, lf2, gt2, lo2, hi2, st2, mk2, fst2, fin2, sp2, en2⟩ ++ [⟨.bool, sameB ⟨l, it, d, c, lf, gt, lo, hi, st, mk', fst, fin, sp, en⟩ ⟨l2, it2, d2, c2, lf2, gt2, lo2, hi2, st2, mk2, fst2, fin2, sp2, en2⟩⟩])) := by kernel_rfl
noncomputable def cS1 : CtrM := { pre := S1_pre, post := S1_post, res := fun ds => match popP ds with
 | some (s, []) => some ([decide (s.l.length = 289)], psD0 s ++ [⟨.bool, sameB s s⟩])
 | _ => none }
theorem cS1_ok : CtrMOk EP 13 cS1 := ctrM_ok (S := SS1) (S_ok c3_ok m15_ok) rfl rfl rfl rfl fun ds gs ds' hr hg => by
 simp only [cS1] at hr
 split at hr
 ·rename_i s h
  cases hr
  rw [popP_eq h, List.append_nil]
  have hg : s.l.length = 289 := by simpa using hg
  obtain ⟨l, it, d, c, lf, gt, lo, hi, st, mk', fst, fin, sp, en⟩ := s
  have hg : l.length = 289 := hg
  exact ⟨0, (S1_fn 0 l it d c lf gt lo hi st mk' fst fin sp en).trans (nd (by omega) (nd (by omega) rfl))⟩
 ·cases hr
noncomputable def cS2 : CtrM := { pre := S2_pre, post := S2_post, res := fun ds => match popP2 ds with
 | some (s, u, []) => some ([decide (s.l.length = 289), decide (u.l.length = 289)], psD2 s u ++ [⟨.bool, sameB s u⟩])
 | _ => none }
theorem cS2_ok : CtrMOk EP 13 cS2 := ctrM_ok (S := SS2) (S_ok c3_ok m15_ok) rfl rfl rfl rfl fun ds gs ds' hr hg => by
 simp only [cS2] at hr
 split at hr
 ·rename_i s u h
  cases hr
  rw [popP2_eq h, List.append_nil]
  simp only [List.all_cons, id, Bool.and_eq_true, List.all_nil, decide_eq_true_eq, and_true] at hg
  obtain ⟨l, it, d, c, lf, gt, lo, hi, st, mk', fst, fin, sp, en⟩ := s
  obtain ⟨l2, it2, d2, c2, lf2, gt2, lo2, hi2, st2, mk2, fst2, fin2, sp2, en2⟩ := u
  have h1 : l.length = 289 := hg.1
  have h2 : l2.length = 289 := hg.2
  exact ⟨0, (S2_fn 0 l it d c lf gt lo hi st mk' fst fin sp en l2 it2 d2 c2 lf2 gt2 lo2 hi2 st2 mk2 fst2 fin2 sp2 en2).trans (nd (by omega) (nd (by omega) rfl))⟩
 ·cases hr
noncomputable def m16 : FuncId → List CtrM := addM (addM (addM (addM (addM m15 33 cPe) 16 cGr) 17 cCp) 13 cS1) 13 cS2
theorem m16_ok : ∀ g ct, ct ∈ m16 g → CtrMOk EP g ct := addM_ok (addM_ok (addM_ok (addM_ok (addM_ok m15_ok cPe_ok) cGr_ok) cCp_ok) cS1_ok) cS2_ok
end Go.Proofs.Ytfdhkpfkdcdloaa

namespace Go.Proofs.Ytfdhkpfkdcdloaa
open Go Go.Am
set_option linter.unusedVariables false
def Hd_pre : Tm := { tmps := [(0, .ptr 0 0)], objs := [.cells [.hole (.int .i32), .hole (.int .u8), .hole (.int .u8), .hole (.int .u8), .hole (.int .u8), .hole (.int .i64), .ptr 1 0, .hole (.int .u8), .h 2, .hole .bool, .hole (.int .u8), .h 3, .hole .bool, .hole .bool] 56 true, .row 71 (.int .i64) true, .lst 5 .byte true, .lst 5 .byte true] }
def Hd_post : Tm := { tmps := [(0, .hole (.int .i64))], objs := [.cells [.hole (.int .i32), .hole (.int .u8), .hole (.int .u8), .hole (.int .u8), .hole (.int .u8), .hole (.int .i64), .ptr 1 0, .hole (.int .u8), .h 2, .hole .bool, .hole (.int .u8), .h 3, .hole .bool, .hole .bool] 56 true, .row 71 (.int .i64) true, .lst 5 .byte true, .lst 5 .byte true] }
def tmHd : FuncId → Nat → Option Tm := fun g i => match Nat.beq g 15 with
 | true => none
 | false => none
noncomputable def SHd : SE := { E := EP, ctr := c4, tm := tmHd, un := 300, hold := [0, 1], ctrM := m16 }
theorem Hd_fn (n : Nat) (s : PS) :
 fnM SHd loopY Hd_pre Hd_post n 15 (psD0 s) =
 (some (psD0 s ++ [⟨(.int .i64), (IntKind.wrap .i64 ((↑(List.length s.data) : Int) + IntKind.wrap .i64 s.gt) : Int)⟩])) := by kernel_rfl

def tmD1 : FuncId → Nat → Option Tm := fun g i => match Nat.beq g 40 with
 | true => none
 | false => none
noncomputable def SD1 : SE := { E := EP, ctr := c4, tm := tmD1, un := 300, ctrM := m16 }
theorem D1_fn (n : Nat) (c0 : UInt8) :
 fnY SD1 loopY [(.hole .byte)] [.str] n 40 [⟨.byte, c0⟩] =
 (need (decide (IntKind.wrap .u8 ((48 : Int) + Int.tmod (↑(UInt8.toNat c0) : Int) (10 : Int)) < (256 : Int))) <|
 need (decide ((↑(UInt8.toNat c0) : Int) < (10 : Int))) <|
 some [⟨.str, ([UInt8.ofNat (Int.toNat (IntKind.wrap .u8 ((48 : Int) + Int.tmod (↑(UInt8.toNat c0) : Int) (10 : Int))))] : List UInt8)⟩]) := by kernel_rfl

end Go.Proofs.Ytfdhkpfkdcdloaa

namespace Go.Proofs.Ytfdhkpfkdcdloaa
open Go Go.Am
def heldN (s : PS) : Int := IntKind.wrap .i64 ((s.data.length : Int) + IntKind.wrap .i64 s.gt)
def cHd : CtrM := { pre := Hd_pre, post := Hd_post, res := fun ds => match popP ds with
 | some (s, []) => some ([], psD0 s ++ [⟨.int .i64, heldN s⟩])
 | _ => none }
theorem cHd_ok : CtrMOk EP 15 cHd := ctrM_ok (S := SHd) (S_ok c4_ok m16_ok) rfl rfl rfl rfl fun ds gs ds' hr hg => by
 simp only [cHd] at hr
 split at hr
 ·rename_i s h
  cases hr
  rw [popP_eq h, List.append_nil]
  obtain ⟨l, it, d, c, lf, gt, lo, hi, st, mk', fst, fin, sp, en⟩ := s
  exact ⟨0, Hd_fn 0 ⟨l, it, d, c, lf, gt, lo, hi, st, mk', fst, fin, sp, en⟩⟩
 ·cases hr
noncomputable def m17 : FuncId → List CtrM := addM m16 15 cHd
theorem m17_ok : ∀ g ct, ct ∈ m17 g → CtrMOk EP g ct := addM_ok m16_ok cHd_ok
def dig1 (n : UInt8) : List UInt8 := [by8 (IntKind.wrap .u8 (48 + Int.tmod (n.toNat : Int) 10))]
theorem w8_lt (x : Int) : IntKind.wrap .u8 x < 256 ∧ 0 ≤ IntKind.wrap .u8 x := by
 have e : IntKind.wrap .u8 x = x % 256 := by
  simp [IntKind.wrap, IntKind.signed, IntKind.bits]
 omega
theorem d1_ok (n : UInt8) (h : n.toNat < 10) : fnY SD1 loopY [.hole .byte] [.str] 0 40 [⟨.byte, n⟩] = some [⟨.str, dig1 n⟩] :=
 (D1_fn 0 n).trans (nd (w8_lt _).1 (nd (by omega) rfl))
def cD1 : Ctr := ctr1 .byte [.str] (fun (n : UInt8) => [decide (n.toNat < 10)]) fun (n : UInt8) => [⟨.str, dig1 n⟩]
theorem cD1_ok : CtrOk EP 40 cD1 := ctr1_ok (S := SD1) (t := .byte) (S_ok c4_ok m16_ok) (fun _ => rfl) rfl fun (n : UInt8) h => ⟨0, d1_ok n (by simpa using h)⟩
def c5 : FuncId → List Ctr := addCtr c4 40 cD1
theorem c5_ok : ∀ g ct, ct ∈ c5 g → CtrOk EP g ct := addCtr_ok c4_ok cD1_ok
end Go.Proofs.Ytfdhkpfkdcdloaa

namespace Go.Proofs.Ytfdhkpfkdcdloaa
open Go Go.Am
set_option linter.unusedVariables false
def tmD2 : FuncId → Nat → Option Tm := fun g i => match Nat.beq g 40 with
 | true => none
 | false => none
noncomputable def SD2 : SE := { E := EP, ctr := c5, tm := tmD2, un := 300, ctrM := m17 }
theorem D2_fn (n : Nat) (c0 : UInt8) :
 fnY SD2 loopY [(.hole .byte)] [.str] n 40 [⟨.byte, c0⟩] =
 (need (decide (IntKind.wrap .u8 ((48 : Int) + Int.tmod (↑(UInt8.toNat c0) : Int) (10 : Int)) < (256 : Int))) <|
 bif (decide ((↑(UInt8.toNat c0) : Int) < (10 : Int))) then
  some [⟨.str, ([UInt8.ofNat (Int.toNat (IntKind.wrap .u8 ((48 : Int) + Int.tmod (↑(UInt8.toNat c0) : Int) (10 : Int))))] : List UInt8)⟩]
 else
  need (decide (IntKind.wrap .u8 (Int.tdiv (↑(UInt8.toNat c0) : Int) (10 : Int)) < (256 : Int))) <|
  need (decide (UInt8.toNat (UInt8.ofNat (Int.toNat (IntKind.wrap .u8 (Int.tdiv (↑(UInt8.toNat c0) : Int) (10 : Int))))) < (10 : Nat))) <|
  some [⟨.str, (dig1 (UInt8.ofNat (Int.toNat (IntKind.wrap .u8 (Int.tdiv (↑(UInt8.toNat c0) : Int) (10 : Int))))) ++ [UInt8.ofNat (Int.toNat (IntKind.wrap .u8 ((48 : Int) + Int.tmod (↑(UInt8.toNat c0) : Int) (10 : Int))))] : List UInt8)⟩]) := by kernel_rfl

end Go.Proofs.Ytfdhkpfkdcdloaa

namespace Go.Proofs.Ytfdhkpfkdcdloaa
open Go Go.Am
def tenth (n : UInt8) : UInt8 := by8 (IntKind.wrap .u8 (Int.tdiv (n.toNat : Int) 10))
theorem tenth_nat (n : UInt8) : (tenth n).toNat = n.toNat / 10 := by
 have hn := u8_lt n
 have e : Int.tdiv (n.toNat : Int) 10 = ((n.toNat / 10 : Nat) : Int) := by rw [Int.tdiv_eq_ediv_of_nonneg (by omega)]; omega
 unfold tenth by8
 rw [e, w8 (by omega), Int.toNat_natCast, UInt8.toNat_ofNat_of_lt' (by change n.toNat / 10 < 256; omega)]
def dig2 (n : UInt8) : List UInt8 := if n.toNat < 10 then dig1 n else dig1 (tenth n) ++ dig1 n
theorem d2_ok (n : UInt8) (h : n.toNat < 100) : fnY SD2 loopY [.hole .byte] [.str] 0 40 [⟨.byte, n⟩] = some [⟨.str, dig2 n⟩] := by
 refine (D2_fn 0 n).trans (nd (w8_lt _).1 ?_)
 unfold dig2
 by_cases h1 : n.toNat < 10
 ·rw [if_pos h1]; exact bpd (by omega) rfl
 ·rw [if_neg h1]
  have := tenth_nat n
  exact bnd (by omega) (nd (w8_lt _).1 (nd (show (tenth n).toNat < 10 by omega) rfl))
def cD2 : Ctr := ctr1 .byte [.str] (fun (n : UInt8) => [decide (n.toNat < 100)]) fun (n : UInt8) => [⟨.str, dig2 n⟩]
theorem cD2_ok : CtrOk EP 40 cD2 := ctr1_ok (S := SD2) (t := .byte) (S_ok c5_ok m17_ok) (fun _ => rfl) rfl fun (n : UInt8) h => ⟨0, d2_ok n (by simpa using h)⟩
def c6 : FuncId → List Ctr := addCtr c5 40 cD2
theorem c6_ok : ∀ g ct, ct ∈ c6 g → CtrOk EP g ct := addCtr_ok c5_ok cD2_ok
end Go.Proofs.Ytfdhkpfkdcdloaa

namespace Go.Proofs.Ytfdhkpfkdcdloaa
open Go Go.Am
set_option linter.unusedVariables false
def tmD3 : FuncId → Nat → Option Tm := fun g i => match Nat.beq g 40 with
 | true => none
 | false => none
noncomputable def SD3 : SE := { E := EP, ctr := c6, tm := tmD3, un := 300, ctrM := m17 }
theorem D3_fn (n : Nat) (c0 : UInt8) :
 fnY SD3 loopY [(.hole .byte)] [.str] n 40 [⟨.byte, c0⟩] =
 (need (decide (IntKind.wrap .u8 ((48 : Int) + Int.tmod (↑(UInt8.toNat c0) : Int) (10 : Int)) < (256 : Int))) <|
 bif (decide ((↑(UInt8.toNat c0) : Int) < (10 : Int))) then
  some [⟨.str, ([UInt8.ofNat (Int.toNat (IntKind.wrap .u8 ((48 : Int) + Int.tmod (↑(UInt8.toNat c0) : Int) (10 : Int))))] : List UInt8)⟩]
 else
  need (decide (IntKind.wrap .u8 (Int.tdiv (↑(UInt8.toNat c0) : Int) (10 : Int)) < (256 : Int))) <|
  need (decide (UInt8.toNat (UInt8.ofNat (Int.toNat (IntKind.wrap .u8 (Int.tdiv (↑(UInt8.toNat c0) : Int) (10 : Int))))) < (100 : Nat))) <|
  need (decide (List.length (dig2 (UInt8.ofNat (Int.toNat (IntKind.wrap .u8 (Int.tdiv (↑(UInt8.toNat c0) : Int) (10 : Int)))))) + List.length [UInt8.ofNat (Int.toNat (IntKind.wrap .u8 ((48 : Int) + Int.tmod (↑(UInt8.toNat c0) : Int) (10 : Int))))] ≤ (9223372036854775807 : Nat))) <|
  some [⟨.str, (dig2 (UInt8.ofNat (Int.toNat (IntKind.wrap .u8 (Int.tdiv (↑(UInt8.toNat c0) : Int) (10 : Int))))) ++ [UInt8.ofNat (Int.toNat (IntKind.wrap .u8 ((48 : Int) + Int.tmod (↑(UInt8.toNat c0) : Int) (10 : Int))))] : List UInt8)⟩]) := by kernel_rfl

end Go.Proofs.Ytfdhkpfkdcdloaa

namespace Go.Proofs.Ytfdhkpfkdcdloaa
open Go Go.Am
def dig3 (n : UInt8) : List UInt8 := if n.toNat < 10 then dig1 n else dig2 (tenth n) ++ dig1 n
theorem dig3_len (n : UInt8) : (dig3 n).length ≤ 3 := by
 have h1 : ∀ m, (dig1 m).length = 1 := fun m => rfl
 have h2 : ∀ m, (dig2 m).length ≤ 2 := fun m => by
  unfold dig2
  split
  ·rw [h1]; omega
  ·rw [List.length_append, h1, h1]; omega
 unfold dig3
 split
 ·rw [h1]; omega
 ·have := h2 (tenth n)
  rw [List.length_append, h1]; omega
theorem d3_ok (n : UInt8) : fnY SD3 loopY [.hole .byte] [.str] 0 40 [⟨.byte, n⟩] = some [⟨.str, dig3 n⟩] := by
 refine (D3_fn 0 n).trans (nd (w8_lt _).1 ?_)
 unfold dig3
 by_cases h1 : n.toNat < 10
 ·rw [if_pos h1]; exact bpd (by omega) rfl
 ·rw [if_neg h1]
  have h2 := tenth_nat n
  have h3 := u8_lt n
  have h4 : (dig2 (tenth n)).length ≤ 2 := by
   unfold dig2
   split
   ·exact Nat.le_succ 1
   ·exact Nat.le_refl 2
  exact bnd (by omega) (nd (w8_lt _).1 (nd (show (tenth n).toNat < 100 by omega) (nd (show (dig2 (tenth n)).length + 1 ≤ 9223372036854775807 by omega) rfl)))
def cD3 : Ctr := ctr1 .byte [.str] (fun (_ : UInt8) => []) fun (n : UInt8) => [⟨.str, dig3 n⟩]
theorem cD3_ok : CtrOk EP 40 cD3 := ctr1_ok (S := SD3) (t := .byte) (S_ok c6_ok m17_ok) (fun _ => rfl) rfl fun (n : UInt8) _ => ⟨0, d3_ok n⟩
def c7 : FuncId → List Ctr := addCtr c6 40 cD3
theorem c7_ok : ∀ g ct, ct ∈ c7 g → CtrOk EP g ct := addCtr_ok c6_ok cD3_ok
end Go.Proofs.Ytfdhkpfkdcdloaa

namespace Go.Proofs.Ytfdhkpfkdcdloaa
open Go Go.Am
set_option linter.unusedVariables false
def tmTe : FuncId → Nat → Option Tm := fun g i => match Nat.beq g 23 with
 | true => none
 | false => none
noncomputable def STe : SE := { E := EP, ctr := c7, tm := tmTe, un := 300, ctrM := m17 }
theorem Te_fn (n : Nat) (p0 : UInt8 × UInt8 × UInt8 × List UInt8 × PUnit) :
 fnY STe loopY [(.hole (.pair .byte (.pair .byte (.pair .byte (.pair .str .unit)))))] [.str] n 23 [⟨(.pair .byte (.pair .byte (.pair .byte (.pair .str .unit)))), p0⟩] =
 (need (decide ((0 : Int) ≤ if (12 : Int) < (↑(List.length p0.2.2.2.1) : Int) then (12 : Int) else (↑(List.length p0.2.2.2.1) : Int))) <|
 need (decide ((if (12 : Int) < (↑(List.length p0.2.2.2.1) : Int) then (12 : Int) else (↑(List.length p0.2.2.2.1) : Int)) ≤ (↑(List.length p0.2.2.2.1) : Int))) <|
 need (decide ((↑(UInt8.toNat p0.2.2.1) : Int) < (256 : Int))) <|
 bif (Int.tmod (↑(UInt8.toNat p0.1) : Int) (16 : Int) == (0 : Int)) then
  bif (Int.tmod (↑(UInt8.toNat p0.1) : Int) (16 : Int) == (0 : Int)) then
   need (decide ((↑(UInt8.toNat p0.2.1) : Int) < (256 : Int))) <|
   need (decide ((2 : Nat) + List.length (dig3 (UInt8.ofNat (Int.toNat (↑(UInt8.toNat p0.2.1) : Int)))) ≤ (9223372036854775807 : Nat))) <|
   need (decide (List.length ([(27 : UInt8), (91 : UInt8)] ++ dig3 (UInt8.ofNat (Int.toNat (↑(UInt8.toNat p0.2.1) : Int)))) + (1 : Nat) ≤ (9223372036854775807 : Nat))) <|
   need (decide ((↑(UInt8.toNat p0.2.2.1) : Int) < (256 : Int))) <|
   need (decide (List.length ([(27 : UInt8), (91 : UInt8)] ++ dig3 (UInt8.ofNat (Int.toNat (↑(UInt8.toNat p0.2.1) : Int))) ++ [(59 : UInt8)]) + List.length (dig3 (UInt8.ofNat (Int.toNat (↑(UInt8.toNat p0.2.2.1) : Int)))) ≤ (9223372036854775807 : Nat))) <|
   need (decide (IntKind.wrap .u8 ((64 : Int) + Int.tmod (↑(UInt8.toNat p0.2.1) : Int) (63 : Int)) < (256 : Int))) <|
   need (decide (List.length ([(27 : UInt8), (91 : UInt8)] ++ dig3 (UInt8.ofNat (Int.toNat (↑(UInt8.toNat p0.2.1) : Int))) ++ [(59 : UInt8)] ++ dig3 (UInt8.ofNat (Int.toNat (↑(UInt8.toNat p0.2.2.1) : Int)))) + List.length [UInt8.ofNat (Int.toNat (IntKind.wrap .u8 ((64 : Int) + Int.tmod (↑(UInt8.toNat p0.2.1) : Int) (63 : Int))))] ≤ (9223372036854775807 : Nat))) <|
   some [⟨.str, ([(27 : UInt8), (91 : UInt8)] ++ dig3 (UInt8.ofNat (Int.toNat (↑(UInt8.toNat p0.2.1) : Int))) ++ [(59 : UInt8)] ++ dig3 (UInt8.ofNat (Int.toNat (↑(UInt8.toNat p0.2.2.1) : Int))) ++ [UInt8.ofNat (Int.toNat (IntKind.wrap .u8 ((64 : Int) + Int.tmod (↑(UInt8.toNat p0.2.1) : Int) (63 : Int))))] : List UInt8)⟩]
  else
   bif (Int.tmod (↑(UInt8.toNat p0.1) : Int) (16 : Int) == (2 : Int)) then
    need (decide ((↑(UInt8.toNat p0.2.1) : Int) < (256 : Int))) <|
    need (decide ((3 : Nat) + List.length (dig3 (UInt8.ofNat (Int.toNat (↑(UInt8.toNat p0.2.1) : Int)))) ≤ (9223372036854775807 : Nat))) <|
    need (decide (List.length ([(27 : UInt8), (91 : UInt8), (63 : UInt8)] ++ dig3 (UInt8.ofNat (Int.toNat (↑(UInt8.toNat p0.2.1) : Int)))) + (1 : Nat) ≤ (9223372036854775807 : Nat))) <|
    some [⟨.str, ([(27 : UInt8), (91 : UInt8), (63 : UInt8)] ++ dig3 (UInt8.ofNat (Int.toNat (↑(UInt8.toNat p0.2.1) : Int))) ++ [(104 : UInt8)] : List UInt8)⟩]
   else
    bif (Int.tmod (↑(UInt8.toNat p0.1) : Int) (16 : Int) == (3 : Int)) then
     need (decide ((↑(UInt8.toNat p0.2.1) : Int) < (256 : Int))) <|
     need (decide ((2 : Nat) + List.length (dig3 (UInt8.ofNat (Int.toNat (↑(UInt8.toNat p0.2.1) : Int)))) ≤ (9223372036854775807 : Nat))) <|
     need (decide (List.length ([(27 : UInt8), (91 : UInt8)] ++ dig3 (UInt8.ofNat (Int.toNat (↑(UInt8.toNat p0.2.1) : Int)))) + (1 : Nat) ≤ (9223372036854775807 : Nat))) <|
     need (decide ((↑(UInt8.toNat p0.2.2.1) : Int) < (256 : Int))) <|
     need (decide (List.length ([(27 : UInt8), (91 : UInt8)] ++ dig3 (UInt8.ofNat (Int.toNat (↑(UInt8.toNat p0.2.1) : Int))) ++ [(58 : UInt8)]) + List.length (dig3 (UInt8.ofNat (Int.toNat (↑(UInt8.toNat p0.2.2.1) : Int)))) ≤ (9223372036854775807 : Nat))) <|
     need (decide (List.length ([(27 : UInt8), (91 : UInt8)] ++ dig3 (UInt8.ofNat (Int.toNat (↑(UInt8.toNat p0.2.1) : Int))) ++ [(58 : UInt8)] ++ dig3 (UInt8.ofNat (Int.toNat (↑(UInt8.toNat p0.2.2.1) : Int)))) + (1 : Nat) ≤ (9223372036854775807 : Nat))) <|
     need (decide (List.length ([(27 : UInt8), (91 : UInt8)] ++ dig3 (UInt8.ofNat (Int.toNat (↑(UInt8.toNat p0.2.1) : Int))) ++ [(58 : UInt8)] ++ dig3 (UInt8.ofNat (Int.toNat (↑(UInt8.toNat p0.2.2.1) : Int))) ++ [(36 : UInt8)]) + List.length [UInt8.ofNat (Int.toNat (↑(UInt8.toNat p0.2.2.1) : Int))] ≤ (9223372036854775807 : Nat))) <|
     some [⟨.str, ([(27 : UInt8), (91 : UInt8)] ++ dig3 (UInt8.ofNat (Int.toNat (↑(UInt8.toNat p0.2.1) : Int))) ++ [(58 : UInt8)] ++ dig3 (UInt8.ofNat (Int.toNat (↑(UInt8.toNat p0.2.2.1) : Int))) ++ [(36 : UInt8)] ++ [UInt8.ofNat (Int.toNat (↑(UInt8.toNat p0.2.2.1) : Int))] : List UInt8)⟩]
    else
     bif (Int.tmod (↑(UInt8.toNat p0.1) : Int) (16 : Int) == (4 : Int)) then
      need (decide (Int.tmod (↑(UInt8.toNat p0.2.1) : Int) (20 : Int) < (256 : Int))) <|
      need (decide ((2 : Nat) + List.length (dig3 (UInt8.ofNat (Int.toNat (Int.tmod (↑(UInt8.toNat p0.2.1) : Int) (20 : Int))))) ≤ (9223372036854775807 : Nat))) <|
      need (decide (List.length ([(27 : UInt8), (93 : UInt8)] ++ dig3 (UInt8.ofNat (Int.toNat (Int.tmod (↑(UInt8.toNat p0.2.1) : Int) (20 : Int))))) + (1 : Nat) ≤ (9223372036854775807 : Nat))) <|
      need (decide (List.length ([(27 : UInt8), (93 : UInt8)] ++ dig3 (UInt8.ofNat (Int.toNat (Int.tmod (↑(UInt8.toNat p0.2.1) : Int) (20 : Int)))) ++ [(59 : UInt8)]) + List.length (List.take (Int.toNat (if (12 : Int) < (↑(List.length p0.2.2.2.1) : Int) then (12 : Int) else (↑(List.length p0.2.2.2.1) : Int))) p0.2.2.2.1) ≤ (9223372036854775807 : Nat))) <|
      need (decide (List.length ([(27 : UInt8), (93 : UInt8)] ++ dig3 (UInt8.ofNat (Int.toNat (Int.tmod (↑(UInt8.toNat p0.2.1) : Int) (20 : Int)))) ++ [(59 : UInt8)] ++ List.take (Int.toNat (if (12 : Int) < (↑(List.length p0.2.2.2.1) : Int) then (12 : Int) else (↑(List.length p0.2.2.2.1) : Int))) p0.2.2.2.1) + (1 : Nat) ≤ (9223372036854775807 : Nat))) <|
      some [⟨.str, ([(27 : UInt8), (93 : UInt8)] ++ dig3 (UInt8.ofNat (Int.toNat (Int.tmod (↑(UInt8.toNat p0.2.1) : Int) (20 : Int)))) ++ [(59 : UInt8)] ++ List.take (Int.toNat (if (12 : Int) < (↑(List.length p0.2.2.2.1) : Int) then (12 : Int) else (↑(List.length p0.2.2.2.1) : Int))) p0.2.2.2.1 ++ [(7 : UInt8)] : List UInt8)⟩]
     else
      bif (Int.tmod (↑(UInt8.toNat p0.1) : Int) (16 : Int) == (5 : Int)) then
       need (decide ((↑(UInt8.toNat p0.2.1) : Int) < (256 : Int))) <|
       need (decide ((2 : Nat) + List.length (dig3 (UInt8.ofNat (Int.toNat (↑(UInt8.toNat p0.2.1) : Int)))) ≤ (9223372036854775807 : Nat))) <|
       need (decide (List.length ([(27 : UInt8), (80 : UInt8)] ++ dig3 (UInt8.ofNat (Int.toNat (↑(UInt8.toNat p0.2.1) : Int)))) + (2 : Nat) ≤ (9223372036854775807 : Nat))) <|
       need (decide (List.length ([(27 : UInt8), (80 : UInt8)] ++ dig3 (UInt8.ofNat (Int.toNat (↑(UInt8.toNat p0.2.1) : Int))) ++ [(36 : UInt8), (113 : UInt8)]) + List.length (List.take (Int.toNat (if (12 : Int) < (↑(List.length p0.2.2.2.1) : Int) then (12 : Int) else (↑(List.length p0.2.2.2.1) : Int))) p0.2.2.2.1) ≤ (9223372036854775807 : Nat))) <|
       need (decide (List.length ([(27 : UInt8), (80 : UInt8)] ++ dig3 (UInt8.ofNat (Int.toNat (↑(UInt8.toNat p0.2.1) : Int))) ++ [(36 : UInt8), (113 : UInt8)] ++ List.take (Int.toNat (if (12 : Int) < (↑(List.length p0.2.2.2.1) : Int) then (12 : Int) else (↑(List.length p0.2.2.2.1) : Int))) p0.2.2.2.1) + (2 : Nat) ≤ (9223372036854775807 : Nat))) <|
       some [⟨.str, ([(27 : UInt8), (80 : UInt8)] ++ dig3 (UInt8.ofNat (Int.toNat (↑(UInt8.toNat p0.2.1) : Int))) ++ [(36 : UInt8), (113 : UInt8)] ++ List.take (Int.toNat (if (12 : Int) < (↑(List.length p0.2.2.2.1) : Int) then (12 : Int) else (↑(List.length p0.2.2.2.1) : Int))) p0.2.2.2.1 ++ [(27 : UInt8), (92 : UInt8)] : List UInt8)⟩]
      else
       bif (Int.tmod (↑(UInt8.toNat p0.1) : Int) (16 : Int) == (6 : Int)) then
        need (decide (IntKind.wrap .u8 ((32 : Int) + Int.tmod (↑(UInt8.toNat p0.2.1) : Int) (95 : Int)) < (256 : Int))) <|
        some [⟨.str, ([(27 : UInt8)] ++ [UInt8.ofNat (Int.toNat (IntKind.wrap .u8 ((32 : Int) + Int.tmod (↑(UInt8.toNat p0.2.1) : Int) (95 : Int))))] : List UInt8)⟩]
       else
        bif (Int.tmod (↑(UInt8.toNat p0.1) : Int) (16 : Int) == (7 : Int)) then
         some [⟨.str, ([(27 : UInt8), (40 : UInt8)] ++ [UInt8.ofNat (Int.toNat (↑(UInt8.toNat p0.2.2.1) : Int))] : List UInt8)⟩]
        else
         bif (Int.tmod (↑(UInt8.toNat p0.1) : Int) (16 : Int) == (8 : Int)) then
          bif (decide (Int.tmod (↑(UInt8.toNat p0.2.1) : Int) (10 : Int) = (0 : Int))) then
           some [⟨.str, ([(24 : UInt8)] : List UInt8)⟩]
          else
           bif (decide (Int.tmod (↑(UInt8.toNat p0.2.1) : Int) (10 : Int) = (1 : Int))) then
            some [⟨.str, ([(26 : UInt8)] : List UInt8)⟩]
           else
            bif (decide (Int.tmod (↑(UInt8.toNat p0.2.1) : Int) (10 : Int) = (2 : Int))) then
             some [⟨.str, ([(27 : UInt8)] : List UInt8)⟩]
            else
             bif (decide (Int.tmod (↑(UInt8.toNat p0.2.1) : Int) (10 : Int) = (3 : Int))) then
              some [⟨.str, ([(7 : UInt8)] : List UInt8)⟩]
             else
              bif (decide (Int.tmod (↑(UInt8.toNat p0.2.1) : Int) (10 : Int) = (4 : Int))) then
               some [⟨.str, ([(127 : UInt8)] : List UInt8)⟩]
              else
               bif (decide (Int.tmod (↑(UInt8.toNat p0.2.1) : Int) (10 : Int) = (5 : Int))) then
                some [⟨.str, ([(13 : UInt8), (10 : UInt8)] : List UInt8)⟩]
               else
                bif (decide (Int.tmod (↑(UInt8.toNat p0.2.1) : Int) (10 : Int) = (6 : Int))) then
                 some [⟨.str, ([(27 : UInt8), (91 : UInt8)] : List UInt8)⟩]
                else
                 bif (decide (Int.tmod (↑(UInt8.toNat p0.2.1) : Int) (10 : Int) = (7 : Int))) then
                  some [⟨.str, ([(27 : UInt8), (93 : UInt8)] : List UInt8)⟩]
                 else
                  bif (decide (Int.tmod (↑(UInt8.toNat p0.2.1) : Int) (10 : Int) = (8 : Int))) then
                   some [⟨.str, ([(27 : UInt8), (80 : UInt8)] : List UInt8)⟩]
                  else
                   need (decide (Int.tmod (↑(UInt8.toNat p0.2.1) : Int) (10 : Int) = (9 : Int))) <|
                   some [⟨.str, ([(27 : UInt8), (88 : UInt8)] : List UInt8)⟩]
         else
          bif (Int.tmod (↑(UInt8.toNat p0.1) : Int) (16 : Int) == (9 : Int)) then
           bif (decide (Int.tmod (↑(UInt8.toNat p0.2.1) : Int) (8 : Int) = (0 : Int))) then
            some [⟨.str, ([(195 : UInt8), (169 : UInt8)] : List UInt8)⟩]
           else
            bif (decide (Int.tmod (↑(UInt8.toNat p0.2.1) : Int) (8 : Int) = (1 : Int))) then
             some [⟨.str, ([(228 : UInt8), (184 : UInt8), (173 : UInt8)] : List UInt8)⟩]
            else
             bif (decide (Int.tmod (↑(UInt8.toNat p0.2.1) : Int) (8 : Int) = (2 : Int))) then
              some [⟨.str, ([(228 : UInt8)] : List UInt8)⟩]
             else
              bif (decide (Int.tmod (↑(UInt8.toNat p0.2.1) : Int) (8 : Int) = (3 : Int))) then
               some [⟨.str, ([(184 : UInt8)] : List UInt8)⟩]
              else
               bif (decide (Int.tmod (↑(UInt8.toNat p0.2.1) : Int) (8 : Int) = (4 : Int))) then
                some [⟨.str, ([(173 : UInt8)] : List UInt8)⟩]
               else
                bif (decide (Int.tmod (↑(UInt8.toNat p0.2.1) : Int) (8 : Int) = (5 : Int))) then
                 some [⟨.str, ([(240 : UInt8), (159 : UInt8)] : List UInt8)⟩]
                else
                 bif (decide (Int.tmod (↑(UInt8.toNat p0.2.1) : Int) (8 : Int) = (6 : Int))) then
                  some [⟨.str, ([(194 : UInt8), (155 : UInt8)] : List UInt8)⟩]
                 else
                  need (decide (Int.tmod (↑(UInt8.toNat p0.2.1) : Int) (8 : Int) = (7 : Int))) <|
                  some [⟨.str, ([(255 : UInt8)] : List UInt8)⟩]
          else
           bif (Int.tmod (↑(UInt8.toNat p0.1) : Int) (16 : Int) == (10 : Int)) then
            need (decide ((2 : Nat) + List.length (List.take (Int.toNat (if (12 : Int) < (↑(List.length p0.2.2.2.1) : Int) then (12 : Int) else (↑(List.length p0.2.2.2.1) : Int))) p0.2.2.2.1) ≤ (9223372036854775807 : Nat))) <|
            need (decide (List.length ([(27 : UInt8), (95 : UInt8)] ++ List.take (Int.toNat (if (12 : Int) < (↑(List.length p0.2.2.2.1) : Int) then (12 : Int) else (↑(List.length p0.2.2.2.1) : Int))) p0.2.2.2.1) + (1 : Nat) ≤ (9223372036854775807 : Nat))) <|
            need (decide (List.length ([(27 : UInt8), (95 : UInt8)] ++ List.take (Int.toNat (if (12 : Int) < (↑(List.length p0.2.2.2.1) : Int) then (12 : Int) else (↑(List.length p0.2.2.2.1) : Int))) p0.2.2.2.1 ++ [(27 : UInt8)]) + List.length [UInt8.ofNat (Int.toNat (↑(UInt8.toNat p0.2.2.1) : Int))] ≤ (9223372036854775807 : Nat))) <|
            some [⟨.str, ([(27 : UInt8), (95 : UInt8)] ++ List.take (Int.toNat (if (12 : Int) < (↑(List.length p0.2.2.2.1) : Int) then (12 : Int) else (↑(List.length p0.2.2.2.1) : Int))) p0.2.2.2.1 ++ [(27 : UInt8)] ++ [UInt8.ofNat (Int.toNat (↑(UInt8.toNat p0.2.2.1) : Int))] : List UInt8)⟩]
           else
            bif (Int.tmod (↑(UInt8.toNat p0.1) : Int) (16 : Int) == (11 : Int)) then
             some [⟨.str, ([UInt8.ofNat (Int.toNat (↑(UInt8.toNat p0.2.2.1) : Int))] : List UInt8)⟩]
            else
             some [⟨.str, (List.take (Int.toNat (if (12 : Int) < (↑(List.length p0.2.2.2.1) : Int) then (12 : Int) else (↑(List.length p0.2.2.2.1) : Int))) p0.2.2.2.1 : List UInt8)⟩]
 else
  bif (Int.tmod (↑(UInt8.toNat p0.1) : Int) (16 : Int) == (1 : Int)) then
   need (decide ((↑(UInt8.toNat p0.2.1) : Int) < (256 : Int))) <|
   need (decide ((2 : Nat) + List.length (dig3 (UInt8.ofNat (Int.toNat (↑(UInt8.toNat p0.2.1) : Int)))) ≤ (9223372036854775807 : Nat))) <|
   need (decide (List.length ([(27 : UInt8), (91 : UInt8)] ++ dig3 (UInt8.ofNat (Int.toNat (↑(UInt8.toNat p0.2.1) : Int)))) + (1 : Nat) ≤ (9223372036854775807 : Nat))) <|
   need (decide ((↑(UInt8.toNat p0.2.2.1) : Int) < (256 : Int))) <|
   need (decide (List.length ([(27 : UInt8), (91 : UInt8)] ++ dig3 (UInt8.ofNat (Int.toNat (↑(UInt8.toNat p0.2.1) : Int))) ++ [(59 : UInt8)]) + List.length (dig3 (UInt8.ofNat (Int.toNat (↑(UInt8.toNat p0.2.2.1) : Int)))) ≤ (9223372036854775807 : Nat))) <|
   need (decide (IntKind.wrap .u8 ((64 : Int) + Int.tmod (↑(UInt8.toNat p0.2.1) : Int) (63 : Int)) < (256 : Int))) <|
   need (decide (List.length ([(27 : UInt8), (91 : UInt8)] ++ dig3 (UInt8.ofNat (Int.toNat (↑(UInt8.toNat p0.2.1) : Int))) ++ [(59 : UInt8)] ++ dig3 (UInt8.ofNat (Int.toNat (↑(UInt8.toNat p0.2.2.1) : Int)))) + List.length [UInt8.ofNat (Int.toNat (IntKind.wrap .u8 ((64 : Int) + Int.tmod (↑(UInt8.toNat p0.2.1) : Int) (63 : Int))))] ≤ (9223372036854775807 : Nat))) <|
   some [⟨.str, ([(27 : UInt8), (91 : UInt8)] ++ dig3 (UInt8.ofNat (Int.toNat (↑(UInt8.toNat p0.2.1) : Int))) ++ [(59 : UInt8)] ++ dig3 (UInt8.ofNat (Int.toNat (↑(UInt8.toNat p0.2.2.1) : Int))) ++ [UInt8.ofNat (Int.toNat (IntKind.wrap .u8 ((64 : Int) + Int.tmod (↑(UInt8.toNat p0.2.1) : Int) (63 : Int))))] : List UInt8)⟩]
  else
   bif (Int.tmod (↑(UInt8.toNat p0.1) : Int) (16 : Int) == (2 : Int)) then
    need (decide ((↑(UInt8.toNat p0.2.1) : Int) < (256 : Int))) <|
    need (decide ((3 : Nat) + List.length (dig3 (UInt8.ofNat (Int.toNat (↑(UInt8.toNat p0.2.1) : Int)))) ≤ (9223372036854775807 : Nat))) <|
    need (decide (List.length ([(27 : UInt8), (91 : UInt8), (63 : UInt8)] ++ dig3 (UInt8.ofNat (Int.toNat (↑(UInt8.toNat p0.2.1) : Int)))) + (1 : Nat) ≤ (9223372036854775807 : Nat))) <|
    some [⟨.str, ([(27 : UInt8), (91 : UInt8), (63 : UInt8)] ++ dig3 (UInt8.ofNat (Int.toNat (↑(UInt8.toNat p0.2.1) : Int))) ++ [(104 : UInt8)] : List UInt8)⟩]
   else
    bif (Int.tmod (↑(UInt8.toNat p0.1) : Int) (16 : Int) == (3 : Int)) then
     need (decide ((↑(UInt8.toNat p0.2.1) : Int) < (256 : Int))) <|
     need (decide ((2 : Nat) + List.length (dig3 (UInt8.ofNat (Int.toNat (↑(UInt8.toNat p0.2.1) : Int)))) ≤ (9223372036854775807 : Nat))) <|
     need (decide (List.length ([(27 : UInt8), (91 : UInt8)] ++ dig3 (UInt8.ofNat (Int.toNat (↑(UInt8.toNat p0.2.1) : Int)))) + (1 : Nat) ≤ (9223372036854775807 : Nat))) <|
     need (decide ((↑(UInt8.toNat p0.2.2.1) : Int) < (256 : Int))) <|
     need (decide (List.length ([(27 : UInt8), (91 : UInt8)] ++ dig3 (UInt8.ofNat (Int.toNat (↑(UInt8.toNat p0.2.1) : Int))) ++ [(58 : UInt8)]) + List.length (dig3 (UInt8.ofNat (Int.toNat (↑(UInt8.toNat p0.2.2.1) : Int)))) ≤ (9223372036854775807 : Nat))) <|
     need (decide (List.length ([(27 : UInt8), (91 : UInt8)] ++ dig3 (UInt8.ofNat (Int.toNat (↑(UInt8.toNat p0.2.1) : Int))) ++ [(58 : UInt8)] ++ dig3 (UInt8.ofNat (Int.toNat (↑(UInt8.toNat p0.2.2.1) : Int)))) + (1 : Nat) ≤ (9223372036854775807 : Nat))) <|
     need (decide (List.length ([(27 : UInt8), (91 : UInt8)] ++ dig3 (UInt8.ofNat (Int.toNat (↑(UInt8.toNat p0.2.1) : Int))) ++ [(58 : UInt8)] ++ dig3 (UInt8.ofNat (Int.toNat (↑(UInt8.toNat p0.2.2.1) : Int))) ++ [(36 : UInt8)]) + List.length [UInt8.ofNat (Int.toNat (↑(UInt8.toNat p0.2.2.1) : Int))] ≤ (9223372036854775807 : Nat))) <|
     some [⟨.str, ([(27 : UInt8), (91 : UInt8)] ++ dig3 (UInt8.ofNat (Int.toNat (↑(UInt8.toNat p0.2.1) : Int))) ++ [(58 : UInt8)] ++ dig3 (UInt8.ofNat (Int.toNat (↑(UInt8.toNat p0.2.2.1) : Int))) ++ [(36 : UInt8)] ++ [UInt8.ofNat (Int.toNat (↑(UInt8.toNat p0.2.2.1) : Int))] : List UInt8)⟩]
    else
     bif (Int.tmod (↑(UInt8.toNat p0.1) : Int) (16 : Int) == (4 : Int)) then
      need (decide (Int.tmod (↑(UInt8.toNat p0.2.1) : Int) (20 : Int) < (256 : Int))) <|
      need (decide ((2 : Nat) + List.length (dig3 (UInt8.ofNat (Int.toNat (Int.tmod (↑(UInt8.toNat p0.2.1) : Int) (20 : Int))))) ≤ (9223372036854775807 : Nat))) <|
      need (decide (List.length ([(27 : UInt8), (93 : UInt8)] ++ dig3 (UInt8.ofNat (Int.toNat (Int.tmod (↑(UInt8.toNat p0.2.1) : Int) (20 : Int))))) + (1 : Nat) ≤ (9223372036854775807 : Nat))) <|
      need (decide (List.length ([(27 : UInt8), (93 : UInt8)] ++ dig3 (UInt8.ofNat (Int.toNat (Int.tmod (↑(UInt8.toNat p0.2.1) : Int) (20 : Int)))) ++ [(59 : UInt8)]) + List.length (List.take (Int.toNat (if (12 : Int) < (↑(List.length p0.2.2.2.1) : Int) then (12 : Int) else (↑(List.length p0.2.2.2.1) : Int))) p0.2.2.2.1) ≤ (9223372036854775807 : Nat))) <|
      need (decide (List.length ([(27 : UInt8), (93 : UInt8)] ++ dig3 (UInt8.ofNat (Int.toNat (Int.tmod (↑(UInt8.toNat p0.2.1) : Int) (20 : Int)))) ++ [(59 : UInt8)] ++ List.take (Int.toNat (if (12 : Int) < (↑(List.length p0.2.2.2.1) : Int) then (12 : Int) else (↑(List.length p0.2.2.2.1) : Int))) p0.2.2.2.1) + (1 : Nat) ≤ (9223372036854775807 : Nat))) <|
      some [⟨.str, ([(27 : UInt8), (93 : UInt8)] ++ dig3 (UInt8.ofNat (Int.toNat (Int.tmod (↑(UInt8.toNat p0.2.1) : Int) (20 : Int)))) ++ [(59 : UInt8)] ++ List.take (Int.toNat (if (12 : Int) < (↑(List.length p0.2.2.2.1) : Int) then (12 : Int) else (↑(List.length p0.2.2.2.1) : Int))) p0.2.2.2.1 ++ [(7 : UInt8)] : List UInt8)⟩]
     else
      bif (Int.tmod (↑(UInt8.toNat p0.1) : Int) (16 : Int) == (5 : Int)) then
       need (decide ((↑(UInt8.toNat p0.2.1) : Int) < (256 : Int))) <|
       need (decide ((2 : Nat) + List.length (dig3 (UInt8.ofNat (Int.toNat (↑(UInt8.toNat p0.2.1) : Int)))) ≤ (9223372036854775807 : Nat))) <|
       need (decide (List.length ([(27 : UInt8), (80 : UInt8)] ++ dig3 (UInt8.ofNat (Int.toNat (↑(UInt8.toNat p0.2.1) : Int)))) + (2 : Nat) ≤ (9223372036854775807 : Nat))) <|
       need (decide (List.length ([(27 : UInt8), (80 : UInt8)] ++ dig3 (UInt8.ofNat (Int.toNat (↑(UInt8.toNat p0.2.1) : Int))) ++ [(36 : UInt8), (113 : UInt8)]) + List.length (List.take (Int.toNat (if (12 : Int) < (↑(List.length p0.2.2.2.1) : Int) then (12 : Int) else (↑(List.length p0.2.2.2.1) : Int))) p0.2.2.2.1) ≤ (9223372036854775807 : Nat))) <|
       need (decide (List.length ([(27 : UInt8), (80 : UInt8)] ++ dig3 (UInt8.ofNat (Int.toNat (↑(UInt8.toNat p0.2.1) : Int))) ++ [(36 : UInt8), (113 : UInt8)] ++ List.take (Int.toNat (if (12 : Int) < (↑(List.length p0.2.2.2.1) : Int) then (12 : Int) else (↑(List.length p0.2.2.2.1) : Int))) p0.2.2.2.1) + (2 : Nat) ≤ (9223372036854775807 : Nat))) <|
       some [⟨.str, ([(27 : UInt8), (80 : UInt8)] ++ dig3 (UInt8.ofNat (Int.toNat (↑(UInt8.toNat p0.2.1) : Int))) ++ [(36 : UInt8), (113 : UInt8)] ++ List.take (Int.toNat (if (12 : Int) < (↑(List.length p0.2.2.2.1) : Int) then (12 : Int) else (↑(List.length p0.2.2.2.1) : Int))) p0.2.2.2.1 ++ [(27 : UInt8), (92 : UInt8)] : List UInt8)⟩]
      else
       bif (Int.tmod (↑(UInt8.toNat p0.1) : Int) (16 : Int) == (6 : Int)) then
        need (decide (IntKind.wrap .u8 ((32 : Int) + Int.tmod (↑(UInt8.toNat p0.2.1) : Int) (95 : Int)) < (256 : Int))) <|
        some [⟨.str, ([(27 : UInt8)] ++ [UInt8.ofNat (Int.toNat (IntKind.wrap .u8 ((32 : Int) + Int.tmod (↑(UInt8.toNat p0.2.1) : Int) (95 : Int))))] : List UInt8)⟩]
       else
        bif (Int.tmod (↑(UInt8.toNat p0.1) : Int) (16 : Int) == (7 : Int)) then
         some [⟨.str, ([(27 : UInt8), (40 : UInt8)] ++ [UInt8.ofNat (Int.toNat (↑(UInt8.toNat p0.2.2.1) : Int))] : List UInt8)⟩]
        else
         bif (Int.tmod (↑(UInt8.toNat p0.1) : Int) (16 : Int) == (8 : Int)) then
          bif (decide (Int.tmod (↑(UInt8.toNat p0.2.1) : Int) (10 : Int) = (0 : Int))) then
           some [⟨.str, ([(24 : UInt8)] : List UInt8)⟩]
          else
           bif (decide (Int.tmod (↑(UInt8.toNat p0.2.1) : Int) (10 : Int) = (1 : Int))) then
            some [⟨.str, ([(26 : UInt8)] : List UInt8)⟩]
           else
            bif (decide (Int.tmod (↑(UInt8.toNat p0.2.1) : Int) (10 : Int) = (2 : Int))) then
             some [⟨.str, ([(27 : UInt8)] : List UInt8)⟩]
            else
             bif (decide (Int.tmod (↑(UInt8.toNat p0.2.1) : Int) (10 : Int) = (3 : Int))) then
              some [⟨.str, ([(7 : UInt8)] : List UInt8)⟩]
             else
              bif (decide (Int.tmod (↑(UInt8.toNat p0.2.1) : Int) (10 : Int) = (4 : Int))) then
               some [⟨.str, ([(127 : UInt8)] : List UInt8)⟩]
              else
               bif (decide (Int.tmod (↑(UInt8.toNat p0.2.1) : Int) (10 : Int) = (5 : Int))) then
                some [⟨.str, ([(13 : UInt8), (10 : UInt8)] : List UInt8)⟩]
               else
                bif (decide (Int.tmod (↑(UInt8.toNat p0.2.1) : Int) (10 : Int) = (6 : Int))) then
                 some [⟨.str, ([(27 : UInt8), (91 : UInt8)] : List UInt8)⟩]
                else
                 bif (decide (Int.tmod (↑(UInt8.toNat p0.2.1) : Int) (10 : Int) = (7 : Int))) then
                  some [⟨.str, ([(27 : UInt8), (93 : UInt8)] : List UInt8)⟩]
                 else
                  bif (decide (Int.tmod (↑(UInt8.toNat p0.2.1) : Int) (10 : Int) = (8 : Int))) then
                   some [⟨.str, ([(27 : UInt8), (80 : UInt8)] : List UInt8)⟩]
                  else
                   need (decide (Int.tmod (↑(UInt8.toNat p0.2.1) : Int) (10 : Int) = (9 : Int))) <|
                   some [⟨.str, ([(27 : UInt8), (88 : UInt8)] : List UInt8)⟩]
         else
          bif (Int.tmod (↑(UInt8.toNat p0.1) : Int) (16 : Int) == (9 : Int)) then
           bif (decide (Int.tmod (↑(UInt8.toNat p0.2.1) : Int) (8 : Int) = (0 : Int))) then
            some [⟨.str, ([(195 : UInt8), (169 : UInt8)] : List UInt8)⟩]
           else
            bif (decide (Int.tmod (↑(UInt8.toNat p0.2.1) : Int) (8 : Int) = (1 : Int))) then
             some [⟨.str, ([(228 : UInt8), (184 : UInt8), (173 : UInt8)] : List UInt8)⟩]
            else
             bif (decide (Int.tmod (↑(UInt8.toNat p0.2.1) : Int) (8 : Int) = (2 : Int))) then
              some [⟨.str, ([(228 : UInt8)] : List UInt8)⟩]
             else
              bif (decide (Int.tmod (↑(UInt8.toNat p0.2.1) : Int) (8 : Int) = (3 : Int))) then
               some [⟨.str, ([(184 : UInt8)] : List UInt8)⟩]
              else
               bif (decide (Int.tmod (↑(UInt8.toNat p0.2.1) : Int) (8 : Int) = (4 : Int))) then
                some [⟨.str, ([(173 : UInt8)] : List UInt8)⟩]
               else
                bif (decide (Int.tmod (↑(UInt8.toNat p0.2.1) : Int) (8 : Int) = (5 : Int))) then
                 some [⟨.str, ([(240 : UInt8), (159 : UInt8)] : List UInt8)⟩]
                else
                 bif (decide (Int.tmod (↑(UInt8.toNat p0.2.1) : Int) (8 : Int) = (6 : Int))) then
                  some [⟨.str, ([(194 : UInt8), (155 : UInt8)] : List UInt8)⟩]
                 else
                  need (decide (Int.tmod (↑(UInt8.toNat p0.2.1) : Int) (8 : Int) = (7 : Int))) <|
                  some [⟨.str, ([(255 : UInt8)] : List UInt8)⟩]
          else
           bif (Int.tmod (↑(UInt8.toNat p0.1) : Int) (16 : Int) == (10 : Int)) then
            need (decide ((2 : Nat) + List.length (List.take (Int.toNat (if (12 : Int) < (↑(List.length p0.2.2.2.1) : Int) then (12 : Int) else (↑(List.length p0.2.2.2.1) : Int))) p0.2.2.2.1) ≤ (9223372036854775807 : Nat))) <|
            need (decide (List.length ([(27 : UInt8), (95 : UInt8)] ++ List.take (Int.toNat (if (12 : Int) < (↑(List.length p0.2.2.2.1) : Int) then (12 : Int) else (↑(List.length p0.2.2.2.1) : Int))) p0.2.2.2.1) + (1 : Nat) ≤ (9223372036854775807 : Nat))) <|
            need (decide (List.length ([(27 : UInt8), (95 : UInt8)] ++ List.take (Int.toNat (if (12 : Int) < (↑(List.length p0.2.2.2.1) : Int) then (12 : Int) else (↑(List.length p0.2.2.2.1) : Int))) p0.2.2.2.1 ++ [(27 : UInt8)]) + List.length [UInt8.ofNat (Int.toNat (↑(UInt8.toNat p0.2.2.1) : Int))] ≤ (9223372036854775807 : Nat))) <|
            some [⟨.str, ([(27 : UInt8), (95 : UInt8)] ++ List.take (Int.toNat (if (12 : Int) < (↑(List.length p0.2.2.2.1) : Int) then (12 : Int) else (↑(List.length p0.2.2.2.1) : Int))) p0.2.2.2.1 ++ [(27 : UInt8)] ++ [UInt8.ofNat (Int.toNat (↑(UInt8.toNat p0.2.2.1) : Int))] : List UInt8)⟩]
           else
            bif (Int.tmod (↑(UInt8.toNat p0.1) : Int) (16 : Int) == (11 : Int)) then
             some [⟨.str, ([UInt8.ofNat (Int.toNat (↑(UInt8.toNat p0.2.2.1) : Int))] : List UInt8)⟩]
            else
             some [⟨.str, (List.take (Int.toNat (if (12 : Int) < (↑(List.length p0.2.2.2.1) : Int) then (12 : Int) else (↑(List.length p0.2.2.2.1) : Int))) p0.2.2.2.1 : List UInt8)⟩]) := by kernel_rfl

end Go.Proofs.Ytfdhkpfkdcdloaa

namespace Go.Proofs.Ytfdhkpfkdcdloaa
open Go Go.Am
abbrev pcTy : Ty := .pair .byte (.pair .byte (.pair .byte (.pair .str .unit)))
def Fits (N : Nat) (r : Option (List Dy)) : Prop := ∃ s : List UInt8, r = some [⟨.str, s⟩] ∧ s.length ≤ N
theorem fits_need {N : Nat} {b : Bool} {x : Option (List Dy)} (h : b = true) (hx : Fits N x) : Fits N (need b x) := by rw [h]; exact hx
theorem fits_bif {N : Nat} {b : Bool} {x y : Option (List Dy)} (hx : b = true → Fits N x) (hy : b = false → Fits N y) : Fits N (bif b then x else y) := by
 cases b with
 | true => exact hx rfl
 | false => exact hy rfl
theorem fits_some {N : Nat} {s : List UInt8} (h : s.length ≤ N) : Fits N (some [⟨.str, s⟩]) := ⟨s, rfl, h⟩
theorem te_fits (p : pcTy.den) : Fits 64 (fnY STe loopY [.hole pcTy] [.str] 0 23 [⟨pcTy, p⟩]) := by
 obtain ⟨a, b, c, s, u⟩ := p
 rw [Te_fn]
 simp only [u8_b2]
 have ha := u8_lt a
 have hb := u8_lt b
 have hc := u8_lt c
 have t16 : 0 ≤ Int.tmod (a.toNat : Int) 16 ∧ Int.tmod (a.toNat : Int) 16 < 16 := by rw [Int.tmod_eq_emod_of_nonneg (by omega)]; omega
 have t10 : 0 ≤ Int.tmod (b.toNat : Int) 10 ∧ Int.tmod (b.toNat : Int) 10 < 10 := by rw [Int.tmod_eq_emod_of_nonneg (by omega)]; omega
 have t8 : 0 ≤ Int.tmod (b.toNat : Int) 8 ∧ Int.tmod (b.toNat : Int) 8 < 8 := by rw [Int.tmod_eq_emod_of_nonneg (by omega)]; omega
 have t20 : 0 ≤ Int.tmod (b.toNat : Int) 20 ∧ Int.tmod (b.toNat : Int) 20 < 20 := by rw [Int.tmod_eq_emod_of_nonneg (by omega)]; omega
 have dA := dig3_len b
 have dB := dig3_len c
 have dC := dig3_len (UInt8.ofNat (Int.toNat (Int.tmod (b.toNat : Int) 20)))
 have w1 := w8_lt (64 + Int.tmod (b.toNat : Int) 63)
 have w2 := w8_lt (32 + Int.tmod (b.toNat : Int) 95)
 obtain ⟨K, hK⟩ : ∃ K : Int, (if (12 : Int) < (s.length : Int) then (12 : Int) else (s.length : Int)) = K := ⟨_, rfl⟩
 have hK1 : 0 ≤ K ∧ K ≤ 12 ∧ K ≤ s.length := by
  rw [← hK]
  split <;> omega
 rw [hK]
 have hS : (s.take (K.toNat - 0)).length ≤ 12 := by rw [List.length_take]; omega
 have hS2 : (s.take K.toNat).length ≤ 12 := by rw [List.length_take]; omega
 repeat' first
  | refine fits_need ?_ ?_
  | refine fits_bif (fun _ => ?_) (fun _ => ?_)
  | refine fits_some ?_
 all_goals first
  | exact decide_eq_true (by omega)
  | exact decide_eq_true (by simp only [List.length_append, List.length_cons, List.length_nil]; omega)
  | (simp only [List.length_append, List.length_cons, List.length_nil]; omega)
  | exact Nat.le_trans hS2 (by omega)
  | (rename_i g0 g1 g2 g3 g4 g5 g6 g7 g8; have k0 := of_decide_eq_false g0; have k1 := of_decide_eq_false g1; have k2 := of_decide_eq_false g2; have k3 := of_decide_eq_false g3; have k4 := of_decide_eq_false g4; have k5 := of_decide_eq_false g5; have k6 := of_decide_eq_false g6; have k7 := of_decide_eq_false g7; have k8 := of_decide_eq_false g8; exact decide_eq_true (by omega))
  | (rename_i g0 g1 g2 g3 g4 g5 g6; have k0 := of_decide_eq_false g0; have k1 := of_decide_eq_false g1; have k2 := of_decide_eq_false g2; have k3 := of_decide_eq_false g3; have k4 := of_decide_eq_false g4; have k5 := of_decide_eq_false g5; have k6 := of_decide_eq_false g6; exact decide_eq_true (by omega))
noncomputable def textF (p : pcTy.den) : List UInt8 := (te_fits p).choose
theorem textF_len (p : pcTy.den) : (textF p).length ≤ 64 := (te_fits p).choose_spec.2
noncomputable def cTe : Ctr := ctr1 pcTy [.str] (fun (_ : pcTy.den) => []) fun (p : pcTy.den) => [⟨.str, textF p⟩]
theorem cTe_ok : CtrOk EP 23 cTe := ctr1_ok (S := STe) (t := pcTy) (S_ok c7_ok m17_ok) (fun _ => rfl) rfl fun (p : pcTy.den) _ => ⟨0, (te_fits p).choose_spec.1⟩
noncomputable def c8 : FuncId → List Ctr := addCtr c7 23 cTe
theorem c8_ok : ∀ g ct, ct ∈ c8 g → CtrOk EP g ct := addCtr_ok c7_ok cTe_ok
end Go.Proofs.Ytfdhkpfkdcdloaa

namespace Go.Proofs.Ytfdhkpfkdcdloaa
open Go Go.Am
set_option linter.unusedVariables false
def Ma_T0 : Tm := { tmps := [(4, (.hole (.int .i64))), (3, (.hole .str)), (0, (.hole (.list 47 (.pair .byte (.pair .byte (.pair .byte (.pair .str .unit)))))))], objs := [] }
def tmMa : FuncId → Nat → Option Tm := fun g i => match Nat.beq g 8 with
 | true => match Nat.beq i 0 with | true => some Ma_T0 | false => none
 | false => none
noncomputable def SMa : SE := { E := EP, ctr := c8, tm := tmMa, un := 300, ctrM := m17 }
theorem Ma_L0 (n : Nat) (nx : Nat → List Dy → Option (List Dy)) (m : Nat) (n0 : Int) (s1 : List UInt8) (l2 : List (UInt8 × UInt8 × UInt8 × List UInt8 × PUnit)) :
 RL SMa [.str] n 8 0 nx (m + 1) [⟨(.int .i64), n0⟩, ⟨.str, s1⟩, ⟨(.list 47 (.pair .byte (.pair .byte (.pair .byte (.pair .str .unit))))), l2⟩] =
 (bif (decide (n0 < (↑(List.length l2) : Int)) && decide (n0 < (60 : Int))) then
  need (decide ((0 : Int) ≤ n0)) <|
  need (decide (n0 < (↑(List.length l2) : Int))) <|
  need (decide (Int.toNat n0 < List.length l2)) <|
  need (decide ((↑(UInt8.toNat (Prod.fst (List.getD l2 (Int.toNat n0) (UInt8.ofNat (0 : Nat), UInt8.ofNat (0 : Nat), UInt8.ofNat (0 : Nat), [], PUnit.unit)))) : Int) < (256 : Int))) <|
  need (decide ((↑(UInt8.toNat (Prod.fst (Prod.snd (List.getD l2 (Int.toNat n0) (UInt8.ofNat (0 : Nat), UInt8.ofNat (0 : Nat), UInt8.ofNat (0 : Nat), [], PUnit.unit))))) : Int) < (256 : Int))) <|
  need (decide ((↑(UInt8.toNat (Prod.fst (Prod.snd (Prod.snd (List.getD l2 (Int.toNat n0) (UInt8.ofNat (0 : Nat), UInt8.ofNat (0 : Nat), UInt8.ofNat (0 : Nat), [], PUnit.unit)))))) : Int) < (256 : Int))) <|
  need (decide (List.length s1 + List.length (textF (UInt8.ofNat (Int.toNat (↑(UInt8.toNat (Prod.fst (List.getD l2 (Int.toNat n0) (UInt8.ofNat (0 : Nat), UInt8.ofNat (0 : Nat), UInt8.ofNat (0 : Nat), [], PUnit.unit)))) : Int)), UInt8.ofNat (Int.toNat (↑(UInt8.toNat (Prod.fst (Prod.snd (List.getD l2 (Int.toNat n0) (UInt8.ofNat (0 : Nat), UInt8.ofNat (0 : Nat), UInt8.ofNat (0 : Nat), [], PUnit.unit))))) : Int)), UInt8.ofNat (Int.toNat (↑(UInt8.toNat (Prod.fst (Prod.snd (Prod.snd (List.getD l2 (Int.toNat n0) (UInt8.ofNat (0 : Nat), UInt8.ofNat (0 : Nat), UInt8.ofNat (0 : Nat), [], PUnit.unit)))))) : Int)), Prod.snd (Prod.snd (Prod.snd (List.getD l2 (Int.toNat n0) (UInt8.ofNat (0 : Nat), UInt8.ofNat (0 : Nat), UInt8.ofNat (0 : Nat), [], PUnit.unit)))))) ≤ (9223372036854775807 : Nat))) <|
  RL SMa [.str] n 8 0 nx m [⟨(.int .i64), (IntKind.wrap .i64 (n0 + (1 : Int)) : Int)⟩, ⟨.str, (s1 ++ textF (UInt8.ofNat (Int.toNat (↑(UInt8.toNat (Prod.fst (List.getD l2 (Int.toNat n0) (UInt8.ofNat (0 : Nat), UInt8.ofNat (0 : Nat), UInt8.ofNat (0 : Nat), [], PUnit.unit)))) : Int)), UInt8.ofNat (Int.toNat (↑(UInt8.toNat (Prod.fst (Prod.snd (List.getD l2 (Int.toNat n0) (UInt8.ofNat (0 : Nat), UInt8.ofNat (0 : Nat), UInt8.ofNat (0 : Nat), [], PUnit.unit))))) : Int)), UInt8.ofNat (Int.toNat (↑(UInt8.toNat (Prod.fst (Prod.snd (Prod.snd (List.getD l2 (Int.toNat n0) (UInt8.ofNat (0 : Nat), UInt8.ofNat (0 : Nat), UInt8.ofNat (0 : Nat), [], PUnit.unit)))))) : Int)), Prod.snd (Prod.snd (Prod.snd (List.getD l2 (Int.toNat n0) (UInt8.ofNat (0 : Nat), UInt8.ofNat (0 : Nat), UInt8.ofNat (0 : Nat), [], PUnit.unit))))) : List UInt8)⟩, ⟨(.list 47 (.pair .byte (.pair .byte (.pair .byte (.pair .str .unit))))), (l2 : List (UInt8 × UInt8 × UInt8 × List UInt8 × PUnit))⟩]
 else
  some [⟨.str, (s1 : List UInt8)⟩]) := by kernel_rfl
theorem Ma_fn (n : Nat) (l0 : List (UInt8 × UInt8 × UInt8 × List UInt8 × PUnit)) :
 fnY SMa loopY [(.hole (.list 47 (.pair .byte (.pair .byte (.pair .byte (.pair .str .unit))))))] [.str] n 8 [⟨(.list 47 (.pair .byte (.pair .byte (.pair .byte (.pair .str .unit))))), l0⟩] =
 (RL SMa [.str] n 8 0 noNx n [⟨(.int .i64), ((0 : Int) : Int)⟩, ⟨.str, ([] : List UInt8)⟩, ⟨(.list 47 (.pair .byte (.pair .byte (.pair .byte (.pair .str .unit))))), (l0 : List (UInt8 × UInt8 × UInt8 × List UInt8 × PUnit))⟩]) := by kernel_rfl

end Go.Proofs.Ytfdhkpfkdcdloaa

namespace Go.Proofs.Ytfdhkpfkdcdloaa
open Go Go.Am
abbrev Pc := pcTy.den
noncomputable def madeF (l : List Pc) : List UInt8 := (l.take 60).flatMap textF
abbrev pc0 : Pc := (UInt8.ofNat 0, UInt8.ofNat 0, UInt8.ofNat 0, [], PUnit.unit)
theorem madeF_len (l : List Pc) : (madeF l).length ≤ 3840 := by
 unfold madeF
 have : ∀ (r : List Pc), (r.flatMap textF).length ≤ 64 * r.length := by
  intro r
  induction r with
  | nil => simp
  | cons a r ih =>
   have := textF_len a
   simp only [List.flatMap_cons, List.length_append, List.length_cons]
   omega
 have h1 := this (l.take 60)
 have h2 : (l.take 60).length ≤ 60 := List.length_take_le _ _
 omega
theorem u8_lt2 (b : UInt8) : (b.toNat : Int) < 256 := by have := u8_lt b; omega
theorem ub8 (b : UInt8) : decide ((b.toNat : Int) < 256) = true := decide_eq_true (u8_lt2 b)
theorem ma_loop (n : Nat) (l : List Pc) : ∀ (m i : Nat) (s : List UInt8), i ≤ 60 → i ≤ l.length → 60 < i + m → s = (l.take i).flatMap textF → s.length ≤ 64 * i →
 RL SMa [.str] n 8 0 noNx m [⟨.int .i64, (i : Int)⟩, ⟨.str, s⟩, ⟨.list 47 pcTy, l⟩] = some [⟨.str, madeF l⟩]
 | 0, i, s, h1, _, h2, _, _ => by omega
 | m + 1, i, s, h1, hil, h2, h3, h4 => by
  refine (Ma_L0 n noNx m i s l).trans ?_
  by_cases hi : i < l.length ∧ i < 60
  ·rw [Int.toNat_natCast]
   simp only [u8_b2]
   have q4 := textF_len (l.getD i pc0)
   refine bp (by simp only [Bool.and_eq_true, decide_eq_true_eq]; omega) (nd (by omega) (nd (by omega) (nd hi.1 (np (ub8 _) (np (ub8 _) (np (ub8 _) (nd ?_ ?_)))))))
   ·show s.length + (textF (l.getD i pc0)).length ≤ _
    omega
   ·rw [show IntKind.wrap .i64 ((i : Int) + 1) = ((i + 1 : Nat) : Int) by rw [w64 (by omega)]; omega]
    refine ma_loop n l m (i + 1) (s ++ textF (l.getD i pc0)) (by omega) (by omega) (by omega) ?_ (by rw [List.length_append]; omega)
    rw [List.take_succ_eq_append_getElem hi.1, List.flatMap_append, h3]
    simp only [List.flatMap_cons, List.flatMap_nil, List.append_nil]
    rw [List.getD_eq_getElem?_getD, List.getElem?_eq_getElem hi.1]
    rfl
  ·refine bn (by rw [← Bool.not_eq_true]; simp only [Bool.and_eq_true, decide_eq_true_eq]; omega) ?_
   have : s = madeF l := by
    rw [h3]
    unfold madeF
    by_cases e : i = 60
    ·rw [e]
    ·rw [List.take_of_length_le (show l.length ≤ i by omega), List.take_of_length_le (show l.length ≤ 60 by omega)]
   rw [this]
theorem ma_ok (l : List Pc) : ∃ n, fnY SMa loopY [.hole (.list 47 pcTy)] [.str] n 8 [⟨.list 47 pcTy, l⟩] = some [⟨.str, madeF l⟩] :=
 ⟨61, (Ma_fn 61 l).trans (ma_loop 61 l 61 0 [] (by omega) (by omega) (by omega) rfl (Nat.zero_le _))⟩
noncomputable def cMa : Ctr := ctr1 (.list 47 pcTy) [.str] (fun (_ : List Pc) => []) fun (l : List Pc) => [⟨.str, madeF l⟩]
theorem cMa_ok : CtrOk EP 8 cMa := ctr1_ok (S := SMa) (t := .list 47 pcTy) (S_ok c8_ok m17_ok) (fun _ => rfl) rfl fun (l : List Pc) _ => ma_ok l
noncomputable def c9 : FuncId → List Ctr := addCtr c8 8 cMa
theorem c9_ok : ∀ g ct, ct ∈ c9 g → CtrOk EP g ct := addCtr_ok c8_ok cMa_ok
end Go.Proofs.Ytfdhkpfkdcdloaa

namespace Go.Proofs.Ytfdhkpfkdcdloaa
open Go Go.Am
set_option linter.unusedVariables false
end Go.Proofs.Ytfdhkpfkdcdloaa

namespace Go.Proofs.Ytfdhkpfkdcdloaa
open Go Go.Am
end Go.Proofs.Ytfdhkpfkdcdloaa

namespace Go.Proofs.Ytfdhkpfkdcdloaa
open Go Go.Am
set_option linter.unusedVariables false
def Pb_pre : Tm := { tmps := [(0, .ptr 0 0), (1, .hole .str), (2, .hole .str)], objs := [.cells [.hole (.int .i32), .hole (.int .u8), .hole (.int .u8), .hole (.int .u8), .hole (.int .u8), .hole (.int .i64), .ptr 1 0, .hole (.int .u8), .h 2, .hole .bool, .hole (.int .u8), .h 3, .hole .bool, .hole .bool] 56 true, .row 71 (.int .i64) true, .lst 5 .byte true, .lst 5 .byte true] }
def Pb_post : Tm := { tmps := [(0, .hole (.list 41 tokTy))], objs := [.cells [.hole (.int .i32), .hole (.int .u8), .hole (.int .u8), .hole (.int .u8), .hole (.int .u8), .hole (.int .i64), .ptr 1 0, .hole (.int .u8), .h 2, .hole .bool, .hole (.int .u8), .h 3, .hole .bool, .hole .bool] 56 true, .row 71 (.int .i64) true, .lst 5 .byte true, .lst 5 .byte true] }
def tmPb : FuncId → Nat → Option Tm := fun g i => match Nat.beq g 18 with
 | true => none
 | false => none
noncomputable def SPb : SE := { E := EP, ctr := c9, tm := tmPb, un := 300, hold := [0, 1], ctrM := m17 }
theorem Pb_fn (n : Nat) (s : PS) (s14 : List UInt8) (s15 : List UInt8) :
 fnM SPb loopY Pb_pre Pb_post n 18 (psD0 s ++ [⟨.str, s14⟩, ⟨.str, s15⟩]) =
 (need (gP newS) <|
 need (decide (List.length (List.flatten [s14]) ≤ (1000000 : Nat))) <|
 need (gP (Prod.fst (feedS newS (List.flatten [s14])))) <|
 need (decide (List.length (List.flatten [s15]) ≤ (1000000 : Nat))) <|
 some (psD0 s ++ [⟨(.list 41 tokTy), (Prod.snd (feedS (Prod.fst (feedS newS (List.flatten [s14]))) (List.flatten [s15])) : List Tk)⟩])) := by kernel_rfl

end Go.Proofs.Ytfdhkpfkdcdloaa

namespace Go.Proofs.Ytfdhkpfkdcdloaa
open Go Go.Am
noncomputable def cPb : CtrM := { pre := Pb_pre, post := Pb_post, res := fun ds => match popP ds with
 | some (s, ds) => match popD .str ds with
  | some (a, ds) => match popD .str ds with
   | some (b, []) => some ([decide (a.length ≤ 1000000), decide (b.length ≤ 1000000)], psD0 s ++ [⟨.list 41 tokTy, (feedS (feedS newS a).1 b).2⟩])
   | _ => none
  | _ => none
 | none => none }
theorem pb_ok (s : PS) (a b : List UInt8) (ha : a.length ≤ 1000000) (hb : b.length ≤ 1000000) : fnM SPb loopY Pb_pre Pb_post 0 18 (psD0 s ++ [⟨.str, a⟩, ⟨.str, b⟩]) = some (psD0 s ++ [⟨.list 41 tokTy, (feedS (feedS newS a).1 b).2⟩]) := by
 refine (Pb_fn 0 s a b).trans ?_
 simp only [List.flatten_cons, List.flatten_nil, List.append_nil]
 exact np (gP_iff.2 PI.new) (nd ha (np (gP_iff.2 (feed_ok a PI.new).1) (nd hb rfl)))
theorem cPb_ok : CtrMOk EP 18 cPb := ctrM_ok (S := SPb) (S_ok c9_ok m17_ok) rfl rfl rfl rfl fun ds gs ds' hr hg => by
 simp only [cPb] at hr
 split at hr
 ·rename_i s ds h
  split at hr
  ·rename_i a ds h2
   split at hr
   ·rename_i b h3
    cases hr
    rw [popP_eq h, popD_eq h2, popD_eq h3]
    simp only [List.all_cons, id, Bool.and_eq_true, List.all_nil, decide_eq_true_eq] at hg
    exact ⟨0, pb_ok s a b hg.1 hg.2.1⟩
   ·cases hr
  ·cases hr
 ·cases hr
noncomputable def m18 : FuncId → List CtrM := addM m17 18 cPb
theorem m18_ok : ∀ g ct, ct ∈ m18 g → CtrMOk EP g ct := addM_ok m17_ok cPb_ok
def cN (cs : List UInt8) (i : Int) (r : List UInt8) : Int := Int.tmod (IntKind.wrap .i64 (↑(UInt8.toNat (List.getD cs (Int.toNat i) (UInt8.ofNat (0 : Nat)))) : Int)) (IntKind.wrap .i64 ((↑(List.length r) : Int) + (1 : Int)))
def hN (cs : List UInt8) (i : Int) (r : List UInt8) : Int := IntKind.wrap .i64 (Int.tdiv (cN cs i r) (2 : Int))
def psDC (w p : PS) (t : List Tk) (i : Int) (r : List UInt8) (want : List Tk) (s cs : List UInt8) : List Dy :=
 [⟨.list 71 (.int .i64), w.l⟩, ⟨.list 5 .byte, w.inter⟩, ⟨.list 5 .byte, w.data⟩, ⟨.list 71 (.int .i64), p.l⟩, ⟨.list 5 .byte, p.inter⟩, ⟨.list 5 .byte, p.data⟩, ⟨.list 41 tokTy, t⟩] ++ (psC w ++ (psC p ++ [⟨.int .i64, i⟩, ⟨.str, r⟩, ⟨.list 41 tokTy, want⟩, ⟨.str, s⟩, ⟨.list 5 .byte, cs⟩]))
end Go.Proofs.Ytfdhkpfkdcdloaa

namespace Go.Proofs.Ytfdhkpfkdcdloaa
open Go Go.Am
set_option linter.unusedVariables false
def PC_T0 : Tm := { tmps := [(11, (.hole (.int .i64))), (10, (.hole .str)), (9, .h 9), (8, (.ptr 6 0)), (7, (.hole (.list 41 tokTy))), (6, (.ptr 1 0)), (5, (.hole .str)), (1, (.hole (.list 5 .byte)))], objs := [.row 71 (.int .i64) true, .cells [(.hole (.int .i32)), (.hole (.int .u8)), (.hole (.int .u8)), (.hole (.int .u8)), (.hole (.int .u8)), (.hole (.int .i64)), (.ptr 0 0), (.hole (.int .u8)), (.h 2), (.hole .bool), (.hole (.int .u8)), (.h 3), (.hole .bool), (.hole .bool)] 56 true, .lst 5 .byte true, .lst 5 .byte true, .dead, .row 71 (.int .i64) true, .cells [(.hole (.int .i32)), (.hole (.int .u8)), (.hole (.int .u8)), (.hole (.int .u8)), (.hole (.int .u8)), (.hole (.int .i64)), (.ptr 5 0), (.hole (.int .u8)), (.h 7), (.hole .bool), (.hole (.int .u8)), (.h 8), (.hole .bool), (.hole .bool)] 56 true, .lst 5 .byte true, .lst 5 .byte true, .lst 41 tokTy true], prep := [(9, 41)], ren := true }
def tmPC : FuncId → Nat → Option Tm := fun g i => match Nat.beq g 5 with
 | true => match Nat.beq i 0 with | true => some PC_T0 | false => none
 | false => none
noncomputable def SPC : SE := { E := EP, ctr := c9, tm := tmPC, un := 300, ctrM := m18 }
theorem PC_L0 (n : Nat) (nx : Nat → List Dy → Option (List Dy)) (m : Nat) (w : PS) (p : PS) (t : List Tk) (n29 : Int) (s30 : List UInt8) (l31 : List Tk) (s32 : List UInt8) (l33 : List UInt8) :
 RL SPC [.bool] n 5 0 nx (m + 1) (psDC w p t n29 s30 l31 s32 l33) =
 (bif (decide (n29 < (↑(List.length l33) : Int)) && decide (n29 < (60 : Int))) then
  need (decide ((0 : Int) ≤ n29)) <|
  need (decide (n29 < (↑(List.length l33) : Int))) <|
  need (decide (Int.toNat n29 < List.length l33)) <|
  need (!decide (IntKind.wrap .i64 ((↑(List.length s30) : Int) + (1 : Int)) = (0 : Int))) <|
  need (gP p) <|
  need (decide (List.length p.l = (289 : Nat))) <|
  need (decide (List.length p.l = (289 : Nat))) <|
  bif (!sameB p p) then
   some [⟨.bool, (false : Bool)⟩]
  else
   need (decide ((0 : Int) ≤ hN l33 n29 s30)) <|
   need (decide (hN l33 n29 s30 ≤ (↑(List.length s30) : Int))) <|
   need (decide ((0 : Int) ≤ hN l33 n29 s30)) <|
   need (decide (hN l33 n29 s30 ≤ cN l33 n29 s30)) <|
   need (decide (cN l33 n29 s30 ≤ (↑(List.length s30) : Int))) <|
   need (gP p) <|
   need (decide (List.length (List.flatten [List.take (Int.toNat (hN l33 n29 s30)) s30, List.take (Int.toNat (cN l33 n29 s30) - Int.toNat (hN l33 n29 s30)) (List.drop (Int.toNat (hN l33 n29 s30)) s30)]) ≤ (1000000 : Nat))) <|
   need (decide ((List.length t + List.length (Prod.snd (feedS p (List.flatten [List.take (Int.toNat (hN l33 n29 s30)) s30, List.take (Int.toNat (cN l33 n29 s30) - Int.toNat (hN l33 n29 s30)) (List.drop (Int.toNat (hN l33 n29 s30)) s30)])))) * (80 : Nat) ≤ (140737488355328 : Nat))) <|
   need (decide (List.length t + List.length (Prod.snd (feedS p (List.flatten [List.take (Int.toNat (hN l33 n29 s30)) s30, List.take (Int.toNat (cN l33 n29 s30) - Int.toNat (hN l33 n29 s30)) (List.drop (Int.toNat (hN l33 n29 s30)) s30)]))) ≤ (140737488355328 : Nat))) <|
   need (!decide ((0 : Int) < cN l33 n29 s30) || true) <|
   bif (decide ((0 : Int) < cN l33 n29 s30) && Int.tmod n29 (2 : Int) == (0 : Int)) then
    need (decide ((0 : Int) ≤ cN l33 n29 s30)) <|
    need (decide (cN l33 n29 s30 ≤ (↑(List.length s30) : Int))) <|
    need (gP p) <|
    need (decide (List.length (List.flatten [List.take (Int.toNat (cN l33 n29 s30)) s30]) ≤ (1000000 : Nat))) <|
    need (decide ((0 : Int) ≤ IntKind.wrap .i64 ((↑(List.length s32) : Int) - (↑(List.length s30) : Int)))) <|
    need (decide (IntKind.wrap .i64 ((↑(List.length s32) : Int) - (↑(List.length s30) : Int)) ≤ (↑(List.length s32) : Int))) <|
    need (decide ((0 : Int) ≤ cN l33 n29 s30)) <|
    need (decide (cN l33 n29 s30 ≤ (↑(List.length s30) : Int))) <|
    need (decide (List.length (List.take (Int.toNat (IntKind.wrap .i64 ((↑(List.length s32) : Int) - (↑(List.length s30) : Int)))) s32) ≤ (1000000 : Nat))) <|
    need (decide (List.length (List.take (Int.toNat (cN l33 n29 s30)) s30) ≤ (1000000 : Nat))) <|
    need (decide ((0 : Int) ≤ IntKind.wrap .i64 ((↑(List.length (t ++ Prod.snd (feedS p (List.flatten [List.take (Int.toNat (hN l33 n29 s30)) s30, List.take (Int.toNat (cN l33 n29 s30) - Int.toNat (hN l33 n29 s30)) (List.drop (Int.toNat (hN l33 n29 s30)) s30)])))) : Int) - (↑(List.length (Prod.snd (feedS (Prod.fst (feedS newS (List.take (Int.toNat (IntKind.wrap .i64 ((↑(List.length s32) : Int) - (↑(List.length s30) : Int)))) s32))) (List.take (Int.toNat (cN l33 n29 s30)) s30)))) : Int)))) <|
    need (decide (IntKind.wrap .i64 ((↑(List.length (t ++ Prod.snd (feedS p (List.flatten [List.take (Int.toNat (hN l33 n29 s30)) s30, List.take (Int.toNat (cN l33 n29 s30) - Int.toNat (hN l33 n29 s30)) (List.drop (Int.toNat (hN l33 n29 s30)) s30)])))) : Int) - (↑(List.length (Prod.snd (feedS (Prod.fst (feedS newS (List.take (Int.toNat (IntKind.wrap .i64 ((↑(List.length s32) : Int) - (↑(List.length s30) : Int)))) s32))) (List.take (Int.toNat (cN l33 n29 s30)) s30)))) : Int)) ≤ (↑(List.length (t ++ Prod.snd (feedS p (List.flatten [List.take (Int.toNat (hN l33 n29 s30)) s30, List.take (Int.toNat (cN l33 n29 s30) - Int.toNat (hN l33 n29 s30)) (List.drop (Int.toNat (hN l33 n29 s30)) s30)])))) : Int))) <|
    need (List.all (Prod.snd (feedS p (List.flatten [List.take (Int.toNat (cN l33 n29 s30)) s30]))) gTk) <|
    need (decide (List.length (Prod.snd (feedS p (List.flatten [List.take (Int.toNat (cN l33 n29 s30)) s30]))) ≤ (1000000000 : Nat))) <|
    bif (!sameK (Prod.snd (feedS p (List.flatten [List.take (Int.toNat (cN l33 n29 s30)) s30]))) (List.take (List.length (t ++ Prod.snd (feedS p (List.flatten [List.take (Int.toNat (hN l33 n29 s30)) s30, List.take (Int.toNat (cN l33 n29 s30) - Int.toNat (hN l33 n29 s30)) (List.drop (Int.toNat (hN l33 n29 s30)) s30)]))) - Int.toNat (IntKind.wrap .i64 ((↑(List.length (t ++ Prod.snd (feedS p (List.flatten [List.take (Int.toNat (hN l33 n29 s30)) s30, List.take (Int.toNat (cN l33 n29 s30) - Int.toNat (hN l33 n29 s30)) (List.drop (Int.toNat (hN l33 n29 s30)) s30)])))) : Int) - (↑(List.length (Prod.snd (feedS (Prod.fst (feedS newS (List.take (Int.toNat (IntKind.wrap .i64 ((↑(List.length s32) : Int) - (↑(List.length s30) : Int)))) s32))) (List.take (Int.toNat (cN l33 n29 s30)) s30)))) : Int)))) (List.drop (Int.toNat (IntKind.wrap .i64 ((↑(List.length (t ++ Prod.snd (feedS p (List.flatten [List.take (Int.toNat (hN l33 n29 s30)) s30, List.take (Int.toNat (cN l33 n29 s30) - Int.toNat (hN l33 n29 s30)) (List.drop (Int.toNat (hN l33 n29 s30)) s30)])))) : Int) - (↑(List.length (Prod.snd (feedS (Prod.fst (feedS newS (List.take (Int.toNat (IntKind.wrap .i64 ((↑(List.length s32) : Int) - (↑(List.length s30) : Int)))) s32))) (List.take (Int.toNat (cN l33 n29 s30)) s30)))) : Int)))) (t ++ Prod.snd (feedS p (List.flatten [List.take (Int.toNat (hN l33 n29 s30)) s30, List.take (Int.toNat (cN l33 n29 s30) - Int.toNat (hN l33 n29 s30)) (List.drop (Int.toNat (hN l33 n29 s30)) s30)])))))) then
     some [⟨.bool, (false : Bool)⟩]
    else
     need (decide ((0 : Int) ≤ cN l33 n29 s30)) <|
     need (decide (cN l33 n29 s30 ≤ (↑(List.length s30) : Int))) <|
     need (decide ((↑(List.length s30) : Int) ≤ (↑(List.length s30) : Int))) <|
     RL SPC [.bool] n 5 0 nx m (psDC w (Prod.fst (feedS p (List.flatten [List.take (Int.toNat (cN l33 n29 s30)) s30]))) (t ++ Prod.snd (feedS p (List.flatten [List.take (Int.toNat (hN l33 n29 s30)) s30, List.take (Int.toNat (cN l33 n29 s30) - Int.toNat (hN l33 n29 s30)) (List.drop (Int.toNat (hN l33 n29 s30)) s30)]))) (IntKind.wrap .i64 (n29 + (1 : Int))) (List.take (Int.toNat (↑(List.length s30) : Int) - Int.toNat (cN l33 n29 s30)) (List.drop (Int.toNat (cN l33 n29 s30)) s30)) l31 s32 l33)
   else
    need (decide ((0 : Int) ≤ cN l33 n29 s30)) <|
    need (decide (cN l33 n29 s30 ≤ (↑(List.length s30) : Int))) <|
    need (decide ((↑(List.length s30) : Int) ≤ (↑(List.length s30) : Int))) <|
    RL SPC [.bool] n 5 0 nx m (psDC w (Prod.fst (feedS p (List.flatten [List.take (Int.toNat (hN l33 n29 s30)) s30, List.take (Int.toNat (cN l33 n29 s30) - Int.toNat (hN l33 n29 s30)) (List.drop (Int.toNat (hN l33 n29 s30)) s30)]))) (t ++ Prod.snd (feedS p (List.flatten [List.take (Int.toNat (hN l33 n29 s30)) s30, List.take (Int.toNat (cN l33 n29 s30) - Int.toNat (hN l33 n29 s30)) (List.drop (Int.toNat (hN l33 n29 s30)) s30)]))) (IntKind.wrap .i64 (n29 + (1 : Int))) (List.take (Int.toNat (↑(List.length s30) : Int) - Int.toNat (cN l33 n29 s30)) (List.drop (Int.toNat (cN l33 n29 s30)) s30)) l31 s32 l33)
 else
  need (gP p) <|
  need (decide (List.length (List.flatten [s30]) ≤ (1000000 : Nat))) <|
  need (decide ((List.length t + List.length (Prod.snd (feedS p (List.flatten [s30])))) * (80 : Nat) ≤ (140737488355328 : Nat))) <|
  need (decide (List.length t + List.length (Prod.snd (feedS p (List.flatten [s30]))) ≤ (140737488355328 : Nat))) <|
  need (List.all (t ++ Prod.snd (feedS p (List.flatten [s30]))) gTk) <|
  need (decide (List.length (t ++ Prod.snd (feedS p (List.flatten [s30]))) ≤ (1000000000 : Nat))) <|
  bif (sameK (t ++ Prod.snd (feedS p (List.flatten [s30]))) l31) then
   need (decide (List.length (PS.l (Prod.fst (feedS p (List.flatten [s30])))) = (289 : Nat))) <|
   need (decide (List.length w.l = (289 : Nat))) <|
   bif (sameB (Prod.fst (feedS p (List.flatten [s30]))) w) then
    need (decide (List.length (List.flatten [s32]) ≤ (1000000 : Nat))) <|
    need (List.all (Prod.snd (feedS newS (List.flatten [s32]))) gTk) <|
    need (decide (List.length (Prod.snd (feedS newS (List.flatten [s32]))) ≤ (1000000000 : Nat))) <|
    bif (sameK (Prod.snd (feedS newS (List.flatten [s32]))) l31) then
     bif (heldN (Prod.fst (feedS p (List.flatten [s30]))) == heldN w) then
      some [⟨.bool, (groundB (Prod.fst (feedS p (List.flatten [s30]))) == groundB w : Bool)⟩]
     else
      some [⟨.bool, (false : Bool)⟩]
    else
     some [⟨.bool, (false : Bool)⟩]
   else
    some [⟨.bool, (false : Bool)⟩]
  else
   some [⟨.bool, (false : Bool)⟩]) := by kernel_rfl
theorem PC_fn (n : Nat) (l0 : List (UInt8 × UInt8 × UInt8 × List UInt8 × PUnit)) (l1 : List UInt8) :
 fnY SPC loopY [(.hole (.list 47 (.pair .byte (.pair .byte (.pair .byte (.pair .str .unit)))))), (.hole (.list 5 .byte))] [.bool] n 5 [⟨(.list 47 (.pair .byte (.pair .byte (.pair .byte (.pair .str .unit))))), l0⟩, ⟨(.list 5 .byte), l1⟩] =
 (need (gP newS) <|
 need (decide (List.length (List.flatten [madeF l0]) ≤ (1000000 : Nat))) <|
 RL SPC [.bool] n 5 0 noNx n [⟨(.list 71 (.int .i64)), (PS.l (Prod.fst (feedS newS (List.flatten [madeF l0]))) : List Int)⟩, ⟨(.list 5 .byte), (PS.inter (Prod.fst (feedS newS (List.flatten [madeF l0]))) : List UInt8)⟩, ⟨(.list 5 .byte), (PS.data (Prod.fst (feedS newS (List.flatten [madeF l0]))) : List UInt8)⟩, ⟨(.list 71 (.int .i64)), (List.replicate (289 : Nat) (0 : Int) : List Int)⟩, ⟨(.list 5 .byte), ([] : List UInt8)⟩, ⟨(.list 5 .byte), ([] : List UInt8)⟩, ⟨(.list 41 tokTy), ([] : List Tk)⟩, ⟨(.int .i32), (PS.c (Prod.fst (feedS newS (List.flatten [madeF l0]))) : Int)⟩, ⟨(.int .u8), (PS.lf (Prod.fst (feedS newS (List.flatten [madeF l0]))) : Int)⟩, ⟨(.int .u8), (PS.gt (Prod.fst (feedS newS (List.flatten [madeF l0]))) : Int)⟩, ⟨(.int .u8), (PS.lo (Prod.fst (feedS newS (List.flatten [madeF l0]))) : Int)⟩, ⟨(.int .u8), (PS.hi (Prod.fst (feedS newS (List.flatten [madeF l0]))) : Int)⟩, ⟨(.int .i64), (PS.st (Prod.fst (feedS newS (List.flatten [madeF l0]))) : Int)⟩, ⟨(.int .u8), (PS.mk' (Prod.fst (feedS newS (List.flatten [madeF l0]))) : Int)⟩, ⟨.bool, (PS.fst (Prod.fst (feedS newS (List.flatten [madeF l0]))) : Bool)⟩, ⟨(.int .u8), (PS.fin (Prod.fst (feedS newS (List.flatten [madeF l0]))) : Int)⟩, ⟨.bool, (PS.sp (Prod.fst (feedS newS (List.flatten [madeF l0]))) : Bool)⟩, ⟨.bool, (PS.en (Prod.fst (feedS newS (List.flatten [madeF l0]))) : Bool)⟩, ⟨(.int .i32), ((0 : Int) : Int)⟩, ⟨(.int .u8), ((0 : Int) : Int)⟩, ⟨(.int .u8), ((0 : Int) : Int)⟩, ⟨(.int .u8), ((0 : Int) : Int)⟩, ⟨(.int .u8), ((0 : Int) : Int)⟩, ⟨(.int .i64), ((0 : Int) : Int)⟩, ⟨(.int .u8), ((0 : Int) : Int)⟩, ⟨.bool, (true : Bool)⟩, ⟨(.int .u8), ((0 : Int) : Int)⟩, ⟨.bool, (false : Bool)⟩, ⟨.bool, (false : Bool)⟩, ⟨(.int .i64), ((0 : Int) : Int)⟩, ⟨.str, (madeF l0 : List UInt8)⟩, ⟨(.list 41 tokTy), (Prod.snd (feedS newS (List.flatten [madeF l0])) : List Tk)⟩, ⟨.str, (madeF l0 : List UInt8)⟩, ⟨(.list 5 .byte), (l1 : List UInt8)⟩]) := by kernel_rfl

end Go.Proofs.Ytfdhkpfkdcdloaa

namespace Go.Proofs.Ytfdhkpfkdcdloaa
open Go Go.Am

theorem cN_ok (cs : List UInt8) (i : Int) (r : List UInt8) (hr : r.length ≤ 1000000) : ∃ c : Nat, cN cs i r = (c : Int) ∧ c ≤ r.length ∧ hN cs i r = ((c / 2 : Nat) : Int) := by
 have hx := u8_lt (List.getD cs (Int.toNat i) (UInt8.ofNat (0 : Nat)))
 have e : cN cs i r = (((List.getD cs (Int.toNat i) (UInt8.ofNat (0 : Nat))).toNat % (r.length + 1) : Nat) : Int) := by
  unfold cN
  rw [w64 (by omega), w64 (by omega)]
  rfl
 have hc : (List.getD cs (Int.toNat i) (UInt8.ofNat (0 : Nat))).toNat % (r.length + 1) < r.length + 1 := Nat.mod_lt _ (Nat.succ_pos _)
 refine ⟨_, e, by omega, ?_⟩
 unfold hN
 rw [e]
 generalize (List.getD cs (Int.toNat i) (UInt8.ofNat (0 : Nat))).toNat % (r.length + 1) = c at *
 rw [show Int.tdiv (c : Int) 2 = ((c / 2 : Nat) : Int) from rfl, w64 (by omega)]
theorem two_parts (h c : Nat) (r : List UInt8) (hc : h ≤ c) : List.flatten [List.take h r, List.take (c - h) (List.drop h r)] = List.take c r := by
 simp only [List.flatten_cons, List.flatten_nil, List.append_nil]
 rw [← List.take_add, Nat.add_sub_cancel' hc]
theorem feed_pre (s : List UInt8) (k c : Nat) : feedS newS (s.take (k + c)) = ((feedS (feedS newS (s.take k)).1 ((s.drop k).take c)).1, (feedS newS (s.take k)).2 ++ (feedS (feedS newS (s.take k)).1 ((s.drop k).take c)).2) := by
 rw [List.take_add, feed_app]
theorem feed_all (s : List UInt8) (k : Nat) : feedS newS s = ((feedS (feedS newS (s.take k)).1 (s.drop k)).1, (feedS newS (s.take k)).2 ++ (feedS (feedS newS (s.take k)).1 (s.drop k)).2) := by
 rw [← feed_app, List.take_append_drop]

theorem tail_of (A T : List Tk) : List.take ((A ++ T).length - A.length) (List.drop A.length (A ++ T)) = T := by
 rw [List.drop_left, List.take_of_length_le (by rw [List.length_append]; omega)]

theorem cuts_loop (n : Nat) (s cs : List UInt8) (hs : s.length ≤ 1000000) : ∀ (m i k : Nat), k ≤ s.length → i ≤ 60 → 60 < i + m →
 RL SPC [.bool] n 5 0 noNx m (psDC (feedS newS s).1 (feedS newS (s.take k)).1 (feedS newS (s.take k)).2 (i : Int) (s.drop k) (feedS newS s).2 s cs) = some [⟨.bool, true⟩]
 | 0, i, k, _, h2, h3 => by omega
 | m + 1, i, k, h1, h2, h3 => by
  refine (PC_L0 n noNx m _ _ _ _ _ _ _ _).trans ?_
  obtain ⟨pP, tP, nP⟩ := feed_ok (s.take k) PI.new
  obtain ⟨pW, tW, nW⟩ := feed_ok s PI.new
  have hlk : (s.take k).length = k := by rw [List.length_take]; omega
  have hld : (s.drop k).length = s.length - k := List.length_drop
  have lP := pP.len
  have lW := pW.len
  rw [hlk] at nP
  by_cases hi : i < cs.length ∧ i < 60
  ·refine bp (by rw [decide_eq_true (show (i : Int) < (cs.length : Int) by omega), decide_eq_true (show (i : Int) < 60 by omega)]; rfl) ?_
   refine nd (by omega) (nd (by omega) (nd (by omega) ?_))
   refine np (by rw [w64 (by omega)]; exact (by simp only [Bool.not_eq_true', decide_eq_false_iff_not]; omega)) (np (gP_iff.2 pP) (nd lP (nd lP (bn (by rw [(sameB_iff lP lP).2 rfl]; rfl) ?_))))
   obtain ⟨c, ec, hc, eh⟩ := cN_ok cs i (s.drop k) (by omega)
   rw [hld] at hc
   simp only [ec, eh, Int.toNat_natCast, two_parts (c / 2) c (s.drop k) (by omega)]
   simp only [List.flatten_cons, List.flatten_nil, List.append_nil]
   have hT := feed_pre s k c
   obtain ⟨pT, tT, nT⟩ := feed_ok ((s.drop k).take c) pP
   have hlt : ((s.drop k).take c).length = c := by rw [List.length_take, hld]; omega
   rw [hlt] at nT
   have ih := cuts_loop n s cs hs m (i + 1) (k + c) (by omega) (by omega) (by omega)
   have er : List.take ((s.drop k).length - c) (List.drop c (s.drop k)) = s.drop (k + c) := by
    rw [List.drop_drop, List.take_of_length_le (by rw [List.length_drop, List.length_drop]; omega)]
   have ei : IntKind.wrap .i64 ((i : Int) + 1) = ((i + 1 : Nat) : Int) := by rw [w64 (by omega)]; omega
   have ih2 : RL SPC [.bool] n 5 0 noNx m (psDC (feedS newS s).1 (feedS (feedS newS (s.take k)).1 ((s.drop k).take c)).1 ((feedS newS (s.take k)).2 ++ (feedS (feedS newS (s.take k)).1 ((s.drop k).take c)).2) (IntKind.wrap .i64 ((i : Int) + 1)) (List.take ((s.drop k).length - c) (List.drop c (s.drop k))) (feedS newS s).2 s cs) = some [⟨.bool, true⟩] := by
    rw [er, ei]
    rw [hT] at ih
    exact ih
   have ek : IntKind.wrap .i64 ((s.length : Int) - ((s.drop k).length : Int)) = (k : Int) := by rw [hld, w64 (by omega)]; omega
   simp only [ek, Int.toNat_natCast]
   have el : IntKind.wrap .i64 ((((feedS newS (s.take k)).2 ++ (feedS (feedS newS (s.take k)).1 ((s.drop k).take c)).2).length : Int) - ((feedS (feedS newS (s.take k)).1 ((s.drop k).take c)).2.length : Int)) = ((feedS newS (s.take k)).2.length : Int) := by
    rw [w64 (by rw [List.length_append]; omega), List.length_append]; omega
   simp only [el, Int.toNat_natCast]
   refine nd (by omega) (nd (by omega) (nd (by omega) (nd (by omega) (nd (by omega) (np (gP_iff.2 pP) (nd (by omega) (nd (by omega) (nd (by omega) (np (by simp) ?_)))))))))
   refine bc (fun _ => ?_) fun _ => nd (by omega) (nd (by omega) (nd (by omega) ih2))
   refine nd (by omega) (nd (by omega) (np (gP_iff.2 pP) (nd (by omega) (nd (by omega) (nd (by omega) (nd (by omega) (nd (by omega) (nd (by omega) (nd (by omega) (nd (by omega) (nd (by rw [List.length_append]; omega) (np (List.all_eq_true.2 tT) (nd (by omega) ?_)))))))))))))
   refine bn ?_ (nd (by omega) (nd (by omega) (nd (by omega) ih2)))
   rw [tail_of]
   exact (by rw [show sameK (feedS (feedS newS (s.take k)).1 ((s.drop k).take c)).2 (feedS (feedS newS (s.take k)).1 ((s.drop k).take c)).2 = true from decide_eq_true rfl]; rfl)
  ·refine bn (by rw [Bool.and_eq_false_iff, decide_eq_false_iff_not, decide_eq_false_iff_not]; omega) ?_
   simp only [List.flatten_cons, List.flatten_nil, List.append_nil]
   obtain ⟨pT, tT, nT⟩ := feed_ok (s.drop k) pP
   rw [hld] at nT
   have hF := feed_all s k
   have e1 : (feedS (feedS newS (s.take k)).1 (s.drop k)).1 = (feedS newS s).1 := by rw [hF]
   have e2 : (feedS newS (s.take k)).2 ++ (feedS (feedS newS (s.take k)).1 (s.drop k)).2 = (feedS newS s).2 := by rw [hF]
   simp only [e1, e2]
   refine np (gP_iff.2 pP) (nd (by omega) (nd (by omega) (nd (by omega) (np (List.all_eq_true.2 tW) (nd (by omega) (bp (decide_eq_true rfl) (nd lW (nd lW (bp ((sameB_iff lW lW).2 rfl) (nd hs (np (List.all_eq_true.2 tW) (nd (by omega) (bp (decide_eq_true rfl) (bp (beq_self_eq_true _) ?_))))))))))))))
   rw [show (groundB (feedS newS s).1 == groundB (feedS newS s).1) = true from beq_self_eq_true _]
theorem cuts_ok (l : List Pc) (cs : List UInt8) : ∃ n, fnY SPC loopY [.hole (.list 47 pcTy), .hole (.list 5 .byte)] [.bool] n 5 [⟨.list 47 pcTy, l⟩, ⟨.list 5 .byte, cs⟩] = some [⟨.bool, true⟩] := by
 refine ⟨61, (PC_fn 61 l cs).trans ?_⟩
 have hm := madeF_len l
 have h := cuts_loop 61 (madeF l) cs (by omega) 61 0 0 (Nat.zero_le _) (by omega) (by omega)
 have ef : List.flatten [madeF l] = madeF l := by simp only [List.flatten_cons, List.flatten_nil, List.append_nil]
 rw [ef]
 exact np (gP_iff.2 PI.new) (nd (by omega) h)
def tysPC : List Ty := [.list 47 pcTy, .list 5 .byte]
theorem cuts_law (ds : List Dy) (h : OkDs tysPC ds) : ∃ n, fnY SPC loopY (tysPC.map .hole) [.bool] n 5 ds = some [⟨.bool, true⟩] := by
 obtain ⟨l0, _, rfl, h0, l1, _, rfl, h1, rfl⟩ := h
 exact cuts_ok l0 l1
end Go.Proofs.Ytfdhkpfkdcdloaa
