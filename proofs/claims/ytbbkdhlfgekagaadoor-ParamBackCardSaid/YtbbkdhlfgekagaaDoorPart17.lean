/-
  Texts of this session, one behind the other: PaLaw2, PaBack, PaLK.
-/
import Derived.Test.YtbbkdhlfgekagaaDoorPart16
import Derived.Lib.ItoaNum
namespace Go.Proofs.YtbbkdhlfgekagaaDoor
open Go Go.Am

theorem byteT_start {T : List (List Int)} {c : Int} : byteT (startT T) c = byteT T c := by
  unfold byteT
  rw [startT_id startT_ne]
theorem readT_first {b : UInt8} {s : List UInt8} : readT [] (b :: s) = readT [[-1]] (b :: s) := by
  rw [readT_cons, readT_cons, ← byteT_start (T := []), ← byteT_start (T := [[-1]])]
  rfl
theorem readT_nil {T : List (List Int)} : readT T [] = T := rfl
theorem byteT_dig {I : List (List Int)} {q : List Int} {x c : Int} (hc : 48 ≤ c ∧ c ≤ 57) : byteT (I ++ [q ++ [x]]) c = I ++ [q ++ [digV x c]] := by
  unfold byteT
  rw [startT_id (by simp), if_neg (by omega), if_neg (by omega)]
  unfold digT
  rw [lastT_app]
  simp
theorem byteT_sub {I : List (List Int)} {r : List Int} : byteT (I ++ [r]) 58 = I ++ [r ++ [-1]] := by
  unfold byteT
  rw [startT_id (by simp), if_neg (by omega), if_pos rfl]
  unfold subT
  rw [lastT_app]
theorem byteT_next {T : List (List Int)} (h : T ≠ []) : byteT T 59 = T ++ [[-1]] := by
  unfold byteT
  rw [startT_id h, if_pos rfl]
theorem bi_dig {d : Nat} (h : d < 10) : bi (UInt8.ofNat (48 + d)) = 48 + (d : Int) := by
  unfold bi
  have : (UInt8.ofNat (48 + d)).toNat = 48 + d := by
    rw [UInt8.toNat_ofNat_of_lt' (by simp only [UInt8.size]; omega)]
  rw [this]
  omega
theorem read_dec {I : List (List Int)} {q : List Int} (u : Nat) (hu : u ≤ 65535) : readT (I ++ [q ++ [-1]]) (Lib.decDigits u) = I ++ [q ++ [(u : Int)]] ∧ isS (Lib.decDigits u) = true := by
  induction u using Nat.strongRecOn with
  | _ u ih =>
    rw [Lib.decDigits]
    split
    · rename_i h
      refine ⟨?_, ?_⟩
      · rw [readT_cons, readT_nil, bi_dig h, byteT_dig (by omega), digV_in (by omega) (by omega)]
        rw [if_neg (by simp; omega)]
        simp
        omega
      · rw [isS_cons, bi_dig h]
        simp [isS, isC]
        omega
    · rename_i h
      obtain ⟨h1, h2⟩ := ih (u / 10) (by omega) (by omega)
      refine ⟨?_, ?_⟩
      · rw [readT_app, h1, readT_cons, readT_nil, bi_dig (by omega), byteT_dig (by omega), digV_in (by omega) (by omega), if_neg (by split <;> omega), if_neg (by omega)]
        congr 4
        omega
      · rw [isS_app, h2, isS_cons, bi_dig (by omega)]
        simp [isS, isC]
        omega
theorem read_N {I : List (List Int)} {q : List Int} {x : Int} (h : -1 ≤ x ∧ x ≤ 65535) : readT (I ++ [q ++ [-1]]) (wrN x) = I ++ [q ++ [x]] ∧ isS (wrN x) = true := by
  unfold wrN
  split
  · unfold Lib.itoa
    rw [if_neg (by omega)]
    obtain ⟨h1, h2⟩ := read_dec (I := I) (q := q) x.toNat (by omega)
    rw [h1]
    exact ⟨by rw [show ((x.toNat : Nat) : Int) = x by omega], h2⟩
  · obtain rfl : x = -1 := by omega
    exact ⟨rfl, rfl⟩
theorem join_two {a b : List UInt8} {l : List (List UInt8)} {c : UInt8} : Lib.join (a :: b :: l) [c] = a ++ [c] ++ Lib.join (b :: l) [c] := by simp [Lib.join, List.intercalate]
theorem join_one {a : List UInt8} {c : UInt8} : Lib.join [a] [c] = a := by simp [Lib.join]
theorem read_R : ∀ {r : List Int} {I : List (List Int)} {q : List Int}, r ≠ [] → (∀ x ∈ r, -1 ≤ x ∧ x ≤ 65535) → readT (I ++ [q ++ [-1]]) (wrR r) = I ++ [q ++ r] ∧ isS (wrR r) = true
  | [], _, _, h, _ => (h rfl).elim
  | [x], I, q, _, hx => by
    unfold wrR
    rw [List.map_singleton, join_one]
    exact read_N (hx x (by simp))
  | x :: y :: r, I, q, _, hx => by
    obtain ⟨h1, h2⟩ := read_N (I := I) (q := q) (hx x (by simp))
    obtain ⟨h3, h4⟩ := read_R (r := y :: r) (I := I) (q := q ++ [x]) (by simp) (fun z hz => hx z (List.mem_cons_of_mem _ hz))
    have e : wrR (x :: y :: r) = wrN x ++ [58] ++ wrR (y :: r) := by
      unfold wrR
      rw [List.map_cons, List.map_cons, join_two]
    rw [e]
    refine ⟨?_, ?_⟩
    · rw [readT_app, readT_app, h1]
      have : readT (I ++ [q ++ [x]]) [58] = I ++ [q ++ [x] ++ [-1]] := by
        rw [readT_cons, readT_nil]
        exact byteT_sub
      rw [this, h3]
      simp
    · rw [isS_app, isS_app, h2, h4]; rfl
theorem read_T : ∀ {T I : List (List Int)}, T ≠ [] → okT T → readT (I ++ [[-1]]) (wrT T) = I ++ T ∧ isS (wrT T) = true
  | [], _, h, _ => (h rfl).elim
  | [r], I, _, hT => by
    unfold wrT
    rw [List.map_singleton, join_one]
    have := hT r (by simp)
    exact read_R (r := r) (I := I) (q := []) this.1 this.2
  | r :: r2 :: T, I, _, hT => by
    have hr := hT r (by simp)
    obtain ⟨h1, h2⟩ := read_R (r := r) (I := I) (q := []) hr.1 hr.2
    obtain ⟨h3, h4⟩ := read_T (T := r2 :: T) (I := I ++ [r]) (by simp) (fun z hz => hT z (List.mem_cons_of_mem _ hz))
    have e : wrT (r :: r2 :: T) = wrR r ++ [59] ++ wrT (r2 :: T) := by
      unfold wrT
      rw [List.map_cons, List.map_cons, join_two]
    rw [e]
    refine ⟨?_, ?_⟩
    · rw [readT_app, readT_app]
      have h1' : readT (I ++ [[-1]]) (wrR r) = I ++ [r] := h1
      rw [h1']
      have : readT (I ++ [r]) [59] = I ++ [r] ++ [[-1]] := by
        rw [readT_cons, readT_nil]
        exact byteT_next (by simp)
      rw [this, h3]
      simp
    · rw [isS_app, isS_app, h2, h4]; rfl
def smallT (T : List (List Int)) : Prop := T.length ≤ 32 ∧ ∀ r ∈ T, r.length ≤ 8
theorem cutT_id {T : List (List Int)} (h : smallT T) : cutT T = T := by
  unfold cutT
  rw [List.take_of_length_le h.1]
  have : ∀ {l : List (List Int)}, (∀ r ∈ l, r.length ≤ 8) → l.map (·.take 8) = l := by
    intro l
    induction l with
    | nil => intro _; rfl
    | cons r l ih =>
      intro hl
      rw [List.map_cons, ih (fun r hr => hl r (List.mem_cons_of_mem _ hr)), List.take_of_length_le (hl r (by simp))]
  exact this h.2
theorem cutT_small {T : List (List Int)} : smallT (cutT T) := by
  refine ⟨by rw [cutT_len]; omega, fun r hr => ?_⟩
  unfold cutT at hr
  obtain ⟨q, _, rfl⟩ := List.mem_map.1 hr
  rw [List.length_take]; omega
theorem cutT_ok {T : List (List Int)} (h : okT T) : okT (cutT T) := fun r hr => by
  obtain ⟨a1, _, a3⟩ := cutT_row h hr
  exact ⟨fun e => by subst e; simp at a1, a3⟩
theorem back {T : List (List Int)} (h : okT T) (hs : smallT T) (hne : T ≠ [[-1]]) : isS (wrT T) = true ∧ prT (wrT T) = T := by
  by_cases h0 : T = []
  · subst h0
    exact ⟨rfl, rfl⟩
  obtain ⟨h1, h2⟩ := read_T (T := T) (I := []) h0 h
  refine ⟨h2, ?_⟩
  unfold prT
  rw [if_pos h2]
  have h1' : readT [[-1]] (wrT T) = T := h1
  cases hw : wrT T with
  | nil =>
    rw [hw, readT_nil] at h1'
    exact (hne h1'.symm).elim
  | cons b s =>
    rw [readT_first, ← hw, h1']
    exact cutT_id hs
theorem len_mono {T : List (List Int)} {c : Int} (h : T ≠ []) : T.length ≤ (byteT T c).length := by rw [byteT_len, startT_id h]; omega
def fst1 (T : List (List Int)) : Bool := match T with
  | [[x]] => decide (x < 0)
  | _ => false
theorem digV_pos {x c : Int} (h : -1 ≤ x ∧ x ≤ 65535) (hc : 48 ≤ c ∧ c ≤ 57) : 0 ≤ digV x c := by
  rw [digV_in h hc]
  split <;> split <;> omega
theorem fst1_byte {T : List (List Int)} {c : Int} (h : okT T) (hc : isC c = true) : fst1 (byteT T c) = false := by
  have hc := isC_at hc
  have h1 := okT_start h
  unfold byteT
  split
  · match hs : startT T, startT_ne (T := T) with
    | a :: l, _ => cases l <;> simp [fst1]
  · split
    · unfold subT
      obtain ⟨I, r, e, e2⟩ := lastT_in (f := fun r => r ++ [-1]) (startT_ne (T := T))
      rw [e2]
      rw [e, okT_app, okT_one] at h1
      cases I with
      | nil => match r, h1.2.1 with
        | x :: r, _ => cases r <;> simp [fst1]
      | cons a I => cases I <;> simp [fst1]
    · unfold digT
      obtain ⟨I, r, e, e2⟩ := lastT_in (f := fun r => r.dropLast ++ [digV (r.getLast?.getD 0) c]) (startT_ne (T := T))
      rw [e2]
      rw [e, okT_app, okT_one] at h1
      cases I with
      | nil => match r, h1.2.1 with
        | [x], _ =>
          have := digV_pos (h1.2.2 x (by simp)) (c := c) (by omega)
          simp [fst1]
          exact this
        | x :: y :: r, _ => simp [fst1]
      | cons a I => cases I <;> simp [fst1]
theorem fst1_read : ∀ {s : List UInt8} {T : List (List Int)}, okT T → isS s = true → s ≠ [] → fst1 (readT T s) = false
  | [], _, _, _, h => (h rfl).elim
  | [b], T, h, hs, _ => by
    rw [isS_cons, Bool.and_eq_true] at hs
    exact fst1_byte h hs.1
  | b :: b2 :: s, T, h, hs, _ => by
    rw [isS_cons, Bool.and_eq_true] at hs
    rw [readT_cons]
    exact fst1_read (okT_byte h hs.1) hs.2 (by simp)
theorem fst1_cut {T : List (List Int)} (h : fst1 T = false) : cutT T ≠ [[-1]] := by
  intro e
  unfold cutT at e
  match T, e with
  | [r], e =>
    simp at e
    match r, e with
    | [x], e => simp at e; subst e; simp [fst1] at h
    | x :: y :: r, e => simp at e
  | a :: b :: T, e => simp at e
theorem prT_ne {s : List UInt8} (hs : isS s = true) : prT s ≠ [[-1]] := by
  unfold prT
  rw [if_pos hs]
  by_cases h : s = []
  · subst h; intro e; cases e
  · exact fst1_cut (fst1_read okT_nil hs h)
theorem prT_ok {s : List UInt8} (hs : isS s = true) : okT (prT s) ∧ smallT (prT s) := by
  unfold prT
  rw [if_pos hs]
  exact ⟨cutT_ok (okT_read okT_nil hs), cutT_small⟩
def sumL (l : List (List UInt8)) : Nat := (l.map List.length).sum
theorem join_length {c : UInt8} : ∀ {l : List (List UInt8)}, (Lib.join l [c]).length = sumL l + (l.length - 1)
  | [] => rfl
  | [a] => by rw [join_one]; simp [sumL]
  | a :: b :: l => by
    rw [join_two, List.length_append, List.length_append, join_length]
    simp [sumL]
    omega
def lenR (r : List Int) : Nat := (r.map fun x => (wrN x).length).sum
def lenT (T : List (List Int)) : Nat := (T.map fun r => (wrR r).length).sum
theorem wrR_length {r : List Int} : (wrR r).length = lenR r + (r.length - 1) := by
  unfold wrR lenR
  rw [join_length]
  simp [sumL, Function.comp_def]
theorem wrT_length {T : List (List Int)} : (wrT T).length = lenT T + (T.length - 1) := by
  unfold wrT lenT
  rw [join_length]
  simp [sumL, Function.comp_def]
theorem sum_take {α : Type} {f : α → Nat} : ∀ {l : List α} {n : Nat}, ((l.take n).map f).sum ≤ (l.map f).sum
  | [], n => by simp
  | a :: l, 0 => by simp
  | a :: l, n + 1 => by
    have := sum_take (f := f) (l := l) (n := n)
    simp only [List.take_succ_cons, List.map_cons, List.sum_cons]
    omega
theorem sum_le {α : Type} {f g : α → Nat} (h : ∀ a, f a ≤ g a) : ∀ {l : List α}, (l.map f).sum ≤ (l.map g).sum
  | [] => by simp
  | a :: l => by
    have := sum_le h (l := l)
    have := h a
    simp only [List.map_cons, List.sum_cons]
    omega
theorem cut_short {T : List (List Int)} : (wrT (cutT T)).length ≤ (wrT T).length := by
  rw [wrT_length, wrT_length, cutT_len]
  have h1 : lenT (cutT T) ≤ lenT T := by
    unfold lenT cutT
    rw [List.map_map]
    refine Nat.le_trans (sum_le (g := fun r => (wrR r).length) fun r => ?_) sum_take
    simp only [Function.comp_apply]
    rw [wrR_length, wrR_length, List.length_take]
    have : lenR (r.take 8) ≤ lenR r := sum_take
    omega
  omega
theorem nd_mono : ∀ (a b : Nat), a ≤ b → Lib.nDigits a ≤ Lib.nDigits b := by
  intro a
  induction a using Nat.strongRecOn with
  | _ a ih =>
    intro b h
    by_cases ha : a < 10
    · rw [Lib.nDigits_small ha]; exact Lib.nDigits_pos b
    · rw [Lib.nDigits_big ha, Lib.nDigits_big (u := b) (by omega)]
      have := ih (a / 10) (by omega) (b / 10) (by omega)
      omega
theorem wrN_len' {x : Int} (h : 0 ≤ x) : (wrN x).length = Lib.nDigits x.toNat := by
  unfold wrN
  rw [if_pos h]
  unfold Lib.itoa
  rw [if_neg (by omega), Lib.decDigits_length]
theorem dig_short {x c : Int} (h : -1 ≤ x ∧ x ≤ 65535) (hc : 48 ≤ c ∧ c ≤ 57) : (wrN (digV x c)).length ≤ (wrN x).length + 1 := by
  rw [wrN_len' (digV_pos h hc), digV_in h hc]
  by_cases hx : x < 0
  · rw [if_pos hx, if_neg (by omega), Lib.nDigits_small (by omega)]
    omega
  · rw [if_neg hx, wrN_len' (by omega)]
    have h10 : Lib.nDigits (x * 10 + (c - 48)).toNat ≤ Lib.nDigits x.toNat + 1 := by
      by_cases hz : (x * 10 + (c - 48)).toNat < 10
      · rw [Lib.nDigits_small hz]; omega
      · rw [Lib.nDigits_big hz]
        have : (x * 10 + (c - 48)).toNat / 10 = x.toNat := by omega
        rw [this]
        omega
    split
    · exact Nat.le_trans (nd_mono _ _ (by omega)) h10
    · exact h10
theorem lenT_app {A B : List (List Int)} : lenT (A ++ B) = lenT A + lenT B := by simp [lenT]
theorem lenR_app {A B : List Int} : lenR (A ++ B) = lenR A + lenR B := by simp [lenR]
theorem byte_short {T : List (List Int)} {c : Int} (h : okT T) (hne : T ≠ []) (hc : isC c = true) : (wrT (byteT T c)).length ≤ (wrT T).length + 1 := by
  have hc := isC_at hc
  obtain ⟨I, r, rfl⟩ := cons_last hne
  have h1 := h
  rw [okT_app, okT_one] at h1
  rw [wrT_length, wrT_length]
  by_cases c1 : c = 59
  · subst c1
    rw [byteT_next (by simp), lenT_app]
    have : lenT [[-1]] = 0 := rfl
    simp
    omega
  by_cases c2 : c = 58
  · subst c2
    rw [byteT_sub, lenT_app, lenT_app]
    have e1 : lenT [r ++ [-1]] = (wrR (r ++ [-1])).length := by simp [lenT]
    have e2 : lenT [r] = (wrR r).length := by simp [lenT]
    rw [e1, e2, wrR_length, wrR_length, lenR_app]
    have : lenR [-1] = 0 := rfl
    simp
    omega
  · obtain ⟨q, x, rfl⟩ : ∃ q x, r = q ++ [x] := ⟨r.dropLast, r.getLast h1.2.1, (List.dropLast_concat_getLast h1.2.1).symm⟩
    rw [byteT_dig (by omega), lenT_app, lenT_app]
    have e1 : ∀ y, lenT [q ++ [y]] = (wrR (q ++ [y])).length := fun y => by simp [lenT]
    rw [e1, e1, wrR_length, wrR_length, lenR_app, lenR_app]
    have e3 : ∀ y, lenR [y] = (wrN y).length := fun y => by simp [lenR]
    rw [e3, e3]
    have := dig_short (h1.2.2 x (by simp)) (c := c) (by omega)
    simp
    omega
theorem read_short : ∀ {s : List UInt8} {T : List (List Int)}, okT T → T ≠ [] → isS s = true → (wrT (readT T s)).length ≤ (wrT T).length + s.length
  | [], T, _, _, _ => Nat.le_refl _
  | b :: s, T, h, hne, hs => by
    rw [isS_cons, Bool.and_eq_true] at hs
    rw [readT_cons, List.length_cons]
    have := read_short (s := s) (okT_byte h hs.1) byteT_ne hs.2
    have := byte_short h hne hs.1
    omega
theorem prT_short {s : List UInt8} (hs : isS s = true) : (wrT (prT s)).length ≤ s.length := by
  unfold prT
  rw [if_pos hs]
  refine Nat.le_trans cut_short ?_
  match s, hs with
  | [], _ => exact Nat.le_refl _
  | b :: s, hs =>
    rw [readT_first]
    have := read_short (T := [[-1]]) (okT_one.2 ⟨by simp, by simp⟩) (by simp) hs
    have e : (wrT [[-1]]).length = 0 := rfl
    omega
end Go.Proofs.YtbbkdhlfgekagaaDoor

namespace Go.Proofs.YtbbkdhlfgekagaaDoor
open Go Go.Am

abbrev tyU : Ty := .list 34 (.list 35 (.int .u16))
def okR (r : List Int) : Prop := r ≠ [] ∧ r.length ≤ 8 ∧ ∀ x ∈ r, -1 ≤ x ∧ x ≤ 65535
def okU (U : List (List Int)) : Prop := ∀ r ∈ U, ∀ x ∈ r, 0 ≤ x ∧ x ≤ 65535
theorem nq {β : Type} {b c : Bool} {x r : Option β} (h : b = true → c = true) (k : x = r) : need (!b || c) x = r := by
  cases b
  · exact k
  · rw [h rfl]; exact k
theorem eW {i : Nat} (h : i ≤ 1000) : IntKind.wrap .i64 ((i : Int) + 1) = ((i + 1 : Nat) : Int) := by rw [w64 (by omega)]; omega
theorem okR_snoc {r : List Int} {x : Int} (h : okR r) (hl : r.length < 8) (hx : -1 ≤ x ∧ x ≤ 65535) : okR (r ++ [x]) := by
  refine ⟨by simp, by simp; omega, fun y hy => ?_⟩
  rcases List.mem_append.1 hy with hy | hy
  · exact h.2.2 y hy
  · simp at hy; subst hy; exact hx
theorem pbA (n : Nat) (nx : Nat → List Dy → Option (List Dy)) (l0 : List (List Int)) (h0 : l0.length ≤ 32) (U : List (List Int)) (hU : okU U) (i : Nat) (hi : i < U.length) : ∀ (m : Nat) (l1 : List Int), okR l1 → 8 < l1.length + m →
    ∃ row, okR row ∧ RL SPB [.bool] n 3 1000002 nx m [⟨tyR, l0⟩, ⟨.list 3 (.int .i64), l1⟩, ⟨.int .i64, (l1.length : Int)⟩, ⟨.int .i64, (i : Int)⟩, ⟨tyU, U⟩] =
    nx 0 [⟨tyR, l0 ++ [row]⟩, ⟨.int .i64, IntKind.wrap .i64 ((i : Int) + 1)⟩, ⟨tyU, U⟩]
  | 0, l1, h, h2 => by have := h.2.1; omega
  | m + 1, l1, h, h2 => by
    have h8 := h.2.1
    rw [PB_L1000002, Int.toNat_natCast, Int.toNat_natCast]
    have e0 : U.getD i [] = U[i] := by rw [List.getD_eq_getElem?_getD, List.getElem?_eq_getElem hi]; rfl
    rw [e0]
    by_cases hj : l1.length < U[i].length ∧ l1.length < 8
    · have e1 : U[i].getD l1.length 0 = U[i][l1.length] := by rw [List.getD_eq_getElem?_getD, List.getElem?_eq_getElem hj.1]; rfl
      have hx := hU U[i] (List.getElem_mem hi) U[i][l1.length] (List.getElem_mem hj.1)
      generalize U[i][l1.length] = x at e1 hx
      rw [e1, eW (by omega), w64 (n := x) (by omega)]
      have hb : (decide ((l1.length : Int) < (U[i].length : Int)) && decide ((l1.length : Int) < 8)) = true := by rw [Bool.and_eq_true, decide_eq_true_eq, decide_eq_true_eq]; omega
      by_cases hm : (Int.tmod x 7 == 6) = true
      · obtain ⟨row, a1, a2⟩ := pbA n nx l0 h0 U hU i hi m (l1 ++ [-1]) (okR_snoc h hj.2 (by omega)) (by simp; omega)
        rw [List.length_append, List.length_singleton] at a2
        exact ⟨row, a1, nd (by omega) (nd (by omega) (nd hi (bp hb (nd (by omega) (nd (by omega) (nd hi (nd (by omega) (nd (by omega) (nd hj.1 (bp hm (bpd rfl (nd (by omega) (nd (by omega) a2)))))))))))))⟩
      · obtain ⟨row, a1, a2⟩ := pbA n nx l0 h0 U hU i hi m (l1 ++ [x]) (okR_snoc h hj.2 (by omega)) (by simp; omega)
        rw [List.length_append, List.length_singleton] at a2
        exact ⟨row, a1, nd (by omega) (nd (by omega) (nd hi (bp hb (nd (by omega) (nd (by omega) (nd hi (nd (by omega) (nd (by omega) (nd hj.1 (bn (by simpa using hm) (bpd rfl (nd (by simp; omega) (nd (by simp; omega) a2)))))))))))))⟩
    · have hb : (decide ((l1.length : Int) < (U[i].length : Int)) && decide ((l1.length : Int) < 8)) = false := by rw [Bool.and_eq_false_iff, decide_eq_false_iff_not, decide_eq_false_iff_not]; omega
      exact ⟨l1, h, nd (by omega) (nd (by omega) (nd hi (bn hb (nd (by simp; omega) (nd (by simp; omega) rfl)))))⟩
theorem pbB (n : Nat) (nx : Nat → List Dy → Option (List Dy)) (l0 : List (List Int)) (h0 : l0.length ≤ 32) (U : List (List Int)) (hU : okU U) (i : Nat) (hi : i < U.length) (x0 : Int) (hx0 : -1 ≤ x0 ∧ x0 ≤ 65535) (m j : Nat) (hm : 12 < j + m) (hj1 : j ≤ 1) :
    ∃ row, okR row ∧ RL SPB [.bool] n 3 2 nx m [⟨tyR, l0⟩, ⟨.int .i64, x0⟩, ⟨.int .i64, (j : Int)⟩, ⟨.int .i64, (i : Int)⟩, ⟨tyU, U⟩] =
    nx 0 [⟨tyR, l0 ++ [row]⟩, ⟨.int .i64, IntKind.wrap .i64 ((i : Int) + 1)⟩, ⟨tyU, U⟩] := by
  have key : ∀ (m j : Nat) (x0 : Int), -1 ≤ x0 ∧ x0 ≤ 65535 → 11 < j + m → j ≤ 1 → (j = 0 → ∀ x0 : Int, -1 ≤ x0 ∧ x0 ≤ 65535 → ∃ row, okR row ∧ RL SPB [.bool] n 3 2 nx (m - 1) [⟨tyR, l0⟩, ⟨.int .i64, x0⟩, ⟨.int .i64, ((1 : Nat) : Int)⟩, ⟨.int .i64, (i : Int)⟩, ⟨tyU, U⟩] =
      nx 0 [⟨tyR, l0 ++ [row]⟩, ⟨.int .i64, IntKind.wrap .i64 ((i : Int) + 1)⟩, ⟨tyU, U⟩]) →
      ∃ row, okR row ∧ RL SPB [.bool] n 3 2 nx m [⟨tyR, l0⟩, ⟨.int .i64, x0⟩, ⟨.int .i64, (j : Int)⟩, ⟨.int .i64, (i : Int)⟩, ⟨tyU, U⟩] =
      nx 0 [⟨tyR, l0 ++ [row]⟩, ⟨.int .i64, IntKind.wrap .i64 ((i : Int) + 1)⟩, ⟨tyU, U⟩] := by
    intro m j x0 hx0 hm hj1 next
    obtain ⟨m, rfl⟩ : ∃ k, m = k + 1 := ⟨m - 1, by omega⟩
    have ok1 : okR [x0] := ⟨by simp, by simp, by simpa using hx0⟩
    rw [PB_L2, Int.toNat_natCast, Int.toNat_natCast]
    have e0 : U.getD i [] = U[i] := by rw [List.getD_eq_getElem?_getD, List.getElem?_eq_getElem hi]; rfl
    rw [e0]
    by_cases hj : j < U[i].length
    · have e1 : U[i].getD j 0 = U[i][j] := by rw [List.getD_eq_getElem?_getD, List.getElem?_eq_getElem hj]; rfl
      have hx := hU U[i] (List.getElem_mem hi) U[i][j] (List.getElem_mem hj)
      generalize U[i][j] = x at e1 hx
      rw [e1, eW (by omega), w64 (n := x) (by omega)]
      have hb : (decide ((j : Int) < (U[i].length : Int)) && decide ((j : Int) < 8)) = true := by rw [Bool.and_eq_true, decide_eq_true_eq, decide_eq_true_eq]; omega
      have fin : ∀ y : Int, -1 ≤ y ∧ y ≤ 65535 → ∃ row, okR row ∧ (bif decide ((j : Int) = 0) then RL SPB [.bool] n 3 2 nx m [⟨tyR, l0⟩, ⟨.int .i64, y⟩, ⟨.int .i64, ((j + 1 : Nat) : Int)⟩, ⟨.int .i64, (i : Int)⟩, ⟨tyU, U⟩]
          else need (decide ((j : Int) = 1)) <| RL SPB [.bool] n 3 1000002 nx m [⟨tyR, l0⟩, ⟨.list 3 (.int .i64), [x0] ++ [y]⟩, ⟨.int .i64, ((j + 1 : Nat) : Int)⟩, ⟨.int .i64, (i : Int)⟩, ⟨tyU, U⟩]) =
          nx 0 [⟨tyR, l0 ++ [row]⟩, ⟨.int .i64, IntKind.wrap .i64 ((i : Int) + 1)⟩, ⟨tyU, U⟩] := by
        intro y hy
        by_cases hj0 : j = 0
        · subst hj0
          obtain ⟨row, a1, a2⟩ := next rfl y hy
          exact ⟨row, a1, bpd (by omega) a2⟩
        · obtain rfl : j = 1 := by omega
          obtain ⟨row, a1, a2⟩ := pbA n nx l0 h0 U hU i hi m [x0, y] (okR_snoc ok1 (by simp) hy) (by simp; omega)
          exact ⟨row, a1, bnd (by omega) (nd (by omega) a2)⟩
      by_cases hm : (Int.tmod x 7 == 6) = true
      · obtain ⟨row, a1, a2⟩ := fin (-1) (by omega)
        exact ⟨row, a1, nd (by omega) (nd (by omega) (nd hi (bp hb (nd (by omega) (nd (by omega) (nd hi (nd (by omega) (nd (by omega) (nd hj (bp hm a2))))))))))⟩
      · obtain ⟨row, a1, a2⟩ := fin x (by omega)
        exact ⟨row, a1, nd (by omega) (nd (by omega) (nd hi (bp hb (nd (by omega) (nd (by omega) (nd hi (nd (by omega) (nd (by omega) (nd hj (bn (by simpa using hm) a2))))))))))⟩
    · have hb : (decide ((j : Int) < (U[i].length : Int)) && decide ((j : Int) < 8)) = false := by rw [Bool.and_eq_false_iff, decide_eq_false_iff_not, decide_eq_false_iff_not]; omega
      exact ⟨[x0], ok1, nd (by omega) (nd (by omega) (nd hi (bn hb (nd (by simp; omega) (nd (by simp; omega) rfl)))))⟩
  refine key m j x0 hx0 (by omega) hj1 fun hj0 y hy => ?_
  exact key (m - 1) 1 y hy (by omega) (by omega) fun h => by omega
theorem gWr_ok {T : List (List Int)} (h : okT T) (hs : smallT T) : gWr T = true := by
  unfold gWr
  rw [Bool.and_eq_true, decide_eq_true_eq, List.all_eq_true]
  refine ⟨by have := hs.1; omega, fun r hr => ?_⟩
  rw [Bool.and_eq_true, decide_eq_true_eq, List.all_eq_true]
  refine ⟨by have := hs.2 r hr; omega, fun x hx => ?_⟩
  rw [decide_eq_true_eq]
  exact ((h r hr).2 x hx).2
theorem gT_small {T : List (List Int)} (hs : smallT T) : gT T = true := by
  refine List.all_eq_true.2 fun r hr => ?_
  have := hs.2 r hr
  rw [decide_eq_true_eq]; omega
theorem small_pr (s : List UInt8) : smallT (prT s) := by
  unfold prT
  split
  · exact cutT_small
  · exact ⟨by simp, fun r hr => by cases hr⟩
theorem pb0 (n : Nat) (hn : 100 < n) (U : List (List Int)) (hU : okU U) : ∀ (m i : Nat) (l0 : List (List Int)), i = l0.length → i ≤ 32 → 32 < i + m → okT l0 → (∀ r ∈ l0, r.length ≤ 8) →
    RL SPB [.bool] n 3 0 noNx m [⟨tyR, l0⟩, ⟨.int .i64, (i : Int)⟩, ⟨tyU, U⟩] = some [⟨.bool, true⟩]
  | 0, i, l0, h, h1, h2, _, _ => by omega
  | m + 1, i, l0, h, h1, h2, hk, h8 => by
    rw [PB_L0]
    by_cases hi : i < U.length ∧ i < 32
    · refine bp (by rw [Bool.and_eq_true, decide_eq_true_eq, decide_eq_true_eq]; omega) ?_
      obtain ⟨row, a1, a2⟩ := pbB n (updNx noNx 0 (RL SPB [.bool] n 3 0 noNx m)) l0 (by omega) U hU i hi.1 (-1) (by omega) n 0 (by omega) (by omega)
      refine Eq.trans a2 ?_
      show RL SPB [.bool] n 3 0 noNx m _ = _
      rw [eW (by omega)]
      refine pb0 n hn U hU m (i + 1) (l0 ++ [row]) (by simp; omega) (by omega) (by omega) (okT_app.2 ⟨hk, okT_one.2 ⟨a1.1, a1.2.2⟩⟩) fun r hr => ?_
      rcases List.mem_append.1 hr with hr | hr
      · exact h8 r hr
      · simp at hr; subst hr; exact a1.2.1
    · refine bn (by rw [Bool.and_eq_false_iff, decide_eq_false_iff_not, decide_eq_false_iff_not]; omega) ?_
      have hs : smallT l0 := ⟨by omega, h8⟩
      have hw := gWr_ok hk hs
      have hwl := wrT_len hw
      have A : ((l0.length : Int) == (1 : Int)) = true → 0 < l0.length := fun e => by
        rw [beq_iff_eq] at e; omega
      have B : ((l0.length : Int) == (1 : Int) && ((l0.getD 0 []).length : Int) == (1 : Int)) = true → 0 < l0.length ∧ 0 < (l0.getD 0 []).length := fun e => by
        rw [Bool.and_eq_true, beq_iff_eq, beq_iff_eq] at e; omega
      refine nq (fun _ => rfl) (nq (fun e => decide_eq_true (by have := A e; omega)) (nq (fun e => decide_eq_true (A e)) (nq (fun _ => rfl) (nq (fun e => decide_eq_true (by have := (B e).1; omega)) (nq (fun e => decide_eq_true (B e).1) (nq (fun _ => rfl) (nq (fun e => decide_eq_true (by have := (B e).2; omega)) (nq (fun e => decide_eq_true (B e).2) ?_))))))))
      have g1 : gT (prT (wrT l0)) = true := gT_small (small_pr _)
      have g2 : decide ((prT (wrT l0)).length ≤ 1000000000) = true := decide_eq_true (by have := (small_pr (wrT l0)).1; omega)
      by_cases hne : l0 = [[-1]]
      · subst hne
        refine bp rfl (Eq.trans (need_pos hw) (nd (by omega) (nq (fun _ => g1) (nq (fun _ => g2) ?_))))
        rfl
      · refine bn ?_ (Eq.trans (need_pos hw) (nd (by omega) (nq (fun _ => g1) (nq (fun _ => g2) ?_))))
        · rw [Bool.eq_false_iff]
          intro e
          rw [Bool.and_eq_true, Bool.and_eq_true, beq_iff_eq, beq_iff_eq, decide_eq_true_eq] at e
          obtain ⟨⟨e1, e2⟩, e3⟩ := e
          obtain ⟨r, rfl⟩ := List.length_eq_one_iff.1 (show l0.length = 1 by omega)
          have e2 : (r.length : Int) = 1 := e2
          obtain ⟨x, rfl⟩ := List.length_eq_one_iff.1 (show r.length = 1 by omega)
          have e3 : x < 0 := e3
          have := ((hk [x] (by simp)).2 x (by simp)).1
          exact hne (by rw [show x = -1 by omega])
        · obtain ⟨b1, b2⟩ := back hk hs hne
          rw [b1, b2]
          simp [sameT]
theorem back_ok (s : List UInt8) (U : List (List Int)) (hU : okU U) : fnY SPB loopY [.hole (.list 5 .byte), .hole tyU] [.bool] 1000 3 [⟨.list 5 .byte, s⟩, ⟨tyU, U⟩] = some [⟨.bool, true⟩] := by
  rw [PB_fn]
  have hd := drS_len s
  show need (decide ((drS s).length < 35184372088832)) (need (decide ((ownS s).length ≤ _)) (need (gWr (prT (ownS s))) (need (decide ((wrT (prT (ownS s))).length ≤ _)) (need (!isS (ownS s) || !isS (wrT (prT (ownS s))) || gT (prT (ownS s))) (need (!isS (ownS s) || !isS (wrT (prT (ownS s))) || decide ((prT (ownS s)).length ≤ _)) (bif !isS (ownS s) || !isS (wrT (prT (ownS s))) || !sameT (prT (ownS s)) (prT (wrT (prT (ownS s)))) || decide (((ownS s).length : Int) < ((wrT (prT (ownS s))).length : Int)) then some [⟨.bool, false⟩] else RL SPB [.bool] 1000 3 0 noNx 1000 [⟨tyR, []⟩, ⟨.int .i64, 0⟩, ⟨tyU, U⟩])))))) = _
  have hi := ownS_is s
  have hl := ownS_len s
  generalize ownS s = w at hi hl
  obtain ⟨k1, k2⟩ := prT_ok hi
  have hw := gWr_ok k1 k2
  have hwl := wrT_len hw
  obtain ⟨b1, b2⟩ := back k1 k2 (prT_ne hi)
  have hs := prT_short hi
  refine nd (by omega) (nd (by omega) (Eq.trans (need_pos hw) (nd (by omega) ?_)))
  refine Eq.trans (need_pos (by rw [gT_small k2]; simp)) (Eq.trans (need_pos (by rw [decide_eq_true (by have := k2.1; omega)]; simp)) ?_)
  refine bn ?_ (pb0 1000 (by omega) U hU 1000 0 [] rfl (by omega) (by omega) okT_nil fun r hr => by cases hr)
  rw [hi, b1, b2, decide_eq_false (by omega)]
  simp [sameT]
end Go.Proofs.YtbbkdhlfgekagaaDoor

namespace Go.Proofs.YtbbkdhlfgekagaaDoor
open Go Go.Am
def tysBU : List Ty := [.list 5 .byte, tyU]
theorem back_law (ds : List Dy) (h : OkDs tysBU ds) : ∃ n, fnY SPB loopY (tysBU.map .hole) [.bool] n 3 ds = some [⟨.bool, true⟩] := by
  obtain ⟨l0, _, rfl, h0, l1, _, rfl, h1, rfl⟩ := h
  refine ⟨1000, back_ok l0 l1 fun r hr x hx => ?_⟩
  have := (h1.2 r hr).2 x hx
  exact ⟨this.1, this.2⟩
end Go.Proofs.YtbbkdhlfgekagaaDoor
