/-
  Texts of this session, one behind the other: SyPure, SyArgs.
-/
import Derived.Test.YtbbkdhlfgekagaaDoorPart8
import Derived.IntWalk
namespace Go.Am
open Go Go.IntWalk

theorem need_pos {β : Type} {b : Bool} {x : Option β} (h : b = true) : need b x = x := by subst h; rfl
theorem need_dec {β : Type} {p : Prop} [Decidable p] {x : Option β} (h : p) : need (decide p) x = x := need_pos (decide_eq_true h)
theorem bif_pos {α : Type} {b : Bool} {x y : α} (h : b = true) : (bif b then x else y) = x := by subst h; rfl
theorem bif_neg {α : Type} {b : Bool} {x y : α} (h : b = false) : (bif b then x else y) = y := by subst h; rfl
theorem bif_dec {α : Type} {p : Prop} [Decidable p] {x y : α} : (bif decide p then x else y) = if p then x else y := by
  by_cases h : p <;> simp [h]
theorem bif_if {α : Type} {b : Bool} {x y : α} : (bif b then x else y) = if b = true then x else y := by cases b <;> rfl

theorem w64 {n : Int} (h : -9223372036854775808 ≤ n ∧ n ≤ 9223372036854775807) : IntKind.i64.wrap n = n := i64_in n h
theorem w32 {n : Int} (h : -2147483648 ≤ n ∧ n ≤ 2147483647) : IntKind.i32.wrap n = n := i32_in n h
theorem w8 {n : Int} (h : 0 ≤ n ∧ n ≤ 255) : IntKind.u8.wrap n = n := u8_in n h
theorem wu32 {n : Int} (h : 0 ≤ n ∧ n ≤ 4294967295) : IntKind.u32.wrap n = n := u32_in n h
theorem wu64 {n : Int} (h : 0 ≤ n ∧ n ≤ 18446744073709551615) : IntKind.u64.wrap n = n := u64_in n h
theorem wu16 {n : Int} (h : 0 ≤ n ∧ n ≤ 65535) : IntKind.u16.wrap n = n := u16_in n h

theorem dyI {k : IntKind} {a b : Int} (h : a = b) : (⟨.int k, a⟩ : Dy) = ⟨.int k, b⟩ := by subst h; rfl
theorem dyB {a b : Bool} (h : a = b) : (⟨.bool, a⟩ : Dy) = ⟨.bool, b⟩ := by subst h; rfl
theorem dyS {a b : List UInt8} (h : a = b) : (⟨.str, a⟩ : Dy) = ⟨.str, b⟩ := by subst h; rfl
theorem ret1 {a b : Dy} (h : a = b) : some [a] = some [b] := by rw [h]
theorem ret2 {a b c d : Dy} (h : a = b) (h2 : c = d) : some [a, c] = some [b, d] := by rw [h, h2]

theorem bv_nat {w a : Nat} (h : a < 2 ^ w) : (BitVec.ofInt w (a : Int)).toNat = a := by
  rw [BitVec.toNat_ofInt]
  have : ((a : Int) % ((2 ^ w : Nat) : Int)) = (a : Int) := Int.emod_eq_of_lt (by omega) (by exact_mod_cast h)
  rw [this]; rfl
theorem bv_and {w a b : Nat} (ha : a < 2 ^ w) (hb : b < 2 ^ w) : (BitVec.ofInt w (a : Int) &&& BitVec.ofInt w (b : Int)).toNat = a &&& b := by
  rw [BitVec.toNat_and, bv_nat ha, bv_nat hb]
theorem bv_or {w a b : Nat} (ha : a < 2 ^ w) (hb : b < 2 ^ w) : (BitVec.ofInt w (a : Int) ||| BitVec.ofInt w (b : Int)).toNat = a ||| b := by
  rw [BitVec.toNat_or, bv_nat ha, bv_nat hb]
theorem bv_xor {w a b : Nat} (ha : a < 2 ^ w) (hb : b < 2 ^ w) : (BitVec.ofInt w (a : Int) ^^^ BitVec.ofInt w (b : Int)).toNat = a ^^^ b := by
  rw [BitVec.toNat_xor, bv_nat ha, bv_nat hb]
theorem bv_mask {w a k : Nat} (ha : a < 2 ^ w) (hk : k ≤ w) {c : Int} (hc : c = ((2 ^ k - 1 : Nat) : Int)) : (BitVec.ofInt w (a : Int) &&& BitVec.ofInt w c).toNat = a % 2 ^ k := by
  subst hc
  have h2 : 2 ^ k ≤ 2 ^ w := Nat.pow_le_pow_right (by omega) hk
  have h3 : 0 < 2 ^ k := Nat.pos_of_ne_zero (by simp)
  rw [bv_and ha (by omega), Nat.and_two_pow_sub_one_eq_mod]
theorem bv_join {w a b k : Nat} (ha : a * 2 ^ k < 2 ^ w) (hb : b < 2 ^ k) (hk : k ≤ w) {x y : Int} (hx : x = ((a * 2 ^ k : Nat) : Int)) (hy : y = (b : Int)) : (BitVec.ofInt w x ||| BitVec.ofInt w y).toNat = a * 2 ^ k + b := by
  subst hx hy
  have h2 : 2 ^ k ≤ 2 ^ w := Nat.pow_le_pow_right (by omega) hk
  rw [bv_or ha (by omega), ← Nat.shiftLeft_eq, Nat.shiftLeft_add_eq_or_of_lt hb]
theorem fdiv_nat (a b : Nat) : Int.fdiv (a : Int) (b : Int) = ((a / b : Nat) : Int) := by
  rw [Int.fdiv_eq_ediv_of_nonneg _ (by omega)]; rfl

theorem cutMin {α : Type} {K : Int} (k : Nat) (hk : K = (k : Int)) (s : List α) : List.take (Int.toNat (if K < (s.length : Int) then K else (s.length : Int))) s = s.take k := by
  subst hk
  split
  · rw [Int.toNat_natCast]
  · rw [Int.toNat_natCast, List.take_length, List.take_of_length_le (by omega)]
theorem cutMin_le {K : Int} (hk : 0 ≤ K) (n : Nat) : (0 : Int) ≤ (if K < (n : Int) then K else (n : Int)) ∧ (if K < (n : Int) then K else (n : Int)) ≤ (n : Int) := by
  split <;> omega

theorem nd {β : Type} {p : Prop} [Decidable p] {x r : Option β} (h : p) (k : x = r) : need (decide p) x = r := by rw [need_dec h]; exact k
theorem np {β : Type} {b : Bool} {x r : Option β} (h : b = true) (k : x = r) : need b x = r := by rw [need_pos h]; exact k
theorem bp {β : Type} {b : Bool} {x y r : Option β} (h : b = true) (k : x = r) : (bif b then x else y) = r := by rw [h]; exact k
theorem bn {β : Type} {b : Bool} {x y r : Option β} (h : b = false) (k : y = r) : (bif b then x else y) = r := by rw [h]; exact k
theorem bc {β : Type} {b : Bool} {x y r : Option β} (h : b = true → x = r) (k : b = false → y = r) : (bif b then x else y) = r := by cases b; exact k rfl; exact h rfl

theorem nn {β : Type} {p : Prop} [Decidable p] {x r : Option β} (h : ¬ p) (k : x = r) : need (!decide p) x = r := by rw [decide_eq_false h]; exact k
theorem bpd {β : Type} {p : Prop} [Decidable p] {x y r : Option β} (h : p) (k : x = r) : (bif decide p then x else y) = r := by rw [decide_eq_true h]; exact k
theorem bnd {β : Type} {p : Prop} [Decidable p] {x y r : Option β} (h : ¬ p) (k : y = r) : (bif decide p then x else y) = r := by rw [decide_eq_false h]; exact k
theorem bcd {β : Type} {p : Prop} [Decidable p] {x y r : Option β} (h : p → x = r) (k : ¬ p → y = r) : (bif decide p then x else y) = r := by
  by_cases e : p
  · exact bpd e (h e)
  · exact bnd e (k e)

end Go.Am

namespace Go.Am
open Go Go.RowKit Go.ChangeShapes

def layF (lay : TypeId → Option Ty) (P : Program) : Nat → List Field → Option Ty
  | _, [] => some .unit
  | off, f :: r => match lay f.type, layF lay P (off + P.cellsOf f.type) r with
    | some a, some b => if f.offset = off ∧ a.size = P.cellsOf f.type then some (.pair a b) else none
    | _, _ => none
def arrTy (a : Ty) : Nat → Ty
  | 0 => .unit
  | n + 1 => .pair a (arrTy a n)
def lay (P : Program) : Nat → TypeId → Option Ty
  | 0, _ => none
  | d + 1, t => match P.underlying t with
    | some (.int .u8) => some .byte
    | some (.int k) => some (.int k)
    | some .bool => some .bool
    | some .string => some .str
    | some (.struct fs) => match layF (lay P d) P 0 fs.toList with
      | some ty => if ty.size = P.cellsOf t then some ty else none
      | none => none
    | some (.array n e) => match lay P d e with
      | some a => if a.size = P.cellsOf e ∧ n * P.cellsOf e = P.cellsOf t then some (arrTy a n) else none
      | none => none
    | _ => none

def OkTy : (t : Ty) → t.den → Prop
  | .int k, n => k.min ≤ n ∧ n ≤ k.max
  | .byte, _ | .bool, _ | .unit, _ => True
  | .str, s => s.length ≤ maxLen
  | .pair a b, p => OkTy a p.1 ∧ OkTy b p.2
  | .list _ t, l => l.length ≤ maxLen ∧ ∀ x ∈ l, OkTy t x

section
variable {H : Type} {enc : TypeId × Value → H} {P : Program} {w : World} {base : Nat} {sp : Nat → Bool} {held : Bool} {ρ : Nat → Loc} {c : RC}

def Opens (ρ : Nat → Loc) (c : RC) (ty : Ty) (cs : List Value) : Prop := ∃ (x : ty.den) (vs : List V), cs = vs.map (V.emb ρ) ∧ ER c ty x vs ∧ OkTy ty x ∧ ∀ v ∈ vs, v.flat = true

theorem Opens.pair {a b : Ty} {c1 c2 : List Value} (h1 : Opens ρ c a c1) (h2 : Opens ρ c b c2) : Opens ρ c (.pair a b) (c1 ++ c2) := by
  obtain ⟨x, vs, e1, e2, e3, e4⟩ := h1
  obtain ⟨y, us, f1, f2, f3, f4⟩ := h2
  refine ⟨(x, y), vs ++ us, by rw [e1, f1, List.map_append], ⟨vs, us, rfl, e2, f2⟩, ⟨e3, f3⟩, fun v hv => ?_⟩
  rcases List.mem_append.1 hv with h | h
  · exact e4 v h
  · exact f4 v h
theorem Opens.unit : Opens ρ c .unit [] := ⟨(), [], rfl, rfl, trivial, fun v hv => by cases hv⟩

theorem open_fields {lay : TypeId → Option Ty} {cs : List Value} : ∀ (fl : List Field) (off : Nat) (ty : Ty), layF lay P off fl = some ty →
    (∀ f ∈ fl, ∀ a, lay f.type = some a → Opens ρ c a ((cs.drop f.offset).take (P.cellsOf f.type))) → Opens ρ c ty ((cs.drop off).take ty.size)
  | [], off, ty, h, _ => by
    simp only [layF, Option.some.injEq] at h
    subst h
    simp only [Ty.size, List.take_zero]
    exact Opens.unit
  | f :: r, off, ty, h, hf => by
    simp only [layF] at h
    split at h
    · rename_i a b ha hb
      obtain ⟨⟨h1, h2⟩, h⟩ := of_ite2 h
      cases h
      have e1 := hf f (by simp) a ha
      have e2 := open_fields r _ b hb (fun g hg => hf g (List.mem_cons_of_mem _ hg))
      rw [h1, ← h2] at e1
      rw [← h2] at e2
      have : (cs.drop off).take (a.size + b.size) = (cs.drop off).take a.size ++ (cs.drop (off + a.size)).take b.size := by
        rw [List.take_add, List.drop_drop]
      simp only [Ty.size, this]
      exact e1.pair e2
    · cases h

theorem open_arr {a : Ty} {cs : List Value} {sz : Nat} (hsz : a.size = sz) : ∀ (n off : Nat), (∀ i, i < n → Opens ρ c a ((cs.drop (off + i * sz)).take sz)) → Opens ρ c (arrTy a n) ((cs.drop off).take (arrTy a n).size)
  | 0, off, _ => by
    simp only [arrTy, Ty.size, List.take_zero]
    exact Opens.unit
  | n + 1, off, h => by
    have e1 := h 0 (by omega)
    rw [Nat.zero_mul, Nat.add_zero, ← hsz] at e1
    have e2 := open_arr hsz n (off + sz) fun i hi => by
      have := h (i + 1) (by omega)
      rwa [show off + (i + 1) * sz = off + sz + i * sz by rw [Nat.add_mul]; omega] at this
    have : (cs.drop off).take (a.size + (arrTy a n).size) = (cs.drop off).take a.size ++ (cs.drop (off + sz)).take (arrTy a n).size := by
      rw [List.take_add, List.drop_drop, hsz]
    simp only [arrTy, Ty.size, this]
    exact e1.pair e2

theorem arr_size (a : Ty) : ∀ n, (arrTy a n).size = n * a.size
  | 0 => by simp [arrTy, Ty.size]
  | n + 1 => by simp only [arrTy, Ty.size, arr_size a n, Nat.add_mul]; omega

theorem mapM_get {α β : Type} {f : α → Option β} {l : List α} {r : List β} (h : l.mapM f = some r) (i : Nat) (a : α) (hi : l[i]? = some a) : ∃ b, f a = some b := by
  induction l generalizing r i with
  | nil => simp at hi
  | cons x l ih =>
    simp only [List.mapM_cons, Option.pure_def, Option.bind_eq_bind, Option.bind_eq_some_iff] at h
    obtain ⟨b, hb, r', hr', _⟩ := h
    cases i with
    | zero => simp at hi; subst hi; exact ⟨b, hb⟩
    | succ i => exact ih hr' i (by simpa using hi)

theorem open_cells : ∀ (d : Nat) (t : TypeId) (ty : Ty) (fuel : Nat) (cs : List Value) (x : DataW H × List MemPlace), lay P d t = some ty → DataW.trod enc P w base sp held fuel t cs = some x → Opens ρ c ty cs
  | 0, t, ty, fuel, cs, x, h, _ => by simp [lay] at h
  | d + 1, t, ty, fuel, cs, x, h, hx => by
    simp only [lay] at h
    split at h
    · rename_i ht
      cases h
      obtain ⟨n, rfl, rfl, hw⟩ := DataW.trod_int ht hx
      simp only [Lit.wf, Bool.and_eq_true, decide_eq_true_eq] at hw
      have h0 : IntKind.min .u8 = 0 := rfl
      have h1 : IntKind.max .u8 = 255 := rfl
      rw [h0, h1] at hw
      refine ⟨UInt8.ofNat n.toNat, [.int .u8 n], rfl, ?_, trivial, fun v hv => by simp only [List.mem_singleton] at hv; subst hv; rfl⟩
      simp only [ER]
      rw [byte_back hw.1 (by omega)]
    · rename_i k _ ht
      cases h
      obtain ⟨n, rfl, rfl, hw⟩ := DataW.trod_int ht hx
      simp only [Lit.wf, Bool.and_eq_true, decide_eq_true_eq] at hw
      exact ⟨n, [.int k n], rfl, rfl, hw, fun v hv => by simp only [List.mem_singleton] at hv; subst hv; rfl⟩
    · rename_i ht
      cases h
      obtain ⟨b, rfl, rfl⟩ := DataW.trod_bool ht hx
      exact ⟨b, [.bool b], rfl, rfl, trivial, fun v hv => by simp only [List.mem_singleton] at hv; subst hv; rfl⟩
    · rename_i ht
      cases h
      obtain ⟨s, rfl, rfl, hs⟩ := DataW.trod_string ht hx
      exact ⟨s.data.toList, [.str s.data.toList], rfl, rfl, hs, fun v hv => by simp only [List.mem_singleton] at hv; subst hv; rfl⟩
    · rename_i fs ht
      split at h
      · rename_i ty' hty
        obtain ⟨hsz, h⟩ := of_ite2 h
        cases h
        obtain ⟨xs, n, rfl, rfl, hl, hxl, hget⟩ := DataW.trod_struct ht hx
        have := open_fields (ρ := ρ) (c := c) (cs := cs) fs.toList 0 ty hty fun f hf a ha => by
          obtain ⟨i, hi⟩ := List.getElem?_of_mem hf
          have hi' : fs[i]? = some f := by simpa using hi
          have hlt : i < xs.length := by rw [hxl]; exact (Array.getElem?_eq_some_iff.1 hi').1
          have hg := hget i f hi'
          rw [List.getElem?_eq_getElem hlt] at hg
          exact open_cells d f.type a n _ _ ha hg
        rw [List.drop_zero, hsz, ← hl, List.take_length] at this
        exact this
      · cases h
    · rename_i n e ht
      split at h
      · rename_i a ha
        obtain ⟨⟨h1, h2⟩, h⟩ := of_ite2 h
        cases h
        cases fuel with
        | zero => simp [DataW.trod] at hx
        | succ m =>
          unfold DataW.trod at hx
          rw [ht] at hx
          simp only at hx
          obtain ⟨hl, hx⟩ := of_ite2 hx
          rw [Option.map_eq_some_iff] at hx
          obtain ⟨xs, hxs, _⟩ := hx
          have := open_arr (ρ := ρ) (c := c) (cs := cs) h1 n 0 fun i hi => by
            obtain ⟨b, hb⟩ := mapM_get hxs i i (by simp [hi])
            rw [Nat.zero_add]
            exact open_cells d e a m _ b ha hb
          rw [List.drop_zero, arr_size, h1, h2, ← hl, List.take_length] at this
          exact this
      · cases h
    · cases h

theorem open_arg {r : Go.Reach} {b0 : Nat} {d : Nat} {t : TypeId} {ty : Ty} {v : Value} {D : DataW H} {ps : List MemPlace} (hl : lay P d t = some ty) (hval : Value.okWide P w r b0 t v) (hd : DataW.Trod enc P w base sp held t v D ps) :
    ∃ (x : ty.den) (y : V), v = y.emb ρ ∧ VR c (instH ty x) y ∧ OkTy ty x ∧ y.flat = true := by
  obtain ⟨fuel, hf⟩ := hd
  obtain ⟨x, vs, e1, e2, e3, e4⟩ := open_cells (ρ := ρ) (c := c) d t ty fuel _ _ hl hf
  cases d with
  | zero => simp [lay] at hl
  | succ d =>
    unfold Value.okWide at hval
    have scalar : isCompound ty = false → (∀ u, vs = [u] → v.cells.toList = [u.emb ρ] → v = u.emb ρ) → ∃ (x : ty.den) (y : V), v = y.emb ρ ∧ VR c (instH ty x) y ∧ OkTy ty x ∧ y.flat = true := by
      intro hc hone
      have hlen := e2.length
      have h1 : ty.size = 1 := by cases ty <;> first | rfl | cases hc
      rw [h1] at hlen
      obtain ⟨u, rfl⟩ := List.length_eq_one_iff.1 hlen
      refine ⟨x, u, hone u rfl (by simpa using e1), instH_er.2 ⟨[u], e2, by rw [hc]; rfl, fun _ => rfl⟩, e3, e4 u (by simp)⟩
    have comp : isCompound ty = true → (∃ cs, v = .agg cs) → ∃ (x : ty.den) (y : V), v = y.emb ρ ∧ VR c (instH ty x) y ∧ OkTy ty x ∧ y.flat = true := by
      rintro hc ⟨cs, rfl⟩
      refine ⟨x, .agg vs, ?_, instH_er.2 ⟨vs, e2, by rw [hc]; rfl, fun h => by rw [hc] at h; cases h⟩, e3, flat_agg.2 e4⟩
      simp only [Value.cells] at e1
      simp only [V.emb, embL_eq]
      rw [← e1]
    simp only [lay] at hl
    split at hl
    · rename_i ht
      cases hl
      rw [ht] at hval
      simp only [Cell.okWide, Cell.ok, ht] at hval
      exact scalar rfl fun u hu hc => by cases v <;> first | (simp only [Value.cells] at hc; simpa using hc) | (simp at hval)
    · rename_i k _ ht
      cases hl
      rw [ht] at hval
      simp only [Cell.okWide, Cell.ok, ht] at hval
      exact scalar rfl fun u hu hc => by cases v <;> first | (simp only [Value.cells] at hc; simpa using hc) | (simp at hval)
    · rename_i ht
      cases hl
      rw [ht] at hval
      simp only [Cell.okWide, Cell.ok, ht] at hval
      exact scalar rfl fun u hu hc => by cases v <;> first | (simp only [Value.cells] at hc; simpa using hc) | (simp at hval)
    · rename_i ht
      cases hl
      rw [ht] at hval
      simp only [Cell.okWide, Cell.ok, ht] at hval
      exact scalar rfl fun u hu hc => by cases v <;> first | (simp only [Value.cells] at hc; simpa using hc) | (simp at hval)
    · rename_i fs ht
      rw [ht] at hval
      obtain ⟨cs, h1, _⟩ := hval
      split at hl
      · rename_i ty' hty
        have hl := (of_ite2 hl).2
        cases hl
        refine comp ?_ ⟨cs, h1⟩
        cases hfl : fs.toList with
        | nil => rw [hfl] at hty; simp only [layF, Option.some.injEq] at hty; subst hty; rfl
        | cons f r =>
          rw [hfl] at hty
          simp only [layF] at hty
          split at hty
          · have hty := (of_ite2 hty).2
            cases hty
            rfl
          · cases hty
      · cases hl
    · rename_i n e ht
      rw [ht] at hval
      obtain ⟨cs, h1, _⟩ := hval
      split at hl
      · have hl := (of_ite2 hl).2
        cases hl
        refine comp ?_ ⟨cs, h1⟩
        cases n <;> rfl
      · cases hl
    · cases hl

def layAll (P : Program) (d : Nat) : List TypeId → Option (List Ty)
  | [] => some []
  | t :: r => match lay P d t, layAll P d r with
    | some a, some b => some (a :: b)
    | _, _ => none

def OkDs : List Ty → List Dy → Prop
  | [], ds => ds = []
  | t :: r, ds => ∃ (x : t.den) (ds' : List Dy), ds = ⟨t, x⟩ :: ds' ∧ OkTy t x ∧ OkDs r ds'

theorem open_args {d b0 : Nat} : ∀ (ts : List TypeId) (tys : List Ty) (vs : List Value) (Ds : List (DataW H)) (ps : List MemPlace), layAll P d ts = some tys → DataW.TrodAll enc P w base sp held ts vs Ds ps →
    (∀ (j : Nat) t v, ts[j]? = some t → vs[j]? = some v → Value.okWide P w .any b0 t v) →
    ∃ (ds : List Dy) (ys : List V) (as : List SV), vs = ys.map (V.emb ρ) ∧ instPL [] (tys.map .hole) ds = some (as, []) ∧ VRL c as ys ∧ OkDs tys ds ∧ ∀ y ∈ ys, y.flat = true
  | [], tys, [], [], ps, hl, _, _ => by
    simp only [layAll, Option.some.injEq] at hl
    subst hl
    exact ⟨[], [], [], rfl, rfl, rfl, rfl, fun y hy => by cases hy⟩
  | [], tys, [], _ :: _, ps, hl, h, _ => by simp [DataW.TrodAll] at h
  | [], tys, _ :: _, _, ps, hl, h, _ => by simp [DataW.TrodAll] at h
  | _ :: _, tys, [], _, ps, hl, h, _ => by simp [DataW.TrodAll] at h
  | _ :: _, tys, _ :: _, [], ps, hl, h, _ => by simp [DataW.TrodAll] at h
  | t :: ts, tys, v :: vs, D :: Ds, ps, hl, h, hval => by
    simp only [layAll] at hl
    split at hl
    · rename_i a b ha hb
      cases hl
      obtain ⟨p, q, h1, h2, _⟩ := h
      obtain ⟨x, y, e1, e2, e3, e4⟩ := open_arg (ρ := ρ) (c := c) ha (hval 0 t v rfl rfl) h1
      obtain ⟨ds, ys, as, f1, f2, f3, f4, f5⟩ := open_args ts b vs Ds q hb h2 fun j t v ht hv => hval (j + 1) t v (by simpa using ht) (by simpa using hv)
      refine ⟨⟨a, x⟩ :: ds, y :: ys, instH a x :: as, by rw [e1, f1]; rfl, ?_, ⟨y, ys, rfl, e2, f3⟩, ⟨x, ds, rfl, e3, f4⟩, fun z hz => ?_⟩
      · simp only [List.map_cons, instPL, instP, popD_self, f2]
      · rcases List.mem_cons.1 hz with rfl | hz
        · exact e4
        · exact f5 z hz
    · cases hl
end

theorem hole_pure : ∀ tys : List Ty, SP.pureL (tys.map .hole) = true
  | [] => rfl
  | _ :: r => by simp [SP.pureL, SP.pure, hole_pure r]

theorem law_flat {S : SE} (hS : SOkE S) (ok : S.E.Ok) {g : FuncId} (hOg : NoOrc S.E g) (hfull : S.E.full g = false) {H : Type} {enc : TypeId × Value → H} {w : World} (hG : Globs S.E w) {ts : List TypeId} {tys : List Ty} {d b0 : Nat} (hl : layAll S.E.P d ts = some tys)
    (h : ∀ ds, OkDs tys ds → ∃ n, fnY S loopY (tys.map .hole) [.bool] n g ds = some [⟨.bool, true⟩]) {vs : List Value} {Ds : List (DataW H)} {ps : List MemPlace} (ht : DataW.TrodAll enc S.E.P w 0 (fun _ => true) true ts vs Ds ps)
    (hval : ∀ (j : Nat) t v, ts[j]? = some t → vs[j]? = some v → Value.okWide S.E.P w .any b0 t v) :
    Calls S.E.P g vs.toArray w fun e w' => e = .returned (.bool true) ∧ Below w.heap.size w w' := by
  obtain ⟨ds, ys, as, e1, e2, e3, e4, e5⟩ := open_args (ρ := rho0) (c := ⟨[], fun _ => False, fun _ => none, fun _ => none⟩) ts tys vs Ds ps hl ht hval
  obtain ⟨n, hn⟩ := h ds e4
  have hsv : instTy [.bool] [⟨.bool, true⟩] = some [SV.v (.bool true)] := by
    unfold instTy
    rw [show popD Ty.bool [⟨Ty.bool, true⟩] = some (true, []) from popD_self (t := .bool)]
    rfl
  obtain ⟨cr, h1, h2, h3⟩ := fn_gives hS.G hS.ctr hS.orc hS.mem hOg hfull (hole_pure tys) hn e2 e3 (fun j hj => hj.elim) hsv
  obtain ⟨v, rfl⟩ := h2 rfl
  obtain ⟨rfl, _⟩ := h3
  subst e1
  have hlt : ltL 0 ys := fun y hy => lt_flat (e5 y hy) 0
  refine (h1.calls ok hlt (WR.emptyG hG rho0)).mono fun e w' hp => ?_
  obtain ⟨rfl, _, hg⟩ := hp
  exact ⟨rfl, hg.below0⟩

theorem trodAll_len {H : Type} {enc : TypeId × Value → H} {P : Program} {w : World} {base : Nat} {sp : Nat → Bool} {held : Bool} : ∀ {ts : List TypeId} {vs : List Value} {ds : List (DataW H)} {ps : List MemPlace}, DataW.TrodAll enc P w base sp held ts vs ds ps → ds.length = ts.length
  | [], [], [], _, _ => rfl
  | [], [], _ :: _, _, h => by simp [DataW.TrodAll] at h
  | [], _ :: _, _, _, h => by simp [DataW.TrodAll] at h
  | _ :: _, [], _, _, h => by simp [DataW.TrodAll] at h
  | _ :: _, _ :: _, [], _, h => by simp [DataW.TrodAll] at h
  | t :: ts, v :: vs, d :: ds, ps, h => by
    obtain ⟨p, q, _, h2, _⟩ := h
    simp [trodAll_len h2]

end Go.Am
