/-
  Texts of this session, one behind the other: SyPure, SyArgs.
-/
import Derived.Test.YtfdhkpfkdcdloaaPart8
import Derived.IntWalk
namespace Go.Am
open Go Go.IntWalk

theorem need_pos {β : Type} {b : Bool} {x : Option β} (h : b = true) : need b x = x := by subst h; rfl
theorem need_dec {β : Type} {p : Prop} [Decidable p] {x : Option β} (h : p) : need (decide p) x = x := need_pos (decide_eq_true h)
theorem w64 {n : Int} (h : -9223372036854775808 ≤ n ∧ n ≤ 9223372036854775807) : IntKind.i64.wrap n = n := i64_in n h
theorem w8 {n : Int} (h : 0 ≤ n ∧ n ≤ 255) : IntKind.u8.wrap n = n := u8_in n h

theorem nd {β : Type} {p : Prop} [Decidable p] {x r : Option β} (h : p) (k : x = r) : need (decide p) x = r := by rw [need_dec h]; exact k
theorem np {β : Type} {b : Bool} {x r : Option β} (h : b = true) (k : x = r) : need b x = r := by rw [need_pos h]; exact k
theorem bp {β : Type} {b : Bool} {x y r : Option β} (h : b = true) (k : x = r) : (bif b then x else y) = r := by rw [h]; exact k
theorem bn {β : Type} {b : Bool} {x y r : Option β} (h : b = false) (k : y = r) : (bif b then x else y) = r := by rw [h]; exact k
theorem bc {β : Type} {b : Bool} {x y r : Option β} (h : b = true → x = r) (k : b = false → y = r) : (bif b then x else y) = r := by cases b; exact k rfl; exact h rfl

theorem bpd {β : Type} {p : Prop} [Decidable p] {x y r : Option β} (h : p) (k : x = r) : (bif decide p then x else y) = r := by rw [decide_eq_true h]; exact k
theorem bnd {β : Type} {p : Prop} [Decidable p] {x y r : Option β} (h : ¬ p) (k : y = r) : (bif decide p then x else y) = r := by rw [decide_eq_false h]; exact k
end Go.Am

namespace Go.Am
open Go Go.RowKit Go.ChangeShapes

def layF (lay : TypeId → Option Ty) (P : Program) : Nat → List Field → Option Ty
 | _, [] => some .unit
 | off, f :: r => match lay f.type, layF lay P (off + P.cellsOf f.type) r with
  | some a, some b => if f.offset = off ∧ a.size = P.cellsOf f.type then some (.pair a b) else none
  | _, _ => none
def arrTy (a : Ty) : Nat → Ty
 | 0 => .unit
 | n + 1 => .pair a (arrTy a n)
def OkTy : (t : Ty) → t.den → Prop
 | .int k, n => k.min ≤ n ∧ n ≤ k.max
 | .byte, _ | .bool, _ | .unit, _ => True
 | .str, s => s.length ≤ maxLen
 | .pair a b, p => OkTy a p.1 ∧ OkTy b p.2
 | .list _ t, l => l.length ≤ maxLen ∧ ∀ x ∈ l, OkTy t x

section
variable {H : Type} {enc : TypeId × Value → H} {P : Program} {w : World} {base : Nat} {sp : Nat → Bool} {held : Bool} {ρ : Nat → Loc} {c : RC}

theorem arr_size (a : Ty) : ∀ n, (arrTy a n).size = n * a.size
 | 0 => by simp [arrTy, Ty.size]
 | n + 1 => by simp only [arrTy, Ty.size, arr_size a n, Nat.add_mul]; omega

theorem mapM_get {α β : Type} {f : α → Option β} {l : List α} {r : List β} (h : l.mapM f = some r) (i : Nat) (a : α) (hi : l[i]? = some a) : ∃ b, f a = some b := by
 induction l generalizing r i with
 | nil => simp at hi
 | cons x l ih =>
  simp only [List.mapM_cons, Option.pure_def, Option.bind_eq_bind, Option.bind_eq_some_iff] at h
  obtain ⟨b, hb, r', hr', _⟩ := h
  cases i with
  | zero => simp at hi; subst hi; exact ⟨b, hb⟩
  | succ i => exact ih hr' i (by simpa using hi)

def OkDs : List Ty → List Dy → Prop
 | [], ds => ds = []
 | t :: r, ds => ∃ (x : t.den) (ds' : List Dy), ds = ⟨t, x⟩ :: ds' ∧ OkTy t x ∧ OkDs r ds'

end

theorem hole_pure : ∀ tys : List Ty, SP.pureL (tys.map .hole) = true
 | [] => rfl
 | _ :: r => by simp [SP.pureL, SP.pure, hole_pure r]

theorem trodAll_len {H : Type} {enc : TypeId × Value → H} {P : Program} {w : World} {base : Nat} {sp : Nat → Bool} {held : Bool} : ∀ {ts : List TypeId} {vs : List Value} {ds : List (DataW H)} {ps : List MemPlace}, DataW.TrodAll enc P w base sp held ts vs ds ps → ds.length = ts.length
 | [], [], [], _, _ => rfl
 | [], [], _ :: _, _, h => by simp [DataW.TrodAll] at h
 | [], _ :: _, _, _, h => by simp [DataW.TrodAll] at h
 | _ :: _, [], _, _, h => by simp [DataW.TrodAll] at h
 | _ :: _, _ :: _, [], _, h => by simp [DataW.TrodAll] at h
 | t :: ts, v :: vs, d :: ds, ps, h => by
  obtain ⟨p, q, _, h2, _⟩ := h
  simp [trodAll_len h2]

end Go.Am
