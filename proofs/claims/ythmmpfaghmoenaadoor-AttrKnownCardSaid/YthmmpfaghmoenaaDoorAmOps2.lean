/-
  Each operation of the evaluator is one of the model's: numbers, texts, parts, bounds, keys.
-/
import Derived.Test.YthmmpfaghmoenaaDoorAmOps
namespace Go.Am
open Go

variable {P : Program} {E : Env} {N : Nat} {ρ : Nat → Loc} {H : List AObj} {w : World}

/-! ### Binary operations -/

def plainPair : Value → Value → Bool
  | .int .., .int .. | .float .., .float .. | .complex .., .complex .. | .string .., .string .. => false
  | _, _ => true

theorem binOp_eql_gen (t : TypeId) (x y : Value) (h : plainPair x y = true) : binOp .eql t x y = (do pure (.bool (← Op.equal t x y))) := by
  unfold binOp
  split <;> first | rfl | (simp_all [plainPair]; done)

theorem binOp_neq_gen (t : TypeId) (x y : Value) (h : plainPair x y = true) : binOp .neq t x y = (do pure (.bool (!(← Op.equal t x y)))) := by
  unfold binOp
  split <;> first | rfl | (simp_all [plainPair]; done)

theorem run_eqGuard_gen (op : BinOp) (t : TypeId) (x y : Operand) (a b : Value) (h1 : ¬ (a = .nilIface ∧ b = .nilIface)) (h2 : ∀ c d, ¬ (a = .agg c ∧ b = .agg d)) :
    (eqGuard op t x y a b).run P w = .ok () w := by
  unfold eqGuard
  cases op <;> first
    | rfl
    | (simp only [Bool.not_true, Bool.false_eq_true, if_false]
       split
       · exact absurd ⟨rfl, rfl⟩ h1
       · exact absurd ⟨rfl, rfl⟩ (h2 _ _)
       · rfl)

theorem run_eqGuard_const (op : BinOp) (t : TypeId) (x y : Operand) (h : (isConst x || isConst y) = true) : (eqGuard op t x y .nilIface .nilIface).run P w = .ok () w := by
  unfold eqGuard
  cases op <;> first
    | rfl
    | (cases x <;> cases y <;> first | rfl | exact Bool.noConfusion h)

theorem flat_int (k : IntKind) (n : Int) : (V.int k n).flat = true := rfl
theorem flat_bool (b : Bool) : (V.bool b).flat = true := rfl
theorem flat_str (s : List UInt8) : (V.str s).flat = true := rfl

theorem binOp_int (op : BinOp) (t : TypeId) (k : IntKind) (a b : Int) (h : op ≠ .shl ∧ op ≠ .shr) : binOp op t (.int k a) (.int k b) =
    (match op with
    | .add | .sub | .mul => Op.intArith op k a b
    | .quo | .rem => Op.intDiv op k a b
    | .and | .or | .xor | .andNot => Op.intBits op k a b
    | _ => Op.intCmp op a b) := by
  cases op <;> first
    | (simp [binOp]; done)
    | exact absurd rfl h.1
    | exact absurd rfl h.2

theorem run_intBin {op : BinOp} {k : IntKind} {a b : Int} {v : V} (h : intBin op k a b = some v) (t : TypeId) (ρ : Nat → Loc) (w : World) :
    (binOp op t (.int k a) (.int k b)).run P w = .ok (v.emb ρ) w ∧ v.flat = true := by
  cases op <;> simp only [intBin] at h
  case quo =>
    split at h
    · cases h
    · rename_i hb
      simp only [Option.some.injEq] at h
      subst h
      exact ⟨by rw [binOp_int _ _ _ _ _ (by decide)]; simp [Op.intDiv, hb], rfl⟩
  case rem =>
    split at h
    · cases h
    · rename_i hb
      simp only [Option.some.injEq] at h
      subst h
      exact ⟨by rw [binOp_int _ _ _ _ _ (by decide)]; simp [Op.intDiv, hb], rfl⟩
  all_goals first
    | (cases h; done)
    | (simp only [Option.some.injEq] at h; subst h; exact ⟨by rw [binOp_int _ _ _ _ _ (by decide)]; simp [Op.intArith, Op.intBits, Op.intCmp], rfl⟩)

theorem run_shiftV {op : BinOp} {k k' : IntKind} {a b : Int} {v : V} (h : shiftV op k a b = some v) (hop : op = .shl ∨ op = .shr) (t : TypeId) (ρ : Nat → Loc) (w : World) :
    (binOp op t (.int k a) (.int k' b)).run P w = .ok (v.emb ρ) w ∧ v.flat = true := by
  unfold shiftV at h
  split at h
  · cases h
  · rename_i hb
    rcases hop with rfl | rfl
    · simp only [Option.some.injEq] at h; subst h; exact ⟨by simp [binOp, Op.shift, hb], rfl⟩
    · simp only [Option.some.injEq] at h; subst h; exact ⟨by simp [binOp, Op.shift, hb], rfl⟩

theorem str_append (a b : List UInt8) : (⟨⟨a⟩⟩ : ByteArray) ++ ⟨⟨b⟩⟩ = ⟨⟨a ++ b⟩⟩ := by
  apply ByteArray.ext
  apply Array.ext'
  simp

theorem str_size (a : List UInt8) : (⟨⟨a⟩⟩ : ByteArray).size = a.length := rfl

theorem run_strBin {op : BinOp} {a b : List UInt8} {v : V} (h : strBin op a b = some v) (t : TypeId) (ρ : Nat → Loc) (w : World) :
    (binOp op t (.string ⟨⟨a⟩⟩) (.string ⟨⟨b⟩⟩)).run P w = .ok (v.emb ρ) w ∧ v.flat = true := by
  cases op <;> simp only [strBin] at h
  case add =>
    split at h
    · rename_i hl
      simp only [Option.some.injEq] at h
      subst h
      refine ⟨?_, rfl⟩
      have : ¬ ((((⟨⟨a⟩⟩ : ByteArray).size + (⟨⟨b⟩⟩ : ByteArray).size : Nat) : Int) > IntKind.i64.max) := by
        simp only [str_size, IntKind.max, IntKind.signed, IntKind.bits]
        simp
        omega
      simp only [binOp_string_add, Op.stringOp, if_neg this, Sem.run_pure, str_append, emb_str]
    · cases h
  all_goals first
    | (simp only [Option.some.injEq] at h; subst h; exact ⟨by simp [binOp, Op.stringOp, ByteArray.toList_mk], rfl⟩)
    | cases h

theorem emb_plainPair {a b : V} (h1 : ∀ k m k' n, ¬ (a = .int k m ∧ b = .int k' n)) (h2 : ∀ s t, ¬ (a = .str s ∧ b = .str t)) : plainPair (a.emb ρ) (b.emb ρ) = true := by
  cases a <;> cases b <;> first
    | rfl
    | exact absurd ⟨rfl, rfl⟩ (h1 _ _ _ _)
    | exact absurd ⟨rfl, rfl⟩ (h2 _ _)
    | (simp [plainPair, V.emb]; done)

theorem run_eqBool {t : TypeId} {a b : V} {v : V} {op : BinOp} (hp : plainPair (a.emb ρ) (b.emb ρ) = true)
    (h : (match op with
      | .eql => (eqV P eqDepth t a b).map V.bool
      | .neq => (eqV P eqDepth t a b).map fun b => V.bool (!b)
      | _ => none) = some v) : (binOp op t (a.emb ρ) (b.emb ρ)).run P w = .ok (v.emb ρ) w ∧ v.flat = true := by
  have hmax : eqDepth ≤ Op.maxDepth := by decide
  split at h
  · simp only [Option.map_eq_some_iff] at h
    obtain ⟨c, hc, rfl⟩ := h
    rw [binOp_eql_gen t _ _ hp]
    exact ⟨by simp [Op.equal, run_eqV ρ w _ _ _ _ _ hc _ hmax], rfl⟩
  · simp only [Option.map_eq_some_iff] at h
    obtain ⟨c, hc, rfl⟩ := h
    rw [binOp_neq_gen t _ _ hp]
    exact ⟨by simp [Op.equal, run_eqV ρ w _ _ _ _ _ hc _ hmax], rfl⟩
  · cases h

theorem run_binV {op : BinOp} {t : TypeId} {x y : Operand} {a b v : V} (h : binV P op t (isConst x) (isConst y) a b = some v) (ρ : Nat → Loc) (w : World) :
    ((do eqGuard op t x y (a.emb ρ) (b.emb ρ); binOp op t (a.emb ρ) (b.emb ρ)) : Sem Value).run P w = .ok (v.emb ρ) w ∧ v.flat = true := by
  unfold binV at h
  split at h
  · rename_i k m k' n
    simp only [Sem.run_bind, emb_int]
    rw [run_eqGuard_gen op t x y _ _ (by simp) (by simp), Result.andThen_ok]
    split at h
    · exact run_shiftV h (.inl rfl) t ρ w
    · exact run_shiftV h (.inr rfl) t ρ w
    · split at h
      · rename_i hk; subst hk; exact run_intBin h t ρ w
      · cases h
  · simp only [Sem.run_bind, emb_str]
    rw [run_eqGuard_gen op t x y _ _ (by simp) (by simp), Result.andThen_ok]
    exact run_strBin h t ρ w
  · split at h
    · rename_i hc
      simp only [Sem.run_bind, emb_nili]
      rw [run_eqGuard_const op t x y hc, Result.andThen_ok]
      exact run_eqBool (ρ := ρ) (w := w) (a := .nili) (b := .nili) rfl h
    · cases h
  · rename_i xs ys
    split at h
    · cases h
    · rename_i hg
      simp only [Sem.run_bind]
      have e := run_eqGuard_agg (P := P) w op t x y (xs.map (V.emb ρ)).toArray (ys.map (V.emb ρ)).toArray (by simpa using hg)
      rw [emb_agg, emb_agg, e, Result.andThen_ok, ← emb_agg, ← emb_agg]
      exact run_eqBool (ρ := ρ) (w := w) (a := .agg xs) (b := .agg ys) (by simp [plainPair]) h
  · rename_i h1 h2 h3 h4
    simp only [Sem.run_bind]
    rw [run_eqGuard_gen op t x y (a.emb ρ) (b.emb ρ) ?_ ?_, Result.andThen_ok]
    · exact run_eqBool (emb_plainPair (fun k m k' n ⟨e1, e2⟩ => h1 k m k' n e1 e2) (fun s u ⟨e1, e2⟩ => h2 s u e1 e2)) h
    · rintro ⟨e1, e2⟩
      refine h3 ?_ ?_
      · cases a <;> simp [V.emb] at e1; rfl
      · cases b <;> simp [V.emb] at e2; rfl
    · rintro c d ⟨e1, e2⟩
      cases a with
      | agg xs => cases b with
        | agg ys => exact h4 xs ys rfl rfl
        | _ => simp [V.emb] at e2
      | _ => simp [V.emb] at e1

theorem run_unV {op : UnOp} {x v : V} (h : unV op x = some v) (ρ : Nat → Loc) (w : World) : (Op.unary op (x.emb ρ)).run P w = .ok (v.emb ρ) w ∧ v.flat = true := by
  unfold unV at h
  split at h
  · simp only [Option.some.injEq] at h; subst h; exact ⟨by simp [Op.unary, Op.intArith], rfl⟩
  · simp only [intBin, Option.some.injEq] at h; subst h; exact ⟨by simp [Op.unary, Op.intBits], rfl⟩
  · simp only [Option.some.injEq] at h; subst h; exact ⟨by simp [Op.unary], rfl⟩
  · cases h

end Go.Am
