/-
  Texts of this session, one behind the other: AmOps, AmOps2, AmOps3, AmOps4, AmOps5, AmOps6, AmOps7.
-/
import Derived.Test.YtfdhkpfkdcdloaaPart1
import Derived.LaidEql
import Derived.Laws.StructEq
namespace Go.Am
open Go

variable {P : Program} {E : Env} {N : Nat} {ρ : Nat → Loc} {H : List AObj} {w : World}

theorem run_eqFields (d d' : Nat) (xs ys : List V) (ρ : Nat → Loc) (w : World)
 (ih : ∀ t x y b, eqV P d t x y = some b → (Op.equalIn d' t (x.emb ρ) (y.emb ρ)).run P w = .ok b w) : ∀ (fs : List Field) (b : Bool), eqFields (eqV P d) P xs ys fs = some b →
 (Op.eqFields d' (xs.map (V.emb ρ)).toArray (ys.map (V.emb ρ)).toArray fs).run P w = .ok b w
 | [], b, h => by simp only [eqFields, Option.some.injEq] at h; subst h; rfl
 | f :: r, b, h => by
  simp only [eqFields] at h
  by_cases hn : f.name = "_"
  ·rw [if_pos hn] at h
   simp only [Op.eqFields, hn, ne_eq, not_true_eq_false, if_false]
   exact run_eqFields d d' xs ys ρ w ih r b h
  ·rw [if_neg hn] at h
   simp only [Op.eqFields, ne_eq, hn, not_false_eq_true, if_true, Sem.run_bind]
   cases h1 : partV P f.type xs f.offset with
   | none => rw [h1] at h; simp at h
   | some x =>
    cases h2 : partV P f.type ys f.offset with
    | none => rw [h1, h2] at h; simp at h
    | some y =>
     rw [h1, h2] at h
     simp only at h
     rw [run_partV h1 ρ w, Result.andThen_ok, run_partV h2 ρ w, Result.andThen_ok]
     cases h3 : eqV P d f.type x y with
     | none => rw [h3] at h; simp at h
     | some c =>
      rw [h3] at h
      rw [ih _ _ _ _ h3, Result.andThen_ok]
      cases c with
      | true => simpa using run_eqFields d d' xs ys ρ w ih r b h
      | false => simp only [Option.some.injEq] at h; subst h; rfl

theorem run_eqElems (d d' : Nat) (elem : TypeId) (n : Nat) (xs ys : List V) (ρ : Nat → Loc) (w : World)
 (ih : ∀ t x y b, eqV P d t x y = some b → (Op.equalIn d' t (x.emb ρ) (y.emb ρ)).run P w = .ok b w) : ∀ (c i : Nat) (b : Bool), eqElems (eqV P d) P elem n xs ys c i = some b →
 (forIn (List.range' i c) ((none, ()) : Option Bool × Unit) (fun j (_ : Option Bool × Unit) => do
  if (!(← Op.equalIn d' elem (← part elem (xs.map (V.emb ρ)).toArray (j * n)) (← part elem (ys.map (V.emb ρ)).toArray (j * n)))) = true then
   pure (ForInStep.done (some false, ())) else pure (ForInStep.yield (none, ()))) : Sem (Option Bool × Unit)).run P w = .ok (if b then (none, ()) else (some false, ())) w
 | 0, i, b, h => by simp only [eqElems, Option.some.injEq] at h; subst h; simp
 | c + 1, i, b, h => by
  simp only [eqElems] at h
  simp only [List.range'_succ, List.forIn_cons, Sem.run_bind]
  cases h1 : partV P elem xs (i * n) with
  | none => rw [h1] at h; simp at h
  | some x =>
   cases h2 : partV P elem ys (i * n) with
   | none => rw [h1, h2] at h; simp at h
   | some y =>
    rw [h1, h2] at h
    simp only at h
    rw [run_partV h1 ρ w, Result.andThen_ok, run_partV h2 ρ w, Result.andThen_ok]
    cases h3 : eqV P d elem x y with
    | none => rw [h3] at h; simp at h
    | some q =>
     rw [h3] at h
     rw [ih _ _ _ _ h3, Result.andThen_ok]
     cases q with
     | true =>
      simp only [Bool.not_true, Bool.false_eq_true, if_false, Sem.run_pure, Result.andThen_ok]
      exact run_eqElems d d' elem n xs ys ρ w ih c (i + 1) b h
     | false => simp only [Option.some.injEq] at h; subst h; simp

set_option maxHeartbeats 800000 in
theorem run_eqV (ρ : Nat → Loc) (w : World) : ∀ (d : Nat) (t : TypeId) (x y : V) (b : Bool), eqV P d t x y = some b → ∀ d', d ≤ d' → (Op.equalIn d' t (x.emb ρ) (y.emb ρ)).run P w = .ok b w
 | 0, _, _, _, _, h, _, _ => by simp [eqV] at h
 | d + 1, t, x, y, b, h, d', hd => by
  obtain ⟨d', rfl⟩ : ∃ m, d' = m + 1 := ⟨d' - 1, by omega⟩
  have ih : ∀ t x y b, eqV P d t x y = some b → (Op.equalIn d' t (x.emb ρ) (y.emb ρ)).run P w = .ok b w := fun t x y b h => run_eqV ρ w d t x y b h d' (by omega)
  simp only [eqV] at h
  split at h
  case h_1 a b' hu => simp only [Option.some.injEq] at h; subst h; simp [Op.equalIn, run_underlying hu]
  case h_2 ki k a k' b' hu =>
   split at h
   ·rename_i hk; subst hk; simp only [Option.some.injEq] at h; subst h; simp [Op.equalIn, run_underlying hu]
   ·cases h
  case h_3 a b' hu =>
   simp only [Option.some.injEq] at h; subst h
   simp only [Op.equalIn, Sem.run_bind, run_underlying hu, Result.andThen_ok, emb_str, Sem.run_pure, beq_toListBytes, ByteArray.toList_mk]
  case h_4 hu => simp only [Option.some.injEq] at h; subst h; simp [Op.equalIn, run_underlying hu]
  case h_5 hu => simp only [Option.some.injEq] at h; subst h; simp [Op.equalIn, run_underlying hu]
  case h_6 hu => simp only [Option.some.injEq] at h; subst h; simp [Op.equalIn, run_underlying hu]
  case h_7 hu => simp only [Option.some.injEq] at h; subst h; simp [Op.equalIn, run_underlying hu]
  case h_8 hu => simp only [Option.some.injEq] at h; subst h; simp [Op.equalIn, run_underlying hu, emb_slice]
  case h_9 hu => simp only [Option.some.injEq] at h; subst h; simp [Op.equalIn, run_underlying hu, emb_slice]
  case h_10 hu => simp only [Option.some.injEq] at h; subst h; simp [Op.equalIn, run_underlying hu]
  case h_11 hu => simp only [Option.some.injEq] at h; subst h; simp [Op.equalIn, run_underlying hu]
  case h_12 hu => simp only [Option.some.injEq] at h; subst h; simp [Op.equalIn, run_underlying hu]
  case h_13 hu => simp only [Option.some.injEq] at h; subst h; simp [Op.equalIn, run_underlying hu]
  case h_14 hu => simp only [Option.some.injEq] at h; subst h; simp [Op.equalIn, run_underlying hu]
  case h_15 hu => simp only [Option.some.injEq] at h; subst h; simp [Op.equalIn, run_underlying hu]
  case h_16 hu => simp only [Option.some.injEq] at h; subst h; simp [Op.equalIn, run_underlying hu]
  case h_17 hu => simp only [Option.some.injEq] at h; subst h; simp [Op.equalIn, run_underlying hu]
  case h_18 hu => simp only [Option.some.injEq] at h; subst h; simp [Op.equalIn, run_underlying hu]
  case h_19 ms tx vx ty vy hu =>
   split at h
   ·rename_i e
    subst e
    split at h
    ·rename_i info hi
     split at h
     ·rename_i hc
      have := ih _ _ _ _ h
      simp [Op.equalIn, run_underlying hu, typeInfo, hi, hc, this]
     ·cases h
    ·cases h
   ·rename_i e
    simp only [Option.some.injEq] at h
    subst h
    simp [Op.equalIn, run_underlying hu, e]
  case h_20 fs xs ys hu =>
   split at h
   ·cases h
   ·rename_i hst
    rw [emb_agg, emb_agg, run_equalIn_struct w d' t _ _ (by simp [Program.fieldsOf, hu]) (by simpa using hst)]
    simp only [Program.fieldsOf, hu]
    exact run_eqFields d d' xs ys ρ w ih fs.toList b h
  case h_21 len elem xs ys hu =>
   split at h
   ·rename_i n hn
    have := run_eqElems d d' elem n xs ys ρ w ih len 0 b h
    simp only [emb_agg, Op.equalIn, Sem.run_bind, run_underlying hu, Result.andThen_ok, run_sizeT hn]
    rw [Std.Legacy.Range.forIn_eq_forIn_range']
    simp only [Std.Legacy.Range.size, Nat.sub_zero, Nat.add_sub_cancel, Nat.div_one]
    rw [this]
    cases b <;> simp
   ·cases h
  case h_22 hu => simp only [Option.some.injEq] at h; subst h; simp [Op.equalIn, run_underlying hu]
  case h_23 hu => simp only [Option.some.injEq] at h; subst h; simp [Op.equalIn, run_underlying hu]
  case h_24 =>
   unfold samePtr at h
   split at h
   ·rename_i e he
    split at h
    ·rename_i hc
     obtain ⟨h1, h2, h3⟩ := hc
     simp only [Option.some.injEq] at h
     subst h
     have hu : P.underlying t = some (.pointer e) := by
      unfold elemT? at he
      split at he
      ·simp only [Option.some.injEq] at he; subst he; assumption
      ·cases he
     obtain ⟨j, hj⟩ := Option.isSome_iff_exists.1 h3
     have hx : ∀ z : V, z.ptr?.isSome = true → ∃ k o, z = .ptr k o := by
      intro z hz
      cases z <;> simp [V.ptr?] at hz
      exact ⟨_, _, rfl⟩
     obtain ⟨k, o, hxe⟩ := hx _ h1
     obtain ⟨k', o', hye⟩ := hx _ (h2 ▸ h1)
     rw [hxe, hye] at h2 ⊢
     simp only [V.ptr?, Option.some.injEq, Prod.mk.injEq] at h2
     obtain ⟨rfl, rfl⟩ := h2
     simp [Op.equalIn, run_underlying hu, sizeOf, typeInfo, hj, run_sameAddr_same]
    ·cases h
   ·cases h

end Go.Am

namespace Go.Am
open Go

variable {P : Program} {E : Env} {N : Nat} {ρ : Nat → Loc} {H : List AObj} {w : World}

def plainPair : Value → Value → Bool
 | .int .., .int .. | .float .., .float .. | .complex .., .complex .. | .string .., .string .. => false
 | _, _ => true

theorem binOp_eql_gen (t : TypeId) (x y : Value) (h : plainPair x y = true) : binOp .eql t x y = (do pure (.bool (← Op.equal t x y))) := by
 unfold binOp
 split <;> first | rfl | (simp_all [plainPair]; done)

theorem binOp_neq_gen (t : TypeId) (x y : Value) (h : plainPair x y = true) : binOp .neq t x y = (do pure (.bool (!(← Op.equal t x y)))) := by
 unfold binOp
 split <;> first | rfl | (simp_all [plainPair]; done)

theorem run_eqGuard_gen (op : BinOp) (t : TypeId) (x y : Operand) (a b : Value) (h1 : ¬ (a = .nilIface ∧ b = .nilIface)) (h2 : ∀ c d, ¬ (a = .agg c ∧ b = .agg d)) :
 (eqGuard op t x y a b).run P w = .ok () w := by
 unfold eqGuard
 cases op <;> first
  | rfl
  | (simp only [Bool.not_true, Bool.false_eq_true, if_false]
     split
     ·exact absurd ⟨rfl, rfl⟩ h1
     ·exact absurd ⟨rfl, rfl⟩ (h2 _ _)
     ·rfl)

theorem run_eqGuard_const (op : BinOp) (t : TypeId) (x y : Operand) (h : (isConst x || isConst y) = true) : (eqGuard op t x y .nilIface .nilIface).run P w = .ok () w := by
 unfold eqGuard
 cases op <;> first
  | rfl
  | (cases x <;> cases y <;> first | rfl | exact Bool.noConfusion h)

theorem binOp_int (op : BinOp) (t : TypeId) (k : IntKind) (a b : Int) (h : op ≠ .shl ∧ op ≠ .shr) : binOp op t (.int k a) (.int k b) =
 (match op with
 | .add | .sub | .mul => Op.intArith op k a b
 | .quo | .rem => Op.intDiv op k a b
 | .and | .or | .xor | .andNot => Op.intBits op k a b
 | _ => Op.intCmp op a b) := by
 cases op <;> first
  | (simp [binOp]; done)
  | exact absurd rfl h.1
  | exact absurd rfl h.2

theorem run_intBin {op : BinOp} {k : IntKind} {a b : Int} {v : V} (h : intBin op k a b = some v) (t : TypeId) (ρ : Nat → Loc) (w : World) :
 (binOp op t (.int k a) (.int k b)).run P w = .ok (v.emb ρ) w ∧ v.flat = true := by
 cases op <;> simp only [intBin] at h
 case quo =>
  split at h
  ·cases h
  ·rename_i hb
   simp only [Option.some.injEq] at h
   subst h
   exact ⟨by rw [binOp_int _ _ _ _ _ (by decide)]; simp [Op.intDiv, hb], rfl⟩
 case rem =>
  split at h
  ·cases h
  ·rename_i hb
   simp only [Option.some.injEq] at h
   subst h
   exact ⟨by rw [binOp_int _ _ _ _ _ (by decide)]; simp [Op.intDiv, hb], rfl⟩
 all_goals first
  | (cases h; done)
  | (simp only [Option.some.injEq] at h; subst h; exact ⟨by rw [binOp_int _ _ _ _ _ (by decide)]; simp [Op.intArith, Op.intBits, Op.intCmp], rfl⟩)

theorem run_shiftV {op : BinOp} {k k' : IntKind} {a b : Int} {v : V} (h : shiftV op k a b = some v) (hop : op = .shl ∨ op = .shr) (t : TypeId) (ρ : Nat → Loc) (w : World) :
 (binOp op t (.int k a) (.int k' b)).run P w = .ok (v.emb ρ) w ∧ v.flat = true := by
 unfold shiftV at h
 split at h
 ·cases h
 ·rename_i hb
  rcases hop with rfl | rfl
  ·simp only [Option.some.injEq] at h; subst h; exact ⟨by simp [binOp, Op.shift, hb], rfl⟩
  ·simp only [Option.some.injEq] at h; subst h; exact ⟨by simp [binOp, Op.shift, hb], rfl⟩

theorem str_append (a b : List UInt8) : (⟨⟨a⟩⟩ : ByteArray) ++ ⟨⟨b⟩⟩ = ⟨⟨a ++ b⟩⟩ := by
 apply ByteArray.ext
 apply Array.ext'
 simp

theorem str_size (a : List UInt8) : (⟨⟨a⟩⟩ : ByteArray).size = a.length := rfl

theorem run_strBin {op : BinOp} {a b : List UInt8} {v : V} (h : strBin op a b = some v) (t : TypeId) (ρ : Nat → Loc) (w : World) :
 (binOp op t (.string ⟨⟨a⟩⟩) (.string ⟨⟨b⟩⟩)).run P w = .ok (v.emb ρ) w ∧ v.flat = true := by
 cases op <;> simp only [strBin] at h
 case add =>
  split at h
  ·rename_i hl
   simp only [Option.some.injEq] at h
   subst h
   refine ⟨?_, rfl⟩
   have : ¬ ((((⟨⟨a⟩⟩ : ByteArray).size + (⟨⟨b⟩⟩ : ByteArray).size : Nat) : Int) > IntKind.i64.max) := by
    simp only [str_size, IntKind.max, IntKind.signed, IntKind.bits]
    simp
    omega
   simp only [binOp_string_add, Op.stringOp, if_neg this, Sem.run_pure, str_append, emb_str]
  ·cases h
 all_goals first
  | (simp only [Option.some.injEq] at h; subst h; exact ⟨by simp [binOp, Op.stringOp, ByteArray.toList_mk], rfl⟩)
  | cases h

theorem emb_plainPair {a b : V} (h1 : ∀ k m k' n, ¬ (a = .int k m ∧ b = .int k' n)) (h2 : ∀ s t, ¬ (a = .str s ∧ b = .str t)) : plainPair (a.emb ρ) (b.emb ρ) = true := by
 cases a <;> cases b <;> first
  | rfl
  | exact absurd ⟨rfl, rfl⟩ (h1 _ _ _ _)
  | exact absurd ⟨rfl, rfl⟩ (h2 _ _)
  | (simp [plainPair, V.emb]; done)

theorem run_eqBool {t : TypeId} {a b : V} {v : V} {op : BinOp} (hp : plainPair (a.emb ρ) (b.emb ρ) = true)
 (h : (match op with
  | .eql => (eqV P eqDepth t a b).map V.bool
  | .neq => (eqV P eqDepth t a b).map fun b => V.bool (!b)
  | _ => none) = some v) : (binOp op t (a.emb ρ) (b.emb ρ)).run P w = .ok (v.emb ρ) w ∧ v.flat = true := by
 have hmax : eqDepth ≤ Op.maxDepth := by decide
 split at h
 ·simp only [Option.map_eq_some_iff] at h
  obtain ⟨c, hc, rfl⟩ := h
  rw [binOp_eql_gen t _ _ hp]
  exact ⟨by simp [Op.equal, run_eqV ρ w _ _ _ _ _ hc _ hmax], rfl⟩
 ·simp only [Option.map_eq_some_iff] at h
  obtain ⟨c, hc, rfl⟩ := h
  rw [binOp_neq_gen t _ _ hp]
  exact ⟨by simp [Op.equal, run_eqV ρ w _ _ _ _ _ hc _ hmax], rfl⟩
 ·cases h

theorem run_binV {op : BinOp} {t : TypeId} {x y : Operand} {a b v : V} (h : binV P op t (isConst x) (isConst y) a b = some v) (ρ : Nat → Loc) (w : World) :
 ((do eqGuard op t x y (a.emb ρ) (b.emb ρ); binOp op t (a.emb ρ) (b.emb ρ)) : Sem Value).run P w = .ok (v.emb ρ) w ∧ v.flat = true := by
 unfold binV at h
 split at h
 ·rename_i k m k' n
  simp only [Sem.run_bind, emb_int]
  rw [run_eqGuard_gen op t x y _ _ (by simp) (by simp), Result.andThen_ok]
  split at h
  ·exact run_shiftV h (.inl rfl) t ρ w
  ·exact run_shiftV h (.inr rfl) t ρ w
  ·split at h
   ·rename_i hk; subst hk; exact run_intBin h t ρ w
   ·cases h
 ·simp only [Sem.run_bind, emb_str]
  rw [run_eqGuard_gen op t x y _ _ (by simp) (by simp), Result.andThen_ok]
  exact run_strBin h t ρ w
 ·split at h
  ·rename_i hc
   simp only [Sem.run_bind, emb_nili]
   rw [run_eqGuard_const op t x y hc, Result.andThen_ok]
   exact run_eqBool (ρ := ρ) (w := w) (a := .nili) (b := .nili) rfl h
  ·cases h
 ·rename_i xs ys
  split at h
  ·cases h
  ·rename_i hg
   simp only [Sem.run_bind]
   have e := run_eqGuard_agg (P := P) w op t x y (xs.map (V.emb ρ)).toArray (ys.map (V.emb ρ)).toArray (by simpa using hg)
   rw [emb_agg, emb_agg, e, Result.andThen_ok, ← emb_agg, ← emb_agg]
   exact run_eqBool (ρ := ρ) (w := w) (a := .agg xs) (b := .agg ys) (by simp [plainPair]) h
 ·rename_i h1 h2 h3 h4
  simp only [Sem.run_bind]
  rw [run_eqGuard_gen op t x y (a.emb ρ) (b.emb ρ) ?_ ?_, Result.andThen_ok]
  ·exact run_eqBool (emb_plainPair (fun k m k' n ⟨e1, e2⟩ => h1 k m k' n e1 e2) (fun s u ⟨e1, e2⟩ => h2 s u e1 e2)) h
  ·rintro ⟨e1, e2⟩
   refine h3 ?_ ?_
   ·cases a <;> simp [V.emb] at e1; rfl
   ·cases b <;> simp [V.emb] at e2; rfl
  ·rintro c d ⟨e1, e2⟩
   cases a with
   | agg xs => cases b with
    | agg ys => exact h4 xs ys rfl rfl
    | _ => simp [V.emb] at e2
   | _ => simp [V.emb] at e1

theorem run_unV {op : UnOp} {x v : V} (h : unV op x = some v) (ρ : Nat → Loc) (w : World) : (Op.unary op (x.emb ρ)).run P w = .ok (v.emb ρ) w ∧ v.flat = true := by
 unfold unV at h
 split at h
 ·simp only [Option.some.injEq] at h; subst h; exact ⟨by simp [Op.unary, Op.intArith], rfl⟩
 ·simp only [intBin, Option.some.injEq] at h; subst h; exact ⟨by simp [Op.unary, Op.intBits], rfl⟩
 ·simp only [Option.some.injEq] at h; subst h; exact ⟨by simp [Op.unary], rfl⟩
 ·cases h

end Go.Am

namespace Go.Am
open Go

variable {P : Program} {E : Env} {N : Nat} {ρ : Nat → Loc} {H : List AObj} {w : World}

theorem foldl_zipIdx (vs : List Value) : ∀ (k off : Nat) (C : Array Value), off + k + vs.length ≤ C.size →
 ((vs.zipIdx k).foldl (fun cs (x : Value × Nat) => cs.setIfInBounds (off + x.2) x.1) C).toList = C.toList.take (off + k) ++ vs ++ C.toList.drop (off + k + vs.length) := by
 induction vs with
 | nil => intro k off C h; simp
 | cons v r ih =>
  intro k off C h
  simp only [List.zipIdx_cons, List.foldl_cons]
  rw [show off + k = off + k from rfl, ih (k + 1) off _ (by simp at h ⊢; omega)]
  have e := list_seg_step C.toList (off + k) v r (by simp at h ⊢; omega)
  simpa [Array.toList_setIfInBounds, Nat.add_assoc] using e

theorem fill_run (place : Nat → Option (Nat × Nat)) (ρ : Nat → Loc) : ∀ (parts : List (Nat × V)) (cs cs' : List V), fillV place cs parts = some cs' →
 Instr.fill place (cs.map (V.emb ρ)).toArray (parts.map fun p => (p.1, p.2.emb ρ)) = some (cs'.map (V.emb ρ)).toArray
 | [], cs, cs', h => by simp only [fillV, Option.some.injEq] at h; subst h; rfl
 | (i, v) :: r, cs, cs', h => by
  simp only [fillV] at h
  simp only [List.map_cons, Instr.fill]
  cases hp : place i with
  | none => rw [hp] at h; simp at h
  | some os =>
   obtain ⟨off, size⟩ := os
   rw [hp] at h
   simp only at h
   split at h
   ·rename_i hc
    obtain ⟨hc1, hc2⟩ := hc
    have hcells := emb_cells ρ v
    have hsz : (v.emb ρ).cells.size = size := by rw [hcells]; simp [hc1]
    simp only [hsz, ne_eq, not_true_eq_false, decide_false, Bool.false_or, List.size_toArray, List.length_map, decide_eq_true_eq]
    rw [if_neg (by simp; omega)]
    have : ((v.emb ρ).cells.zipIdx.foldl (fun cs (x : Value × Nat) => cs.setIfInBounds (off + x.2) x.1) (cs.map (V.emb ρ)).toArray) = ((cs.take off ++ v.cells ++ cs.drop (off + size)).map (V.emb ρ)).toArray := by
     apply Array.ext'
     rw [hcells, ← Array.foldl_toList, Array.toList_zipIdx]
     have := foldl_zipIdx (v.cells.map (V.emb ρ)) 0 off (cs.map (V.emb ρ)).toArray (by simp; omega)
     rw [this]
     simp [hc1, List.map_take, List.map_drop]
    have ih := fill_run place ρ r _ cs' h
    rw [← this] at ih
    exact ih
   ·cases h

theorem fill_lt {n : Nat} (place : Nat → Option (Nat × Nat)) : ∀ (parts : List (Nat × V)) (cs cs' : List V), fillV place cs parts = some cs' → ltL n cs → (∀ p ∈ parts, p.2.lt n = true) → ltL n cs'
 | [], cs, cs', h, hl, _ => by simp only [fillV, Option.some.injEq] at h; subst h; exact hl
 | (i, v) :: r, cs, cs', h, hl, hp => by
  simp only [fillV] at h
  split at h
  ·cases h
  ·split at h
   ·refine fill_lt place r _ cs' h ?_ (fun p hm => hp p (List.mem_cons_of_mem _ hm))
    exact ltL_append.2 ⟨ltL_append.2 ⟨ltL_take hl, ltL_cells (hp (i, v) (List.mem_cons_self ..))⟩, ltL_drop hl⟩
   ·cases h

theorem places_run : ∀ (fs : List Field) (pl : List (Nat × Nat)) (w : World), placesOf P fs = some pl → (fs.mapM (fun f => do pure (f.offset, ← sizeOf f.type)) : Sem (List (Nat × Nat))).run P w = .ok pl w
 | [], pl, w, h => by simp only [placesOf, Option.some.injEq] at h; subst h; rfl
 | f :: r, pl, w, h => by
  simp only [placesOf] at h
  split at h
  ·rename_i n l h1 h2
   simp only [Option.some.injEq] at h
   subst h
   have ih := places_run r l w h2
   simp only [List.mapM_cons, Sem.run_bind, run_sizeT h1, Result.andThen_ok, Sem.run_pure, ih]
  ·cases h

theorem buildV_run {t : TypeId} {parts : List (Nat × V)} {v : V} (h : buildV P t parts = some v) (ρ : Nat → Loc) (w : World) :
 (Instr.build t (parts.map fun p => (p.1, p.2.emb ρ)).toArray).run P w = .ok (v.emb ρ) w := by
 unfold buildV at h
 split at h
 ·rename_i z fs hz hu
  split at h
  ·rename_i pl hpl
   simp only [Option.map_eq_some_iff] at h
   obtain ⟨cs, hcs, rfl⟩ := h
   have h1 := (run_zeroT hz ρ w).1
   have h2 := fill_run (fun i => pl[i]?) ρ parts z.cells cs hcs
   have h3 := emb_cells ρ z
   have h4 := places_run fs.toList pl w hpl
   simp only [Instr.build, Sem.run_bind, h1, Result.andThen_ok, run_underlying hu]
   rw [← Array.toArray_toList (xs := fs), List.mapM_toArray]
   simp only [Sem.run_map, h4, Result.andThen_ok, h3, List.getElem?_toArray, h2, Sem.run_pure, emb_agg]
  ·cases h
 ·rename_i z len elem hz hu
  split at h
  ·rename_i n hn
   simp only [Option.map_eq_some_iff] at h
   obtain ⟨cs, hcs, rfl⟩ := h
   have h1 := (run_zeroT hz ρ w).1
   have h2 := fill_run (fun i => some (i * n, n)) ρ parts z.cells cs hcs
   have h3 := emb_cells ρ z
   simp only [Instr.build, Sem.run_bind, h1, Result.andThen_ok, run_underlying hu, run_sizeT hn, h3, h2, Sem.run_pure, emb_agg]
  ·cases h
 ·cases h

theorem buildV_lt {n : Nat} {t : TypeId} {parts : List (Nat × V)} {v : V} (h : buildV P t parts = some v) (hp : ∀ p ∈ parts, p.2.lt n = true) : v.lt n = true := by
 unfold buildV at h
 split at h
 ·rename_i z fs hz hu
  split at h
  ·simp only [Option.map_eq_some_iff] at h
   obtain ⟨cs, hcs, rfl⟩ := h
   exact (lt_agg _ _).2 (fill_lt _ parts _ _ hcs (ltL_cells (lt_flat (run_zeroT hz (fun _ => default) default).2 n)) hp)
  ·cases h
 ·rename_i z len elem hz hu
  split at h
  ·simp only [Option.map_eq_some_iff] at h
   obtain ⟨cs, hcs, rfl⟩ := h
   exact (lt_agg _ _).2 (fill_lt _ parts _ _ hcs (ltL_cells (lt_flat (run_zeroT hz (fun _ => default) default).2 n)) hp)
  ·cases h
 ·cases h

theorem zeros_length (z : List V) : ∀ n, (zeros z n).length = n * z.length
 | 0 => by simp [zeros]
 | n + 1 => by simp [zeros, zeros_length z n, Nat.add_mul, Nat.add_comm]

theorem zeros_get (z : List V) : ∀ (n i : Nat), i < n * z.length → (zeros z n)[i]? = z[i % z.length]?
 | 0, i, h => by simp at h
 | n + 1, i, h => by
  simp only [zeros]
  by_cases hi : i < z.length
  ·rw [List.getElem?_append_left hi, Nat.mod_eq_of_lt hi]
  ·rw [List.getElem?_append_right (by omega), zeros_get z n (i - z.length) (by rw [Nat.add_mul] at h; omega), ← Nat.mod_eq_sub_mod (by omega)]

theorem zeros_lt {m : Nat} {z : List V} (h : ltL m z) : ∀ n, ltL m (zeros z n)
 | 0 => ltL_nil m
 | n + 1 => ltL_append.2 ⟨h, zeros_lt h n⟩

theorem zeros_emb (z : List V) (n m : Nat) (hz : z.length = m) (ρ : Nat → Loc) :
 (Array.range (n * m)).map (fun i => ((z.map (V.emb ρ)).toArray)[i % ((z.map (V.emb ρ)).toArray).size]!) = ((zeros z n).map (V.emb ρ)).toArray := by
 subst hz
 apply Array.ext
 ·simp [zeros_length]
 ·intro i h1 h2
  simp only [Array.size_map, Array.size_range] at h1
  simp only [Array.getElem_map, Array.getElem_range, List.size_toArray, List.length_map]
  have hpos : 0 < z.length := by
   rcases Nat.eq_zero_or_pos z.length with h0 | h0
   ·rw [h0] at h1; omega
   ·exact h0
  have hm : i % z.length < z.length := Nat.mod_lt _ hpos
  have hg := zeros_get z n i h1
  rw [List.getElem?_eq_getElem hm] at hg
  have := (List.getElem?_eq_some_iff.1 hg).2
  simp [hm, this]

theorem natV_run {x : Option V} {y : Option Nat} (h : natV x = some y) : (x = none ∧ y = none) ∨ ∃ k i, x = some (.int k i) ∧ 0 ≤ i ∧ y = some i.toNat := by
 unfold natV at h
 split at h
 ·simp only [Option.some.injEq] at h; exact .inl ⟨rfl, h.symm⟩
 ·rename_i k i
  split at h
  ·rename_i hi; simp only [Option.some.injEq] at h; exact .inr ⟨k, i, rfl, hi, h.symm⟩
  ·cases h
 ·cases h

theorem run_bounds {isS : Bool} {len cap : Nat} {lo hi mx : Option V} {lo' hi' mx' : Option Nat} {l h m : Nat} (h1 : natV lo = some lo') (h2 : natV hi = some hi') (h3 : natV mx = some mx')
 (hb : bounds len cap lo' hi' mx' = some (l, h, m)) (ρ : Nat → Loc) (w : World) :
 (Instr.sliceBounds isS len cap (lo.map (V.emb ρ)) (hi.map (V.emb ρ)) (mx.map (V.emb ρ))).run P w = .ok (l, h, m) w ∧ l ≤ h ∧ h ≤ m ∧ m ≤ cap ∧ (mx' = none → m = cap) ∧ (mx' = none → hi' = none → h = len) := by
 unfold bounds at hb
 rcases natV_run h3 with ⟨rfl, rfl⟩ | ⟨k3, i3, rfl, p3, rfl⟩ <;> rcases natV_run h2 with ⟨rfl, rfl⟩ | ⟨k2, i2, rfl, p2, rfl⟩ <;> rcases natV_run h1 with ⟨rfl, rfl⟩ | ⟨k1, i1, rfl, p1, rfl⟩ <;>
  simp only [Option.getD_none, Option.getD_some, Option.isSome_none, Option.isSome_some, Bool.false_eq_true, if_false, if_true] at hb <;>
  (split at hb
   ·rename_i hc
    simp only [Option.some.injEq, Prod.mk.injEq] at hb
    obtain ⟨rfl, rfl, rfl⟩ := hb
    first
     | (exfalso; omega)
     | (refine ⟨?_, by omega, by omega, by omega, by simp, by simp⟩
        simp only [Instr.sliceBounds, Option.map_none, Option.map_some, emb_int, Option.isSome_none, Option.isSome_some, Sem.run_bind, Sem.run_pure, Result.andThen_ok, if_true, Bool.false_eq_true, if_false]
        repeat (first | (rw [run_sliceBound _ _ _ _ _ (by omega) (by omega)]; simp only [Result.andThen_ok]) | rfl))
   ·cases hb)

end Go.Am

namespace Go.Am
open Go

variable {P : Program} {E : Env} {N : Nat} {ρ : Nat → Loc} {H : List AObj} {w : World}

theorem str_extract (s : List UInt8) (l h : Nat) : (⟨⟨s⟩⟩ : ByteArray).extract l h = ⟨⟨(s.drop l).take (h - l)⟩⟩ := by
 have := ByteArray.extract_mk s l h
 exact this

theorem sub_mul_div' (a o l n : Nat) (_hn : 0 < n) : (a - (o + l * n)) / n = (a - o) / n - l := by
 rw [← Nat.sub_sub, Nat.mul_comm l n, Nat.sub_mul_div]

theorem le_div_of {a o l n : Nat} (hn : 0 < n) (h : o + l * n ≤ a) : l ≤ (a - o) / n := by
 rw [Nat.le_div_iff_mul_le hn]
 omega

theorem OR.grown {l : Loc} {cs : List V} {e : TypeId} {fz : Bool} (h : OR P N ρ w l (.cells cs e .grown fz)) {n : Nat} (hn : sizeT P e = some n) : 0 < n ∧ l.sz = n ∧ cs.length ≤ l.ext := by
 obtain ⟨_, C, z, _, _, _, _, _, _, h5, h6, h7, _⟩ := h
 rw [hn] at h6
 have : n = l.sz := Option.some.inj h6
 exact ⟨this ▸ h7, this.symm, h5⟩

theorem sliceV_run (hw : WR E N ρ H w) {wr esc : Nat} {t : TypeId} {x v : V} {lo hi mx : Option V} {lo' hi' mx' : Option Nat} (hx : x.lt H.length = true)
 (h1 : natV lo = some lo') (h2 : natV hi = some hi') (h3 : natV mx = some mx') (h : sliceV E.P t x lo' hi' mx' ⟨H, wr, esc⟩ = some v) :
 (Instr.sliceAt t (x.emb ρ) (lo.map (V.emb ρ)) (hi.map (V.emb ρ)) (mx.map (V.emb ρ))).run E.P w = .ok (v.emb ρ) w ∧ v.lt H.length = true := by
 unfold sliceV at h
 split at h
 ·rename_i s hu
  split at h
  ·cases h
  ·rename_i hm
   have hmx : mx' = none := by simpa using hm
   subst hmx
   split at h
   ·rename_i l hh m hb
    simp only [Option.some.injEq] at h
    subst h
    have hr := run_bounds (P := E.P) (isS := false) h1 h2 h3 hb ρ w
    rcases natV_run h3 with ⟨rfl, _⟩ | ⟨_, _, _, _, h0⟩
    ·refine ⟨?_, rfl⟩
     simp only [Option.map_none] at hr
     simp [Instr.sliceAt, Instr.slice, run_underlying hu, str_size, hr.1, str_extract]
    ·cases h0
   ·cases h
 ·rename_i e hu
  split at h
  ·rename_i b n hb hn
   simp only [Option.some.injEq] at h
   subst h
   obtain ⟨l, hh, m⟩ := b
   have hr := run_bounds (P := E.P) (isS := true) h1 h2 h3 hb ρ w
   have hl0 : l = 0 ∧ hh = 0 ∧ m = 0 := by omega
   obtain ⟨rfl, rfl, rfl⟩ := hl0
   refine ⟨?_, rfl⟩
   simp only [emb_nils, Instr.sliceAt, Instr.slice, Sem.run_bind, run_underlying hu, Result.andThen_ok, hr.1, run_sizeT hn, Sem.run_pure, if_true]
  ·cases h
 ·rename_i e c hu
  split at h
  ·rename_i b n hb hn
   simp only [Option.some.injEq] at h
   subst h
   obtain ⟨l, hh, m⟩ := b
   have hr := run_bounds (P := E.P) (isS := true) h1 h2 h3 hb ρ w
   have hl0 : l = 0 ∧ hh = 0 ∧ m = 0 := by omega
   obtain ⟨rfl, rfl, rfl⟩ := hl0
   refine ⟨?_, rfl⟩
   simp only [emb_odd, Instr.sliceAt, Instr.slice, Sem.run_bind, run_underlying hu, Result.andThen_ok, hr.1, run_sizeT hn, Sem.run_pure, if_true]
  ·cases h
 ·rename_i e k o len c hu
  split at h
  ·rename_i l hh m n hb hn
   simp only [Option.some.injEq] at h
   subst h
   have hr := run_bounds (P := E.P) (isS := true) h1 h2 h3 hb ρ w
   refine ⟨?_, by simpa using hx⟩
   simp only [emb_slice_some, Instr.sliceAt, Instr.slice, Sem.run_bind, run_underlying hu, Result.andThen_ok, hr.1, run_sizeT hn, Sem.run_pure]
   congr 1
   split
   ·rfl
   ·simp [add_off, Nat.add_assoc]
  ·cases h
 ·rename_i e k o len hu
  split at h
  ·rename_i hc
   obtain ⟨hlo, rfl, rfl⟩ := hc
   obtain ⟨n, hn, h⟩ := Option.map_eq_some_iff.1 h
   subst h
   have hb' : bounds len (((ρ k).ext - o) / (ρ k).sz) lo' (some 0) (some 0) = some (0, 0, 0) := by
    unfold bounds
    simp [hlo]
   have hr := run_bounds (P := E.P) (isS := true) h1 h2 h3 hb' ρ w
   refine ⟨?_, by simpa using hx⟩
   simp only [emb_slice_none, emb_slice_some, Instr.sliceAt, Instr.slice, Sem.run_bind, run_underlying hu, Result.andThen_ok, hr.1, run_sizeT hn, Sem.run_pure, if_true, Nat.sub_self]
  split at h
  ·rename_i hc
   obtain ⟨hlo, hhi, rfl⟩ := hc
   obtain ⟨n, hn, h⟩ := Option.map_eq_some_iff.1 h
   subst h
   have hb' : bounds len (((ρ k).ext - o) / (ρ k).sz) lo' hi' none = some (0, 0, ((ρ k).ext - o) / (ρ k).sz) := by
    unfold bounds
    simp [hlo, hhi]
   have hr := run_bounds (P := E.P) (isS := true) h1 h2 h3 hb' ρ w
   refine ⟨?_, by simpa using hx⟩
   simp only [emb_slice_none, Instr.sliceAt, Instr.slice, Sem.run_bind, run_underlying hu, Result.andThen_ok, hr.1, run_sizeT hn, Sem.run_pure, Nat.sub_self, Nat.sub_zero]
   congr 1
   split
   ·simp
   ·simp [add_off]
  split at h
  ·rename_i l hh m n cs e' fz hb hn hk
   split at h
   ·rename_i hc
    obtain ⟨rfl, hle⟩ := hc
    simp only at hk
    obtain ⟨hpos, hsz, hext⟩ := (hw.objs k _ hk).grown hn
    have hcap : len ≤ ((ρ k).ext - o) / (ρ k).sz := by rw [hsz]; exact le_div_of hpos (by omega)
    cases mx' with
    | none =>
     simp only [Option.isSome_none, Bool.false_eq_true, if_false] at h
     have hr0 := run_bounds (P := E.P) (isS := true) h1 h2 h3 hb ρ w
     have hb' : bounds len (((ρ k).ext - o) / (ρ k).sz) lo' hi' none = some (l, hh, ((ρ k).ext - o) / (ρ k).sz) := by
      unfold bounds at hb ⊢
      simp only [Option.getD_none, Option.isSome_none, Bool.false_eq_true, if_false] at hb ⊢
      split at hb
      ·rename_i hc
       simp only [Option.some.injEq, Prod.mk.injEq] at hb
       rw [if_pos (by omega), hb.1, hb.2.1]
      ·cases hb
     have hr := run_bounds (P := E.P) (isS := true) h1 h2 h3 hb' ρ w
     split at h
     ·rename_i hlt
      simp only [Option.some.injEq] at h
      subst h
      refine ⟨?_, by simpa using hx⟩
      simp only [emb_slice_none, Instr.sliceAt, Instr.slice, Sem.run_bind, run_underlying hu, Result.andThen_ok, hr.1, run_sizeT hn, Sem.run_pure]
      congr 1
      rw [hsz, sub_mul_div' _ _ _ _ hpos]
      rcases hlt with hlt | rfl
      ·rw [hsz] at hcap
       rw [if_neg (by omega)]
       simp [add_off, Nat.add_assoc]
      ·split
       ·simp
       ·simp [add_off]
     ·cases h
    | some m0 =>
     simp only [Option.isSome_some, if_true, Option.some.injEq] at h
     subst h
     have hb' : bounds len (((ρ k).ext - o) / (ρ k).sz) lo' hi' (some m0) = some (l, hh, m) := by
      unfold bounds at hb ⊢
      simp only [Option.getD_some, Option.isSome_some, if_true] at hb ⊢
      split at hb
      ·rename_i hc
       rw [if_pos (by omega)]
       exact hb
      ·cases hb
     have hr := run_bounds (P := E.P) (isS := true) h1 h2 h3 hb' ρ w
     refine ⟨?_, by simpa using hx⟩
     simp only [emb_slice_none, emb_slice_some, Instr.sliceAt, Instr.slice, Sem.run_bind, run_underlying hu, Result.andThen_ok, hr.1, run_sizeT hn, Sem.run_pure]
     congr 1
     split
     ·rfl
     ·simp [add_off, Nat.add_assoc]
   ·cases h
  ·cases h
 ·rename_i n e k o hu
  split at h
  ·rename_i l hh m z hb hz
   simp only [Option.some.injEq] at h
   subst h
   have hr := run_bounds (P := E.P) (isS := false) h1 h2 h3 hb ρ w
   refine ⟨?_, by simpa using hx⟩
   simp only [emb_slice_some, emb_ptr, Instr.sliceAt, Instr.sureAddr, Sem.run_bind, run_underlying hu, Result.andThen_ok, hr.1, run_sizeT hz, Sem.run_pure]
   congr 1
   split
   ·rfl
   ·simp [add_off, Nat.add_assoc]
  ·cases h
 ·cases h

theorem indexAddrV_run {t : TypeId} {x ix v : V} {n : Nat} (hx : x.lt n = true) (h : indexAddrV P t x ix = some v) (ρ : Nat → Loc) (w : World) :
 (Instr.indexAt t (x.emb ρ) (ix.emb ρ)).run P w = .ok (v.emb ρ) w ∧ v.lt n = true := by
 unfold indexAddrV at h
 split at h
 ·rename_i e k o len c kk i hu
  split at h
  ·rename_i z hz
   split at h
   ·rename_i hi
    simp only [Option.some.injEq] at h
    subst h
    refine ⟨?_, by simpa using hx⟩
    simp only [emb_slice, emb_int, emb_ptr, Instr.indexAt, asIntOf, Sem.run_bind, Sem.run_pure, run_underlying hu, Result.andThen_ok, hi, and_self, if_true, run_sizeT hz, add_off, Nat.add_assoc]
   ·cases h
  ·cases h
 ·rename_i len e k o kk i hu
  split at h
  ·rename_i z hz
   split at h
   ·rename_i hi
    simp only [Option.some.injEq] at h
    subst h
    refine ⟨?_, by simpa using hx⟩
    simp only [emb_int, emb_ptr, Instr.indexAt, Instr.sureAddr, asIntOf, Sem.run_bind, Sem.run_pure, run_underlying hu, Result.andThen_ok, hi, and_self, if_true, run_sizeT hz, add_off, Nat.add_assoc]
   ·cases h
  ·cases h
 ·rename_i len e k o kk i hu
  split at h
  ·rename_i z hz
   split at h
   ·rename_i hi
    simp only [Option.some.injEq] at h
    subst h
    refine ⟨?_, rfl⟩
    simp only [emb_int, emb_gptr, Instr.indexAt, Instr.sureAddr, asIntOf, Sem.run_bind, Sem.run_pure, run_underlying hu, Result.andThen_ok, hi, and_self, if_true, run_sizeT hz, add_off]
   ·cases h
  ·cases h
 ·cases h

theorem str_get (s : List UInt8) (i : Nat) : (⟨⟨s⟩⟩ : ByteArray)[i]? = s[i]? := by
 by_cases h : i < s.length
 ·rw [ByteArray.getElem?_lt' _ _ h, List.getElem?_eq_getElem h]
  rfl
 ·rw [ByteArray.getElem?_ge' _ _ h, List.getElem?_eq_none (by omega)]

theorem indexV_run {t : TypeId} {x ix v : V} {n : Nat} (hx : x.lt n = true) (h : indexV P t x ix = some v) (ρ : Nat → Loc) (w : World) :
 (Instr.index t (x.emb ρ) (ix.emb ρ)).run P w = .ok (v.emb ρ) w ∧ v.lt n = true := by
 unfold indexV at h
 split at h
 ·rename_i s k i hu
  split at h
  ·rename_i hi
   simp only [Option.map_eq_some_iff] at h
   obtain ⟨b, hb, rfl⟩ := h
   refine ⟨?_, rfl⟩
   simp [Instr.index, asIntOf, run_underlying hu, hi, str_get, hb, byteV]
  ·cases h
 ·rename_i len e cs k i hu
  split at h
  ·rename_i z hz
   split at h
   ·rename_i hi
    refine ⟨?_, lt_partV h ((lt_agg _ _).1 hx)⟩
    have := run_partV h ρ w
    simp [Instr.index, asIntOf, run_underlying hu, hi, run_sizeT hz, this]
   ·cases h
  ·cases h
 ·cases h

theorem fieldAddrV_run {s : TypeId} {x v : V} {f n : Nat} (hx : x.lt n = true) (h : fieldAddrV P s x f = some v) (ρ : Nat → Loc) (w : World) :
 (Instr.fieldAt s (x.emb ρ) f).run P w = .ok (v.emb ρ) w ∧ v.lt n = true := by
 unfold fieldAddrV at h
 split at h
 ·rename_i fs hu
  split at h
  ·rename_i fd hf
   split at h
   ·rename_i m k o hs
    simp only [Option.some.injEq] at h
    subst h
    refine ⟨?_, by simpa using hx⟩
    simp [Instr.fieldAt, Instr.sureAddr, run_underlying hu, hf, fieldPlace, run_sizeT hs, add_off, Nat.add_assoc]
   ·rename_i m k o hs
    simp only [Option.some.injEq] at h
    subst h
    refine ⟨?_, rfl⟩
    simp [Instr.fieldAt, Instr.sureAddr, run_underlying hu, hf, fieldPlace, run_sizeT hs, add_off]
   ·cases h
  ·cases h
 ·cases h

theorem fieldV_run {t : TypeId} {x v : V} {f n : Nat} (hx : x.lt n = true) (h : fieldV P t x f = some v) (ρ : Nat → Loc) (w : World) :
 (Instr.field t (x.emb ρ) f).run P w = .ok (v.emb ρ) w ∧ v.lt n = true := by
 unfold fieldV at h
 split at h
 ·rename_i fs cs hu
  split at h
  ·rename_i fd hf
   refine ⟨?_, lt_partV h ((lt_agg _ _).1 hx)⟩
   have := run_partV h ρ w
   simp [Instr.field, run_underlying hu, hf, asAgg, this]
  ·cases h
 ·cases h

theorem WR.dead (hw : WR E N ρ H w) (l : Loc) : WR E N (upd ρ H.length l) (H ++ [.dead]) w ∧ Goes H ρ w (H ++ [.dead]) (upd ρ H.length l) w := by
 have hext : ∀ k, k < H.length → upd ρ H.length l k = ρ k := fun k hk => upd_lt ρ l hk
 have hget : ∀ (k : Nat) (o' : AObj), (H ++ [AObj.dead])[k]? = some o' → (k < H.length ∧ H[k]? = some o') ∨ (k = H.length ∧ o' = .dead) := fun k o' hk => by
  rcases Nat.lt_trichotomy k H.length with hlt | heq | hgt
  ·rw [List.getElem?_append_left hlt] at hk; exact .inl ⟨hlt, hk⟩
  ·subst heq
   simp at hk
   exact .inr ⟨rfl, hk.symm⟩
  ·rw [List.getElem?_append_right (by omega), List.getElem?_eq_none (by simp; omega)] at hk; cases hk
 refine ⟨⟨hw.low, ?_, ?_, ?_, globs_kept hw (fun _ _ => rfl)⟩, ⟨rfl, rfl, rfl, Nat.le_refl _, fun _ _ _ => rfl, ?_, hext, by simp⟩⟩
 ·intro k o' hk
  rw [List.length_append]
  rcases hget k o' hk with ⟨_, hk'⟩ | ⟨_, rfl⟩
  ·exact ltL_mono (by simp) (hw.vals k o' hk')
  ·exact ltL_nil _
 ·intro k o' hk
  rcases hget k o' hk with ⟨hlt, hk'⟩ | ⟨rfl, rfl⟩
  ·rw [hext k hlt]
   exact (hw.objs k o' hk').kept (hw.vals k o' hk') hext rfl
  ·trivial
 ·intro k k' o1 o2 hk hk' h1 h2 hne
  rcases hget k o1 hk with ⟨hlt, hk1⟩ | ⟨rfl, rfl⟩
  ·rcases hget k' o2 hk' with ⟨hlt', hk2⟩ | ⟨rfl, rfl⟩
   ·rw [hext k hlt, hext k' hlt']; exact hw.inj k k' o1 o2 hk1 hk2 h1 h2 hne
   ·cases h2
  ·cases h1
 ·rintro b _ ⟨k, o', hk, hown, hbk⟩
  rcases hget k o' hk with ⟨hlt, hk1⟩ | ⟨rfl, rfl⟩
  ·exact ⟨k, o', hk1, hown, by rw [hext k hlt] at hbk; exact hbk⟩
  ·cases hown

theorem sliceEnd_run (hw : WR E N ρ H w) {wr esc : Nat} {t : TypeId} {x : V} {lo hi mx : Option V} {lo' hi' mx' : Option Nat}
 (h1 : natV lo = some lo') (h2 : natV hi = some hi') (h3 : natV mx = some mx') (h : sliceEnd E.P t x lo' hi' mx' ⟨H, wr, esc⟩ = true) :
 ∃ ρ', (Instr.sliceAt t (x.emb ρ) (lo.map (V.emb ρ)) (hi.map (V.emb ρ)) (mx.map (V.emb ρ))).run E.P w = .ok ((V.slice H.length 0 0 none).emb ρ') w ∧ WR E N ρ' (H ++ [.dead]) w ∧ Goes H ρ w (H ++ [.dead]) ρ' w := by
 unfold sliceEnd at h
 split at h
 ·rename_i e k o len hu
  split at h
  ·rename_i l hh m n cs e' fz hb hn hk
   simp only [Bool.and_eq_true, decide_eq_true_eq] at h
   obtain ⟨hmx, rfl, hpos0, rfl, hle⟩ := h
   simp only at hk
   obtain ⟨hpos, hsz, hext⟩ := (hw.objs k _ hk).grown hn
   have hcap : l ≤ ((ρ k).ext - o) / (ρ k).sz := by rw [hsz]; exact le_div_of hpos (by omega)
   have hmx' : mx' = none := by simpa using hmx
   subst hmx'
   have hhl : hh = l := by
    unfold bounds at hb
    simp only [Option.getD_none, Option.isSome_none, Bool.false_eq_true, if_false] at hb
    split at hb
    ·simp only [Option.some.injEq, Prod.mk.injEq] at hb
     omega
    ·cases hb
   subst hhl
   have hb' : bounds hh (((ρ k).ext - o) / (ρ k).sz) lo' hi' none = some (hh, hh, ((ρ k).ext - o) / (ρ k).sz) := by
    unfold bounds at hb ⊢
    simp only [Option.getD_none, Option.isSome_none, Bool.false_eq_true, if_false] at hb ⊢
    split at hb
    ·rename_i hc
     simp only [Option.some.injEq, Prod.mk.injEq] at hb
     rw [hb.1, hb.2.1, if_pos ⟨Nat.le_refl _, hcap, Nat.le_refl _⟩]
    ·cases hb
   have hr := run_bounds (P := E.P) (isS := true) h1 h2 h3 hb' ρ w
   generalize hq : ((ρ k).ext - o) / (ρ k).sz = q at hr hcap
   have hd := hw.dead ⟨(ρ k).block, (if q = hh then (ρ k).off + o else (ρ k).off + o + hh * n), q - hh, 1⟩
   refine ⟨_, ?_, hd.1, hd.2⟩
   simp only [emb_slice_none, hq, Instr.sliceAt, Instr.slice, Sem.run_bind, run_underlying hu, Result.andThen_ok, hr.1, run_sizeT hn, Sem.run_pure, upd_same, Nat.sub_self, Nat.sub_zero, Nat.div_one, Nat.add_zero]
   congr 1
   by_cases hqe : q = hh
   ·rw [if_pos hqe, if_pos (by first | exact hqe | omega | exact hqe.symm)]
   ·rw [if_neg hqe, if_neg (by first | exact hqe | omega | exact fun h => hqe h.symm)]
    simp [add_off]
  ·cases h
 ·cases h

theorem str_beq (a b : List UInt8) : ((⟨⟨a⟩⟩ : ByteArray) == ⟨⟨b⟩⟩) = (a == b) := by
 rw [beq_toListBytes, ByteArray.toList_mk, ByteArray.toList_mk]

theorem findV_run {kt : TypeId} {d : TypeDesc} {key : V} (hp : plainKey P kt key = true) (hd : P.underlying kt = some d) (ρ : Nat → Loc) : ∀ (es : List Ent) (i : Nat) (r : Option (Nat × V)), findV key es i = some r →
 Instr.findNow d (key.emb ρ) (es.map (Ent.emb ρ)) i = some (r.map fun p => (p.1, p.2.emb ρ))
 | [], i, r, h => by simp only [findV, Option.some.injEq] at h; subst h; rfl
 | e :: es, i, r, h => by
  simp only [findV] at h
  have hs : ∀ b, sameKey key e.key = some b → Instr.sameNow d (key.emb ρ) (e.key.emb ρ) = some b := by
   intro b hb
   unfold plainKey at hp
   rw [hd] at hp
   split at hp
   ·rename_i h0; simp only [Option.some.injEq] at h0; subst h0
    unfold sameKey at hb
    split at hb <;> first | (rename_i e1; simp_all [Instr.sameNow]; done) | simp_all [Instr.sameNow]
   ·rename_i h0; simp only [Option.some.injEq] at h0; subst h0
    unfold sameKey at hb
    split at hb <;> simp_all [Instr.sameNow, str_beq]
   ·rename_i h0; simp only [Option.some.injEq] at h0; subst h0
    unfold sameKey at hb
    split at hb <;> simp_all [Instr.sameNow]
   ·cases hp
  simp only [List.map_cons, Instr.findNow]
  cases hk : sameKey key e.key with
  | none => rw [hk] at h; simp at h
  | some b =>
   rw [hk] at h
   rw [show (Ent.emb ρ e).key = e.key.emb ρ from rfl, hs b hk]
   cases b with
   | true => simp only [Option.some.injEq] at h; subst h; rfl
   | false => exact findV_run hp hd ρ es (i + 1) r h

theorem checkKey_run {kt : TypeId} {key : V} (hp : plainKey P kt key = true) (empty : Bool) (m : Nat) (ρ : Nat → Loc) (w : World) : (Instr.checkKey empty (m + 1) kt (key.emb ρ)).run P w = .ok () w := by
 unfold plainKey at hp
 split at hp
 ·rename_i hu; simp [Instr.checkKey, run_underlying hu]
 ·rename_i hu; simp [Instr.checkKey, run_underlying hu]
 ·rename_i hu; simp [Instr.checkKey, run_underlying hu]
 ·cases hp

theorem findKey_run {kt : TypeId} {key : V} (hp : plainKey P kt key = true) (ρ : Nat → Loc) (w : World) {es : List Ent} {r : Option (Nat × V)} (h : findV key es 0 = some r) :
 (Instr.findKey kt (key.emb ρ) (es.map (Ent.emb ρ))).run P w = .ok (r.map fun p => (p.1, p.2.emb ρ)) w := by
 have : ∃ d, P.underlying kt = some d := by
  unfold plainKey at hp
  split at hp
  ·rename_i hu; exact ⟨_, hu⟩
  ·rename_i hu; exact ⟨_, hu⟩
  ·rename_i hu; exact ⟨_, hu⟩
  ·cases hp
 obtain ⟨d, hd⟩ := this
 simp [Instr.findKey, run_underlying hd, findV_run hp hd ρ es 0 r h]

theorem findA_run {kt : TypeId} {key : V} (ρ : Nat → Loc) (w : World) : ∀ (es : List Ent) (i : Nat) (r : Option (Nat × V)), findA P kt key es i = some r →
 (Instr.findAsking kt (key.emb ρ) (es.map (Ent.emb ρ)) i).run P w = .ok (r.map fun p => (p.1, p.2.emb ρ)) w
 | [], i, r, h => by simp only [findA, Option.some.injEq] at h; subst h; rfl
 | e :: es, i, r, h => by
  simp only [findA] at h
  simp only [List.map_cons, Instr.findAsking, Sem.run_bind]
  rw [show (Ent.emb ρ e).key = e.key.emb ρ from rfl]
  have hmax : eqDepth ≤ Op.maxDepth := by decide
  split at h
  ·rename_i he
   simp only [Option.some.injEq] at h
   subst h
   rw [show (Op.equal kt (key.emb ρ) (e.key.emb ρ)).run P w = .ok true w from run_eqV ρ w _ _ _ _ _ he _ hmax]
   rfl
  ·rename_i he
   rw [show (Op.equal kt (key.emb ρ) (e.key.emb ρ)).run P w = .ok false w from run_eqV ρ w _ _ _ _ _ he _ hmax]
   exact findA_run ρ w es (i + 1) r h
  ·cases h

theorem arrKey_spec {kt : TypeId} {key : V} (h : arrKey P kt key = true) : ∃ len e k cs, P.underlying kt = some (.array len e) ∧ P.underlying e = some (.int k) ∧ key = .agg cs ∧ sizeT P e = some 1 ∧ cs.length = len := by
 unfold arrKey at h
 split at h
 ·rename_i len e hu
  split at h
  ·rename_i k hk
   split at h
   ·rename_i cs
    simp only [Bool.and_eq_true, beq_iff_eq] at h
    exact ⟨len, e, k, cs, hu, hk, rfl, h.1, h.2⟩
   ·cases h
  ·cases h
 ·cases h

theorem checkKeyA_run {kt : TypeId} {key : V} (h : arrKey P kt key = true) (empty : Bool) (m : Nat) (ρ : Nat → Loc) (w : World) : (Instr.checkKey empty (m + 2) kt (key.emb ρ)).run P w = .ok () w := by
 obtain ⟨len, e, k, cs, hu, hk, rfl, hz, hl⟩ := arrKey_spec h
 have hagg : isAggT P e = some false := by unfold isAggT; rw [hk]
 have one : ∀ i, i < len → ∀ (x : PUnit.{1}), (do Instr.checkKey empty (m + 1) e (← part e (cs.map (V.emb ρ)).toArray (i * (← sizeOf e))); pure (ForInStep.yield PUnit.unit) : Sem (ForInStep PUnit.{1})).run P w = .ok (.yield PUnit.unit) w := by
  intro i hi x
  obtain ⟨v, hv⟩ : ∃ v, cs[i]? = some v := ⟨_, List.getElem?_eq_getElem (by omega)⟩
  have hp : partV P e cs i = some v := by unfold partV; simp only [hagg, hz, hv]
  have := run_partV hp ρ w
  simp only [Sem.run_bind, run_sizeT hz, Result.andThen_ok, Nat.mul_one, this]
  simp [Instr.checkKey, run_underlying hk]
 have loop : ∀ (n s : Nat), s + n ≤ len → (forIn (List.range' s n) PUnit.unit fun i _ => (do Instr.checkKey empty (m + 1) e (← part e (cs.map (V.emb ρ)).toArray (i * (← sizeOf e))); pure (ForInStep.yield PUnit.unit) : Sem (ForInStep PUnit.{1}))).run P w = .ok PUnit.unit w := by
  intro n
  induction n with
  | zero => intro s _; simp
  | succ n ih =>
   intro s hs
   rw [List.range'_succ, List.forIn_cons, Sem.run_bind, one s (by omega) PUnit.unit]
   exact ih (s + 1) (by omega)
 rw [emb_agg, Instr.checkKey]
 simp only [Sem.run_bind, run_underlying hu, Result.andThen_ok]
 rw [Std.Legacy.Range.forIn_eq_forIn_range']
 simp only [Std.Legacy.Range.size, Nat.sub_zero, Nat.add_sub_cancel, Nat.div_one]
 have := loop len 0 (by omega)
 rw [this]
 rfl

theorem findK_run {kt : TypeId} {key : V} (ρ : Nat → Loc) (w : World) {es : List Ent} {r : Option (Nat × V)} (h : findK P kt key es = some r) (empty : Bool) :
 (Instr.checkKey empty 10000 kt (key.emb ρ)).run P w = .ok () w ∧ (Instr.findKey kt (key.emb ρ) (es.map (Ent.emb ρ))).run P w = .ok (r.map fun p => (p.1, p.2.emb ρ)) w := by
 unfold findK at h
 split at h
 ·rename_i hp
  exact ⟨checkKey_run hp empty 9999 ρ w, findKey_run hp ρ w h⟩
 ·split at h
  ·rename_i ha
   refine ⟨checkKeyA_run ha empty 9998 ρ w, ?_⟩
   obtain ⟨len, e, k, cs, hu, hk, rfl, hz, hl⟩ := arrKey_spec ha
   have := findA_run ρ w es 0 r h
   unfold Instr.findKey
   simp only [Sem.run_bind, run_underlying hu, Result.andThen_ok]
   cases es with
   | nil => simp only [findA, Option.some.injEq] at h; subst h; rfl
   | cons e0 es =>
    have hn : Instr.findNow (.array len e) ((V.agg cs).emb ρ) (List.map (Ent.emb ρ) (e0 :: es)) 0 = none := by
     simp only [List.map_cons, Instr.findNow, Instr.sameNow]
    rw [hn]
    exact this
  ·cases h

theorem findA_mem {kt : TypeId} {key : V} : ∀ (es : List Ent) (i j : Nat) (v : V), findA P kt key es i = some (some (j, v)) → ∃ e, e ∈ es ∧ e.val = v
 | [], i, j, v, h => by simp [findA] at h
 | e :: es, i, j, v, h => by
  simp only [findA] at h
  split at h
  ·simp only [Option.some.injEq, Prod.mk.injEq] at h; exact ⟨e, List.mem_cons_self .., h.2⟩
  ·obtain ⟨e', he, hv⟩ := findA_mem es _ j v h; exact ⟨e', List.mem_cons_of_mem _ he, hv⟩
  ·cases h

theorem findV_mem {key : V} : ∀ (es : List Ent) (i j : Nat) (v : V), findV key es i = some (some (j, v)) → ∃ e, e ∈ es ∧ e.val = v
 | [], i, j, v, h => by simp [findV] at h
 | e :: es, i, j, v, h => by
  simp only [findV] at h
  split at h
  ·simp only [Option.some.injEq, Prod.mk.injEq] at h; exact ⟨e, List.mem_cons_self .., h.2⟩
  ·obtain ⟨e', he, hv⟩ := findV_mem es _ j v h; exact ⟨e', List.mem_cons_of_mem _ he, hv⟩
  ·cases h

theorem findK_mem {kt : TypeId} {key : V} {es : List Ent} {j : Nat} {v : V} (h : findK P kt key es = some (some (j, v))) : ∃ e, e ∈ es ∧ e.val = v := by
 unfold findK at h
 split at h
 ·exact findV_mem es 0 j v h
 ·split at h
  ·exact findA_mem es 0 j v h
  ·cases h

theorem getObj_run (hw : WR E N ρ H w) {k : Nat} {es : List Ent} {c : Nat} (hk : H[k]? = some (.map es c)) :
 (getObj (ρ k).block).run E.P w = .ok (.map (es.map (Ent.emb ρ)).toArray c) w := by
 have := (hw.objs k _ hk).1
 simp [getObj, Sem.run, this]

mutual
theorem eqB_eq : ∀ (a b : V), a.eqB b = true → a = b
 | .bool _, b, h => by cases b <;> simp_all [V.eqB]
 | .int _ _, b, h => by cases b <;> simp_all [V.eqB]
 | .str _, b, h => by cases b <;> simp_all [V.eqB]
 | .agg l, b, h => by
  cases b <;> simp only [V.eqB, Bool.false_eq_true] at h
  rw [eqBL_eq l _ h]
 | .nilp, b, h => by cases b <;> simp [V.eqB] at h
 | .ptr _ _, b, h => by cases b <;> simp [V.eqB] at h
 | .gptr _ _, b, h => by cases b <;> simp [V.eqB] at h
 | .nils, b, h => by cases b <;> simp [V.eqB] at h
 | .odd _, b, h => by cases b <;> simp [V.eqB] at h
 | .slice _ _ _ _, b, h => by cases b <;> simp [V.eqB] at h
 | .nilm, b, h => by cases b <;> simp [V.eqB] at h
 | .map _, b, h => by cases b <;> simp [V.eqB] at h
 | .nilf, b, h => by cases b <;> simp [V.eqB] at h
 | .func _ _ _, b, h => by cases b <;> simp [V.eqB] at h
 | .nili, b, h => by cases b <;> simp [V.eqB] at h
 | .iface _ _, b, h => by cases b <;> simp [V.eqB] at h
 | .tup _, b, h => by cases b <;> simp [V.eqB] at h
theorem eqBL_eq : ∀ (a b : List V), V.eqBL a b = true → a = b
 | [], b, h => by cases b <;> simp_all [V.eqBL]
 | x :: l, b, h => by
  cases b with
  | nil => simp [V.eqBL] at h
  | cons y l' =>
   simp only [V.eqBL, Bool.and_eq_true] at h
   rw [eqB_eq x y h.1, eqBL_eq l l' h.2]
end

theorem sameAns_eq {a b : Option (Option (Nat × V))} (h : sameAns a b = true) : ∃ r r', a = some r ∧ b = some r' ∧ r.map (·.2) = r'.map (·.2) := by
 unfold sameAns at h
 split at h
 ·exact ⟨none, none, rfl, rfl, rfl⟩
 ·exact ⟨_, _, rfl, rfl, by simp [eqB_eq _ _ h]⟩
 ·cases h

theorem lookupV_run (hw : WR E N ρ H w) {wr esc : Nat} {t : TypeId} {x key v : V} {ok : Bool} (h : lookupV E.P t x key ok ⟨H, wr, esc⟩ = some v) :
 (Instr.lookup t (x.emb ρ) (key.emb ρ) ok).run E.P w = .ok (v.emb ρ) w ∧ v.lt H.length = true := by
 unfold lookupV at h
 split at h
 ·rename_i kt vt hu
  ·split at h
   ·rename_i es z hes hz
    have hz' := run_zeroT hz ρ w
    have main : (∀ e ∈ es, e.val.lt H.length = true) ∧ ∀ r, findK E.P kt key es = some r → (Instr.lookup t (x.emb ρ) (key.emb ρ) ok).run E.P w = .ok (if ok then .tuple #[((r.map (·.2)).getD z).emb ρ, .bool r.isSome] else ((r.map (·.2)).getD z).emb ρ) w := by
     have cont : ∀ (es : List Ent) (r : Option (Nat × V)), findK E.P kt key es = some r → ((do
      Instr.checkKey ((es.map (Ent.emb ρ)).toArray).isEmpty 10000 kt (key.emb ρ)
      match ← Instr.findKey kt (key.emb ρ) (es.map (Ent.emb ρ)).toArray.toList with
       | some (_, v) => do
        let __x ← pure (v, true)
        pure (if ok = true then Value.tuple #[__x.1, Value.bool __x.2] else __x.1)
       | none => do
        let __do_lift ← zeroValue vt
        let __x ← pure (__do_lift, false)
        pure (if ok = true then Value.tuple #[__x.1, Value.bool __x.2] else __x.1)) : Sem Value).run E.P w =
      .ok (if ok then .tuple #[((r.map (·.2)).getD z).emb ρ, .bool r.isSome] else ((r.map (·.2)).getD z).emb ρ) w := by
      intro es r hr
      have hf := findK_run ρ w hr ((es.map (Ent.emb ρ)).toArray).isEmpty
      simp only [Sem.run_bind]
      rw [hf.1, Result.andThen_ok, hf.2, Result.andThen_ok]
      cases r with
      | none => simp only [Option.map_none, Sem.run_bind, hz'.1, Result.andThen_ok, Sem.run_pure]; cases ok <;> rfl
      | some p => simp only [Option.map_some, Sem.run_bind, Sem.run_pure, Result.andThen_ok]; cases ok <;> rfl
     split at hes
     ·simp only [Option.some.injEq] at hes
      subst hes
      refine ⟨(fun e he => by cases he), fun r hr => ?_⟩
      have := cont [] r hr
      simp only [Instr.lookup, Sem.run_bind, run_underlying hu, Result.andThen_ok, emb_nilm, Sem.run_pure] at this ⊢
      exact this
     ·rename_i k
      split at hes
      ·rename_i es' c hk
       simp only [Option.some.injEq] at hes
       subst hes
       refine ⟨fun e he => hw.vals k _ hk _ (List.mem_append.2 (.inr (List.mem_map.2 ⟨e, he, rfl⟩))), fun r hr => ?_⟩
       have := cont _ r hr
       simp only [Instr.lookup, Sem.run_bind, run_underlying hu, Result.andThen_ok, emb_map, getObj_run hw hk, Sem.run_pure] at this ⊢
       exact this
      ·rename_i es' c as hk
       split at hes
       ·rename_i hall
        simp only [Option.some.injEq] at hes
        subst hes
        simp only at hk
        refine ⟨fun e he => hw.vals k _ hk _ (List.mem_flatMap.2 ⟨_, List.mem_cons_self .., List.mem_append.2 (.inr (List.mem_map.2 ⟨e, he, rfl⟩))⟩), fun r hr => ?_⟩
        obtain ⟨⟨q, hq, hq1⟩, _⟩ := hw.objs k _ hk
        obtain ⟨r', hr', hrr⟩ : ∃ r', findK E.P kt key q.1 = some r' ∧ r'.map (·.2) = r.map (·.2) := by
         rcases List.mem_cons.1 hq with rfl | hq
         ·exact ⟨r, hr, rfl⟩
         ·obtain ⟨r1, r2, h1, h2, h3⟩ := sameAns_eq (List.all_eq_true.1 hall q hq)
          rw [hr] at h2
          cases h2
          exact ⟨r1, h1, h3⟩
        have := cont _ r' hr'
        have hg : (getObj (ρ k).block).run E.P w = .ok (.map (q.1.map (Ent.emb ρ)).toArray q.2) w := by simp [getObj, Sem.run, hq1]
        have hs : r'.isSome = r.isSome := by rw [← Option.isSome_map (f := (·.2)), hrr, Option.isSome_map]
        rw [hrr, hs] at this
        simp only [Instr.lookup, Sem.run_bind, run_underlying hu, Result.andThen_ok, emb_map, hg, Sem.run_pure] at this ⊢
        exact this
       ·cases hes
      ·cases hes
     ·cases hes
    obtain ⟨mainl, hfin⟩ := main
    split at h
    ·rename_i j u hf
     simp only [Option.some.injEq] at h
     subst h
     obtain ⟨e, he, rfl⟩ := findK_mem hf
     have hl := mainl e he
     rw [hfin _ hf]
     cases ok
     ·exact ⟨by simp, by simpa using hl⟩
     ·exact ⟨by simp, by simp [ltL, hl]⟩
    ·rename_i hf
     simp only [Option.some.injEq] at h
     subst h
     have hl := lt_flat hz'.2 H.length
     rw [hfin _ hf]
     cases ok
     ·exact ⟨by simp, by simpa using hl⟩
     ·exact ⟨by simp, by simp [ltL, hl]⟩
    ·cases h
   ·cases h
 ·cases h

end Go.Am

namespace Go.Am
open Go

variable {P : Program} {E : Env} {N : Nat} {ρ : Nat → Loc} {H : List AObj} {w : World}

theorem findV_at {key : V} : ∀ (es : List Ent) (i j : Nat) (v : V), findV key es i = some (some (j, v)) → ∃ e, i ≤ j ∧ es[j - i]? = some e ∧ sameKey key e.key = some true
 | [], i, j, v, h => by simp [findV] at h
 | e :: es, i, j, v, h => by
  simp only [findV] at h
  split at h
  ·rename_i hs
   simp only [Option.some.injEq, Prod.mk.injEq] at h
   obtain ⟨rfl, rfl⟩ := h
   exact ⟨e, Nat.le_refl _, by simp, hs⟩
  ·obtain ⟨e', h1, h2, h3⟩ := findV_at es _ j v h
   refine ⟨e', by omega, ?_, h3⟩
   rw [show j - i = (j - (i + 1)) + 1 by omega, List.getElem?_cons_succ]
   exact h2
  ·cases h

theorem sameBits_of (ρ : Nat → Loc) (m : Nat) {a b : V} (h : sameKey a b = some true) : Instr.sameBits m (b.emb ρ) (a.emb ρ) = true := by
 unfold sameKey at h
 split at h
 ·split at h
  ·rename_i k x k' y hk
   subst hk
   simp only [Option.some.injEq, beq_iff_eq] at h
   subst h
   cases m <;> simp [Instr.sameBits]
  ·cases h
 ·simp only [Option.some.injEq, beq_iff_eq] at h
  subst h
  cases m <;> simp [Instr.sameBits, str_beq]
 ·simp only [Option.some.injEq, beq_iff_eq] at h
  subst h
  cases m <;> simp [Instr.sameBits]
 ·cases h

theorem modify_emb (es : List Ent) (i : Nat) (key v : V) (ρ : Nat → Loc) :
 ((es.map (Ent.emb ρ)).toArray.modify i fun e => { e with key := key.emb ρ, val := v.emb ρ }) = ((es.modify i fun e => { e with key, val := v }).map (Ent.emb ρ)).toArray := by
 apply Array.ext
 ·simp
 ·intro j h1 h2
  simp only [Array.getElem_modify, List.getElem_toArray, List.getElem_map, List.getElem_modify]
  split <;> rfl

theorem setObj_run (hw : WR E N ρ H w) {k : Nat} {es es' : List Ent} {c c' : Nat} (hk : H[k]? = some (.map es c)) (hv : ltL H.length (AObj.vals (.map es' c'))) :
 ∃ w', (setObj (ρ k).block (.map (es'.map (Ent.emb ρ)).toArray c')).run E.P w = .ok () w' ∧ WR E N ρ (H.set k (.map es' c')) w' ∧ Goes H ρ w (H.set k (.map es' c')) ρ w' := by
 have hb := (hw.objs k _ hk).1
 have hge := (hw.objs k _ hk).2
 have hlt : (ρ k).block < w.heap.size := (Array.getElem?_eq_some_iff.1 hb).1
 refine ⟨{ w with heap := w.heap.setIfInBounds (ρ k).block (.map (es'.map (Ent.emb ρ)).toArray c') }, by simp [setObj, Sem.run, hb], ?_⟩
 refine hw.write hk rfl rfl rfl rfl (by simp) (fun b hb' => ?_) hv ⟨?_, hge⟩
 ·show (w.heap.setIfInBounds _ _)[b]? = _
  rw [Array.getElem?_setIfInBounds_ne (Ne.symm hb')]
 ·show (w.heap.setIfInBounds _ _)[_]? = _
  rw [Array.getElem?_setIfInBounds_self_of_lt hlt]

theorem mapSetV_run (hw : WR E N ρ H w) {wr esc : Nat} {t : TypeId} {m key v : V} {H' : Hp} (hkey : key.lt H.length = true) (hv : v.lt H.length = true) (h : mapSetV E.P t m key v ⟨H, wr, esc⟩ = some H') :
 ∃ w', (Instr.mapUpdate t (m.emb ρ) (key.emb ρ) (v.emb ρ)).run E.P w = .ok () w' ∧ WR E N ρ H'.objs w' ∧ Goes H ρ w H'.objs ρ w' := by
 unfold mapSetV at h
 split at h
 ·rename_i kt vt k hu
  split at h
  ·rename_i es clock hk
   simp only at hk
   have hvals := hw.vals k _ hk
   split at h
   ·rename_i i u hfk0
    split at h
    ·rename_i hp
     have hf : findV key es 0 = some (some (i, u)) := by unfold findK at hfk0; rwa [if_pos hp] at hfk0
     simp only [Option.some.injEq] at h
     subst h
     obtain ⟨e0, _, hi, hsame⟩ := findV_at es 0 i u hf
     simp only [Nat.sub_zero] at hi
     have hv' : ltL H.length (AObj.vals (.map (es.modify i fun e => { e with key, val := v }) clock)) := by
      intro x hx
      rcases List.mem_append.1 hx with hx | hx
      ·obtain ⟨e, he, rfl⟩ := List.mem_map.1 hx
       obtain ⟨j, hj⟩ := List.mem_iff_getElem?.1 he
       rw [List.getElem?_modify] at hj
       obtain ⟨e', he', rfl⟩ := Option.map_eq_some_iff.1 hj
       split
       ·exact hkey
       ·exact hvals _ (List.mem_append.2 (.inl (List.mem_map.2 ⟨e', List.mem_of_getElem? he', rfl⟩)))
      ·obtain ⟨e, he, rfl⟩ := List.mem_map.1 hx
       obtain ⟨j, hj⟩ := List.mem_iff_getElem?.1 he
       rw [List.getElem?_modify] at hj
       obtain ⟨e', he', rfl⟩ := Option.map_eq_some_iff.1 hj
       split
       ·exact hv
       ·exact hvals _ (List.mem_append.2 (.inr (List.mem_map.2 ⟨e', List.mem_of_getElem? he', rfl⟩)))
     obtain ⟨w', h1, h2⟩ := setObj_run hw hk hv'
     refine ⟨w', ?_, h2⟩
     have hfk := findKey_run hp ρ w hf
     have hsb := sameBits_of ρ 10000 hsame
     simp only [Instr.mapUpdate, Sem.run_bind, run_underlying hu, Result.andThen_ok, emb_map, getObj_run hw hk]
     rw [show (10000 : Nat) = 9999 + 1 from rfl, checkKey_run hp, Result.andThen_ok, hfk]
     simp only [Option.map_some, Result.andThen_ok, Sem.run_bind, List.getElem?_toArray, List.getElem?_map, hi, Option.getD_some, Instr.keyThatStays]
     rw [show (Ent.emb ρ e0).key = e0.key.emb ρ from rfl, hsb]
     simp only [if_true, Sem.run_pure, Result.andThen_ok]
     rw [← modify_emb] at h1
     exact h1
    ·cases h
   ·rename_i hf
    simp only [Option.some.injEq] at h
    subst h
    have hv' : ltL H.length (AObj.vals (.map (es ++ [{ key, val := v, born := clock }]) (clock + 1))) := by
     intro x hx
     rcases List.mem_append.1 hx with hx | hx
     ·obtain ⟨e, he, rfl⟩ := List.mem_map.1 hx
      rcases List.mem_append.1 he with he | he
      ·exact hvals _ (List.mem_append.2 (.inl (List.mem_map.2 ⟨e, he, rfl⟩)))
      ·rw [List.mem_singleton.1 he]; exact hkey
     ·obtain ⟨e, he, rfl⟩ := List.mem_map.1 hx
      rcases List.mem_append.1 he with he | he
      ·exact hvals _ (List.mem_append.2 (.inr (List.mem_map.2 ⟨e, he, rfl⟩)))
      ·rw [List.mem_singleton.1 he]; exact hv
    obtain ⟨w', h1, h2⟩ := setObj_run hw hk hv'
    refine ⟨w', ?_, h2⟩
    have hfk := findK_run ρ w hf false
    simp only [Instr.mapUpdate, Sem.run_bind, run_underlying hu, Result.andThen_ok, emb_map, getObj_run hw hk]
    rw [hfk.1, Result.andThen_ok, hfk.2]
    simp only [Option.map_none, Result.andThen_ok, List.push_toArray]
    simp only [List.map_append, List.map_cons, List.map_nil] at h1
    exact h1
   ·cases h
  ·cases h
 ·cases h

theorem modify_key (es : List Ent) (i : Nat) (key : V) (ρ : Nat → Loc) :
 ((es.map (Ent.emb ρ)).toArray.modify i fun e => { e with key := key.emb ρ }) = ((es.modify i fun e => { e with key }).map (Ent.emb ρ)).toArray := by
 apply Array.ext
 ·simp
 ·intro j h1 h2
  simp only [Array.getElem_modify, List.getElem_toArray, List.getElem_map, List.getElem_modify]
  split <;> rfl

theorem modify_val (es : List Ent) (i : Nat) (v : V) (ρ : Nat → Loc) :
 ((es.map (Ent.emb ρ)).toArray.modify i fun e => { e with val := v.emb ρ }) = ((es.modify i fun e => { e with val := v }).map (Ent.emb ρ)).toArray := by
 apply Array.ext
 ·simp
 ·intro j h1 h2
  simp only [Array.getElem_modify, List.getElem_toArray, List.getElem_map, List.getElem_modify]
  split <;> rfl

theorem mapEntryV_run (hw : WR E N ρ H w) {wr esc : Nat} {t : TypeId} {m key : V} {r : R} {H' : Hp} (hkey : key.lt H.length = true) (h : mapEntryV E.P t m key ⟨H, wr, esc⟩ = some (r, H')) :
 ∃ v, r = .val v ∧ v.lt H'.objs.length = true ∧ ∃ w', (Instr.mapEntry t (m.emb ρ) (key.emb ρ)).run E.P w = .ok (v.emb ρ) w' ∧ WR E N ρ H'.objs w' ∧ Goes H ρ w H'.objs ρ w' := by
 unfold mapEntryV at h
 split at h
 ·rename_i kt vt k hu
  split at h
  ·rename_i hp
   split at h
   ·rename_i es clock z hk hz
    simp only at hk
    have hvals := hw.vals k _ hk
    have hz' := run_zeroT hz ρ w
    split at h
    ·rename_i i u hf
     split at h
     ·rename_i e0' he0
      simp only [Option.some.injEq, Prod.mk.injEq] at h
      obtain ⟨rfl, rfl⟩ := h
      obtain ⟨e0, _, hi, hsame⟩ := findV_at es 0 i u hf
      simp only [Nat.sub_zero] at hi
      rw [hi] at he0
      simp only [Option.some.injEq] at he0
      subst he0
      have hv' : ltL H.length (AObj.vals (.map (es.modify i fun e => { e with key }) clock)) := by
       intro x hx
       rcases List.mem_append.1 hx with hx | hx
       ·obtain ⟨e, he, rfl⟩ := List.mem_map.1 hx
        obtain ⟨j, hj⟩ := List.mem_iff_getElem?.1 he
        rw [List.getElem?_modify] at hj
        obtain ⟨e', he', rfl⟩ := Option.map_eq_some_iff.1 hj
        split
        ·exact hkey
        ·exact hvals _ (List.mem_append.2 (.inl (List.mem_map.2 ⟨e', List.mem_of_getElem? he', rfl⟩)))
       ·obtain ⟨e, he, rfl⟩ := List.mem_map.1 hx
        obtain ⟨j, hj⟩ := List.mem_iff_getElem?.1 he
        rw [List.getElem?_modify] at hj
        obtain ⟨e', he', rfl⟩ := Option.map_eq_some_iff.1 hj
        have : e'.val.lt H.length = true := hvals _ (List.mem_append.2 (.inr (List.mem_map.2 ⟨e', List.mem_of_getElem? he', rfl⟩)))
        split <;> exact this
      obtain ⟨w', h1, h2⟩ := setObj_run hw hk hv'
      obtain ⟨eu, heu, rfl⟩ := findV_mem es 0 i u hf
      have hul : eu.val.lt H.length = true := hvals _ (List.mem_append.2 (.inr (List.mem_map.2 ⟨eu, heu, rfl⟩)))
      refine ⟨_, rfl, ?_, w', ?_, h2⟩
      ·simp only [Hp.write, List.length_set]
       exact (lt_tup _ _).2 (ltL_cons.2 ⟨hul, ltL_cons.2 ⟨rfl, ltL_nil _⟩⟩)
      have hfk := findKey_run hp ρ w hf
      have hsb := sameBits_of ρ 10000 hsame
      simp only [Instr.mapEntry, Sem.run_bind, run_underlying hu, Result.andThen_ok, emb_map, getObj_run hw hk]
      rw [show (10000 : Nat) = 9999 + 1 from rfl, checkKey_run hp, Result.andThen_ok, hfk]
      simp only [Option.map_some, Result.andThen_ok, Sem.run_bind, List.getElem?_toArray, List.getElem?_map, hi, Option.getD_some, Instr.keyThatStays]
      rw [show (Ent.emb ρ e0).key = e0.key.emb ρ from rfl, hsb]
      simp only [if_true, Sem.run_pure, Result.andThen_ok]
      rw [← modify_key] at h1
      rw [h1]
      simp [Ent.emb, goInt]
     ·cases h
    ·rename_i hf
     simp only [Option.some.injEq, Prod.mk.injEq] at h
     obtain ⟨rfl, rfl⟩ := h
     have hv' : ltL H.length (AObj.vals (.map (es ++ [{ key, val := z, born := clock }]) (clock + 1))) := by
      intro x hx
      rcases List.mem_append.1 hx with hx | hx
      ·obtain ⟨e, he, rfl⟩ := List.mem_map.1 hx
       rcases List.mem_append.1 he with he | he
       ·exact hvals _ (List.mem_append.2 (.inl (List.mem_map.2 ⟨e, he, rfl⟩)))
       ·rw [List.mem_singleton.1 he]; exact hkey
      ·obtain ⟨e, he, rfl⟩ := List.mem_map.1 hx
       rcases List.mem_append.1 he with he | he
       ·exact hvals _ (List.mem_append.2 (.inr (List.mem_map.2 ⟨e, he, rfl⟩)))
       ·rw [List.mem_singleton.1 he]; exact lt_flat hz'.2 _
     obtain ⟨w', h1, h2⟩ := setObj_run hw hk hv'
     refine ⟨_, rfl, ?_, w', ?_, h2⟩
     ·exact (lt_tup _ _).2 (ltL_cons.2 ⟨lt_flat hz'.2 _, ltL_cons.2 ⟨rfl, ltL_nil _⟩⟩)
     have hfk := findKey_run hp ρ w hf
     simp only [Instr.mapEntry, Sem.run_bind, run_underlying hu, Result.andThen_ok, emb_map, getObj_run hw hk]
     rw [show (10000 : Nat) = 9999 + 1 from rfl, checkKey_run hp, Result.andThen_ok, hfk]
     simp only [Option.map_none, Result.andThen_ok, Sem.run_bind, hz'.1, List.push_toArray]
     simp only [List.map_append, List.map_cons, List.map_nil] at h1
     simp only [Ent.emb] at h1 ⊢
     rw [h1]
     simp [goInt]
    ·cases h
   ·cases h
  ·cases h
 ·cases h

theorem findIdx_emb (ρ : Nat → Loc) (b : Int) : ∀ es : List Ent, (es.map (Ent.emb ρ)).findIdx? (fun e => (e.born : Int) == b) = es.findIdx? (fun e => (e.born : Int) == b)
 | [] => rfl
 | e :: es => by simp only [List.map_cons, List.findIdx?_cons, findIdx_emb ρ b es]; rfl

theorem entryStoreV_run (hw : WR E N ρ H w) {wr esc : Nat} {t : TypeId} {m stamp v : V} {H' : Hp} (hv : v.lt H.length = true) (h : entryStoreV m stamp v ⟨H, wr, esc⟩ = some H') :
 ∃ w', (Instr.entryStore t (m.emb ρ) (stamp.emb ρ) (v.emb ρ)).run E.P w = .ok () w' ∧ WR E N ρ H'.objs w' ∧ Goes H ρ w H'.objs ρ w' := by
 unfold entryStoreV at h
 split at h
 ·rename_i k ki b
  split at h
  ·rename_i es clock hk
   simp only at hk
   have hvals := hw.vals k _ hk
   split at h
   ·rename_i i hi
    simp only [Option.some.injEq] at h
    subst h
    have hv' : ltL H.length (AObj.vals (.map (es.modify i fun e => { e with val := v }) clock)) := by
     intro x hx
     rcases List.mem_append.1 hx with hx | hx
     ·obtain ⟨e, he, rfl⟩ := List.mem_map.1 hx
      obtain ⟨j, hj⟩ := List.mem_iff_getElem?.1 he
      rw [List.getElem?_modify] at hj
      obtain ⟨e', he', rfl⟩ := Option.map_eq_some_iff.1 hj
      have : e'.key.lt H.length = true := hvals _ (List.mem_append.2 (.inl (List.mem_map.2 ⟨e', List.mem_of_getElem? he', rfl⟩)))
      split <;> exact this
     ·obtain ⟨e, he, rfl⟩ := List.mem_map.1 hx
      obtain ⟨j, hj⟩ := List.mem_iff_getElem?.1 he
      rw [List.getElem?_modify] at hj
      obtain ⟨e', he', rfl⟩ := Option.map_eq_some_iff.1 hj
      split
      ·exact hv
      ·exact hvals _ (List.mem_append.2 (.inr (List.mem_map.2 ⟨e', List.mem_of_getElem? he', rfl⟩)))
    obtain ⟨w', h1, h2⟩ := setObj_run hw hk hv'
    refine ⟨w', ?_, h2⟩
    have e1 : ((es.map (Ent.emb ρ)).toArray.findIdx? fun e => (e.born : Int) == b) = some i := by
     rw [← hi, ← findIdx_emb ρ b es]
     simp
    simp only [Instr.entryStore, Sem.run_bind, emb_map, emb_int, getObj_run hw hk, Result.andThen_ok, asInt, asIntOf, Sem.run_pure, e1]
    rw [← modify_val] at h1
    exact h1
   ·cases h
  ·cases h
 ·cases h

theorem encode_run (n : Int) : Utf8.encode n = ⟨⟨encode n⟩⟩ := by
 unfold Utf8.encode encode
 simp only
 generalize (if Utf8.valid n = true then n.toNat else Utf8.runeError) = c
 by_cases h1 : c < 0x80 <;> by_cases h2 : c < 0x800 <;> by_cases h3 : c < 0x10000 <;> simp [h1, h2, h3]

theorem get!_str (l : List UInt8) (i : Nat) : (⟨⟨l⟩⟩ : ByteArray).get! i = l.getD i 0 := by
 simp [ByteArray.get!, List.getD]
 rfl

theorem decode_run (s : List UInt8) (pos : Nat) (h : pos < s.length) : Utf8.decode ⟨⟨s⟩⟩ pos = decode (s.drop pos) := by
 obtain ⟨a, r, hr⟩ : ∃ a r, s.drop pos = a :: r := by
  cases hd : s.drop pos with
  | nil => have := List.drop_eq_nil_iff.1 hd; omega
  | cons a r => exact ⟨a, r, rfl⟩
 have hlen : s.length = pos + 1 + r.length := by
  have := congrArg List.length hr
  simp at this
  omega
 have h0 : s.getD (pos + 0) 0 = a := by
  have := congrArg (fun l => l[0]?) hr
  simp only [List.getElem?_drop, List.getElem?_cons_zero, Nat.add_zero] at this
  simp [List.getD, this]
 have hk : ∀ k, s.getD (pos + (k + 1)) 0 = r.getD k 0 := fun k => by
  have := congrArg (fun l => l[k + 1]?) hr
  simp only [List.getElem?_drop, List.getElem?_cons_succ] at this
  simp [List.getD, this]
 have hc : ∀ k, decide (pos + (k + 1) < (⟨⟨s⟩⟩ : ByteArray).size) = decide (k + 1 ≤ r.length) := fun k => by
  rw [str_size, hlen]
  congr 1
  apply propext
  omega
 rw [hr]
 unfold Utf8.decode decode
 simp only [get!_str, h0, hk 0, hk 1, hk 2, hc 0, hc 1, hc 2]

theorem runesFrom_run (s : List UInt8) : ∀ (b i : Nat) (acc : List Value), Conv.runesFrom ⟨⟨s⟩⟩ b i acc.toArray = (acc ++ (runes b (s.drop i)).map fun r => Value.int .i32 (Int.ofNat r)).toArray
 | 0, i, acc => by simp [Conv.runesFrom, runes]
 | b + 1, i, acc => by
  simp only [Conv.runesFrom, str_size]
  by_cases hi : i < s.length
  ·rw [if_pos hi, decode_run s i hi]
   have := runesFrom_run s b (i + (decode (s.drop i)).2) (acc ++ [Value.int .i32 (Int.ofNat (decode (s.drop i)).1)])
   simp only [List.push_toArray]
   rw [this]
   obtain ⟨a, r, hr⟩ : ∃ a r, s.drop i = a :: r := by
    cases hd : s.drop i with
    | nil => have := List.drop_eq_nil_iff.1 hd; omega
    | cons a r => exact ⟨a, r, rfl⟩
   have : runes (b + 1) (s.drop i) = (decode (s.drop i)).1 :: runes b ((s.drop i).drop (decode (s.drop i)).2) := by
    rw [hr]; rfl
   rw [this, List.drop_drop]
   simp
  ·rw [if_neg hi]
   have : s.drop i = [] := List.drop_eq_nil_iff.2 (by omega)
   rw [this]
   simp [runes]

theorem bytesOf_run : ∀ (cs : List V) (s : List UInt8), bytesOf cs = some s → ∀ ρ : Nat → Loc, ∃ ns : List Int, cs.map (V.emb ρ) = ns.map (Value.int .u8) ∧ s = ns.map fun n => UInt8.ofNat n.toNat
 | [], s, h, ρ => by simp only [bytesOf, Option.some.injEq] at h; subst h; exact ⟨[], rfl, rfl⟩
 | .int .u8 n :: r, s, h, ρ => by
  simp only [bytesOf, Option.map_eq_some_iff] at h
  obtain ⟨s', hs, rfl⟩ := h
  obtain ⟨ns, h1, h2⟩ := bytesOf_run r s' hs ρ
  exact ⟨n :: ns, by simp [h1], by simp [h2]⟩

theorem runesOf_run : ∀ (cs : List V) (s : List UInt8), runesOf cs = some s → ∀ ρ : Nat → Loc, ∃ ns : List Int, cs.map (V.emb ρ) = ns.map (Value.int .i32) ∧ s = ns.flatMap encode
 | [], s, h, ρ => by simp only [runesOf, Option.some.injEq] at h; subst h; exact ⟨[], rfl, rfl⟩
 | .int .i32 n :: r, s, h, ρ => by
  simp only [runesOf, Option.map_eq_some_iff] at h
  obtain ⟨s', hs, rfl⟩ := h
  obtain ⟨ns, h1, h2⟩ := runesOf_run r s' hs ρ
  exact ⟨n :: ns, by simp [h1], by simp [h2]⟩

theorem foldl_push (ns : List Int) : ∀ s : List UInt8, ns.foldl (fun (r : ByteArray) n => r.push (UInt8.ofNat n.toNat)) ⟨⟨s⟩⟩ = ⟨⟨s ++ ns.map fun n => UInt8.ofNat n.toNat⟩⟩ := by
 induction ns with
 | nil => intro s; simp
 | cons n r ih =>
  intro s
  simp only [List.foldl_cons]
  rw [show (⟨⟨s⟩⟩ : ByteArray).push (UInt8.ofNat n.toNat) = ⟨⟨s ++ [UInt8.ofNat n.toNat]⟩⟩ by
   apply ByteArray.ext; apply Array.ext'; simp, ih]
  simp

theorem run_forIn_runes {P : Program} {w : World} (f : Value → ByteArray → Sem (ForInStep ByteArray))
 (hf : ∀ (n : Int) (r : ByteArray), (f (.int .i32 n) r).run P w = .ok (.yield (r ++ Utf8.encode n)) w) :
 ∀ (ns : List Int) (s : List UInt8), (forIn (ns.map (Value.int .i32)) (⟨⟨s⟩⟩ : ByteArray) f).run P w = .ok ⟨⟨s ++ ns.flatMap encode⟩⟩ w := by
 intro ns
 induction ns with
 | nil => intro s; simp [Sem.run_pure]
 | cons n ns ih =>
  intro s
  simp only [List.map_cons, List.forIn_cons, Sem.run_bind, hf, Result.andThen]
  rw [encode_run, str_append, ih]
  simp

theorem run_runesToString {P : Program} (w : World) (a : Addr) (len cap : Nat) (ns : List Int)
 (h : (loadCells a len).run P w = .ok (ns.map (Value.int .i32)).toArray w) :
 (Conv.runesToString (.slice (some a) len cap)).run P w = .ok (.string ⟨⟨ns.flatMap encode⟩⟩) w := by
 unfold Conv.runesToString
 simp only [Sem.run_bind, h, Result.andThen, List.forIn_toArray]
 rw [show (ByteArray.empty : ByteArray) = ⟨⟨[]⟩⟩ from rfl, run_forIn_runes _ (by intro n r; simp [Sem.run_pure])]
 simp [Sem.run_pure]

end Go.Am

namespace Go.Am
open Go

variable {P : Program} {E : Env} {N : Nat} {ρ : Nat → Loc} {H : List AObj} {w : World}

def Val (E : Env) (N : Nat) (ρ : Nat → Loc) (H : List AObj) (w : World) (s : Sem Value) (v : V) (H' : List AObj) : Prop :=
 ∃ ρ' w', s.run E.P w = .ok (v.emb ρ') w' ∧ WR E N ρ' H' w' ∧ Goes H ρ w H' ρ' w' ∧ v.lt H'.length = true

theorem Val.pure (hw : WR E N ρ H w) {s : Sem Value} {v : V} (h : s.run E.P w = .ok (v.emb ρ) w) (hv : v.lt H.length = true) : Val E N ρ H w s v H :=
 ⟨ρ, w, h, hw, Goes.refl H ρ w, hv⟩

theorem WR.grow (hw : WR E N ρ H w) {w' : World} {cs : List V} {e : TypeId} {C : Array Value} {z : Nat × Nat} {sz q : Nat} (fz : Bool)
 (hsz : w'.heap.size = w.heap.size + 1) (hold : ∀ b, b < w.heap.size → w'.heap[b]? = w.heap[b]?) (hos : w'.os = w.os) (htp : w'.tape = w.tape) (hout : w'.output = w.output)
 (hnew : w'.heap[w.heap.size]? = some (.cells C e z)) (hv : ltL H.length cs) (hone : ∀ v ∈ cs, v.one = true) (hC : ∀ (i : Nat) (v : V), cs[i]? = some v → C[i]? = some (v.emb ρ))
 (hz : free z 0 C.size) (hq : C.size = q * sz) (hle : cs.length ≤ C.size) (he : sizeT E.P e = some sz) (hpos : 0 < sz) (hmax : q ≤ maxLen) :
 WR E N (upd ρ H.length ⟨w.heap.size, 0, q * sz, sz⟩) (H ++ [.cells cs e .grown fz]) w' ∧ Goes H ρ w (H ++ [.cells cs e .grown fz]) (upd ρ H.length ⟨w.heap.size, 0, q * sz, sz⟩) w' := by
 refine hw.new (.cells cs e .grown fz) ⟨w.heap.size, 0, q * sz, sz⟩ hsz hold hos htp hout rfl hv (fun ρ' hρ' => ⟨hone, C, z, hnew, fun i v hi => ?_, ?_⟩)
 ·simp only [Nat.zero_add]
  rw [hC i v hi, emb_lt (ltL_get hv hi) hρ']
 ·exact ⟨hw.low, fun _ i h1 h2 => hz i (by omega) (by simp only [Nat.zero_add] at h2; omega), fun i h1 h2 => hz i (by omega) h2, by simp [hq], by simpa [hq] using hle, he, hpos, q, rfl, hmax⟩

theorem shown_run (hw : WR E N ρ H w) {wr esc size n : Nat} {x : V} {cs : List V} (h : shown ⟨H, wr, esc⟩ size x = some (cs, n)) :
 (Builtin.lenOf (x.emb ρ)).run E.P w = .ok n w ∧ ltL H.length cs ∧ cs.length = n * size ∧
 ∀ m, m ≤ n → (Builtin.firstCells size m (x.emb ρ)).run E.P w = .ok ((cs.take (m * size)).map (V.emb ρ)).toArray w := by
 unfold shown at h
 split at h
 ·simp only [Option.some.injEq, Prod.mk.injEq] at h
  obtain ⟨rfl, rfl⟩ := h
  refine ⟨rfl, ltL_nil _, by simp, fun m hm => ?_⟩
  simp [Builtin.firstCells]
 ·rename_i a
  simp only [Option.some.injEq, Prod.mk.injEq] at h
  obtain ⟨rfl, rfl⟩ := h
  refine ⟨by simp [Builtin.lenOf], ltL_nil _, by simp, fun m hm => ?_⟩
  obtain rfl : m = 0 := by omega
  have := run_firstCells_some (P := E.P) w size 0 a 0 0 ([] : List Value) (by simp) (fun j v hj => by simp at hj)
  simp only [List.take_nil, List.map_nil]
  exact this
 ·rename_i k o l c
  split at h
  ·rename_i hl0
   subst hl0
   simp only [Option.some.injEq, Prod.mk.injEq] at h
   obtain ⟨rfl, rfl⟩ := h
   refine ⟨by simp [emb_slice, Builtin.lenOf], ltL_nil _, by simp, fun m hm => ?_⟩
   obtain rfl : m = 0 := by omega
   rw [emb_slice]
   have := run_firstCells_some (P := E.P) w size 0 ⟨(ρ k).block, (ρ k).off + o, none⟩ 0 (match c with | some c => c | none => ((ρ k).ext - o) / (ρ k).sz) ([] : List Value) (by simp) (fun j v hj => by simp at hj)
   simp only [List.take_nil, List.map_nil]
   exact this
  split at h
  ·rename_i cs' e m fz hk
   split at h
   ·rename_i hle
    simp only [Option.some.injEq, Prod.mk.injEq] at h
    obtain ⟨rfl, rfl⟩ := h
    simp only at hk
    refine ⟨by simp [emb_slice, Builtin.lenOf], ltL_take (ltL_drop (hw.vals k _ hk)), by simp; omega, fun m hm => ?_⟩
    have hms : m * size ≤ l * size := Nat.mul_le_mul_right _ hm
    rw [emb_slice]
    have := run_firstCells_some (P := E.P) w size m ⟨(ρ k).block, (ρ k).off + o, none⟩ l (match c with | some c => c | none => ((ρ k).ext - o) / (ρ k).sz) ((((cs'.drop o).take (l * size)).take (m * size)).map (V.emb ρ))
     (by simp; omega) (fun j v hj => by
      rw [add_off]
      simp only [List.getElem?_map, Option.map_eq_some_iff] at hj
      obtain ⟨u, hu, rfl⟩ := hj
      have : cs'[o + j]? = some u := by
       rw [List.getElem?_take] at hu
       split at hu
       ·rw [List.getElem?_take] at hu
        split at hu
        ·rw [List.getElem?_drop] at hu; exact hu
        ·cases hu
       ·cases hu
      have := (hw.objs k _ hk).cell this
      rw [← Nat.add_assoc] at this
      exact this)
    exact this
   ·cases h
  ·cases h
 ·rename_i s
  split at h
  ·rename_i hs
   subst hs
   simp only [Option.some.injEq, Prod.mk.injEq] at h
   obtain ⟨rfl, rfl⟩ := h
   refine ⟨by simp [Builtin.lenOf, str_size], fun v hv => ?_, by simp, fun m hm => ?_⟩
   ·obtain ⟨b, _, rfl⟩ := List.mem_map.1 hv; rfl
   ·simp only [emb_str, Builtin.firstCells, str_extract, Nat.sub_zero, List.drop_zero, Sem.run_pure, Nat.mul_one]
    congr 1
    apply Array.ext'
    simp [List.map_take]
    rfl
  ·cases h
 ·cases h

theorem run_append_room' {t u ty e : TypeId} {du : TypeDesc} {size : Nat} (ht : P.underlying t = some (.slice e)) (hu : P.underlying u = some du) (hd : du = .string ∨ ∃ e', du = .slice e') (hs : sizeT P e = some size)
 {base : Option Addr} {sLen sCap n : Nat} {x : Value} {new : Array Value} (hlen : (Builtin.lenOf x).run P w = .ok n w) (hnew : (Builtin.firstCells size n x).run P w = .ok new w) (hroom : sLen + n ≤ sCap) :
 (Builtin.append_ #[t, u] ty #[.slice base sLen sCap, x]).run P w =
  match base with
  | some a => ((storeCells (a.add (sLen * size)) new.toList 0).run P w).andThen fun _ w' => .ok (.slice base (sLen + n) sCap) w'
  | none => .ok (.slice base (sLen + n) sCap) w := by
 rcases hd with rfl | ⟨e', rfl⟩
 ·cases base <;>
   simp [Builtin.append_, run_underlying ht, run_underlying hu, run_sizeT hs, hlen, hnew, hroom]
 ·cases base <;>
   simp [Builtin.append_, run_underlying ht, run_underlying hu, run_sizeT hs, hlen, hnew, hroom]

set_option maxHeartbeats 1000000 in
theorem run_append_more {t u ty e : TypeId} {du : TypeDesc} {size : Nat} (ht : P.underlying t = some (.slice e)) (hu : P.underlying u = some du) (hd : du = .string ∨ ∃ e', du = .slice e') (hs : sizeT P e = some size)
 {i : TypeInfo} (hi : P.info? e = some i) {z : Value} (hz0 : i.zero = some z)
 {base : Option Addr} {sLen sCap n : Nat} {x : Value} {new old : Array Value} (hlen : (Builtin.lenOf x).run P w = .ok n w)
 (hnew : (Builtin.firstCells size n x).run P w.drew = .ok new w.drew) (hold : (Builtin.firstCells size sLen (.slice base sLen sCap)).run P w.drew = .ok old w.drew) (hroom : ¬ sLen + n ≤ sCap)
 (h63 : sLen + n ≤ 9223372036854775807) (hby : (sLen + n) * i.bytes ≤ 140737488355328) :
 (Builtin.append_ #[t, u] ty #[.slice base sLen sCap, x]).run P w =
  .ok (.slice (some ⟨w.heap.size, 0, none⟩) (sLen + n) (grownCap w (sLen + n) sCap e))
   (w.drew.alloc (.cells (old ++ new ++ Builtin.zeroCells z.cells (grownCap w (sLen + n) sCap e - (sLen + n))) e)) := by
 have hfit := growslice_fits (show sCap < sLen + n by omega) hby
 have h63' : ¬ (9223372036854775807 < ((sLen : Int) + (n : Int))) := by omega
 have h48' : ¬ (281474976710656 < Builtin.nextslicecap (sLen + n) sCap * i.bytes) := by omega
 have hs' : i.size = size := by simpa [sizeT, hi] using hs
 rcases hd with rfl | ⟨e', rfl⟩
 ·simp [Builtin.append_, run_underlying ht, run_underlying hu, sizeOf, typeInfo, zeroValue, hi, hs', hz0, hlen, hroom, h63', h48', Question.forced, hnew, hold, newRow, grownCap]
 ·simp [Builtin.append_, run_underlying ht, run_underlying hu, sizeOf, typeInfo, zeroValue, hi, hs', hz0, hlen, hroom, h63', h48', Question.forced, hnew, hold, newRow, grownCap]

end Go.Am

namespace Go.Am
open Go

variable {P : Program} {E : Env} {N : Nat} {ρ : Nat → Loc} {H : List AObj} {w : World}

theorem getElem?_set' {α : Type} {l : List α} {k : Nat} {x : α} {j : Nat} {y : α} (h : (l.set k x)[j]? = some y) : (j = k ∧ y = x) ∨ (j ≠ k ∧ l[j]? = some y) := by
 by_cases hjk : j = k
 ·subst hjk
  rw [List.getElem?_set] at h
  simp only [if_true] at h
  split at h
  ·exact .inl ⟨rfl, (Option.some.inj h).symm⟩
  ·cases h
 ·rw [List.getElem?_set_ne (Ne.symm hjk)] at h
  exact .inr ⟨hjk, h⟩

theorem WR.kill (hw : WR E N ρ H w) (k : Nat) : WR E N ρ (H.set k .dead) w ∧ Goes H ρ w (H.set k .dead) ρ w := by
 refine ⟨⟨hw.low, ?_, ?_, ?_, hw.globs⟩, ⟨rfl, rfl, rfl, Nat.le_refl _, fun _ _ _ => rfl, ?_, fun _ _ => rfl, by simp⟩⟩
 ·intro j o hj
  rw [List.length_set]
  rcases getElem?_set' hj with ⟨_, rfl⟩ | ⟨_, hj⟩
  ·exact ltL_nil _
  ·exact hw.vals j o hj
 ·intro j o hj
  rcases getElem?_set' hj with ⟨_, rfl⟩ | ⟨_, hj⟩
  ·trivial
  ·exact hw.objs j o hj
 ·intro i j oi oj hi hj h1 h2 hne
  rcases getElem?_set' hi with ⟨_, rfl⟩ | ⟨_, hi⟩
  ·cases h1
  ·rcases getElem?_set' hj with ⟨_, rfl⟩ | ⟨_, hj⟩
   ·cases h2
   ·exact hw.inj i j oi oj hi hj h1 h2 hne
 ·rintro b _ ⟨j, o, hj, ho, hb⟩
  rcases getElem?_set' hj with ⟨_, rfl⟩ | ⟨_, hj⟩
  ·cases ho
  ·exact ⟨j, o, hj, ho, hb⟩

theorem WR.move (hw : WR E N ρ H w) {k o : Nat} {cs : List V} {e : TypeId} {fz : Bool} (hk : H[k]? = some (.cells cs e .grown fz)) (ho : o ≤ cs.length) (hdiv : o % (ρ k).sz = 0) :
 WR E N (upd ρ H.length ⟨(ρ k).block, (ρ k).off + o, (ρ k).ext - o, (ρ k).sz⟩) (H.set k .dead ++ [.cells (cs.drop o) e .grown fz]) w ∧
 Goes H ρ w (H.set k .dead ++ [.cells (cs.drop o) e .grown fz]) (upd ρ H.length ⟨(ρ k).block, (ρ k).off + o, (ρ k).ext - o, (ρ k).sz⟩) w := by
 have hext : ∀ j, j < H.length → upd ρ H.length ⟨(ρ k).block, (ρ k).off + o, (ρ k).ext - o, (ρ k).sz⟩ j = ρ j := fun j hj => upd_lt ρ _ hj
 have hget : ∀ j x, (H.set k .dead ++ [.cells (cs.drop o) e .grown fz])[j]? = some x → (j < H.length ∧ j ≠ k ∧ H[j]? = some x) ∨ (j < H.length ∧ x = .dead) ∨ (j = H.length ∧ x = .cells (cs.drop o) e .grown fz) := by
  intro j x hj
  rcases Nat.lt_trichotomy j H.length with hlt | heq | hgt
  ·rw [List.getElem?_append_left (by simpa using hlt)] at hj
   rcases getElem?_set' hj with ⟨_, rfl⟩ | ⟨hne, hj⟩
   ·exact .inr (.inl ⟨hlt, rfl⟩)
   ·exact .inl ⟨hlt, hne, hj⟩
  ·subst heq
   rw [List.getElem?_append_right (by simp)] at hj
   simp at hj
   exact .inr (.inr ⟨rfl, hj.symm⟩)
  ·rw [List.getElem?_append_right (by simp; omega), List.getElem?_eq_none (by simp; omega)] at hj; cases hj
 have hor := hw.objs k _ hk
 obtain ⟨h1, C, z, hC, hcs, m1, m2, m3, m4, m5, m6, m7, q, m8, m9⟩ := hor
 refine ⟨⟨hw.low, ?_, ?_, ?_, globs_kept hw (fun _ _ => rfl)⟩, ⟨rfl, rfl, rfl, Nat.le_refl _, fun _ _ _ => rfl, ?_, hext, by simp⟩⟩
 ·intro j x hj
  simp only [List.length_append, List.length_set, List.length_cons, List.length_nil]
  rcases hget j x hj with ⟨_, _, hj⟩ | ⟨_, rfl⟩ | ⟨_, rfl⟩
  ·exact ltL_mono (by simp) (hw.vals j x hj)
  ·exact ltL_nil _
  ·exact ltL_mono (by simp) (ltL_drop (hw.vals k _ hk))
 ·intro j x hj
  rcases hget j x hj with ⟨hlt, _, hj⟩ | ⟨_, rfl⟩ | ⟨rfl, rfl⟩
  ·rw [hext j hlt]
   exact (hw.objs j x hj).kept (hw.vals j x hj) hext rfl
  ·trivial
  ·rw [upd_same]
   have hlen : (ρ k).off + o + (cs.drop o).length = (ρ k).off + cs.length := by simp; omega
   refine ⟨fun v hv => h1 v (List.mem_of_mem_drop hv), C, z, hC, fun i v hi => ?_, m1, fun hf => ?_, ?_, ?_, ?_, m6, m7, ?_⟩
   ·rw [List.getElem?_drop] at hi
    have := hcs _ _ hi
    rw [← Nat.add_assoc] at this
    rw [this, emb_lt (ltL_get (hw.vals k _ hk) hi) hext]
   ·rw [hlen]; exact fun i a b => m2 hf i (by simp only at a; omega) b
   ·rw [hlen]; exact m3
   ·simp only; omega
   ·simp only [List.length_drop]; omega
   ·obtain ⟨p, hp⟩ := Nat.dvd_of_mod_eq_zero hdiv
    refine ⟨q - p, ?_, by omega⟩
    simp only
    rw [m8, hp, Nat.sub_mul, Nat.mul_comm (ρ k).sz p]
 ·intro i j oi oj hi hj a b hne
  have other : ∀ j oj, j ≠ k → H[j]? = some oj → oj.own = true → (ρ j).block ≠ (ρ k).block := fun j oj hne hj b => hw.inj j k oj _ hj hk b rfl hne
  rcases hget i oi hi with ⟨hlt, hnk, hi⟩ | ⟨_, rfl⟩ | ⟨rfl, rfl⟩
  ·rcases hget j oj hj with ⟨hlt', hnk', hj⟩ | ⟨_, rfl⟩ | ⟨rfl, rfl⟩
   ·rw [hext i hlt, hext j hlt']; exact hw.inj i j oi oj hi hj a b hne
   ·cases b
   ·rw [hext i hlt, upd_same]; exact other i oi hnk hi a
  ·cases a
  ·rcases hget j oj hj with ⟨hlt', hnk', hj⟩ | ⟨_, rfl⟩ | ⟨rfl, rfl⟩
   ·rw [hext j hlt', upd_same]; exact Ne.symm (other j oj hnk' hj b)
   ·cases b
   ·exact absurd rfl hne
 ·rintro b _ ⟨j, x, hj, ho', hb⟩
  rcases hget j x hj with ⟨hlt, _, hj⟩ | ⟨_, rfl⟩ | ⟨rfl, rfl⟩
  ·exact ⟨j, x, hj, ho', by rw [hext j hlt] at hb; exact hb⟩
  ·cases ho'
  ·exact ⟨k, _, hk, rfl, by rw [upd_same] at hb; exact hb⟩

theorem infoOf {e : TypeId} {size bytes : Nat} {z : V} (h1 : sizeT P e = some size) (h2 : bytesT P e = some bytes) (h3 : zeroT P e = some z) (ρ : Nat → Loc) :
 ∃ i, P.info? e = some i ∧ i.size = size ∧ i.bytes = bytes ∧ i.zero = some (z.emb ρ) := by
 unfold sizeT at h1
 cases hi : P.info? e with
 | none => rw [hi] at h1; cases h1
 | some i =>
  rw [hi] at h1
  simp only [bytesT, zeroT, hi, Option.map_some, Option.some.injEq, Option.bind_some] at h1 h2 h3
  cases hz : i.zero with
  | none => rw [hz] at h3; cases h3
  | some v =>
   rw [hz] at h3
   exact ⟨i, rfl, h1, h2, by rw [hz, (ofVal_emb ρ v z h3).1]⟩

theorem size_zeros (ρ : Nat → Loc) {z : V} {size : Nat} (h : z.cells.length = size) (n : Nat) : (Builtin.zeroCells (z.emb ρ).cells n).size = n * size := by
 rw [size_zeroCells, emb_cells]
 simp [h]

theorem grow_append (hw : WR E N ρ H w) {old new : List V} {e : TypeId} {size need q : Nat} {z : V} (fz : Bool) (hv : ltL H.length (old ++ new)) (hone : ∀ v ∈ old ++ new, v.one = true)
 (hl : (old ++ new).length = need * size) (hz : z.cells.length = size) (hs : sizeT E.P e = some size) (hpos : 0 < size) (hge : need ≤ q) (hmax : q ≤ maxLen) :
 WR E N (upd ρ H.length ⟨w.heap.size, 0, q * size, size⟩) (H ++ [.cells (old ++ new) e .grown fz]) (w.drew.alloc (.cells ((old.map (V.emb ρ)).toArray ++ (new.map (V.emb ρ)).toArray ++ Builtin.zeroCells (z.emb ρ).cells (q - need)) e)) ∧
 Goes H ρ w (H ++ [.cells (old ++ new) e .grown fz]) (upd ρ H.length ⟨w.heap.size, 0, q * size, size⟩) (w.drew.alloc (.cells ((old.map (V.emb ρ)).toArray ++ (new.map (V.emb ρ)).toArray ++ Builtin.zeroCells (z.emb ρ).cells (q - need)) e)) := by
 have hsz : ((old.map (V.emb ρ)).toArray ++ (new.map (V.emb ρ)).toArray ++ Builtin.zeroCells (z.emb ρ).cells (q - need)).size = q * size := by
  simp only [Array.size_append, size_zeros ρ hz, List.size_toArray, List.length_map]
  rw [List.length_append] at hl
  rw [hl, ← Nat.add_mul]
  congr 1
  omega
 refine hw.grow (C := (old.map (V.emb ρ)).toArray ++ (new.map (V.emb ρ)).toArray ++ Builtin.zeroCells (z.emb ρ).cells (q - need)) (z := (0, 0)) (q := q) fz (by simp) (fun b hb => RowKit.Below.heap_alloc w.drew _ b hb) rfl rfl rfl (heap_alloc_new w.drew _) hv hone (fun i v hi => ?_)
  (fun i _ _ hzz => by simp at hzz) hsz (by rw [hsz, hl]; exact Nat.mul_le_mul_right _ hge) hs hpos hmax
 have hlt : i < (old ++ new).length := (List.getElem?_eq_some_iff.1 hi).1
 rw [Array.getElem?_append_left (by simpa using hlt)]
 rw [show ((old.map (V.emb ρ)).toArray ++ (new.map (V.emb ρ)).toArray) = ((old ++ new).map (V.emb ρ)).toArray by simp, List.getElem?_toArray, List.getElem?_map, hi]
 rfl

theorem append_at_end (hw : WR E N ρ H w) {t u ty e : TypeId} {du : TypeDesc} {k o len n size : Nat} {cs' cs : List V} {fz : Bool} (hk : H[k]? = some (.cells cs' e .grown fz))
 (ht : E.P.underlying t = some (.slice e)) (hu : E.P.underlying u = some du) (hd : du = .string ∨ ∃ e', du = .slice e') (hse : sizeT E.P e = some size) (hpos : 0 < size) (hszk : (ρ k).sz = size)
 (hmod : o % size = 0) (hend : o + len * size = cs'.length) (hroom : len + n ≤ ((ρ k).ext - o) / (ρ k).sz) {x : Value} (hlen : (Builtin.lenOf x).run E.P w = .ok n w)
 (hnew : (Builtin.firstCells size n x).run E.P w = .ok (cs.map (V.emb ρ)).toArray w) (hlt : ltL H.length cs) (hone : ∀ v ∈ cs, v.one = true) (hnl : cs.length = n * size) :
 Val E N ρ H w (Builtin.append_ #[t, u] ty #[(V.slice k o len none).emb ρ, x]) (.slice H.length 0 (len + n) none) (H.set k .dead ++ [.cells (cs'.drop o ++ cs) e .grown fz]) := by
 have hor := hw.objs k _ hk
 obtain ⟨h1, C, z, hC, hcs, m1, m2, m3, m4, m5, m6, m7, q, m8, m9⟩ := hor
 have hext : o + (len + n) * size ≤ (ρ k).ext := by
  rw [hszk, Nat.le_div_iff_mul_le hpos] at hroom
  have : 0 < len + n ∨ len + n = 0 := by omega
  rcases this with h | h
  ·have : 0 < (len + n) * size := Nat.mul_pos h hpos
   omega
  ·rw [h]; simp; omega
 rw [Nat.add_mul] at hext
 have hfit : (ρ k).off + cs'.length + (cs.map (V.emb ρ)).length ≤ C.size := by simp only [List.length_map]; omega
 have hst := run_storeCells_free (P := E.P) (ρ k).block ((ρ k).off + cs'.length) e z (cs.map (V.emb ρ)) 0 C w hC (by simpa using hfit) (fun i a b => m3 i (by omega) (by simp only [List.length_map] at b hfit; omega))
  (fun v hv => by obtain ⟨y, hy, rfl⟩ := List.mem_map.1 hv; rw [emb_one]; exact hone y hy)
 simp only [Nat.add_zero] at hst
 have hlen2 : (cs' ++ cs).length = cs'.length + cs.length := by simp
 have hwr := hw.write (w' := w.setRow (ρ k).block (C.toList.take ((ρ k).off + cs'.length) ++ cs.map (V.emb ρ) ++ C.toList.drop ((ρ k).off + cs'.length + (cs.map (V.emb ρ)).length)).toArray)
  (o' := .cells (cs' ++ cs) e .grown fz) hk rfl rfl rfl rfl (by simp) (fun b hb => setRow_other w _ b _ hb) (ltL_append.2 ⟨hw.vals k _ hk, hlt⟩)
  ⟨fun v hv => (List.mem_append.1 hv).elim (h1 v) (hone v), _, z, setRow_z w _ C e z _ hC, fun i v hi => by
   rw [getElem?_spliceA C _ _ _ hfit]
   by_cases hlt' : i < cs'.length
   ·rw [List.getElem?_append_left hlt'] at hi
    rw [if_neg (by omega)]
    exact hcs i v hi
   ·rw [List.getElem?_append_right (by omega)] at hi
    have := (List.getElem?_eq_some_iff.1 hi).1
    rw [if_pos (by simp; omega), List.getElem?_map, show (ρ k).off + i - ((ρ k).off + cs'.length) = i - cs'.length by omega, hi]
    rfl,
   m1, fun hf i a b => by
    by_cases hlt' : i < (ρ k).off + cs'.length
    ·exact m2 hf i a hlt'
    ·exact m3 i (by omega) (by simp only [List.length_map] at hfit; omega),
   by rw [size_spliceA C _ _ hfit, hlen2]; exact fun i a b => m3 i (by omega) b, by rw [size_spliceA C _ _ hfit]; exact m4, by simp only [List.length_map] at hfit; omega, m6, m7, q, m8, m9⟩
 have hklt : k < H.length := (List.getElem?_eq_some_iff.1 hk).1
 have hmv := hwr.1.move (k := k) (o := o) (List.getElem?_set_self hklt) (by simp; omega) (by rw [hszk]; exact hmod)
 rw [List.length_set, List.set_set, List.drop_append_of_le_length (by omega)] at hmv
 refine ⟨_, _, ?_, hmv.1, hwr.2.trans hmv.2, by simp⟩
 have := run_append_room' (ty := ty) ht hu hd hse (base := some ⟨(ρ k).block, (ρ k).off + o, none⟩) (sLen := len) (sCap := ((ρ k).ext - o) / (ρ k).sz) hlen hnew hroom
 simp only [emb_slice_none, upd_same, Nat.add_zero, Nat.sub_zero]
 rw [this]
 simp only [add_off]
 rw [show (ρ k).off + o + len * size = (ρ k).off + cs'.length by omega]
 rw [hst]
 rfl

theorem appendV_run (hw : WR E N ρ H w) {wr esc : Nat} {t u ty e : TypeId} {du : TypeDesc} (ht : E.P.underlying t = some (.slice e)) (hu : E.P.underlying u = some du) (hd : du = .string ∨ ∃ e', du = .slice e')
 {s x : V} {cs : List V} {n size : Nat} (hsl : s.lt H.length = true) (hse : sizeT E.P e = some size) (hx : shown ⟨H, wr, esc⟩ size x = some (cs, n)) {r : R} {H' : Hp}
 (h : appendV E.P e s cs n ⟨H, wr, esc⟩ = some (r, H')) : ∃ v, r = .val v ∧ Val E N ρ H w (Builtin.append_ #[t, u] ty #[s.emb ρ, x.emb ρ]) v H'.objs := by
 have sh := shown_run hw hx
 have sh' := shown_run hw.drew hx
 have hnew := sh.2.2.2 n (Nat.le_refl _)
 have hnew' := sh'.2.2.2 n (Nat.le_refl _)
 rw [List.take_of_length_le (by rw [sh.2.2.1]; exact Nat.le_refl _)] at hnew hnew'
 unfold appendV at h
 split at h
 ·rename_i size' bytes z h1 h2 h3
  have : size' = size := Option.some.inj (h1.symm.trans hse)
  subst this
  split at h
  ·cases h
  ·rename_i hc
   simp only [not_or, ne_eq, Decidable.not_not] at hc
   obtain ⟨hsz0, hnl, hzl, hone⟩ := hc
   have hpos : 0 < size' := by omega
   have hone' : ∀ v ∈ cs, v.one = true := fun v hv => List.all_eq_true.1 hone v hv
   obtain ⟨i, hi, i1, i2, i3⟩ := infoOf h1 h2 h3 ρ
   split at h
   ·-- nil
    split at h
    ·rename_i hn0
     subst hn0
     simp only [ok, Option.some.injEq, Prod.mk.injEq] at h
     obtain ⟨rfl, rfl⟩ := h
     refine ⟨_, rfl, Val.pure hw ?_ rfl⟩
     have := run_append_room' (ty := ty) ht hu hd hse (base := none) (sLen := 0) (sCap := 0) sh.1 hnew (Nat.le_refl _)
     exact this
    ·rename_i hn0
     split at h
     ·rename_i hb
      simp only [ok, Option.some.injEq, Prod.mk.injEq] at h
      obtain ⟨rfl, rfl⟩ := h
      refine ⟨_, rfl, ?_⟩
      have hmax : 0 + n ≤ maxLen := by simp only [maxLen]; omega
      have hrun := run_append_more (ty := ty) ht hu hd hse hi i3 (base := none) (sLen := 0) (sCap := 0) (old := #[]) sh.1 hnew' (by simp [Builtin.firstCells]) (by omega) (by omega) (by rw [i2, Nat.zero_add]; exact hb.1)
      have hg := grow_append hw (old := []) (new := cs) (e := e) (need := 0 + n) (q := grownCap w (0 + n) 0 e) (z := z) false (by simpa using sh.2.1) (by simpa using hone') (by simpa using hnl) hzl hse hpos
       (grownCap_ge w _ _ _) (grownCap_le_maxLen w _ _ _ hmax)
      refine ⟨_, _, ?_, hg.1, hg.2, by simp [Hp.size, Hp.new]⟩
      rw [emb_nils, hrun]
      simp only [Hp.size, emb_slice_none, upd_same, Nat.add_zero, Nat.sub_zero, Nat.zero_add]
      rw [Nat.mul_div_cancel _ hpos]
      rfl
     ·cases h
   ·-- nothing, wherever
    rename_i a0
    have hf0 : ∀ w, (Builtin.firstCells size' 0 (Value.slice (some a0) 0 0)).run E.P w = .ok (#[] : Array Value) w := fun w => run_firstCells_some (P := E.P) w size' 0 a0 0 0 ([] : List Value) (by simp) (fun j v hj => by simp at hj)
    split at h
    ·rename_i hn0
     subst hn0
     simp only [ok, Option.some.injEq, Prod.mk.injEq] at h
     obtain ⟨rfl, rfl⟩ := h
     refine ⟨_, rfl, Val.pure hw ?_ hsl⟩
     have := run_append_room' (ty := ty) ht hu hd hse (base := some a0) (sLen := 0) (sCap := 0) sh.1 hnew (Nat.le_refl _)
     have hcs : cs = [] := List.eq_nil_of_length_eq_zero (by simpa using hnl)
     subst hcs
     simp only [emb_odd]
     rw [this]
     simp [storeCells]
    ·rename_i hn0
     split at h
     ·rename_i hb
      simp only [ok, Option.some.injEq, Prod.mk.injEq] at h
      obtain ⟨rfl, rfl⟩ := h
      refine ⟨_, rfl, ?_⟩
      have hmax : 0 + n ≤ maxLen := by simp only [maxLen]; omega
      have hrun := run_append_more (ty := ty) ht hu hd hse hi i3 (base := some a0) (sLen := 0) (sCap := 0) (old := #[]) sh.1 hnew' (hf0 _) (by omega) (by omega) (by rw [i2, Nat.zero_add]; exact hb.1)
      have hg := grow_append hw (old := []) (new := cs) (e := e) (need := 0 + n) (q := grownCap w (0 + n) 0 e) (z := z) false (by simpa using sh.2.1) (by simpa using hone') (by simpa using hnl) hzl hse hpos
       (grownCap_ge w _ _ _) (grownCap_le_maxLen w _ _ _ hmax)
      refine ⟨_, _, ?_, hg.1, hg.2, by simp [Hp.size, Hp.new]⟩
      rw [emb_odd, hrun]
      simp only [Hp.size, emb_slice_none, upd_same, Nat.add_zero, Nat.sub_zero, Nat.zero_add]
      rw [Nat.mul_div_cancel _ hpos]
      rfl
     ·cases h
   ·-- nothing, without room
    rename_i k0 o0
    have hf0 : ∀ w, (Builtin.firstCells size' 0 (Value.slice (some ⟨(ρ k0).block, (ρ k0).off + o0, none⟩) 0 0)).run E.P w = .ok (#[] : Array Value) w := fun w => run_firstCells_some (P := E.P) w size' 0 ⟨(ρ k0).block, (ρ k0).off + o0, none⟩ 0 0 ([] : List Value) (by simp) (fun j v hj => by simp at hj)
    split at h
    ·rename_i hn0
     subst hn0
     simp only [ok, Option.some.injEq, Prod.mk.injEq] at h
     obtain ⟨rfl, rfl⟩ := h
     refine ⟨_, rfl, Val.pure hw ?_ hsl⟩
     have := run_append_room' (ty := ty) ht hu hd hse (base := some ⟨(ρ k0).block, (ρ k0).off + o0, none⟩) (sLen := 0) (sCap := 0) sh.1 hnew (Nat.le_refl _)
     have hcs : cs = [] := List.eq_nil_of_length_eq_zero (by simpa using hnl)
     subst hcs
     simp only [emb_slice_some]
     rw [this]
     simp [storeCells]
    ·rename_i hn0
     split at h
     ·rename_i hb
      simp only [ok, Option.some.injEq, Prod.mk.injEq] at h
      obtain ⟨rfl, rfl⟩ := h
      refine ⟨_, rfl, ?_⟩
      have hmax : 0 + n ≤ maxLen := by simp only [maxLen]; omega
      have hrun := run_append_more (ty := ty) ht hu hd hse hi i3 (base := some ⟨(ρ k0).block, (ρ k0).off + o0, none⟩) (sLen := 0) (sCap := 0) (old := #[]) sh.1 hnew' (hf0 _) (by omega) (by omega) (by rw [i2, Nat.zero_add]; exact hb.1)
      have hg := grow_append hw (old := []) (new := cs) (e := e) (need := 0 + n) (q := grownCap w (0 + n) 0 e) (z := z) false (by simpa using sh.2.1) (by simpa using hone') (by simpa using hnl) hzl hse hpos
       (grownCap_ge w _ _ _) (grownCap_le_maxLen w _ _ _ hmax)
      refine ⟨_, _, ?_, hg.1, hg.2, by simp [Hp.size, Hp.new]⟩
      rw [emb_slice_some, hrun]
      simp only [Hp.size, emb_slice_none, upd_same, Nat.add_zero, Nat.sub_zero, Nat.zero_add]
      rw [Nat.mul_div_cancel _ hpos]
      rfl
     ·cases h
   ·-- a slice
    rename_i k o len c _
    split at h
    ·rename_i cs' e' m fz hk
     simp only at hk
     split at h
     ·rename_i hfit
      obtain ⟨hle, hby, hmx⟩ := hfit
      have hmax : len + n ≤ maxLen := by simp only [maxLen]; omega
      have hsh0 : shown ⟨H, wr, esc⟩ size' (.slice k o len c) = some ((cs'.drop o).take (len * size'), len) := by
       unfold shown
       by_cases h0 : len = 0
       ·subst h0; simp
       ·simp [h0, hk, hle]
      have so := shown_run hw.drew hsh0
      have hold := so.2.2.2 len (Nat.le_refl _)
      rw [List.take_of_length_le (by rw [so.2.2.1]; exact Nat.le_refl _)] at hold
      have hvals := hw.vals k _ hk
      have hones : ∀ v ∈ cs', v.one = true := (hw.objs k _ hk).1
      split at h
      ·-- the capacity is known
       rename_i c _
       split at h
       ·rename_i hn0
        subst hn0
        split at h
        ·rename_i hlc
         simp only [ok, Option.some.injEq, Prod.mk.injEq] at h
         obtain ⟨rfl, rfl⟩ := h
         refine ⟨_, rfl, Val.pure hw ?_ hsl⟩
         have hcs : cs = [] := List.eq_nil_of_length_eq_zero (by simpa using hnl)
         subst hcs
         have := run_append_room' (ty := ty) ht hu hd hse (base := some ⟨(ρ k).block, (ρ k).off + o, none⟩) (sLen := len) (sCap := c) sh.1 hnew (by omega)
         simp only [emb_slice_some]
         rw [this]
         simp [storeCells]
        ·cases h
       ·split at h
        ·rename_i hroom
         simp only [Option.map_eq_some_iff, Prod.mk.injEq] at h
         obtain ⟨H1, hput, rfl, rfl⟩ := h
         refine ⟨_, rfl, ?_⟩
         obtain ⟨w', p1, p2, p3⟩ := putCells_run hw sh.2.1 hput
         refine ⟨ρ, w', ?_, p2, p3, lt_mono p3.len (by simpa using hsl)⟩
         have := run_append_room' (ty := ty) ht hu hd hse (base := some ⟨(ρ k).block, (ρ k).off + o, none⟩) (sLen := len) (sCap := c) sh.1 hnew hroom
         simp only [emb_slice_some]
         rw [this]
         simp only [add_off, Nat.add_assoc] at p1 ⊢
         rw [p1]
         rfl
        ·rename_i hroom
         simp only [ok, Option.some.injEq, Prod.mk.injEq] at h
         obtain ⟨rfl, rfl⟩ := h
         refine ⟨_, rfl, ?_⟩
         have hrun := run_append_more (ty := ty) ht hu hd hse hi i3 (base := some ⟨(ρ k).block, (ρ k).off + o, none⟩) (sLen := len) (sCap := c) sh.1 hnew' hold hroom (by omega) (by rw [i2]; exact hby)
         have hg := grow_append hw (old := (cs'.drop o).take (len * size')) (new := cs) (e := e) (need := len + n) (q := grownCap w (len + n) c e) (z := z) false
          (ltL_append.2 ⟨ltL_take (ltL_drop hvals), sh.2.1⟩)
          (fun v hv => (List.mem_append.1 hv).elim (fun hv => hones v (List.mem_of_mem_drop (List.mem_of_mem_take hv))) (hone' v))
          (by rw [List.length_append, so.2.2.1, hnl, Nat.add_mul]) hzl hse hpos (grownCap_ge w _ _ _) (grownCap_le_maxLen w _ _ _ hmax)
         refine ⟨_, _, ?_, hg.1, hg.2, by simp [Hp.size, Hp.new]⟩
         simp only [emb_slice_some]
         rw [hrun]
         simp only [Hp.size, emb_slice_none, upd_same, Nat.add_zero, Nat.sub_zero]
         rw [Nat.mul_div_cancel _ hpos]
      ·-- it is not
       split at h
       ·rename_i hm
        obtain ⟨rfl, he', hmod⟩ := hm
        subst he'
        obtain ⟨_, hszk, hext⟩ := (hw.objs k _ hk).grown hse
        split at h
        ·rename_i hn0
         subst hn0
         simp only [ok, Option.some.injEq, Prod.mk.injEq] at h
         obtain ⟨rfl, rfl⟩ := h
         refine ⟨_, rfl, Val.pure hw ?_ hsl⟩
         have hcs : cs = [] := List.eq_nil_of_length_eq_zero (by simpa using hnl)
         subst hcs
         have hcap : len + 0 ≤ ((ρ k).ext - o) / (ρ k).sz := by rw [hszk]; exact le_div_of hpos (by rw [Nat.add_zero]; omega)
         have := run_append_room' (ty := ty) ht hu hd hse (base := some ⟨(ρ k).block, (ρ k).off + o, none⟩) (sLen := len) (sCap := ((ρ k).ext - o) / (ρ k).sz) sh.1 hnew hcap
         simp only [emb_slice_none]
         rw [this]
         simp [storeCells]
        ·split at h
         ·rename_i hn0 hin
          simp only [Option.map_eq_some_iff, Prod.mk.injEq] at h
          obtain ⟨H1, hput, rfl, rfl⟩ := h
          refine ⟨_, rfl, ?_⟩
          obtain ⟨w', p1, p2, p3⟩ := putCells_run hw sh.2.1 hput
          refine ⟨ρ, w', ?_, p2, p3, lt_mono p3.len (by simpa using hsl)⟩
          have hcap : len + n ≤ ((ρ k).ext - o) / (ρ k).sz := by rw [hszk]; exact le_div_of hpos (by omega)
          have := run_append_room' (ty := ty) ht hu hd hse (base := some ⟨(ρ k).block, (ρ k).off + o, none⟩) (sLen := len) (sCap := ((ρ k).ext - o) / (ρ k).sz) sh.1 hnew hcap
          simp only [emb_slice_none]
          rw [this]
          simp only [add_off, Nat.add_assoc] at p1 ⊢
          rw [p1]
          rfl
         ·split at h
          ·rename_i hn0 hin hend
           simp only [ok, Option.some.injEq, Prod.mk.injEq] at h
           obtain ⟨rfl, rfl⟩ := h
           refine ⟨_, rfl, ?_⟩
           have heq : (cs'.drop o).take (len * size') = cs'.drop o := List.take_of_length_le (by simp; omega)
           rw [heq] at hold
           have hol : o ≤ cs'.length := by omega
           by_cases hroom : len + n ≤ ((ρ k).ext - o) / (ρ k).sz
           ·exact append_at_end hw hk ht hu hd hse hpos hszk hmod hend hroom sh.1 hnew sh.2.1 hone' hnl
           ·have hkill := hw.kill k
            have hrun := run_append_more (ty := ty) ht hu hd hse hi i3 (base := some ⟨(ρ k).block, (ρ k).off + o, none⟩) (sLen := len) (sCap := ((ρ k).ext - o) / (ρ k).sz) sh.1 hnew' hold hroom (by omega) (by rw [i2]; exact hby)
            have hg := grow_append hkill.1 (old := cs'.drop o) (new := cs) (e := e') (need := len + n) (q := grownCap w (len + n) (((ρ k).ext - o) / (ρ k).sz) e') (z := z) fz
             (by rw [List.length_set]; exact ltL_append.2 ⟨ltL_drop hvals, sh.2.1⟩)
             (fun v hv => (List.mem_append.1 hv).elim (fun hv => hones v (List.mem_of_mem_drop hv)) (hone' v))
             (by rw [List.length_append, hnl, Nat.add_mul, List.length_drop]; omega) hzl hse hpos (grownCap_ge w _ _ _) (grownCap_le_maxLen w _ _ _ hmax)
            rw [List.length_set] at hg
            refine ⟨_, _, ?_, hg.1, hkill.2.trans hg.2, by simp [Hp.size, Hp.new, Hp.write]⟩
            simp only [emb_slice_none]
            rw [hrun]
            simp only [Hp.size, upd_same, Nat.add_zero, Nat.sub_zero]
            rw [Nat.mul_div_cancel _ hpos]
          ·cases h
       ·cases h
     ·cases h
    ·cases h
   ·cases h
 ·cases h

end Go.Am
