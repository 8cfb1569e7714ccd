/-
  Each operation of the evaluator is one of the model's.
-/
import Derived.LaidEql
import Derived.Test.YthmmpfaghmoenaaDoorAmMem
import Derived.Laws.StructEq
namespace Go.Am
open Go

variable {P : Program} {E : Env} {N : Nat} {ρ : Nat → Loc} {H : List AObj} {w : World}

/-! ### == -/

theorem run_eqFields (d d' : Nat) (xs ys : List V) (ρ : Nat → Loc) (w : World)
    (ih : ∀ t x y b, eqV P d t x y = some b → (Op.equalIn d' t (x.emb ρ) (y.emb ρ)).run P w = .ok b w) : ∀ (fs : List Field) (b : Bool), eqFields (eqV P d) P xs ys fs = some b →
    (Op.eqFields d' (xs.map (V.emb ρ)).toArray (ys.map (V.emb ρ)).toArray fs).run P w = .ok b w
  | [], b, h => by simp only [eqFields, Option.some.injEq] at h; subst h; rfl
  | f :: r, b, h => by
    simp only [eqFields] at h
    by_cases hn : f.name = "_"
    · rw [if_pos hn] at h
      simp only [Op.eqFields, hn, ne_eq, not_true_eq_false, if_false]
      exact run_eqFields d d' xs ys ρ w ih r b h
    · rw [if_neg hn] at h
      simp only [Op.eqFields, ne_eq, hn, not_false_eq_true, if_true, Sem.run_bind]
      cases h1 : partV P f.type xs f.offset with
      | none => rw [h1] at h; simp at h
      | some x =>
        cases h2 : partV P f.type ys f.offset with
        | none => rw [h1, h2] at h; simp at h
        | some y =>
          rw [h1, h2] at h
          simp only at h
          rw [run_partV h1 ρ w, Result.andThen_ok, run_partV h2 ρ w, Result.andThen_ok]
          cases h3 : eqV P d f.type x y with
          | none => rw [h3] at h; simp at h
          | some c =>
            rw [h3] at h
            rw [ih _ _ _ _ h3, Result.andThen_ok]
            cases c with
            | true => simpa using run_eqFields d d' xs ys ρ w ih r b h
            | false => simp only [Option.some.injEq] at h; subst h; rfl

theorem run_eqElems (d d' : Nat) (elem : TypeId) (n : Nat) (xs ys : List V) (ρ : Nat → Loc) (w : World)
    (ih : ∀ t x y b, eqV P d t x y = some b → (Op.equalIn d' t (x.emb ρ) (y.emb ρ)).run P w = .ok b w) : ∀ (c i : Nat) (b : Bool), eqElems (eqV P d) P elem n xs ys c i = some b →
    (forIn (List.range' i c) ((none, ()) : Option Bool × Unit) (fun j (_ : Option Bool × Unit) => do
        if (!(← Op.equalIn d' elem (← part elem (xs.map (V.emb ρ)).toArray (j * n)) (← part elem (ys.map (V.emb ρ)).toArray (j * n)))) = true then
          pure (ForInStep.done (some false, ())) else pure (ForInStep.yield (none, ()))) : Sem (Option Bool × Unit)).run P w = .ok (if b then (none, ()) else (some false, ())) w
  | 0, i, b, h => by simp only [eqElems, Option.some.injEq] at h; subst h; simp
  | c + 1, i, b, h => by
    simp only [eqElems] at h
    simp only [List.range'_succ, List.forIn_cons, Sem.run_bind]
    cases h1 : partV P elem xs (i * n) with
    | none => rw [h1] at h; simp at h
    | some x =>
      cases h2 : partV P elem ys (i * n) with
      | none => rw [h1, h2] at h; simp at h
      | some y =>
        rw [h1, h2] at h
        simp only at h
        rw [run_partV h1 ρ w, Result.andThen_ok, run_partV h2 ρ w, Result.andThen_ok]
        cases h3 : eqV P d elem x y with
        | none => rw [h3] at h; simp at h
        | some q =>
          rw [h3] at h
          rw [ih _ _ _ _ h3, Result.andThen_ok]
          cases q with
          | true =>
            simp only [Bool.not_true, Bool.false_eq_true, if_false, Sem.run_pure, Result.andThen_ok]
            exact run_eqElems d d' elem n xs ys ρ w ih c (i + 1) b h
          | false => simp only [Option.some.injEq] at h; subst h; simp

set_option maxHeartbeats 800000 in
theorem run_eqV (ρ : Nat → Loc) (w : World) : ∀ (d : Nat) (t : TypeId) (x y : V) (b : Bool), eqV P d t x y = some b → ∀ d', d ≤ d' → (Op.equalIn d' t (x.emb ρ) (y.emb ρ)).run P w = .ok b w
  | 0, _, _, _, _, h, _, _ => by simp [eqV] at h
  | d + 1, t, x, y, b, h, d', hd => by
    obtain ⟨d', rfl⟩ : ∃ m, d' = m + 1 := ⟨d' - 1, by omega⟩
    have ih : ∀ t x y b, eqV P d t x y = some b → (Op.equalIn d' t (x.emb ρ) (y.emb ρ)).run P w = .ok b w := fun t x y b h => run_eqV ρ w d t x y b h d' (by omega)
    simp only [eqV] at h
    split at h
    case h_1 a b' hu => simp only [Option.some.injEq] at h; subst h; simp [Op.equalIn, run_underlying hu]
    case h_2 ki k a k' b' hu =>
      split at h
      · rename_i hk; subst hk; simp only [Option.some.injEq] at h; subst h; simp [Op.equalIn, run_underlying hu]
      · cases h
    case h_3 a b' hu =>
      simp only [Option.some.injEq] at h; subst h
      simp only [Op.equalIn, Sem.run_bind, run_underlying hu, Result.andThen_ok, emb_str, Sem.run_pure, beq_toListBytes, ByteArray.toList_mk]
    case h_4 hu => simp only [Option.some.injEq] at h; subst h; simp [Op.equalIn, run_underlying hu]
    case h_5 hu => simp only [Option.some.injEq] at h; subst h; simp [Op.equalIn, run_underlying hu]
    case h_6 hu => simp only [Option.some.injEq] at h; subst h; simp [Op.equalIn, run_underlying hu]
    case h_7 hu => simp only [Option.some.injEq] at h; subst h; simp [Op.equalIn, run_underlying hu]
    case h_8 hu => simp only [Option.some.injEq] at h; subst h; simp [Op.equalIn, run_underlying hu, emb_slice]
    case h_9 hu => simp only [Option.some.injEq] at h; subst h; simp [Op.equalIn, run_underlying hu, emb_slice]
    case h_10 hu => simp only [Option.some.injEq] at h; subst h; simp [Op.equalIn, run_underlying hu]
    case h_11 hu => simp only [Option.some.injEq] at h; subst h; simp [Op.equalIn, run_underlying hu]
    case h_12 hu => simp only [Option.some.injEq] at h; subst h; simp [Op.equalIn, run_underlying hu]
    case h_13 hu => simp only [Option.some.injEq] at h; subst h; simp [Op.equalIn, run_underlying hu]
    case h_14 hu => simp only [Option.some.injEq] at h; subst h; simp [Op.equalIn, run_underlying hu]
    case h_15 hu => simp only [Option.some.injEq] at h; subst h; simp [Op.equalIn, run_underlying hu]
    case h_16 hu => simp only [Option.some.injEq] at h; subst h; simp [Op.equalIn, run_underlying hu]
    case h_17 hu => simp only [Option.some.injEq] at h; subst h; simp [Op.equalIn, run_underlying hu]
    case h_18 hu => simp only [Option.some.injEq] at h; subst h; simp [Op.equalIn, run_underlying hu]
    case h_19 ms tx vx ty vy hu =>
      split at h
      · rename_i e
        subst e
        split at h
        · rename_i info hi
          split at h
          · rename_i hc
            have := ih _ _ _ _ h
            simp [Op.equalIn, run_underlying hu, typeInfo, hi, hc, this]
          · cases h
        · cases h
      · rename_i e
        simp only [Option.some.injEq] at h
        subst h
        simp [Op.equalIn, run_underlying hu, e]
    case h_20 fs xs ys hu =>
      split at h
      · cases h
      · rename_i hst
        rw [emb_agg, emb_agg, run_equalIn_struct w d' t _ _ (by simp [Program.fieldsOf, hu]) (by simpa using hst)]
        simp only [Program.fieldsOf, hu]
        exact run_eqFields d d' xs ys ρ w ih fs.toList b h
    case h_21 len elem xs ys hu =>
      split at h
      · rename_i n hn
        have := run_eqElems d d' elem n xs ys ρ w ih len 0 b h
        simp only [emb_agg, Op.equalIn, Sem.run_bind, run_underlying hu, Result.andThen_ok, run_sizeT hn]
        rw [Std.Legacy.Range.forIn_eq_forIn_range']
        simp only [Std.Legacy.Range.size, Nat.sub_zero, Nat.add_sub_cancel, Nat.div_one]
        rw [this]
        cases b <;> simp
      · cases h
    case h_22 =>
      unfold samePtr at h
      split at h
      · rename_i e he
        split at h
        · rename_i hc
          obtain ⟨h1, h2, h3⟩ := hc
          simp only [Option.some.injEq] at h
          subst h
          have hu : P.underlying t = some (.pointer e) := by
            unfold elemT? at he
            split at he
            · simp only [Option.some.injEq] at he; subst he; assumption
            · cases he
          obtain ⟨j, hj⟩ := Option.isSome_iff_exists.1 h3
          have hx : ∀ z : V, z.ptr?.isSome = true → ∃ k o, z = .ptr k o := by
            intro z hz
            cases z <;> simp [V.ptr?] at hz
            exact ⟨_, _, rfl⟩
          obtain ⟨k, o, hxe⟩ := hx _ h1
          obtain ⟨k', o', hye⟩ := hx _ (h2 ▸ h1)
          rw [hxe, hye] at h2 ⊢
          simp only [V.ptr?, Option.some.injEq, Prod.mk.injEq] at h2
          obtain ⟨rfl, rfl⟩ := h2
          simp [Op.equalIn, run_underlying hu, sizeOf, typeInfo, hj, run_sameAddr_same]
        · cases h
      · cases h

end Go.Am
