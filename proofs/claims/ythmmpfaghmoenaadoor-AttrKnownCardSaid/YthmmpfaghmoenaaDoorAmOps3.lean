/-
  Each operation of the evaluator is one of the model's: parts, bounds, keys, conversions.
-/
import Derived.Test.YthmmpfaghmoenaaDoorAmOps2
namespace Go.Am
open Go

variable {P : Program} {E : Env} {N : Nat} {ρ : Nat → Loc} {H : List AObj} {w : World}

/-! ### Composite values -/

theorem foldl_zipIdx (vs : List Value) : ∀ (k off : Nat) (C : Array Value), off + k + vs.length ≤ C.size →
    ((vs.zipIdx k).foldl (fun cs (x : Value × Nat) => cs.setIfInBounds (off + x.2) x.1) C).toList = C.toList.take (off + k) ++ vs ++ C.toList.drop (off + k + vs.length) := by
  induction vs with
  | nil => intro k off C h; simp
  | cons v r ih =>
    intro k off C h
    simp only [List.zipIdx_cons, List.foldl_cons]
    rw [show off + k = off + k from rfl, ih (k + 1) off _ (by simp at h ⊢; omega)]
    have e := list_seg_step C.toList (off + k) v r (by simp at h ⊢; omega)
    simpa [Array.toList_setIfInBounds, Nat.add_assoc] using e

theorem fill_run (place : Nat → Option (Nat × Nat)) (ρ : Nat → Loc) : ∀ (parts : List (Nat × V)) (cs cs' : List V), fillV place cs parts = some cs' →
    Instr.fill place (cs.map (V.emb ρ)).toArray (parts.map fun p => (p.1, p.2.emb ρ)) = some (cs'.map (V.emb ρ)).toArray
  | [], cs, cs', h => by simp only [fillV, Option.some.injEq] at h; subst h; rfl
  | (i, v) :: r, cs, cs', h => by
    simp only [fillV] at h
    simp only [List.map_cons, Instr.fill]
    cases hp : place i with
    | none => rw [hp] at h; simp at h
    | some os =>
      obtain ⟨off, size⟩ := os
      rw [hp] at h
      simp only at h
      split at h
      · rename_i hc
        obtain ⟨hc1, hc2⟩ := hc
        have hcells := emb_cells ρ v
        have hsz : (v.emb ρ).cells.size = size := by rw [hcells]; simp [hc1]
        simp only [hsz, ne_eq, not_true_eq_false, decide_false, Bool.false_or, List.size_toArray, List.length_map, decide_eq_true_eq]
        rw [if_neg (by simp; omega)]
        have : ((v.emb ρ).cells.zipIdx.foldl (fun cs (x : Value × Nat) => cs.setIfInBounds (off + x.2) x.1) (cs.map (V.emb ρ)).toArray) = ((cs.take off ++ v.cells ++ cs.drop (off + size)).map (V.emb ρ)).toArray := by
          apply Array.ext'
          rw [hcells, ← Array.foldl_toList, Array.toList_zipIdx]
          have := foldl_zipIdx (v.cells.map (V.emb ρ)) 0 off (cs.map (V.emb ρ)).toArray (by simp; omega)
          rw [this]
          simp [hc1, List.map_take, List.map_drop]
        have ih := fill_run place ρ r _ cs' h
        rw [← this] at ih
        exact ih
      · cases h

theorem fill_lt {n : Nat} (place : Nat → Option (Nat × Nat)) : ∀ (parts : List (Nat × V)) (cs cs' : List V), fillV place cs parts = some cs' → ltL n cs → (∀ p ∈ parts, p.2.lt n = true) → ltL n cs'
  | [], cs, cs', h, hl, _ => by simp only [fillV, Option.some.injEq] at h; subst h; exact hl
  | (i, v) :: r, cs, cs', h, hl, hp => by
    simp only [fillV] at h
    split at h
    · cases h
    · split at h
      · refine fill_lt place r _ cs' h ?_ (fun p hm => hp p (List.mem_cons_of_mem _ hm))
        exact ltL_append.2 ⟨ltL_append.2 ⟨ltL_take hl, ltL_cells (hp (i, v) (List.mem_cons_self ..))⟩, ltL_drop hl⟩
      · cases h

theorem fill_length (place : Nat → Option (Nat × Nat)) : ∀ (parts : List (Nat × V)) (cs cs' : List V), fillV place cs parts = some cs' → cs'.length = cs.length
  | [], cs, cs', h => by simp only [fillV, Option.some.injEq] at h; subst h; rfl
  | (i, v) :: r, cs, cs', h => by
    simp only [fillV] at h
    split at h
    · cases h
    · split at h
      · rename_i hc
        rw [fill_length place r _ cs' h]
        simp
        omega
      · cases h

theorem places_run : ∀ (fs : List Field) (pl : List (Nat × Nat)) (w : World), placesOf P fs = some pl → (fs.mapM (fun f => do pure (f.offset, ← sizeOf f.type)) : Sem (List (Nat × Nat))).run P w = .ok pl w
  | [], pl, w, h => by simp only [placesOf, Option.some.injEq] at h; subst h; rfl
  | f :: r, pl, w, h => by
    simp only [placesOf] at h
    split at h
    · rename_i n l h1 h2
      simp only [Option.some.injEq] at h
      subst h
      have ih := places_run r l w h2
      simp only [List.mapM_cons, Sem.run_bind, run_sizeT h1, Result.andThen_ok, Sem.run_pure, ih]
    · cases h

theorem buildV_run {t : TypeId} {parts : List (Nat × V)} {v : V} (h : buildV P t parts = some v) (ρ : Nat → Loc) (w : World) :
    (Instr.build t (parts.map fun p => (p.1, p.2.emb ρ)).toArray).run P w = .ok (v.emb ρ) w := by
  unfold buildV at h
  split at h
  · rename_i z fs hz hu
    split at h
    · rename_i pl hpl
      simp only [Option.map_eq_some_iff] at h
      obtain ⟨cs, hcs, rfl⟩ := h
      have h1 := (run_zeroT hz ρ w).1
      have h2 := fill_run (fun i => pl[i]?) ρ parts z.cells cs hcs
      have h3 := emb_cells ρ z
      have h4 := places_run fs.toList pl w hpl
      simp only [Instr.build, Sem.run_bind, h1, Result.andThen_ok, run_underlying hu]
      rw [← Array.toArray_toList (xs := fs), List.mapM_toArray]
      simp only [Sem.run_map, h4, Result.andThen_ok, h3, List.getElem?_toArray, h2, Sem.run_pure, emb_agg]
    · cases h
  · rename_i z len elem hz hu
    split at h
    · rename_i n hn
      simp only [Option.map_eq_some_iff] at h
      obtain ⟨cs, hcs, rfl⟩ := h
      have h1 := (run_zeroT hz ρ w).1
      have h2 := fill_run (fun i => some (i * n, n)) ρ parts z.cells cs hcs
      have h3 := emb_cells ρ z
      simp only [Instr.build, Sem.run_bind, h1, Result.andThen_ok, run_underlying hu, run_sizeT hn, h3, h2, Sem.run_pure, emb_agg]
    · cases h
  · cases h

theorem buildV_lt {n : Nat} {t : TypeId} {parts : List (Nat × V)} {v : V} (h : buildV P t parts = some v) (hp : ∀ p ∈ parts, p.2.lt n = true) : v.lt n = true := by
  unfold buildV at h
  split at h
  · rename_i z fs hz hu
    split at h
    · simp only [Option.map_eq_some_iff] at h
      obtain ⟨cs, hcs, rfl⟩ := h
      exact (lt_agg _ _).2 (fill_lt _ parts _ _ hcs (ltL_cells (lt_flat (run_zeroT hz (fun _ => default) default).2 n)) hp)
    · cases h
  · rename_i z len elem hz hu
    split at h
    · simp only [Option.map_eq_some_iff] at h
      obtain ⟨cs, hcs, rfl⟩ := h
      exact (lt_agg _ _).2 (fill_lt _ parts _ _ hcs (ltL_cells (lt_flat (run_zeroT hz (fun _ => default) default).2 n)) hp)
    · cases h
  · cases h

/-! ### zeros -/

theorem zeros_length (z : List V) : ∀ n, (zeros z n).length = n * z.length
  | 0 => by simp [zeros]
  | n + 1 => by simp [zeros, zeros_length z n, Nat.add_mul, Nat.add_comm]

theorem zeros_get (z : List V) : ∀ (n i : Nat), i < n * z.length → (zeros z n)[i]? = z[i % z.length]?
  | 0, i, h => by simp at h
  | n + 1, i, h => by
    simp only [zeros]
    by_cases hi : i < z.length
    · rw [List.getElem?_append_left hi, Nat.mod_eq_of_lt hi]
    · rw [List.getElem?_append_right (by omega), zeros_get z n (i - z.length) (by rw [Nat.add_mul] at h; omega), ← Nat.mod_eq_sub_mod (by omega)]

theorem zeros_lt {m : Nat} {z : List V} (h : ltL m z) : ∀ n, ltL m (zeros z n)
  | 0 => ltL_nil m
  | n + 1 => ltL_append.2 ⟨h, zeros_lt h n⟩

theorem zeros_emb (z : List V) (n m : Nat) (hz : z.length = m) (ρ : Nat → Loc) :
    (Array.range (n * m)).map (fun i => ((z.map (V.emb ρ)).toArray)[i % ((z.map (V.emb ρ)).toArray).size]!) = ((zeros z n).map (V.emb ρ)).toArray := by
  subst hz
  apply Array.ext
  · simp [zeros_length]
  · intro i h1 h2
    simp only [Array.size_map, Array.size_range] at h1
    simp only [Array.getElem_map, Array.getElem_range, List.size_toArray, List.length_map]
    have hpos : 0 < z.length := by
      rcases Nat.eq_zero_or_pos z.length with h0 | h0
      · rw [h0] at h1; omega
      · exact h0
    have hm : i % z.length < z.length := Nat.mod_lt _ hpos
    have hg := zeros_get z n i h1
    rw [List.getElem?_eq_getElem hm] at hg
    have := (List.getElem?_eq_some_iff.1 hg).2
    simp [hm, this]

/-! ### Bounds -/

theorem natV_run {x : Option V} {y : Option Nat} (h : natV x = some y) : (x = none ∧ y = none) ∨ ∃ k i, x = some (.int k i) ∧ 0 ≤ i ∧ y = some i.toNat := by
  unfold natV at h
  split at h
  · simp only [Option.some.injEq] at h; exact .inl ⟨rfl, h.symm⟩
  · rename_i k i
    split at h
    · rename_i hi; simp only [Option.some.injEq] at h; exact .inr ⟨k, i, rfl, hi, h.symm⟩
    · cases h
  · cases h

theorem run_bounds {isS : Bool} {len cap : Nat} {lo hi mx : Option V} {lo' hi' mx' : Option Nat} {l h m : Nat} (h1 : natV lo = some lo') (h2 : natV hi = some hi') (h3 : natV mx = some mx')
    (hb : bounds len cap lo' hi' mx' = some (l, h, m)) (ρ : Nat → Loc) (w : World) :
    (Instr.sliceBounds isS len cap (lo.map (V.emb ρ)) (hi.map (V.emb ρ)) (mx.map (V.emb ρ))).run P w = .ok (l, h, m) w ∧ l ≤ h ∧ h ≤ m ∧ m ≤ cap ∧ (mx' = none → m = cap) ∧ (mx' = none → hi' = none → h = len) := by
  unfold bounds at hb
  rcases natV_run h3 with ⟨rfl, rfl⟩ | ⟨k3, i3, rfl, p3, rfl⟩ <;> rcases natV_run h2 with ⟨rfl, rfl⟩ | ⟨k2, i2, rfl, p2, rfl⟩ <;> rcases natV_run h1 with ⟨rfl, rfl⟩ | ⟨k1, i1, rfl, p1, rfl⟩ <;>
    simp only [Option.getD_none, Option.getD_some, Option.isSome_none, Option.isSome_some, Bool.false_eq_true, if_false, if_true] at hb <;>
    (split at hb
     · rename_i hc
       simp only [Option.some.injEq, Prod.mk.injEq] at hb
       obtain ⟨rfl, rfl, rfl⟩ := hb
       first
         | (exfalso; omega)
         | (refine ⟨?_, by omega, by omega, by omega, by simp, by simp⟩
            simp only [Instr.sliceBounds, Option.map_none, Option.map_some, emb_int, Option.isSome_none, Option.isSome_some, Sem.run_bind, Sem.run_pure, Result.andThen_ok, if_true, Bool.false_eq_true, if_false]
            repeat (first | (rw [run_sliceBound _ _ _ _ _ (by omega) (by omega)]; simp only [Result.andThen_ok]) | rfl))
     · cases hb)

end Go.Am
