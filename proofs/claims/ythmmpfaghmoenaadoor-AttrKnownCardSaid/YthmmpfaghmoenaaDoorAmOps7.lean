/-
  Each operation of the evaluator is one of the model's: append.
-/
import Derived.Test.YthmmpfaghmoenaaDoorAmOps6
namespace Go.Am
open Go

variable {P : Program} {E : Env} {N : Nat} {ρ : Nat → Loc} {H : List AObj} {w : World}

theorem getElem?_set' {α : Type} {l : List α} {k : Nat} {x : α} {j : Nat} {y : α} (h : (l.set k x)[j]? = some y) : (j = k ∧ y = x) ∨ (j ≠ k ∧ l[j]? = some y) := by
  by_cases hjk : j = k
  · subst hjk
    rw [List.getElem?_set] at h
    simp only [if_true] at h
    split at h
    · exact .inl ⟨rfl, (Option.some.inj h).symm⟩
    · cases h
  · rw [List.getElem?_set_ne (Ne.symm hjk)] at h
    exact .inr ⟨hjk, h⟩

/-- An object is forgotten. -/
theorem WR.kill (hw : WR E N ρ H w) (k : Nat) : WR E N ρ (H.set k .dead) w ∧ Goes H ρ w (H.set k .dead) ρ w := by
  refine ⟨⟨hw.low, ?_, ?_, ?_, hw.globs⟩, ⟨rfl, rfl, rfl, Nat.le_refl _, fun _ _ _ => rfl, ?_, fun _ _ => rfl, by simp⟩⟩
  · intro j o hj
    rw [List.length_set]
    rcases getElem?_set' hj with ⟨_, rfl⟩ | ⟨_, hj⟩
    · exact ltL_nil _
    · exact hw.vals j o hj
  · intro j o hj
    rcases getElem?_set' hj with ⟨_, rfl⟩ | ⟨_, hj⟩
    · trivial
    · exact hw.objs j o hj
  · intro i j oi oj hi hj h1 h2 hne
    rcases getElem?_set' hi with ⟨_, rfl⟩ | ⟨_, hi⟩
    · cases h1
    · rcases getElem?_set' hj with ⟨_, rfl⟩ | ⟨_, hj⟩
      · cases h2
      · exact hw.inj i j oi oj hi hj h1 h2 hne
  · rintro b _ ⟨j, o, hj, ho, hb⟩
    rcases getElem?_set' hj with ⟨_, rfl⟩ | ⟨_, hj⟩
    · cases ho
    · exact ⟨j, o, hj, ho, hb⟩

/-- What a slice shows of a block that has grown becomes a block of its own name; the old name is forgotten. -/
theorem WR.move (hw : WR E N ρ H w) {k o : Nat} {cs : List V} {e : TypeId} {fz : Bool} (hk : H[k]? = some (.cells cs e .grown fz)) (ho : o ≤ cs.length) (hdiv : o % (ρ k).sz = 0) :
    WR E N (upd ρ H.length ⟨(ρ k).block, (ρ k).off + o, (ρ k).ext - o, (ρ k).sz⟩) (H.set k .dead ++ [.cells (cs.drop o) e .grown fz]) w ∧
    Goes H ρ w (H.set k .dead ++ [.cells (cs.drop o) e .grown fz]) (upd ρ H.length ⟨(ρ k).block, (ρ k).off + o, (ρ k).ext - o, (ρ k).sz⟩) w := by
  have hext : ∀ j, j < H.length → upd ρ H.length ⟨(ρ k).block, (ρ k).off + o, (ρ k).ext - o, (ρ k).sz⟩ j = ρ j := fun j hj => upd_lt ρ _ hj
  have hget : ∀ j x, (H.set k .dead ++ [.cells (cs.drop o) e .grown fz])[j]? = some x → (j < H.length ∧ j ≠ k ∧ H[j]? = some x) ∨ (j < H.length ∧ x = .dead) ∨ (j = H.length ∧ x = .cells (cs.drop o) e .grown fz) := by
    intro j x hj
    rcases Nat.lt_trichotomy j H.length with hlt | heq | hgt
    · rw [List.getElem?_append_left (by simpa using hlt)] at hj
      rcases getElem?_set' hj with ⟨_, rfl⟩ | ⟨hne, hj⟩
      · exact .inr (.inl ⟨hlt, rfl⟩)
      · exact .inl ⟨hlt, hne, hj⟩
    · subst heq
      rw [List.getElem?_append_right (by simp)] at hj
      simp at hj
      exact .inr (.inr ⟨rfl, hj.symm⟩)
    · rw [List.getElem?_append_right (by simp; omega), List.getElem?_eq_none (by simp; omega)] at hj; cases hj
  have hor := hw.objs k _ hk
  obtain ⟨h1, C, z, hC, hcs, m1, m2, m3, m4, m5, m6, m7, q, m8, m9⟩ := hor
  refine ⟨⟨hw.low, ?_, ?_, ?_, globs_kept hw (fun _ _ => rfl)⟩, ⟨rfl, rfl, rfl, Nat.le_refl _, fun _ _ _ => rfl, ?_, hext, by simp⟩⟩
  · intro j x hj
    simp only [List.length_append, List.length_set, List.length_cons, List.length_nil]
    rcases hget j x hj with ⟨_, _, hj⟩ | ⟨_, rfl⟩ | ⟨_, rfl⟩
    · exact ltL_mono (by simp) (hw.vals j x hj)
    · exact ltL_nil _
    · exact ltL_mono (by simp) (ltL_drop (hw.vals k _ hk))
  · intro j x hj
    rcases hget j x hj with ⟨hlt, _, hj⟩ | ⟨_, rfl⟩ | ⟨rfl, rfl⟩
    · rw [hext j hlt]
      exact (hw.objs j x hj).kept (hw.vals j x hj) hext rfl
    · trivial
    · rw [upd_same]
      have hlen : (ρ k).off + o + (cs.drop o).length = (ρ k).off + cs.length := by simp; omega
      refine ⟨fun v hv => h1 v (List.mem_of_mem_drop hv), C, z, hC, fun i v hi => ?_, m1, fun hf => ?_, ?_, ?_, ?_, m6, m7, ?_⟩
      · rw [List.getElem?_drop] at hi
        have := hcs _ _ hi
        rw [← Nat.add_assoc] at this
        rw [this, emb_lt (ltL_get (hw.vals k _ hk) hi) hext]
      · rw [hlen]; exact fun i a b => m2 hf i (by simp only at a; omega) b
      · rw [hlen]; exact m3
      · simp only; omega
      · simp only [List.length_drop]; omega
      · obtain ⟨p, hp⟩ := Nat.dvd_of_mod_eq_zero hdiv
        refine ⟨q - p, ?_, by omega⟩
        simp only
        rw [m8, hp, Nat.sub_mul, Nat.mul_comm (ρ k).sz p]
  · intro i j oi oj hi hj a b hne
    have other : ∀ j oj, j ≠ k → H[j]? = some oj → oj.own = true → (ρ j).block ≠ (ρ k).block := fun j oj hne hj b => hw.inj j k oj _ hj hk b rfl hne
    rcases hget i oi hi with ⟨hlt, hnk, hi⟩ | ⟨_, rfl⟩ | ⟨rfl, rfl⟩
    · rcases hget j oj hj with ⟨hlt', hnk', hj⟩ | ⟨_, rfl⟩ | ⟨rfl, rfl⟩
      · rw [hext i hlt, hext j hlt']; exact hw.inj i j oi oj hi hj a b hne
      · cases b
      · rw [hext i hlt, upd_same]; exact other i oi hnk hi a
    · cases a
    · rcases hget j oj hj with ⟨hlt', hnk', hj⟩ | ⟨_, rfl⟩ | ⟨rfl, rfl⟩
      · rw [hext j hlt', upd_same]; exact Ne.symm (other j oj hnk' hj b)
      · cases b
      · exact absurd rfl hne
  · rintro b _ ⟨j, x, hj, ho', hb⟩
    rcases hget j x hj with ⟨hlt, _, hj⟩ | ⟨_, rfl⟩ | ⟨rfl, rfl⟩
    · exact ⟨j, x, hj, ho', by rw [hext j hlt] at hb; exact hb⟩
    · cases ho'
    · exact ⟨k, _, hk, rfl, by rw [upd_same] at hb; exact hb⟩

theorem infoOf {e : TypeId} {size bytes : Nat} {z : V} (h1 : sizeT P e = some size) (h2 : bytesT P e = some bytes) (h3 : zeroT P e = some z) (ρ : Nat → Loc) :
    ∃ i, P.info? e = some i ∧ i.size = size ∧ i.bytes = bytes ∧ i.zero = some (z.emb ρ) := by
  unfold sizeT at h1
  cases hi : P.info? e with
  | none => rw [hi] at h1; cases h1
  | some i =>
    rw [hi] at h1
    simp only [bytesT, zeroT, hi, Option.map_some, Option.some.injEq, Option.bind_some] at h1 h2 h3
    cases hz : i.zero with
    | none => rw [hz] at h3; cases h3
    | some v =>
      rw [hz] at h3
      exact ⟨i, rfl, h1, h2, by rw [hz, (ofVal_emb ρ v z h3).1]⟩

theorem size_zeros (ρ : Nat → Loc) {z : V} {size : Nat} (h : z.cells.length = size) (n : Nat) : (Builtin.zeroCells (z.emb ρ).cells n).size = n * size := by
  rw [size_zeroCells, emb_cells]
  simp [h]

/-- The new row of an append. -/
theorem grow_append (hw : WR E N ρ H w) {old new : List V} {e : TypeId} {size need q : Nat} {z : V} (fz : Bool) (hv : ltL H.length (old ++ new)) (hone : ∀ v ∈ old ++ new, v.one = true)
    (hl : (old ++ new).length = need * size) (hz : z.cells.length = size) (hs : sizeT E.P e = some size) (hpos : 0 < size) (hge : need ≤ q) (hmax : q ≤ maxLen) :
    WR E N (upd ρ H.length ⟨w.heap.size, 0, q * size, size⟩) (H ++ [.cells (old ++ new) e .grown fz]) (w.drew.alloc (.cells ((old.map (V.emb ρ)).toArray ++ (new.map (V.emb ρ)).toArray ++ Builtin.zeroCells (z.emb ρ).cells (q - need)) e)) ∧
    Goes H ρ w (H ++ [.cells (old ++ new) e .grown fz]) (upd ρ H.length ⟨w.heap.size, 0, q * size, size⟩) (w.drew.alloc (.cells ((old.map (V.emb ρ)).toArray ++ (new.map (V.emb ρ)).toArray ++ Builtin.zeroCells (z.emb ρ).cells (q - need)) e)) := by
  have hsz : ((old.map (V.emb ρ)).toArray ++ (new.map (V.emb ρ)).toArray ++ Builtin.zeroCells (z.emb ρ).cells (q - need)).size = q * size := by
    simp only [Array.size_append, size_zeros ρ hz, List.size_toArray, List.length_map]
    rw [List.length_append] at hl
    rw [hl, ← Nat.add_mul]
    congr 1
    omega
  refine hw.grow (C := (old.map (V.emb ρ)).toArray ++ (new.map (V.emb ρ)).toArray ++ Builtin.zeroCells (z.emb ρ).cells (q - need)) (z := (0, 0)) (q := q) fz (by simp) (fun b hb => RowKit.Below.heap_alloc w.drew _ b hb) rfl rfl rfl (heap_alloc_new w.drew _) hv hone (fun i v hi => ?_)
    (fun i _ _ hzz => by simp at hzz) hsz (by rw [hsz, hl]; exact Nat.mul_le_mul_right _ hge) hs hpos hmax
  have hlt : i < (old ++ new).length := (List.getElem?_eq_some_iff.1 hi).1
  rw [Array.getElem?_append_left (by simpa using hlt)]
  rw [show ((old.map (V.emb ρ)).toArray ++ (new.map (V.emb ρ)).toArray) = ((old ++ new).map (V.emb ρ)).toArray by simp, List.getElem?_toArray, List.getElem?_map, hi]
  rfl

/-- An append at the end of a block with room behind it. -/
theorem append_at_end (hw : WR E N ρ H w) {t u ty e : TypeId} {du : TypeDesc} {k o len n size : Nat} {cs' cs : List V} {fz : Bool} (hk : H[k]? = some (.cells cs' e .grown fz))
    (ht : E.P.underlying t = some (.slice e)) (hu : E.P.underlying u = some du) (hd : du = .string ∨ ∃ e', du = .slice e') (hse : sizeT E.P e = some size) (hpos : 0 < size) (hszk : (ρ k).sz = size)
    (hmod : o % size = 0) (hend : o + len * size = cs'.length) (hroom : len + n ≤ ((ρ k).ext - o) / (ρ k).sz) {x : Value} (hlen : (Builtin.lenOf x).run E.P w = .ok n w)
    (hnew : (Builtin.firstCells size n x).run E.P w = .ok (cs.map (V.emb ρ)).toArray w) (hlt : ltL H.length cs) (hone : ∀ v ∈ cs, v.one = true) (hnl : cs.length = n * size) :
    Val E N ρ H w (Builtin.append_ #[t, u] ty #[(V.slice k o len none).emb ρ, x]) (.slice H.length 0 (len + n) none) (H.set k .dead ++ [.cells (cs'.drop o ++ cs) e .grown fz]) := by
  have hor := hw.objs k _ hk
  obtain ⟨h1, C, z, hC, hcs, m1, m2, m3, m4, m5, m6, m7, q, m8, m9⟩ := hor
  have hext : o + (len + n) * size ≤ (ρ k).ext := by
    rw [hszk, Nat.le_div_iff_mul_le hpos] at hroom
    have : 0 < len + n ∨ len + n = 0 := by omega
    rcases this with h | h
    · have : 0 < (len + n) * size := Nat.mul_pos h hpos
      omega
    · rw [h]; simp; omega
  rw [Nat.add_mul] at hext
  have hfit : (ρ k).off + cs'.length + (cs.map (V.emb ρ)).length ≤ C.size := by simp only [List.length_map]; omega
  have hst := run_storeCells_free (P := E.P) (ρ k).block ((ρ k).off + cs'.length) e z (cs.map (V.emb ρ)) 0 C w hC (by simpa using hfit) (fun i a b => m3 i (by omega) (by simp only [List.length_map] at b hfit; omega))
    (fun v hv => by obtain ⟨y, hy, rfl⟩ := List.mem_map.1 hv; rw [emb_one]; exact hone y hy)
  simp only [Nat.add_zero] at hst
  have hlen2 : (cs' ++ cs).length = cs'.length + cs.length := by simp
  have hwr := hw.write (w' := w.setRow (ρ k).block (C.toList.take ((ρ k).off + cs'.length) ++ cs.map (V.emb ρ) ++ C.toList.drop ((ρ k).off + cs'.length + (cs.map (V.emb ρ)).length)).toArray)
    (o' := .cells (cs' ++ cs) e .grown fz) hk rfl rfl rfl rfl (by simp) (fun b hb => setRow_other w _ b _ hb) (ltL_append.2 ⟨hw.vals k _ hk, hlt⟩)
    ⟨fun v hv => (List.mem_append.1 hv).elim (h1 v) (hone v), _, z, setRow_z w _ C e z _ hC, fun i v hi => by
      rw [getElem?_spliceA C _ _ _ hfit]
      by_cases hlt' : i < cs'.length
      · rw [List.getElem?_append_left hlt'] at hi
        rw [if_neg (by omega)]
        exact hcs i v hi
      · rw [List.getElem?_append_right (by omega)] at hi
        have := (List.getElem?_eq_some_iff.1 hi).1
        rw [if_pos (by simp; omega), List.getElem?_map, show (ρ k).off + i - ((ρ k).off + cs'.length) = i - cs'.length by omega, hi]
        rfl,
      m1, fun hf i a b => by
        by_cases hlt' : i < (ρ k).off + cs'.length
        · exact m2 hf i a hlt'
        · exact m3 i (by omega) (by simp only [List.length_map] at hfit; omega),
      by rw [size_spliceA C _ _ hfit, hlen2]; exact fun i a b => m3 i (by omega) b, by rw [size_spliceA C _ _ hfit]; exact m4, by simp only [List.length_map] at hfit; omega, m6, m7, q, m8, m9⟩
  have hklt : k < H.length := (List.getElem?_eq_some_iff.1 hk).1
  have hmv := hwr.1.move (k := k) (o := o) (List.getElem?_set_self hklt) (by simp; omega) (by rw [hszk]; exact hmod)
  rw [List.length_set, List.set_set, List.drop_append_of_le_length (by omega)] at hmv
  refine ⟨_, _, ?_, hmv.1, hwr.2.trans hmv.2, by simp⟩
  have := run_append_room' (ty := ty) ht hu hd hse (base := some ⟨(ρ k).block, (ρ k).off + o, none⟩) (sLen := len) (sCap := ((ρ k).ext - o) / (ρ k).sz) hlen hnew hroom
  simp only [emb_slice_none, upd_same, Nat.add_zero, Nat.sub_zero]
  rw [this]
  simp only [add_off]
  rw [show (ρ k).off + o + len * size = (ρ k).off + cs'.length by omega]
  rw [hst]
  rfl

theorem appendV_run (hw : WR E N ρ H w) {wr esc : Nat} {t u ty e : TypeId} {du : TypeDesc} (ht : E.P.underlying t = some (.slice e)) (hu : E.P.underlying u = some du) (hd : du = .string ∨ ∃ e', du = .slice e')
    {s x : V} {cs : List V} {n size : Nat} (hsl : s.lt H.length = true) (hse : sizeT E.P e = some size) (hx : shown ⟨H, wr, esc⟩ size x = some (cs, n)) {r : R} {H' : Hp}
    (h : appendV E.P e s cs n ⟨H, wr, esc⟩ = some (r, H')) : ∃ v, r = .val v ∧ Val E N ρ H w (Builtin.append_ #[t, u] ty #[s.emb ρ, x.emb ρ]) v H'.objs := by
  have sh := shown_run hw hx
  have sh' := shown_run hw.drew hx
  have hnew := sh.2.2.2 n (Nat.le_refl _)
  have hnew' := sh'.2.2.2 n (Nat.le_refl _)
  rw [List.take_of_length_le (by rw [sh.2.2.1]; exact Nat.le_refl _)] at hnew hnew'
  unfold appendV at h
  split at h
  · rename_i size' bytes z h1 h2 h3
    have : size' = size := Option.some.inj (h1.symm.trans hse)
    subst this
    split at h
    · cases h
    · rename_i hc
      simp only [not_or, ne_eq, Decidable.not_not] at hc
      obtain ⟨hsz0, hnl, hzl, hone⟩ := hc
      have hpos : 0 < size' := by omega
      have hone' : ∀ v ∈ cs, v.one = true := fun v hv => List.all_eq_true.1 hone v hv
      obtain ⟨i, hi, i1, i2, i3⟩ := infoOf h1 h2 h3 ρ
      split at h
      · -- nil
        split at h
        · rename_i hn0
          subst hn0
          simp only [ok, Option.some.injEq, Prod.mk.injEq] at h
          obtain ⟨rfl, rfl⟩ := h
          refine ⟨_, rfl, Val.pure hw ?_ rfl⟩
          have := run_append_room' (ty := ty) ht hu hd hse (base := none) (sLen := 0) (sCap := 0) sh.1 hnew (Nat.le_refl _)
          exact this
        · rename_i hn0
          split at h
          · rename_i hb
            simp only [ok, Option.some.injEq, Prod.mk.injEq] at h
            obtain ⟨rfl, rfl⟩ := h
            refine ⟨_, rfl, ?_⟩
            have hmax : 0 + n ≤ maxLen := by simp only [maxLen]; omega
            have hrun := run_append_more (ty := ty) ht hu hd hse hi i3 (base := none) (sLen := 0) (sCap := 0) (old := #[]) sh.1 hnew' (by simp [Builtin.firstCells]) (by omega) (by omega) (by rw [i2, Nat.zero_add]; exact hb.1)
            have hg := grow_append hw (old := []) (new := cs) (e := e) (need := 0 + n) (q := grownCap w (0 + n) 0 e) (z := z) false (by simpa using sh.2.1) (by simpa using hone') (by simpa using hnl) hzl hse hpos
              (grownCap_ge w _ _ _) (grownCap_le_maxLen w _ _ _ hmax)
            refine ⟨_, _, ?_, hg.1, hg.2, by simp [Hp.size, Hp.new]⟩
            rw [emb_nils, hrun]
            simp only [Hp.size, emb_slice_none, upd_same, Nat.add_zero, Nat.sub_zero, Nat.zero_add]
            rw [Nat.mul_div_cancel _ hpos]
            rfl
          · cases h
      · -- a slice
        rename_i k o len c
        split at h
        · rename_i cs' e' m fz hk
          simp only at hk
          split at h
          · rename_i hfit
            obtain ⟨hle, hby, hmx⟩ := hfit
            have hmax : len + n ≤ maxLen := by simp only [maxLen]; omega
            have hsh0 : shown ⟨H, wr, esc⟩ size' (.slice k o len c) = some ((cs'.drop o).take (len * size'), len) := by simp [shown, hk, hle]
            have so := shown_run hw.drew hsh0
            have hold := so.2.2.2 len (Nat.le_refl _)
            rw [List.take_of_length_le (by rw [so.2.2.1]; exact Nat.le_refl _)] at hold
            have hvals := hw.vals k _ hk
            have hones : ∀ v ∈ cs', v.one = true := (hw.objs k _ hk).1
            split at h
            · -- the capacity is known
              rename_i c
              split at h
              · rename_i hn0
                subst hn0
                split at h
                · rename_i hlc
                  simp only [ok, Option.some.injEq, Prod.mk.injEq] at h
                  obtain ⟨rfl, rfl⟩ := h
                  refine ⟨_, rfl, Val.pure hw ?_ hsl⟩
                  have hcs : cs = [] := List.eq_nil_of_length_eq_zero (by simpa using hnl)
                  subst hcs
                  have := run_append_room' (ty := ty) ht hu hd hse (base := some ⟨(ρ k).block, (ρ k).off + o, none⟩) (sLen := len) (sCap := c) sh.1 hnew (by omega)
                  simp only [emb_slice_some]
                  rw [this]
                  simp [storeCells]
                · cases h
              · split at h
                · rename_i hroom
                  simp only [Option.map_eq_some_iff, Prod.mk.injEq] at h
                  obtain ⟨H1, hput, rfl, rfl⟩ := h
                  refine ⟨_, rfl, ?_⟩
                  obtain ⟨w', p1, p2, p3⟩ := putCells_run hw sh.2.1 hput
                  refine ⟨ρ, w', ?_, p2, p3, lt_mono p3.len (by simpa using hsl)⟩
                  have := run_append_room' (ty := ty) ht hu hd hse (base := some ⟨(ρ k).block, (ρ k).off + o, none⟩) (sLen := len) (sCap := c) sh.1 hnew hroom
                  simp only [emb_slice_some]
                  rw [this]
                  simp only [add_off, Nat.add_assoc] at p1 ⊢
                  rw [p1]
                  rfl
                · rename_i hroom
                  simp only [ok, Option.some.injEq, Prod.mk.injEq] at h
                  obtain ⟨rfl, rfl⟩ := h
                  refine ⟨_, rfl, ?_⟩
                  have hrun := run_append_more (ty := ty) ht hu hd hse hi i3 (base := some ⟨(ρ k).block, (ρ k).off + o, none⟩) (sLen := len) (sCap := c) sh.1 hnew' hold hroom (by omega) (by rw [i2]; exact hby)
                  have hg := grow_append hw (old := (cs'.drop o).take (len * size')) (new := cs) (e := e) (need := len + n) (q := grownCap w (len + n) c e) (z := z) false
                    (ltL_append.2 ⟨ltL_take (ltL_drop hvals), sh.2.1⟩)
                    (fun v hv => (List.mem_append.1 hv).elim (fun hv => hones v (List.mem_of_mem_drop (List.mem_of_mem_take hv))) (hone' v))
                    (by rw [List.length_append, so.2.2.1, hnl, Nat.add_mul]) hzl hse hpos (grownCap_ge w _ _ _) (grownCap_le_maxLen w _ _ _ hmax)
                  refine ⟨_, _, ?_, hg.1, hg.2, by simp [Hp.size, Hp.new]⟩
                  simp only [emb_slice_some]
                  rw [hrun]
                  simp only [Hp.size, emb_slice_none, upd_same, Nat.add_zero, Nat.sub_zero]
                  rw [Nat.mul_div_cancel _ hpos]
            · -- it is not
              split at h
              · rename_i hm
                obtain ⟨rfl, he', hmod⟩ := hm
                subst he'
                obtain ⟨_, hszk, hext⟩ := (hw.objs k _ hk).grown hse
                split at h
                · rename_i hn0
                  subst hn0
                  simp only [ok, Option.some.injEq, Prod.mk.injEq] at h
                  obtain ⟨rfl, rfl⟩ := h
                  refine ⟨_, rfl, Val.pure hw ?_ hsl⟩
                  have hcs : cs = [] := List.eq_nil_of_length_eq_zero (by simpa using hnl)
                  subst hcs
                  have hcap : len + 0 ≤ ((ρ k).ext - o) / (ρ k).sz := by rw [hszk]; exact le_div_of hpos (by rw [Nat.add_zero]; omega)
                  have := run_append_room' (ty := ty) ht hu hd hse (base := some ⟨(ρ k).block, (ρ k).off + o, none⟩) (sLen := len) (sCap := ((ρ k).ext - o) / (ρ k).sz) sh.1 hnew hcap
                  simp only [emb_slice_none]
                  rw [this]
                  simp [storeCells]
                · split at h
                  · rename_i hn0 hin
                    simp only [Option.map_eq_some_iff, Prod.mk.injEq] at h
                    obtain ⟨H1, hput, rfl, rfl⟩ := h
                    refine ⟨_, rfl, ?_⟩
                    obtain ⟨w', p1, p2, p3⟩ := putCells_run hw sh.2.1 hput
                    refine ⟨ρ, w', ?_, p2, p3, lt_mono p3.len (by simpa using hsl)⟩
                    have hcap : len + n ≤ ((ρ k).ext - o) / (ρ k).sz := by rw [hszk]; exact le_div_of hpos (by omega)
                    have := run_append_room' (ty := ty) ht hu hd hse (base := some ⟨(ρ k).block, (ρ k).off + o, none⟩) (sLen := len) (sCap := ((ρ k).ext - o) / (ρ k).sz) sh.1 hnew hcap
                    simp only [emb_slice_none]
                    rw [this]
                    simp only [add_off, Nat.add_assoc] at p1 ⊢
                    rw [p1]
                    rfl
                  · split at h
                    · rename_i hn0 hin hend
                      simp only [ok, Option.some.injEq, Prod.mk.injEq] at h
                      obtain ⟨rfl, rfl⟩ := h
                      refine ⟨_, rfl, ?_⟩
                      have heq : (cs'.drop o).take (len * size') = cs'.drop o := List.take_of_length_le (by simp; omega)
                      rw [heq] at hold
                      have hol : o ≤ cs'.length := by omega
                      by_cases hroom : len + n ≤ ((ρ k).ext - o) / (ρ k).sz
                      · exact append_at_end hw hk ht hu hd hse hpos hszk hmod hend hroom sh.1 hnew sh.2.1 hone' hnl
                      · have hkill := hw.kill k
                        have hrun := run_append_more (ty := ty) ht hu hd hse hi i3 (base := some ⟨(ρ k).block, (ρ k).off + o, none⟩) (sLen := len) (sCap := ((ρ k).ext - o) / (ρ k).sz) sh.1 hnew' hold hroom (by omega) (by rw [i2]; exact hby)
                        have hg := grow_append hkill.1 (old := cs'.drop o) (new := cs) (e := e') (need := len + n) (q := grownCap w (len + n) (((ρ k).ext - o) / (ρ k).sz) e') (z := z) fz
                          (by rw [List.length_set]; exact ltL_append.2 ⟨ltL_drop hvals, sh.2.1⟩)
                          (fun v hv => (List.mem_append.1 hv).elim (fun hv => hones v (List.mem_of_mem_drop hv)) (hone' v))
                          (by rw [List.length_append, hnl, Nat.add_mul, List.length_drop]; omega) hzl hse hpos (grownCap_ge w _ _ _) (grownCap_le_maxLen w _ _ _ hmax)
                        rw [List.length_set] at hg
                        refine ⟨_, _, ?_, hg.1, hkill.2.trans hg.2, by simp [Hp.size, Hp.new, Hp.write]⟩
                        simp only [emb_slice_none]
                        rw [hrun]
                        simp only [Hp.size, upd_same, Nat.add_zero, Nat.sub_zero]
                        rw [Nat.mul_div_cancel _ hpos]
                    · cases h
              · cases h
          · cases h
        · cases h
      · cases h
  · cases h

end Go.Am
