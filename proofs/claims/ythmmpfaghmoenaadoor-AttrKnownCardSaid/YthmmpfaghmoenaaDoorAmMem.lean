/-
  The model's runs of what reads and writes memory, over the evaluator's memory.
-/
import Derived.Test.YthmmpfaghmoenaaDoorAmRel
namespace Go.Am
open Go

variable {P : Program} {E : Env} {N : Nat} {ρ : Nat → Loc} {H : List AObj} {w : World}

theorem run_isAggT {t : TypeId} {b : Bool} (h : isAggT P t = some b) (w : World) : (isAgg t).run P w = .ok b w := by
  unfold isAggT at h
  cases hu : P.underlying t with
  | none => rw [hu] at h; cases h
  | some d =>
    rw [hu] at h
    simp only [isAgg, Sem.run_bind, run_underlying hu, Result.andThen_ok]
    cases d <;> simp_all

theorem run_sizeT {t : TypeId} {n : Nat} (h : sizeT P t = some n) (w : World) : (sizeOf t).run P w = .ok n w := by
  unfold sizeT at h
  cases hi : P.info? t with
  | none => rw [hi] at h; cases h
  | some i => rw [hi] at h; simp at h; subst h; simp [sizeOf, typeInfo, hi]

theorem run_bytesT {t : TypeId} {n : Nat} (h : bytesT P t = some n) : ∃ i, P.info? t = some i ∧ i.bytes = n := by
  unfold bytesT at h
  cases hi : P.info? t with
  | none => rw [hi] at h; cases h
  | some i => rw [hi] at h; simp at h; exact ⟨i, rfl, h⟩

theorem run_zeroT {t : TypeId} {z : V} (h : zeroT P t = some z) (ρ : Nat → Loc) (w : World) : (zeroValue t).run P w = .ok (z.emb ρ) w ∧ z.flat = true := by
  unfold zeroT at h
  cases hi : P.info? t with
  | none => rw [hi] at h; cases h
  | some i =>
    rw [hi] at h
    simp only [Option.bind_some] at h
    cases hz : i.zero with
    | none => rw [hz] at h; cases h
    | some v =>
      rw [hz] at h
      have := ofVal_emb ρ v z h
      exact ⟨by simp [zeroValue, typeInfo, hi, hz, this.1], this.2⟩

theorem extract_list (l : List Value) (a b : Nat) : (l.toArray).extract a b = ((l.drop a).take (b - a)).toArray := by
  apply Array.ext'
  simp [List.extract]

theorem run_partV {t : TypeId} {cs : List V} {off : Nat} {v : V} (h : partV P t cs off = some v) (ρ : Nat → Loc) (w : World) :
    (part t (cs.map (V.emb ρ)).toArray off).run P w = .ok (v.emb ρ) w := by
  unfold partV at h
  cases ha : isAggT P t with
  | none => rw [ha] at h; simp at h
  | some b =>
    cases b with
    | true =>
      cases hs : sizeT P t with
      | none => rw [ha, hs] at h; simp at h
      | some m =>
        rw [ha, hs] at h
        simp only [Option.some.injEq] at h
        subst h
        simp only [part, Sem.run_bind, run_isAggT ha, Result.andThen_ok, if_true, run_sizeT hs, extract_list, Sem.run_pure, emb_agg]
        congr 3
        rw [Nat.add_sub_cancel_left, ← List.map_drop, ← List.map_take]
    | false =>
      rw [ha] at h
      simp only at h
      simp [part, run_isAggT ha, h]

theorem lt_partV {t : TypeId} {cs : List V} {off : Nat} {v : V} {n : Nat} (h : partV P t cs off = some v) (hl : ltL n cs) : v.lt n = true := by
  unfold partV at h
  split at h
  · simp only [Option.some.injEq] at h
    subst h
    exact (lt_agg _ _).2 (ltL_take (ltL_drop hl))
  · exact ltL_get hl h
  · cases h

/-- The cells of a block, by the evaluator's memory. -/
theorem OR.cell {l : Loc} {cs : List V} {e : TypeId} {m : Mode} {fz : Bool} (h : OR P N ρ w l (.cells cs e m fz)) {i : Nat} {v : V} (hi : cs[i]? = some v) :
    w.cell? ⟨l.block, l.off + i, none⟩ = some (v.emb ρ) := by
  obtain ⟨_, C, z, hC, hcs, _⟩ := h
  simp [World.cell?, hC, hcs i v hi]

theorem add_off (b o n : Nat) : (⟨b, o, none⟩ : Addr).add n = ⟨b, o + n, none⟩ := by
  unfold Addr.add
  split <;> simp_all

theorem cellsOf_run (hw : WR E N ρ H w) {wr esc : Nat} {p : V} {cs : List V} {o : Nat} (h : cellsOf E ⟨H, wr, esc⟩ p = some (cs, o)) :
    ltL H.length cs ∧ ∃ b f, p.emb ρ = .pointer (some ⟨b, f + o, none⟩) ∧ ∀ (i : Nat) (v : V), cs[i]? = some v → w.cell? ⟨b, f + i, none⟩ = some (v.emb ρ) := by
  unfold cellsOf at h
  split at h
  · rename_i k o'
    split at h
    · rename_i cs' e m fz hk
      simp only [Option.some.injEq, Prod.mk.injEq] at h
      obtain ⟨rfl, rfl⟩ := h
      exact ⟨hw.vals k _ hk, (ρ k).block, (ρ k).off, rfl, fun i v hi => (hw.objs k _ hk).cell hi⟩
    · cases h
  · rename_i g o'
    simp only [Option.map_eq_some_iff, Prod.mk.injEq] at h
    obtain ⟨cs', hg, rfl, rfl⟩ := h
    obtain ⟨_, h2, C, e, z, hC, h3⟩ := hw.globs g cs' hg
    exact ⟨fun v hv => lt_flat (h2 v hv).1 _, g, 0, by simp, fun i v hi => by simp [World.cell?, hC, h3 i v hi]⟩
  · cases h

theorem loadV_run (hw : WR E N ρ H w) {wr esc : Nat} {t : TypeId} {p v : V} (h : loadV E t ⟨H, wr, esc⟩ p = some v) :
    (Instr.loadAt t (p.emb ρ)).run E.P w = .ok (v.emb ρ) w ∧ v.lt H.length = true := by
  unfold loadV at h
  split at h
  · cases h
  · rename_i cs o hc
    obtain ⟨hl, b, f, hp, hcell⟩ := cellsOf_run hw hc
    rw [hp]
    split at h
    · rename_i n ha hs
      split at h
      · rename_i hle
        simp only [Option.some.injEq] at h
        subst h
        refine ⟨?_, (lt_agg _ _).2 (ltL_take (ltL_drop hl))⟩
        have hlen : (((cs.drop o).take n).map (V.emb ρ)).length = n := by simp; omega
        have hload := run_loadCells_list (P := E.P) w ⟨b, f + o, none⟩ (((cs.drop o).take n).map (V.emb ρ)) (fun j v hj => by
          rw [add_off]
          simp only [List.getElem?_map, Option.map_eq_some_iff] at hj
          obtain ⟨u, hu, rfl⟩ := hj
          have : cs[o + j]? = some u := by
            rw [List.getElem?_take] at hu
            split at hu
            · rw [List.getElem?_drop] at hu; exact hu
            · cases hu
          have := hcell _ _ this
          rw [← Nat.add_assoc] at this
          exact this)
        rw [hlen] at hload
        simp [Instr.loadAt, Instr.sureAddr, loadVar, run_isAggT ha, run_sizeT hs, hload]
      · cases h
    · rename_i ha
      have := hcell o v h
      refine ⟨?_, ltL_get hl h⟩
      simp [Instr.loadAt, Instr.sureAddr, loadVar, run_isAggT ha, this]
    · cases h

/-! ### Writing cells -/

theorem setRow_z (w : World) (g : Nat) (C : Array Value) (e : TypeId) (z : Nat × Nat) (C' : Array Value) (hg : w.heap[g]? = some (.cells C e z)) :
    (w.setRow g C').heap[g]? = some (.cells C' e z) := setRow_heap w g C C' e z hg

theorem run_storeCells_free (g o : Nat) (e : TypeId) (z : Nat × Nat) : ∀ (vs : List Value) (i : Nat) (C : Array Value) (w : World), w.heap[g]? = some (.cells C e z) → o + i + vs.length ≤ C.size →
    free z (o + i) (o + i + vs.length) → (∀ v ∈ vs, v.oneCell' = true) →
    (storeCells ⟨g, o, none⟩ vs i).run P w = .ok () (w.setRow g (C.toList.take (o + i) ++ vs ++ C.toList.drop (o + i + vs.length)).toArray)
  | [], i, C, w, hg, _, _, _ => by
    simp only [storeCells, List.append_nil, List.length_nil, Nat.add_zero, List.take_append_drop, Array.toArray_toList]
    rw [setRow_self w g C e z hg]
    rfl
  | v :: rest, i, C, w, hg, hl, hz, h1 => by
    have hi : o + i < C.size := by simp at hl; omega
    have hcell : w.cell? ⟨g, o + i, none⟩ = some C[o + i] := by simp [World.cell?, hg, hi]
    have hfro : w.frozen? ⟨g, o + i, none⟩ = false := by
      have := hz (o + i) (Nat.le_refl _) (by simp)
      simp only [World.frozen?, hg]
      simp only [Bool.and_eq_false_iff, decide_eq_false_iff_not]
      omega
    have hst : (store ((⟨g, o, none⟩ : Addr).add i) v).run P w = .ok () (w.setRow g (C.setIfInBounds (o + i) v)) := by
      rw [add_off, run_store P w _ v _ (h1 v (by simp)), hcell]
      simp [hfro, setCell_eq_setRow w g (o + i) C e z v hg]
    have ih := run_storeCells_free g o e z rest (i + 1) (C.setIfInBounds (o + i) v) (w.setRow g (C.setIfInBounds (o + i) v)) (setRow_heap w g C _ e _ hg) (by simp at hl ⊢; omega)
      (fun j h1 h2 => hz j (by omega) (by simp at h2 ⊢; omega)) (fun x hx => h1 x (by simp [hx]))
    simp only [storeCells, Sem.run_bind, hst, Result.andThen_ok, ih, setRow_setRow]
    congr 3
    have e := list_seg_step C.toList (o + i) v rest (by simp at hl ⊢; omega)
    simpa [Array.toList_setIfInBounds, Nat.add_assoc] using e

theorem getElem?_splice (l vs : List V) (o i : Nat) (h : o + vs.length ≤ l.length) :
    (l.take o ++ vs ++ l.drop (o + vs.length))[i]? = if o ≤ i ∧ i < o + vs.length then vs[i - o]? else l[i]? := by
  have h1 : (l.take o).length = o := by simp; omega
  by_cases hi : i < o
  · rw [if_neg (by omega), List.append_assoc, List.getElem?_append_left (by omega), List.getElem?_take, if_pos hi]
  · by_cases hi2 : i < o + vs.length
    · rw [if_pos ⟨by omega, hi2⟩, List.append_assoc, List.getElem?_append_right (by omega), h1, List.getElem?_append_left (by omega)]
    · rw [if_neg (by omega), List.getElem?_append_right (by simp; omega), List.getElem?_drop]
      congr 1
      simp
      omega

theorem getElem?_spliceA (C : Array Value) (vs : List Value) (o i : Nat) (h : o + vs.length ≤ C.size) :
    (C.toList.take o ++ vs ++ C.toList.drop (o + vs.length)).toArray[i]? = if o ≤ i ∧ i < o + vs.length then vs[i - o]? else C[i]? := by
  have h1 : (C.toList.take o).length = o := by simp; omega
  rw [List.getElem?_toArray]
  by_cases hi : i < o
  · rw [if_neg (by omega), List.append_assoc, List.getElem?_append_left (by omega), List.getElem?_take, if_pos hi, Array.getElem?_toList]
  · by_cases hi2 : i < o + vs.length
    · rw [if_pos ⟨by omega, hi2⟩, List.append_assoc, List.getElem?_append_right (by omega), h1, List.getElem?_append_left (by omega)]
    · rw [if_neg (by omega), List.getElem?_append_right (by simp; omega), List.getElem?_drop, Array.getElem?_toList]
      congr 1
      simp
      omega

theorem size_spliceA (C : Array Value) (vs : List Value) (o : Nat) (h : o + vs.length ≤ C.size) : (C.toList.take o ++ vs ++ C.toList.drop (o + vs.length)).toArray.size = C.size := by
  simp
  omega

theorem mem_splice {l vs : List V} {o n : Nat} {v : V} (h : v ∈ l.take o ++ vs ++ l.drop n) : v ∈ l ∨ v ∈ vs := by
  rcases List.mem_append.1 h with h | h
  · rcases List.mem_append.1 h with h | h
    · exact .inl (List.mem_of_mem_take h)
    · exact .inr h
  · exact .inl (List.mem_of_mem_drop h)

theorem set_same {α : Type} {l : List α} {k : Nat} {x : α} (h : l[k]? = some x) : l.set k x = l := by
  apply List.ext_getElem?
  intro j
  by_cases hj : j = k
  · subst hj
    rw [List.getElem?_set_self (List.getElem?_eq_some_iff.1 h).1, h]
  · rw [List.getElem?_set_ne (Ne.symm hj)]

/-- Cells of a block of one's own, stored. -/
theorem putCells_run (hw : WR E N ρ H w) {wr esc : Nat} {k o : Nat} {vs : List V} {H' : Hp} (hv : ltL H.length vs) (h : putCells ⟨H, wr, esc⟩ k o vs = some H') :
    ∃ w', (storeCells ⟨(ρ k).block, (ρ k).off + o, none⟩ (vs.map (V.emb ρ)) 0).run E.P w = .ok () w' ∧ WR E N ρ H'.objs w' ∧ Goes H ρ w H'.objs ρ w' := by
  unfold putCells at h
  split at h
  · rename_i cs e m hk
    simp only at hk
    split at h
    · rename_i hc
      obtain ⟨hm, hle, hone⟩ := hc
      simp only [Option.some.injEq] at h
      subst h
      have hor := hw.objs k _ hk
      have hown : (AObj.cells cs e m false).own = true := by cases m <;> simp_all [AObj.own]
      obtain ⟨h1, C, z, hC, hcs, hmode⟩ := hor
      have hsz : (ρ k).off + cs.length ≤ C.size ∨ cs.length = 0 := by
        rcases Nat.eq_zero_or_pos cs.length with h0 | h0
        · exact .inr h0
        · have := hcs (cs.length - 1) cs[cs.length - 1] (List.getElem?_eq_getElem _)
          have := (Array.getElem?_eq_some_iff.1 this).1
          exact .inl (by omega)
      have hfree : free z (ρ k).off ((ρ k).off + cs.length) := by
        cases m with
        | ro => exact absurd rfl hm
        | rw => exact hmode.2.1 rfl
        | grown => exact hmode.2.1 rfl
      by_cases hvs : vs = []
      · subst hvs
        refine ⟨w, by simp [storeCells], ?_⟩
        have : (H.set k (.cells (cs.take o ++ [] ++ cs.drop (o + ([] : List V).length)) e m false)) = H := by
          simp
          exact set_same hk
        simp only [Hp.write]
        rw [this]
        exact ⟨hw, Goes.refl H ρ w⟩
      have hpos : 0 < vs.length := List.length_pos_iff.2 hvs
      have hfit : (ρ k).off + o + vs.length ≤ C.size := by omega
      have hrun := run_storeCells_free (P := E.P) (ρ k).block ((ρ k).off + o) e z (vs.map (V.emb ρ)) 0 C w hC (by simpa using hfit)
        (fun i ha hb => hfree i (by omega) (by simp at hb; omega))
        (fun v hv => by
          obtain ⟨u, hu, rfl⟩ := List.mem_map.1 hv
          rw [emb_one]
          exact List.all_eq_true.1 hone u hu)
      simp only [Nat.add_zero] at hrun
      refine ⟨_, hrun, ?_⟩
      have hsplice : ((ρ k).off + o) + (vs.map (V.emb ρ)).length ≤ C.size := by simpa using hfit
      refine hw.write hk hown rfl rfl rfl (by simp) (fun b hb => setRow_other w _ b _ hb) ?_ ?_
      · intro v hv'
        rcases mem_splice hv' with h | h
        · exact hw.vals k _ hk v h
        · exact hv v h
      · refine ⟨fun v hv' => ?_, _, z, setRow_z w _ C e z _ hC, fun i v hi => ?_, ?_⟩
        · rcases mem_splice hv' with h | h
          · exact h1 v h
          · exact List.all_eq_true.1 hone v h
        · rw [getElem?_splice cs vs o i hle] at hi
          rw [getElem?_spliceA C _ _ _ hsplice]
          by_cases hr : o ≤ i ∧ i < o + vs.length
          · rw [if_pos hr] at hi
            rw [if_pos (by simp; omega), List.getElem?_map, show (ρ k).off + i - ((ρ k).off + o) = i - o by omega, hi]
            rfl
          · rw [if_neg hr] at hi
            rw [if_neg (by simp; omega)]
            exact hcs i v hi
        · have hlen : (cs.take o ++ vs ++ cs.drop (o + vs.length)).length = cs.length := by simp; omega
          cases m with
          | ro => exact absurd rfl hm
          | rw => exact ⟨hmode.1, fun _ => by rw [hlen]; exact hmode.2.1 rfl, hmode.2.2.1, by rw [hlen, size_spliceA C _ _ hsplice]; exact hmode.2.2.2⟩
          | grown =>
            obtain ⟨m1, m2, m3, m4, m5, m6, m7, m8⟩ := hmode
            exact ⟨m1, fun _ => by rw [hlen]; exact m2 rfl, by rw [hlen, size_spliceA C _ _ hsplice]; exact m3, by rw [size_spliceA C _ _ hsplice]; exact m4, by rw [hlen]; exact m5, m6, m7, m8⟩
    · cases h
  · cases h

theorem storeV_run (hw : WR E N ρ H w) {wr esc : Nat} {t : TypeId} {p v : V} {H' : Hp} (hv : v.lt H.length = true) (h : storeV E t ⟨H, wr, esc⟩ p v = some H') :
    ∃ w', (Instr.storeAt t (p.emb ρ) (v.emb ρ)).run E.P w = .ok () w' ∧ WR E N ρ H'.objs w' ∧ Goes H ρ w H'.objs ρ w' := by
  unfold storeV at h
  split at h
  · rename_i k o
    split at h
    · rename_i hs
      obtain ⟨w', h1, h2⟩ := putCells_run hw (ltL_cells hv) h
      refine ⟨w', ?_, h2⟩
      have hc := emb_cells ρ v
      simp [Instr.storeAt, Instr.sureAddr, storeVar, hc, run_sizeT hs, h1]
    · cases h
  · cases h

/-- A new row of cells. -/
theorem newCells_run (hw : WR E N ρ H w) {wr esc : Nat} {cs : List V} {e : TypeId} {H' : Hp} (hv : ltL H.length cs) (h : newCells ⟨H, wr, esc⟩ cs e .rw = some H') (sz : Nat) :
    (newRow e (cs.map (V.emb ρ)).toArray).run E.P w = .ok ⟨w.heap.size, 0, none⟩ (w.alloc (.cells (cs.map (V.emb ρ)).toArray e)) ∧
    WR E N (upd ρ H.length ⟨w.heap.size, 0, cs.length, sz⟩) H'.objs (w.alloc (.cells (cs.map (V.emb ρ)).toArray e)) ∧
    Goes H ρ w H'.objs (upd ρ H.length ⟨w.heap.size, 0, cs.length, sz⟩) (w.alloc (.cells (cs.map (V.emb ρ)).toArray e)) ∧ H'.objs.length = H.length + 1 := by
  unfold newCells at h
  split at h
  · rename_i hone
    simp only [Option.some.injEq] at h
    subst h
    refine ⟨by simp [newRow], ?_⟩
    have := hw.new (w' := w.alloc (.cells (cs.map (V.emb ρ)).toArray e)) (.cells cs e .rw false) ⟨w.heap.size, 0, cs.length, sz⟩ (by simp) (fun b hb => RowKit.Below.heap_alloc w _ b hb) rfl rfl rfl rfl hv
      (fun ρ' hρ' => ⟨fun v hv' => List.all_eq_true.1 hone v hv', (cs.map (V.emb ρ)).toArray, (0, 0), heap_alloc_new w _, fun i v hi => by simp [hi, emb_lt (ltL_get hv hi) hρ'],
        hw.low, (fun _ i _ _ hz => by simp at hz), rfl, by simp⟩)
    exact ⟨this.1, this.2, by simp [Hp.new]⟩
  · cases h

end Go.Am
