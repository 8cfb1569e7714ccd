/-
  Each operation of the evaluator is one of the model's: what is stored into maps, conversions, append, copy, iterators.
-/
import Derived.Test.YthmmpfaghmoenaaDoorAmOps4
namespace Go.Am
open Go

variable {P : Program} {E : Env} {N : Nat} {ρ : Nat → Loc} {H : List AObj} {w : World}

/-! ### Maps that are written -/

theorem findV_at {key : V} : ∀ (es : List Ent) (i j : Nat) (v : V), findV key es i = some (some (j, v)) → ∃ e, i ≤ j ∧ es[j - i]? = some e ∧ sameKey key e.key = some true
  | [], i, j, v, h => by simp [findV] at h
  | e :: es, i, j, v, h => by
    simp only [findV] at h
    split at h
    · rename_i hs
      simp only [Option.some.injEq, Prod.mk.injEq] at h
      obtain ⟨rfl, rfl⟩ := h
      exact ⟨e, Nat.le_refl _, by simp, hs⟩
    · obtain ⟨e', h1, h2, h3⟩ := findV_at es _ j v h
      refine ⟨e', by omega, ?_, h3⟩
      rw [show j - i = (j - (i + 1)) + 1 by omega, List.getElem?_cons_succ]
      exact h2
    · cases h

theorem sameBits_of (ρ : Nat → Loc) (m : Nat) {a b : V} (h : sameKey a b = some true) : Instr.sameBits m (b.emb ρ) (a.emb ρ) = true := by
  unfold sameKey at h
  split at h
  · split at h
    · rename_i k x k' y hk
      subst hk
      simp only [Option.some.injEq, beq_iff_eq] at h
      subst h
      cases m <;> simp [Instr.sameBits]
    · cases h
  · simp only [Option.some.injEq, beq_iff_eq] at h
    subst h
    cases m <;> simp [Instr.sameBits, str_beq]
  · simp only [Option.some.injEq, beq_iff_eq] at h
    subst h
    cases m <;> simp [Instr.sameBits]
  · cases h

theorem modify_emb (es : List Ent) (i : Nat) (key v : V) (ρ : Nat → Loc) :
    ((es.map (Ent.emb ρ)).toArray.modify i fun e => { e with key := key.emb ρ, val := v.emb ρ }) = ((es.modify i fun e => { e with key, val := v }).map (Ent.emb ρ)).toArray := by
  apply Array.ext
  · simp
  · intro j h1 h2
    simp only [Array.getElem_modify, List.getElem_toArray, List.getElem_map, List.getElem_modify]
    split <;> rfl

theorem setObj_run (hw : WR E N ρ H w) {k : Nat} {es es' : List Ent} {c c' : Nat} (hk : H[k]? = some (.map es c)) (hv : ltL H.length (AObj.vals (.map es' c'))) :
    ∃ w', (setObj (ρ k).block (.map (es'.map (Ent.emb ρ)).toArray c')).run E.P w = .ok () w' ∧ WR E N ρ (H.set k (.map es' c')) w' ∧ Goes H ρ w (H.set k (.map es' c')) ρ w' := by
  have hb := (hw.objs k _ hk).1
  have hge := (hw.objs k _ hk).2
  have hlt : (ρ k).block < w.heap.size := (Array.getElem?_eq_some_iff.1 hb).1
  refine ⟨{ w with heap := w.heap.setIfInBounds (ρ k).block (.map (es'.map (Ent.emb ρ)).toArray c') }, by simp [setObj, Sem.run, hb], ?_⟩
  refine hw.write hk rfl rfl rfl rfl (by simp) (fun b hb' => ?_) hv ⟨?_, hge⟩
  · show (w.heap.setIfInBounds _ _)[b]? = _
    rw [Array.getElem?_setIfInBounds_ne (Ne.symm hb')]
  · show (w.heap.setIfInBounds _ _)[_]? = _
    rw [Array.getElem?_setIfInBounds_self_of_lt hlt]

theorem plainKey_lt {kt : TypeId} {key : V} (h : plainKey P kt key = true) (n : Nat) : key.lt n = true := by
  unfold plainKey at h
  split at h <;> first | rfl | cases h

theorem mapSetV_run (hw : WR E N ρ H w) {wr esc : Nat} {t : TypeId} {m key v : V} {H' : Hp} (hkey : key.lt H.length = true) (hv : v.lt H.length = true) (h : mapSetV E.P t m key v ⟨H, wr, esc⟩ = some H') :
    ∃ w', (Instr.mapUpdate t (m.emb ρ) (key.emb ρ) (v.emb ρ)).run E.P w = .ok () w' ∧ WR E N ρ H'.objs w' ∧ Goes H ρ w H'.objs ρ w' := by
  unfold mapSetV at h
  split at h
  · rename_i kt vt k hu
    split at h
    · rename_i es clock hk
      simp only at hk
      have hvals := hw.vals k _ hk
      split at h
      · rename_i i u hfk0
        split at h
        · rename_i hp
          have hf : findV key es 0 = some (some (i, u)) := by unfold findK at hfk0; rwa [if_pos hp] at hfk0
          simp only [Option.some.injEq] at h
          subst h
          obtain ⟨e0, _, hi, hsame⟩ := findV_at es 0 i u hf
          simp only [Nat.sub_zero] at hi
          have hv' : ltL H.length (AObj.vals (.map (es.modify i fun e => { e with key, val := v }) clock)) := by
            intro x hx
            rcases List.mem_append.1 hx with hx | hx
            · obtain ⟨e, he, rfl⟩ := List.mem_map.1 hx
              obtain ⟨j, hj⟩ := List.mem_iff_getElem?.1 he
              rw [List.getElem?_modify] at hj
              obtain ⟨e', he', rfl⟩ := Option.map_eq_some_iff.1 hj
              split
              · exact hkey
              · exact hvals _ (List.mem_append.2 (.inl (List.mem_map.2 ⟨e', List.mem_of_getElem? he', rfl⟩)))
            · obtain ⟨e, he, rfl⟩ := List.mem_map.1 hx
              obtain ⟨j, hj⟩ := List.mem_iff_getElem?.1 he
              rw [List.getElem?_modify] at hj
              obtain ⟨e', he', rfl⟩ := Option.map_eq_some_iff.1 hj
              split
              · exact hv
              · exact hvals _ (List.mem_append.2 (.inr (List.mem_map.2 ⟨e', List.mem_of_getElem? he', rfl⟩)))
          obtain ⟨w', h1, h2⟩ := setObj_run hw hk hv'
          refine ⟨w', ?_, h2⟩
          have hfk := findKey_run hp ρ w hf
          have hsb := sameBits_of ρ 10000 hsame
          simp only [Instr.mapUpdate, Sem.run_bind, run_underlying hu, Result.andThen_ok, emb_map, getObj_run hw hk]
          rw [show (10000 : Nat) = 9999 + 1 from rfl, checkKey_run hp, Result.andThen_ok, hfk]
          simp only [Option.map_some, Result.andThen_ok, Sem.run_bind, List.getElem?_toArray, List.getElem?_map, hi, Option.getD_some, Instr.keyThatStays]
          rw [show (Ent.emb ρ e0).key = e0.key.emb ρ from rfl, hsb]
          simp only [if_true, Sem.run_pure, Result.andThen_ok]
          rw [← modify_emb] at h1
          exact h1
        · cases h
      · rename_i hf
        simp only [Option.some.injEq] at h
        subst h
        have hv' : ltL H.length (AObj.vals (.map (es ++ [{ key, val := v, born := clock }]) (clock + 1))) := by
          intro x hx
          rcases List.mem_append.1 hx with hx | hx
          · obtain ⟨e, he, rfl⟩ := List.mem_map.1 hx
            rcases List.mem_append.1 he with he | he
            · exact hvals _ (List.mem_append.2 (.inl (List.mem_map.2 ⟨e, he, rfl⟩)))
            · rw [List.mem_singleton.1 he]; exact hkey
          · obtain ⟨e, he, rfl⟩ := List.mem_map.1 hx
            rcases List.mem_append.1 he with he | he
            · exact hvals _ (List.mem_append.2 (.inr (List.mem_map.2 ⟨e, he, rfl⟩)))
            · rw [List.mem_singleton.1 he]; exact hv
        obtain ⟨w', h1, h2⟩ := setObj_run hw hk hv'
        refine ⟨w', ?_, h2⟩
        have hfk := findK_run ρ w hf false
        simp only [Instr.mapUpdate, Sem.run_bind, run_underlying hu, Result.andThen_ok, emb_map, getObj_run hw hk]
        rw [hfk.1, Result.andThen_ok, hfk.2]
        simp only [Option.map_none, Result.andThen_ok, List.push_toArray]
        simp only [List.map_append, List.map_cons, List.map_nil] at h1
        exact h1
      · cases h
    · cases h
  · cases h

theorem modify_key (es : List Ent) (i : Nat) (key : V) (ρ : Nat → Loc) :
    ((es.map (Ent.emb ρ)).toArray.modify i fun e => { e with key := key.emb ρ }) = ((es.modify i fun e => { e with key }).map (Ent.emb ρ)).toArray := by
  apply Array.ext
  · simp
  · intro j h1 h2
    simp only [Array.getElem_modify, List.getElem_toArray, List.getElem_map, List.getElem_modify]
    split <;> rfl

theorem modify_val (es : List Ent) (i : Nat) (v : V) (ρ : Nat → Loc) :
    ((es.map (Ent.emb ρ)).toArray.modify i fun e => { e with val := v.emb ρ }) = ((es.modify i fun e => { e with val := v }).map (Ent.emb ρ)).toArray := by
  apply Array.ext
  · simp
  · intro j h1 h2
    simp only [Array.getElem_modify, List.getElem_toArray, List.getElem_map, List.getElem_modify]
    split <;> rfl

theorem mapEntryV_run (hw : WR E N ρ H w) {wr esc : Nat} {t : TypeId} {m key : V} {r : R} {H' : Hp} (hkey : key.lt H.length = true) (h : mapEntryV E.P t m key ⟨H, wr, esc⟩ = some (r, H')) :
    ∃ v, r = .val v ∧ v.lt H'.objs.length = true ∧ ∃ w', (Instr.mapEntry t (m.emb ρ) (key.emb ρ)).run E.P w = .ok (v.emb ρ) w' ∧ WR E N ρ H'.objs w' ∧ Goes H ρ w H'.objs ρ w' := by
  unfold mapEntryV at h
  split at h
  · rename_i kt vt k hu
    split at h
    · rename_i hp
      split at h
      · rename_i es clock z hk hz
        simp only at hk
        have hvals := hw.vals k _ hk
        have hz' := run_zeroT hz ρ w
        split at h
        · rename_i i u hf
          split at h
          · rename_i e0' he0
            simp only [Option.some.injEq, Prod.mk.injEq] at h
            obtain ⟨rfl, rfl⟩ := h
            obtain ⟨e0, _, hi, hsame⟩ := findV_at es 0 i u hf
            simp only [Nat.sub_zero] at hi
            rw [hi] at he0
            simp only [Option.some.injEq] at he0
            subst he0
            have hv' : ltL H.length (AObj.vals (.map (es.modify i fun e => { e with key }) clock)) := by
              intro x hx
              rcases List.mem_append.1 hx with hx | hx
              · obtain ⟨e, he, rfl⟩ := List.mem_map.1 hx
                obtain ⟨j, hj⟩ := List.mem_iff_getElem?.1 he
                rw [List.getElem?_modify] at hj
                obtain ⟨e', he', rfl⟩ := Option.map_eq_some_iff.1 hj
                split
                · exact hkey
                · exact hvals _ (List.mem_append.2 (.inl (List.mem_map.2 ⟨e', List.mem_of_getElem? he', rfl⟩)))
              · obtain ⟨e, he, rfl⟩ := List.mem_map.1 hx
                obtain ⟨j, hj⟩ := List.mem_iff_getElem?.1 he
                rw [List.getElem?_modify] at hj
                obtain ⟨e', he', rfl⟩ := Option.map_eq_some_iff.1 hj
                have : e'.val.lt H.length = true := hvals _ (List.mem_append.2 (.inr (List.mem_map.2 ⟨e', List.mem_of_getElem? he', rfl⟩)))
                split <;> exact this
            obtain ⟨w', h1, h2⟩ := setObj_run hw hk hv'
            obtain ⟨eu, heu, rfl⟩ := findV_mem es 0 i u hf
            have hul : eu.val.lt H.length = true := hvals _ (List.mem_append.2 (.inr (List.mem_map.2 ⟨eu, heu, rfl⟩)))
            refine ⟨_, rfl, ?_, w', ?_, h2⟩
            · simp only [Hp.write, List.length_set]
              exact (lt_tup _ _).2 (ltL_cons.2 ⟨hul, ltL_cons.2 ⟨rfl, ltL_nil _⟩⟩)
            have hfk := findKey_run hp ρ w hf
            have hsb := sameBits_of ρ 10000 hsame
            simp only [Instr.mapEntry, Sem.run_bind, run_underlying hu, Result.andThen_ok, emb_map, getObj_run hw hk]
            rw [show (10000 : Nat) = 9999 + 1 from rfl, checkKey_run hp, Result.andThen_ok, hfk]
            simp only [Option.map_some, Result.andThen_ok, Sem.run_bind, List.getElem?_toArray, List.getElem?_map, hi, Option.getD_some, Instr.keyThatStays]
            rw [show (Ent.emb ρ e0).key = e0.key.emb ρ from rfl, hsb]
            simp only [if_true, Sem.run_pure, Result.andThen_ok]
            rw [← modify_key] at h1
            rw [h1]
            simp [Ent.emb, goInt]
          · cases h
        · rename_i hf
          simp only [Option.some.injEq, Prod.mk.injEq] at h
          obtain ⟨rfl, rfl⟩ := h
          have hv' : ltL H.length (AObj.vals (.map (es ++ [{ key, val := z, born := clock }]) (clock + 1))) := by
            intro x hx
            rcases List.mem_append.1 hx with hx | hx
            · obtain ⟨e, he, rfl⟩ := List.mem_map.1 hx
              rcases List.mem_append.1 he with he | he
              · exact hvals _ (List.mem_append.2 (.inl (List.mem_map.2 ⟨e, he, rfl⟩)))
              · rw [List.mem_singleton.1 he]; exact hkey
            · obtain ⟨e, he, rfl⟩ := List.mem_map.1 hx
              rcases List.mem_append.1 he with he | he
              · exact hvals _ (List.mem_append.2 (.inr (List.mem_map.2 ⟨e, he, rfl⟩)))
              · rw [List.mem_singleton.1 he]; exact lt_flat hz'.2 _
          obtain ⟨w', h1, h2⟩ := setObj_run hw hk hv'
          refine ⟨_, rfl, ?_, w', ?_, h2⟩
          · exact (lt_tup _ _).2 (ltL_cons.2 ⟨lt_flat hz'.2 _, ltL_cons.2 ⟨rfl, ltL_nil _⟩⟩)
          have hfk := findKey_run hp ρ w hf
          simp only [Instr.mapEntry, Sem.run_bind, run_underlying hu, Result.andThen_ok, emb_map, getObj_run hw hk]
          rw [show (10000 : Nat) = 9999 + 1 from rfl, checkKey_run hp, Result.andThen_ok, hfk]
          simp only [Option.map_none, Result.andThen_ok, Sem.run_bind, hz'.1, List.push_toArray]
          simp only [List.map_append, List.map_cons, List.map_nil] at h1
          simp only [Ent.emb] at h1 ⊢
          rw [h1]
          simp [goInt]
        · cases h
      · cases h
    · cases h
  · cases h

theorem findIdx_emb (ρ : Nat → Loc) (b : Int) : ∀ es : List Ent, (es.map (Ent.emb ρ)).findIdx? (fun e => (e.born : Int) == b) = es.findIdx? (fun e => (e.born : Int) == b)
  | [] => rfl
  | e :: es => by simp only [List.map_cons, List.findIdx?_cons, findIdx_emb ρ b es]; rfl

theorem entryStoreV_run (hw : WR E N ρ H w) {wr esc : Nat} {t : TypeId} {m stamp v : V} {H' : Hp} (hv : v.lt H.length = true) (h : entryStoreV m stamp v ⟨H, wr, esc⟩ = some H') :
    ∃ w', (Instr.entryStore t (m.emb ρ) (stamp.emb ρ) (v.emb ρ)).run E.P w = .ok () w' ∧ WR E N ρ H'.objs w' ∧ Goes H ρ w H'.objs ρ w' := by
  unfold entryStoreV at h
  split at h
  · rename_i k ki b
    split at h
    · rename_i es clock hk
      simp only at hk
      have hvals := hw.vals k _ hk
      split at h
      · rename_i i hi
        simp only [Option.some.injEq] at h
        subst h
        have hv' : ltL H.length (AObj.vals (.map (es.modify i fun e => { e with val := v }) clock)) := by
          intro x hx
          rcases List.mem_append.1 hx with hx | hx
          · obtain ⟨e, he, rfl⟩ := List.mem_map.1 hx
            obtain ⟨j, hj⟩ := List.mem_iff_getElem?.1 he
            rw [List.getElem?_modify] at hj
            obtain ⟨e', he', rfl⟩ := Option.map_eq_some_iff.1 hj
            have : e'.key.lt H.length = true := hvals _ (List.mem_append.2 (.inl (List.mem_map.2 ⟨e', List.mem_of_getElem? he', rfl⟩)))
            split <;> exact this
          · obtain ⟨e, he, rfl⟩ := List.mem_map.1 hx
            obtain ⟨j, hj⟩ := List.mem_iff_getElem?.1 he
            rw [List.getElem?_modify] at hj
            obtain ⟨e', he', rfl⟩ := Option.map_eq_some_iff.1 hj
            split
            · exact hv
            · exact hvals _ (List.mem_append.2 (.inr (List.mem_map.2 ⟨e', List.mem_of_getElem? he', rfl⟩)))
        obtain ⟨w', h1, h2⟩ := setObj_run hw hk hv'
        refine ⟨w', ?_, h2⟩
        have e1 : ((es.map (Ent.emb ρ)).toArray.findIdx? fun e => (e.born : Int) == b) = some i := by
          rw [← hi, ← findIdx_emb ρ b es]
          simp
        simp only [Instr.entryStore, Sem.run_bind, emb_map, emb_int, getObj_run hw hk, Result.andThen_ok, asInt, asIntOf, Sem.run_pure, e1]
        rw [← modify_val] at h1
        exact h1
      · cases h
    · cases h
  · cases h

/-! ### Texts -/

theorem encode_run (n : Int) : Utf8.encode n = ⟨⟨encode n⟩⟩ := by
  unfold Utf8.encode encode
  simp only
  generalize (if Utf8.valid n = true then n.toNat else Utf8.runeError) = c
  by_cases h1 : c < 0x80 <;> by_cases h2 : c < 0x800 <;> by_cases h3 : c < 0x10000 <;> simp [h1, h2, h3]

theorem get!_str (l : List UInt8) (i : Nat) : (⟨⟨l⟩⟩ : ByteArray).get! i = l.getD i 0 := by
  simp [ByteArray.get!, List.getD]
  rfl

theorem decode_run (s : List UInt8) (pos : Nat) (h : pos < s.length) : Utf8.decode ⟨⟨s⟩⟩ pos = decode (s.drop pos) := by
  obtain ⟨a, r, hr⟩ : ∃ a r, s.drop pos = a :: r := by
    cases hd : s.drop pos with
    | nil => have := List.drop_eq_nil_iff.1 hd; omega
    | cons a r => exact ⟨a, r, rfl⟩
  have hlen : s.length = pos + 1 + r.length := by
    have := congrArg List.length hr
    simp at this
    omega
  have h0 : s.getD (pos + 0) 0 = a := by
    have := congrArg (fun l => l[0]?) hr
    simp only [List.getElem?_drop, List.getElem?_cons_zero, Nat.add_zero] at this
    simp [List.getD, this]
  have hk : ∀ k, s.getD (pos + (k + 1)) 0 = r.getD k 0 := fun k => by
    have := congrArg (fun l => l[k + 1]?) hr
    simp only [List.getElem?_drop, List.getElem?_cons_succ] at this
    simp [List.getD, this]
  have hc : ∀ k, decide (pos + (k + 1) < (⟨⟨s⟩⟩ : ByteArray).size) = decide (k + 1 ≤ r.length) := fun k => by
    rw [str_size, hlen]
    congr 1
    apply propext
    omega
  rw [hr]
  unfold Utf8.decode decode
  simp only [get!_str, h0, hk 0, hk 1, hk 2, hc 0, hc 1, hc 2]

theorem runesFrom_run (s : List UInt8) : ∀ (b i : Nat) (acc : List Value), Conv.runesFrom ⟨⟨s⟩⟩ b i acc.toArray = (acc ++ (runes b (s.drop i)).map fun r => Value.int .i32 (Int.ofNat r)).toArray
  | 0, i, acc => by simp [Conv.runesFrom, runes]
  | b + 1, i, acc => by
    simp only [Conv.runesFrom, str_size]
    by_cases hi : i < s.length
    · rw [if_pos hi, decode_run s i hi]
      have := runesFrom_run s b (i + (decode (s.drop i)).2) (acc ++ [Value.int .i32 (Int.ofNat (decode (s.drop i)).1)])
      simp only [List.push_toArray]
      rw [this]
      obtain ⟨a, r, hr⟩ : ∃ a r, s.drop i = a :: r := by
        cases hd : s.drop i with
        | nil => have := List.drop_eq_nil_iff.1 hd; omega
        | cons a r => exact ⟨a, r, rfl⟩
      have : runes (b + 1) (s.drop i) = (decode (s.drop i)).1 :: runes b ((s.drop i).drop (decode (s.drop i)).2) := by
        rw [hr]; rfl
      rw [this, List.drop_drop]
      simp
    · rw [if_neg hi]
      have : s.drop i = [] := List.drop_eq_nil_iff.2 (by omega)
      rw [this]
      simp [runes]

theorem bytesOf_run : ∀ (cs : List V) (s : List UInt8), bytesOf cs = some s → ∀ ρ : Nat → Loc, ∃ ns : List Int, cs.map (V.emb ρ) = ns.map (Value.int .u8) ∧ s = ns.map fun n => UInt8.ofNat n.toNat
  | [], s, h, ρ => by simp only [bytesOf, Option.some.injEq] at h; subst h; exact ⟨[], rfl, rfl⟩
  | .int .u8 n :: r, s, h, ρ => by
    simp only [bytesOf, Option.map_eq_some_iff] at h
    obtain ⟨s', hs, rfl⟩ := h
    obtain ⟨ns, h1, h2⟩ := bytesOf_run r s' hs ρ
    exact ⟨n :: ns, by simp [h1], by simp [h2]⟩

theorem runesOf_run : ∀ (cs : List V) (s : List UInt8), runesOf cs = some s → ∀ ρ : Nat → Loc, ∃ ns : List Int, cs.map (V.emb ρ) = ns.map (Value.int .i32) ∧ s = ns.flatMap encode
  | [], s, h, ρ => by simp only [runesOf, Option.some.injEq] at h; subst h; exact ⟨[], rfl, rfl⟩
  | .int .i32 n :: r, s, h, ρ => by
    simp only [runesOf, Option.map_eq_some_iff] at h
    obtain ⟨s', hs, rfl⟩ := h
    obtain ⟨ns, h1, h2⟩ := runesOf_run r s' hs ρ
    exact ⟨n :: ns, by simp [h1], by simp [h2]⟩

theorem foldl_push (ns : List Int) : ∀ s : List UInt8, ns.foldl (fun (r : ByteArray) n => r.push (UInt8.ofNat n.toNat)) ⟨⟨s⟩⟩ = ⟨⟨s ++ ns.map fun n => UInt8.ofNat n.toNat⟩⟩ := by
  induction ns with
  | nil => intro s; simp
  | cons n r ih =>
    intro s
    simp only [List.foldl_cons]
    rw [show (⟨⟨s⟩⟩ : ByteArray).push (UInt8.ofNat n.toNat) = ⟨⟨s ++ [UInt8.ofNat n.toNat]⟩⟩ by
      apply ByteArray.ext; apply Array.ext'; simp, ih]
    simp

theorem run_forIn_runes {P : Program} {w : World} (f : Value → ByteArray → Sem (ForInStep ByteArray))
    (hf : ∀ (n : Int) (r : ByteArray), (f (.int .i32 n) r).run P w = .ok (.yield (r ++ Utf8.encode n)) w) :
    ∀ (ns : List Int) (s : List UInt8), (forIn (ns.map (Value.int .i32)) (⟨⟨s⟩⟩ : ByteArray) f).run P w = .ok ⟨⟨s ++ ns.flatMap encode⟩⟩ w := by
  intro ns
  induction ns with
  | nil => intro s; simp [Sem.run_pure]
  | cons n ns ih =>
    intro s
    simp only [List.map_cons, List.forIn_cons, Sem.run_bind, hf, Result.andThen]
    rw [encode_run, str_append, ih]
    simp

theorem run_runesToString {P : Program} (w : World) (a : Addr) (len cap : Nat) (ns : List Int)
    (h : (loadCells a len).run P w = .ok (ns.map (Value.int .i32)).toArray w) :
    (Conv.runesToString (.slice (some a) len cap)).run P w = .ok (.string ⟨⟨ns.flatMap encode⟩⟩) w := by
  unfold Conv.runesToString
  simp only [Sem.run_bind, h, Result.andThen, List.forIn_toArray]
  rw [show (ByteArray.empty : ByteArray) = ⟨⟨[]⟩⟩ from rfl, run_forIn_runes _ (by intro n r; simp [Sem.run_pure])]
  simp [Sem.run_pure]

end Go.Am
