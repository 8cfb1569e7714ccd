/-
  Each operation of the evaluator is one of the model's: slices, indexes, fields, keys, conversions.
-/
import Derived.Test.YthmmpfaghmoenaaDoorAmOps3
namespace Go.Am
open Go

variable {P : Program} {E : Env} {N : Nat} {ρ : Nat → Loc} {H : List AObj} {w : World}

theorem str_extract (s : List UInt8) (l h : Nat) : (⟨⟨s⟩⟩ : ByteArray).extract l h = ⟨⟨(s.drop l).take (h - l)⟩⟩ := by
  have := ByteArray.extract_mk s l h
  exact this

theorem sub_mul_div' (a o l n : Nat) (_hn : 0 < n) : (a - (o + l * n)) / n = (a - o) / n - l := by
  rw [← Nat.sub_sub, Nat.mul_comm l n, Nat.sub_mul_div]

theorem le_div_of {a o l n : Nat} (hn : 0 < n) (h : o + l * n ≤ a) : l ≤ (a - o) / n := by
  rw [Nat.le_div_iff_mul_le hn]
  omega

/-- What is known of a block that has grown. -/
theorem OR.grown {l : Loc} {cs : List V} {e : TypeId} {fz : Bool} (h : OR P N ρ w l (.cells cs e .grown fz)) {n : Nat} (hn : sizeT P e = some n) : 0 < n ∧ l.sz = n ∧ cs.length ≤ l.ext := by
  obtain ⟨_, C, z, _, _, _, _, _, _, h5, h6, h7, _⟩ := h
  rw [hn] at h6
  have : n = l.sz := Option.some.inj h6
  exact ⟨this ▸ h7, this.symm, h5⟩

theorem sliceV_run (hw : WR E N ρ H w) {wr esc : Nat} {t : TypeId} {x v : V} {lo hi mx : Option V} {lo' hi' mx' : Option Nat} (hx : x.lt H.length = true)
    (h1 : natV lo = some lo') (h2 : natV hi = some hi') (h3 : natV mx = some mx') (h : sliceV E.P t x lo' hi' mx' ⟨H, wr, esc⟩ = some v) :
    (Instr.sliceAt t (x.emb ρ) (lo.map (V.emb ρ)) (hi.map (V.emb ρ)) (mx.map (V.emb ρ))).run E.P w = .ok (v.emb ρ) w ∧ v.lt H.length = true := by
  unfold sliceV at h
  split at h
  · rename_i s hu
    split at h
    · cases h
    · rename_i hm
      have hmx : mx' = none := by simpa using hm
      subst hmx
      split at h
      · rename_i l hh m hb
        simp only [Option.some.injEq] at h
        subst h
        have hr := run_bounds (P := E.P) (isS := false) h1 h2 h3 hb ρ w
        rcases natV_run h3 with ⟨rfl, _⟩ | ⟨_, _, _, _, h0⟩
        · refine ⟨?_, rfl⟩
          simp only [Option.map_none] at hr
          simp [Instr.sliceAt, Instr.slice, run_underlying hu, str_size, hr.1, str_extract]
        · cases h0
      · cases h
  · rename_i e hu
    split at h
    · rename_i b n hb hn
      simp only [Option.some.injEq] at h
      subst h
      obtain ⟨l, hh, m⟩ := b
      have hr := run_bounds (P := E.P) (isS := true) h1 h2 h3 hb ρ w
      have hl0 : l = 0 ∧ hh = 0 ∧ m = 0 := by omega
      obtain ⟨rfl, rfl, rfl⟩ := hl0
      refine ⟨?_, rfl⟩
      simp only [emb_nils, Instr.sliceAt, Instr.slice, Sem.run_bind, run_underlying hu, Result.andThen_ok, hr.1, run_sizeT hn, Sem.run_pure, if_true]
    · cases h
  · rename_i e k o len c hu
    split at h
    · rename_i l hh m n hb hn
      simp only [Option.some.injEq] at h
      subst h
      have hr := run_bounds (P := E.P) (isS := true) h1 h2 h3 hb ρ w
      refine ⟨?_, by simpa using hx⟩
      simp only [emb_slice_some, Instr.sliceAt, Instr.slice, Sem.run_bind, run_underlying hu, Result.andThen_ok, hr.1, run_sizeT hn, Sem.run_pure]
      congr 1
      split
      · rfl
      · simp [add_off, Nat.add_assoc]
    · cases h
  · rename_i e k o len hu
    split at h
    · rename_i hc
      obtain ⟨hlo, rfl, rfl⟩ := hc
      obtain ⟨n, hn, h⟩ := Option.map_eq_some_iff.1 h
      subst h
      have hb' : bounds len (((ρ k).ext - o) / (ρ k).sz) lo' (some 0) (some 0) = some (0, 0, 0) := by
        unfold bounds
        simp [hlo]
      have hr := run_bounds (P := E.P) (isS := true) h1 h2 h3 hb' ρ w
      refine ⟨?_, by simpa using hx⟩
      simp only [emb_slice_none, emb_slice_some, Instr.sliceAt, Instr.slice, Sem.run_bind, run_underlying hu, Result.andThen_ok, hr.1, run_sizeT hn, Sem.run_pure, if_true, Nat.sub_self]
    split at h
    · rename_i hc
      obtain ⟨hlo, hhi, rfl⟩ := hc
      obtain ⟨n, hn, h⟩ := Option.map_eq_some_iff.1 h
      subst h
      have hb' : bounds len (((ρ k).ext - o) / (ρ k).sz) lo' hi' none = some (0, 0, ((ρ k).ext - o) / (ρ k).sz) := by
        unfold bounds
        simp [hlo, hhi]
      have hr := run_bounds (P := E.P) (isS := true) h1 h2 h3 hb' ρ w
      refine ⟨?_, by simpa using hx⟩
      simp only [emb_slice_none, Instr.sliceAt, Instr.slice, Sem.run_bind, run_underlying hu, Result.andThen_ok, hr.1, run_sizeT hn, Sem.run_pure, Nat.sub_self, Nat.sub_zero]
      congr 1
      split
      · simp
      · simp [add_off]
    split at h
    · rename_i l hh m n cs e' fz hb hn hk
      split at h
      · rename_i hc
        obtain ⟨rfl, hle⟩ := hc
        simp only at hk
        obtain ⟨hpos, hsz, hext⟩ := (hw.objs k _ hk).grown hn
        have hcap : len ≤ ((ρ k).ext - o) / (ρ k).sz := by rw [hsz]; exact le_div_of hpos (by omega)
        cases mx' with
        | none =>
          simp only [Option.isSome_none, Bool.false_eq_true, if_false] at h
          have hr0 := run_bounds (P := E.P) (isS := true) h1 h2 h3 hb ρ w
          have hb' : bounds len (((ρ k).ext - o) / (ρ k).sz) lo' hi' none = some (l, hh, ((ρ k).ext - o) / (ρ k).sz) := by
            unfold bounds at hb ⊢
            simp only [Option.getD_none, Option.isSome_none, Bool.false_eq_true, if_false] at hb ⊢
            split at hb
            · rename_i hc
              simp only [Option.some.injEq, Prod.mk.injEq] at hb
              rw [if_pos (by omega), hb.1, hb.2.1]
            · cases hb
          have hr := run_bounds (P := E.P) (isS := true) h1 h2 h3 hb' ρ w
          split at h
          · rename_i hlt
            simp only [Option.some.injEq] at h
            subst h
            refine ⟨?_, by simpa using hx⟩
            simp only [emb_slice_none, Instr.sliceAt, Instr.slice, Sem.run_bind, run_underlying hu, Result.andThen_ok, hr.1, run_sizeT hn, Sem.run_pure]
            congr 1
            rw [hsz, sub_mul_div' _ _ _ _ hpos]
            rcases hlt with hlt | rfl
            · rw [hsz] at hcap
              rw [if_neg (by omega)]
              simp [add_off, Nat.add_assoc]
            · split
              · simp
              · simp [add_off]
          · cases h
        | some m0 =>
          simp only [Option.isSome_some, if_true, Option.some.injEq] at h
          subst h
          have hb' : bounds len (((ρ k).ext - o) / (ρ k).sz) lo' hi' (some m0) = some (l, hh, m) := by
            unfold bounds at hb ⊢
            simp only [Option.getD_some, Option.isSome_some, if_true] at hb ⊢
            split at hb
            · rename_i hc
              rw [if_pos (by omega)]
              exact hb
            · cases hb
          have hr := run_bounds (P := E.P) (isS := true) h1 h2 h3 hb' ρ w
          refine ⟨?_, by simpa using hx⟩
          simp only [emb_slice_none, emb_slice_some, Instr.sliceAt, Instr.slice, Sem.run_bind, run_underlying hu, Result.andThen_ok, hr.1, run_sizeT hn, Sem.run_pure]
          congr 1
          split
          · rfl
          · simp [add_off, Nat.add_assoc]
      · cases h
    · cases h
  · rename_i n e k o hu
    split at h
    · rename_i l hh m z hb hz
      simp only [Option.some.injEq] at h
      subst h
      have hr := run_bounds (P := E.P) (isS := false) h1 h2 h3 hb ρ w
      refine ⟨?_, by simpa using hx⟩
      simp only [emb_slice_some, emb_ptr, Instr.sliceAt, Instr.sureAddr, Sem.run_bind, run_underlying hu, Result.andThen_ok, hr.1, run_sizeT hz, Sem.run_pure]
      congr 1
      split
      · rfl
      · simp [add_off, Nat.add_assoc]
    · cases h
  · cases h

theorem indexAddrV_run {t : TypeId} {x ix v : V} {n : Nat} (hx : x.lt n = true) (h : indexAddrV P t x ix = some v) (ρ : Nat → Loc) (w : World) :
    (Instr.indexAt t (x.emb ρ) (ix.emb ρ)).run P w = .ok (v.emb ρ) w ∧ v.lt n = true := by
  unfold indexAddrV at h
  split at h
  · rename_i e k o len c kk i hu
    split at h
    · rename_i z hz
      split at h
      · rename_i hi
        simp only [Option.some.injEq] at h
        subst h
        refine ⟨?_, by simpa using hx⟩
        simp only [emb_slice, emb_int, emb_ptr, Instr.indexAt, asIntOf, Sem.run_bind, Sem.run_pure, run_underlying hu, Result.andThen_ok, hi, and_self, if_true, run_sizeT hz, add_off, Nat.add_assoc]
      · cases h
    · cases h
  · rename_i len e k o kk i hu
    split at h
    · rename_i z hz
      split at h
      · rename_i hi
        simp only [Option.some.injEq] at h
        subst h
        refine ⟨?_, by simpa using hx⟩
        simp only [emb_int, emb_ptr, Instr.indexAt, Instr.sureAddr, asIntOf, Sem.run_bind, Sem.run_pure, run_underlying hu, Result.andThen_ok, hi, and_self, if_true, run_sizeT hz, add_off, Nat.add_assoc]
      · cases h
    · cases h
  · rename_i len e k o kk i hu
    split at h
    · rename_i z hz
      split at h
      · rename_i hi
        simp only [Option.some.injEq] at h
        subst h
        refine ⟨?_, rfl⟩
        simp only [emb_int, emb_gptr, Instr.indexAt, Instr.sureAddr, asIntOf, Sem.run_bind, Sem.run_pure, run_underlying hu, Result.andThen_ok, hi, and_self, if_true, run_sizeT hz, add_off]
      · cases h
    · cases h
  · cases h

theorem str_get (s : List UInt8) (i : Nat) : (⟨⟨s⟩⟩ : ByteArray)[i]? = s[i]? := by
  by_cases h : i < s.length
  · rw [ByteArray.getElem?_lt' _ _ h, List.getElem?_eq_getElem h]
    rfl
  · rw [ByteArray.getElem?_ge' _ _ h, List.getElem?_eq_none (by omega)]

theorem indexV_run {t : TypeId} {x ix v : V} {n : Nat} (hx : x.lt n = true) (h : indexV P t x ix = some v) (ρ : Nat → Loc) (w : World) :
    (Instr.index t (x.emb ρ) (ix.emb ρ)).run P w = .ok (v.emb ρ) w ∧ v.lt n = true := by
  unfold indexV at h
  split at h
  · rename_i s k i hu
    split at h
    · rename_i hi
      simp only [Option.map_eq_some_iff] at h
      obtain ⟨b, hb, rfl⟩ := h
      refine ⟨?_, rfl⟩
      simp [Instr.index, asIntOf, run_underlying hu, hi, str_get, hb, byteV]
    · cases h
  · rename_i len e cs k i hu
    split at h
    · rename_i z hz
      split at h
      · rename_i hi
        refine ⟨?_, lt_partV h ((lt_agg _ _).1 hx)⟩
        have := run_partV h ρ w
        simp [Instr.index, asIntOf, run_underlying hu, hi, run_sizeT hz, this]
      · cases h
    · cases h
  · cases h

theorem fieldAddrV_run {s : TypeId} {x v : V} {f n : Nat} (hx : x.lt n = true) (h : fieldAddrV P s x f = some v) (ρ : Nat → Loc) (w : World) :
    (Instr.fieldAt s (x.emb ρ) f).run P w = .ok (v.emb ρ) w ∧ v.lt n = true := by
  unfold fieldAddrV at h
  split at h
  · rename_i fs hu
    split at h
    · rename_i fd hf
      split at h
      · rename_i m k o hs
        simp only [Option.some.injEq] at h
        subst h
        refine ⟨?_, by simpa using hx⟩
        simp [Instr.fieldAt, Instr.sureAddr, run_underlying hu, hf, fieldPlace, run_sizeT hs, add_off, Nat.add_assoc]
      · rename_i m k o hs
        simp only [Option.some.injEq] at h
        subst h
        refine ⟨?_, rfl⟩
        simp [Instr.fieldAt, Instr.sureAddr, run_underlying hu, hf, fieldPlace, run_sizeT hs, add_off]
      · cases h
    · cases h
  · cases h

theorem fieldV_run {t : TypeId} {x v : V} {f n : Nat} (hx : x.lt n = true) (h : fieldV P t x f = some v) (ρ : Nat → Loc) (w : World) :
    (Instr.field t (x.emb ρ) f).run P w = .ok (v.emb ρ) w ∧ v.lt n = true := by
  unfold fieldV at h
  split at h
  · rename_i fs cs hu
    split at h
    · rename_i fd hf
      refine ⟨?_, lt_partV h ((lt_agg _ _).1 hx)⟩
      have := run_partV h ρ w
      simp [Instr.field, run_underlying hu, hf, asAgg, this]
    · cases h
  · cases h

/-! ### Keys -/

/-- A block that nothing is known of. -/
theorem WR.dead (hw : WR E N ρ H w) (l : Loc) : WR E N (upd ρ H.length l) (H ++ [.dead]) w ∧ Goes H ρ w (H ++ [.dead]) (upd ρ H.length l) w := by
  have hext : ∀ k, k < H.length → upd ρ H.length l k = ρ k := fun k hk => upd_lt ρ l hk
  have hget : ∀ (k : Nat) (o' : AObj), (H ++ [AObj.dead])[k]? = some o' → (k < H.length ∧ H[k]? = some o') ∨ (k = H.length ∧ o' = .dead) := fun k o' hk => by
    rcases Nat.lt_trichotomy k H.length with hlt | heq | hgt
    · rw [List.getElem?_append_left hlt] at hk; exact .inl ⟨hlt, hk⟩
    · subst heq
      simp at hk
      exact .inr ⟨rfl, hk.symm⟩
    · rw [List.getElem?_append_right (by omega), List.getElem?_eq_none (by simp; omega)] at hk; cases hk
  refine ⟨⟨hw.low, ?_, ?_, ?_, globs_kept hw (fun _ _ => rfl)⟩, ⟨rfl, rfl, rfl, Nat.le_refl _, fun _ _ _ => rfl, ?_, hext, by simp⟩⟩
  · intro k o' hk
    rw [List.length_append]
    rcases hget k o' hk with ⟨_, hk'⟩ | ⟨_, rfl⟩
    · exact ltL_mono (by simp) (hw.vals k o' hk')
    · exact ltL_nil _
  · intro k o' hk
    rcases hget k o' hk with ⟨hlt, hk'⟩ | ⟨rfl, rfl⟩
    · rw [hext k hlt]
      exact (hw.objs k o' hk').kept (hw.vals k o' hk') hext rfl
    · trivial
  · intro k k' o1 o2 hk hk' h1 h2 hne
    rcases hget k o1 hk with ⟨hlt, hk1⟩ | ⟨rfl, rfl⟩
    · rcases hget k' o2 hk' with ⟨hlt', hk2⟩ | ⟨rfl, rfl⟩
      · rw [hext k hlt, hext k' hlt']; exact hw.inj k k' o1 o2 hk1 hk2 h1 h2 hne
      · cases h2
    · cases h1
  · rintro b _ ⟨k, o', hk, hown, hbk⟩
    rcases hget k o' hk with ⟨hlt, hk1⟩ | ⟨rfl, rfl⟩
    · exact ⟨k, o', hk1, hown, by rw [hext k hlt] at hbk; exact hbk⟩
    · cases hown

theorem sliceEnd_run (hw : WR E N ρ H w) {wr esc : Nat} {t : TypeId} {x : V} {lo hi mx : Option V} {lo' hi' mx' : Option Nat}
    (h1 : natV lo = some lo') (h2 : natV hi = some hi') (h3 : natV mx = some mx') (h : sliceEnd E.P t x lo' hi' mx' ⟨H, wr, esc⟩ = true) :
    ∃ ρ', (Instr.sliceAt t (x.emb ρ) (lo.map (V.emb ρ)) (hi.map (V.emb ρ)) (mx.map (V.emb ρ))).run E.P w = .ok ((V.slice H.length 0 0 none).emb ρ') w ∧ WR E N ρ' (H ++ [.dead]) w ∧ Goes H ρ w (H ++ [.dead]) ρ' w := by
  unfold sliceEnd at h
  split at h
  · rename_i e k o len hu
    split at h
    · rename_i l hh m n cs e' fz hb hn hk
      simp only [Bool.and_eq_true, decide_eq_true_eq] at h
      obtain ⟨hmx, rfl, hpos0, rfl, hle⟩ := h
      simp only at hk
      obtain ⟨hpos, hsz, hext⟩ := (hw.objs k _ hk).grown hn
      have hcap : l ≤ ((ρ k).ext - o) / (ρ k).sz := by rw [hsz]; exact le_div_of hpos (by omega)
      have hmx' : mx' = none := by simpa using hmx
      subst hmx'
      have hhl : hh = l := by
        unfold bounds at hb
        simp only [Option.getD_none, Option.isSome_none, Bool.false_eq_true, if_false] at hb
        split at hb
        · simp only [Option.some.injEq, Prod.mk.injEq] at hb
          omega
        · cases hb
      subst hhl
      have hb' : bounds hh (((ρ k).ext - o) / (ρ k).sz) lo' hi' none = some (hh, hh, ((ρ k).ext - o) / (ρ k).sz) := by
        unfold bounds at hb ⊢
        simp only [Option.getD_none, Option.isSome_none, Bool.false_eq_true, if_false] at hb ⊢
        split at hb
        · rename_i hc
          simp only [Option.some.injEq, Prod.mk.injEq] at hb
          rw [hb.1, hb.2.1, if_pos ⟨Nat.le_refl _, hcap, Nat.le_refl _⟩]
        · cases hb
      have hr := run_bounds (P := E.P) (isS := true) h1 h2 h3 hb' ρ w
      generalize hq : ((ρ k).ext - o) / (ρ k).sz = q at hr hcap
      have hd := hw.dead ⟨(ρ k).block, (if q = hh then (ρ k).off + o else (ρ k).off + o + hh * n), q - hh, 1⟩
      refine ⟨_, ?_, hd.1, hd.2⟩
      simp only [emb_slice_none, hq, Instr.sliceAt, Instr.slice, Sem.run_bind, run_underlying hu, Result.andThen_ok, hr.1, run_sizeT hn, Sem.run_pure, upd_same, Nat.sub_self, Nat.sub_zero, Nat.div_one, Nat.add_zero]
      congr 1
      by_cases hqe : q = hh
      · rw [if_pos hqe, if_pos (by first | exact hqe | omega | exact hqe.symm)]
      · rw [if_neg hqe, if_neg (by first | exact hqe | omega | exact fun h => hqe h.symm)]
        simp [add_off]
    · cases h
  · cases h

theorem str_beq (a b : List UInt8) : ((⟨⟨a⟩⟩ : ByteArray) == ⟨⟨b⟩⟩) = (a == b) := by
  rw [beq_toListBytes, ByteArray.toList_mk, ByteArray.toList_mk]

theorem findV_run {kt : TypeId} {d : TypeDesc} {key : V} (hp : plainKey P kt key = true) (hd : P.underlying kt = some d) (ρ : Nat → Loc) : ∀ (es : List Ent) (i : Nat) (r : Option (Nat × V)), findV key es i = some r →
    Instr.findNow d (key.emb ρ) (es.map (Ent.emb ρ)) i = some (r.map fun p => (p.1, p.2.emb ρ))
  | [], i, r, h => by simp only [findV, Option.some.injEq] at h; subst h; rfl
  | e :: es, i, r, h => by
    simp only [findV] at h
    have hs : ∀ b, sameKey key e.key = some b → Instr.sameNow d (key.emb ρ) (e.key.emb ρ) = some b := by
      intro b hb
      unfold plainKey at hp
      rw [hd] at hp
      split at hp
      · rename_i h0; simp only [Option.some.injEq] at h0; subst h0
        unfold sameKey at hb
        split at hb <;> first | (rename_i e1; simp_all [Instr.sameNow]; done) | simp_all [Instr.sameNow]
      · rename_i h0; simp only [Option.some.injEq] at h0; subst h0
        unfold sameKey at hb
        split at hb <;> simp_all [Instr.sameNow, str_beq]
      · rename_i h0; simp only [Option.some.injEq] at h0; subst h0
        unfold sameKey at hb
        split at hb <;> simp_all [Instr.sameNow]
      · cases hp
    simp only [List.map_cons, Instr.findNow]
    cases hk : sameKey key e.key with
    | none => rw [hk] at h; simp at h
    | some b =>
      rw [hk] at h
      rw [show (Ent.emb ρ e).key = e.key.emb ρ from rfl, hs b hk]
      cases b with
      | true => simp only [Option.some.injEq] at h; subst h; rfl
      | false => exact findV_run hp hd ρ es (i + 1) r h

theorem checkKey_run {kt : TypeId} {key : V} (hp : plainKey P kt key = true) (empty : Bool) (m : Nat) (ρ : Nat → Loc) (w : World) : (Instr.checkKey empty (m + 1) kt (key.emb ρ)).run P w = .ok () w := by
  unfold plainKey at hp
  split at hp
  · rename_i hu; simp [Instr.checkKey, run_underlying hu]
  · rename_i hu; simp [Instr.checkKey, run_underlying hu]
  · rename_i hu; simp [Instr.checkKey, run_underlying hu]
  · cases hp

theorem findKey_run {kt : TypeId} {key : V} (hp : plainKey P kt key = true) (ρ : Nat → Loc) (w : World) {es : List Ent} {r : Option (Nat × V)} (h : findV key es 0 = some r) :
    (Instr.findKey kt (key.emb ρ) (es.map (Ent.emb ρ))).run P w = .ok (r.map fun p => (p.1, p.2.emb ρ)) w := by
  have : ∃ d, P.underlying kt = some d := by
    unfold plainKey at hp
    split at hp
    · rename_i hu; exact ⟨_, hu⟩
    · rename_i hu; exact ⟨_, hu⟩
    · rename_i hu; exact ⟨_, hu⟩
    · cases hp
  obtain ⟨d, hd⟩ := this
  simp [Instr.findKey, run_underlying hd, findV_run hp hd ρ es 0 r h]

theorem findA_run {kt : TypeId} {key : V} (ρ : Nat → Loc) (w : World) : ∀ (es : List Ent) (i : Nat) (r : Option (Nat × V)), findA P kt key es i = some r →
    (Instr.findAsking kt (key.emb ρ) (es.map (Ent.emb ρ)) i).run P w = .ok (r.map fun p => (p.1, p.2.emb ρ)) w
  | [], i, r, h => by simp only [findA, Option.some.injEq] at h; subst h; rfl
  | e :: es, i, r, h => by
    simp only [findA] at h
    simp only [List.map_cons, Instr.findAsking, Sem.run_bind]
    rw [show (Ent.emb ρ e).key = e.key.emb ρ from rfl]
    have hmax : eqDepth ≤ Op.maxDepth := by decide
    split at h
    · rename_i he
      simp only [Option.some.injEq] at h
      subst h
      rw [show (Op.equal kt (key.emb ρ) (e.key.emb ρ)).run P w = .ok true w from run_eqV ρ w _ _ _ _ _ he _ hmax]
      rfl
    · rename_i he
      rw [show (Op.equal kt (key.emb ρ) (e.key.emb ρ)).run P w = .ok false w from run_eqV ρ w _ _ _ _ _ he _ hmax]
      exact findA_run ρ w es (i + 1) r h
    · cases h

theorem arrKey_spec {kt : TypeId} {key : V} (h : arrKey P kt key = true) : ∃ len e k cs, P.underlying kt = some (.array len e) ∧ P.underlying e = some (.int k) ∧ key = .agg cs ∧ sizeT P e = some 1 ∧ cs.length = len := by
  unfold arrKey at h
  split at h
  · rename_i len e hu
    split at h
    · rename_i k hk
      split at h
      · rename_i cs
        simp only [Bool.and_eq_true, beq_iff_eq] at h
        exact ⟨len, e, k, cs, hu, hk, rfl, h.1, h.2⟩
      · cases h
    · cases h
  · cases h

theorem checkKeyA_run {kt : TypeId} {key : V} (h : arrKey P kt key = true) (empty : Bool) (m : Nat) (ρ : Nat → Loc) (w : World) : (Instr.checkKey empty (m + 2) kt (key.emb ρ)).run P w = .ok () w := by
  obtain ⟨len, e, k, cs, hu, hk, rfl, hz, hl⟩ := arrKey_spec h
  have hagg : isAggT P e = some false := by unfold isAggT; rw [hk]
  have one : ∀ i, i < len → ∀ (x : PUnit.{1}), (do Instr.checkKey empty (m + 1) e (← part e (cs.map (V.emb ρ)).toArray (i * (← sizeOf e))); pure (ForInStep.yield PUnit.unit) : Sem (ForInStep PUnit.{1})).run P w = .ok (.yield PUnit.unit) w := by
    intro i hi x
    obtain ⟨v, hv⟩ : ∃ v, cs[i]? = some v := ⟨_, List.getElem?_eq_getElem (by omega)⟩
    have hp : partV P e cs i = some v := by unfold partV; simp only [hagg, hz, hv]
    have := run_partV hp ρ w
    simp only [Sem.run_bind, run_sizeT hz, Result.andThen_ok, Nat.mul_one, this]
    simp [Instr.checkKey, run_underlying hk]
  have loop : ∀ (n s : Nat), s + n ≤ len → (forIn (List.range' s n) PUnit.unit fun i _ => (do Instr.checkKey empty (m + 1) e (← part e (cs.map (V.emb ρ)).toArray (i * (← sizeOf e))); pure (ForInStep.yield PUnit.unit) : Sem (ForInStep PUnit.{1}))).run P w = .ok PUnit.unit w := by
    intro n
    induction n with
    | zero => intro s _; simp
    | succ n ih =>
      intro s hs
      rw [List.range'_succ, List.forIn_cons, Sem.run_bind, one s (by omega) PUnit.unit]
      exact ih (s + 1) (by omega)
  rw [emb_agg, Instr.checkKey]
  simp only [Sem.run_bind, run_underlying hu, Result.andThen_ok]
  rw [Std.Legacy.Range.forIn_eq_forIn_range']
  simp only [Std.Legacy.Range.size, Nat.sub_zero, Nat.add_sub_cancel, Nat.div_one]
  have := loop len 0 (by omega)
  rw [this]
  rfl

/-- What a key comes to. -/
theorem findK_run {kt : TypeId} {key : V} (ρ : Nat → Loc) (w : World) {es : List Ent} {r : Option (Nat × V)} (h : findK P kt key es = some r) (empty : Bool) :
    (Instr.checkKey empty 10000 kt (key.emb ρ)).run P w = .ok () w ∧ (Instr.findKey kt (key.emb ρ) (es.map (Ent.emb ρ))).run P w = .ok (r.map fun p => (p.1, p.2.emb ρ)) w := by
  unfold findK at h
  split at h
  · rename_i hp
    exact ⟨checkKey_run hp empty 9999 ρ w, findKey_run hp ρ w h⟩
  · split at h
    · rename_i ha
      refine ⟨checkKeyA_run ha empty 9998 ρ w, ?_⟩
      obtain ⟨len, e, k, cs, hu, hk, rfl, hz, hl⟩ := arrKey_spec ha
      have := findA_run ρ w es 0 r h
      unfold Instr.findKey
      simp only [Sem.run_bind, run_underlying hu, Result.andThen_ok]
      cases es with
      | nil => simp only [findA, Option.some.injEq] at h; subst h; rfl
      | cons e0 es =>
        have hn : Instr.findNow (.array len e) ((V.agg cs).emb ρ) (List.map (Ent.emb ρ) (e0 :: es)) 0 = none := by
          simp only [List.map_cons, Instr.findNow, Instr.sameNow]
        rw [hn]
        exact this
    · cases h

theorem findA_mem {kt : TypeId} {key : V} : ∀ (es : List Ent) (i j : Nat) (v : V), findA P kt key es i = some (some (j, v)) → ∃ e, e ∈ es ∧ e.val = v
  | [], i, j, v, h => by simp [findA] at h
  | e :: es, i, j, v, h => by
    simp only [findA] at h
    split at h
    · simp only [Option.some.injEq, Prod.mk.injEq] at h; exact ⟨e, List.mem_cons_self .., h.2⟩
    · obtain ⟨e', he, hv⟩ := findA_mem es _ j v h; exact ⟨e', List.mem_cons_of_mem _ he, hv⟩
    · cases h

theorem findV_mem {key : V} : ∀ (es : List Ent) (i j : Nat) (v : V), findV key es i = some (some (j, v)) → ∃ e, e ∈ es ∧ e.val = v
  | [], i, j, v, h => by simp [findV] at h
  | e :: es, i, j, v, h => by
    simp only [findV] at h
    split at h
    · simp only [Option.some.injEq, Prod.mk.injEq] at h; exact ⟨e, List.mem_cons_self .., h.2⟩
    · obtain ⟨e', he, hv⟩ := findV_mem es _ j v h; exact ⟨e', List.mem_cons_of_mem _ he, hv⟩
    · cases h

theorem findK_mem {kt : TypeId} {key : V} {es : List Ent} {j : Nat} {v : V} (h : findK P kt key es = some (some (j, v))) : ∃ e, e ∈ es ∧ e.val = v := by
  unfold findK at h
  split at h
  · exact findV_mem es 0 j v h
  · split at h
    · exact findA_mem es 0 j v h
    · cases h

theorem getObj_run (hw : WR E N ρ H w) {k : Nat} {es : List Ent} {c : Nat} (hk : H[k]? = some (.map es c)) :
    (getObj (ρ k).block).run E.P w = .ok (.map (es.map (Ent.emb ρ)).toArray c) w := by
  have := (hw.objs k _ hk).1
  simp [getObj, Sem.run, this]

mutual
theorem eqB_eq : ∀ (a b : V), a.eqB b = true → a = b
  | .bool _, b, h => by cases b <;> simp_all [V.eqB]
  | .int _ _, b, h => by cases b <;> simp_all [V.eqB]
  | .str _, b, h => by cases b <;> simp_all [V.eqB]
  | .agg l, b, h => by
    cases b <;> simp only [V.eqB, Bool.false_eq_true] at h
    rw [eqBL_eq l _ h]
  | .nilp, b, h => by cases b <;> simp [V.eqB] at h
  | .ptr _ _, b, h => by cases b <;> simp [V.eqB] at h
  | .gptr _ _, b, h => by cases b <;> simp [V.eqB] at h
  | .nils, b, h => by cases b <;> simp [V.eqB] at h
  | .slice _ _ _ _, b, h => by cases b <;> simp [V.eqB] at h
  | .nilm, b, h => by cases b <;> simp [V.eqB] at h
  | .map _, b, h => by cases b <;> simp [V.eqB] at h
  | .nilf, b, h => by cases b <;> simp [V.eqB] at h
  | .func _ _ _, b, h => by cases b <;> simp [V.eqB] at h
  | .nili, b, h => by cases b <;> simp [V.eqB] at h
  | .iface _ _, b, h => by cases b <;> simp [V.eqB] at h
  | .tup _, b, h => by cases b <;> simp [V.eqB] at h
theorem eqBL_eq : ∀ (a b : List V), V.eqBL a b = true → a = b
  | [], b, h => by cases b <;> simp_all [V.eqBL]
  | x :: l, b, h => by
    cases b with
    | nil => simp [V.eqBL] at h
    | cons y l' =>
      simp only [V.eqBL, Bool.and_eq_true] at h
      rw [eqB_eq x y h.1, eqBL_eq l l' h.2]
end

theorem sameAns_eq {a b : Option (Option (Nat × V))} (h : sameAns a b = true) : ∃ r r', a = some r ∧ b = some r' ∧ r.map (·.2) = r'.map (·.2) := by
  unfold sameAns at h
  split at h
  · exact ⟨none, none, rfl, rfl, rfl⟩
  · exact ⟨_, _, rfl, rfl, by simp [eqB_eq _ _ h]⟩
  · cases h

theorem lookupV_run (hw : WR E N ρ H w) {wr esc : Nat} {t : TypeId} {x key v : V} {ok : Bool} (h : lookupV E.P t x key ok ⟨H, wr, esc⟩ = some v) :
    (Instr.lookup t (x.emb ρ) (key.emb ρ) ok).run E.P w = .ok (v.emb ρ) w ∧ v.lt H.length = true := by
  unfold lookupV at h
  split at h
  · rename_i kt vt hu
    · split at h
      · rename_i es z hes hz
        have hz' := run_zeroT hz ρ w
        have main : (∀ e ∈ es, e.val.lt H.length = true) ∧ ∀ r, findK E.P kt key es = some r → (Instr.lookup t (x.emb ρ) (key.emb ρ) ok).run E.P w = .ok (if ok then .tuple #[((r.map (·.2)).getD z).emb ρ, .bool r.isSome] else ((r.map (·.2)).getD z).emb ρ) w := by
          have cont : ∀ (es : List Ent) (r : Option (Nat × V)), findK E.P kt key es = some r → ((do
              Instr.checkKey ((es.map (Ent.emb ρ)).toArray).isEmpty 10000 kt (key.emb ρ)
              match ← Instr.findKey kt (key.emb ρ) (es.map (Ent.emb ρ)).toArray.toList with
                | some (_, v) => do
                  let __x ← pure (v, true)
                  pure (if ok = true then Value.tuple #[__x.1, Value.bool __x.2] else __x.1)
                | none => do
                  let __do_lift ← zeroValue vt
                  let __x ← pure (__do_lift, false)
                  pure (if ok = true then Value.tuple #[__x.1, Value.bool __x.2] else __x.1)) : Sem Value).run E.P w =
              .ok (if ok then .tuple #[((r.map (·.2)).getD z).emb ρ, .bool r.isSome] else ((r.map (·.2)).getD z).emb ρ) w := by
            intro es r hr
            have hf := findK_run ρ w hr ((es.map (Ent.emb ρ)).toArray).isEmpty
            simp only [Sem.run_bind]
            rw [hf.1, Result.andThen_ok, hf.2, Result.andThen_ok]
            cases r with
            | none => simp only [Option.map_none, Sem.run_bind, hz'.1, Result.andThen_ok, Sem.run_pure]; cases ok <;> rfl
            | some p => simp only [Option.map_some, Sem.run_bind, Sem.run_pure, Result.andThen_ok]; cases ok <;> rfl
          split at hes
          · simp only [Option.some.injEq] at hes
            subst hes
            refine ⟨(fun e he => by cases he), fun r hr => ?_⟩
            have := cont [] r hr
            simp only [Instr.lookup, Sem.run_bind, run_underlying hu, Result.andThen_ok, emb_nilm, Sem.run_pure] at this ⊢
            exact this
          · rename_i k
            split at hes
            · rename_i es' c hk
              simp only [Option.some.injEq] at hes
              subst hes
              refine ⟨fun e he => hw.vals k _ hk _ (List.mem_append.2 (.inr (List.mem_map.2 ⟨e, he, rfl⟩))), fun r hr => ?_⟩
              have := cont _ r hr
              simp only [Instr.lookup, Sem.run_bind, run_underlying hu, Result.andThen_ok, emb_map, getObj_run hw hk, Sem.run_pure] at this ⊢
              exact this
            · rename_i es' c as hk
              split at hes
              · rename_i hall
                simp only [Option.some.injEq] at hes
                subst hes
                simp only at hk
                refine ⟨fun e he => hw.vals k _ hk _ (List.mem_flatMap.2 ⟨_, List.mem_cons_self .., List.mem_append.2 (.inr (List.mem_map.2 ⟨e, he, rfl⟩))⟩), fun r hr => ?_⟩
                obtain ⟨⟨q, hq, hq1⟩, _⟩ := hw.objs k _ hk
                obtain ⟨r', hr', hrr⟩ : ∃ r', findK E.P kt key q.1 = some r' ∧ r'.map (·.2) = r.map (·.2) := by
                  rcases List.mem_cons.1 hq with rfl | hq
                  · exact ⟨r, hr, rfl⟩
                  · obtain ⟨r1, r2, h1, h2, h3⟩ := sameAns_eq (List.all_eq_true.1 hall q hq)
                    rw [hr] at h2
                    cases h2
                    exact ⟨r1, h1, h3⟩
                have := cont _ r' hr'
                have hg : (getObj (ρ k).block).run E.P w = .ok (.map (q.1.map (Ent.emb ρ)).toArray q.2) w := by simp [getObj, Sem.run, hq1]
                have hs : r'.isSome = r.isSome := by rw [← Option.isSome_map (f := (·.2)), hrr, Option.isSome_map]
                rw [hrr, hs] at this
                simp only [Instr.lookup, Sem.run_bind, run_underlying hu, Result.andThen_ok, emb_map, hg, Sem.run_pure] at this ⊢
                exact this
              · cases hes
            · cases hes
          · cases hes
        obtain ⟨mainl, hfin⟩ := main
        split at h
        · rename_i j u hf
          simp only [Option.some.injEq] at h
          subst h
          obtain ⟨e, he, rfl⟩ := findK_mem hf
          have hl := mainl e he
          rw [hfin _ hf]
          cases ok
          · exact ⟨by simp, by simpa using hl⟩
          · exact ⟨by simp, by simp [ltL, hl]⟩
        · rename_i hf
          simp only [Option.some.injEq] at h
          subst h
          have hl := lt_flat hz'.2 H.length
          rw [hfin _ hf]
          cases ok
          · exact ⟨by simp, by simpa using hl⟩
          · exact ⟨by simp, by simp [ltL, hl]⟩
        · cases h
      · cases h
  · cases h

end Go.Am
