/-
  Each operation of the evaluator is one of the model's: slices, indexes, fields, keys, conversions.
-/
import Derived.Test.YtfjbcoahjinehaaDoorAmOps3
namespace Go.Am
open Go

variable {P : Program} {E : Env} {N : Nat} {ρ : Nat → Loc} {H : List AObj} {w : World}

theorem str_extract (s : List UInt8) (l h : Nat) : (⟨⟨s⟩⟩ : ByteArray).extract l h = ⟨⟨(s.drop l).take (h - l)⟩⟩ := by
  have := ByteArray.extract_mk s l h
  exact this

theorem sub_mul_div' (a o l n : Nat) (_hn : 0 < n) : (a - (o + l * n)) / n = (a - o) / n - l := by
  rw [← Nat.sub_sub, Nat.mul_comm l n, Nat.sub_mul_div]

theorem le_div_of {a o l n : Nat} (hn : 0 < n) (h : o + l * n ≤ a) : l ≤ (a - o) / n := by
  rw [Nat.le_div_iff_mul_le hn]
  omega

/-- What is known of a block that has grown. -/
theorem OR.grown {l : Loc} {cs : List V} {e : TypeId} {fz : Bool} (h : OR P N ρ w l (.cells cs e .grown fz)) {n : Nat} (hn : sizeT P e = some n) : 0 < n ∧ l.sz = n ∧ cs.length ≤ l.ext := by
  obtain ⟨_, C, z, _, _, _, _, _, _, h5, h6, h7, _⟩ := h
  rw [hn] at h6
  have : n = l.sz := Option.some.inj h6
  exact ⟨this ▸ h7, this.symm, h5⟩

theorem sliceV_run (hw : WR E N ρ H w) {wr esc : Nat} {t : TypeId} {x v : V} {lo hi mx : Option V} {lo' hi' mx' : Option Nat} (hx : x.lt H.length = true)
    (h1 : natV lo = some lo') (h2 : natV hi = some hi') (h3 : natV mx = some mx') (h : sliceV E.P t x lo' hi' mx' ⟨H, wr, esc⟩ = some v) :
    (Instr.sliceAt t (x.emb ρ) (lo.map (V.emb ρ)) (hi.map (V.emb ρ)) (mx.map (V.emb ρ))).run E.P w = .ok (v.emb ρ) w ∧ v.lt H.length = true := by
  unfold sliceV at h
  split at h
  · rename_i s hu
    split at h
    · cases h
    · rename_i hm
      have hmx : mx' = none := by simpa using hm
      subst hmx
      split at h
      · rename_i l hh m hb
        simp only [Option.some.injEq] at h
        subst h
        have hr := run_bounds (P := E.P) (isS := false) h1 h2 h3 hb ρ w
        rcases natV_run h3 with ⟨rfl, _⟩ | ⟨_, _, _, _, h0⟩
        · refine ⟨?_, rfl⟩
          simp only [Option.map_none] at hr
          simp [Instr.sliceAt, Instr.slice, run_underlying hu, str_size, hr.1, str_extract]
        · cases h0
      · cases h
  · rename_i e hu
    split at h
    · rename_i b n hb hn
      simp only [Option.some.injEq] at h
      subst h
      obtain ⟨l, hh, m⟩ := b
      have hr := run_bounds (P := E.P) (isS := true) h1 h2 h3 hb ρ w
      have hl0 : l = 0 ∧ hh = 0 ∧ m = 0 := by omega
      obtain ⟨rfl, rfl, rfl⟩ := hl0
      refine ⟨?_, rfl⟩
      simp only [emb_nils, Instr.sliceAt, Instr.slice, Sem.run_bind, run_underlying hu, Result.andThen_ok, hr.1, run_sizeT hn, Sem.run_pure, if_true]
    · cases h
  · rename_i e k o len c hu
    split at h
    · rename_i l hh m n hb hn
      simp only [Option.some.injEq] at h
      subst h
      have hr := run_bounds (P := E.P) (isS := true) h1 h2 h3 hb ρ w
      refine ⟨?_, by simpa using hx⟩
      simp only [emb_slice_some, Instr.sliceAt, Instr.slice, Sem.run_bind, run_underlying hu, Result.andThen_ok, hr.1, run_sizeT hn, Sem.run_pure]
      congr 1
      split
      · rfl
      · simp [add_off, Nat.add_assoc]
    · cases h
  · rename_i e k o len hu
    split at h
    · rename_i l hh m n cs e' fz hb hn hk
      split at h
      · rename_i hc
        obtain ⟨rfl, hle⟩ := hc
        simp only at hk
        obtain ⟨hpos, hsz, hext⟩ := (hw.objs k _ hk).grown hn
        have hcap : len ≤ ((ρ k).ext - o) / (ρ k).sz := by rw [hsz]; exact le_div_of hpos (by omega)
        cases mx' with
        | none =>
          simp only [Option.isSome_none, Bool.false_eq_true, if_false] at h
          have hr0 := run_bounds (P := E.P) (isS := true) h1 h2 h3 hb ρ w
          have hb' : bounds len (((ρ k).ext - o) / (ρ k).sz) lo' hi' none = some (l, hh, ((ρ k).ext - o) / (ρ k).sz) := by
            unfold bounds at hb ⊢
            simp only [Option.getD_none, Option.isSome_none, Bool.false_eq_true, if_false] at hb ⊢
            split at hb
            · rename_i hc
              simp only [Option.some.injEq, Prod.mk.injEq] at hb
              rw [if_pos (by omega), hb.1, hb.2.1]
            · cases hb
          have hr := run_bounds (P := E.P) (isS := true) h1 h2 h3 hb' ρ w
          split at h
          · rename_i hlt
            simp only [Option.some.injEq] at h
            subst h
            refine ⟨?_, by simpa using hx⟩
            simp only [emb_slice_none, Instr.sliceAt, Instr.slice, Sem.run_bind, run_underlying hu, Result.andThen_ok, hr.1, run_sizeT hn, Sem.run_pure]
            congr 1
            rw [hsz, sub_mul_div' _ _ _ _ hpos]
            rcases hlt with hlt | rfl
            · rw [hsz] at hcap
              rw [if_neg (by omega)]
              simp [add_off, Nat.add_assoc]
            · split
              · simp
              · simp [add_off]
          · cases h
        | some m0 =>
          simp only [Option.isSome_some, if_true, Option.some.injEq] at h
          subst h
          have hb' : bounds len (((ρ k).ext - o) / (ρ k).sz) lo' hi' (some m0) = some (l, hh, m) := by
            unfold bounds at hb ⊢
            simp only [Option.getD_some, Option.isSome_some, if_true] at hb ⊢
            split at hb
            · rename_i hc
              rw [if_pos (by omega)]
              exact hb
            · cases hb
          have hr := run_bounds (P := E.P) (isS := true) h1 h2 h3 hb' ρ w
          refine ⟨?_, by simpa using hx⟩
          simp only [emb_slice_none, emb_slice_some, Instr.sliceAt, Instr.slice, Sem.run_bind, run_underlying hu, Result.andThen_ok, hr.1, run_sizeT hn, Sem.run_pure]
          congr 1
          split
          · rfl
          · simp [add_off, Nat.add_assoc]
      · cases h
    · cases h
  · rename_i n e k o hu
    split at h
    · rename_i l hh m z hb hz
      simp only [Option.some.injEq] at h
      subst h
      have hr := run_bounds (P := E.P) (isS := false) h1 h2 h3 hb ρ w
      refine ⟨?_, by simpa using hx⟩
      simp only [emb_slice_some, emb_ptr, Instr.sliceAt, Instr.sureAddr, Sem.run_bind, run_underlying hu, Result.andThen_ok, hr.1, run_sizeT hz, Sem.run_pure]
      congr 1
      split
      · rfl
      · simp [add_off, Nat.add_assoc]
    · cases h
  · cases h

theorem indexAddrV_run {t : TypeId} {x ix v : V} {n : Nat} (hx : x.lt n = true) (h : indexAddrV P t x ix = some v) (ρ : Nat → Loc) (w : World) :
    (Instr.indexAt t (x.emb ρ) (ix.emb ρ)).run P w = .ok (v.emb ρ) w ∧ v.lt n = true := by
  unfold indexAddrV at h
  split at h
  · rename_i e k o len c kk i hu
    split at h
    · rename_i z hz
      split at h
      · rename_i hi
        simp only [Option.some.injEq] at h
        subst h
        refine ⟨?_, by simpa using hx⟩
        simp only [emb_slice, emb_int, emb_ptr, Instr.indexAt, asIntOf, Sem.run_bind, Sem.run_pure, run_underlying hu, Result.andThen_ok, hi, and_self, if_true, run_sizeT hz, add_off, Nat.add_assoc]
      · cases h
    · cases h
  · rename_i len e k o kk i hu
    split at h
    · rename_i z hz
      split at h
      · rename_i hi
        simp only [Option.some.injEq] at h
        subst h
        refine ⟨?_, by simpa using hx⟩
        simp only [emb_int, emb_ptr, Instr.indexAt, Instr.sureAddr, asIntOf, Sem.run_bind, Sem.run_pure, run_underlying hu, Result.andThen_ok, hi, and_self, if_true, run_sizeT hz, add_off, Nat.add_assoc]
      · cases h
    · cases h
  · rename_i len e k o kk i hu
    split at h
    · rename_i z hz
      split at h
      · rename_i hi
        simp only [Option.some.injEq] at h
        subst h
        refine ⟨?_, rfl⟩
        simp only [emb_int, emb_gptr, Instr.indexAt, Instr.sureAddr, asIntOf, Sem.run_bind, Sem.run_pure, run_underlying hu, Result.andThen_ok, hi, and_self, if_true, run_sizeT hz, add_off]
      · cases h
    · cases h
  · cases h

theorem str_get (s : List UInt8) (i : Nat) : (⟨⟨s⟩⟩ : ByteArray)[i]? = s[i]? := by
  by_cases h : i < s.length
  · rw [ByteArray.getElem?_lt' _ _ h, List.getElem?_eq_getElem h]
    rfl
  · rw [ByteArray.getElem?_ge' _ _ h, List.getElem?_eq_none (by omega)]

theorem indexV_run {t : TypeId} {x ix v : V} {n : Nat} (hx : x.lt n = true) (h : indexV P t x ix = some v) (ρ : Nat → Loc) (w : World) :
    (Instr.index t (x.emb ρ) (ix.emb ρ)).run P w = .ok (v.emb ρ) w ∧ v.lt n = true := by
  unfold indexV at h
  split at h
  · rename_i s k i hu
    split at h
    · rename_i hi
      simp only [Option.map_eq_some_iff] at h
      obtain ⟨b, hb, rfl⟩ := h
      refine ⟨?_, rfl⟩
      simp [Instr.index, asIntOf, run_underlying hu, hi, str_get, hb, byteV]
    · cases h
  · rename_i len e cs k i hu
    split at h
    · rename_i z hz
      split at h
      · rename_i hi
        refine ⟨?_, lt_partV h ((lt_agg _ _).1 hx)⟩
        have := run_partV h ρ w
        simp [Instr.index, asIntOf, run_underlying hu, hi, run_sizeT hz, this]
      · cases h
    · cases h
  · cases h

theorem fieldAddrV_run {s : TypeId} {x v : V} {f n : Nat} (hx : x.lt n = true) (h : fieldAddrV P s x f = some v) (ρ : Nat → Loc) (w : World) :
    (Instr.fieldAt s (x.emb ρ) f).run P w = .ok (v.emb ρ) w ∧ v.lt n = true := by
  unfold fieldAddrV at h
  split at h
  · rename_i fs hu
    split at h
    · rename_i fd hf
      split at h
      · rename_i m k o hs
        simp only [Option.some.injEq] at h
        subst h
        refine ⟨?_, by simpa using hx⟩
        simp [Instr.fieldAt, Instr.sureAddr, run_underlying hu, hf, fieldPlace, run_sizeT hs, add_off, Nat.add_assoc]
      · rename_i m k o hs
        simp only [Option.some.injEq] at h
        subst h
        refine ⟨?_, rfl⟩
        simp [Instr.fieldAt, Instr.sureAddr, run_underlying hu, hf, fieldPlace, run_sizeT hs, add_off]
      · cases h
    · cases h
  · cases h

theorem fieldV_run {t : TypeId} {x v : V} {f n : Nat} (hx : x.lt n = true) (h : fieldV P t x f = some v) (ρ : Nat → Loc) (w : World) :
    (Instr.field t (x.emb ρ) f).run P w = .ok (v.emb ρ) w ∧ v.lt n = true := by
  unfold fieldV at h
  split at h
  · rename_i fs cs hu
    split at h
    · rename_i fd hf
      refine ⟨?_, lt_partV h ((lt_agg _ _).1 hx)⟩
      have := run_partV h ρ w
      simp [Instr.field, run_underlying hu, hf, asAgg, this]
    · cases h
  · cases h

/-! ### Keys -/

theorem str_beq (a b : List UInt8) : ((⟨⟨a⟩⟩ : ByteArray) == ⟨⟨b⟩⟩) = (a == b) := by
  rw [beq_toListBytes, ByteArray.toList_mk, ByteArray.toList_mk]

theorem findV_run {kt : TypeId} {d : TypeDesc} {key : V} (hp : plainKey P kt key = true) (hd : P.underlying kt = some d) (ρ : Nat → Loc) : ∀ (es : List Ent) (i : Nat) (r : Option (Nat × V)), findV key es i = some r →
    Instr.findNow d (key.emb ρ) (es.map (Ent.emb ρ)) i = some (r.map fun p => (p.1, p.2.emb ρ))
  | [], i, r, h => by simp only [findV, Option.some.injEq] at h; subst h; rfl
  | e :: es, i, r, h => by
    simp only [findV] at h
    have hs : ∀ b, sameKey key e.key = some b → Instr.sameNow d (key.emb ρ) (e.key.emb ρ) = some b := by
      intro b hb
      unfold plainKey at hp
      rw [hd] at hp
      split at hp
      · rename_i h0; simp only [Option.some.injEq] at h0; subst h0
        unfold sameKey at hb
        split at hb <;> first | (rename_i e1; simp_all [Instr.sameNow]; done) | simp_all [Instr.sameNow]
      · rename_i h0; simp only [Option.some.injEq] at h0; subst h0
        unfold sameKey at hb
        split at hb <;> simp_all [Instr.sameNow, str_beq]
      · rename_i h0; simp only [Option.some.injEq] at h0; subst h0
        unfold sameKey at hb
        split at hb <;> simp_all [Instr.sameNow]
      · cases hp
    simp only [List.map_cons, Instr.findNow]
    cases hk : sameKey key e.key with
    | none => rw [hk] at h; simp at h
    | some b =>
      rw [hk] at h
      rw [show (Ent.emb ρ e).key = e.key.emb ρ from rfl, hs b hk]
      cases b with
      | true => simp only [Option.some.injEq] at h; subst h; rfl
      | false => exact findV_run hp hd ρ es (i + 1) r h

theorem checkKey_run {kt : TypeId} {key : V} (hp : plainKey P kt key = true) (empty : Bool) (m : Nat) (ρ : Nat → Loc) (w : World) : (Instr.checkKey empty (m + 1) kt (key.emb ρ)).run P w = .ok () w := by
  unfold plainKey at hp
  split at hp
  · rename_i hu; simp [Instr.checkKey, run_underlying hu]
  · rename_i hu; simp [Instr.checkKey, run_underlying hu]
  · rename_i hu; simp [Instr.checkKey, run_underlying hu]
  · cases hp

theorem findKey_run {kt : TypeId} {key : V} (hp : plainKey P kt key = true) (ρ : Nat → Loc) (w : World) {es : List Ent} {r : Option (Nat × V)} (h : findV key es 0 = some r) :
    (Instr.findKey kt (key.emb ρ) (es.map (Ent.emb ρ))).run P w = .ok (r.map fun p => (p.1, p.2.emb ρ)) w := by
  have : ∃ d, P.underlying kt = some d := by
    unfold plainKey at hp
    split at hp
    · rename_i hu; exact ⟨_, hu⟩
    · rename_i hu; exact ⟨_, hu⟩
    · rename_i hu; exact ⟨_, hu⟩
    · cases hp
  obtain ⟨d, hd⟩ := this
  simp [Instr.findKey, run_underlying hd, findV_run hp hd ρ es 0 r h]

theorem findV_mem {key : V} : ∀ (es : List Ent) (i j : Nat) (v : V), findV key es i = some (some (j, v)) → ∃ e, e ∈ es ∧ e.val = v
  | [], i, j, v, h => by simp [findV] at h
  | e :: es, i, j, v, h => by
    simp only [findV] at h
    split at h
    · simp only [Option.some.injEq, Prod.mk.injEq] at h; exact ⟨e, List.mem_cons_self .., h.2⟩
    · obtain ⟨e', he, hv⟩ := findV_mem es _ j v h; exact ⟨e', List.mem_cons_of_mem _ he, hv⟩
    · cases h

theorem getObj_run (hw : WR E N ρ H w) {k : Nat} {es : List Ent} {c : Nat} (hk : H[k]? = some (.map es c)) :
    (getObj (ρ k).block).run E.P w = .ok (.map (es.map (Ent.emb ρ)).toArray c) w := by
  have := (hw.objs k _ hk).1
  simp [getObj, Sem.run, this]

theorem lookupV_run (hw : WR E N ρ H w) {wr esc : Nat} {t : TypeId} {x key v : V} {ok : Bool} (h : lookupV E.P t x key ok ⟨H, wr, esc⟩ = some v) :
    (Instr.lookup t (x.emb ρ) (key.emb ρ) ok).run E.P w = .ok (v.emb ρ) w ∧ v.lt H.length = true := by
  unfold lookupV at h
  split at h
  · rename_i kt vt hu
    split at h
    · rename_i hp
      split at h
      · rename_i es z hes hz
        have hz' := run_zeroT hz ρ w
        have main : (∀ e ∈ es, e.val.lt H.length = true) ∧ ∀ r, findV key es 0 = some r → (Instr.lookup t (x.emb ρ) (key.emb ρ) ok).run E.P w = .ok (if ok then .tuple #[((r.map (·.2)).getD z).emb ρ, .bool r.isSome] else ((r.map (·.2)).getD z).emb ρ) w := by
          have cont : ∀ (es : List Ent) (r : Option (Nat × V)), findV key es 0 = some r → ((do
              Instr.checkKey ((es.map (Ent.emb ρ)).toArray).isEmpty 10000 kt (key.emb ρ)
              match ← Instr.findKey kt (key.emb ρ) (es.map (Ent.emb ρ)).toArray.toList with
                | some (_, v) => do
                  let __x ← pure (v, true)
                  pure (if ok = true then Value.tuple #[__x.1, Value.bool __x.2] else __x.1)
                | none => do
                  let __do_lift ← zeroValue vt
                  let __x ← pure (__do_lift, false)
                  pure (if ok = true then Value.tuple #[__x.1, Value.bool __x.2] else __x.1)) : Sem Value).run E.P w =
              .ok (if ok then .tuple #[((r.map (·.2)).getD z).emb ρ, .bool r.isSome] else ((r.map (·.2)).getD z).emb ρ) w := by
            intro es r hr
            have hf := findKey_run hp ρ w hr
            simp only [Sem.run_bind]
            rw [show (10000 : Nat) = 9999 + 1 from rfl, checkKey_run hp, Result.andThen_ok, hf, Result.andThen_ok]
            cases r with
            | none => simp only [Option.map_none, Sem.run_bind, hz'.1, Result.andThen_ok, Sem.run_pure]; cases ok <;> rfl
            | some p => simp only [Option.map_some, Sem.run_bind, Sem.run_pure, Result.andThen_ok]; cases ok <;> rfl
          split at hes
          · simp only [Option.some.injEq] at hes
            subst hes
            refine ⟨(fun e he => by cases he), fun r hr => ?_⟩
            have := cont [] r hr
            simp only [Instr.lookup, Sem.run_bind, run_underlying hu, Result.andThen_ok, emb_nilm, Sem.run_pure] at this ⊢
            exact this
          · rename_i k
            split at hes
            · rename_i es' c hk
              simp only [Option.some.injEq] at hes
              subst hes
              refine ⟨fun e he => hw.vals k _ hk _ (List.mem_append.2 (.inr (List.mem_map.2 ⟨e, he, rfl⟩))), fun r hr => ?_⟩
              have := cont _ r hr
              simp only [Instr.lookup, Sem.run_bind, run_underlying hu, Result.andThen_ok, emb_map, getObj_run hw hk, Sem.run_pure] at this ⊢
              exact this
            · cases hes
          · cases hes
        obtain ⟨mainl, hfin⟩ := main
        split at h
        · rename_i j u hf
          simp only [Option.some.injEq] at h
          subst h
          obtain ⟨e, he, rfl⟩ := findV_mem es 0 j u hf
          have hl := mainl e he
          rw [hfin _ hf]
          cases ok
          · exact ⟨by simp, by simpa using hl⟩
          · exact ⟨by simp, by simp [ltL, hl]⟩
        · rename_i hf
          simp only [Option.some.injEq] at h
          subst h
          have hl := lt_flat hz'.2 H.length
          rw [hfin _ hf]
          cases ok
          · exact ⟨by simp, by simpa using hl⟩
          · exact ⟨by simp, by simp [ltL, hl]⟩
        · cases h
      · cases h
    · cases h
  · cases h

end Go.Am
