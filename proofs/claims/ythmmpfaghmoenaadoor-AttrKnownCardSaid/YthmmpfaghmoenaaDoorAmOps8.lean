/-
  Each operation of the evaluator is one of the model's: all of them.
-/
import Derived.Test.YthmmpfaghmoenaaDoorAmOps7
import Derived.Lib.Builder
import Derived.Lib.UnsafeStr
namespace Go.Am
open Go

variable {P : Program} {E : Env} {N : Nat} {ρ : Nat → Loc} {H : List AObj} {w : World}

/-! ### Conversions -/

theorem Array_map_byte (s : List UInt8) : (s.toArray.map fun b => Value.int .u8 b.toNat) = (s.map fun b => Value.int .u8 b.toNat).toArray := by simp

theorem conv_bytes (hw : WR E N ρ H w) {src dst e : TypeId} {u : TypeDesc} {s : List UInt8} (hs : E.P.underlying src = some u) (hd : E.P.underlying dst = some (.slice e)) (he : E.P.underlying e = some (.int .u8)) (hz : sizeT E.P e = some 1)
    (hlen : s.length ≤ maxLen) :
    Val E N ρ H w (convert src dst (.string ⟨⟨s⟩⟩)) (.slice H.length 0 s.length none) (H ++ [.cells (s.map byteV) e .grown false]) := by
  have hrun := Lib.run_convert_string_bytes (P := E.P) w src dst e ⟨⟨s⟩⟩ hs hd he
  have hmax : grownCap w s.length 0 e ≤ maxLen := grownCap_le_maxLen w _ _ _ hlen
  have hge := grownCap_ge w s.length 0 e
  have hcs : (Lib.bytesCells w e ⟨⟨s⟩⟩).size = grownCap w s.length 0 e * 1 := by
    simp [Lib.bytesCells, str_size]
    omega
  have hg := hw.grow (w' := Lib.bytesWorld w e ⟨⟨s⟩⟩) (cs := s.map byteV) (C := Lib.bytesCells w e ⟨⟨s⟩⟩) (q := grownCap w s.length 0 e) (sz := 1) false (Lib.bytesWorld_size w e _) (fun b hb => Lib.bytesWorld_at_old w e _ b hb)
    rfl rfl rfl (Lib.bytesWorld_at_new w e _) (fun v hv => by obtain ⟨b, _, rfl⟩ := List.mem_map.1 hv; rfl) (fun v hv => by obtain ⟨b, _, rfl⟩ := List.mem_map.1 hv; rfl)
    (fun i v hi => by
      have hlt : i < s.length := by have := (List.getElem?_eq_some_iff.1 hi).1; simpa using this
      simp only [List.getElem?_map, Option.map_eq_some_iff] at hi
      obtain ⟨b, hb, rfl⟩ := hi
      rw [Lib.bytesCells, Array.getElem?_append_left (by simpa using hlt)]
      simp [hb, byteV])
    (fun i _ h2 h3 => by omega) hcs (by rw [hcs]; simp; omega) hz (by omega) hmax
  refine ⟨_, _, ?_, hg.1, hg.2, by simp⟩
  rw [hrun]
  simp [str_size]

theorem conv_runes (hw : WR E N ρ H w) {src dst e : TypeId} {u : TypeDesc} {s : List UInt8} (hs : E.P.underlying src = some u) (hd : E.P.underlying dst = some (.slice e)) (he : E.P.underlying e = some (.int .i32)) (hz : sizeT E.P e = some 1)
    (hlen : (runes s.length s).length ≤ maxLen) :
    Val E N ρ H w (convert src dst (.string ⟨⟨s⟩⟩)) (.slice H.length 0 (runes s.length s).length none) (H ++ [.cells ((runes s.length s).map fun r => .int .i32 (Int.ofNat r)) e .grown false]) := by
  have hr := runesFrom_run s s.length 0 []
  rw [List.drop_zero, List.nil_append] at hr
  have hmax : grownCap w (runes s.length s).length 0 e ≤ maxLen := grownCap_le_maxLen w _ _ _ hlen
  have hge := grownCap_ge w (runes s.length s).length 0 e
  have hrun : (convert src dst (.string ⟨⟨s⟩⟩)).run E.P w = .ok (.slice (some ⟨w.heap.size, 0, none⟩) (runes s.length s).length (grownCap w (runes s.length s).length 0 e))
      (w.drew.alloc (.cells (((runes s.length s).map fun r => Value.int .i32 (Int.ofNat r)).toArray ++ Array.replicate (grownCap w (runes s.length s).length 0 e - (runes s.length s).length) (.int .i32 0)) e)) := by
    simp only [convert, Sem.run_bind, run_underlying hs, run_underlying hd, run_underlying he, Result.andThen_ok, Conv.stringToRunes, str_size]
    rw [show (#[] : Array Value) = ([] : List Value).toArray from rfl, hr]
    simp [Question.forced, newRow, grownCap]
  have hsz : (((runes s.length s).map fun r => Value.int .i32 (Int.ofNat r)).toArray ++ Array.replicate (grownCap w (runes s.length s).length 0 e - (runes s.length s).length) (Value.int .i32 0)).size = grownCap w (runes s.length s).length 0 e * 1 := by
    simp
    omega
  have hg := hw.grow (cs := (runes s.length s).map fun r => .int .i32 (Int.ofNat r)) (q := grownCap w (runes s.length s).length 0 e) (sz := 1) (e := e) false
    (w' := w.drew.alloc (.cells (((runes s.length s).map fun r => Value.int .i32 (Int.ofNat r)).toArray ++ Array.replicate (grownCap w (runes s.length s).length 0 e - (runes s.length s).length) (.int .i32 0)) e))
    (by simp) (fun b hb => RowKit.Below.heap_alloc w.drew _ b hb) rfl rfl rfl (heap_alloc_new w.drew _) (fun v hv => by obtain ⟨b, _, rfl⟩ := List.mem_map.1 hv; rfl) (fun v hv => by obtain ⟨b, _, rfl⟩ := List.mem_map.1 hv; rfl)
    (fun i v hi => by
      have hlt : i < (runes s.length s).length := by have := (List.getElem?_eq_some_iff.1 hi).1; simpa using this
      simp only [List.getElem?_map, Option.map_eq_some_iff] at hi
      obtain ⟨b, hb, rfl⟩ := hi
      rw [Array.getElem?_append_left (by simpa using hlt)]
      simp [hb])
    (fun i _ _ hzz => by simp at hzz) hsz (by rw [hsz]; simp; omega) hz (by omega) hmax
  refine ⟨_, _, ?_, hg.1, hg.2, by simp⟩
  rw [hrun]
  simp

theorem convV_run (hw : WR E N ρ H w) {wr esc : Nat} {src dst : TypeId} {x : V} {r : R} {H' : Hp} (h : convV E.P src dst x ⟨H, wr, esc⟩ = some (r, H')) :
    ∃ v, r = .val v ∧ Val E N ρ H w (convert src dst (x.emb ρ)) v H'.objs := by
  unfold convV at h
  split at h
  · rename_i d k k' n hs hd
    simp only [ok, Option.some.injEq, Prod.mk.injEq] at h
    obtain ⟨rfl, rfl⟩ := h
    exact ⟨_, rfl, Val.pure hw (by simp [convert, run_underlying hs, run_underlying hd, Conv.intToInt]) rfl⟩
  · rename_i d k n hs hd
    simp only [ok, Option.some.injEq, Prod.mk.injEq] at h
    obtain ⟨rfl, rfl⟩ := h
    exact ⟨_, rfl, Val.pure hw (by simp [convert, run_underlying hs, run_underlying hd, Conv.intToString, encode_run]) rfl⟩
  · rename_i d s hs hd
    simp only [ok, Option.some.injEq, Prod.mk.injEq] at h
    obtain ⟨rfl, rfl⟩ := h
    exact ⟨_, rfl, Val.pure hw (by simp [convert, run_underlying hs, run_underlying hd]) rfl⟩
  · rename_i d e s hs hd
    split at h
    · rename_i he hz
      split at h
      · rename_i hl
        simp only [ok, Option.some.injEq, Prod.mk.injEq] at h
        obtain ⟨rfl, rfl⟩ := h
        exact ⟨_, rfl, conv_bytes hw hs hd he hz (by simp only [maxLen]; omega)⟩
      · cases h
    · rename_i he hz
      split at h
      · rename_i hl
        simp only [ok, Option.some.injEq, Prod.mk.injEq] at h
        obtain ⟨rfl, rfl⟩ := h
        exact ⟨_, rfl, conv_runes hw hs hd he hz (by simp only [maxLen]; omega)⟩
      · cases h
    · cases h
  · rename_i e hs hd
    split at h
    · rename_i he
      simp only [ok, Option.some.injEq, Prod.mk.injEq] at h
      obtain ⟨rfl, rfl⟩ := h
      exact ⟨_, rfl, Val.pure hw (by simp [convert, run_underlying hs, run_underlying hd, run_underlying he, Conv.bytesToString]; rfl) rfl⟩
    · rename_i he
      simp only [ok, Option.some.injEq, Prod.mk.injEq] at h
      obtain ⟨rfl, rfl⟩ := h
      exact ⟨_, rfl, Val.pure hw (by simp [convert, run_underlying hs, run_underlying hd, run_underlying he, Conv.runesToString]; rfl) rfl⟩
    · cases h
  · rename_i e k o n c hs hd
    split at h
    · rename_i cs m he hsh
      simp only [okO, Option.map_eq_some_iff, Prod.mk.injEq] at h
      obtain ⟨y, ⟨s, hbs, rfl⟩, rfl, rfl⟩ := h
      refine ⟨_, rfl, Val.pure hw ?_ rfl⟩
      have sh := shown_run hw hsh
      obtain ⟨ns, hns, rfl⟩ := bytesOf_run cs s hbs ρ
      have hm : m = n := by
        unfold shown at hsh
        simp only at hsh
        split at hsh
        · split at hsh
          · simp only [Option.some.injEq, Prod.mk.injEq] at hsh; exact hsh.2.symm
          · cases hsh
        · cases hsh
      subst hm
      have hload := sh.2.2.2 m (Nat.le_refl _)
      rw [List.take_of_length_le (by rw [sh.2.2.1]; exact Nat.le_refl _), hns, emb_slice] at hload
      simp only [Builtin.firstCells, Nat.mul_one] at hload
      rw [emb_slice, run_convert_bytes_string w src dst e _ _ _ hs he hd, run_bytesToString w _ _ _ ns hload]
      rw [show (ByteArray.empty : ByteArray) = ⟨⟨[]⟩⟩ from rfl, foldl_push]
      simp
    · rename_i cs m he hsh
      simp only [okO, Option.map_eq_some_iff, Prod.mk.injEq] at h
      obtain ⟨y, ⟨s, hbs, rfl⟩, rfl, rfl⟩ := h
      refine ⟨_, rfl, Val.pure hw ?_ rfl⟩
      have sh := shown_run hw hsh
      obtain ⟨ns, hns, rfl⟩ := runesOf_run cs s hbs ρ
      have hm : m = n := by
        unfold shown at hsh
        simp only at hsh
        split at hsh
        · split at hsh
          · simp only [Option.some.injEq, Prod.mk.injEq] at hsh; exact hsh.2.symm
          · cases hsh
        · cases hsh
      subst hm
      have hload := sh.2.2.2 m (Nat.le_refl _)
      rw [List.take_of_length_le (by rw [sh.2.2.1]; exact Nat.le_refl _), hns, emb_slice] at hload
      simp only [Builtin.firstCells, Nat.mul_one] at hload
      rw [emb_slice]
      have := fun cc => run_runesToString w _ m cc ns hload
      simp only [convert, Sem.run_bind, run_underlying hs, run_underlying hd, run_underlying he, Result.andThen_ok, emb_str]
      exact this _
    · cases h
  · rename_i e hs hd
    simp only [ok, Option.some.injEq, Prod.mk.injEq] at h
    obtain ⟨rfl, rfl⟩ := h
    exact ⟨_, rfl, Val.pure hw (by simp [convert, run_underlying hs, run_underlying hd, Conv.unsafePointer]) rfl⟩
  · rename_i t k o hs hd
    split at h
    · rename_i cs e m fz sz hk hz
      split at h
      · rename_i ho
        simp only [ok, Option.some.injEq, Prod.mk.injEq] at h
        obtain ⟨rfl, rfl⟩ := h
        obtain ⟨j, hj, hjs⟩ := Option.map_eq_some_iff.1 hz
        obtain ⟨_, C, z, hC, hcs, _⟩ := hw.objs k _ hk
        have h1 := hcs o cs[o] (List.getElem?_eq_getElem ho)
        have h2 := (Array.getElem?_eq_some_iff.1 h1).1
        refine ⟨_, rfl, Val.pure hw ?_ (by simpa using (List.getElem?_eq_some_iff.1 hk).1)⟩
        exact Lib.run_to_unsafe w ⟨(ρ k).block, (ρ k).off + o, none⟩ hs hd hj (by omega) (cells := C.size) (e := e) (by simp [World.shape?, hC]) h2
      · cases h
    · cases h
  · rename_i e hs hd
    simp only [ok, Option.some.injEq, Prod.mk.injEq] at h
    obtain ⟨rfl, rfl⟩ := h
    exact ⟨_, rfl, Val.pure hw (by simp [convert, run_underlying hs, run_underlying hd, Conv.unsafePointer]) rfl⟩
  · rename_i u k o hs hd
    split at h
    · rename_i cs e fz sz hk hz
      split at h
      · rename_i ho
        simp only [ok, Option.some.injEq, Prod.mk.injEq] at h
        obtain ⟨rfl, rfl⟩ := h
        obtain ⟨j, hj, hjs⟩ := Option.map_eq_some_iff.1 hz
        obtain ⟨_, C, z, hC, hcs, hm⟩ := hw.objs k _ hk
        simp only at hm
        refine ⟨_, rfl, Val.pure hw ?_ (by simpa using (List.getElem?_eq_some_iff.1 hk).1)⟩
        exact Lib.run_from_unsafe w ⟨(ρ k).block, (ρ k).off + o, none⟩ hs hd hj (cells := C.size) (e := e) (by simp [World.shape?, hC]) (by rw [hm.2.2.1, hm.2.2.2, Nat.zero_add]; exact ho)
      · cases h
    · cases h
  · cases h

/-! ### copy, len, min, max -/

theorem copyV_run (hw : WR E N ρ H w) {wr esc : Nat} {t u ty e : TypeId} (ht : E.P.underlying t = some (.slice e)) {d s : V} {r : R} {H' : Hp} (h : copyV E.P e d s ⟨H, wr, esc⟩ = some (r, H')) :
    ∃ v, r = .val v ∧ Val E N ρ H w (Builtin.copy_ #[t, u] ty #[d.emb ρ, s.emb ρ]) v H'.objs := by
  unfold copyV at h
  split at h
  · rename_i size hse
    split at h
    · simp only [ok, Option.some.injEq, Prod.mk.injEq] at h
      obtain ⟨rfl, rfl⟩ := h
      exact ⟨_, rfl, Val.pure hw (by simp [Builtin.copy_, run_underlying ht, run_sizeT hse, Builtin.lenOf, Builtin.firstCells, goInt]) rfl⟩
    · rename_i k o n c
      simp only [ok, Option.some.injEq, Prod.mk.injEq] at h
      obtain ⟨rfl, rfl⟩ := h
      refine ⟨_, rfl, Val.pure hw ?_ rfl⟩
      have : (loadCells ⟨(ρ k).block, (ρ k).off + o, none⟩ 0).run E.P w = .ok #[] w := by simp [loadCells, loadCellsFrom]
      simp [Builtin.copy_, run_underlying ht, run_sizeT hse, Builtin.lenOf, Builtin.firstCells, goInt, emb_slice, this]
    · simp only [ok, Option.some.injEq, Prod.mk.injEq] at h
      obtain ⟨rfl, rfl⟩ := h
      exact ⟨_, rfl, Val.pure hw (by simp [Builtin.copy_, run_underlying ht, run_sizeT hse, Builtin.lenOf, Builtin.firstCells, goInt]) rfl⟩
    · cases h
  · rename_i size k o dl c hse
    split at h
    · rename_i cs sl hsh
      have sh := shown_run hw hsh
      have hfc := sh.2.2.2 (min sl dl) (Nat.min_le_left _ _)
      simp only at h
      split at h
      · rename_i hn
        simp only [ok, Option.some.injEq, Prod.mk.injEq] at h
        obtain ⟨rfl, rfl⟩ := h
        refine ⟨_, rfl, Val.pure hw ?_ rfl⟩
        rw [hn] at hfc
        simp only [Nat.zero_mul, List.take_zero, List.map_nil] at hfc
        have hn' : Nat.min sl dl = 0 := hn
        simp [Builtin.copy_, run_underlying ht, run_sizeT hse, sh.1, emb_slice, hn', hfc, storeCells, goInt]
      · simp only [Option.map_eq_some_iff, Prod.mk.injEq] at h
        obtain ⟨H1, hput, rfl, rfl⟩ := h
        obtain ⟨w', p1, p2, p3⟩ := putCells_run hw (ltL_take sh.2.1) hput
        refine ⟨_, rfl, ρ, w', ?_, p2, p3, rfl⟩
        have hn' : Nat.min sl dl = min sl dl := rfl
        rw [List.map_take] at p1
        simp [Builtin.copy_, run_underlying ht, run_sizeT hse, sh.1, emb_slice, hn', hfc, p1, goInt]
    · cases h
  · cases h

theorem lenV_run (hw : WR E N ρ H w) {wr esc : Nat} {t ty : TypeId} {ats : List TypeId} {x v : V} (h : lenV E.P t x ⟨H, wr, esc⟩ = some v) :
    (Builtin.len_ (t :: ats).toArray ty #[x.emb ρ]).run E.P w = .ok (v.emb ρ) w ∧ v.flat = true := by
  unfold lenV at h
  split at h
  · rename_i s hu; simp only [Option.some.injEq] at h; subst h; exact ⟨by simp [Builtin.len_, run_underlying hu, goInt, str_size], rfl⟩
  · rename_i n x' hu; simp only [Option.some.injEq] at h; subst h; exact ⟨by simp [Builtin.len_, run_underlying hu, goInt], rfl⟩
  · rename_i e k o n c hu; simp only [Option.some.injEq] at h; subst h; exact ⟨by simp [Builtin.len_, run_underlying hu, goInt, emb_slice], rfl⟩
  · rename_i e hu; simp only [Option.some.injEq] at h; subst h; exact ⟨by simp [Builtin.len_, run_underlying hu, goInt], rfl⟩
  · rename_i a b hu; simp only [Option.some.injEq] at h; subst h; exact ⟨by simp [Builtin.len_, run_underlying hu, goInt], rfl⟩
  · rename_i a b k hu
    split at h
    · rename_i es c hk
      simp only [Option.some.injEq] at h
      subst h
      exact ⟨by simp [Builtin.len_, run_underlying hu, goInt, getObj_run hw hk], rfl⟩
    · cases h
  · rename_i a x' hu
    split at h
    · rename_i n e hu2; simp only [Option.some.injEq] at h; subst h; exact ⟨by simp [Builtin.len_, run_underlying hu, run_underlying hu2, goInt], rfl⟩
    · cases h
  · cases h

theorem minV_run (n : Nat) (ρ : Nat → Loc) (w : World) : ∀ (r : List V) (x v : V), x.lt n = true → minV x r = some v → ((r.map (V.emb ρ)).foldlM Builtin.min2 (x.emb ρ)).run P w = .ok (v.emb ρ) w ∧ v.lt n = true
  | [], x, v, hx, h => by simp only [minV, Option.some.injEq] at h; subst h; exact ⟨rfl, hx⟩
  | y :: r, x, v, hx, h => by
    unfold minV at h
    split at h
    · rename_i e; cases e
    · rename_i k a k' b r' e
      simp only [List.cons.injEq] at e
      obtain ⟨rfl, rfl⟩ := e
      have := minV_run n ρ w _ _ v rfl h
      simp only [List.map_cons, List.foldlM_cons, emb_int, Builtin.min2, Sem.run_bind, Sem.run_pure, Result.andThen_ok]
      exact this
    · cases h

theorem maxV_run (n : Nat) (ρ : Nat → Loc) (w : World) : ∀ (r : List V) (x v : V), x.lt n = true → maxV x r = some v → ((r.map (V.emb ρ)).foldlM Builtin.max2 (x.emb ρ)).run P w = .ok (v.emb ρ) w ∧ v.lt n = true
  | [], x, v, hx, h => by simp only [maxV, Option.some.injEq] at h; subst h; exact ⟨rfl, hx⟩
  | y :: r, x, v, hx, h => by
    unfold maxV at h
    split at h
    · rename_i e; cases e
    · rename_i k a k' b r' e
      simp only [List.cons.injEq] at e
      obtain ⟨rfl, rfl⟩ := e
      have := maxV_run n ρ w _ _ v rfl h
      simp only [List.map_cons, List.foldlM_cons, emb_int, Builtin.max2, Sem.run_bind, Sem.run_pure, Result.andThen_ok]
      exact this
    · cases h

/-! ### Iterators, made slices -/

theorem rangeV_run (hw : WR E N ρ H w) {wr esc : Nat} {t : TypeId} {x : V} {r : R} {H' : Hp} (h : rangeV E.P t x ⟨H, wr, esc⟩ = some (r, H')) :
    ∃ v, r = .val v ∧ Val E N ρ H w (Instr.range t (x.emb ρ)) v H'.objs := by
  unfold rangeV at h
  split at h
  · rename_i s hu
    simp only [ok, Option.some.injEq, Prod.mk.injEq] at h
    obtain ⟨rfl, rfl⟩ := h
    have := hw.new (w' := w.alloc (.stringIter ⟨⟨s⟩⟩ 0)) (.iter s 0) ⟨w.heap.size, 0, 0, 0⟩ (by simp) (fun b hb => RowKit.Below.heap_alloc w _ b hb) rfl rfl rfl rfl (ltL_nil _)
      (fun ρ' _ => ⟨heap_alloc_new w _, hw.low, rfl⟩)
    exact ⟨_, rfl, _, _, by simp [Instr.range, run_underlying hu, Hp.size], this.1, this.2, by simp [Hp.size, Hp.new]⟩
  · cases h

theorem nextV_run (hw : WR E N ρ H w) {wr esc : Nat} {it : V} {isS : Bool} {ty : TypeId} {r : R} {H' : Hp} (h : nextV it isS ⟨H, wr, esc⟩ = some (r, H')) :
    ∃ v, r = .val v ∧ Val E N ρ H w (Instr.next (it.emb ρ) isS ty) v H'.objs := by
  unfold nextV at h
  split at h
  · rename_i k
    split at h
    · rename_i s pos hk
      simp only at hk
      obtain ⟨h1, h2, h3⟩ := hw.objs k _ hk
      have hlt : (ρ k).block < w.heap.size := (Array.getElem?_eq_some_iff.1 h1).1
      have hget : (getObj (ρ k).block).run E.P w = .ok (.stringIter ⟨⟨s⟩⟩ pos) w := by simp [getObj, Sem.run, h1]
      split at h
      · rename_i hp
        simp only [ok, Option.some.injEq, Prod.mk.injEq] at h
        obtain ⟨rfl, rfl⟩ := h
        refine ⟨_, rfl, ?_⟩
        have hwr := hw.write (w' := { w with heap := w.heap.setIfInBounds (ρ k).block (.stringIter ⟨⟨s⟩⟩ (pos + (decode (s.drop pos)).2)) }) (o' := .iter s (pos + (decode (s.drop pos)).2)) hk rfl rfl rfl rfl (by simp)
          (fun b hb => by show (w.heap.setIfInBounds _ _)[b]? = _; rw [Array.getElem?_setIfInBounds_ne (Ne.symm hb)]) (ltL_nil _)
          ⟨by show (w.heap.setIfInBounds _ _)[_]? = _; rw [Array.getElem?_setIfInBounds_self_of_lt hlt], h2, h3⟩
        refine ⟨ρ, _, ?_, hwr.1, hwr.2, rfl⟩
        have hd := decode_run s pos hp
        have hset : (setObj (ρ k).block (.stringIter ⟨⟨s⟩⟩ (pos + (decode (s.drop pos)).2))).run E.P w = .ok () { w with heap := w.heap.setIfInBounds (ρ k).block (.stringIter ⟨⟨s⟩⟩ (pos + (decode (s.drop pos)).2)) } := by
          simp [setObj, Sem.run, h1]
        simp only [emb_ptr, h3, Nat.zero_add, Instr.next, Sem.run_bind, hget, Result.andThen_ok, str_size, hp, if_true, hd, hset, Sem.run_pure]
        simp [goInt]
      · rename_i hp
        simp only [ok, Option.some.injEq, Prod.mk.injEq] at h
        obtain ⟨rfl, rfl⟩ := h
        refine ⟨_, rfl, Val.pure hw ?_ rfl⟩
        simp only [emb_ptr, h3, Nat.zero_add, Instr.next, Sem.run_bind, hget, Result.andThen_ok, str_size, hp, if_false, Sem.run_pure]
        simp
    · cases h
  · cases h

theorem newVar_run (hw : WR E N ρ H w) {wr esc : Nat} {v : V} {e : TypeId} {H' : Hp} (hv : v.lt H.length = true) (h : newCells ⟨H, wr, esc⟩ v.cells e .rw = some H') :
    Val E N ρ H w (do pure (.pointer (some (← newVar e (v.emb ρ))))) (.ptr H.length 0) H'.objs := by
  have := newCells_run hw (ltL_cells hv) h 0
  refine ⟨_, _, ?_, this.2.1, this.2.2.1, by rw [this.2.2.2]; simp⟩
  simp only [newVar, emb_cells, Sem.run_bind, this.1, Result.andThen_ok, Sem.run_pure, emb_ptr, upd_same]

theorem makeSliceV_run (hw : WR E N ρ H w) {wr esc : Nat} {t : TypeId} {l c : V} {r : R} {H' : Hp} (h : makeSliceV E.P t l c ⟨H, wr, esc⟩ = some (r, H')) :
    ∃ v, r = .val v ∧ Val E N ρ H w (Instr.makeSlice t (l.emb ρ) (c.emb ρ)) v H'.objs := by
  unfold makeSliceV at h
  split at h
  · rename_i e kl len kc cap hu
    split at h
    · rename_i b z n hb hz hs
      split at h
      · rename_i hc
        obtain ⟨c1, c2, c3, c4, c5⟩ := hc
        simp only [Option.map_eq_some_iff, Prod.mk.injEq] at h
        obtain ⟨H1, hnew, rfl, rfl⟩ := h
        refine ⟨_, rfl, ?_⟩
        have hz' := run_zeroT hz ρ w
        have hzl : ltL H.length (zeros z.cells cap.toNat) := zeros_lt (ltL_cells (lt_flat hz'.2 _)) _
        have hn := newCells_run hw hzl hnew 0
        obtain ⟨i, hi, hib⟩ := run_bytesT hb
        have e1 : IntKind.i64.wrap len = len := by simp only [IntKind.wrap, IntKind.bits, IntKind.signed]; simp; omega
        have e2 : IntKind.i64.wrap cap = cap := by simp only [IntKind.wrap, IntKind.bits, IntKind.signed]; simp; omega
        refine ⟨_, _, ?_, hn.2.1, hn.2.2.1, by rw [hn.2.2.2]; simp [Hp.size]⟩
        have hlarge : ∀ m : Int, 0 ≤ m → m ≤ cap → (decide (m < 0) || decide ((b : Int) * m > 2 ^ 48)) = false := fun m h0 h1 => by
          have : (b : Int) * m ≤ (b : Int) * cap := Int.mul_le_mul_of_nonneg_left h1 (by omega)
          simp
          omega
        have hcells : (if cap.toNat * n = 0 then (pure #[] : Sem (Array Value)) else do pure (← zeroValue e).cells).run E.P w = .ok (if cap.toNat * n = 0 then #[] else (z.emb ρ).cells) w := by
          split
          · rfl
          · simp [hz'.1]
        have hfin : (Array.range (cap.toNat * n)).map (fun i => (if cap.toNat * n = 0 then #[] else (z.emb ρ).cells)[i % (if cap.toNat * n = 0 then #[] else (z.emb ρ).cells).size]!) = ((zeros z.cells cap.toNat).map (V.emb ρ)).toArray := by
          by_cases h0 : cap.toNat * n = 0
          · have : zeros z.cells cap.toNat = [] := List.eq_nil_of_length_eq_zero (by rw [zeros_length, c5, h0])
            rw [h0, this]
            simp
          · simp only [if_neg h0, emb_cells]
            exact zeros_emb z.cells cap.toNat n c5 ρ
        have hti : (typeInfo e).run E.P w = .ok i w := by simp [typeInfo, hi]
        have k1 := hlarge cap (by omega) (by omega)
        simp only [emb_int, Instr.makeSlice, Sem.run_bind, run_underlying hu, Result.andThen_ok, asInt, asIntOf, Sem.run_pure, hti, e1, e2, hib, k1]
        rw [if_neg (by simp; omega)]
        simp only [Sem.run_bind, run_askRoom, Result.andThen_ok, run_sizeT hs]
        by_cases h0 : cap.toNat * n = 0
        · simp only [if_pos h0, Sem.run_bind, Sem.run_pure, Result.andThen_ok] at hfin ⊢
          rw [hfin, hn.1]
          simp [Hp.size]
        · simp only [if_neg h0, Sem.run_bind, hz'.1, Sem.run_pure, Result.andThen_ok] at hfin ⊢
          rw [hfin, hn.1]
          simp [Hp.size]
      · cases h
    · cases h
  · cases h


/-! ### unsafe.String -/

theorem liesAt_bytes_at {P : Program} {e : TypeId} (hc : P.cellsOf e = 1) (count off n : Nat) (hn : off + n ≤ count) : liesAt P P.depth e count off e n = true := by
  have hd : P.depth = (2 * (P.types.size + Made.depth) + 1) + 1 := rfl
  rw [hd]
  simp only [liesAt, Bool.or_eq_true]
  left
  rw [hd]
  simp [rowAt, hc, hn, sameLayout, Nat.mod_one]

theorem run_unsafeString_at (w : World) (pt it ty e : TypeId) (hp : E.P.underlying pt = some (.pointer e)) (hc : E.P.cellsOf e = 1) (g off cells : Nat) (hsh : w.shape? g = some (e, cells)) (l : List UInt8) (h0 : l ≠ []) (hn : off + l.length ≤ cells) (h63 : l.length ≤ 9223372036854775807)
    (hcell : ∀ j x, l[j]? = some x → w.cell? ((⟨g, off, none⟩ : Addr).add j) = some (.int .u8 x.toNat)) :
    (Builtin.unsafeString_ #[pt, it] ty #[.pointer (some ⟨g, off, none⟩), .int .i64 l.length]).run E.P w = .ok (.string ⟨l.toArray⟩) (w.freeze ⟨g, off, none⟩ l.length) := by
  have hl : l.length ≠ 0 := by simpa using h0
  have hlb := Lib.run_loadBytes (P := E.P) w l ⟨g, off, none⟩ .empty hcell
  have hlies := liesAt_bytes_at (P := E.P) hc (cells / E.P.cellsOf e) off l.length (by rw [hc]; simpa using hn)
  have h63' : ¬ (9223372036854775807 : Int) < (l.length : Int) := by omega
  have hdef : Builtin.unsafeString_ #[pt, it] ty #[.pointer (some ⟨g, off, none⟩), .int .i64 l.length] =
      (do
        let n ← asInt (.int .i64 l.length)
        if n < 0 then runtimePanic (.error "unsafe.String: len out of range")
        if n > IntKind.i64.max then unsupported (.unsafePointer "String: a length above the largest int")
        if n = 0 then pure (.string .empty)
        else if ← variablesAt ⟨g, off, none⟩ (← elemOf pt) n.toNat then do
          let s ← loadBytes ⟨g, off, none⟩ .empty n.toNat
          freeze ⟨g, off, none⟩ n.toNat
          pure (.string s)
        else unsupported (.unsafePointer "String: not so many bytes at ptr")) := rfl
  rw [hdef]
  have hmax : IntKind.i64.max = 9223372036854775807 := rfl
  have hneg : ¬ (l.length : Int) < 0 := by omega
  simp [asInt, asIntOf, hmax, h63', hneg, hl, variablesAt, hsh, elemOf, run_underlying hp, hlies, hlb]

theorem bytesS_cells : ∀ (cs : List V) (s : List UInt8), bytesS cs = some s → s.length = cs.length ∧ ∀ (ρ : Nat → Loc) (j : Nat) (x : UInt8), s[j]? = some x → ∃ v, cs[j]? = some v ∧ v.emb ρ = .int .u8 x.toNat := by
  intro cs
  induction cs with
  | nil => intro s h; simp only [bytesS, Option.some.injEq] at h; subst h; exact ⟨rfl, fun ρ j x h => by simp at h⟩
  | cons v r ih =>
    intro s h
    unfold bytesS at h
    split at h
    · rename_i he; cases he
    · rename_i n r' he
      simp only [List.cons.injEq] at he
      obtain ⟨rfl, rfl⟩ := he
      split at h
      · rename_i hn
        simp only [Option.map_eq_some_iff] at h
        obtain ⟨s', hs, rfl⟩ := h
        obtain ⟨h1, h2⟩ := ih s' hs
        refine ⟨by simp [h1], fun ρ j x hx => ?_⟩
        cases j with
        | zero =>
          simp only [List.getElem?_cons_zero, Option.some.injEq] at hx
          subst hx
          refine ⟨_, rfl, ?_⟩
          simp only [emb_int]
          congr 1
          simp
          omega
        | succ j => exact h2 ρ j x (by simpa using hx)
      · cases h
    · cases h

theorem freeze_other (w : World) (g off n : Nat) (b : Nat) (hb : b ≠ g) : (w.freeze ⟨g, off, none⟩ n).heap[b]? = w.heap[b]? := by
  unfold World.freeze
  split
  · rfl
  · simp only
    rw [Array.getElem?_modify, if_neg (Ne.symm hb)]

theorem unsafeString_run (hw : WR E N ρ H w) {wr esc k o : Nat} {n : Int} {cs : List V} {e pt it ty : TypeId} {m : Mode} (hm0 : m ≠ .ro) (hk : H[k]? = some (.cells cs e m false)) (hp : E.P.underlying pt = some (.pointer e)) (hz : sizeT E.P e = some 1) (h0 : 0 < n) (h63 : n ≤ 9223372036854775807) (hle : o + n.toNat ≤ cs.length) {s : List UInt8} (hs : bytesS ((cs.drop o).take n.toNat) = some s) :
    Val E N ρ H w (Builtin.unsafeString_ #[pt, it] ty #[(V.ptr k o).emb ρ, (V.int .i64 n).emb ρ]) (.str s) ((⟨H, wr, esc⟩ : Hp).write k .dead true).objs := by
  obtain ⟨h1, C, z, hC, hcs, hm⟩ := hw.objs k _ hk
  have hsz : (ρ k).off + cs.length ≤ C.size := by
    cases m with
    | ro => exact absurd rfl hm0
    | rw => obtain ⟨_, _, m3, m4⟩ := hm; omega
    | grown => obtain ⟨_, _, _, m4, m5, _⟩ := hm; omega
  have hown : (AObj.cells cs e m false).own = true := by
    cases m with
    | ro => exact absurd rfl hm0
    | rw => rfl
    | grown => rfl
  obtain ⟨hlen, hby⟩ := bytesS_cells _ s hs
  have hsl : s.length = n.toNat := by rw [hlen]; simp; omega
  have hn : n = (s.length : Int) := by omega
  have hcell : ∀ j x, s[j]? = some x → w.cell? ((⟨(ρ k).block, (ρ k).off + o, none⟩ : Addr).add j) = some (.int .u8 x.toNat) := by
    intro j x hx
    obtain ⟨v, hv, he⟩ := hby ρ j x hx
    rw [add_off]
    have hv' : cs[o + j]? = some v := by
      rw [List.getElem?_take] at hv
      split at hv
      · rw [List.getElem?_drop] at hv; exact hv
      · cases hv
    have := hcs (o + j) v hv'
    rw [← Nat.add_assoc] at this
    rw [← he]
    simp [World.cell?, hC, this]
  have hrun := run_unsafeString_at (E := E) w pt it ty e hp (by
      obtain ⟨j, hj, hjs⟩ := Option.map_eq_some_iff.1 hz
      simp [Program.cellsOf, hj, hjs]) (ρ k).block ((ρ k).off + o) C.size (by simp [World.shape?, hC]) s (by intro e; subst e; simp at hsl; omega) (by omega) (by omega) hcell
  have hwrite := hw.write (w' := w.freeze ⟨(ρ k).block, (ρ k).off + o, none⟩ s.length) (k := k) (o := .cells cs e m false) (o' := .dead) hk hown
    (by unfold World.freeze; split <;> rfl) (by unfold World.freeze; split <;> rfl) (by unfold World.freeze; split <;> rfl) (by unfold World.freeze; split <;> simp)
    (fun b hb => freeze_other w _ _ _ b hb) (ltL_nil _) trivial
  refine ⟨ρ, _, ?_, hwrite.1, hwrite.2, rfl⟩
  rw [hn]
  exact hrun

end Go.Am
