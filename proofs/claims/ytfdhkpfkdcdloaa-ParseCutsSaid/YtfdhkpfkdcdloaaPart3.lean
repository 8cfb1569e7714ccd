/-
  Texts of this session, one behind the other: AmOps8, AmOps9, AmCode, AmSound.
-/
import Derived.Test.YtfdhkpfkdcdloaaPart2
import Derived.Lib.Builder
import Derived.Lib.UnsafeStr
namespace Go.Am
open Go

variable {P : Program} {E : Env} {N : Nat} {ρ : Nat → Loc} {H : List AObj} {w : World}

theorem conv_bytes (hw : WR E N ρ H w) {src dst e : TypeId} {u : TypeDesc} {s : List UInt8} (hs : E.P.underlying src = some u) (hd : E.P.underlying dst = some (.slice e)) (he : E.P.underlying e = some (.int .u8)) (hz : sizeT E.P e = some 1)
 (hlen : s.length ≤ maxLen) :
 Val E N ρ H w (convert src dst (.string ⟨⟨s⟩⟩)) (.slice H.length 0 s.length none) (H ++ [.cells (s.map byteV) e .grown false]) := by
 have hrun := Lib.run_convert_string_bytes (P := E.P) w src dst e ⟨⟨s⟩⟩ hs hd he
 have hmax : grownCap w s.length 0 e ≤ maxLen := grownCap_le_maxLen w _ _ _ hlen
 have hge := grownCap_ge w s.length 0 e
 have hcs : (Lib.bytesCells w e ⟨⟨s⟩⟩).size = grownCap w s.length 0 e * 1 := by
  simp [Lib.bytesCells, str_size]
  omega
 have hg := hw.grow (w' := Lib.bytesWorld w e ⟨⟨s⟩⟩) (cs := s.map byteV) (C := Lib.bytesCells w e ⟨⟨s⟩⟩) (q := grownCap w s.length 0 e) (sz := 1) false (Lib.bytesWorld_size w e _) (fun b hb => Lib.bytesWorld_at_old w e _ b hb)
  rfl rfl rfl (Lib.bytesWorld_at_new w e _) (fun v hv => by obtain ⟨b, _, rfl⟩ := List.mem_map.1 hv; rfl) (fun v hv => by obtain ⟨b, _, rfl⟩ := List.mem_map.1 hv; rfl)
  (fun i v hi => by
   have hlt : i < s.length := by have := (List.getElem?_eq_some_iff.1 hi).1; simpa using this
   simp only [List.getElem?_map, Option.map_eq_some_iff] at hi
   obtain ⟨b, hb, rfl⟩ := hi
   rw [Lib.bytesCells, Array.getElem?_append_left (by simpa using hlt)]
   simp [hb, byteV])
  (fun i _ h2 h3 => by omega) hcs (by rw [hcs]; simp; omega) hz (by omega) hmax
 refine ⟨_, _, ?_, hg.1, hg.2, by simp⟩
 rw [hrun]
 simp [str_size]

theorem conv_runes (hw : WR E N ρ H w) {src dst e : TypeId} {u : TypeDesc} {s : List UInt8} (hs : E.P.underlying src = some u) (hd : E.P.underlying dst = some (.slice e)) (he : E.P.underlying e = some (.int .i32)) (hz : sizeT E.P e = some 1)
 (hlen : (runes s.length s).length ≤ maxLen) :
 Val E N ρ H w (convert src dst (.string ⟨⟨s⟩⟩)) (.slice H.length 0 (runes s.length s).length none) (H ++ [.cells ((runes s.length s).map fun r => .int .i32 (Int.ofNat r)) e .grown false]) := by
 have hr := runesFrom_run s s.length 0 []
 rw [List.drop_zero, List.nil_append] at hr
 have hmax : grownCap w (runes s.length s).length 0 e ≤ maxLen := grownCap_le_maxLen w _ _ _ hlen
 have hge := grownCap_ge w (runes s.length s).length 0 e
 have hrun : (convert src dst (.string ⟨⟨s⟩⟩)).run E.P w = .ok (.slice (some ⟨w.heap.size, 0, none⟩) (runes s.length s).length (grownCap w (runes s.length s).length 0 e))
  (w.drew.alloc (.cells (((runes s.length s).map fun r => Value.int .i32 (Int.ofNat r)).toArray ++ Array.replicate (grownCap w (runes s.length s).length 0 e - (runes s.length s).length) (.int .i32 0)) e)) := by
  simp only [convert, Sem.run_bind, run_underlying hs, run_underlying hd, run_underlying he, Result.andThen_ok, Conv.stringToRunes, str_size]
  rw [show (#[] : Array Value) = ([] : List Value).toArray from rfl, hr]
  simp [Question.forced, newRow, grownCap]
 have hsz : (((runes s.length s).map fun r => Value.int .i32 (Int.ofNat r)).toArray ++ Array.replicate (grownCap w (runes s.length s).length 0 e - (runes s.length s).length) (Value.int .i32 0)).size = grownCap w (runes s.length s).length 0 e * 1 := by
  simp
  omega
 have hg := hw.grow (cs := (runes s.length s).map fun r => .int .i32 (Int.ofNat r)) (q := grownCap w (runes s.length s).length 0 e) (sz := 1) (e := e) false
  (w' := w.drew.alloc (.cells (((runes s.length s).map fun r => Value.int .i32 (Int.ofNat r)).toArray ++ Array.replicate (grownCap w (runes s.length s).length 0 e - (runes s.length s).length) (.int .i32 0)) e))
  (by simp) (fun b hb => RowKit.Below.heap_alloc w.drew _ b hb) rfl rfl rfl (heap_alloc_new w.drew _) (fun v hv => by obtain ⟨b, _, rfl⟩ := List.mem_map.1 hv; rfl) (fun v hv => by obtain ⟨b, _, rfl⟩ := List.mem_map.1 hv; rfl)
  (fun i v hi => by
   have hlt : i < (runes s.length s).length := by have := (List.getElem?_eq_some_iff.1 hi).1; simpa using this
   simp only [List.getElem?_map, Option.map_eq_some_iff] at hi
   obtain ⟨b, hb, rfl⟩ := hi
   rw [Array.getElem?_append_left (by simpa using hlt)]
   simp [hb])
  (fun i _ _ hzz => by simp at hzz) hsz (by rw [hsz]; simp; omega) hz (by omega) hmax
 refine ⟨_, _, ?_, hg.1, hg.2, by simp⟩
 rw [hrun]
 simp

theorem convV_run (hw : WR E N ρ H w) {wr esc : Nat} {src dst : TypeId} {x : V} {r : R} {H' : Hp} (h : convV E.P src dst x ⟨H, wr, esc⟩ = some (r, H')) :
 ∃ v, r = .val v ∧ Val E N ρ H w (convert src dst (x.emb ρ)) v H'.objs := by
 unfold convV at h
 split at h
 ·rename_i d k k' n hs hd
  simp only [ok, Option.some.injEq, Prod.mk.injEq] at h
  obtain ⟨rfl, rfl⟩ := h
  exact ⟨_, rfl, Val.pure hw (by simp [convert, run_underlying hs, run_underlying hd, Conv.intToInt]) rfl⟩
 ·rename_i d k n hs hd
  simp only [ok, Option.some.injEq, Prod.mk.injEq] at h
  obtain ⟨rfl, rfl⟩ := h
  exact ⟨_, rfl, Val.pure hw (by simp [convert, run_underlying hs, run_underlying hd, Conv.intToString, encode_run]) rfl⟩
 ·rename_i d s hs hd
  simp only [ok, Option.some.injEq, Prod.mk.injEq] at h
  obtain ⟨rfl, rfl⟩ := h
  exact ⟨_, rfl, Val.pure hw (by simp [convert, run_underlying hs, run_underlying hd]) rfl⟩
 ·rename_i d e s hs hd
  split at h
  ·rename_i he hz
   split at h
   ·rename_i hl
    simp only [ok, Option.some.injEq, Prod.mk.injEq] at h
    obtain ⟨rfl, rfl⟩ := h
    exact ⟨_, rfl, conv_bytes hw hs hd he hz (by simp only [maxLen]; omega)⟩
   ·cases h
  ·rename_i he hz
   split at h
   ·rename_i hl
    simp only [ok, Option.some.injEq, Prod.mk.injEq] at h
    obtain ⟨rfl, rfl⟩ := h
    exact ⟨_, rfl, conv_runes hw hs hd he hz (by simp only [maxLen]; omega)⟩
   ·cases h
  ·cases h
 ·rename_i e hs hd
  split at h
  ·rename_i he
   simp only [ok, Option.some.injEq, Prod.mk.injEq] at h
   obtain ⟨rfl, rfl⟩ := h
   exact ⟨_, rfl, Val.pure hw (by simp [convert, run_underlying hs, run_underlying hd, run_underlying he, Conv.bytesToString]; rfl) rfl⟩
  ·rename_i he
   simp only [ok, Option.some.injEq, Prod.mk.injEq] at h
   obtain ⟨rfl, rfl⟩ := h
   exact ⟨_, rfl, Val.pure hw (by simp [convert, run_underlying hs, run_underlying hd, run_underlying he, Conv.runesToString]; rfl) rfl⟩
  ·cases h
 ·rename_i e c hs hd
  split at h
  ·rename_i he
   simp only [ok, Option.some.injEq, Prod.mk.injEq] at h
   obtain ⟨rfl, rfl⟩ := h
   exact ⟨_, rfl, Val.pure hw (by simp [convert, run_underlying hs, run_underlying hd, run_underlying he, Conv.bytesToString, loadCells, loadCellsFrom]; rfl) rfl⟩
  ·rename_i he
   simp only [ok, Option.some.injEq, Prod.mk.injEq] at h
   obtain ⟨rfl, rfl⟩ := h
   exact ⟨_, rfl, Val.pure hw (by simp [convert, run_underlying hs, run_underlying hd, run_underlying he, Conv.runesToString, loadCells, loadCellsFrom]; rfl) rfl⟩
  ·cases h
 ·rename_i e k o n c hs hd
  split at h
  ·rename_i cs m he hsh
   simp only [okO, Option.map_eq_some_iff, Prod.mk.injEq] at h
   obtain ⟨y, ⟨s, hbs, rfl⟩, rfl, rfl⟩ := h
   refine ⟨_, rfl, Val.pure hw ?_ rfl⟩
   have sh := shown_run hw hsh
   obtain ⟨ns, hns, rfl⟩ := bytesOf_run cs s hbs ρ
   have hm : m = n := by
    unfold shown at hsh
    simp only at hsh
    split at hsh
    ·simp only [Option.some.injEq, Prod.mk.injEq] at hsh; omega
    split at hsh
    ·split at hsh
     ·simp only [Option.some.injEq, Prod.mk.injEq] at hsh; exact hsh.2.symm
     ·cases hsh
    ·cases hsh
   subst hm
   have hload := sh.2.2.2 m (Nat.le_refl _)
   rw [List.take_of_length_le (by rw [sh.2.2.1]; exact Nat.le_refl _), hns, emb_slice] at hload
   simp only [Builtin.firstCells, Nat.mul_one] at hload
   rw [emb_slice, run_convert_bytes_string w src dst e _ _ _ hs he hd, run_bytesToString w _ _ _ ns hload]
   rw [show (ByteArray.empty : ByteArray) = ⟨⟨[]⟩⟩ from rfl, foldl_push]
   simp
  ·rename_i cs m he hsh
   simp only [okO, Option.map_eq_some_iff, Prod.mk.injEq] at h
   obtain ⟨y, ⟨s, hbs, rfl⟩, rfl, rfl⟩ := h
   refine ⟨_, rfl, Val.pure hw ?_ rfl⟩
   have sh := shown_run hw hsh
   obtain ⟨ns, hns, rfl⟩ := runesOf_run cs s hbs ρ
   have hm : m = n := by
    unfold shown at hsh
    simp only at hsh
    split at hsh
    ·simp only [Option.some.injEq, Prod.mk.injEq] at hsh; omega
    split at hsh
    ·split at hsh
     ·simp only [Option.some.injEq, Prod.mk.injEq] at hsh; exact hsh.2.symm
     ·cases hsh
    ·cases hsh
   subst hm
   have hload := sh.2.2.2 m (Nat.le_refl _)
   rw [List.take_of_length_le (by rw [sh.2.2.1]; exact Nat.le_refl _), hns, emb_slice] at hload
   simp only [Builtin.firstCells, Nat.mul_one] at hload
   rw [emb_slice]
   have := fun cc => run_runesToString w _ m cc ns hload
   simp only [convert, Sem.run_bind, run_underlying hs, run_underlying hd, run_underlying he, Result.andThen_ok, emb_str]
   exact this _
  ·cases h
 ·rename_i e hs hd
  simp only [ok, Option.some.injEq, Prod.mk.injEq] at h
  obtain ⟨rfl, rfl⟩ := h
  exact ⟨_, rfl, Val.pure hw (by simp [convert, run_underlying hs, run_underlying hd, Conv.unsafePointer]) rfl⟩
 ·rename_i t k o hs hd
  split at h
  ·rename_i cs e m fz sz hk hz
   split at h
   ·rename_i ho
    simp only [ok, Option.some.injEq, Prod.mk.injEq] at h
    obtain ⟨rfl, rfl⟩ := h
    obtain ⟨j, hj, hjs⟩ := Option.map_eq_some_iff.1 hz
    obtain ⟨_, C, z, hC, hcs, _⟩ := hw.objs k _ hk
    have h1 := hcs o cs[o] (List.getElem?_eq_getElem ho)
    have h2 := (Array.getElem?_eq_some_iff.1 h1).1
    refine ⟨_, rfl, Val.pure hw ?_ (by simpa using (List.getElem?_eq_some_iff.1 hk).1)⟩
    exact Lib.run_to_unsafe w ⟨(ρ k).block, (ρ k).off + o, none⟩ hs hd hj (by omega) (cells := C.size) (e := e) (by simp [World.shape?, hC]) h2
   ·cases h
  ·cases h
 ·rename_i e hs hd
  simp only [ok, Option.some.injEq, Prod.mk.injEq] at h
  obtain ⟨rfl, rfl⟩ := h
  exact ⟨_, rfl, Val.pure hw (by simp [convert, run_underlying hs, run_underlying hd, Conv.unsafePointer]) rfl⟩
 ·rename_i u k o hs hd
  split at h
  ·rename_i cs e fz sz hk hz
   split at h
   ·rename_i ho
    simp only [ok, Option.some.injEq, Prod.mk.injEq] at h
    obtain ⟨rfl, rfl⟩ := h
    obtain ⟨j, hj, hjs⟩ := Option.map_eq_some_iff.1 hz
    obtain ⟨_, C, z, hC, hcs, hm⟩ := hw.objs k _ hk
    simp only at hm
    refine ⟨_, rfl, Val.pure hw ?_ (by simpa using (List.getElem?_eq_some_iff.1 hk).1)⟩
    exact Lib.run_from_unsafe w ⟨(ρ k).block, (ρ k).off + o, none⟩ hs hd hj (cells := C.size) (e := e) (by simp [World.shape?, hC]) (by rw [hm.2.2.1, hm.2.2.2, Nat.zero_add]; exact ho)
   ·cases h
  ·cases h
 ·cases h

theorem copyV_run (hw : WR E N ρ H w) {wr esc : Nat} {t u ty e : TypeId} (ht : E.P.underlying t = some (.slice e)) {d s : V} {r : R} {H' : Hp} (h : copyV E.P e d s ⟨H, wr, esc⟩ = some (r, H')) :
 ∃ v, r = .val v ∧ Val E N ρ H w (Builtin.copy_ #[t, u] ty #[d.emb ρ, s.emb ρ]) v H'.objs := by
 unfold copyV at h
 split at h
 ·rename_i size hse
  split at h
  ·simp only [ok, Option.some.injEq, Prod.mk.injEq] at h
   obtain ⟨rfl, rfl⟩ := h
   exact ⟨_, rfl, Val.pure hw (by simp [Builtin.copy_, run_underlying ht, run_sizeT hse, Builtin.lenOf, Builtin.firstCells, goInt]) rfl⟩
  ·rename_i k o n c
   simp only [ok, Option.some.injEq, Prod.mk.injEq] at h
   obtain ⟨rfl, rfl⟩ := h
   refine ⟨_, rfl, Val.pure hw ?_ rfl⟩
   have : (loadCells ⟨(ρ k).block, (ρ k).off + o, none⟩ 0).run E.P w = .ok #[] w := by simp [loadCells, loadCellsFrom]
   simp [Builtin.copy_, run_underlying ht, run_sizeT hse, Builtin.lenOf, Builtin.firstCells, goInt, emb_slice, this]
  ·rename_i a
   simp only [ok, Option.some.injEq, Prod.mk.injEq] at h
   obtain ⟨rfl, rfl⟩ := h
   refine ⟨_, rfl, Val.pure hw ?_ rfl⟩
   have : (loadCells a 0).run E.P w = .ok #[] w := by simp [loadCells, loadCellsFrom]
   simp [Builtin.copy_, run_underlying ht, run_sizeT hse, Builtin.lenOf, Builtin.firstCells, goInt, this]
  ·simp only [ok, Option.some.injEq, Prod.mk.injEq] at h
   obtain ⟨rfl, rfl⟩ := h
   exact ⟨_, rfl, Val.pure hw (by simp [Builtin.copy_, run_underlying ht, run_sizeT hse, Builtin.lenOf, Builtin.firstCells, goInt]) rfl⟩
  ·cases h
 ·rename_i size k o dl c hse
  split at h
  ·rename_i cs sl hsh
   have sh := shown_run hw hsh
   have hfc := sh.2.2.2 (min sl dl) (Nat.min_le_left _ _)
   simp only at h
   split at h
   ·rename_i hn
    simp only [ok, Option.some.injEq, Prod.mk.injEq] at h
    obtain ⟨rfl, rfl⟩ := h
    refine ⟨_, rfl, Val.pure hw ?_ rfl⟩
    rw [hn] at hfc
    simp only [Nat.zero_mul, List.take_zero, List.map_nil] at hfc
    have hn' : Nat.min sl dl = 0 := hn
    simp [Builtin.copy_, run_underlying ht, run_sizeT hse, sh.1, emb_slice, hn', hfc, storeCells, goInt]
   ·simp only [Option.map_eq_some_iff, Prod.mk.injEq] at h
    obtain ⟨H1, hput, rfl, rfl⟩ := h
    obtain ⟨w', p1, p2, p3⟩ := putCells_run hw (ltL_take sh.2.1) hput
    refine ⟨_, rfl, ρ, w', ?_, p2, p3, rfl⟩
    have hn' : Nat.min sl dl = min sl dl := rfl
    rw [List.map_take] at p1
    simp [Builtin.copy_, run_underlying ht, run_sizeT hse, sh.1, emb_slice, hn', hfc, p1, goInt]
  ·cases h
 ·cases h

theorem lenV_run (hw : WR E N ρ H w) {wr esc : Nat} {t ty : TypeId} {ats : List TypeId} {x v : V} (h : lenV E.P t x ⟨H, wr, esc⟩ = some v) :
 (Builtin.len_ (t :: ats).toArray ty #[x.emb ρ]).run E.P w = .ok (v.emb ρ) w ∧ v.flat = true := by
 unfold lenV at h
 split at h
 ·rename_i s hu; simp only [Option.some.injEq] at h; subst h; exact ⟨by simp [Builtin.len_, run_underlying hu, goInt, str_size], rfl⟩
 ·rename_i n x' hu; simp only [Option.some.injEq] at h; subst h; exact ⟨by simp [Builtin.len_, run_underlying hu, goInt], rfl⟩
 ·rename_i e k o n c hu; simp only [Option.some.injEq] at h; subst h; exact ⟨by simp [Builtin.len_, run_underlying hu, goInt, emb_slice], rfl⟩
 ·rename_i e hu; simp only [Option.some.injEq] at h; subst h; exact ⟨by simp [Builtin.len_, run_underlying hu, goInt], rfl⟩
 ·rename_i e a hu; simp only [Option.some.injEq] at h; subst h; exact ⟨by simp [Builtin.len_, run_underlying hu, goInt], rfl⟩
 ·rename_i a b hu; simp only [Option.some.injEq] at h; subst h; exact ⟨by simp [Builtin.len_, run_underlying hu, goInt], rfl⟩
 ·rename_i a b k hu
  split at h
  ·rename_i es c hk
   simp only [Option.some.injEq] at h
   subst h
   exact ⟨by simp [Builtin.len_, run_underlying hu, goInt, getObj_run hw hk], rfl⟩
  ·cases h
 ·rename_i a x' hu
  split at h
  ·rename_i n e hu2; simp only [Option.some.injEq] at h; subst h; exact ⟨by simp [Builtin.len_, run_underlying hu, run_underlying hu2, goInt], rfl⟩
  ·cases h
 ·cases h

theorem minV_run (n : Nat) (ρ : Nat → Loc) (w : World) : ∀ (r : List V) (x v : V), x.lt n = true → minV x r = some v → ((r.map (V.emb ρ)).foldlM Builtin.min2 (x.emb ρ)).run P w = .ok (v.emb ρ) w ∧ v.lt n = true
 | [], x, v, hx, h => by simp only [minV, Option.some.injEq] at h; subst h; exact ⟨rfl, hx⟩
 | y :: r, x, v, hx, h => by
  unfold minV at h
  split at h
  ·rename_i e; cases e
  ·rename_i k a k' b r' e
   simp only [List.cons.injEq] at e
   obtain ⟨rfl, rfl⟩ := e
   have := minV_run n ρ w _ _ v rfl h
   simp only [List.map_cons, List.foldlM_cons, emb_int, Builtin.min2, Sem.run_bind, Sem.run_pure, Result.andThen_ok]
   exact this
  ·cases h

theorem maxV_run (n : Nat) (ρ : Nat → Loc) (w : World) : ∀ (r : List V) (x v : V), x.lt n = true → maxV x r = some v → ((r.map (V.emb ρ)).foldlM Builtin.max2 (x.emb ρ)).run P w = .ok (v.emb ρ) w ∧ v.lt n = true
 | [], x, v, hx, h => by simp only [maxV, Option.some.injEq] at h; subst h; exact ⟨rfl, hx⟩
 | y :: r, x, v, hx, h => by
  unfold maxV at h
  split at h
  ·rename_i e; cases e
  ·rename_i k a k' b r' e
   simp only [List.cons.injEq] at e
   obtain ⟨rfl, rfl⟩ := e
   have := maxV_run n ρ w _ _ v rfl h
   simp only [List.map_cons, List.foldlM_cons, emb_int, Builtin.max2, Sem.run_bind, Sem.run_pure, Result.andThen_ok]
   exact this
  ·cases h

theorem rangeV_run (hw : WR E N ρ H w) {wr esc : Nat} {t : TypeId} {x : V} {r : R} {H' : Hp} (h : rangeV E.P t x ⟨H, wr, esc⟩ = some (r, H')) :
 ∃ v, r = .val v ∧ Val E N ρ H w (Instr.range t (x.emb ρ)) v H'.objs := by
 unfold rangeV at h
 split at h
 ·rename_i s hu
  simp only [ok, Option.some.injEq, Prod.mk.injEq] at h
  obtain ⟨rfl, rfl⟩ := h
  have := hw.new (w' := w.alloc (.stringIter ⟨⟨s⟩⟩ 0)) (.iter s 0) ⟨w.heap.size, 0, 0, 0⟩ (by simp) (fun b hb => RowKit.Below.heap_alloc w _ b hb) rfl rfl rfl rfl (ltL_nil _)
   (fun ρ' _ => ⟨heap_alloc_new w _, hw.low, rfl⟩)
  exact ⟨_, rfl, _, _, by simp [Instr.range, run_underlying hu, Hp.size], this.1, this.2, by simp [Hp.size, Hp.new]⟩
 ·cases h

theorem nextV_run (hw : WR E N ρ H w) {wr esc : Nat} {it : V} {isS : Bool} {ty : TypeId} {r : R} {H' : Hp} (h : nextV it isS ⟨H, wr, esc⟩ = some (r, H')) :
 ∃ v, r = .val v ∧ Val E N ρ H w (Instr.next (it.emb ρ) isS ty) v H'.objs := by
 unfold nextV at h
 split at h
 ·rename_i k
  split at h
  ·rename_i s pos hk
   simp only at hk
   obtain ⟨h1, h2, h3⟩ := hw.objs k _ hk
   have hlt : (ρ k).block < w.heap.size := (Array.getElem?_eq_some_iff.1 h1).1
   have hget : (getObj (ρ k).block).run E.P w = .ok (.stringIter ⟨⟨s⟩⟩ pos) w := by simp [getObj, Sem.run, h1]
   split at h
   ·rename_i hp
    simp only [ok, Option.some.injEq, Prod.mk.injEq] at h
    obtain ⟨rfl, rfl⟩ := h
    refine ⟨_, rfl, ?_⟩
    have hwr := hw.write (w' := { w with heap := w.heap.setIfInBounds (ρ k).block (.stringIter ⟨⟨s⟩⟩ (pos + (decode (s.drop pos)).2)) }) (o' := .iter s (pos + (decode (s.drop pos)).2)) hk rfl rfl rfl rfl (by simp)
     (fun b hb => by show (w.heap.setIfInBounds _ _)[b]? = _; rw [Array.getElem?_setIfInBounds_ne (Ne.symm hb)]) (ltL_nil _)
     ⟨by show (w.heap.setIfInBounds _ _)[_]? = _; rw [Array.getElem?_setIfInBounds_self_of_lt hlt], h2, h3⟩
    refine ⟨ρ, _, ?_, hwr.1, hwr.2, rfl⟩
    have hd := decode_run s pos hp
    have hset : (setObj (ρ k).block (.stringIter ⟨⟨s⟩⟩ (pos + (decode (s.drop pos)).2))).run E.P w = .ok () { w with heap := w.heap.setIfInBounds (ρ k).block (.stringIter ⟨⟨s⟩⟩ (pos + (decode (s.drop pos)).2)) } := by
     simp [setObj, Sem.run, h1]
    simp only [emb_ptr, h3, Nat.zero_add, Instr.next, Sem.run_bind, hget, Result.andThen_ok, str_size, hp, if_true, hd, hset, Sem.run_pure]
    simp [goInt]
   ·rename_i hp
    simp only [ok, Option.some.injEq, Prod.mk.injEq] at h
    obtain ⟨rfl, rfl⟩ := h
    refine ⟨_, rfl, Val.pure hw ?_ rfl⟩
    simp only [emb_ptr, h3, Nat.zero_add, Instr.next, Sem.run_bind, hget, Result.andThen_ok, str_size, hp, if_false, Sem.run_pure]
    simp
  ·cases h
 ·cases h

theorem newVar_run (hw : WR E N ρ H w) {wr esc : Nat} {v : V} {e : TypeId} {H' : Hp} (hv : v.lt H.length = true) (h : newCells ⟨H, wr, esc⟩ v.cells e .rw = some H') :
 Val E N ρ H w (do pure (.pointer (some (← newVar e (v.emb ρ))))) (.ptr H.length 0) H'.objs := by
 have := newCells_run hw (ltL_cells hv) h 0
 refine ⟨_, _, ?_, this.2.1, this.2.2.1, by rw [this.2.2.2]; simp⟩
 simp only [newVar, emb_cells, Sem.run_bind, this.1, Result.andThen_ok, Sem.run_pure, emb_ptr, upd_same]

theorem makeSliceV_run (hw : WR E N ρ H w) {wr esc : Nat} {t : TypeId} {l c : V} {r : R} {H' : Hp} (h : makeSliceV E.P t l c ⟨H, wr, esc⟩ = some (r, H')) :
 ∃ v, r = .val v ∧ Val E N ρ H w (Instr.makeSlice t (l.emb ρ) (c.emb ρ)) v H'.objs := by
 unfold makeSliceV at h
 split at h
 ·rename_i e kl len kc cap hu
  split at h
  ·rename_i b z n hb hz hs
   split at h
   ·rename_i hc
    obtain ⟨c1, c2, c3, c4, c5⟩ := hc
    simp only [Option.map_eq_some_iff, Prod.mk.injEq] at h
    obtain ⟨H1, hnew, rfl, rfl⟩ := h
    refine ⟨_, rfl, ?_⟩
    have hz' := run_zeroT hz ρ w
    have hzl : ltL H.length (zeros z.cells cap.toNat) := zeros_lt (ltL_cells (lt_flat hz'.2 _)) _
    have hn := newCells_run hw hzl hnew 0
    obtain ⟨i, hi, hib⟩ := run_bytesT hb
    have e1 : IntKind.i64.wrap len = len := by simp only [IntKind.wrap, IntKind.bits, IntKind.signed]; simp; omega
    have e2 : IntKind.i64.wrap cap = cap := by simp only [IntKind.wrap, IntKind.bits, IntKind.signed]; simp; omega
    refine ⟨_, _, ?_, hn.2.1, hn.2.2.1, by rw [hn.2.2.2]; simp [Hp.size]⟩
    have hlarge : ∀ m : Int, 0 ≤ m → m ≤ cap → (decide (m < 0) || decide ((b : Int) * m > 2 ^ 48)) = false := fun m h0 h1 => by
     have : (b : Int) * m ≤ (b : Int) * cap := Int.mul_le_mul_of_nonneg_left h1 (by omega)
     simp
     omega
    have hcells : (if cap.toNat * n = 0 then (pure #[] : Sem (Array Value)) else do pure (← zeroValue e).cells).run E.P w = .ok (if cap.toNat * n = 0 then #[] else (z.emb ρ).cells) w := by
     split
     ·rfl
     ·simp [hz'.1]
    have hfin : (Array.range (cap.toNat * n)).map (fun i => (if cap.toNat * n = 0 then #[] else (z.emb ρ).cells)[i % (if cap.toNat * n = 0 then #[] else (z.emb ρ).cells).size]!) = ((zeros z.cells cap.toNat).map (V.emb ρ)).toArray := by
     by_cases h0 : cap.toNat * n = 0
     ·have : zeros z.cells cap.toNat = [] := List.eq_nil_of_length_eq_zero (by rw [zeros_length, c5, h0])
      rw [h0, this]
      simp
     ·simp only [if_neg h0, emb_cells]
      exact zeros_emb z.cells cap.toNat n c5 ρ
    have hti : (typeInfo e).run E.P w = .ok i w := by simp [typeInfo, hi]
    have k1 := hlarge cap (by omega) (by omega)
    simp only [emb_int, Instr.makeSlice, Sem.run_bind, run_underlying hu, Result.andThen_ok, asInt, asIntOf, Sem.run_pure, hti, e1, e2, hib, k1]
    rw [if_neg (by simp; omega)]
    simp only [Sem.run_bind, run_askRoom, Result.andThen_ok, run_sizeT hs]
    by_cases h0 : cap.toNat * n = 0
    ·simp only [if_pos h0, Sem.run_bind, Sem.run_pure, Result.andThen_ok] at hfin ⊢
     rw [hfin, hn.1]
     simp [Hp.size]
    ·simp only [if_neg h0, Sem.run_bind, hz'.1, Sem.run_pure, Result.andThen_ok] at hfin ⊢
     rw [hfin, hn.1]
     simp [Hp.size]
   ·cases h
  ·cases h
 ·cases h

theorem liesAt_bytes_at {P : Program} {e : TypeId} (hc : P.cellsOf e = 1) (count off n : Nat) (hn : off + n ≤ count) : liesAt P P.depth e count off e n = true := by
 have hd : P.depth = (2 * (P.types.size + Made.depth) + 1) + 1 := rfl
 rw [hd]
 simp only [liesAt, Bool.or_eq_true]
 left
 rw [hd]
 simp [rowAt, hc, hn, sameLayout, Nat.mod_one]

theorem run_unsafeString_at (w : World) (pt it ty e : TypeId) (hp : E.P.underlying pt = some (.pointer e)) (hc : E.P.cellsOf e = 1) (g off cells : Nat) (hsh : w.shape? g = some (e, cells)) (l : List UInt8) (h0 : l ≠ []) (hn : off + l.length ≤ cells) (h63 : l.length ≤ 9223372036854775807)
 (hcell : ∀ j x, l[j]? = some x → w.cell? ((⟨g, off, none⟩ : Addr).add j) = some (.int .u8 x.toNat)) :
 (Builtin.unsafeString_ #[pt, it] ty #[.pointer (some ⟨g, off, none⟩), .int .i64 l.length]).run E.P w = .ok (.string ⟨l.toArray⟩) (w.freeze ⟨g, off, none⟩ l.length) := by
 have hl : l.length ≠ 0 := by simpa using h0
 have hlb := Lib.run_loadBytes (P := E.P) w l ⟨g, off, none⟩ .empty hcell
 have hlies := liesAt_bytes_at (P := E.P) hc (cells / E.P.cellsOf e) off l.length (by rw [hc]; simpa using hn)
 have h63' : ¬ (9223372036854775807 : Int) < (l.length : Int) := by omega
 have hdef : Builtin.unsafeString_ #[pt, it] ty #[.pointer (some ⟨g, off, none⟩), .int .i64 l.length] =
  (do
   let n ← asInt (.int .i64 l.length)
   if n < 0 then runtimePanic (.error "unsafe.String: len out of range")
   if n > IntKind.i64.max then unsupported (.unsafePointer "String: a length above the largest int")
   if n = 0 then pure (.string .empty)
   else if ← variablesAt ⟨g, off, none⟩ (← elemOf pt) n.toNat then do
    let s ← loadBytes ⟨g, off, none⟩ .empty n.toNat
    freeze ⟨g, off, none⟩ n.toNat
    pure (.string s)
   else unsupported (.unsafePointer "String: not so many bytes at ptr")) := rfl
 rw [hdef]
 have hmax : IntKind.i64.max = 9223372036854775807 := rfl
 have hneg : ¬ (l.length : Int) < 0 := by omega
 simp [asInt, asIntOf, hmax, h63', hneg, hl, variablesAt, hsh, elemOf, run_underlying hp, hlies, hlb]

theorem bytesS_cells : ∀ (cs : List V) (s : List UInt8), bytesS cs = some s → s.length = cs.length ∧ ∀ (ρ : Nat → Loc) (j : Nat) (x : UInt8), s[j]? = some x → ∃ v, cs[j]? = some v ∧ v.emb ρ = .int .u8 x.toNat := by
 intro cs
 induction cs with
 | nil => intro s h; simp only [bytesS, Option.some.injEq] at h; subst h; exact ⟨rfl, fun ρ j x h => by simp at h⟩
 | cons v r ih =>
  intro s h
  unfold bytesS at h
  split at h
  ·rename_i he; cases he
  ·rename_i n r' he
   simp only [List.cons.injEq] at he
   obtain ⟨rfl, rfl⟩ := he
   split at h
   ·rename_i hn
    simp only [Option.map_eq_some_iff] at h
    obtain ⟨s', hs, rfl⟩ := h
    obtain ⟨h1, h2⟩ := ih s' hs
    refine ⟨by simp [h1], fun ρ j x hx => ?_⟩
    cases j with
    | zero =>
     simp only [List.getElem?_cons_zero, Option.some.injEq] at hx
     subst hx
     refine ⟨_, rfl, ?_⟩
     simp only [emb_int]
     congr 1
     simp
     omega
    | succ j => exact h2 ρ j x (by simpa using hx)
   ·cases h
  ·cases h

theorem freeze_other (w : World) (g off n : Nat) (b : Nat) (hb : b ≠ g) : (w.freeze ⟨g, off, none⟩ n).heap[b]? = w.heap[b]? := by
 unfold World.freeze
 split
 ·rfl
 ·simp only
  rw [Array.getElem?_modify, if_neg (Ne.symm hb)]

theorem unsafeString_run (hw : WR E N ρ H w) {wr esc k o : Nat} {n : Int} {cs : List V} {e pt it ty : TypeId} {m : Mode} (hm0 : m ≠ .ro) (hk : H[k]? = some (.cells cs e m false)) (hp : E.P.underlying pt = some (.pointer e)) (hz : sizeT E.P e = some 1) (h0 : 0 < n) (h63 : n ≤ 9223372036854775807) (hle : o + n.toNat ≤ cs.length) {s : List UInt8} (hs : bytesS ((cs.drop o).take n.toNat) = some s) :
 Val E N ρ H w (Builtin.unsafeString_ #[pt, it] ty #[(V.ptr k o).emb ρ, (V.int .i64 n).emb ρ]) (.str s) ((⟨H, wr, esc⟩ : Hp).write k .dead true).objs := by
 obtain ⟨h1, C, z, hC, hcs, hm⟩ := hw.objs k _ hk
 have hsz : (ρ k).off + cs.length ≤ C.size := by
  cases m with
  | ro => exact absurd rfl hm0
  | rw => obtain ⟨_, _, m3, m4⟩ := hm; omega
  | grown => obtain ⟨_, _, _, m4, m5, _⟩ := hm; omega
 have hown : (AObj.cells cs e m false).own = true := by
  cases m with
  | ro => exact absurd rfl hm0
  | rw => rfl
  | grown => rfl
 obtain ⟨hlen, hby⟩ := bytesS_cells _ s hs
 have hsl : s.length = n.toNat := by rw [hlen]; simp; omega
 have hn : n = (s.length : Int) := by omega
 have hcell : ∀ j x, s[j]? = some x → w.cell? ((⟨(ρ k).block, (ρ k).off + o, none⟩ : Addr).add j) = some (.int .u8 x.toNat) := by
  intro j x hx
  obtain ⟨v, hv, he⟩ := hby ρ j x hx
  rw [add_off]
  have hv' : cs[o + j]? = some v := by
   rw [List.getElem?_take] at hv
   split at hv
   ·rw [List.getElem?_drop] at hv; exact hv
   ·cases hv
  have := hcs (o + j) v hv'
  rw [← Nat.add_assoc] at this
  rw [← he]
  simp [World.cell?, hC, this]
 have hrun := run_unsafeString_at (E := E) w pt it ty e hp (by
  obtain ⟨j, hj, hjs⟩ := Option.map_eq_some_iff.1 hz
  simp [Program.cellsOf, hj, hjs]) (ρ k).block ((ρ k).off + o) C.size (by simp [World.shape?, hC]) s (by intro e; subst e; simp at hsl; omega) (by omega) (by omega) hcell
 have hwrite := hw.write (w' := w.freeze ⟨(ρ k).block, (ρ k).off + o, none⟩ s.length) (k := k) (o := .cells cs e m false) (o' := .dead) hk hown
  (by unfold World.freeze; split <;> rfl) (by unfold World.freeze; split <;> rfl) (by unfold World.freeze; split <;> rfl) (by unfold World.freeze; split <;> simp)
  (fun b hb => freeze_other w _ _ _ b hb) (ltL_nil _) trivial
 refine ⟨ρ, _, ?_, hwrite.1, hwrite.2, rfl⟩
 rw [hn]
 exact hrun

end Go.Am

namespace Go.Am
open Go

def Globs (E : Env) (w : World) : Prop := ∀ (g : Nat) (cs : List V), E.G g = some cs → g < w.heap.size ∧ (∀ v ∈ cs, v.flat = true ∧ v.one = true) ∧ ∃ C e z, w.heap[g]? = some (.cells C e z) ∧ C.size = cs.length ∧ ∀ (i : Nat) (v : V) (ρ : Nat → Loc), cs[i]? = some v → C[i]? = some (v.emb ρ)

theorem Globs.none {E : Env} (h : ∀ g, E.G g = none) (w : World) : Globs E w := fun g cs hg => by simp [h] at hg

theorem WR.globs' {E : Env} {N : Nat} {ρ : Nat → Loc} {H : List AObj} {w : World} (h : WR E N ρ H w) : Globs E w := fun g cs hg => by
 obtain ⟨h1, h2, C, e, z, h3, h5, h4⟩ := h.globs g cs hg
 exact ⟨Nat.lt_of_lt_of_le h1 h.low, h2, C, e, z, h3, h5, fun i v ρ' hi => by rw [h4 i v hi, emb_flat (h2 v (List.mem_of_getElem? hi)).1 ρ' ρ]⟩

structure Env.Ok (E : Env) : Prop where
 mixed : E.P.follows .mixedOrders = true
 names : ∀ (f : FuncId) (fn : Func), E.P.funcs[f]? = some fn → fn.body.isSome = true → fn.name ≠ "runtime.NumGoroutine"
 ext : ∀ (f : FuncId) (args : List V) (v : V), E.ext f args = some v → v.flat = true ∧ ∀ (ρ : Nat → Loc) (w : World), (callFunc f (args.map (V.emb ρ)).toArray).run E.P w = .ok (.value (v.emb ρ)) w
 made : ∀ (f : FuncId) (e : TypeId), E.made f = some e → sizeT E.P e = some 1 ∧ ∀ (n : Nat) (w : World), n ≤ 140737488355328 → ∃ C : Array Value,
  (callFunc f #[.int .i64 n]).run E.P w = .ok (.value (.slice (some ⟨w.heap.size, 0, none⟩) n C.size)) (w.drew.drew.alloc (.cells C e)) ∧ n ≤ C.size ∧ C.size ≤ maxLen
 same : ∀ (f : FuncId), E.same f = true → ∀ (v : Value) (w : World), (callFunc f #[v]).run E.P w = .ok (.value v) w
 orc : ∀ (f : FuncId) (args : List V) (H : List AObj) (v : V), E.orc f args H = some v → v.flat = true ∧ ∀ (N : Nat) (ρ : Nat → Loc) (w : World), WR E N ρ H w → ltL H.length args →
  Calls E.P f (args.map (V.emb ρ)).toArray w fun e w' => e = .returned (v.emb ρ) ∧ RowKit.Below w.heap.size w w'

variable {P : Program} {E : Env} {N : Nat} {ρ : Nat → Loc} {H : List AObj} {w : World}

inductive OpRes (E : Env) (N : Nat) (ρ : Nat → Loc) (H : List AObj) (w : World) (s : Sem Next) : R → Hp → Prop
 | val {v : V} {H' : Hp} (ρ' : Nat → Loc) (w' : World) (h1 : s.run E.P w = .ok (.value (v.emb ρ')) w') (h2 : WR E N ρ' H'.objs w') (h3 : Goes H ρ w H'.objs ρ' w') (h4 : v.lt H'.objs.length = true) : OpRes E N ρ H w s (.val v) H'
 | skip {H' : Hp} (w' : World) (h1 : s.run E.P w = .ok .skip w') (h2 : WR E N ρ H'.objs w') (h3 : Goes H ρ w H'.objs ρ w') : OpRes E N ρ H w s .skip H'
 | enter {f : FuncId} {args : List V} {H' : Hp} (h1 : s.run E.P w = .ok (.enter f (args.map (V.emb ρ)).toArray) w) (h2 : H'.objs = H) (h3 : ltL H.length args) : OpRes E N ρ H w s (.enter f args) H'

theorem Val.res {s : Sem Value} {v : V} {H' : Hp} (h : Val E N ρ H w s v H'.objs) : OpRes E N ρ H w (do Pure.pure (Next.value (← s))) (.val v) H' := by
 obtain ⟨ρ', w', h1, h2, h3, h4⟩ := h
 exact .val ρ' w' (by simp [h1]) h2 h3 h4

theorem res_okO {s : Sem Value} {x : Option V} {H0 : Hp} {r : R} {H' : Hp} (h : okO x H0 = some (r, H')) (hk : ∀ v, x = some v → Val E N ρ H w s v H0.objs) : OpRes E N ρ H w (do Pure.pure (Next.value (← s))) r H' := by
 simp only [okO, Option.map_eq_some_iff, Prod.mk.injEq] at h
 obtain ⟨v, hx, rfl, rfl⟩ := h
 exact (hk v hx).res

theorem evOpt_run {n : Nat} {f : Fr} {a : Act} (hf : FR n ρ f a) {x : Option Operand} {y : Option V} (h : evOpt f x = some y) : x.map a.eval = y.map (V.emb ρ) := by
 cases x with
 | none => simp only [evOpt, Option.some.injEq] at h; subst h; rfl
 | some x =>
  simp only [evOpt, Option.map_eq_some_iff] at h
  obtain ⟨v, hv, rfl⟩ := h
  simp [(hf.ev hv).2]

theorem extract_run {vs : List V} {i : Nat} {v : V} (h : vs[i]? = some v) (ρ : Nat → Loc) (w : World) : (Instr.extract ((V.tup vs).emb ρ) i).run P w = .ok (v.emb ρ) w := by
 simp [Instr.extract, h]

theorem callV_run (ok : E.Ok) (hw : WR E N ρ H w) {wr esc : Nat} {f : FuncId} {args : List V} {r : R} {H' : Hp} (hl : ltL H.length args) (h : callV E f args ⟨H, wr, esc⟩ = some (r, H')) :
 OpRes E N ρ H w (callFunc f (args.map (V.emb ρ)).toArray) r H' := by
 unfold callV at h
 split at h
 ·rename_i fn hfn
  split at h
  ·split at h
   ·rename_i e hs
    split at h
    ·rename_i n
     split at h
     ·rename_i hn
      simp only [Am.ok, Option.some.injEq, Prod.mk.injEq] at h
      obtain ⟨rfl, rfl⟩ := h
      obtain ⟨hz, hmk⟩ := ok.made f e hs
      obtain ⟨C, hrun, hle, hmx⟩ := hmk n.toNat w (by omega)
      have hg := hw.grow (w' := w.drew.drew.alloc (.cells C e)) (cs := []) (C := C) (z := (0, 0)) (q := C.size) (sz := 1) (e := e) false (by simp) (fun b hb => RowKit.Below.heap_alloc w.drew.drew _ b hb) rfl rfl rfl (heap_alloc_new w.drew.drew _) (ltL_nil _) (by intro v hv; cases hv) (by intro i v hv; simp at hv)
       (fun i _ _ hzz => by simp at hzz) (by simp) (by simp) hz (by omega) hmx
      refine .val _ _ ?_ hg.1 hg.2 (by simp [Hp.size, Hp.new])
      have hnn : (n.toNat : Int) = n := Int.toNat_of_nonneg hn.1
      rw [hnn] at hrun
      simp only [List.map_cons, List.map_nil, emb_int, emb_slice_none, Hp.size, upd_same]
      simpa using hrun
     ·cases h
    ·cases h
   split at h
   ·rename_i hs
    split at h
    ·rename_i v
     simp only [Am.ok, Option.some.injEq, Prod.mk.injEq] at h
     obtain ⟨rfl, rfl⟩ := h
     exact .val ρ w (ok.same f hs (v.emb ρ) w) hw (Goes.refl H ρ w) (ltL_cons.1 hl).1
    ·cases h
   ·simp only [okO, Option.map_eq_some_iff, Prod.mk.injEq] at h
    obtain ⟨v, hx, rfl, rfl⟩ := h
    have := ok.ext f args v hx
    exact .val ρ w (this.2 ρ w) hw (Goes.refl H ρ w) (lt_flat this.1 _)
  ·rename_i hb
   simp only [Option.some.injEq, Prod.mk.injEq] at h
   obtain ⟨rfl, rfl⟩ := h
   cases hbb : fn.body with
   | none => rw [hbb] at hb; exact absurd rfl hb
   | some c =>
    have hn := ok.names f fn hfn (by rw [hbb]; rfl)
    refine .enter ?_ rfl hl
    simp [callFunc, hfn, hbb, hn]
 ·cases h

theorem builtinV_run (hw : WR E N ρ H w) {wr esc : Nat} {b : Builtin} {ats : Array TypeId} {ty : TypeId} {cst : Array Bool} {args : List V} {r : R} {H' : Hp} (hl : ltL H.length args)
 (h : builtinV E b ats.toList args ⟨H, wr, esc⟩ = some (r, H')) : OpRes E N ρ H w (builtin b ats ty cst (args.map (V.emb ρ)).toArray) r H' := by
 unfold builtinV at h
 split at h
 ·-- len
  rename_i t ats' x hats
  have e : ats = (t :: ats').toArray := Array.ext' (by simpa using hats)
  refine res_okO h fun v hv => ?_
  have := lenV_run (ty := ty) (ats := ats') hw hv
  rw [e]
  exact Val.pure hw this.1 (lt_flat this.2 _)
 ·-- cap
  rename_i t ats' k o n c hats
  have e : ats = (t :: ats').toArray := Array.ext' (by simpa using hats)
  split at h
  ·rename_i el hu
   simp only [Am.ok, Option.some.injEq, Prod.mk.injEq] at h
   obtain ⟨rfl, rfl⟩ := h
   refine Val.res (Val.pure hw ?_ rfl)
   rw [e]
   simp [Builtin.cap_, run_underlying hu, goInt]
  ·cases h
 ·-- cap of nil
  rename_i t ats' hats
  have e : ats = (t :: ats').toArray := Array.ext' (by simpa using hats)
  split at h
  ·rename_i el hu
   simp only [Am.ok, Option.some.injEq, Prod.mk.injEq] at h
   obtain ⟨rfl, rfl⟩ := h
   refine Val.res (Val.pure hw ?_ rfl)
   rw [e]
   simp [Builtin.cap_, run_underlying hu, goInt]
  ·cases h
 ·-- unsafeSliceData of nil
  simp only [Am.ok, Option.some.injEq, Prod.mk.injEq] at h
  obtain ⟨rfl, rfl⟩ := h
  exact Val.res (Val.pure hw (by simp [Lib.run_unsafeSliceData_nil]) rfl)
 ·-- unsafeSliceData
  rename_i k o n
  split at h
  ·rename_i cs e fz hk
   split at h
   ·rename_i hc
    obtain ⟨hz, hn, hle⟩ := hc
    simp only [Am.ok, Option.some.injEq, Prod.mk.injEq] at h
    obtain ⟨rfl, rfl⟩ := h
    have hg := (hw.objs k _ hk).grown hz
    refine Val.res (Val.pure hw ?_ ((ltL_cons.1 hl).1))
    have hcap : ((ρ k).ext - o) / (ρ k).sz ≠ 0 := by
     rw [hg.2.1, Nat.div_one]
     have := hg.2.2
     omega
    simp only [List.map_cons, List.map_nil, emb_slice_none, emb_ptr]
    exact Lib.run_unsafeSliceData_row _ _ _ _ _ _ hcap
   ·cases h
  ·cases h
 ·-- unsafeString of nothing
  rename_i a b hats
  have e : ats = #[a, b] := Array.ext' (by simpa using hats)
  simp only [Am.ok, Option.some.injEq, Prod.mk.injEq] at h
  obtain ⟨rfl, rfl⟩ := h
  subst e
  exact Val.res (Val.pure hw (Lib.run_unsafeString_none w _ _ _ _) rfl)
 ·-- unsafeString
  rename_i pt it k o n hats
  have e : ats = #[pt, it] := Array.ext' (by simpa using hats)
  subst e
  split at h
  ·rename_i cs el md el' hk hp
   split at h
   ·rename_i hc
    obtain ⟨hmd, rfl, hz, h0, h63, hle⟩ := hc
    split at h
    ·rename_i s hs
     simp only [Am.ok, Option.some.injEq, Prod.mk.injEq] at h
     obtain ⟨rfl, rfl⟩ := h
     exact (unsafeString_run hw hmd hk hp hz h0 h63 hle hs).res
    ·cases h
   ·cases h
  ·cases h
 ·-- append
  rename_i st xt ats' s x hats
  have hl' := (ltL_cons.1 hl).1
  have e : ∃ rest : List TypeId, ats = (st :: xt :: rest).toArray := ⟨ats', Array.ext' (by simpa using hats)⟩
  obtain ⟨rest, rfl⟩ := e
  have two : ∀ (y : Value), Builtin.append_ (st :: xt :: rest).toArray ty #[s.emb ρ, y] = Builtin.append_ #[st, xt] ty #[s.emb ρ, y] := fun y => by
   simp [Builtin.append_]
  split at h
  ·rename_i el el' hs hx
   split at h
   ·rename_i cs n hsh
    simp only [Option.bind_eq_some_iff] at hsh
    obtain ⟨z, hz, hsh⟩ := hsh
    obtain ⟨v, rfl, hv⟩ := appendV_run (ty := ty) hw hs hx (.inr ⟨_, rfl⟩) hl' hz hsh h
    have := hv.res
    simpa [builtin, two] using this
   ·cases h
  ·rename_i el hs hx
   split at h
   ·rename_i cs n hsh
    simp only [Option.bind_eq_some_iff] at hsh
    obtain ⟨z, hz, hsh⟩ := hsh
    obtain ⟨v, rfl, hv⟩ := appendV_run (ty := ty) hw hs hx (.inl rfl) hl' hz hsh h
    have := hv.res
    simpa [builtin, two] using this
   ·cases h
  ·cases h
 ·-- copy
  rename_i dt ats' d s hats
  have e : ∃ rest : List TypeId, ats = (dt :: rest).toArray := ⟨ats', Array.ext' (by simpa using hats)⟩
  obtain ⟨rest, rfl⟩ := e
  split at h
  ·rename_i el hd
   obtain ⟨v, rfl, hv⟩ := copyV_run (u := dt) (ty := ty) hw hd h
   have two : Builtin.copy_ (dt :: rest).toArray ty #[d.emb ρ, s.emb ρ] = Builtin.copy_ #[dt, dt] ty #[d.emb ρ, s.emb ρ] := by simp [Builtin.copy_]
   have := hv.res
   simpa [builtin, two] using this
  ·cases h
 ·-- min
  rename_i x r'
  refine res_okO h fun v hv => ?_
  have := minV_run (P := E.P) H.length ρ w r' x v (ltL_cons.1 hl).1 hv
  exact Val.pure hw (by simpa [Builtin.min_] using this.1) this.2
 ·-- max
  rename_i x r'
  refine res_okO h fun v hv => ?_
  have := maxV_run (P := E.P) H.length ρ w r' x v (ltL_cons.1 hl).1 hv
  exact Val.pure hw (by simpa [Builtin.max_] using this.1) this.2
 ·cases h

theorem opV_run (ok : E.Ok) (hw : WR E N ρ H w) {f : Fr} {a : Act} (hf : FR H.length ρ f a) {wr esc : Nat} {o : Oper} {r : R} {H' : Hp} (h : opV E f o ⟨H, wr, esc⟩ = some (r, H')) :
 OpRes E N ρ H w (execOp a.eval o) r H' := by
 obtain ⟨dst, op, type, pos, after, guard⟩ := o
 unfold opV at h
 simp only at h
 unfold execOp
 simp only
 split at h
 ·-- move
  rename_i x
  simp only [okO, Option.map_eq_some_iff, Prod.mk.injEq] at h
  obtain ⟨v, hx, rfl, rfl⟩ := h
  exact .val ρ w (by simp [(hf.ev hx).2]) hw (Goes.refl H ρ w) (hf.ev hx).1
 ·-- assign
  rename_i x
  simp only [okO, Option.map_eq_some_iff, Prod.mk.injEq] at h
  obtain ⟨v, hx, rfl, rfl⟩ := h
  exact .val ρ w (by simp [(hf.ev hx).2]) hw (Goes.refl H ρ w) (hf.ev hx).1
 ·-- pick
  rename_i c x y
  split at h
  ·rename_i b hc
   simp only [okO, Option.map_eq_some_iff, Prod.mk.injEq] at h
   obtain ⟨v, hx, rfl, rfl⟩ := h
   refine .val ρ w ?_ hw (Goes.refl H ρ w) (hf.ev hx).1
   simp only [Sem.run_bind, (hf.ev hc).2, emb_bool, asBool, Sem.run_pure, Result.andThen_ok]
   have e := (hf.ev hx).2
   cases b
   ·simpa using e
   ·simpa using e
  ·cases h
 ·-- alloc
  rename_i e
  split at h
  ·rename_i z hz
   simp only [Option.map_eq_some_iff, Prod.mk.injEq] at h
   obtain ⟨H1, hn, rfl, rfl⟩ := h
   have hz' := run_zeroT hz ρ w
   obtain ⟨ρ', w', h1, h2⟩ := newVar_run hw (lt_flat hz'.2 _) hn
   refine Val.res ⟨ρ', w', ?_, h2⟩
   simp only [Instr.alloc, Sem.run_bind, hz'.1, Result.andThen_ok]
   simpa [Hp.size] using h1
  ·cases h
 ·-- box
  rename_i e x
  split at h
  ·rename_i v hx
   simp only [Option.map_eq_some_iff, Prod.mk.injEq] at h
   obtain ⟨H1, hn, rfl, rfl⟩ := h
   obtain ⟨ρ', w', h1, h2⟩ := newVar_run hw (hf.ev hx).1 hn
   refine Val.res ⟨ρ', w', ?_, h2⟩
   rw [(hf.ev hx).2]
   exact h1
  ·cases h
 ·-- build
  rename_i t parts
  split at h
  ·rename_i ps hp
   have hp' := hf.evParts hp
   refine res_okO h fun v hv => Val.pure hw ?_ (buildV_lt hv hp'.1)
   have e : parts.map (fun (p : Nat × Operand) => (p.1, a.eval p.2)) = (ps.map fun p => (p.1, p.2.emb ρ)).toArray := by
    apply Array.ext'
    simpa using hp'.2
   have := buildV_run hv ρ w
   rw [← e] at this
   exact this
  ·cases h
 ·-- buildSlice
  rename_i t len parts
  split at h
  ·rename_i ps e hp hu
   split at h
   ·rename_i n z hn hz
    split at h
    ·rename_i hc
     split at h
     ·rename_i cs hcs
      simp only [Option.map_eq_some_iff, Prod.mk.injEq] at h
      obtain ⟨H1, hnew, rfl, rfl⟩ := h
      have hp' := hf.evParts hp
      have ep : parts.map (fun (p : Nat × Operand) => (p.1, a.eval p.2)) = (ps.map fun p => (p.1, p.2.emb ρ)).toArray := by
       apply Array.ext'
       simpa using hp'.2
      have hz' := run_zeroT hz ρ w
      have hzl : ltL H.length (zeros z.cells len) := zeros_lt (ltL_cells (lt_flat hz'.2 _)) _
      have hcl : ltL H.length cs := fill_lt _ ps _ _ hcs hzl hp'.1
      have hnr := newCells_run hw hcl hnew 0
      refine Val.res ⟨_, _, ?_, hnr.2.1, hnr.2.2.1, by rw [hnr.2.2.2]; simp [Hp.size]⟩
      have hfill := fill_run (fun i => some (i * n, n)) ρ ps _ cs hcs
      have hbig : ¬ len * n > 2 ^ 24 := by omega
      simp only [Instr.buildSlice, Sem.run_bind, run_underlying hu, Result.andThen_ok, run_sizeT hn, if_neg hbig]
      have ep' : (Array.map (fun x => match x with | (i, x) => (i, a.eval x)) parts).toList = ps.map fun p => (p.1, p.2.emb ρ) := by
       have := congrArg Array.toList ep
       simpa using this
      by_cases h0 : len * n = 0
      ·have hz0 : zeros z.cells len = [] := List.eq_nil_of_length_eq_zero (by rw [zeros_length, hc.2, h0])
       rw [hz0] at hfill
       have hr0 : ∀ f : Nat → Value, (Array.range 0).map f = #[] := fun f => by simp
       have hfill' : Instr.fill (fun i => some (i * n, n)) #[] (ps.map fun p => (p.1, p.2.emb ρ)) = some (cs.map (V.emb ρ)).toArray := hfill
       simp only [Sem.run_pure, Result.andThen_ok, h0, ep', hr0, hfill', if_true, Sem.run_bind, hnr.1]
       simp [Hp.size]
      ·have hzz := zeros_emb z.cells len n hc.2 ρ
       simp only [if_neg h0, Sem.run_bind, hz'.1, Sem.run_pure, Result.andThen_ok, emb_cells, hzz, ep', hfill, hnr.1]
       simp [Hp.size]
     ·cases h
    ·cases h
   ·cases h
  ·cases h
 ·-- load
  rename_i t x
  split at h
  ·rename_i p hx
   refine res_okO h fun v hv => ?_
   have := loadV_run hw hv
   exact Val.pure hw (by rw [(hf.ev hx).2]; exact this.1) this.2
  ·cases h
 ·-- store
  rename_i t x y
  split at h
  ·rename_i p v hx hy
   simp only [Option.map_eq_some_iff, Prod.mk.injEq] at h
   obtain ⟨H1, hs, rfl, rfl⟩ := h
   obtain ⟨w', h1, h2, h3⟩ := storeV_run hw (hf.ev hy).1 hs
   exact .skip w' (by simp [(hf.ev hx).2, (hf.ev hy).2, h1]) h2 h3
  ·cases h
 ·-- nilCheck
  rename_i x
  split at h
  ·rename_i k o' hx
   simp only [Am.ok, Option.some.injEq, Prod.mk.injEq] at h
   obtain ⟨rfl, rfl⟩ := h
   exact .val ρ w (by dsimp only; rw [(hf.ev hx).2]; rfl) hw (Goes.refl H ρ w) (hf.ev hx).1
  ·rename_i k o' hx
   simp only [Am.ok, Option.some.injEq, Prod.mk.injEq] at h
   obtain ⟨rfl, rfl⟩ := h
   exact .val ρ w (by dsimp only; rw [(hf.ev hx).2]; rfl) hw (Goes.refl H ρ w) (hf.ev hx).1
  ·rename_i g x1 x2 hx
   simp only [Am.ok, Option.some.injEq, Prod.mk.injEq] at h
   obtain ⟨rfl, rfl⟩ := h
   exact .val ρ w (by dsimp only; rw [(hf.ev hx).2, emb_func]; rfl) hw (Goes.refl H ρ w) (hf.ev hx).1
  ·rename_i t v hx
   simp only [Am.ok, Option.some.injEq, Prod.mk.injEq] at h
   obtain ⟨rfl, rfl⟩ := h
   exact .val ρ w (by dsimp only; rw [(hf.ev hx).2]; rfl) hw (Goes.refl H ρ w) (hf.ev hx).1
  ·cases h
 ·-- binOp
  rename_i op t x y t'
  split at h
  ·rename_i u v hx hy
   refine res_okO h fun z hz => ?_
   have := run_binV hz ρ w
   exact Val.pure hw (by rw [(hf.ev hx).2, (hf.ev hy).2]; exact this.1) (lt_flat this.2 _)
  ·cases h
 ·-- unOp
  rename_i op t x
  split at h
  ·rename_i u hx
   refine res_okO h fun z hz => ?_
   have := run_unV (P := E.P) hz ρ w
   exact Val.pure hw (by rw [(hf.ev hx).2]; exact this.1) (lt_flat this.2 _)
  ·cases h
 ·-- convert
  rename_i s d x
  split at h
  ·rename_i u hx
   obtain ⟨v, rfl, hv⟩ := convV_run hw h
   dsimp only
   rw [(hf.ev hx).2]
   exact hv.res
  ·cases h
 ·-- makeInterface
  rename_i t x
  split at h
  ·cases h
  ·rename_i d v hni hu hx
   simp only [Am.ok, Option.some.injEq, Prod.mk.injEq] at h
   obtain ⟨rfl, rfl⟩ := h
   refine Val.res (Val.pure hw ?_ (by simpa using (hf.ev hx).1))
   rw [(hf.ev hx).2]
   simp only [Instr.makeInterface, Sem.run_bind, run_underlying hu, Result.andThen_ok, emb_iface]
   cases d <;> first | rfl | exact absurd hu (hni _)
  ·cases h
 ·-- makeFunc
  rename_i g x y
  split at h
  ·rename_i us vs hx hy
   simp only [Am.ok, Option.some.injEq, Prod.mk.injEq] at h
   obtain ⟨rfl, rfl⟩ := h
   have hx' := hf.evs hx
   have hy' := hf.evs hy
   refine Val.res (Val.pure hw ?_ ((lt_func _ _ _ _).2 ⟨hx'.1, hy'.1⟩))
   have e1 : x.map a.eval = (us.map (V.emb ρ)).toArray := Array.ext' (by simpa using hx'.2)
   have e2 : y.map a.eval = (vs.map (V.emb ρ)).toArray := Array.ext' (by simpa using hy'.2)
   rw [e1, e2, emb_func]
   rfl
  ·cases h
 ·-- makeMap
  simp only [Am.ok, Option.some.injEq, Prod.mk.injEq] at h
  obtain ⟨rfl, rfl⟩ := h
  have := hw.new (w' := w.alloc (.map #[] 0)) (.map [] 0) ⟨w.heap.size, 0, 0, 0⟩ (by simp) (fun b hb => RowKit.Below.heap_alloc w _ b hb) rfl rfl rfl rfl (ltL_nil _)
   (fun ρ' _ => ⟨heap_alloc_new w _, hw.low⟩)
  refine Val.res ⟨_, _, ?_, this.1, this.2, by simp [Hp.size, Hp.new]⟩
  simp [Instr.makeMap, Hp.size]
 ·-- makeSlice
  rename_i t l c
  split at h
  ·rename_i u v hx hy
   obtain ⟨z, rfl, hz⟩ := makeSliceV_run hw h
   dsimp only
   rw [(hf.ev hx).2, (hf.ev hy).2]
   exact hz.res
  ·cases h
 ·-- slice
  rename_i t x lo hi mx
  split at h
  ·rename_i v lo' hi' mx' hx hlo hhi hmx
   simp only [Option.bind_eq_some_iff] at hlo hhi hmx
   obtain ⟨l1, l2, l3⟩ := hlo
   obtain ⟨h1, h2, h3⟩ := hhi
   obtain ⟨m1, m2, m3⟩ := hmx
   split at h
   ·rename_i hend
    simp only [Am.ok, Option.some.injEq, Prod.mk.injEq] at h
    obtain ⟨rfl, rfl⟩ := h
    obtain ⟨ρ', hrun, hw', hg'⟩ := sliceEnd_run hw l3 h3 m3 hend
    refine Val.res ⟨ρ', w, ?_, hw', hg', by simp [Hp.size, Hp.new]⟩
    rw [(hf.ev hx).2, evOpt_run hf l2, evOpt_run hf h2, evOpt_run hf m2]
    exact hrun
   refine res_okO h fun z hz => ?_
   have := sliceV_run hw (hf.ev hx).1 l3 h3 m3 hz
   refine Val.pure hw ?_ this.2
   rw [(hf.ev hx).2, evOpt_run hf l2, evOpt_run hf h2, evOpt_run hf m2]
   exact this.1
  ·cases h
 ·-- fieldAddr
  rename_i s x i
  split at h
  ·rename_i v hx
   refine res_okO h fun z hz => ?_
   have := fieldAddrV_run (hf.ev hx).1 hz ρ w
   exact Val.pure hw (by rw [(hf.ev hx).2]; exact this.1) this.2
  ·cases h
 ·-- field
  rename_i t x i
  split at h
  ·rename_i v hx
   refine res_okO h fun z hz => ?_
   have := fieldV_run (hf.ev hx).1 hz ρ w
   exact Val.pure hw (by rw [(hf.ev hx).2]; exact this.1) this.2
  ·cases h
 ·-- indexAddr
  rename_i t x i
  split at h
  ·rename_i u v hx hy
   refine res_okO h fun z hz => ?_
   have := indexAddrV_run (hf.ev hx).1 hz ρ w
   exact Val.pure hw (by rw [(hf.ev hx).2, (hf.ev hy).2]; exact this.1) this.2
  ·cases h
 ·-- index
  rename_i t x i
  split at h
  ·rename_i u v hx hy
   refine res_okO h fun z hz => ?_
   have := indexV_run (hf.ev hx).1 hz ρ w
   exact Val.pure hw (by rw [(hf.ev hx).2, (hf.ev hy).2]; exact this.1) this.2
  ·cases h
 ·-- lookup
  rename_i t x i c
  split at h
  ·rename_i u v hx hy
   refine res_okO h fun z hz => ?_
   have := lookupV_run hw hz
   exact Val.pure hw (by rw [(hf.ev hx).2, (hf.ev hy).2]; exact this.1) this.2
  ·cases h
 ·-- mapUpdate
  rename_i t m k v
  split at h
  ·rename_i x y z hx hy hz
   simp only [Option.map_eq_some_iff, Prod.mk.injEq] at h
   obtain ⟨H1, hs, rfl, rfl⟩ := h
   obtain ⟨w', h1, h2, h3⟩ := mapSetV_run hw (hf.ev hy).1 (hf.ev hz).1 hs
   exact .skip w' (by simp [(hf.ev hx).2, (hf.ev hy).2, (hf.ev hz).2, h1]) h2 h3
  ·cases h
 ·-- insert
  rename_i t m k v
  split at h
  ·rename_i x y z hx hy hz
   simp only [Option.map_eq_some_iff, Prod.mk.injEq] at h
   obtain ⟨H1, hs, rfl, rfl⟩ := h
   obtain ⟨w', h1, h2, h3⟩ := mapSetV_run hw (hf.ev hy).1 (hf.ev hz).1 hs
   exact .skip w' (by simp [(hf.ev hx).2, (hf.ev hy).2, (hf.ev hz).2, h1]) h2 h3
  ·cases h
 ·-- mapEntry
  rename_i t m k
  split at h
  ·rename_i x y hx hy
   obtain ⟨v, rfl, hl, w', h1, h2, h3⟩ := mapEntryV_run hw (hf.ev hy).1 h
   exact .val ρ w' (by simp [(hf.ev hx).2, (hf.ev hy).2, h1]) h2 h3 hl
  ·cases h
 ·-- entryStore
  rename_i t m s v
  split at h
  ·rename_i x y z hx hy hz
   simp only [Option.map_eq_some_iff, Prod.mk.injEq] at h
   obtain ⟨H1, hs, rfl, rfl⟩ := h
   obtain ⟨w', h1, h2, h3⟩ := entryStoreV_run (t := t) hw (hf.ev hz).1 hs
   exact .skip w' (by simp [(hf.ev hx).2, (hf.ev hy).2, (hf.ev hz).2, h1]) h2 h3
  ·cases h
 ·-- range
  rename_i t x
  split at h
  ·rename_i v hx
   obtain ⟨z, rfl, hz⟩ := rangeV_run hw h
   dsimp only
   rw [(hf.ev hx).2]
   exact hz.res
  ·cases h
 ·-- next
  rename_i it s
  split at h
  ·rename_i v hx
   obtain ⟨z, rfl, hz⟩ := nextV_run (ty := type) hw h
   dsimp only
   rw [(hf.ev hx).2]
   exact hz.res
  ·cases h
 ·-- extract
  rename_i x i
  split at h
  ·rename_i vs hx
   refine res_okO h fun z hz => ?_
   refine Val.pure hw ?_ (ltL_get ((lt_tup _ _).1 (hf.ev hx).1) hz)
   rw [(hf.ev hx).2]
   exact extract_run hz ρ w
  ·cases h
 ·-- call
  rename_i c
  split at h
  ·rename_i args b hargs hcb
   have ha := hf.evs hargs
   have e1 : c.args.map a.eval = (args.map (V.emb ρ)).toArray := Array.ext' (by simpa using ha.2)
   have erun : (do let d ← resolve a.eval c type; invoke d.target d.args : Sem Next) =
    builtin b c.argTypes type (c.args.map fun | .const _ => true | _ => false) (args.map (V.emb ρ)).toArray := by
    simp only [resolve, hcb, e1]
    rfl
   dsimp only
   rw [erun]
   exact builtinV_run hw ha.1 h
  ·rename_i args g hargs hcg
   split at h
   ·rename_i g' x y hg
    have ha := hf.evs hargs
    have e1 : c.args.map a.eval = (args.map (V.emb ρ)).toArray := Array.ext' (by simpa using ha.2)
    have hge := hf.ev hg
    have hgl := (lt_func _ _ _ _).1 hge.1
    have := callV_run ok hw (args := x ++ args ++ y) (ltL_append.2 ⟨ltL_append.2 ⟨hgl.1, ha.1⟩, hgl.2⟩) h
    have erun : (do let d ← resolve a.eval c type; invoke d.target d.args : Sem Next) = callFunc g' ((x ++ args ++ y).map (V.emb ρ)).toArray := by
     simp only [resolve, hcg, hge.2, e1, emb_func, Deferred.ofValue]
     show invoke (.fn (.func g') (y.map (V.emb ρ)).toArray) ((x.map (V.emb ρ)).toArray ++ (args.map (V.emb ρ)).toArray) = _
     simp [invoke]
    dsimp only
    rw [erun]
    exact this
   ·cases h
  ·cases h
 ·cases h

end Go.Am

namespace Go.Am
open Go

variable {E : Env} {N : Nat} {ρ : Nat → Loc} {H : List AObj} {w : World}

def Closed (lo : Nat) (objs : List AObj) : Prop := ∀ (k : Nat) (o : AObj), k < lo → objs[k]? = some o → ltL lo o.vals

structure Mono (H H' : Hp) : Prop where
 len : H.objs.length ≤ H'.objs.length
 wr : H'.wr ≤ H.wr
 esc : H'.esc ≤ H.esc
 same : ∀ k, k < H'.wr → k < H.objs.length → H'.objs[k]? = H.objs[k]?
 closed : ∀ lo, lo ≤ H.objs.length → lo ≤ H'.esc → Closed lo H.objs → Closed lo H'.objs

theorem Mono.refl (H : Hp) : Mono H H := ⟨Nat.le_refl _, Nat.le_refl _, Nat.le_refl _, fun _ _ _ => rfl, fun _ _ _ h => h⟩

theorem Mono.trans {A B C : Hp} (a : Mono A B) (b : Mono B C) : Mono A C where
 len := Nat.le_trans a.len b.len
 wr := Nat.le_trans b.wr a.wr
 esc := Nat.le_trans b.esc a.esc
 same := fun k h1 h2 => (b.same k h1 (Nat.lt_of_lt_of_le h2 a.len)).trans (a.same k (Nat.lt_of_lt_of_le h1 b.wr) h2)
 closed := fun lo h1 h2 h3 => b.closed lo (Nat.le_trans h1 a.len) h2 (a.closed lo h1 (Nat.le_trans h2 b.esc) h3)

theorem Mono.new (H : Hp) (o : AObj) : Mono H (H.new o) where
 len := by simp [Hp.new]
 wr := Nat.le_refl _
 esc := Nat.le_refl _
 same := fun k _ h => by simp only [Hp.new]; rw [List.getElem?_append_left h]
 closed := fun lo h1 _ h3 k x hk hx => by
  simp only [Hp.new] at hx
  rw [List.getElem?_append_left (by omega)] at hx
  exact h3 k x hk hx

theorem Mono.write {H : Hp} {k : Nat} {o o' : AObj} {fl : Bool} (hk : H.objs[k]? = some o) (hv : fl = true → ∀ v ∈ o'.vals, v ∈ o.vals ∨ v.flat = true) : Mono H (H.write k o' fl) where
 len := by simp [Hp.write]
 wr := Nat.min_le_left _ _
 esc := by
  simp only [Hp.write]
  split
  ·exact Nat.le_refl _
  ·exact Nat.min_le_left _ _
 same := fun j h1 _ => by
  simp only [Hp.write] at h1 ⊢
  rw [List.getElem?_set_ne (by omega)]
 closed := fun lo _ h2 h3 j x hj hx => by
  simp only [Hp.write] at h2 hx
  rcases getElem?_set' hx with ⟨rfl, rfl⟩ | ⟨_, hx⟩
  ·cases fl with
   | true =>
    intro v hm
    rcases hv rfl v hm with h | h
    ·exact h3 j o hj hk v h
    ·exact lt_flat h lo
   | false => simp at h2; omega
  ·exact h3 j x hj hx

theorem putCells_mono {H H' : Hp} {k o : Nat} {vs : List V} (h : putCells H k o vs = some H') : Mono H H' := by
 unfold putCells at h
 split at h
 ·rename_i cs e m hk
  split at h
  ·simp only [Option.some.injEq] at h
   subst h
   refine Mono.write hk fun hf v hv => ?_
   rcases mem_splice hv with h | h
   ·exact .inl h
   ·exact .inr (List.all_eq_true.1 hf v h)
  ·cases h
 ·cases h

theorem newCells_mono {H H' : Hp} {cs : List V} {e : TypeId} {m : Mode} (h : newCells H cs e m = some H') : Mono H H' := by
 unfold newCells at h
 split at h
 ·simp only [Option.some.injEq] at h; subst h; exact Mono.new _ _
 ·cases h

theorem ok_mono {v : V} {H : Hp} {r : R} {H' : Hp} (h : Am.ok v H = some (r, H')) : H' = H := by
 simp only [Am.ok, Option.some.injEq, Prod.mk.injEq] at h; exact h.2.symm

theorem okO_mono {v : Option V} {H : Hp} {r : R} {H' : Hp} (h : okO v H = some (r, H')) : H' = H := by
 simp only [okO, Option.map_eq_some_iff, Prod.mk.injEq] at h
 obtain ⟨_, _, _, h⟩ := h
 exact h.symm

theorem ok_new_mono {v : V} {H H0 : Hp} {r : R} {H' : Hp} (h0 : Mono H H0) (h : Am.ok v H0 = some (r, H')) : Mono H H' := by
 rw [ok_mono h]; exact h0

theorem map_mono {α : Type} {x : Option α} {g : α → R × Hp} {H : Hp} {r : R} {H' : Hp} (h : x.map g = some (r, H')) (hx : ∀ a, x = some a → Mono H (g a).2) : Mono H H' := by
 simp only [Option.map_eq_some_iff] at h
 obtain ⟨a, h1, h2⟩ := h
 have := hx a h1
 rw [h2] at this
 exact this

theorem appendV_mono {P : Program} {e : TypeId} {s : V} {new : List V} {n : Nat} {H : Hp} {r : R} {H' : Hp} (h : appendV P e s new n H = some (r, H')) : Mono H H' := by
 unfold appendV at h
 split at h
 ·split at h
  ·cases h
  ·split at h
   ·split at h
    ·rw [ok_mono h]; exact Mono.refl _
    ·split at h
     ·exact ok_new_mono (Mono.new _ _) h
     ·cases h
   ·split at h
    ·rw [ok_mono h]; exact Mono.refl _
    ·split at h
     ·exact ok_new_mono (Mono.new _ _) h
     ·cases h
   ·split at h
    ·rw [ok_mono h]; exact Mono.refl _
    ·split at h
     ·exact ok_new_mono (Mono.new _ _) h
     ·cases h
   ·split at h
    ·rename_i cs e' m fz hk
     split at h
     ·split at h
      ·split at h
       ·split at h
        ·rw [ok_mono h]; exact Mono.refl _
        ·cases h
       ·split at h
        ·exact map_mono h fun a ha => putCells_mono ha
        ·exact ok_new_mono (Mono.new _ _) h
      ·split at h
       ·split at h
        ·rw [ok_mono h]; exact Mono.refl _
        ·split at h
         ·exact map_mono h fun a ha => putCells_mono ha
         ·split at h
          ·exact ok_new_mono ((Mono.write hk (fun _ v hv => by cases hv)).trans (Mono.new _ _)) h
          ·cases h
       ·cases h
     ·cases h
    ·cases h
   ·cases h
 ·cases h

theorem builtinV_mono {b : Builtin} {ats : List TypeId} {args : List V} {H : Hp} {r : R} {H' : Hp} (h : builtinV E b ats args H = some (r, H')) : Mono H H' := by
 unfold builtinV at h
 split at h
 ·rw [okO_mono h]; exact Mono.refl _
 ·split at h
  ·rw [ok_mono h]; exact Mono.refl _
  ·cases h
 ·split at h
  ·rw [ok_mono h]; exact Mono.refl _
  ·cases h
 ·rw [ok_mono h]; exact Mono.refl _
 ·split at h
  ·split at h
   ·rw [ok_mono h]; exact Mono.refl _
   ·cases h
  ·cases h
 ·rw [ok_mono h]; exact Mono.refl _
 ·split at h
  ·rename_i hk _
   split at h
   ·split at h
    ·exact ok_new_mono (Mono.write hk (fun _ v hv => by cases hv)) h
    ·cases h
   ·cases h
  ·cases h
 ·split at h
  ·split at h
   ·exact appendV_mono h
   ·cases h
  ·split at h
   ·exact appendV_mono h
   ·cases h
  ·cases h
 ·split at h
  ·unfold copyV at h
   split at h
   ·split at h
    ·rw [ok_mono h]; exact Mono.refl _
    ·rw [ok_mono h]; exact Mono.refl _
    ·rw [ok_mono h]; exact Mono.refl _
    ·rw [ok_mono h]; exact Mono.refl _
    ·cases h
   ·split at h
    ·simp only at h
     split at h
     ·rw [ok_mono h]; exact Mono.refl _
     ·exact map_mono h fun a ha => putCells_mono ha
    ·cases h
   ·cases h
  ·cases h
 ·rw [okO_mono h]; exact Mono.refl _
 ·rw [okO_mono h]; exact Mono.refl _
 ·cases h

theorem modify_vals {es : List Ent} {i : Nat} {c c' : Nat} {g : Ent → Ent} {P0 : V → Prop} (hk : ∀ e, (g e).key = e.key ∨ P0 (g e).key) (hv : ∀ e, (g e).val = e.val ∨ P0 (g e).val) :
 ∀ x ∈ (AObj.map (es.modify i g) c).vals, x ∈ (AObj.map es c').vals ∨ P0 x := by
 intro x hx
 rcases List.mem_append.1 hx with hx | hx
 ·obtain ⟨e, he, rfl⟩ := List.mem_map.1 hx
  obtain ⟨j, hj⟩ := List.mem_iff_getElem?.1 he
  rw [List.getElem?_modify] at hj
  obtain ⟨e', he', rfl⟩ := Option.map_eq_some_iff.1 hj
  have hm : e'.key ∈ (AObj.map es c').vals := List.mem_append.2 (.inl (List.mem_map.2 ⟨e', List.mem_of_getElem? he', rfl⟩))
  split
  ·rcases hk e' with h | h
   ·rw [h]; exact .inl hm
   ·exact .inr h
  ·exact .inl hm
 ·obtain ⟨e, he, rfl⟩ := List.mem_map.1 hx
  obtain ⟨j, hj⟩ := List.mem_iff_getElem?.1 he
  rw [List.getElem?_modify] at hj
  obtain ⟨e', he', rfl⟩ := Option.map_eq_some_iff.1 hj
  have hm : e'.val ∈ (AObj.map es c').vals := List.mem_append.2 (.inr (List.mem_map.2 ⟨e', List.mem_of_getElem? he', rfl⟩))
  split
  ·rcases hv e' with h | h
   ·rw [h]; exact .inl hm
   ·exact .inr h
  ·exact .inl hm

theorem push_vals {es : List Ent} {c c' : Nat} {e0 : Ent} : ∀ x ∈ (AObj.map (es ++ [e0]) c).vals, x ∈ (AObj.map es c').vals ∨ x = e0.key ∨ x = e0.val := by
 intro x hx
 rcases List.mem_append.1 hx with hx | hx
 ·obtain ⟨e, he, rfl⟩ := List.mem_map.1 hx
  rcases List.mem_append.1 he with he | he
  ·exact .inl (List.mem_append.2 (.inl (List.mem_map.2 ⟨e, he, rfl⟩)))
  ·rw [List.mem_singleton.1 he]; exact .inr (.inl rfl)
 ·obtain ⟨e, he, rfl⟩ := List.mem_map.1 hx
  rcases List.mem_append.1 he with he | he
  ·exact .inl (List.mem_append.2 (.inr (List.mem_map.2 ⟨e, he, rfl⟩)))
  ·rw [List.mem_singleton.1 he]; exact .inr (.inr rfl)

theorem plainKey_flat {P : Program} {kt : TypeId} {key : V} (hp : plainKey P kt key = true) : key.flat = true := by
 unfold plainKey at hp
 split at hp <;> first | rfl | cases hp

theorem mapSetV_mono {P : Program} {t : TypeId} {m key v : V} {H H' : Hp} (h : mapSetV P t m key v H = some H') : Mono H H' := by
 unfold mapSetV at h
 split at h
 ·split at h
  ·rename_i es clock hk
   split at h
   ·split at h
    ·rename_i hp
     simp only [Option.some.injEq] at h
     subst h
     exact Mono.write hk fun hf => modify_vals (P0 := fun x => x.flat = true) (fun e => .inr (plainKey_flat hp)) (fun e => .inr hf)
    ·cases h
   ·simp only [Option.some.injEq] at h
    subst h
    refine Mono.write hk fun hf x hx => ?_
    simp only [Bool.and_eq_true] at hf
    rcases push_vals x hx with h | rfl | rfl
    ·exact .inl h
    ·exact .inr hf.2
    ·exact .inr hf.1
   ·cases h
  ·cases h
 ·cases h

theorem zeroT_flat {P : Program} {t : TypeId} {z : V} (h : zeroT P t = some z) : z.flat = true :=
 (run_zeroT h (fun _ => default) default).2

theorem mapEntryV_mono {P : Program} {t : TypeId} {m key : V} {H : Hp} {r : R} {H' : Hp} (h : mapEntryV P t m key H = some (r, H')) : Mono H H' := by
 unfold mapEntryV at h
 split at h
 ·split at h
  ·rename_i hp
   split at h
   ·rename_i es clock z hk hz
    split at h
    ·split at h
     ·simp only [Option.some.injEq, Prod.mk.injEq] at h
      obtain ⟨_, rfl⟩ := h
      exact Mono.write hk fun hf => modify_vals (P0 := fun x => x.flat = true) (fun e => .inr (plainKey_flat hp)) (fun e => .inl rfl)
     ·cases h
    ·simp only [Option.some.injEq, Prod.mk.injEq] at h
     obtain ⟨_, rfl⟩ := h
     refine Mono.write hk fun hf x hx => ?_
     rcases push_vals x hx with h | rfl | rfl
     ·exact .inl h
     ·exact .inr (plainKey_flat hp)
     ·exact .inr (zeroT_flat hz)
    ·cases h
   ·cases h
  ·cases h
 ·cases h

theorem entryStoreV_mono {m stamp v : V} {H H' : Hp} (h : entryStoreV m stamp v H = some H') : Mono H H' := by
 unfold entryStoreV at h
 split at h
 ·split at h
  ·rename_i es clock hk
   split at h
   ·simp only [Option.some.injEq] at h
    subst h
    exact Mono.write hk fun hf => modify_vals (P0 := fun x => x.flat = true) (fun e => .inl rfl) (fun e => .inr hf)
   ·cases h
  ·cases h
 ·cases h

theorem convV_mono {P : Program} {s d : TypeId} {x : V} {H : Hp} {r : R} {H' : Hp} (h : convV P s d x H = some (r, H')) : Mono H H' ∧ (H'.objs.length = H.objs.length → H' = H) := by
 unfold convV at h
 have k : ∀ {v : V} {o : AObj}, Am.ok v (H.new o) = some (r, H') → Mono H H' ∧ (H'.objs.length = H.objs.length → H' = H) := fun h => by
  rw [ok_mono h]
  exact ⟨Mono.new _ _, fun e => by simp [Hp.new] at e⟩
 have k0 : ∀ {v : V}, Am.ok v H = some (r, H') → Mono H H' ∧ (H'.objs.length = H.objs.length → H' = H) := fun h => by
  rw [ok_mono h]; exact ⟨Mono.refl _, fun _ => rfl⟩
 have k1 : ∀ {v : Option V}, okO v H = some (r, H') → Mono H H' ∧ (H'.objs.length = H.objs.length → H' = H) := fun h => by
  rw [okO_mono h]; exact ⟨Mono.refl _, fun _ => rfl⟩
 split at h
 ·exact k0 h
 ·exact k0 h
 ·exact k0 h
 ·split at h
  ·split at h
   ·exact k h
   ·cases h
  ·split at h
   ·exact k h
   ·cases h
  ·cases h
 ·split at h
  ·exact k0 h
  ·exact k0 h
  ·cases h
 ·split at h
  ·exact k0 h
  ·exact k0 h
  ·cases h
 ·split at h
  ·exact k1 h
  ·exact k1 h
  ·cases h
 ·exact k0 h
 ·split at h
  ·split at h
   ·exact k0 h
   ·cases h
  ·cases h
 ·exact k0 h
 ·split at h
  ·split at h
   ·exact k0 h
   ·cases h
  ·cases h
 ·cases h

theorem callV_mono {f : FuncId} {args : List V} {H : Hp} {r : R} {H' : Hp} (h : callV E f args H = some (r, H')) : Mono H H' := by
 unfold callV at h
 split at h
 ·split at h
  ·split at h
   ·split at h
    ·split at h
     ·exact ok_new_mono (Mono.new _ _) h
     ·cases h
    ·cases h
   ·split at h
    ·split at h
     ·rw [ok_mono h]; exact Mono.refl _
     ·cases h
    ·rw [okO_mono h]; exact Mono.refl _
  ·simp only [Option.some.injEq, Prod.mk.injEq] at h; rw [h.2]; exact Mono.refl _
 ·cases h

theorem opV_mono {f : Fr} {o : Oper} {H : Hp} {r : R} {H' : Hp} (h : opV E f o H = some (r, H')) : Mono H H' := by
 unfold opV at h
 have k0 : ∀ {v : V}, Am.ok v H = some (r, H') → Mono H H' := fun h => by rw [ok_mono h]; exact Mono.refl _
 have k1 : ∀ {v : Option V}, okO v H = some (r, H') → Mono H H' := fun h => by rw [okO_mono h]; exact Mono.refl _
 split at h
 ·exact k1 h
 ·exact k1 h
 ·split at h
  ·exact k1 h
  ·cases h
 ·split at h
  ·exact map_mono h fun a ha => newCells_mono ha
  ·cases h
 ·split at h
  ·exact map_mono h fun a ha => newCells_mono ha
  ·cases h
 ·split at h
  ·exact k1 h
  ·cases h
 ·split at h
  ·split at h
   ·split at h
    ·split at h
     ·exact map_mono h fun a ha => newCells_mono ha
     ·cases h
    ·cases h
   ·cases h
  ·cases h
 ·split at h
  ·exact k1 h
  ·cases h
 ·split at h
  ·refine map_mono h fun a ha => ?_
   unfold storeV at ha
   split at ha
   ·split at ha
    ·exact putCells_mono ha
    ·cases ha
   ·cases ha
  ·cases h
 ·split at h
  ·exact k0 h
  ·exact k0 h
  ·exact k0 h
  ·exact k0 h
  ·cases h
 ·split at h
  ·exact k1 h
  ·cases h
 ·split at h
  ·exact k1 h
  ·cases h
 ·split at h
  ·exact (convV_mono h).1
  ·cases h
 ·split at h
  ·cases h
  ·exact k0 h
  ·cases h
 ·split at h
  ·exact k0 h
  ·cases h
 ·exact ok_new_mono (Mono.new _ _) h
 ·split at h
  ·unfold makeSliceV at h
   split at h
   ·split at h
    ·split at h
     ·exact map_mono h fun a ha => newCells_mono ha
     ·cases h
    ·cases h
   ·cases h
  ·cases h
 ·split at h
  ·split at h
   ·exact ok_new_mono (Mono.new _ _) h
   ·exact k1 h
  ·cases h
 ·split at h
  ·exact k1 h
  ·cases h
 ·split at h
  ·exact k1 h
  ·cases h
 ·split at h
  ·exact k1 h
  ·cases h
 ·split at h
  ·exact k1 h
  ·cases h
 ·split at h
  ·exact k1 h
  ·cases h
 ·split at h
  ·exact map_mono h fun a ha => mapSetV_mono ha
  ·cases h
 ·split at h
  ·exact map_mono h fun a ha => mapSetV_mono ha
  ·cases h
 ·split at h
  ·exact mapEntryV_mono h
  ·cases h
 ·split at h
  ·exact map_mono h fun a ha => entryStoreV_mono ha
  ·cases h
 ·split at h
  ·unfold rangeV at h
   split at h
   ·exact ok_new_mono (Mono.new _ _) h
   ·cases h
  ·cases h
 ·split at h
  ·unfold nextV at h
   split at h
   ·split at h
    ·rename_i hk
     split at h
     ·exact ok_new_mono (Mono.write hk (fun _ v hv => by cases hv)) h
     ·exact k0 h
    ·cases h
   ·cases h
  ·cases h
 ·split at h
  ·exact k1 h
  ·cases h
 ·split at h
  ·exact builtinV_mono h
  ·split at h
   ·exact callV_mono h
   ·cases h
  ·cases h
 ·cases h

end Go.Am

namespace Go.Am
open Go

variable {E : Env} {N : Nat} {ρ : Nat → Loc} {H : List AObj} {w : World}

def Quiet (E : Env) (f : Fr) (o : Oper) (H : List AObj) (r : R) : Prop :=
 (∃ v, r = .val v ∧ ∀ (N : Nat) (ρ : Nat → Loc) (w : World) (a : Act), WR E N ρ H w → FR H.length ρ f a → v.lt H.length = true ∧ (execOp a.eval o).run E.P w = .ok (.value (v.emb ρ)) w) ∨
 (∃ g args, r = .enter g args ∧ ∀ (N : Nat) (ρ : Nat → Loc) (w : World) (a : Act), WR E N ρ H w → FR H.length ρ f a → ltL H.length args ∧ (execOp a.eval o).run E.P w = .ok (.enter g (args.map (V.emb ρ)).toArray) w)

theorem quiet_val {f : Fr} {o : Oper} {H : List AObj} {v : V}
 (hv : ∀ (N : Nat) (ρ : Nat → Loc) (w : World) (a : Act), WR E N ρ H w → FR H.length ρ f a → v.lt H.length = true ∧ (execOp a.eval o).run E.P w = .ok (.value (v.emb ρ)) w) : Quiet E f o H (.val v) := .inl ⟨v, rfl, hv⟩

theorem quiet_okO {f : Fr} {o : Oper} {H0 H' : Hp} {x : Option V} {r : R} (h : okO x H0 = some (r, H'))
 (hv : ∀ v, x = some v → ∀ (N : Nat) (ρ : Nat → Loc) (w : World) (a : Act), WR E N ρ H0.objs w → FR H0.objs.length ρ f a → v.lt H0.objs.length = true ∧ (execOp a.eval o).run E.P w = .ok (.value (v.emb ρ)) w) : H' = H0 ∧ Quiet E f o H0.objs r := by
 simp only [okO, Option.map_eq_some_iff, Prod.mk.injEq] at h
 obtain ⟨v, hx, rfl, rfl⟩ := h
 exact ⟨rfl, quiet_val (hv v hx)⟩

theorem quiet_ok {f : Fr} {o : Oper} {H0 H' : Hp} {v : V} {r : R} (h : Am.ok v H0 = some (r, H'))
 (hv : ∀ (N : Nat) (ρ : Nat → Loc) (w : World) (a : Act), WR E N ρ H0.objs w → FR H0.objs.length ρ f a → v.lt H0.objs.length = true ∧ (execOp a.eval o).run E.P w = .ok (.value (v.emb ρ)) w) : H' = H0 ∧ Quiet E f o H0.objs r := by
 simp only [Am.ok, Option.some.injEq, Prod.mk.injEq] at h
 obtain ⟨rfl, rfl⟩ := h
 exact ⟨rfl, quiet_val hv⟩

theorem convV_val {P : Program} {s d : TypeId} {x : V} {H : Hp} {r : R} {H' : Hp} (h : convV P s d x H = some (r, H')) : ∃ v, r = .val v := by
 have k0 : ∀ {v : V} {H0 : Hp}, Am.ok v H0 = some (r, H') → ∃ v, r = .val v := fun h => by
  simp only [Am.ok, Option.some.injEq, Prod.mk.injEq] at h; exact ⟨_, h.1.symm⟩
 have k1 : ∀ {v : Option V}, okO v H = some (r, H') → ∃ v, r = .val v := fun h => by
  simp only [okO, Option.map_eq_some_iff, Prod.mk.injEq] at h; obtain ⟨v, _, h1, _⟩ := h; exact ⟨v, h1.symm⟩
 unfold convV at h
 split at h
 ·exact k0 h
 ·exact k0 h
 ·exact k0 h
 ·split at h
  ·split at h
   ·exact k0 h
   ·cases h
  ·split at h
   ·exact k0 h
   ·cases h
  ·cases h
 ·split at h
  ·exact k0 h
  ·exact k0 h
  ·cases h
 ·split at h
  ·exact k0 h
  ·exact k0 h
  ·cases h
 ·split at h
  ·exact k1 h
  ·exact k1 h
  ·cases h
 ·exact k0 h
 ·split at h
  ·split at h
   ·exact k0 h
   ·cases h
  ·cases h
 ·exact k0 h
 ·split at h
  ·split at h
   ·exact k0 h
   ·cases h
  ·cases h
 ·cases h

theorem shown_len {H : Hp} {k o n c size m : Nat} {cap : Option Nat} {cs : List V} (h : shown H size (.slice k o n cap) = some (cs, m)) (_ : c = c) : m = n := by
 unfold shown at h
 simp only at h
 split at h
 ·simp only [Option.some.injEq, Prod.mk.injEq] at h; omega
 split at h
 ·split at h
  ·simp only [Option.some.injEq, Prod.mk.injEq] at h; exact h.2.symm
  ·cases h
 ·cases h

theorem convV_quiet {s d : TypeId} {x v : V} {H : Hp} {H' : Hp} (h : convV E.P s d x H = some (.val v, H')) (hl : H'.objs.length = H.objs.length) :
 H' = H ∧ ∀ (N : Nat) (ρ : Nat → Loc) (w : World), WR E N ρ H.objs w → v.lt H.objs.length = true ∧ (convert s d (x.emb ρ)).run E.P w = .ok (v.emb ρ) w := by
 have hH := (convV_mono h).2 hl
 refine ⟨hH, ?_⟩
 subst hH
 have new : ∀ {u : V} {o : AObj}, Am.ok u (H'.new o) = some (R.val v, H') → False := fun h => by
  have := ok_mono h
  have := congrArg (fun H : Hp => H.objs.length) this
  simp [Hp.new] at this
 have val : ∀ {u : V}, Am.ok u H' = some (R.val v, H') → u = v := fun h => by
  simp only [Am.ok, Option.some.injEq, Prod.mk.injEq, R.val.injEq] at h; exact h.1
 unfold convV at h
 split at h
 ·rename_i d' k k' n hs hd
  rw [← val h]
  exact fun N ρ w hw => ⟨rfl, by simp [convert, run_underlying hs, run_underlying hd, Conv.intToInt]⟩
 ·rename_i d' k n hs hd
  rw [← val h]
  exact fun N ρ w hw => ⟨rfl, by simp [convert, run_underlying hs, run_underlying hd, Conv.intToString, encode_run]⟩
 ·rename_i d' s' hs hd
  rw [← val h]
  exact fun N ρ w hw => ⟨rfl, by simp [convert, run_underlying hs, run_underlying hd]⟩
 ·split at h
  ·split at h
   ·exact (new h).elim
   ·cases h
  ·split at h
   ·exact (new h).elim
   ·cases h
  ·cases h
 ·rename_i e hs hd
  split at h
  ·rename_i he
   rw [← val h]
   exact fun N ρ w hw => ⟨rfl, by simp [convert, run_underlying hs, run_underlying hd, run_underlying he, Conv.bytesToString]; rfl⟩
  ·rename_i he
   rw [← val h]
   exact fun N ρ w hw => ⟨rfl, by simp [convert, run_underlying hs, run_underlying hd, run_underlying he, Conv.runesToString]; rfl⟩
  ·cases h
 ·rename_i e c hs hd
  split at h
  ·rename_i he
   rw [← val h]
   exact fun N ρ w hw => ⟨rfl, by simp [convert, run_underlying hs, run_underlying hd, run_underlying he, Conv.bytesToString, loadCells, loadCellsFrom]; rfl⟩
  ·rename_i he
   rw [← val h]
   exact fun N ρ w hw => ⟨rfl, by simp [convert, run_underlying hs, run_underlying hd, run_underlying he, Conv.runesToString, loadCells, loadCellsFrom]; rfl⟩
  ·cases h
 ·rename_i e k o n c hs hd
  split at h
  ·rename_i cs m he hsh
   simp only [okO, Option.map_eq_some_iff, Prod.mk.injEq, R.val.injEq] at h
   obtain ⟨y, ⟨s', hbs, rfl⟩, rfl, _⟩ := h
   refine fun N ρ w hw => ⟨rfl, ?_⟩
   have sh := shown_run hw (wr := H'.wr) (esc := H'.esc) hsh
   obtain ⟨ns, hns, rfl⟩ := bytesOf_run cs s' hbs ρ
   have hm := shown_len hsh (Eq.refl 0)
   subst hm
   have hload := sh.2.2.2 m (Nat.le_refl _)
   rw [List.take_of_length_le (by rw [sh.2.2.1]; exact Nat.le_refl _), hns, emb_slice] at hload
   simp only [Builtin.firstCells, Nat.mul_one] at hload
   rw [emb_slice, run_convert_bytes_string w s d e _ _ _ hs he hd, run_bytesToString w _ _ _ ns hload]
   congr 2
   rw [show (ByteArray.empty : ByteArray) = ⟨⟨[]⟩⟩ from rfl, foldl_push]
   simp
  ·rename_i cs m he hsh
   simp only [okO, Option.map_eq_some_iff, Prod.mk.injEq, R.val.injEq] at h
   obtain ⟨y, ⟨s', hbs, rfl⟩, rfl, _⟩ := h
   refine fun N ρ w hw => ⟨rfl, ?_⟩
   have sh := shown_run hw (wr := H'.wr) (esc := H'.esc) hsh
   obtain ⟨ns, hns, rfl⟩ := runesOf_run cs s' hbs ρ
   have hm := shown_len hsh (Eq.refl 0)
   subst hm
   have hload := sh.2.2.2 m (Nat.le_refl _)
   rw [List.take_of_length_le (by rw [sh.2.2.1]; exact Nat.le_refl _), hns, emb_slice] at hload
   simp only [Builtin.firstCells, Nat.mul_one] at hload
   rw [emb_slice]
   have := fun cc => run_runesToString w _ m cc ns hload
   simp only [convert, Sem.run_bind, run_underlying hs, run_underlying hd, run_underlying he, Result.andThen_ok, emb_str]
   exact this _
  ·cases h
 ·rename_i e hs hd
  rw [← val h]
  exact fun N ρ w hw => ⟨rfl, by simp [convert, run_underlying hs, run_underlying hd, Conv.unsafePointer]⟩
 ·rename_i t k o hs hd
  split at h
  ·rename_i cs e m fz sz hk hz
   split at h
   ·rename_i ho
    rw [← val h]
    intro N ρ w hw
    obtain ⟨j, hj, hjs⟩ := Option.map_eq_some_iff.1 hz
    obtain ⟨_, C, z, hC, hcs, _⟩ := hw.objs k _ hk
    have h1 := hcs o cs[o] (List.getElem?_eq_getElem ho)
    have h2 := (Array.getElem?_eq_some_iff.1 h1).1
    exact ⟨by simpa using (List.getElem?_eq_some_iff.1 hk).1, Lib.run_to_unsafe w ⟨(ρ k).block, (ρ k).off + o, none⟩ hs hd hj (by omega) (cells := C.size) (e := e) (by simp [World.shape?, hC]) h2⟩
   ·cases h
  ·cases h
 ·rename_i e hs hd
  rw [← val h]
  exact fun N ρ w hw => ⟨rfl, by simp [convert, run_underlying hs, run_underlying hd, Conv.unsafePointer]⟩
 ·rename_i u k o hs hd
  split at h
  ·rename_i cs e fz sz hk hz
   split at h
   ·rename_i ho
    rw [← val h]
    intro N ρ w hw
    obtain ⟨j, hj, hjs⟩ := Option.map_eq_some_iff.1 hz
    obtain ⟨_, C, z, hC, hcs, hm⟩ := hw.objs k _ hk
    simp only at hm
    exact ⟨by simpa using (List.getElem?_eq_some_iff.1 hk).1, Lib.run_from_unsafe w ⟨(ρ k).block, (ρ k).off + o, none⟩ hs hd hj (cells := C.size) (e := e) (by simp [World.shape?, hC]) (by rw [hm.2.2.1, hm.2.2.2, Nat.zero_add]; exact ho)⟩
   ·cases h
  ·cases h
 ·cases h

theorem opV_quiet {f : Fr} {o : Oper} {r : R} {H0 H' : Hp} (hq : quietOp o.op = true) (h : opV E f o H0 = some (r, H')) (hlen : ∀ v, r = .val v → H'.objs.length = H0.objs.length) :
 H' = H0 ∧ Quiet E f o H0.objs r := by
 obtain ⟨dst, op, type, pos, after, guard⟩ := o
 simp only at hq
 unfold opV at h
 simp only at h
 have one : ∀ {s : Sem Value} {v : V} {ρ : Nat → Loc} {w : World}, s.run E.P w = .ok (v.emb ρ) w → (do Pure.pure (Next.value (← s)) : Sem Next).run E.P w = .ok (.value (v.emb ρ)) w := fun h => by simp [h]
 split at h
 ·exact quiet_okO h fun v hx N ρ w a hw hf => ⟨(hf.ev hx).1, by simp [execOp, (hf.ev hx).2]⟩
 ·exact quiet_okO h fun v hx N ρ w a hw hf => ⟨(hf.ev hx).1, by simp [execOp, (hf.ev hx).2]⟩
 ·split at h
  ·rename_i b hc
   refine quiet_okO h fun v hx N ρ w a hw hf => ⟨(hf.ev hx).1, ?_⟩
   have e := (hf.ev hx).2
   simp only [execOp, Sem.run_bind, (hf.ev hc).2, emb_bool, asBool, Sem.run_pure, Result.andThen_ok]
   cases b
   ·simpa using e
   ·simpa using e
  ·cases h
 ·cases hq
 ·cases hq
 ·rename_i t parts
  split at h
  ·rename_i ps hp
   refine quiet_okO h fun v hv N ρ w a hw hf => ?_
   have hp' := hf.evParts hp
   refine ⟨buildV_lt hv hp'.1, ?_⟩
   have e : parts.map (fun (p : Nat × Operand) => (p.1, a.eval p.2)) = (ps.map fun p => (p.1, p.2.emb ρ)).toArray := by
    apply Array.ext'
    simpa using hp'.2
   have := buildV_run hv ρ w
   rw [← e] at this
   exact one this
  ·cases h
 ·cases hq
 ·split at h
  ·rename_i p hx
   refine quiet_okO h fun v hv N ρ w a hw hf => ?_
   have := loadV_run hw hv
   exact ⟨this.2, one (by rw [(hf.ev hx).2]; exact this.1)⟩
  ·cases h
 ·cases hq
 ·split at h
  ·rename_i k o' hx
   exact quiet_ok h fun N ρ w a hw hf => ⟨(hf.ev hx).1, by unfold execOp; dsimp only; rw [(hf.ev hx).2]; rfl⟩
  ·rename_i k o' hx
   exact quiet_ok h fun N ρ w a hw hf => ⟨(hf.ev hx).1, by unfold execOp; dsimp only; rw [(hf.ev hx).2]; rfl⟩
  ·rename_i g x1 x2 hx
   exact quiet_ok h fun N ρ w a hw hf => ⟨(hf.ev hx).1, by unfold execOp; dsimp only; rw [(hf.ev hx).2, emb_func]; rfl⟩
  ·rename_i t v hx
   exact quiet_ok h fun N ρ w a hw hf => ⟨(hf.ev hx).1, by unfold execOp; dsimp only; rw [(hf.ev hx).2]; rfl⟩
  ·cases h
 ·split at h
  ·rename_i u v hx hy
   refine quiet_okO h fun z hz N ρ w a hw hf => ?_
   have := run_binV hz ρ w
   exact ⟨lt_flat this.2 _, one (by rw [(hf.ev hx).2, (hf.ev hy).2]; exact this.1)⟩
  ·cases h
 ·split at h
  ·rename_i u hx
   refine quiet_okO h fun z hz N ρ w a hw hf => ?_
   have := run_unV (P := E.P) hz ρ w
   exact ⟨lt_flat this.2 _, one (by rw [(hf.ev hx).2]; exact this.1)⟩
  ·cases h
 ·split at h
  ·rename_i u hx
   obtain ⟨v, rfl⟩ := convV_val h
   obtain ⟨h1, hrun⟩ := convV_quiet h (hlen v rfl)
   exact ⟨h1, quiet_val fun N ρ w a hw hf => ⟨(hrun N ρ w hw).1, one (by rw [(hf.ev hx).2]; exact (hrun N ρ w hw).2)⟩⟩
  ·cases h
 ·split at h
  ·cases h
  ·rename_i d v hni hu hx
   refine quiet_ok h fun N ρ w a hw hf => ⟨by simpa using (hf.ev hx).1, one ?_⟩
   rw [(hf.ev hx).2]
   simp only [Instr.makeInterface, Sem.run_bind, run_underlying hu, Result.andThen_ok, emb_iface]
   cases d <;> first | rfl | exact absurd hu (hni _)
  ·cases h
 ·split at h
  ·rename_i us vs hx hy
   refine quiet_ok h fun N ρ w a hw hf => ?_
   have hx' := hf.evs hx
   have hy' := hf.evs hy
   refine ⟨(lt_func _ _ _ _).2 ⟨hx'.1, hy'.1⟩, one ?_⟩
   have e1 := Array.ext' (xs := Array.map a.eval _) (ys := (us.map (V.emb ρ)).toArray) (by simpa using hx'.2)
   have e2 := Array.ext' (xs := Array.map a.eval _) (ys := (vs.map (V.emb ρ)).toArray) (by simpa using hy'.2)
   rw [e1, e2, emb_func]
   rfl
  ·cases h
 ·cases hq
 ·cases hq
 ·split at h
  ·rename_i v lo' hi' mx' hx hlo hhi hmx
   simp only [Option.bind_eq_some_iff] at hlo hhi hmx
   obtain ⟨l1, l2, l3⟩ := hlo
   obtain ⟨h1, h2, h3⟩ := hhi
   obtain ⟨m1, m2, m3⟩ := hmx
   split at h
   ·simp only [Am.ok, Option.some.injEq, Prod.mk.injEq] at h
    obtain ⟨rfl, rfl⟩ := h
    have := hlen _ rfl
    simp [Hp.new] at this
   refine quiet_okO h fun z hz N ρ w a hw hf => ?_
   have := sliceV_run hw (hf.ev hx).1 l3 h3 m3 hz
   refine ⟨this.2, one ?_⟩
   rw [(hf.ev hx).2, evOpt_run hf l2, evOpt_run hf h2, evOpt_run hf m2]
   exact this.1
  ·cases h
 ·split at h
  ·rename_i v hx
   refine quiet_okO h fun z hz N ρ w a hw hf => ?_
   have := fieldAddrV_run (hf.ev hx).1 hz ρ w
   exact ⟨this.2, one (by rw [(hf.ev hx).2]; exact this.1)⟩
  ·cases h
 ·split at h
  ·rename_i v hx
   refine quiet_okO h fun z hz N ρ w a hw hf => ?_
   have := fieldV_run (hf.ev hx).1 hz ρ w
   exact ⟨this.2, one (by rw [(hf.ev hx).2]; exact this.1)⟩
  ·cases h
 ·split at h
  ·rename_i u v hx hy
   refine quiet_okO h fun z hz N ρ w a hw hf => ?_
   have := indexAddrV_run (hf.ev hx).1 hz ρ w
   exact ⟨this.2, one (by rw [(hf.ev hx).2, (hf.ev hy).2]; exact this.1)⟩
  ·cases h
 ·split at h
  ·rename_i u v hx hy
   refine quiet_okO h fun z hz N ρ w a hw hf => ?_
   have := indexV_run (hf.ev hx).1 hz ρ w
   exact ⟨this.2, one (by rw [(hf.ev hx).2, (hf.ev hy).2]; exact this.1)⟩
  ·cases h
 ·split at h
  ·rename_i u v hx hy
   refine quiet_okO h fun z hz N ρ w a hw hf => ?_
   have := lookupV_run hw hz
   exact ⟨this.2, one (by rw [(hf.ev hx).2, (hf.ev hy).2]; exact this.1)⟩
  ·cases h
 ·cases hq
 ·cases hq
 ·cases hq
 ·cases hq
 ·cases hq
 ·cases hq
 ·split at h
  ·rename_i vs hx
   refine quiet_okO h fun z hz N ρ w a hw hf => ?_
   refine ⟨ltL_get ((lt_tup _ _).1 (hf.ev hx).1) hz, one ?_⟩
   rw [(hf.ev hx).2]
   exact extract_run hz ρ w
  ·cases h
 ·rename_i c
  split at h
  ·rename_i args b hargs hcb
   have erun : ∀ (a : Act) (ρ : Nat → Loc), FR H0.objs.length ρ f a → execOp a.eval ⟨dst, .call c, type, pos, after, guard⟩ =
    builtin b c.argTypes type (c.args.map fun | .const _ => true | _ => false) (args.map (V.emb ρ)).toArray := fun a ρ hf => by
    have e1 : c.args.map a.eval = (args.map (V.emb ρ)).toArray := Array.ext' (by simpa using (hf.evs hargs).2)
    simp only [execOp, resolve, hcb, e1]
    rfl
   simp only [quietOp, hcb] at hq
   unfold builtinV at h
   split at h
   ·rename_i t ats' x hats
    refine quiet_okO h fun v hv N ρ w a hw hf => ?_
    have hw' : WR E N ρ (⟨H0.objs, H0.wr, H0.esc⟩ : Hp).objs w := hw
    have := lenV_run (ty := type) (ats := ats') hw' hv
    have e : c.argTypes = (t :: ats').toArray := Array.ext' (by simpa using hats)
    exact ⟨lt_flat this.2 _, by rw [erun a ρ hf, e]; exact one this.1⟩
   ·rename_i t ats' k o' n c' hats
    split at h
    ·rename_i el hu
     refine quiet_ok h fun N ρ w a hw hf => ⟨rfl, ?_⟩
     have e : c.argTypes = (t :: ats').toArray := Array.ext' (by simpa using hats)
     rw [erun a ρ hf, e]
     exact one (by simp [Builtin.cap_, run_underlying hu, goInt])
    ·cases h
   ·rename_i t ats' hats
    split at h
    ·rename_i el hu
     refine quiet_ok h fun N ρ w a hw hf => ⟨rfl, ?_⟩
     have e : c.argTypes = (t :: ats').toArray := Array.ext' (by simpa using hats)
     rw [erun a ρ hf, e]
     exact one (by simp [Builtin.cap_, run_underlying hu, goInt])
    ·cases h
   ·cases hq
   ·cases hq
   ·cases hq
   ·cases hq
   ·cases hq
   ·cases hq
   ·rename_i x r'
    refine quiet_okO h fun v hv N ρ w a hw hf => ?_
    have := minV_run (P := E.P) H0.objs.length ρ w r' x v (ltL_cons.1 (hf.evs hargs).1).1 hv
    exact ⟨this.2, by rw [erun a ρ hf]; exact one (by simpa [Builtin.min_] using this.1)⟩
   ·rename_i x r'
    refine quiet_okO h fun v hv N ρ w a hw hf => ?_
    have := maxV_run (P := E.P) H0.objs.length ρ w r' x v (ltL_cons.1 (hf.evs hargs).1).1 hv
    exact ⟨this.2, by rw [erun a ρ hf]; exact one (by simpa [Builtin.max_] using this.1)⟩
   ·cases h
  ·rename_i args g hargs hcg
   simp only [quietOp, hcg] at hq
   cases hq
  ·cases h
 ·cases h

def CallPost (E : Env) (N : Nat) (ρ : Nat → Loc) (H : List AObj) (w : World) : CR → Ending → World → Prop
 | .pure v, e, w' => e = .returned (v.emb ρ) ∧ WR E N ρ H w' ∧ Goes H ρ w H ρ w'
 | .eff v H', e, w' => ∃ ρ', e = .returned (v.emb ρ') ∧ WR E N ρ' H'.objs w' ∧ Goes H ρ w H'.objs ρ' w'

def CR.good (H : List AObj) : CR → Prop
 | .pure v => v.flat = true
 | .eff v H' => v.lt H'.objs.length = true ∧ Mono ⟨H, H.length, H.length⟩ H'

def Callee.Ok (E : Env) (C : Callee) : Prop := ∀ (g : FuncId) (args : List V) (H : List AObj) (c : CR), C g args H = some c → ltL H.length args →
 ∀ (N : Nat) (ρ : Nat → Loc) (w : World), WR E N ρ H w → c.good H ∧ Calls E.P g (args.map (V.emb ρ)).toArray w (CallPost E N ρ H w c)

theorem Calls.exist {P : Program} {f : FuncId} {args : Array Value} {R : Ending → World → Prop} (h : Calls P f args w R) : ∃ e w', R e w' :=
 let ⟨e, w', _, r, _⟩ := h []
 ⟨e, w', r⟩

theorem WR.closed (h : WR E N ρ H w) : Closed H.length H := fun k o _ hk => h.vals k o hk

theorem after_mono {H : Hp} {c : CR} (hc : c.good H.objs) : Mono H (H.after c).2 := by
 cases c with
 | pure v => exact Mono.refl _
 | eff v H' =>
  obtain ⟨_, hm⟩ := hc
  simp only [Hp.after]
  exact ⟨hm.len, Nat.min_le_left _ _, Nat.min_le_left _ _, fun k h1 h2 => hm.same k (Nat.lt_of_lt_of_le h1 (Nat.min_le_right _ _)) h2,
   fun lo h1 h2 h3 => hm.closed lo h1 (Nat.le_trans h2 (Nat.min_le_right _ _)) h3⟩

theorem wanted_run {n : Nat} {f : Fr} {a : Act} {ops : List Oper} {o : Oper} {b : Bool} (hf : FR n ρ f a) (h : wantedV f ops o = some b) : Region.wanted o (yielded ops.toArray a.tmps) = b := by
 unfold wantedV at h
 unfold Region.wanted
 cases hg : o.guard with
 | none => rw [hg] at h; simp only [Option.some.injEq] at h; simpa using h
 | some jw =>
  obtain ⟨j, want⟩ := jw
  rw [hg] at h
  simp only at h ⊢
  unfold yielded
  rw [List.getElem?_toArray]
  cases hd : (ops[j]?).bind (·.dst) with
  | none => rw [hd] at h; simp only [Option.some.injEq] at h; subst h; rfl
  | some d =>
   rw [hd] at h
   simp only [Option.bind_some] at h ⊢
   cases hv : get f.m d with
   | none => rw [hv] at h; cases h
   | some v =>
    rw [hv] at h
    rw [(hf.val d v hv).2]
    cases v <;> simp_all [V.emb]
    all_goals (subst h; rfl)

def Ends (E : Env) (N : Nat) (ρ : Nat → Loc) (H : List AObj) (w : World) (Q : Act → World → Prop) (f' : Fr) (H' : Hp) : Prop :=
 ∀ ρ' a' w', FR H'.objs.length ρ' f' a' → WR E N ρ' H'.objs w' → Goes H ρ w H'.objs ρ' w' → Q a' w'

def Reach (E : Env) (N : Nat) (ρ : Nat → Loc) (H : List AObj) (w : World) (f' : Fr) (H' : Hp) : Prop :=
 ∃ ρ' a' w', FR H'.objs.length ρ' f' a' ∧ WR E N ρ' H'.objs w' ∧ Goes H ρ w H'.objs ρ' w'

theorem Ends.after {Q : Act → World → Prop} {f' : Fr} {H' : Hp} (h : Ends E N ρ H w Q f' H') {ρ1 : Nat → Loc} {H1 : List AObj} {w1 : World} (hg : Goes H ρ w H1 ρ1 w1) : Ends E N ρ1 H1 w1 Q f' H' :=
 fun ρ' a' w' h1 h2 h3 => h ρ' a' w' h1 h2 (hg.trans h3)

theorem Reach.before {f' : Fr} {H' : Hp} {ρ1 : Nat → Loc} {H1 : List AObj} {w1 : World} (hg : Goes H ρ w H1 ρ1 w1) (h : Reach E N ρ1 H1 w1 f' H') : Reach E N ρ H w f' H' :=
 let ⟨ρ', a', w', h1, h2, h3⟩ := h
 ⟨ρ', a', w', h1, h2, hg.trans h3⟩

theorem evOps_mono (ok : E.Ok) {C : Callee} (hC : Callee.Ok E C) {ops : List Oper} : ∀ (r : List Oper) (f : Fr) (H : Hp) (f' : Fr) (H' : Hp) (ρ : Nat → Loc) (a : Act) (w : World),
 evOps E C ops r f H = some (f', H') → WR E N ρ H.objs w → FR H.objs.length ρ f a → Mono H H' ∧ Reach E N ρ H.objs w f' H'
 | [], f, H, f', H', ρ, a, w, h, hw, hf => by
  simp only [evOps, Option.some.injEq, Prod.mk.injEq] at h
  obtain ⟨rfl, rfl⟩ := h
  exact ⟨Mono.refl _, ρ, a, w, hf, hw, Goes.refl _ _ _⟩
 | o :: r, f, H, f', H', ρ, a, w, h, hw, hf => by
  simp only [evOps] at h
  split at h
  ·split at h
   ·rename_i v H1 hop
    have hm := opV_mono hop
    have hr := opV_run ok hw hf (wr := H.wr) (esc := H.esc) hop
    cases hr with
    | val ρ1 w1 h1 h2 h3 h4 =>
     split at h
     ·rename_i f1 hs
      have ih := evOps_mono ok hC r f1 H1 f' H' ρ1 _ w1 h h2 ((hf.mono h3.len h3.ext).set h4 hs)
      exact ⟨hm.trans ih.1, ih.2.before h3⟩
     ·cases h
   ·rename_i H1 hop
    have hm := opV_mono hop
    have hr := opV_run ok hw hf (wr := H.wr) (esc := H.esc) hop
    cases hr with
    | skip w1 h1 h2 h3 =>
     split at h
     ·rename_i f1 hs
      have ih := evOps_mono ok hC r f1 H1 f' H' ρ _ w1 h h2 ((hf.mono h3.len h3.ext).set (v := .undef) rfl hs)
      exact ⟨hm.trans ih.1, ih.2.before h3⟩
     ·cases h
   ·rename_i g args H1 hop
    have hm := opV_mono hop
    have hr := opV_run ok hw hf (wr := H.wr) (esc := H.esc) hop
    cases hr with
    | enter h1 h2 h3 =>
     split at h
     ·rename_i c hc
      have hc' := hc
      rw [h2] at hc'
      obtain ⟨hgood, hcall⟩ := hC g args H.objs c hc' h3 N ρ w hw
      obtain ⟨e, w1, hp⟩ := Calls.exist hcall
      have ha := after_mono (H := H1) (by rw [h2]; exact hgood)
      split at h
      ·rename_i f1 hs
       cases c with
       | pure v =>
        obtain ⟨rfl, p2, p3⟩ := hp
        simp only [Hp.after] at hs h ha
        have ih := evOps_mono ok hC r f1 H1 f' H' ρ _ w1 h (by rw [h2]; exact p2) (by rw [h2]; exact hf.set (lt_flat hgood _) hs)
        rw [h2] at ih
        exact ⟨hm.trans ih.1, ih.2.before p3⟩
       | eff v Hc =>
        obtain ⟨ρ1, rfl, p2, p3⟩ := hp
        simp only [Hp.after] at hs h ha
        have ih := evOps_mono ok hC r f1 _ f' H' ρ1 _ w1 h p2 ((hf.mono p3.len p3.ext).set hgood.1 hs)
        exact ⟨(hm.trans ha).trans ih.1, ih.2.before p3⟩
      ·cases h
     ·cases h
   ·cases h
  ·split at h
   ·rename_i f1 hs
    exact evOps_mono ok hC r f1 H f' H' ρ _ w h hw (hf.set (v := .undef) rfl hs)
   ·cases h
  ·cases h

theorem evOps_run (ok : E.Ok) {C : Callee} (hC : Callee.Ok E C) {ops : List Oper} {Q : Exit → Act → World → Prop} : ∀ (r : List Oper) (f : Fr) (H : Hp) (f' : Fr) (H' : Hp) (ρ : Nat → Loc) (a : Act) (w : World),
 evOps E C ops r f H = some (f', H') → WR E N ρ H.objs w → FR H.objs.length ρ f a → Ends E N ρ H.objs w (Q .normal) f' H' → wpList E.P ops.toArray Q r a w
 | [], f, H, f', H', ρ, a, w, h, hw, hf, hQ => by
  simp only [evOps, Option.some.injEq, Prod.mk.injEq] at h
  obtain ⟨rfl, rfl⟩ := h
  exact hQ ρ a w hf hw (Goes.refl _ _ _)
 | o :: r, f, H, f', H', ρ, a, w, h, hw, hf, hQ => by
  simp only [evOps] at h
  unfold wpList
  split at h
  ·rename_i hwant
   rw [if_pos (wanted_run hf hwant)]
   left
   unfold Oper.wp
   split at h
   ·rename_i v H1 hop
    have hr := opV_run ok hw hf (wr := H.wr) (esc := H.esc) hop
    cases hr with
    | val ρ1 w1 h1 h2 h3 h4 =>
     rw [h1]
     split at h
     ·rename_i f1 hs
      exact evOps_run ok hC r f1 H1 f' H' ρ1 _ w1 h h2 ((hf.mono h3.len h3.ext).set h4 hs) (hQ.after h3)
     ·cases h
   ·rename_i H1 hop
    have hr := opV_run ok hw hf (wr := H.wr) (esc := H.esc) hop
    cases hr with
    | skip w1 h1 h2 h3 =>
     rw [h1]
     split at h
     ·rename_i f1 hs
      exact evOps_run ok hC r f1 H1 f' H' ρ _ w1 h h2 ((hf.mono h3.len h3.ext).set (v := .undef) rfl hs) (hQ.after h3)
     ·cases h
   ·rename_i g args H1 hop
    have hr := opV_run ok hw hf (wr := H.wr) (esc := H.esc) hop
    cases hr with
    | enter h1 h2 h3 =>
     rw [h1]
     split at h
     ·rename_i c hc
      rw [h2] at hc
      obtain ⟨hgood, hcall⟩ := hC g args H.objs c hc h3 N ρ w hw
      simp only [Oper.upon]
      split at h
      ·rename_i f1 hs
       refine hcall.mono fun e w1 hp => ?_
       cases c with
       | pure v =>
        obtain ⟨rfl, p2, p3⟩ := hp
        simp only [Hp.after] at hs h
        exact evOps_run ok hC r f1 H1 f' H' ρ _ w1 h (by rw [h2]; exact p2) (by rw [h2]; exact hf.set (lt_flat hgood _) hs) (by rw [h2]; exact hQ.after p3)
       | eff v Hc =>
        obtain ⟨ρ1, rfl, p2, p3⟩ := hp
        simp only [Hp.after] at hs h
        exact evOps_run ok hC r f1 _ f' H' ρ1 _ w1 h p2 ((hf.mono p3.len p3.ext).set hgood.1 hs) (hQ.after p3)
      ·cases h
     ·cases h
   ·cases h
  ·rename_i hwant
   rw [if_neg (by rw [wanted_run hf hwant]; simp)]
   split at h
   ·rename_i f1 hs
    exact evOps_run ok hC r f1 H f' H' ρ _ w h hw (hf.set (v := .undef) rfl hs) hQ
   ·cases h
  ·cases h

end Go.Am
