/-
  Each operation of the evaluator is one of the model's: conversions, append, copy, iterators, made slices.
-/
import Derived.Test.YthmmpfaghmoenaaDoorAmOps5
namespace Go.Am
open Go

variable {P : Program} {E : Env} {N : Nat} {ρ : Nat → Loc} {H : List AObj} {w : World}

/-- What an operation comes to that answers a value. -/
def Val (E : Env) (N : Nat) (ρ : Nat → Loc) (H : List AObj) (w : World) (s : Sem Value) (v : V) (H' : List AObj) : Prop :=
  ∃ ρ' w', s.run E.P w = .ok (v.emb ρ') w' ∧ WR E N ρ' H' w' ∧ Goes H ρ w H' ρ' w' ∧ v.lt H'.length = true

theorem Val.pure (hw : WR E N ρ H w) {s : Sem Value} {v : V} (h : s.run E.P w = .ok (v.emb ρ) w) (hv : v.lt H.length = true) : Val E N ρ H w s v H :=
  ⟨ρ, w, h, hw, Goes.refl H ρ w, hv⟩

/-- A new row that has room behind it. -/
theorem WR.grow (hw : WR E N ρ H w) {w' : World} {cs : List V} {e : TypeId} {C : Array Value} {z : Nat × Nat} {sz q : Nat} (fz : Bool)
    (hsz : w'.heap.size = w.heap.size + 1) (hold : ∀ b, b < w.heap.size → w'.heap[b]? = w.heap[b]?) (hos : w'.os = w.os) (htp : w'.tape = w.tape) (hout : w'.output = w.output)
    (hnew : w'.heap[w.heap.size]? = some (.cells C e z)) (hv : ltL H.length cs) (hone : ∀ v ∈ cs, v.one = true) (hC : ∀ (i : Nat) (v : V), cs[i]? = some v → C[i]? = some (v.emb ρ))
    (hz : free z 0 C.size) (hq : C.size = q * sz) (hle : cs.length ≤ C.size) (he : sizeT E.P e = some sz) (hpos : 0 < sz) (hmax : q ≤ maxLen) :
    WR E N (upd ρ H.length ⟨w.heap.size, 0, q * sz, sz⟩) (H ++ [.cells cs e .grown fz]) w' ∧ Goes H ρ w (H ++ [.cells cs e .grown fz]) (upd ρ H.length ⟨w.heap.size, 0, q * sz, sz⟩) w' := by
  refine hw.new (.cells cs e .grown fz) ⟨w.heap.size, 0, q * sz, sz⟩ hsz hold hos htp hout rfl hv (fun ρ' hρ' => ⟨hone, C, z, hnew, fun i v hi => ?_, ?_⟩)
  · simp only [Nat.zero_add]
    rw [hC i v hi, emb_lt (ltL_get hv hi) hρ']
  · exact ⟨hw.low, fun _ i h1 h2 => hz i (by omega) (by simp only [Nat.zero_add] at h2; omega), fun i h1 h2 => hz i (by omega) h2, by simp [hq], by simpa [hq] using hle, he, hpos, q, rfl, hmax⟩

theorem shown_run (hw : WR E N ρ H w) {wr esc size n : Nat} {x : V} {cs : List V} (h : shown ⟨H, wr, esc⟩ size x = some (cs, n)) :
    (Builtin.lenOf (x.emb ρ)).run E.P w = .ok n w ∧ ltL H.length cs ∧ cs.length = n * size ∧
    ∀ m, m ≤ n → (Builtin.firstCells size m (x.emb ρ)).run E.P w = .ok ((cs.take (m * size)).map (V.emb ρ)).toArray w := by
  unfold shown at h
  split at h
  · simp only [Option.some.injEq, Prod.mk.injEq] at h
    obtain ⟨rfl, rfl⟩ := h
    refine ⟨rfl, ltL_nil _, by simp, fun m hm => ?_⟩
    simp [Builtin.firstCells]
  · rename_i k o l c
    split at h
    · rename_i cs' e m fz hk
      split at h
      · rename_i hle
        simp only [Option.some.injEq, Prod.mk.injEq] at h
        obtain ⟨rfl, rfl⟩ := h
        simp only at hk
        refine ⟨by simp [emb_slice, Builtin.lenOf], ltL_take (ltL_drop (hw.vals k _ hk)), by simp; omega, fun m hm => ?_⟩
        have hms : m * size ≤ l * size := Nat.mul_le_mul_right _ hm
        rw [emb_slice]
        have := run_firstCells_some (P := E.P) w size m ⟨(ρ k).block, (ρ k).off + o, none⟩ l (match c with | some c => c | none => ((ρ k).ext - o) / (ρ k).sz) ((((cs'.drop o).take (l * size)).take (m * size)).map (V.emb ρ))
          (by simp; omega) (fun j v hj => by
            rw [add_off]
            simp only [List.getElem?_map, Option.map_eq_some_iff] at hj
            obtain ⟨u, hu, rfl⟩ := hj
            have : cs'[o + j]? = some u := by
              rw [List.getElem?_take] at hu
              split at hu
              · rw [List.getElem?_take] at hu
                split at hu
                · rw [List.getElem?_drop] at hu; exact hu
                · cases hu
              · cases hu
            have := (hw.objs k _ hk).cell this
            rw [← Nat.add_assoc] at this
            exact this)
        exact this
      · cases h
    · cases h
  · rename_i s
    split at h
    · rename_i hs
      subst hs
      simp only [Option.some.injEq, Prod.mk.injEq] at h
      obtain ⟨rfl, rfl⟩ := h
      refine ⟨by simp [Builtin.lenOf, str_size], fun v hv => ?_, by simp, fun m hm => ?_⟩
      · obtain ⟨b, _, rfl⟩ := List.mem_map.1 hv; rfl
      · simp only [emb_str, Builtin.firstCells, str_extract, Nat.sub_zero, List.drop_zero, Sem.run_pure, Nat.mul_one]
        congr 1
        apply Array.ext'
        simp [List.map_take]
        rfl
    · cases h
  · cases h

theorem run_append_room' {t u ty e : TypeId} {du : TypeDesc} {size : Nat} (ht : P.underlying t = some (.slice e)) (hu : P.underlying u = some du) (hd : du = .string ∨ ∃ e', du = .slice e') (hs : sizeT P e = some size)
    {base : Option Addr} {sLen sCap n : Nat} {x : Value} {new : Array Value} (hlen : (Builtin.lenOf x).run P w = .ok n w) (hnew : (Builtin.firstCells size n x).run P w = .ok new w) (hroom : sLen + n ≤ sCap) :
    (Builtin.append_ #[t, u] ty #[.slice base sLen sCap, x]).run P w =
      match base with
      | some a => ((storeCells (a.add (sLen * size)) new.toList 0).run P w).andThen fun _ w' => .ok (.slice base (sLen + n) sCap) w'
      | none => .ok (.slice base (sLen + n) sCap) w := by
  rcases hd with rfl | ⟨e', rfl⟩
  · cases base <;>
      simp [Builtin.append_, run_underlying ht, run_underlying hu, run_sizeT hs, hlen, hnew, hroom]
  · cases base <;>
      simp [Builtin.append_, run_underlying ht, run_underlying hu, run_sizeT hs, hlen, hnew, hroom]

set_option maxHeartbeats 1000000 in
theorem run_append_more {t u ty e : TypeId} {du : TypeDesc} {size : Nat} (ht : P.underlying t = some (.slice e)) (hu : P.underlying u = some du) (hd : du = .string ∨ ∃ e', du = .slice e') (hs : sizeT P e = some size)
    {i : TypeInfo} (hi : P.info? e = some i) {z : Value} (hz0 : i.zero = some z)
    {base : Option Addr} {sLen sCap n : Nat} {x : Value} {new old : Array Value} (hlen : (Builtin.lenOf x).run P w = .ok n w)
    (hnew : (Builtin.firstCells size n x).run P w.drew = .ok new w.drew) (hold : (Builtin.firstCells size sLen (.slice base sLen sCap)).run P w.drew = .ok old w.drew) (hroom : ¬ sLen + n ≤ sCap)
    (h63 : sLen + n ≤ 9223372036854775807) (hby : (sLen + n) * i.bytes ≤ 140737488355328) :
    (Builtin.append_ #[t, u] ty #[.slice base sLen sCap, x]).run P w =
      .ok (.slice (some ⟨w.heap.size, 0, none⟩) (sLen + n) (grownCap w (sLen + n) sCap e))
        (w.drew.alloc (.cells (old ++ new ++ Builtin.zeroCells z.cells (grownCap w (sLen + n) sCap e - (sLen + n))) e)) := by
  have hfit := growslice_fits (show sCap < sLen + n by omega) hby
  have h63' : ¬ (9223372036854775807 < ((sLen : Int) + (n : Int))) := by omega
  have h48' : ¬ (281474976710656 < Builtin.nextslicecap (sLen + n) sCap * i.bytes) := by omega
  have hs' : i.size = size := by simpa [sizeT, hi] using hs
  rcases hd with rfl | ⟨e', rfl⟩
  · simp [Builtin.append_, run_underlying ht, run_underlying hu, sizeOf, typeInfo, zeroValue, hi, hs', hz0, hlen, hroom, h63', h48', Question.forced, hnew, hold, newRow, grownCap]
  · simp [Builtin.append_, run_underlying ht, run_underlying hu, sizeOf, typeInfo, zeroValue, hi, hs', hz0, hlen, hroom, h63', h48', Question.forced, hnew, hold, newRow, grownCap]

end Go.Am
