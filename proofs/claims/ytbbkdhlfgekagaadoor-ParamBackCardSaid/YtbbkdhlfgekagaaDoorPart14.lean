/-
  Texts of this session, one behind the other: AmShelf, SyShelf.
-/
import Derived.Test.YtbbkdhlfgekagaaDoorPart13
import Derived.Shelf.Strings.OnBuilder
import Derived.Shelf.Strconv.Itoa3
namespace Go.Am
open Go Go.RowKit Go.Sort

variable {E : Env} {w : World}

theorem tabIs_of_globs {P : Program} (h : Globs E w) {name : String} {k : IntKind} {zs : List Int} {g : Nat} (hg : E.G g = some (tabCells k zs)) (hn : P.globalNamed name = some g) : Lib.TabIs P w name k zs := by
  obtain ⟨_, _, C, e, z, hC, hs, hi⟩ := h g _ hg
  unfold Lib.TabIs World.var?
  rw [hn]
  simp only [Option.bind_some, hC, Option.some.injEq]
  apply Array.ext'
  apply List.ext_getElem?
  intro i
  rw [Array.getElem?_toList]
  by_cases hlt : i < zs.length
  · have := hi i (.int k zs[i]) rho0 (by simp [tabCells, hlt])
    rw [this]
    simp [hlt]
  · have hs' : C.size = zs.length := by rw [hs]; simp [tabCells]
    rw [Array.getElem?_eq_none (by omega)]
    exact (List.getElem?_eq_none (by simp; omega)).symm

def itoaA : List V → List AObj → Option V
  | [.int .i64 n], _ => if -9223372036854775808 ≤ n ∧ n ≤ 9223372036854775807 then some (.str (Lib.itoa n)) else none
  | _, _ => none

theorem below_grow {w w' : World} (h : ∃ k os, w' = grow (w.drewN k) os) : Below w.heap.size w w' := by
  obtain ⟨k, os, rfl⟩ := h
  have hb : ∀ n, Below w.heap.size w (w.drewN n) := fun n => by
    induction n with
    | zero => exact Below.refl _ _
    | succ n ih => exact ih.drew
  have h1 := hb k
  refine ⟨h1.os, h1.tape, h1.output, ?_, fun b hb => ?_⟩
  · have := h1.size
    simp only [grow, Array.size_append]
    omega
  · have h2 := h1.block b hb
    have h3 := h1.size
    simp only [grow]
    rw [Array.getElem?_append_left (by omega)]
    exact h2

theorem Env.Ok.withItoa (ok : E.Ok) {ρ : Shelf.Ren} (L : Go.Proofs.LaysM.n171 E.P ρ) {g : Nat} (hg : E.G g = some (tabCells .u64 Lib.pow10Tab)) (hn : E.P.globalNamed "internal/strconv.uint64pow10" = some g) : (E.knowH (ρ.f 171) itoaA).Ok :=
  ok.knowH fun args H v h => by
    unfold itoaA at h
    split at h
    · rename_i n
      split at h
      · rename_i hr
        cases h
        refine ⟨rfl, fun N ρ' w hw _ => ?_⟩
        exact (Go.Proofs.Any.strconv_Itoa L n hr.1 hr.2 w (tabIs_of_globs hw.globs' hg hn)).mono fun e w' ⟨he, hb⟩ => ⟨by rw [he]; rfl, below_grow hb⟩
      · cases h
    · cases h

def strsOf : List V → Option (List (List UInt8))
  | [] => some []
  | .str s :: r => match strsOf r with
    | some l => some (s :: l)
    | none => none
  | _ => none
theorem strsOf_map : ∀ {cs : List V} {l : List (List UInt8)}, strsOf cs = some l → cs = l.map .str
  | [], l, h => by cases h; rfl
  | v :: r, l, h => by
    cases v <;> first | (simp [strsOf] at h; done) | skip
    simp only [strsOf] at h
    split at h
    · rename_i l' hl
      cases h
      rw [strsOf_map hl]
      rfl
    · cases h
def strsAt (P : Program) (H : List AObj) : V → Option (List (List UInt8))
  | .nils | .odd _ => some []
  | .slice k o n c => if n = 0 then some [] else match H[k]? with
    | some (.cells cs e md _) => if o + n ≤ cs.length ∧ (match c with
        | some c => decide (n ≤ c)
        | none => decide (md = .grown ∧ sizeT P e = some 1)) = true then strsOf ((cs.drop o).take n) else none
    | _ => none
  | _ => none
def joinA (P : Program) : List V → List AObj → Option V
  | [x, .str sep], H => match strsAt P H x with
    | some l => if l.length ≤ 140737488355328 ∧ (Lib.join l sep).length ≤ 140737488355328 then some (.str (Lib.join l sep)) else none
    | none => none
  | _, _ => none

theorem Env.Ok.withJoin (ok : E.Ok) {ρ : Shelf.Ren} (L : Go.Proofs.Lays.n156 E.P ρ) (X : Go.Proofs.Builder.Extra E.P ρ) : (E.knowH (ρ.f 156) (joinA E.P)).Ok :=
  ok.knowH fun args H v h => by
    unfold joinA at h
    split at h
    · rename_i x sep
      split at h
      · rename_i l hl
        obtain ⟨⟨hr1, hr2⟩, h⟩ := Option.ite_none_right_eq_some.1 h
        cases h
        refine ⟨rfl, fun N ρ' w hw hlt => ?_⟩
        have none' : ∀ (a : Option Addr) (c : Nat), l = [] → x.emb ρ' = .slice a 0 c → Calls E.P (ρ.f 156) (([x, .str sep] : List V).map (V.emb ρ')).toArray w fun e w' => e = .returned ((V.str (Lib.join l sep)).emb ρ') ∧ Below w.heap.size w w' := fun a c hl0 hx => by
          subst hl0
          show Calls E.P (ρ.f 156) #[x.emb ρ', (V.str sep).emb ρ'] w _
          rw [hx]
          exact (Go.Proofs.Any.strings_Join_none L X a c ⟨⟨sep⟩⟩ w).mono fun e w' ⟨he, hb⟩ => ⟨by rw [he]; rfl, hb ▸ Below.refl _ _⟩
        unfold strsAt at hl
        split at hl
        · exact none' none 0 (by simpa using hl.symm) rfl
        · rename_i a
          exact none' (some a) 0 (by simpa using hl.symm) rfl
        · rename_i k o n c
          split at hl
          · rename_i hn
            subst hn
            exact none' _ _ (by simpa using hl.symm) (by rw [emb_slice])
          split at hl
          · rename_i cs e md fz hk
            obtain ⟨⟨hle, hc⟩, hl⟩ := Option.ite_none_right_eq_some.1 hl
            have hm := strsOf_map hl
            have hlen : l.length = n := by
              have := congrArg List.length hm
              simp only [List.length_take, List.length_drop, List.length_map] at this
              omega
            have hcells : ∀ (j : Nat) (y : ByteArray), (l.map fun s => (⟨⟨s⟩⟩ : ByteArray))[j]? = some y → w.cell? ⟨(ρ' k).block, (ρ' k).off + o + j, none⟩ = some (.string y) := fun j y hj => by
              simp only [List.getElem?_map, Option.map_eq_some_iff] at hj
              obtain ⟨s, hs, rfl⟩ := hj
              have h3 : cs[o + j]? = some (.str s) := by
                have h4 : ((cs.drop o).take n)[j]? = some (.str s) := by rw [hm]; simp [hs]
                rw [List.getElem?_take] at h4
                split at h4
                · rwa [List.getElem?_drop] at h4
                · cases h4
              have := (hw.objs k _ hk).cell h3
              rw [← Nat.add_assoc] at this
              exact this
            have hbk : (ρ' k).block < w.heap.size := by
              obtain ⟨_, C, z, hC, _⟩ := hw.objs k _ hk
              exact (Array.getElem?_eq_some_iff.1 hC).1
            obtain ⟨cap, he0, hcap⟩ : ∃ cap, (V.slice k o n c).emb ρ' = .slice (some ⟨(ρ' k).block, (ρ' k).off + o, none⟩) n cap ∧ n ≤ cap := by
              cases c with
              | some c => exact ⟨c, rfl, of_decide_eq_true hc⟩
              | none =>
                obtain ⟨rfl, hz⟩ := of_decide_eq_true hc
                obtain ⟨h1, h2, h3⟩ := (hw.objs k _ hk).grown hz
                refine ⟨_, rfl, ?_⟩
                show n ≤ ((ρ' k).ext - o) / (ρ' k).sz
                rw [h2, Nat.div_one]
                omega
            have hmm : (l.map fun s => (⟨⟨s⟩⟩ : ByteArray)).map (·.data.toList) = l := by
              rw [List.map_map]
              exact List.map_id'' (fun _ => rfl) l
            have hj := Go.Proofs.Any.strings_Join L X (ρ' k).block ((ρ' k).off + o) cap (l.map fun s => (⟨⟨s⟩⟩ : ByteArray)) ⟨⟨sep⟩⟩ w hcells hbk (by simpa using hr1) (by rw [List.length_map, hlen]; exact hcap) (by rw [hmm]; exact hr2)
            rw [List.length_map, hlen, hmm] at hj
            show Calls E.P (ρ.f 156) #[(V.slice k o n c).emb ρ', (V.str sep).emb ρ'] w _
            rw [he0]
            exact hj.mono fun e w' ⟨he, hb⟩ => ⟨by rw [he]; rfl, hb⟩
          · cases hl
        · cases hl
      · cases h
    · cases h
end Go.Am

namespace Go.Am
open Go

theorem strs_of_row {c : RC} {l : List (List UInt8)} {vs : List V} (hlen : vs.length = l.length) (h : ∀ i a, l[i]? = some a → (vs.drop i).take 1 = [.str a]) : strsOf vs = some l := by
  induction l generalizing vs with
  | nil =>
    obtain rfl := List.eq_nil_of_length_eq_zero hlen
    rfl
  | cons a r ih =>
    cases vs with
    | nil => simp at hlen
    | cons v vs =>
      have h0 := h 0 a rfl
      simp only [List.drop_zero, List.take_succ_cons, List.take_zero, List.cons.injEq, and_true] at h0
      subst h0
      simp only [strsOf]
      rw [ih (by simpa using hlen) fun i b hb => by
        have := h (i + 1) b (by simpa using hb)
        simpa using this]

theorem strsAt_fz {P : Program} {c : RC} {e : TypeId} {l : List (List UInt8)} {y : V} (hz : FZ c e 1 (ER c .str) l y) (hs : sizeT P e = some 1) : strsAt P c.H y = some l := by
  rcases hz with ⟨rfl, rfl | ⟨j, o, cap, rfl⟩ | ⟨a, rfl⟩⟩ | ⟨hne, b, off, cap, rfl, ⟨_, vs, e', m, fz, h1, h2, h3⟩, h4, h5⟩
  · rfl
  · simp [strsAt]
  · rfl
  · have hl : l.length ≠ 0 := fun e => hne (List.length_eq_zero_iff.1 e)
    simp only [strsAt, h1]
    rw [if_neg hl, if_pos]
    · rw [Nat.mul_one] at h2
      refine strs_of_row (c := c) (by simp; omega) fun i a hi => ?_
      have h6 := h3 i a hi
      rw [Nat.mul_one] at h6
      have hi' := (List.getElem?_eq_some_iff.1 hi).1
      rw [List.drop_take, List.drop_drop, List.take_take, show min 1 (l.length - i) = 1 by omega]
      exact h6
    · refine ⟨by omega, ?_⟩
      cases cap with
      | some cp => exact decide_eq_true (h5 cp rfl)
      | none =>
        obtain ⟨vs', fz', h7⟩ := h4 rfl
        rw [h1] at h7
        cases h7
        exact decide_eq_true ⟨rfl, hs⟩

def cJoin (e : TypeId) : Ctr := ctr2 (.list e .str) .str [.str] (fun (l : List (List UInt8)) (s : List UInt8) => [decide (l.length ≤ 140737488355328), decide ((Lib.join l s).length ≤ 140737488355328)]) fun (l : List (List UInt8)) (s : List UInt8) => [⟨.str, Lib.join l s⟩]
theorem cJoin_ok {E : Env} {g : FuncId} {e : TypeId} (ho : ∀ args H, E.orc g args H = joinA E.P args H) (hs : sizeT E.P e = some 1) : CtrOk E g (cJoin e) := by
  intro ds gs ds' args vs sv rc hr hg hargs hv hown hsv
  obtain ⟨l, s, rfl, rfl, rfl⟩ := ctr2_res hr
  simp only [List.all_cons, id, decide_eq_true_eq, List.all_nil, Bool.and_true, Bool.and_eq_true] at hg
  have e1 : args = [.frz e .str l, .v (.str s)] := by
    have : instPL [] [.hole (.list e .str), .hole .str] [⟨.list e .str, l⟩, ⟨.str, s⟩] = some ([SV.frz e .str l, SV.v (.str s)], []) := by
      unfold instPL instP
      rw [show popD (Ty.list e .str) [⟨Ty.list e .str, l⟩, ⟨.str, s⟩] = some (l, [⟨.str, s⟩]) from popD_self (t := .list e .str)]
      simp only
      unfold instPL instP
      rw [show popD Ty.str [⟨Ty.str, s⟩] = some (s, []) from popD_self (t := .str)]
      rfl
    have e : instPL [] [.hole (.list e .str), .hole .str] [⟨.list e .str, l⟩, ⟨.str, s⟩] = some (args, []) := hargs
    rw [this] at e
    exact (Prod.mk.inj (Option.some.inj e)).1.symm
  have e2 : sv = [.v (.str (Lib.join l s))] := by
    have : instTy [.str] [⟨.str, Lib.join l s⟩] = some [SV.v (.str (Lib.join l s))] := by
      unfold instTy
      rw [show popD Ty.str [⟨Ty.str, Lib.join l s⟩] = some (Lib.join l s, []) from popD_self (t := .str)]
      rfl
    exact instTy_exact hsv this
  subst e1 e2
  obtain ⟨y, ys, rfl, hz, y', ys', rfl, ⟨rfl, _⟩, h0⟩ := hv
  have h0 : ys' = [] := h0
  subst h0
  refine ⟨.pure (.str (Lib.join l s)), ⟨1, fun m hm => ?_⟩, fun _ => ⟨_, rfl⟩, rfl, rfl⟩
  obtain ⟨m, rfl⟩ : ∃ j, m = j + 1 := ⟨m - 1, by omega⟩
  have h1 := strsAt_fz (P := E.P) hz hs
  simp only [evCall, ho, joinA, h1, if_pos hg]

def cItoa : Ctr := ctr1 (.int .i64) [.str] (fun (n : Int) => [decide (-9223372036854775808 ≤ n), decide (n ≤ 9223372036854775807)]) fun (n : Int) => [⟨.str, Lib.itoa n⟩]
theorem cItoa_ok {E : Env} {g : FuncId} (ho : ∀ args H, E.orc g args H = itoaA args H) : CtrOk E g cItoa := by
  intro ds gs ds' args vs sv rc hr hg hargs hv hown hsv
  obtain ⟨n, rfl, rfl, rfl⟩ := ctr1_res hr
  simp only [List.all_cons, id, decide_eq_true_eq, List.all_nil, Bool.and_true, Bool.and_eq_true] at hg
  have e1 : args = [.v (.int .i64 n)] := by
    have : instPL [] [.hole (.int .i64)] [⟨.int .i64, n⟩] = some ([SV.v (.int .i64 n)], []) := by
      unfold instPL instP
      rw [show popD (Ty.int .i64) [⟨Ty.int .i64, n⟩] = some (n, []) from popD_self (t := .int .i64)]
      rfl
    have e : instPL [] [.hole (.int .i64)] [⟨.int .i64, n⟩] = some (args, []) := hargs
    rw [this] at e
    exact (Prod.mk.inj (Option.some.inj e)).1.symm
  have e2 : sv = [.v (.str (Lib.itoa n))] := by
    have : instTy [.str] [⟨.str, Lib.itoa n⟩] = some [SV.v (.str (Lib.itoa n))] := by
      unfold instTy
      rw [show popD Ty.str [⟨Ty.str, Lib.itoa n⟩] = some (Lib.itoa n, []) from popD_self (t := .str)]
      rfl
    exact instTy_exact hsv this
  subst e1 e2
  obtain ⟨y, rfl, rfl, _⟩ := vrl1 hv
  refine ⟨.pure (.str (Lib.itoa n)), ⟨1, fun m hm => ?_⟩, fun _ => ⟨_, rfl⟩, rfl, rfl⟩
  obtain ⟨m, rfl⟩ : ∃ j, m = j + 1 := ⟨m - 1, by omega⟩
  simp only [evCall, ho, itoaA, if_pos hg]
end Go.Am
