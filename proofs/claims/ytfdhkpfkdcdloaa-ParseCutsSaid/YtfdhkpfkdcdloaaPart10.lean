/-
  Texts of this session, one behind the other: SyLists.
-/
import Derived.Test.YtfdhkpfkdcdloaaPart9
import Derived.Deep.Slices
namespace Go.Am
open Go Go.RowKit Go.ChangeShapes

variable {H : Type} {enc : TypeId × Value → H} {P : Program} {w : World} {base : Nat} {held : Bool} {ρ : Nat → Loc} {c : RC}

theorem cell_add {ad : Addr} (hspot : ad.spot = none) {C : Array Value} {row : TypeId} {z : Nat × Nat} (hC : w.heap[ad.block]? = some (.cells C row z)) (n j : Nat) : w.cell? ((ad.add n).add j) = C[ad.off + n + j]? := by
 obtain ⟨b, o, s⟩ := ad
 simp only at hspot hC
 subst hspot
 have : ((⟨b, o, none⟩ : Addr).add n).add j = ⟨b, o + n + j, none⟩ := by
  unfold Addr.add
  split <;> split <;> simp_all
 rw [this]
 unfold World.cell?
 simp only [hC]
 rfl

abbrev roC (Hh : List AObj) : RC := ⟨Hh, fun _ => False, fun _ => none, fun _ => none⟩

def RoS (m : Nat) (o : AObj) : Prop := ∃ cs row, o = .cells cs row .ro false ∧ ∀ v ∈ cs, v.one = true ∧ v.lt m = true
def RoE (w : World) (ρ : Nat → Loc) (p : Loc × AObj) : Prop :=
 ∃ cs row C z, p.2 = .cells cs row .ro false ∧ w.heap[p.1.block]? = some (.cells C row z) ∧ ∀ (j : Nat) (v : V), cs[j]? = some v → C[p.1.off + j]? = some (v.emb ρ)
def Placed (ob : List (Loc × AObj)) (k0 : Nat) (ρ : Nat → Loc) (Hh : List AObj) : Prop := ∀ i p, ob[i]? = some p → ρ (k0 + i) = p.1 ∧ Hh[k0 + i]? = some p.2

theorem Placed.left {a b : List (Loc × AObj)} {k0 : Nat} {Hh : List AObj} (h : Placed (a ++ b) k0 ρ Hh) : Placed a k0 ρ Hh := fun i p hi => h i p (by rw [List.getElem?_append_left (List.getElem?_eq_some_iff.1 hi).1]; exact hi)
theorem Placed.right {a b : List (Loc × AObj)} {k0 n : Nat} {Hh : List AObj} (h : Placed (a ++ b) k0 ρ Hh) (hn : a.length = n) : Placed b (k0 + n) ρ Hh := fun i p hi => by
 have := h (a.length + i) p (by rw [List.getElem?_append_right (by omega), Nat.add_sub_cancel_left]; exact hi)
 rwa [hn, ← Nat.add_assoc] at this
theorem RoS.mono {m m' : Nat} {o : AObj} (h : RoS m o) (hm : m ≤ m') : RoS m' o := by
 obtain ⟨cs, row, e, h⟩ := h
 exact ⟨cs, row, e, fun v hv => ⟨(h v hv).1, lt_mono hm (h v hv).2⟩⟩

def OpN (w : World) (ty : Ty) (cs : List Value) : Prop :=
 ∃ (x : ty.den) (n : Nat), OkTy ty x ∧ ∀ k0 : Nat, ∃ (ob : List (Loc × AObj)) (vs : List V), ob.length = n ∧ (∀ v ∈ vs, v.one = true ∧ v.lt (k0 + n) = true) ∧ (∀ p ∈ ob, RoS (k0 + n) p.2) ∧
  ∀ (ρ : Nat → Loc) (Hh : List AObj), Placed ob k0 ρ Hh → cs = vs.map (V.emb ρ) ∧ ER (roC Hh) ty x vs ∧ ∀ p ∈ ob, RoE w ρ p

theorem OpN.flat {ty : Ty} (x : ty.den) (v : V) (h1 : OkTy ty x) (h2 : v.flat = true) (h3 : v.one = true) (h4 : ∀ c, ER c ty x [v]) {u : Value} (h5 : ∀ ρ, u = v.emb ρ) : OpN w ty [u] :=
 ⟨x, 0, h1, fun k0 => ⟨[], [v], rfl, (fun y hy => by rw [List.mem_singleton.1 hy]; exact ⟨h3, lt_flat h2 _⟩), (fun p hp => by cases hp), fun ρ Hh _ => ⟨by rw [h5 ρ]; rfl, h4 _, fun p hp => by cases hp⟩⟩⟩
theorem OpN.unit : OpN w .unit [] := ⟨(), 0, trivial, fun k0 => ⟨[], [], rfl, (fun y hy => by cases hy), (fun p hp => by cases hp), fun ρ Hh _ => ⟨rfl, rfl, fun p hp => by cases hp⟩⟩⟩

theorem OpN.pair {a b : Ty} {c1 c2 : List Value} (h1 : OpN w a c1) (h2 : OpN w b c2) : OpN w (.pair a b) (c1 ++ c2) := by
 obtain ⟨x, n, e1, e2⟩ := h1
 obtain ⟨y, m, f1, f2⟩ := h2
 refine ⟨(x, y), n + m, ⟨e1, f1⟩, fun k0 => ?_⟩
 obtain ⟨o1, v1, g1, g2, g3, g4⟩ := e2 k0
 obtain ⟨o2, v2, k1, k2, k3, k4⟩ := f2 (k0 + n)
 refine ⟨o1 ++ o2, v1 ++ v2, by rw [List.length_append, g1, k1], fun v hv => ?_, fun p hp => ?_, fun ρ Hh hp => ?_⟩
 ·rcases List.mem_append.1 hv with h | h
  ·exact ⟨(g2 v h).1, lt_mono (by omega) (g2 v h).2⟩
  ·rw [← Nat.add_assoc]; exact k2 v h
 ·rcases List.mem_append.1 hp with h | h
  ·exact (g3 p h).mono (by omega)
  ·rw [← Nat.add_assoc]; exact k3 p h
 ·obtain ⟨r1, r2, r3⟩ := g4 ρ Hh hp.left
  obtain ⟨s1, s2, s3⟩ := k4 ρ Hh (hp.right g1)
  refine ⟨by rw [r1, s1, List.map_append], ⟨v1, v2, rfl, r2, s2⟩, fun p hp => ?_⟩
  rcases List.mem_append.1 hp with h | h
  ·exact r3 p h
  ·exact s3 p h

def layN (P : Program) : Nat → TypeId → Option Ty
 | 0, _ => none
 | d + 1, t => match P.underlying t with
  | some (.int .u8) => some .byte
  | some (.int k) => some (.int k)
  | some .bool => some .bool
  | some .string => some .str
  | some (.slice e) => match layN P d e with
   | some a => if a.size = P.cellsOf e ∧ 0 < a.size then some (.list e a) else none
   | none => none
  | some (.struct fs) => match layF (layN P d) P 0 fs.toList with
   | some ty => if ty.size = P.cellsOf t then some ty else none
   | none => none
  | some (.array n e) => match layN P d e with
   | some a => if a.size = P.cellsOf e ∧ n * P.cellsOf e = P.cellsOf t then some (arrTy a n) else none
   | none => none
  | _ => none

theorem opn_fields {lay : TypeId → Option Ty} {cs : List Value} : ∀ (fl : List Field) (off : Nat) (ty : Ty), layF lay P off fl = some ty →
 (∀ f ∈ fl, ∀ a, lay f.type = some a → OpN w a ((cs.drop f.offset).take (P.cellsOf f.type))) → OpN w ty ((cs.drop off).take ty.size)
 | [], off, ty, h, _ => by
  simp only [layF, Option.some.injEq] at h
  subst h
  simp only [Ty.size, List.take_zero]
  exact OpN.unit
 | f :: r, off, ty, h, hf => by
  simp only [layF] at h
  split at h
  ·rename_i a b ha hb
   obtain ⟨⟨h1, h2⟩, h⟩ := of_ite2 h
   cases h
   have e1 := hf f (by simp) a ha
   have e2 := opn_fields r _ b hb (fun g hg => hf g (List.mem_cons_of_mem _ hg))
   rw [h1, ← h2] at e1
   rw [← h2] at e2
   have : (cs.drop off).take (a.size + b.size) = (cs.drop off).take a.size ++ (cs.drop (off + a.size)).take b.size := by
    rw [List.take_add, List.drop_drop]
   simp only [Ty.size, this]
   exact e1.pair e2
  ·cases h

theorem opn_arr {a : Ty} {cs : List Value} {sz : Nat} (hsz : a.size = sz) : ∀ (n off : Nat), (∀ i, i < n → OpN w a ((cs.drop (off + i * sz)).take sz)) → OpN w (arrTy a n) ((cs.drop off).take (arrTy a n).size)
 | 0, off, _ => by
  simp only [arrTy, Ty.size, List.take_zero]
  exact OpN.unit
 | n + 1, off, h => by
  have e1 := h 0 (by omega)
  rw [Nat.zero_mul, Nat.add_zero, ← hsz] at e1
  have e2 := opn_arr hsz n (off + sz) fun i hi => by
   have := h (i + 1) (by omega)
   rwa [show off + (i + 1) * sz = off + sz + i * sz by rw [Nat.add_mul]; omega] at this
  have : (cs.drop off).take (a.size + (arrTy a n).size) = (cs.drop off).take a.size ++ (cs.drop (off + sz)).take (arrTy a n).size := by
   rw [List.take_add, List.drop_drop, hsz]
  simp only [arrTy, Ty.size, this]
  exact e1.pair e2

theorem opn_elems {e : TypeId} {a : Ty} (hsz : a.size = P.cellsOf e) {ad : Addr} (hspot : ad.spot = none) {C : Array Value} {row : TypeId} {z : Nat × Nat} (hC : w.heap[ad.block]? = some (.cells C row z)) :
 ∀ (len i0 : Nat), (∀ i, i < len → ∃ cs, w.cells? base (ad.add ((i0 + i) * P.cellsOf e)) (P.cellsOf e) = some cs ∧ OpN w a cs) →
 ∃ (l : List a.den) (n : Nat), l.length = len ∧ (∀ x ∈ l, OkTy a x) ∧ ∀ k0 : Nat, ∃ (ob : List (Loc × AObj)) (vs : List V), ob.length = n ∧ vs.length = len * a.size ∧ (∀ v ∈ vs, v.one = true ∧ v.lt (k0 + n) = true) ∧ (∀ p ∈ ob, RoS (k0 + n) p.2) ∧
  ∀ (ρ : Nat → Loc) (Hh : List AObj), Placed ob k0 ρ Hh → (∀ (j : Nat) (v : V), vs[j]? = some v → C[ad.off + i0 * a.size + j]? = some (v.emb ρ)) ∧ (∀ (i : Nat) (x : a.den), l[i]? = some x → ER (roC Hh) a x ((vs.drop (i * a.size)).take a.size)) ∧ ∀ p ∈ ob, RoE w ρ p
 | 0, i0, _ => ⟨[], 0, rfl, (fun x h => by cases h), fun k0 => ⟨[], [], rfl, by simp, (fun v h => by cases h), (fun p h => by cases h), fun ρ Hh _ => ⟨(fun j v h => by simp at h), (fun i x h => by simp at h), fun p h => by cases h⟩⟩⟩
 | len + 1, i0, h => by
  obtain ⟨cs, h1, x0, n0, e1, e2⟩ := h 0 (by omega)
  rw [Nat.add_zero] at h1
  obtain ⟨l, n, f1, f2, f3⟩ := opn_elems hsz hspot hC len (i0 + 1) fun i hi => by
   have := h (i + 1) (by omega)
   rwa [show i0 + (i + 1) = i0 + 1 + i by omega] at this
  refine ⟨x0 :: l, n0 + n, by simp [f1], fun y hy => ?_, fun k0 => ?_⟩
  ·rcases List.mem_cons.1 hy with rfl | hy
   ·exact e1
   ·exact f2 y hy
  ·obtain ⟨o1, us, g1, g2, g3, g4⟩ := e2 k0
   obtain ⟨o2, vs, k1, k2, k3, k4, k5⟩ := f3 (k0 + n0)
   have hcl := (World.cells?_some h1).2.2
   have hlen : us.length = a.size := by
    obtain ⟨r1, r2, _⟩ := g4 (fun k => ((o1[k - k0]?).map (·.1)).getD ⟨0, 0, 0, 0⟩) (List.replicate k0 .dead ++ o1.map (·.2)) (fun i p hi => ⟨by simp [hi], by rw [List.getElem?_append_right (by simp)]; simp [hi]⟩)
    exact r2.length
   refine ⟨o1 ++ o2, us ++ vs, by rw [List.length_append, g1, k1], by rw [List.length_append, hlen, k2, Nat.add_mul]; omega, fun v hv => ?_, fun p hp => ?_, fun ρ Hh hp => ?_⟩
   ·rcases List.mem_append.1 hv with h | h
    ·exact ⟨(g2 v h).1, lt_mono (by omega) (g2 v h).2⟩
    ·rw [← Nat.add_assoc]; exact k3 v h
   ·rcases List.mem_append.1 hp with h | h
    ·exact (g3 p h).mono (by omega)
    ·rw [← Nat.add_assoc]; exact k4 p h
   ·obtain ⟨r1, r2, r3⟩ := g4 ρ Hh hp.left
    obtain ⟨s1, s2, s3⟩ := k5 ρ Hh (hp.right g1)
    refine ⟨fun j v hv => ?_, fun i y hy => ?_, fun p hp => ?_⟩
    ·by_cases hj : j < us.length
     ·rw [List.getElem?_append_left hj] at hv
      have := hcl j (by omega)
      rw [cell_add hspot hC, r1, List.getElem?_map, hv] at this
      rw [← hsz] at this
      exact this
     ·rw [List.getElem?_append_right (by omega)] at hv
      have := s1 (j - us.length) v hv
      rwa [show ad.off + (i0 + 1) * a.size + (j - us.length) = ad.off + i0 * a.size + j by rw [Nat.add_mul, hlen]; omega] at this
    ·cases i with
     | zero =>
      simp only [List.getElem?_cons_zero, Option.some.injEq] at hy
      subst hy
      rw [Nat.zero_mul, List.drop_zero, List.take_append_of_le_length (by omega), ← hlen, List.take_length]
      exact r2
     | succ i =>
      have := s2 i y (by simpa using hy)
      rw [show (i + 1) * a.size = us.length + i * a.size by rw [Nat.add_mul, hlen]; omega, ← List.drop_drop, List.drop_left' rfl]
      exact this
    ·rcases List.mem_append.1 hp with h | h
     ·exact r3 p h
     ·exact s3 p h

theorem opn_cells : ∀ (d : Nat) (t : TypeId) (ty : Ty) (fuel : Nat) (cs : List Value) (x : DataW H × List MemPlace), layN P d t = some ty → DataW.trod enc P w base (fun _ => true) held fuel t cs = some x → OpN w ty cs
 | 0, t, ty, fuel, cs, x, h, _ => by simp [layN] at h
 | d + 1, t, ty, fuel, cs, x, h, hx => by
  simp only [layN] at h
  split at h
  ·rename_i ht
   cases h
   obtain ⟨n, rfl, rfl, hw⟩ := DataW.trod_int ht hx
   simp only [Lit.wf, Bool.and_eq_true, decide_eq_true_eq] at hw
   have h0 : IntKind.min .u8 = 0 := rfl
   have h1 : IntKind.max .u8 = 255 := rfl
   rw [h0, h1] at hw
   refine OpN.flat (ty := .byte) (UInt8.ofNat n.toNat) (.int .u8 n) trivial rfl rfl (fun c => ?_) fun ρ => rfl
   simp only [ER]
   rw [byte_back hw.1 (by omega)]
  ·rename_i k _ ht
   cases h
   obtain ⟨n, rfl, rfl, hw⟩ := DataW.trod_int ht hx
   simp only [Lit.wf, Bool.and_eq_true, decide_eq_true_eq] at hw
   exact OpN.flat (ty := .int k) n (.int k n) hw rfl rfl (fun c => rfl) fun ρ => rfl
  ·rename_i ht
   cases h
   obtain ⟨b, rfl, rfl⟩ := DataW.trod_bool ht hx
   exact OpN.flat (ty := .bool) b (.bool b) trivial rfl rfl (fun c => rfl) fun ρ => rfl
  ·rename_i ht
   cases h
   obtain ⟨s, rfl, rfl, hs⟩ := DataW.trod_string ht hx
   exact OpN.flat (ty := .str) s.data.toList (.str s.data.toList) hs rfl rfl (fun c => rfl) fun ρ => rfl
  ·rename_i e ht
   split at h
   ·rename_i a ha
    obtain ⟨⟨hsz, hpos⟩, h⟩ := of_ite2 h
    cases h
    rcases Go.Deep.open_slice ht hx with ⟨rfl, _⟩ | ⟨ad, len, cap, m, n, D, Pl, rfl, hb, hl, hm, hmm, _, hel⟩
    ·exact OpN.flat (ty := .list e a) ([] : List a.den) .nils ⟨Nat.zero_le _, fun x hx => by cases hx⟩ rfl rfl (fun c => ⟨.nils, rfl, .inl ⟨rfl, .inl rfl⟩⟩) fun ρ => rfl
    ·simp only [if_true] at hmm
     subst hmm
     by_cases hc0 : m = 0
     ·subst hc0
      obtain rfl : len = 0 := by omega
      exact OpN.flat (ty := .list e a) ([] : List a.den) (.odd ad) ⟨Nat.zero_le _, fun x hx => by cases hx⟩ rfl rfl (fun c => ⟨.odd ad, rfl, .inl ⟨rfl, .inr (.inr ⟨ad, rfl⟩)⟩⟩) fun ρ => rfl
     ·obtain ⟨cs0, h1, _⟩ := hel 0 (by omega)
      have hcell := (World.cells?_some h1).2.2 0 (by omega)
      have hlen0 := (World.cells?_some h1).1
      obtain ⟨hspot, C, row, z, hC⟩ : ad.spot = none ∧ ∃ C row z, w.heap[ad.block]? = some (.cells C row z) := by
       have hlt : 0 < cs0.length := by
        have := (World.cells?_some h1)
        omega
       rw [List.getElem?_eq_getElem hlt] at hcell
       have hz : (ad.add (0 * P.cellsOf e)).add 0 = ad := by
        obtain ⟨b, o, s⟩ := ad
        unfold Addr.add
        split <;> split <;> simp_all
       rw [hz] at hcell
       unfold World.cell? at hcell
       split at hcell
       ·rename_i C row z hC
        split at hcell
        ·cases hcell
        ·rename_i hs
         refine ⟨?_, C, row, z, hC⟩
         cases hsp : ad.spot with
         | none => rfl
         | some q => rw [hsp] at hs; simp at hs
       ·cases hcell
      obtain ⟨l, q, f1, f2, f3⟩ := opn_elems hsz hspot hC len 0 (fun i hi => by
       rw [Nat.zero_add]
       obtain ⟨cs', h3, h4⟩ := hel i (by omega)
       exact ⟨cs', h3, opn_cells d e a n cs' _ ha h4⟩)
      refine ⟨l, q + 1, ⟨by omega, f2⟩, fun k0 => ?_⟩
      obtain ⟨ob, vs, g1, g2, g3, g4, g5⟩ := f3 k0
      refine ⟨ob ++ [(⟨ad.block, ad.off, 0, 0⟩, .cells vs row .ro false)], [.slice (k0 + q) 0 len (some m)], by simp [g1], fun v hv => ?_, fun p hp => ?_, fun ρ Hh hp => ?_⟩
      ·rw [List.mem_singleton.1 hv]
       exact ⟨rfl, by simp only [V.lt, V.all, decide_eq_true_eq]; omega⟩
      ·rcases List.mem_append.1 hp with h | h
       ·exact (g4 p h).mono (by omega)
       ·rw [List.mem_singleton.1 h]
        exact ⟨vs, row, rfl, fun v hv => ⟨(g3 v hv).1, lt_mono (by omega) (g3 v hv).2⟩⟩
      ·obtain ⟨r1, r2, r3⟩ := g5 ρ Hh hp.left
       obtain ⟨m1, m2⟩ := (hp.right g1) 0 _ rfl
       rw [Nat.add_zero] at m1 m2
       refine ⟨?_, ⟨_, rfl, ?_⟩, fun p hp' => ?_⟩
       ·obtain ⟨b, o, s⟩ := ad
        simp only at hspot
        subst hspot
        simp only [List.map_cons, List.map_nil, V.emb, m1, Nat.add_zero]
       ·by_cases hn : l = []
        ·refine .inl ⟨hn, .inr (.inl ⟨k0 + q, 0, some m, ?_⟩)⟩
         rw [hn] at f1
         rw [← f1]
         rfl
        ·refine .inr ⟨hn, k0 + q, 0, some m, by rw [f1], ⟨fun h => h, vs, row, .ro, false, m2, by rw [f1, g2]; omega, fun i x hx => ?_⟩, (fun h => by cases h), fun n hn => ?_⟩
         ·rw [Nat.zero_add]
          exact r2 i x hx
         ·cases hn
          omega
       ·rcases List.mem_append.1 hp' with h | h
        ·exact r3 p h
        ·rw [List.mem_singleton.1 h]
         refine ⟨vs, row, C, z, rfl, hC, fun j v hj => ?_⟩
         have := r1 j v hj
         rwa [Nat.zero_mul, Nat.add_zero] at this
   ·cases h
  ·rename_i fs ht
   split at h
   ·rename_i ty' hty
    obtain ⟨hsz, h⟩ := of_ite2 h
    cases h
    obtain ⟨xs, n, rfl, rfl, hl, hxl, hget⟩ := DataW.trod_struct ht hx
    have := opn_fields (w := w) (cs := cs) fs.toList 0 ty hty fun f hf a ha => by
     obtain ⟨i, hi⟩ := List.getElem?_of_mem hf
     have hi' : fs[i]? = some f := by simpa using hi
     have hlt : i < xs.length := by rw [hxl]; exact (Array.getElem?_eq_some_iff.1 hi').1
     have hg := hget i f hi'
     rw [List.getElem?_eq_getElem hlt] at hg
     exact opn_cells d f.type a n _ _ ha hg
    rw [List.drop_zero, hsz, ← hl, List.take_length] at this
    exact this
   ·cases h
  ·rename_i n e ht
   split at h
   ·rename_i a ha
    obtain ⟨⟨h1, h2⟩, h⟩ := of_ite2 h
    cases h
    cases fuel with
    | zero => simp [DataW.trod] at hx
    | succ m =>
     unfold DataW.trod at hx
     rw [ht] at hx
     simp only at hx
     obtain ⟨hl, hx⟩ := of_ite2 hx
     rw [Option.map_eq_some_iff] at hx
     obtain ⟨xs, hxs, _⟩ := hx
     have := opn_arr (w := w) (cs := cs) h1 n 0 fun i hi => by
      obtain ⟨b, hb⟩ := mapM_get hxs i i (by simp [hi])
      rw [Nat.zero_add]
      exact opn_cells d e a m _ b ha hb
     rw [List.drop_zero, arr_size, h1, h2, ← hl, List.take_length] at this
     exact this
   ·cases h
  ·cases h

theorem opn_one {b0 d : Nat} {t : TypeId} {ty : Ty} {v : Value} {D : DataW H} {ps : List MemPlace} (hl : layN P d t = some ty) (hval : Value.okWide P w .any b0 t v) (hd : DataW.Trod enc P w base (fun _ => true) held t v D ps) :
 ∃ (x : ty.den) (n : Nat), OkTy ty x ∧ ∀ k0 : Nat, ∃ (ob : List (Loc × AObj)) (y : V), ob.length = n ∧ y.lt (k0 + n) = true ∧ (∀ p ∈ ob, RoS (k0 + n) p.2) ∧
  ∀ (ρ : Nat → Loc) (Hh : List AObj), Placed ob k0 ρ Hh → v = y.emb ρ ∧ VR (roC Hh) (instH ty x) y ∧ ∀ p ∈ ob, RoE w ρ p := by
 obtain ⟨fuel, hf⟩ := hd
 obtain ⟨x, n, e1, e2⟩ := opn_cells d t ty fuel _ _ hl hf
 refine ⟨x, n, e1, fun k0 => ?_⟩
 obtain ⟨ob, vs, g1, g2, g3, g4⟩ := e2 k0
 have scalar : isCompound ty = false → v.cells.toList = [v] → ∃ (ob : List (Loc × AObj)) (y : V), ob.length = n ∧ y.lt (k0 + n) = true ∧ (∀ p ∈ ob, RoS (k0 + n) p.2) ∧
  ∀ (ρ : Nat → Loc) (Hh : List AObj), Placed ob k0 ρ Hh → v = y.emb ρ ∧ VR (roC Hh) (instH ty x) y ∧ ∀ p ∈ ob, RoE w ρ p := by
  intro hc hv
  have hlen : vs.length = 1 := by
   obtain ⟨r1, _, _⟩ := g4 (fun k => ((ob[k - k0]?).map (·.1)).getD ⟨0, 0, 0, 0⟩) (List.replicate k0 .dead ++ ob.map (·.2)) (fun i p hi => ⟨by simp [hi], by rw [List.getElem?_append_right (by simp)]; simp [hi]⟩)
   have := congrArg List.length r1
   rw [hv] at this
   simpa using this.symm
  obtain ⟨u, rfl⟩ := List.length_eq_one_iff.1 hlen
  refine ⟨ob, u, g1, (g2 u (by simp)).2, g3, fun ρ Hh hp => ?_⟩
  obtain ⟨r1, r2, r3⟩ := g4 ρ Hh hp
  rw [hv] at r1
  refine ⟨by simpa using r1, instH_er.2 ⟨[u], r2, by rw [hc]; rfl, fun _ => rfl⟩, r3⟩
 have comp : isCompound ty = true → (∃ cs, v = .agg cs) → ∃ (ob : List (Loc × AObj)) (y : V), ob.length = n ∧ y.lt (k0 + n) = true ∧ (∀ p ∈ ob, RoS (k0 + n) p.2) ∧
  ∀ (ρ : Nat → Loc) (Hh : List AObj), Placed ob k0 ρ Hh → v = y.emb ρ ∧ VR (roC Hh) (instH ty x) y ∧ ∀ p ∈ ob, RoE w ρ p := by
  rintro hc ⟨cs, rfl⟩
  refine ⟨ob, .agg vs, g1, ?_, g3, fun ρ Hh hp => ?_⟩
  ·simp only [V.lt, V.all]
   exact allL_mem.2 fun u hu => (g2 u hu).2
  ·obtain ⟨r1, r2, r3⟩ := g4 ρ Hh hp
   refine ⟨?_, instH_er.2 ⟨vs, r2, by rw [hc]; rfl, fun h => by rw [hc] at h; cases h⟩, r3⟩
   simp only [Value.cells] at r1
   simp only [V.emb, embL_eq]
   rw [← r1]
 cases d with
 | zero => simp [layN] at hl
 | succ d =>
  unfold Value.okWide at hval
  simp only [layN] at hl
  split at hl
  ·rename_i ht
   cases hl
   rw [ht] at hval
   simp only [Cell.okWide, Cell.ok, ht] at hval
   exact scalar rfl (by cases v <;> first | rfl | (simp at hval))
  ·rename_i k _ ht
   cases hl
   rw [ht] at hval
   simp only [Cell.okWide, Cell.ok, ht] at hval
   exact scalar rfl (by cases v <;> first | rfl | (simp at hval))
  ·rename_i ht
   cases hl
   rw [ht] at hval
   simp only [Cell.okWide, Cell.ok, ht] at hval
   exact scalar rfl (by cases v <;> first | rfl | (simp at hval))
  ·rename_i ht
   cases hl
   rw [ht] at hval
   simp only [Cell.okWide, Cell.ok, ht] at hval
   exact scalar rfl (by cases v <;> first | rfl | (simp at hval))
  ·rename_i e ht
   split at hl
   ·have hl := (of_ite2 hl).2
    cases hl
    rw [ht] at hval
    simp only [Cell.okWide, Cell.ok, ht] at hval
    exact scalar rfl (by cases v <;> first | rfl | (simp at hval))
   ·cases hl
  ·rename_i fs ht
   rw [ht] at hval
   obtain ⟨cs, h1, _⟩ := hval
   split at hl
   ·rename_i ty' hty
    have hl := (of_ite2 hl).2
    cases hl
    refine comp ?_ ⟨cs, h1⟩
    cases hfl : fs.toList with
    | nil => rw [hfl] at hty; simp only [layF, Option.some.injEq] at hty; subst hty; rfl
    | cons f r =>
     rw [hfl] at hty
     simp only [layF] at hty
     split at hty
     ·have hty := (of_ite2 hty).2
      cases hty
      rfl
     ·cases hty
   ·cases hl
  ·rename_i n e ht
   rw [ht] at hval
   obtain ⟨cs, h1, _⟩ := hval
   split at hl
   ·have hl := (of_ite2 hl).2
    cases hl
    refine comp ?_ ⟨cs, h1⟩
    cases n <;> rfl
   ·cases hl
  ·cases hl

def layNAll (P : Program) (d : Nat) : List TypeId → Option (List Ty)
 | [] => some []
 | t :: r => match layN P d t, layNAll P d r with
  | some a, some b => some (a :: b)
  | _, _ => none

theorem opn_all {d b0 : Nat} : ∀ (ts : List TypeId) (tys : List Ty) (vs : List Value) (Ds : List (DataW H)) (ps : List MemPlace), layNAll P d ts = some tys → DataW.TrodAll enc P w base (fun _ => true) held ts vs Ds ps →
 (∀ (j : Nat) t v, ts[j]? = some t → vs[j]? = some v → Value.okWide P w .any b0 t v) →
 ∃ (ds : List Dy) (n : Nat), OkDs tys ds ∧ ∀ k0 : Nat, ∃ (ob : List (Loc × AObj)) (ys : List V), ob.length = n ∧ (∀ y ∈ ys, y.lt (k0 + n) = true) ∧ (∀ p ∈ ob, RoS (k0 + n) p.2) ∧
  ∀ (ρ : Nat → Loc) (Hh : List AObj), Placed ob k0 ρ Hh → ∃ as : List SV, vs = ys.map (V.emb ρ) ∧ instPL [] (tys.map .hole) ds = some (as, []) ∧ VRL (roC Hh) as ys ∧ ∀ p ∈ ob, RoE w ρ p
 | [], tys, [], [], ps, hl, _, _ => by
  simp only [layNAll, Option.some.injEq] at hl
  subst hl
  exact ⟨[], 0, rfl, fun k0 => ⟨[], [], rfl, (fun y hy => by cases hy), (fun p hp => by cases hp), fun ρ Hh _ => ⟨[], rfl, rfl, rfl, fun p hp => by cases hp⟩⟩⟩
 | [], tys, [], _ :: _, ps, hl, h, _ => by simp [DataW.TrodAll] at h
 | [], tys, _ :: _, _, ps, hl, h, _ => by simp [DataW.TrodAll] at h
 | _ :: _, tys, [], _, ps, hl, h, _ => by simp [DataW.TrodAll] at h
 | _ :: _, tys, _ :: _, [], ps, hl, h, _ => by simp [DataW.TrodAll] at h
 | t :: ts, tys, v :: vs, D :: Ds, ps, hl, h, hval => by
  simp only [layNAll] at hl
  split at hl
  ·rename_i a b ha hb
   cases hl
   obtain ⟨p, q, h1, h2, _⟩ := h
   obtain ⟨x, n, e1, e2⟩ := opn_one ha (hval 0 t v rfl rfl) h1
   obtain ⟨ds, m, f1, f2⟩ := opn_all ts b vs Ds q hb h2 fun j t v ht hv => hval (j + 1) t v (by simpa using ht) (by simpa using hv)
   refine ⟨⟨a, x⟩ :: ds, n + m, ⟨x, ds, rfl, e1, f1⟩, fun k0 => ?_⟩
   obtain ⟨o1, y, g1, g2, g3, g4⟩ := e2 k0
   obtain ⟨o2, ys, k1, k2, k3, k4⟩ := f2 (k0 + n)
   refine ⟨o1 ++ o2, y :: ys, by rw [List.length_append, g1, k1], fun z hz => ?_, fun p hp => ?_, fun ρ Hh hp => ?_⟩
   ·rcases List.mem_cons.1 hz with rfl | hz
    ·exact lt_mono (by omega) g2
    ·rw [← Nat.add_assoc]; exact k2 z hz
   ·rcases List.mem_append.1 hp with h | h
    ·exact (g3 p h).mono (by omega)
    ·rw [← Nat.add_assoc]; exact k3 p h
   ·obtain ⟨r1, r2, r3⟩ := g4 ρ Hh hp.left
    obtain ⟨as, s1, s2, s3, s4⟩ := k4 ρ Hh (hp.right g1)
    refine ⟨instH a x :: as, by rw [r1, s1]; rfl, ?_, ⟨y, ys, rfl, r2, s3⟩, fun p hp => ?_⟩
    ·simp only [List.map_cons, instPL, instP, popD_self, s2]
    ·rcases List.mem_append.1 hp with h | h
     ·exact r3 p h
     ·exact s4 p h
  ·cases hl

theorem ro_own {Hh : List AObj} (h : ∀ o ∈ Hh, o.own = false) (ρ : Nat → Loc) (b : Nat) : ¬ Owned Hh ρ b := by
 rintro ⟨k, o, h1, h2, _⟩
 rw [h o (List.mem_of_getElem? h1)] at h2
 cases h2

theorem law_lists {S : SE} (hS : SOkE S) (ok : S.E.Ok) {g : FuncId} (hOg : NoOrc S.E g) (hfull : S.E.full g = false) {H : Type} {enc : TypeId × Value → H} {w : World} (hG : Globs S.E w) {ts : List TypeId} {tys : List Ty} {d b0 : Nat} (hl : layNAll S.E.P d ts = some tys)
 (h : ∀ ds, OkDs tys ds → ∃ n, fnY S loopY (tys.map .hole) [.bool] n g ds = some [⟨.bool, true⟩]) {vs : List Value} {Ds : List (DataW H)} {ps : List MemPlace} (ht : DataW.TrodAll enc S.E.P w 0 (fun _ => true) true ts vs Ds ps)
 (hval : ∀ (j : Nat) t v, ts[j]? = some t → vs[j]? = some v → Value.okWide S.E.P w .any b0 t v) :
 Calls S.E.P g vs.toArray w fun e w' => e = .returned (.bool true) ∧ Below w.heap.size w w' := by
 obtain ⟨ds, n0, e1, e2⟩ := opn_all ts tys vs Ds ps hl ht hval
 obtain ⟨os, ys, e3, e4, e5, e6⟩ := e2 0
 have hρ : Placed os 0 (fun k => ((os[k]?).map (·.1)).getD ⟨0, 0, 0, 0⟩) (os.map (·.2)) := fun i p hi => by simp [hi]
 obtain ⟨as, f1, f2, f3, f4⟩ := e6 _ _ hρ
 generalize hr : (fun k => ((os[k]?).map (·.1)).getD ⟨0, 0, 0, 0⟩ : Nat → Loc) = ρ at f1 f4 hρ
 obtain ⟨n, hn⟩ := h ds e1
 have hsv : instTy [.bool] [⟨.bool, true⟩] = some [SV.v (.bool true)] := by
  unfold instTy
  rw [show popD Ty.bool [⟨Ty.bool, true⟩] = some (true, []) from popD_self (t := .bool)]
  rfl
 obtain ⟨cr, h1, h2, h3⟩ := fn_gives hS.G hS.ctr hS.orc hS.mem hOg hfull (hole_pure tys) hn f2 f3 (fun j hj => hj.elim) hsv
 obtain ⟨v, rfl⟩ := h2 rfl
 obtain ⟨rfl, _⟩ := h3
 subst f1
 rw [Nat.zero_add] at e4 e5
 have ro : ∀ (k : Nat) (o : AObj), (os.map (·.2))[k]? = some o → RoS n0 o ∧ RoE w ρ (ρ k, o) := fun k o hk => by
  simp only [List.getElem?_map, Option.map_eq_some_iff] at hk
  obtain ⟨p, hp, rfl⟩ := hk
  have := (hρ k p hp).1
  rw [Nat.zero_add] at this
  rw [this]
  exact ⟨e5 p (List.mem_of_getElem? hp), f4 p (List.mem_of_getElem? hp)⟩
 have hlo : (os.map (·.2)).length = n0 := by rw [List.length_map, e3]
 have own : ∀ o ∈ os.map (·.2), o.own = false := fun o ho => by
  obtain ⟨k, hk⟩ := List.getElem?_of_mem ho
  obtain ⟨cs, row, rfl, _⟩ := (ro k o hk).1
  rfl
 have hw : WR S.E w.heap.size ρ (os.map (·.2)) w := by
  refine ⟨Nat.le_refl _, fun k o hk => ?_, fun k o hk => ?_, fun k k' o o' hk _ ho _ _ => ?_, fun g cs hg => ?_⟩
  ·obtain ⟨cs, row, rfl, g1⟩ := (ro k o hk).1
   rw [hlo]
   exact fun u hu => (g1 u hu).2
  ·obtain ⟨cs, row, rfl, g1⟩ := (ro k o hk).1
   obtain ⟨cs', row', C, z, g0, g2, g3⟩ := (ro k _ hk).2
   cases g0
   exact ⟨fun u hu => (g1 u hu).1, C, z, g2, fun i u hi => g3 i u hi, (Array.getElem?_eq_some_iff.1 g2).1⟩
  ·rw [own o (List.mem_of_getElem? hk)] at ho
   cases ho
  ·obtain ⟨g1, g2, C, e, z, g3, g5, g4⟩ := hG g cs hg
   exact ⟨g1, g2, C, e, z, g3, g5, fun i u hi => g4 i u ρ hi⟩
 have hlt : ltL (os.map (·.2)).length ys := fun y hy => by rw [hlo]; exact e4 y hy
 refine (h1.calls ok hlt hw).mono fun e w' hp => ?_
 obtain ⟨rfl, _, hg⟩ := hp
 exact ⟨rfl, hg.os, hg.tape, hg.output, hg.size, fun b hb => hg.same b hb (ro_own own ρ b)⟩
end Go.Am
