/-
  Texts of this session, one behind the other: AmRel, AmMem.
-/
import Derived.Test.YtfdhkpfkdcdloaaPart0
import Derived.WalkKit
import Derived.Lib.ConvBytes
namespace Go.Am

theorem embL_eq (ρ : Nat → Loc) : ∀ l : List V, V.embL ρ l = l.map (V.emb ρ)
 | [] => rfl
 | v :: r => by simp [V.embL, embL_eq ρ r]

theorem allL_eq (p : Nat → Bool) : ∀ l : List V, V.allL p l = l.all (V.all p)
 | [] => rfl
 | v :: r => by simp [V.allL, allL_eq p r]

@[simp] theorem emb_agg (ρ : Nat → Loc) (cs : List V) : (V.agg cs).emb ρ = .agg (cs.map (V.emb ρ)).toArray := by simp [V.emb, embL_eq]
@[simp] theorem emb_tup (ρ : Nat → Loc) (cs : List V) : (V.tup cs).emb ρ = .tuple (cs.map (V.emb ρ)).toArray := by simp [V.emb, embL_eq]
@[simp] theorem emb_func (ρ : Nat → Loc) (f : FuncId) (a b : List V) : (V.func f a b).emb ρ = .func (.func f) (a.map (V.emb ρ)).toArray (b.map (V.emb ρ)).toArray := by simp [V.emb, embL_eq]
@[simp] theorem emb_bool (ρ : Nat → Loc) (b : Bool) : (V.bool b).emb ρ = .bool b := rfl
@[simp] theorem emb_int (ρ : Nat → Loc) (k : IntKind) (n : Int) : (V.int k n).emb ρ = .int k n := rfl
@[simp] theorem emb_str (ρ : Nat → Loc) (s : List UInt8) : (V.str s).emb ρ = .string ⟨⟨s⟩⟩ := rfl
@[simp] theorem emb_nilp (ρ : Nat → Loc) : V.nilp.emb ρ = .pointer none := rfl
@[simp] theorem emb_ptr (ρ : Nat → Loc) (k o : Nat) : (V.ptr k o).emb ρ = .pointer (some ⟨(ρ k).block, (ρ k).off + o, none⟩) := rfl
@[simp] theorem emb_gptr (ρ : Nat → Loc) (k o : Nat) : (V.gptr k o).emb ρ = .pointer (some ⟨k, o, none⟩) := rfl
@[simp] theorem emb_nils (ρ : Nat → Loc) : V.nils.emb ρ = .slice none 0 0 := rfl
@[simp] theorem emb_odd (ρ : Nat → Loc) (a : Addr) : (V.odd a).emb ρ = .slice (some a) 0 0 := rfl
theorem emb_slice (ρ : Nat → Loc) (k o l : Nat) (c : Option Nat) : (V.slice k o l c).emb ρ =
 .slice (some ⟨(ρ k).block, (ρ k).off + o, none⟩) l (match c with | some c => c | none => ((ρ k).ext - o) / (ρ k).sz) := rfl
@[simp] theorem emb_slice_some (ρ : Nat → Loc) (k o l c : Nat) : (V.slice k o l (some c)).emb ρ = .slice (some ⟨(ρ k).block, (ρ k).off + o, none⟩) l c := rfl
@[simp] theorem emb_slice_none (ρ : Nat → Loc) (k o l : Nat) : (V.slice k o l none).emb ρ = .slice (some ⟨(ρ k).block, (ρ k).off + o, none⟩) l (((ρ k).ext - o) / (ρ k).sz) := rfl
@[simp] theorem emb_nilm (ρ : Nat → Loc) : V.nilm.emb ρ = .map none := rfl
@[simp] theorem emb_map (ρ : Nat → Loc) (k : Nat) : (V.map k).emb ρ = .map (some (ρ k).block) := rfl
@[simp] theorem emb_nilf (ρ : Nat → Loc) : V.nilf.emb ρ = .nilFunc := rfl
@[simp] theorem emb_nili (ρ : Nat → Loc) : V.nili.emb ρ = .nilIface := rfl
@[simp] theorem emb_iface (ρ : Nat → Loc) (t : TypeId) (v : V) : (V.iface t v).emb ρ = .iface t (v.emb ρ) := rfl

mutual
theorem emb_congr (ρ ρ' : Nat → Loc) (p : Nat → Bool) (h : ∀ k, p k = true → ρ' k = ρ k) : ∀ v : V, v.all p = true → v.emb ρ' = v.emb ρ
 | .bool _, _ | .int _ _, _ | .str _, _ | .nilp, _ | .gptr _ _, _ | .nils, _ | .odd _, _ | .nilm, _ | .nilf, _ | .nili, _ => rfl
 | .ptr k _, hv => by simp only [V.all] at hv; simp [V.emb, h k hv]
 | .slice k _ _ _, hv => by simp only [V.all] at hv; simp [V.emb, h k hv]
 | .map k, hv => by simp only [V.all] at hv; simp [V.emb, h k hv]
 | .func f a b, hv => by
  simp only [V.all, Bool.and_eq_true] at hv
  simp only [V.emb, embL_congr ρ ρ' p h a hv.1, embL_congr ρ ρ' p h b hv.2]
 | .iface t v, hv => by simp only [V.all] at hv; simp only [V.emb, emb_congr ρ ρ' p h v hv]
 | .agg cs, hv => by simp only [V.all] at hv; simp only [V.emb, embL_congr ρ ρ' p h cs hv]
 | .tup cs, hv => by simp only [V.all] at hv; simp only [V.emb, embL_congr ρ ρ' p h cs hv]
theorem embL_congr (ρ ρ' : Nat → Loc) (p : Nat → Bool) (h : ∀ k, p k = true → ρ' k = ρ k) : ∀ l : List V, V.allL p l = true → V.embL ρ' l = V.embL ρ l
 | [], _ => rfl
 | v :: r, hv => by
  simp only [V.allL, Bool.and_eq_true] at hv
  simp only [V.embL, emb_congr ρ ρ' p h v hv.1, embL_congr ρ ρ' p h r hv.2]
end

mutual
theorem all_mono (p q : Nat → Bool) (h : ∀ k, p k = true → q k = true) : ∀ v : V, v.all p = true → v.all q = true
 | .bool _, _ | .int _ _, _ | .str _, _ | .nilp, _ | .gptr _ _, _ | .nils, _ | .odd _, _ | .nilm, _ | .nilf, _ | .nili, _ => rfl
 | .ptr k _, hv => h k hv
 | .slice k _ _ _, hv => h k hv
 | .map k, hv => h k hv
 | .func f a b, hv => by
  simp only [V.all, Bool.and_eq_true] at hv ⊢
  exact ⟨allL_mono p q h a hv.1, allL_mono p q h b hv.2⟩
 | .iface t v, hv => by simp only [V.all] at hv ⊢; exact all_mono p q h v hv
 | .agg cs, hv => by simp only [V.all] at hv ⊢; exact allL_mono p q h cs hv
 | .tup cs, hv => by simp only [V.all] at hv ⊢; exact allL_mono p q h cs hv
theorem allL_mono (p q : Nat → Bool) (h : ∀ k, p k = true → q k = true) : ∀ l : List V, V.allL p l = true → V.allL q l = true
 | [], _ => rfl
 | v :: r, hv => by
  simp only [V.allL, Bool.and_eq_true] at hv ⊢
  exact ⟨all_mono p q h v hv.1, allL_mono p q h r hv.2⟩
end

def V.lt (n : Nat) (v : V) : Bool := v.all fun k => decide (k < n)
def ltL (n : Nat) (l : List V) : Prop := ∀ v ∈ l, v.lt n = true

theorem lt_mono {n m : Nat} (h : n ≤ m) {v : V} (hv : v.lt n = true) : v.lt m = true :=
 all_mono _ _ (fun k hk => by simp at hk ⊢; omega) v hv
theorem lt_flat {v : V} (h : v.flat = true) (n : Nat) : v.lt n = true := all_mono _ _ (fun _ hk => by cases hk) v h
theorem emb_flat {v : V} (h : v.flat = true) (ρ ρ' : Nat → Loc) : v.emb ρ' = v.emb ρ := emb_congr ρ ρ' _ (fun _ hk => by cases hk) v h
theorem emb_lt {n : Nat} {v : V} (h : v.lt n = true) {ρ ρ' : Nat → Loc} (he : ∀ k, k < n → ρ' k = ρ k) : v.emb ρ' = v.emb ρ :=
 emb_congr ρ ρ' _ (fun k hk => he k (by simpa using hk)) v h
theorem ltL_mono {n m : Nat} (h : n ≤ m) {l : List V} (hv : ltL n l) : ltL m l := fun v hm => lt_mono h (hv v hm)

@[simp] theorem lt_agg (n : Nat) (cs : List V) : (V.agg cs).lt n = true ↔ ltL n cs := by simp [V.lt, V.all, allL_eq, ltL]
@[simp] theorem lt_tup (n : Nat) (cs : List V) : (V.tup cs).lt n = true ↔ ltL n cs := by simp [V.lt, V.all, allL_eq, ltL]
@[simp] theorem lt_func (n : Nat) (f : FuncId) (a b : List V) : (V.func f a b).lt n = true ↔ ltL n a ∧ ltL n b := by simp [V.lt, V.all, allL_eq, ltL]
@[simp] theorem lt_iface (n : Nat) (t : TypeId) (v : V) : (V.iface t v).lt n = v.lt n := by simp [V.lt, V.all]
@[simp] theorem lt_bool (n : Nat) (b : Bool) : (V.bool b).lt n = true := rfl
@[simp] theorem lt_int (n : Nat) (k : IntKind) (i : Int) : (V.int k i).lt n = true := rfl
@[simp] theorem lt_str (n : Nat) (s : List UInt8) : (V.str s).lt n = true := rfl
@[simp] theorem lt_nilp (n : Nat) : V.nilp.lt n = true := rfl
@[simp] theorem lt_nils (n : Nat) : V.nils.lt n = true := rfl
@[simp] theorem lt_odd (n : Nat) (a : Addr) : (V.odd a).lt n = true := rfl
@[simp] theorem lt_nilm (n : Nat) : V.nilm.lt n = true := rfl
@[simp] theorem lt_nilf (n : Nat) : V.nilf.lt n = true := rfl
@[simp] theorem lt_nili (n : Nat) : V.nili.lt n = true := rfl
@[simp] theorem lt_gptr (n g o : Nat) : (V.gptr g o).lt n = true := rfl
@[simp] theorem lt_ptr (n k o : Nat) : (V.ptr k o).lt n = decide (k < n) := rfl
@[simp] theorem lt_slice (n k o l : Nat) (c : Option Nat) : (V.slice k o l c).lt n = decide (k < n) := rfl
@[simp] theorem lt_map (n k : Nat) : (V.map k).lt n = decide (k < n) := rfl

theorem ltL_nil (n : Nat) : ltL n [] := fun _ h => by cases h
theorem ltL_cons {n : Nat} {v : V} {l : List V} : ltL n (v :: l) ↔ v.lt n = true ∧ ltL n l := by simp [ltL]
theorem ltL_append {n : Nat} {a b : List V} : ltL n (a ++ b) ↔ ltL n a ∧ ltL n b := by
 simp only [ltL, List.mem_append]
 exact ⟨fun h => ⟨fun v hv => h v (.inl hv), fun v hv => h v (.inr hv)⟩, fun h v hv => hv.elim (h.1 v) (h.2 v)⟩
theorem ltL_take {n m : Nat} {l : List V} (h : ltL n l) : ltL n (l.take m) := fun v hv => h v (List.mem_of_mem_take hv)
theorem ltL_drop {n m : Nat} {l : List V} (h : ltL n l) : ltL n (l.drop m) := fun v hv => h v (List.mem_of_mem_drop hv)
theorem ltL_get {n i : Nat} {l : List V} {v : V} (h : ltL n l) (hv : l[i]? = some v) : v.lt n = true := h v (List.mem_of_getElem? hv)
theorem ltL_cells {n : Nat} {v : V} (h : v.lt n = true) : ltL n v.cells := by
 cases v with
 | agg cs => exact (lt_agg _ _).1 h
 | _ => intro u hu; simp only [V.cells, List.mem_singleton] at hu; subst hu; exact h

theorem emb_cells (ρ : Nat → Loc) (v : V) : (v.emb ρ).cells = (v.cells.map (V.emb ρ)).toArray := by
 cases v <;> simp [V.cells, Value.cells, V.emb, embL_eq]

theorem emb_one (ρ : Nat → Loc) (v : V) : (v.emb ρ).oneCell' = v.one := by
 cases v <;> simp [V.one, Value.oneCell', V.emb]

mutual
theorem ofVal_emb (ρ : Nat → Loc) : ∀ (v : Value) (x : V), ofVal v = some x → x.emb ρ = v ∧ x.flat = true
 | .bool b, x, h => by simp only [ofVal, Option.some.injEq] at h; subst h; exact ⟨rfl, rfl⟩
 | .int k n, x, h => by simp only [ofVal, Option.some.injEq] at h; subst h; exact ⟨rfl, rfl⟩
 | .string s, x, h => by simp only [ofVal, Option.some.injEq] at h; subst h; exact ⟨rfl, rfl⟩
 | .pointer none, x, h => by simp only [ofVal, Option.some.injEq] at h; subst h; exact ⟨rfl, rfl⟩
 | .slice none 0 0, x, h => by simp only [ofVal, Option.some.injEq] at h; subst h; exact ⟨rfl, rfl⟩
 | .map none, x, h => by simp only [ofVal, Option.some.injEq] at h; subst h; exact ⟨rfl, rfl⟩
 | .nilFunc, x, h => by simp only [ofVal, Option.some.injEq] at h; subst h; exact ⟨rfl, rfl⟩
 | .nilIface, x, h => by simp only [ofVal, Option.some.injEq] at h; subst h; exact ⟨rfl, rfl⟩
 | .iface t v, x, h => by
  simp only [ofVal, Option.map_eq_some_iff] at h
  obtain ⟨y, hy, rfl⟩ := h
  have := ofVal_emb ρ v y hy
  exact ⟨by simp [this.1], by simpa [V.flat, V.all] using this.2⟩
 | .func (.func f) ⟨[]⟩ ⟨[]⟩, x, h => by simp only [ofVal, Option.some.injEq] at h; subst h; exact ⟨rfl, rfl⟩
 | .agg ⟨cs⟩, x, h => by
  simp only [ofVal, Option.map_eq_some_iff] at h
  obtain ⟨y, hy, rfl⟩ := h
  have := ofVals_emb ρ cs y hy
  exact ⟨by simp [V.emb, this.1], by simpa [V.flat, V.all] using this.2⟩
 | .tuple ⟨cs⟩, x, h => by
  simp only [ofVal, Option.map_eq_some_iff] at h
  obtain ⟨y, hy, rfl⟩ := h
  have := ofVals_emb ρ cs y hy
  exact ⟨by simp [V.emb, this.1], by simpa [V.flat, V.all] using this.2⟩
theorem ofVals_emb (ρ : Nat → Loc) : ∀ (l : List Value) (xs : List V), ofVals l = some xs → V.embL ρ xs = l ∧ V.allL (fun _ => false) xs = true
 | [], xs, h => by simp only [ofVals, Option.some.injEq] at h; subst h; exact ⟨rfl, rfl⟩
 | v :: r, xs, h => by
  simp only [ofVals] at h
  cases h1 : ofVal v with
  | none => rw [h1] at h; cases h
  | some x =>
   cases h2 : ofVals r with
   | none => rw [h1, h2] at h; cases h
   | some ys =>
    rw [h1, h2] at h
    simp only [Option.some.injEq] at h
    subst h
    have a := ofVal_emb ρ v x h1
    have b := ofVals_emb ρ r ys h2
    exact ⟨by simp [V.embL, a.1, b.1], by simp only [V.allL, Bool.and_eq_true]; exact ⟨a.2, b.2⟩⟩
end

def AObj.own : AObj → Bool
 | .cells _ _ .ro _ | .dead => false
 | _ => true

def Ent.emb (ρ : Nat → Loc) (e : Ent) : MapEntry := { key := e.key.emb ρ, val := e.val.emb ρ, born := e.born }

def free (z : Nat × Nat) (a b : Nat) : Prop := ∀ i, a ≤ i → i < b → ¬ (z.1 ≤ i ∧ i < z.2)

def OR (P : Program) (N : Nat) (ρ : Nat → Loc) (w : World) (l : Loc) : AObj → Prop
 | .cells cs e m fz => (∀ v ∈ cs, v.one = true) ∧ ∃ C z, w.heap[l.block]? = some (.cells C e z) ∧ (∀ (i : Nat) (v : V), cs[i]? = some v → C[l.off + i]? = some (v.emb ρ)) ∧
  (match m with
   | .ro => l.block < N
   | .rw => N ≤ l.block ∧ (fz = false → free z l.off (l.off + cs.length)) ∧ l.off = 0 ∧ C.size = cs.length
   | .grown => N ≤ l.block ∧ (fz = false → free z l.off (l.off + cs.length)) ∧ free z (l.off + cs.length) C.size ∧ l.off + l.ext = C.size ∧ cs.length ≤ l.ext ∧ sizeT P e = some l.sz ∧ 0 < l.sz ∧ (∃ q, l.ext = q * l.sz ∧ q ≤ maxLen))
 | .map es clock => w.heap[l.block]? = some (.map (es.map (Ent.emb ρ)).toArray clock) ∧ N ≤ l.block
 | .alts as => (∃ p ∈ as, w.heap[l.block]? = some (.map (p.1.map (Ent.emb ρ)).toArray p.2)) ∧ N ≤ l.block
 | .iter s pos => w.heap[l.block]? = some (.stringIter ⟨⟨s⟩⟩ pos) ∧ N ≤ l.block ∧ l.off = 0
 | .dead => True

structure WR (E : Env) (N : Nat) (ρ : Nat → Loc) (H : List AObj) (w : World) : Prop where
 low : N ≤ w.heap.size
 vals : ∀ (k : Nat) (o : AObj), H[k]? = some o → ltL H.length o.vals
 objs : ∀ (k : Nat) (o : AObj), H[k]? = some o → OR E.P N ρ w (ρ k) o
 inj : ∀ (k k' : Nat) (o o' : AObj), H[k]? = some o → H[k']? = some o' → o.own = true → o'.own = true → k ≠ k' → (ρ k).block ≠ (ρ k').block
 globs : ∀ (g : Nat) (cs : List V), E.G g = some cs → g < N ∧ (∀ v ∈ cs, v.flat = true ∧ v.one = true) ∧ ∃ C e z, w.heap[g]? = some (.cells C e z) ∧ C.size = cs.length ∧ ∀ (i : Nat) (v : V), cs[i]? = some v → C[i]? = some (v.emb ρ)

def Owned (H : List AObj) (ρ : Nat → Loc) (b : Nat) : Prop := ∃ k o, H[k]? = some o ∧ o.own = true ∧ (ρ k).block = b

structure Goes (H : List AObj) (ρ : Nat → Loc) (w : World) (H' : List AObj) (ρ' : Nat → Loc) (w' : World) : Prop where
 os : w'.os = w.os
 tape : w'.tape = w.tape
 output : w'.output = w.output
 size : w.heap.size ≤ w'.heap.size
 same : ∀ b, b < w.heap.size → ¬ Owned H ρ b → w'.heap[b]? = w.heap[b]?
 owned : ∀ b, b < w.heap.size → Owned H' ρ' b → Owned H ρ b
 ext : ∀ k, k < H.length → ρ' k = ρ k
 len : H.length ≤ H'.length

theorem Goes.refl (H : List AObj) (ρ : Nat → Loc) (w : World) : Goes H ρ w H ρ w :=
 ⟨rfl, rfl, rfl, Nat.le_refl _, fun _ _ _ => rfl, fun _ _ h => h, fun _ _ => rfl, Nat.le_refl _⟩

theorem Goes.trans {H H1 H2 : List AObj} {ρ ρ1 ρ2 : Nat → Loc} {w w1 w2 : World} (a : Goes H ρ w H1 ρ1 w1) (b : Goes H1 ρ1 w1 H2 ρ2 w2) : Goes H ρ w H2 ρ2 w2 where
 os := b.os.trans a.os
 tape := b.tape.trans a.tape
 output := b.output.trans a.output
 size := Nat.le_trans a.size b.size
 same := fun x hx hn => (b.same x (Nat.lt_of_lt_of_le hx a.size) (fun h => hn (a.owned x hx h))).trans (a.same x hx hn)
 owned := fun x hx h => a.owned x hx (b.owned x (Nat.lt_of_lt_of_le hx a.size) h)
 ext := fun k hk => (b.ext k (Nat.lt_of_lt_of_le hk a.len)).trans (a.ext k hk)
 len := Nat.le_trans a.len b.len

theorem WR.drew {E : Env} {N : Nat} {ρ : Nat → Loc} {H : List AObj} {w : World} (h : WR E N ρ H w) : WR E N ρ H w.drew := ⟨h.low, h.vals, h.objs, h.inj, h.globs⟩

theorem WR.drawn {E : Env} {N : Nat} {ρ : Nat → Loc} {H : List AObj} {w w' : World} (h : WR E N ρ H w) (hh : w'.heap = w.heap) : WR E N ρ H w' :=
 ⟨by rw [hh]; exact h.low, h.vals, fun k o hk => by
  have := h.objs k o hk
  cases o <;> simp only [OR, hh] at this ⊢ <;> exact this, h.inj, fun g cs hg => by rw [hh]; exact h.globs g cs hg⟩

theorem WR.block_lt {E : Env} {N : Nat} {ρ : Nat → Loc} {H : List AObj} {w : World} (h : WR E N ρ H w) {k : Nat} {o : AObj} (hk : H[k]? = some o) (hd : o ≠ .dead) : (ρ k).block < w.heap.size := by
 have := h.objs k o hk
 cases o with
 | cells cs e m fz => obtain ⟨_, C, z, hC, _⟩ := this; exact (Array.getElem?_eq_some_iff.1 hC).1
 | map es c => exact (Array.getElem?_eq_some_iff.1 this.1).1
 | alts as => obtain ⟨⟨p, _, hp⟩, _⟩ := this; exact (Array.getElem?_eq_some_iff.1 hp).1
 | iter s p => exact (Array.getElem?_eq_some_iff.1 this.1).1
 | dead => exact absurd rfl hd

theorem AObj.own_ne_dead {o : AObj} (h : o.own = true) : o ≠ .dead := by intro e; subst e; cases h

theorem WR.own_ge {E : Env} {N : Nat} {ρ : Nat → Loc} {H : List AObj} {w : World} (h : WR E N ρ H w) {k : Nat} {o : AObj} (hk : H[k]? = some o) (ho : o.own = true) : N ≤ (ρ k).block := by
 have := h.objs k o hk
 cases o with
 | cells cs e m fz =>
  obtain ⟨_, C, z, hC, _, hm⟩ := this
  cases m with
  | ro => cases ho
  | rw => exact hm.1
  | grown => exact hm.1
 | map es c => exact this.2
 | alts as => exact this.2
 | iter s p => exact this.2.1
 | dead => cases ho

theorem OR.kept {P : Program} {N : Nat} {ρ ρ' : Nat → Loc} {n : Nat} {w w' : World} {l : Loc} {o : AObj} (h : OR P N ρ w l o) (hv : ltL n o.vals) (he : ∀ k, k < n → ρ' k = ρ k)
 (hb : w'.heap[l.block]? = w.heap[l.block]?) : OR P N ρ' w' l o := by
 cases o with
 | cells cs e m fz =>
  obtain ⟨h1, C, z, hC, hcs, hm⟩ := h
  exact ⟨h1, C, z, hb.trans hC, fun i v hi => by rw [hcs i v hi, emb_lt (ltL_get hv hi) he], hm⟩
 | map es c =>
  refine ⟨?_, h.2⟩
  rw [hb, h.1]
  congr 2
  refine congrArg List.toArray (List.map_congr_left fun e hm => ?_)
  have hk : e.key.lt n = true := hv _ (List.mem_append.2 (.inl (List.mem_map.2 ⟨e, hm, rfl⟩)))
  have hw : e.val.lt n = true := hv _ (List.mem_append.2 (.inr (List.mem_map.2 ⟨e, hm, rfl⟩)))
  simp [Ent.emb, emb_lt hk he, emb_lt hw he]
 | alts as =>
  obtain ⟨⟨p, hp, h1⟩, h2⟩ := h
  refine ⟨⟨p, hp, ?_⟩, h2⟩
  rw [hb, h1]
  congr 2
  refine congrArg List.toArray (List.map_congr_left fun e hm => ?_)
  have hk : e.key.lt n = true := hv _ (List.mem_flatMap.2 ⟨p, hp, List.mem_append.2 (.inl (List.mem_map.2 ⟨e, hm, rfl⟩))⟩)
  have hw : e.val.lt n = true := hv _ (List.mem_flatMap.2 ⟨p, hp, List.mem_append.2 (.inr (List.mem_map.2 ⟨e, hm, rfl⟩))⟩)
  simp [Ent.emb, emb_lt hk he, emb_lt hw he]
 | iter s p => exact ⟨hb.trans h.1, h.2⟩
 | dead => trivial

theorem globs_kept {E : Env} {N : Nat} {ρ ρ' : Nat → Loc} {H : List AObj} {w w' : World} (h : WR E N ρ H w) (hb : ∀ b, b < N → w'.heap[b]? = w.heap[b]?) :
 ∀ g cs, E.G g = some cs → g < N ∧ (∀ v ∈ cs, v.flat = true ∧ v.one = true) ∧ ∃ C e z, w'.heap[g]? = some (.cells C e z) ∧ C.size = cs.length ∧ ∀ (i : Nat) (v : V), cs[i]? = some v → C[i]? = some (v.emb ρ') := by
 intro g cs hg
 obtain ⟨h1, h2, C, e, z, hC, h4, h3⟩ := h.globs g cs hg
 exact ⟨h1, h2, C, e, z, (hb g h1).trans hC, h4, fun i v hi => by rw [h3 i v hi, emb_flat (h2 v (List.mem_of_getElem? hi)).1 ρ ρ']⟩

def upd (ρ : Nat → Loc) (n : Nat) (l : Loc) : Nat → Loc := fun k => if k = n then l else ρ k
@[simp] theorem upd_same (ρ : Nat → Loc) (n : Nat) (l : Loc) : upd ρ n l n = l := by simp [upd]
theorem upd_ne (ρ : Nat → Loc) {n k : Nat} (l : Loc) (h : k ≠ n) : upd ρ n l k = ρ k := by simp [upd, h]
theorem upd_lt (ρ : Nat → Loc) {n k : Nat} (l : Loc) (h : k < n) : upd ρ n l k = ρ k := upd_ne ρ l (Nat.ne_of_lt h)

theorem WR.new {E : Env} {N : Nat} {ρ : Nat → Loc} {H : List AObj} {w w' : World} (h : WR E N ρ H w) (o : AObj) (l : Loc)
 (hsz : w'.heap.size = w.heap.size + 1) (hold : ∀ b, b < w.heap.size → w'.heap[b]? = w.heap[b]?) (hos : w'.os = w.os) (htp : w'.tape = w.tape) (hout : w'.output = w.output) (hl : l.block = w.heap.size) (hv : ltL H.length o.vals)
 (ho : ∀ ρ', (∀ k, k < H.length → ρ' k = ρ k) → OR E.P N ρ' w' l o) :
 WR E N (upd ρ H.length l) (H ++ [o]) w' ∧ Goes H ρ w (H ++ [o]) (upd ρ H.length l) w' := by
 have hext : ∀ k, k < H.length → upd ρ H.length l k = ρ k := fun k hk => upd_lt ρ l hk
 have hget : ∀ k o', (H ++ [o])[k]? = some o' → (k < H.length ∧ H[k]? = some o') ∨ (k = H.length ∧ o' = o) := fun k o' hk => by
  rcases Nat.lt_trichotomy k H.length with hlt | heq | hgt
  ·rw [List.getElem?_append_left hlt] at hk; exact .inl ⟨hlt, hk⟩
  ·subst heq
   simp at hk
   exact .inr ⟨rfl, hk.symm⟩
  ·rw [List.getElem?_append_right (by omega), List.getElem?_eq_none (by simp; omega)] at hk; cases hk
 refine ⟨⟨by have := h.low; omega, ?_, ?_, ?_, globs_kept h (fun b hb => hold b (by have := h.low; omega))⟩,
  ⟨hos, htp, hout, by omega, fun b hb _ => hold b hb, ?_, hext, by simp⟩⟩
 ·intro k o' hk
  rw [List.length_append]
  rcases hget k o' hk with ⟨_, hk'⟩ | ⟨_, rfl⟩
  ·exact ltL_mono (by simp) (h.vals k o' hk')
  ·exact ltL_mono (by simp) hv
 ·intro k o' hk
  rcases hget k o' hk with ⟨hlt, hk'⟩ | ⟨rfl, rfl⟩
  ·by_cases hd : o' = .dead
   ·subst hd; trivial
   ·rw [hext k hlt]
    exact (h.objs k o' hk').kept (h.vals k o' hk') hext (hold _ (h.block_lt hk' hd))
  ·rw [upd_same]
   exact ho _ hext
 ·intro k k' o1 o2 hk hk' h1 h2 hne
  rcases hget k o1 hk with ⟨hlt, hk1⟩ | ⟨rfl, rfl⟩ <;> rcases hget k' o2 hk' with ⟨hlt', hk2⟩ | ⟨rfl, rfl⟩
  ·rw [hext k hlt, hext k' hlt']; exact h.inj k k' o1 o2 hk1 hk2 h1 h2 hne
  ·rw [hext k hlt]
   rw [upd_same, hl]
   have := h.block_lt hk1 (AObj.own_ne_dead h1)
   omega
  ·rw [hext k' hlt']
   rw [upd_same, hl]
   have := h.block_lt hk2 (AObj.own_ne_dead h2)
   omega
  ·exact absurd rfl hne
 ·rintro b hb ⟨k, o', hk, hown, hbk⟩
  rcases hget k o' hk with ⟨hlt, hk1⟩ | ⟨rfl, rfl⟩
  ·exact ⟨k, o', hk1, hown, by rw [hext k hlt] at hbk; exact hbk⟩
  ·rw [upd_same, hl] at hbk; omega

theorem WR.write {E : Env} {N : Nat} {ρ : Nat → Loc} {H : List AObj} {w w' : World} (h : WR E N ρ H w) {k : Nat} {o o' : AObj} (hk : H[k]? = some o) (ho : o.own = true)
 (hos : w'.os = w.os) (htp : w'.tape = w.tape) (hout : w'.output = w.output) (hsz : w'.heap.size = w.heap.size)
 (hw : ∀ b, b ≠ (ρ k).block → w'.heap[b]? = w.heap[b]?) (hv : ltL H.length o'.vals) (ho' : OR E.P N ρ w' (ρ k) o') :
 WR E N ρ (H.set k o') w' ∧ Goes H ρ w (H.set k o') ρ w' := by
 have hlt : k < H.length := (List.getElem?_eq_some_iff.1 hk).1
 have hge := h.own_ge hk ho
 have hget : ∀ j oj, (H.set k o')[j]? = some oj → (j = k ∧ oj = o') ∨ (j ≠ k ∧ H[j]? = some oj) := fun j oj hj => by
  by_cases hjk : j = k
  ·subst hjk
   rw [List.getElem?_set_self hlt] at hj
   exact .inl ⟨rfl, (Option.some.inj hj).symm⟩
  ·rw [List.getElem?_set_ne (Ne.symm hjk)] at hj
   exact .inr ⟨hjk, hj⟩
 have hother : ∀ j oj, j ≠ k → H[j]? = some oj → oj ≠ .dead → w'.heap[(ρ j).block]? = w.heap[(ρ j).block]? := fun j oj hjk hj hd => by
  refine hw _ fun e => ?_
  cases hoj : oj.own with
  | true => exact h.inj j k oj o hj hk hoj ho hjk e
  | false =>
   have := h.objs j oj hj
   cases oj with
   | cells cs el m fz =>
    cases m with
    | ro => obtain ⟨_, C, z, _, _, hm⟩ := this; rw [e] at hm; simp only at hm; omega
    | rw => cases hoj
    | grown => cases hoj
   | map es c => cases hoj
   | alts as => cases hoj
   | iter s p => cases hoj
   | dead => exact hd rfl
 refine ⟨⟨by rw [hsz]; exact h.low, ?_, ?_, ?_, globs_kept h (fun b hb => hw b (by omega))⟩,
  ⟨hos, htp, hout, Nat.le_of_eq hsz.symm, fun b hb hn => hw b (fun e => hn ⟨k, o, hk, ho, e.symm⟩), ?_, fun _ _ => rfl, by simp⟩⟩
 ·intro j oj hj
  rw [List.length_set]
  rcases hget j oj hj with ⟨_, rfl⟩ | ⟨_, hj'⟩
  ·exact hv
  ·exact h.vals j oj hj'
 ·intro j oj hj
  rcases hget j oj hj with ⟨rfl, rfl⟩ | ⟨hne, hj'⟩
  ·exact ho'
  ·by_cases hd : oj = .dead
   ·subst hd; trivial
   ·exact (h.objs j oj hj').kept (h.vals j oj hj') (fun _ _ => rfl) (hother j oj hne hj' hd)
 ·intro i j oi oj hi hj h1 h2 hne
  rcases hget i oi hi with ⟨rfl, rfl⟩ | ⟨hi1, hi2⟩ <;> rcases hget j oj hj with ⟨rfl, rfl⟩ | ⟨hj1, hj2⟩
  ·exact absurd rfl hne
  ·exact h.inj i j o oj hk hj2 ho h2 hne
  ·exact h.inj i j oi o hi2 hk h1 ho hne
  ·exact h.inj i j oi oj hi2 hj2 h1 h2 hne
 ·rintro b _ ⟨j, oj, hj, hown, hbj⟩
  rcases hget j oj hj with ⟨rfl, rfl⟩ | ⟨_, hj2⟩
  ·exact ⟨j, o, hk, ho, hbj⟩
  ·exact ⟨j, oj, hj2, hown, hbj⟩

structure FR (n : Nat) (ρ : Nat → Loc) (f : Fr) (a : Act) : Prop where
 defers : a.defers = []
 size : a.tmps.size = f.m.length
 val : ∀ t v, get f.m t = some v → v.lt n = true ∧ a.tmps[t]? = some (v.emb ρ)

theorem get_eq : ∀ (m : List (Option V)) (t : Nat), get m t = (m[t]?).join
 | [], t => by simp [get]
 | x :: r, 0 => by simp [get]
 | x :: r, t + 1 => by simp [get, get_eq r t]

theorem get_put : ∀ (m : List (Option V)) (t : Nat) (v : V) (s : Nat), get (put m t v) s = if s = t ∧ t < m.length then some v else get m s
 | [], t, v, s => by simp [put, get]
 | x :: r, 0, v, 0 => by simp [put, get]
 | x :: r, 0, v, s + 1 => by simp [put, get]
 | x :: r, t + 1, v, 0 => by simp [put, get]
 | x :: r, t + 1, v, s + 1 => by simp [put, get, get_put r t v s]

theorem length_put : ∀ (m : List (Option V)) (t : Nat) (v : V), (put m t v).length = m.length
 | [], _, _ => rfl
 | _ :: _, 0, _ => rfl
 | _ :: r, t + 1, v => by simp [put, length_put r t v]

theorem FR.mono {n n' : Nat} {ρ ρ' : Nat → Loc} {f : Fr} {a : Act} (h : FR n ρ f a) (hn : n ≤ n') (he : ∀ k, k < n → ρ' k = ρ k) : FR n' ρ' f a :=
 ⟨h.defers, h.size, fun t v ht => ⟨lt_mono hn (h.val t v ht).1, by rw [emb_lt (h.val t v ht).1 he]; exact (h.val t v ht).2⟩⟩

theorem FR.set {n : Nat} {ρ : Nat → Loc} {f f' : Fr} {a : Act} (h : FR n ρ f a) {d : Option Tmp} {v : V} (hv : v.lt n = true) (hs : f.set d v = some f') : FR n ρ f' (a.put d (v.emb ρ)) := by
 cases d with
 | none => simp only [Fr.set, Option.some.injEq] at hs; subst hs; exact h
 | some t =>
  simp only [Fr.set, Option.some.injEq] at hs
  subst hs
  refine ⟨h.defers, by simp [Act.put, h.size, length_put], fun s u hu => ?_⟩
  simp only [get_put] at hu
  by_cases hst : s = t ∧ t < f.m.length
  ·obtain ⟨rfl, hlt⟩ := hst
   simp only [hlt, and_self, if_true, Option.some.injEq] at hu
   subst hu
   refine ⟨hv, ?_⟩
   simp only [Act.put]
   rw [Array.getElem?_setIfInBounds_self_of_lt (by rw [h.size]; exact hlt)]
  ·rw [if_neg hst] at hu
   refine ⟨(h.val s u hu).1, ?_⟩
   have hne : t ≠ s := fun e => by
    subst e
    have := (h.val t u hu).2
    have := (Array.getElem?_eq_some_iff.1 this).1
    rw [h.size] at this
    exact hst ⟨rfl, this⟩
   simp only [Act.put]
   rw [Array.getElem?_setIfInBounds_ne hne]
   exact (h.val s u hu).2

theorem FR.ev {n : Nat} {ρ : Nat → Loc} {f : Fr} {a : Act} (h : FR n ρ f a) {x : Operand} {v : V} (hv : f.ev x = some v) : v.lt n = true ∧ a.eval x = v.emb ρ := by
 cases x with
 | tmp t =>
  have := h.val t v hv
  exact ⟨this.1, by simp [Act.eval, Array.getD_eq_getD_getElem?, this.2]⟩
 | const c =>
  have := ofVal_emb ρ c v hv
  exact ⟨lt_flat this.2 n, by simp [Act.eval, this.1]⟩
 | global g => simp only [Fr.ev, Option.some.injEq] at hv; subst hv; exact ⟨rfl, rfl⟩
 | func g => simp only [Fr.ev, Option.some.injEq] at hv; subst hv; exact ⟨rfl, rfl⟩

theorem FR.evs {n : Nat} {ρ : Nat → Loc} {f : Fr} {a : Act} (h : FR n ρ f a) : ∀ {xs : List Operand} {vs : List V}, evs f xs = some vs → ltL n vs ∧ xs.map a.eval = vs.map (V.emb ρ)
 | [], vs, hv => by simp only [Am.evs, Option.some.injEq] at hv; subst hv; exact ⟨ltL_nil n, rfl⟩
 | x :: r, vs, hv => by
  simp only [Am.evs] at hv
  cases h1 : f.ev x with
  | none => rw [h1] at hv; cases hv
  | some v =>
   cases h2 : Am.evs f r with
   | none => rw [h1, h2] at hv; cases hv
   | some us =>
    rw [h1, h2] at hv
    simp only [Option.some.injEq] at hv
    subst hv
    have e1 := h.ev h1
    have e2 := FR.evs h h2
    exact ⟨ltL_cons.2 ⟨e1.1, e2.1⟩, by simp [e1.2, e2.2]⟩

theorem FR.evParts {n : Nat} {ρ : Nat → Loc} {f : Fr} {a : Act} (h : FR n ρ f a) : ∀ {xs : List (Nat × Operand)} {vs : List (Nat × V)}, evParts f xs = some vs →
 (∀ p ∈ vs, p.2.lt n = true) ∧ xs.map (fun p => (p.1, a.eval p.2)) = vs.map (fun p => (p.1, p.2.emb ρ))
 | [], vs, hv => by simp only [Am.evParts, Option.some.injEq] at hv; subst hv; exact ⟨(fun _ h => by cases h), rfl⟩
 | (i, x) :: r, vs, hv => by
  simp only [Am.evParts] at hv
  cases h1 : f.ev x with
  | none => rw [h1] at hv; cases hv
  | some v =>
   cases h2 : Am.evParts f r with
   | none => rw [h1, h2] at hv; cases hv
   | some us =>
    rw [h1, h2] at hv
    simp only [Option.some.injEq] at hv
    subst hv
    have e1 := h.ev h1
    have e2 := FR.evParts h h2
    refine ⟨fun p hp => ?_, by simp [e1.2, e2.2]⟩
    rcases List.mem_cons.1 hp with rfl | hp
    ·exact e1.1
    ·exact e2.1 p hp

end Go.Am

namespace Go.Am
open Go

variable {P : Program} {E : Env} {N : Nat} {ρ : Nat → Loc} {H : List AObj} {w : World}

theorem run_isAggT {t : TypeId} {b : Bool} (h : isAggT P t = some b) (w : World) : (isAgg t).run P w = .ok b w := by
 unfold isAggT at h
 cases hu : P.underlying t with
 | none => rw [hu] at h; cases h
 | some d =>
  rw [hu] at h
  simp only [isAgg, Sem.run_bind, run_underlying hu, Result.andThen_ok]
  cases d <;> simp_all

theorem run_sizeT {t : TypeId} {n : Nat} (h : sizeT P t = some n) (w : World) : (sizeOf t).run P w = .ok n w := by
 unfold sizeT at h
 cases hi : P.info? t with
 | none => rw [hi] at h; cases h
 | some i => rw [hi] at h; simp at h; subst h; simp [sizeOf, typeInfo, hi]

theorem run_bytesT {t : TypeId} {n : Nat} (h : bytesT P t = some n) : ∃ i, P.info? t = some i ∧ i.bytes = n := by
 unfold bytesT at h
 cases hi : P.info? t with
 | none => rw [hi] at h; cases h
 | some i => rw [hi] at h; simp at h; exact ⟨i, rfl, h⟩

theorem run_zeroT {t : TypeId} {z : V} (h : zeroT P t = some z) (ρ : Nat → Loc) (w : World) : (zeroValue t).run P w = .ok (z.emb ρ) w ∧ z.flat = true := by
 unfold zeroT at h
 cases hi : P.info? t with
 | none => rw [hi] at h; cases h
 | some i =>
  rw [hi] at h
  simp only [Option.bind_some] at h
  cases hz : i.zero with
  | none => rw [hz] at h; cases h
  | some v =>
   rw [hz] at h
   have := ofVal_emb ρ v z h
   exact ⟨by simp [zeroValue, typeInfo, hi, hz, this.1], this.2⟩

theorem extract_list (l : List Value) (a b : Nat) : (l.toArray).extract a b = ((l.drop a).take (b - a)).toArray := by
 apply Array.ext'
 simp [List.extract]

theorem run_partV {t : TypeId} {cs : List V} {off : Nat} {v : V} (h : partV P t cs off = some v) (ρ : Nat → Loc) (w : World) :
 (part t (cs.map (V.emb ρ)).toArray off).run P w = .ok (v.emb ρ) w := by
 unfold partV at h
 cases ha : isAggT P t with
 | none => rw [ha] at h; simp at h
 | some b =>
  cases b with
  | true =>
   cases hs : sizeT P t with
   | none => rw [ha, hs] at h; simp at h
   | some m =>
    rw [ha, hs] at h
    simp only [Option.some.injEq] at h
    subst h
    simp only [part, Sem.run_bind, run_isAggT ha, Result.andThen_ok, if_true, run_sizeT hs, extract_list, Sem.run_pure, emb_agg]
    congr 3
    rw [Nat.add_sub_cancel_left, ← List.map_drop, ← List.map_take]
  | false =>
   rw [ha] at h
   simp only at h
   simp [part, run_isAggT ha, h]

theorem lt_partV {t : TypeId} {cs : List V} {off : Nat} {v : V} {n : Nat} (h : partV P t cs off = some v) (hl : ltL n cs) : v.lt n = true := by
 unfold partV at h
 split at h
 ·simp only [Option.some.injEq] at h
  subst h
  exact (lt_agg _ _).2 (ltL_take (ltL_drop hl))
 ·exact ltL_get hl h
 ·cases h

theorem OR.cell {l : Loc} {cs : List V} {e : TypeId} {m : Mode} {fz : Bool} (h : OR P N ρ w l (.cells cs e m fz)) {i : Nat} {v : V} (hi : cs[i]? = some v) :
 w.cell? ⟨l.block, l.off + i, none⟩ = some (v.emb ρ) := by
 obtain ⟨_, C, z, hC, hcs, _⟩ := h
 simp [World.cell?, hC, hcs i v hi]

theorem add_off (b o n : Nat) : (⟨b, o, none⟩ : Addr).add n = ⟨b, o + n, none⟩ := by
 unfold Addr.add
 split <;> simp_all

theorem cellsOf_run (hw : WR E N ρ H w) {wr esc : Nat} {p : V} {cs : List V} {o : Nat} (h : cellsOf E ⟨H, wr, esc⟩ p = some (cs, o)) :
 ltL H.length cs ∧ ∃ b f, p.emb ρ = .pointer (some ⟨b, f + o, none⟩) ∧ ∀ (i : Nat) (v : V), cs[i]? = some v → w.cell? ⟨b, f + i, none⟩ = some (v.emb ρ) := by
 unfold cellsOf at h
 split at h
 ·rename_i k o'
  split at h
  ·rename_i cs' e m fz hk
   simp only [Option.some.injEq, Prod.mk.injEq] at h
   obtain ⟨rfl, rfl⟩ := h
   exact ⟨hw.vals k _ hk, (ρ k).block, (ρ k).off, rfl, fun i v hi => (hw.objs k _ hk).cell hi⟩
  ·cases h
 ·rename_i g o'
  simp only [Option.map_eq_some_iff, Prod.mk.injEq] at h
  obtain ⟨cs', hg, rfl, rfl⟩ := h
  obtain ⟨_, h2, C, e, z, hC, _, h3⟩ := hw.globs g cs' hg
  exact ⟨fun v hv => lt_flat (h2 v hv).1 _, g, 0, by simp, fun i v hi => by simp [World.cell?, hC, h3 i v hi]⟩
 ·cases h

theorem loadV_run (hw : WR E N ρ H w) {wr esc : Nat} {t : TypeId} {p v : V} (h : loadV E t ⟨H, wr, esc⟩ p = some v) :
 (Instr.loadAt t (p.emb ρ)).run E.P w = .ok (v.emb ρ) w ∧ v.lt H.length = true := by
 unfold loadV at h
 split at h
 ·cases h
 ·rename_i cs o hc
  obtain ⟨hl, b, f, hp, hcell⟩ := cellsOf_run hw hc
  rw [hp]
  split at h
  ·rename_i n ha hs
   split at h
   ·rename_i hle
    simp only [Option.some.injEq] at h
    subst h
    refine ⟨?_, (lt_agg _ _).2 (ltL_take (ltL_drop hl))⟩
    have hlen : (((cs.drop o).take n).map (V.emb ρ)).length = n := by simp; omega
    have hload := run_loadCells_list (P := E.P) w ⟨b, f + o, none⟩ (((cs.drop o).take n).map (V.emb ρ)) (fun j v hj => by
     rw [add_off]
     simp only [List.getElem?_map, Option.map_eq_some_iff] at hj
     obtain ⟨u, hu, rfl⟩ := hj
     have : cs[o + j]? = some u := by
      rw [List.getElem?_take] at hu
      split at hu
      ·rw [List.getElem?_drop] at hu; exact hu
      ·cases hu
     have := hcell _ _ this
     rw [← Nat.add_assoc] at this
     exact this)
    rw [hlen] at hload
    simp [Instr.loadAt, Instr.sureAddr, loadVar, run_isAggT ha, run_sizeT hs, hload]
   ·cases h
  ·rename_i ha
   have := hcell o v h
   refine ⟨?_, ltL_get hl h⟩
   simp [Instr.loadAt, Instr.sureAddr, loadVar, run_isAggT ha, this]
  ·cases h

theorem setRow_z (w : World) (g : Nat) (C : Array Value) (e : TypeId) (z : Nat × Nat) (C' : Array Value) (hg : w.heap[g]? = some (.cells C e z)) :
 (w.setRow g C').heap[g]? = some (.cells C' e z) := setRow_heap w g C C' e z hg

theorem run_storeCells_free (g o : Nat) (e : TypeId) (z : Nat × Nat) : ∀ (vs : List Value) (i : Nat) (C : Array Value) (w : World), w.heap[g]? = some (.cells C e z) → o + i + vs.length ≤ C.size →
 free z (o + i) (o + i + vs.length) → (∀ v ∈ vs, v.oneCell' = true) →
 (storeCells ⟨g, o, none⟩ vs i).run P w = .ok () (w.setRow g (C.toList.take (o + i) ++ vs ++ C.toList.drop (o + i + vs.length)).toArray)
 | [], i, C, w, hg, _, _, _ => by
  simp only [storeCells, List.append_nil, List.length_nil, Nat.add_zero, List.take_append_drop, Array.toArray_toList]
  rw [setRow_self w g C e z hg]
  rfl
 | v :: rest, i, C, w, hg, hl, hz, h1 => by
  have hi : o + i < C.size := by simp at hl; omega
  have hcell : w.cell? ⟨g, o + i, none⟩ = some C[o + i] := by simp [World.cell?, hg, hi]
  have hfro : w.frozen? ⟨g, o + i, none⟩ = false := by
   have := hz (o + i) (Nat.le_refl _) (by simp)
   simp only [World.frozen?, hg]
   simp only [Bool.and_eq_false_iff, decide_eq_false_iff_not]
   omega
  have hst : (store ((⟨g, o, none⟩ : Addr).add i) v).run P w = .ok () (w.setRow g (C.setIfInBounds (o + i) v)) := by
   rw [add_off, run_store P w _ v _ (h1 v (by simp)), hcell]
   simp [hfro, setCell_eq_setRow w g (o + i) C e z v hg]
  have ih := run_storeCells_free g o e z rest (i + 1) (C.setIfInBounds (o + i) v) (w.setRow g (C.setIfInBounds (o + i) v)) (setRow_heap w g C _ e _ hg) (by simp at hl ⊢; omega)
   (fun j h1 h2 => hz j (by omega) (by simp at h2 ⊢; omega)) (fun x hx => h1 x (by simp [hx]))
  simp only [storeCells, Sem.run_bind, hst, Result.andThen_ok, ih, setRow_setRow]
  congr 3
  have e := list_seg_step C.toList (o + i) v rest (by simp at hl ⊢; omega)
  simpa [Array.toList_setIfInBounds, Nat.add_assoc] using e

theorem getElem?_splice (l vs : List V) (o i : Nat) (h : o + vs.length ≤ l.length) :
 (l.take o ++ vs ++ l.drop (o + vs.length))[i]? = if o ≤ i ∧ i < o + vs.length then vs[i - o]? else l[i]? := by
 have h1 : (l.take o).length = o := by simp; omega
 by_cases hi : i < o
 ·rw [if_neg (by omega), List.append_assoc, List.getElem?_append_left (by omega), List.getElem?_take, if_pos hi]
 ·by_cases hi2 : i < o + vs.length
  ·rw [if_pos ⟨by omega, hi2⟩, List.append_assoc, List.getElem?_append_right (by omega), h1, List.getElem?_append_left (by omega)]
  ·rw [if_neg (by omega), List.getElem?_append_right (by simp; omega), List.getElem?_drop]
   congr 1
   simp
   omega

theorem getElem?_spliceA (C : Array Value) (vs : List Value) (o i : Nat) (h : o + vs.length ≤ C.size) :
 (C.toList.take o ++ vs ++ C.toList.drop (o + vs.length)).toArray[i]? = if o ≤ i ∧ i < o + vs.length then vs[i - o]? else C[i]? := by
 have h1 : (C.toList.take o).length = o := by simp; omega
 rw [List.getElem?_toArray]
 by_cases hi : i < o
 ·rw [if_neg (by omega), List.append_assoc, List.getElem?_append_left (by omega), List.getElem?_take, if_pos hi, Array.getElem?_toList]
 ·by_cases hi2 : i < o + vs.length
  ·rw [if_pos ⟨by omega, hi2⟩, List.append_assoc, List.getElem?_append_right (by omega), h1, List.getElem?_append_left (by omega)]
  ·rw [if_neg (by omega), List.getElem?_append_right (by simp; omega), List.getElem?_drop, Array.getElem?_toList]
   congr 1
   simp
   omega

theorem size_spliceA (C : Array Value) (vs : List Value) (o : Nat) (h : o + vs.length ≤ C.size) : (C.toList.take o ++ vs ++ C.toList.drop (o + vs.length)).toArray.size = C.size := by
 simp
 omega

theorem mem_splice {l vs : List V} {o n : Nat} {v : V} (h : v ∈ l.take o ++ vs ++ l.drop n) : v ∈ l ∨ v ∈ vs := by
 rcases List.mem_append.1 h with h | h
 ·rcases List.mem_append.1 h with h | h
  ·exact .inl (List.mem_of_mem_take h)
  ·exact .inr h
 ·exact .inl (List.mem_of_mem_drop h)

theorem set_same {α : Type} {l : List α} {k : Nat} {x : α} (h : l[k]? = some x) : l.set k x = l := by
 apply List.ext_getElem?
 intro j
 by_cases hj : j = k
 ·subst hj
  rw [List.getElem?_set_self (List.getElem?_eq_some_iff.1 h).1, h]
 ·rw [List.getElem?_set_ne (Ne.symm hj)]

theorem putCells_run (hw : WR E N ρ H w) {wr esc : Nat} {k o : Nat} {vs : List V} {H' : Hp} (hv : ltL H.length vs) (h : putCells ⟨H, wr, esc⟩ k o vs = some H') :
 ∃ w', (storeCells ⟨(ρ k).block, (ρ k).off + o, none⟩ (vs.map (V.emb ρ)) 0).run E.P w = .ok () w' ∧ WR E N ρ H'.objs w' ∧ Goes H ρ w H'.objs ρ w' := by
 unfold putCells at h
 split at h
 ·rename_i cs e m hk
  simp only at hk
  split at h
  ·rename_i hc
   obtain ⟨hm, hle, hone⟩ := hc
   simp only [Option.some.injEq] at h
   subst h
   have hor := hw.objs k _ hk
   have hown : (AObj.cells cs e m false).own = true := by cases m <;> simp_all [AObj.own]
   obtain ⟨h1, C, z, hC, hcs, hmode⟩ := hor
   have hsz : (ρ k).off + cs.length ≤ C.size ∨ cs.length = 0 := by
    rcases Nat.eq_zero_or_pos cs.length with h0 | h0
    ·exact .inr h0
    ·have := hcs (cs.length - 1) cs[cs.length - 1] (List.getElem?_eq_getElem _)
     have := (Array.getElem?_eq_some_iff.1 this).1
     exact .inl (by omega)
   have hfree : free z (ρ k).off ((ρ k).off + cs.length) := by
    cases m with
    | ro => exact absurd rfl hm
    | rw => exact hmode.2.1 rfl
    | grown => exact hmode.2.1 rfl
   by_cases hvs : vs = []
   ·subst hvs
    refine ⟨w, by simp [storeCells], ?_⟩
    have : (H.set k (.cells (cs.take o ++ [] ++ cs.drop (o + ([] : List V).length)) e m false)) = H := by
     simp
     exact set_same hk
    simp only [Hp.write]
    rw [this]
    exact ⟨hw, Goes.refl H ρ w⟩
   have hpos : 0 < vs.length := List.length_pos_iff.2 hvs
   have hfit : (ρ k).off + o + vs.length ≤ C.size := by omega
   have hrun := run_storeCells_free (P := E.P) (ρ k).block ((ρ k).off + o) e z (vs.map (V.emb ρ)) 0 C w hC (by simpa using hfit)
    (fun i ha hb => hfree i (by omega) (by simp at hb; omega))
    (fun v hv => by
     obtain ⟨u, hu, rfl⟩ := List.mem_map.1 hv
     rw [emb_one]
     exact List.all_eq_true.1 hone u hu)
   simp only [Nat.add_zero] at hrun
   refine ⟨_, hrun, ?_⟩
   have hsplice : ((ρ k).off + o) + (vs.map (V.emb ρ)).length ≤ C.size := by simpa using hfit
   refine hw.write hk hown rfl rfl rfl (by simp) (fun b hb => setRow_other w _ b _ hb) ?_ ?_
   ·intro v hv'
    rcases mem_splice hv' with h | h
    ·exact hw.vals k _ hk v h
    ·exact hv v h
   ·refine ⟨fun v hv' => ?_, _, z, setRow_z w _ C e z _ hC, fun i v hi => ?_, ?_⟩
    ·rcases mem_splice hv' with h | h
     ·exact h1 v h
     ·exact List.all_eq_true.1 hone v h
    ·rw [getElem?_splice cs vs o i hle] at hi
     rw [getElem?_spliceA C _ _ _ hsplice]
     by_cases hr : o ≤ i ∧ i < o + vs.length
     ·rw [if_pos hr] at hi
      rw [if_pos (by simp; omega), List.getElem?_map, show (ρ k).off + i - ((ρ k).off + o) = i - o by omega, hi]
      rfl
     ·rw [if_neg hr] at hi
      rw [if_neg (by simp; omega)]
      exact hcs i v hi
    ·have hlen : (cs.take o ++ vs ++ cs.drop (o + vs.length)).length = cs.length := by simp; omega
     cases m with
     | ro => exact absurd rfl hm
     | rw => exact ⟨hmode.1, fun _ => by rw [hlen]; exact hmode.2.1 rfl, hmode.2.2.1, by rw [hlen, size_spliceA C _ _ hsplice]; exact hmode.2.2.2⟩
     | grown =>
      obtain ⟨m1, m2, m3, m4, m5, m6, m7, m8⟩ := hmode
      exact ⟨m1, fun _ => by rw [hlen]; exact m2 rfl, by rw [hlen, size_spliceA C _ _ hsplice]; exact m3, by rw [size_spliceA C _ _ hsplice]; exact m4, by rw [hlen]; exact m5, m6, m7, m8⟩
  ·cases h
 ·cases h

theorem storeV_run (hw : WR E N ρ H w) {wr esc : Nat} {t : TypeId} {p v : V} {H' : Hp} (hv : v.lt H.length = true) (h : storeV E t ⟨H, wr, esc⟩ p v = some H') :
 ∃ w', (Instr.storeAt t (p.emb ρ) (v.emb ρ)).run E.P w = .ok () w' ∧ WR E N ρ H'.objs w' ∧ Goes H ρ w H'.objs ρ w' := by
 unfold storeV at h
 split at h
 ·rename_i k o
  split at h
  ·rename_i hs
   obtain ⟨w', h1, h2⟩ := putCells_run hw (ltL_cells hv) h
   refine ⟨w', ?_, h2⟩
   have hc := emb_cells ρ v
   simp [Instr.storeAt, Instr.sureAddr, storeVar, hc, run_sizeT hs, h1]
  ·cases h
 ·cases h

theorem newCells_run (hw : WR E N ρ H w) {wr esc : Nat} {cs : List V} {e : TypeId} {H' : Hp} (hv : ltL H.length cs) (h : newCells ⟨H, wr, esc⟩ cs e .rw = some H') (sz : Nat) :
 (newRow e (cs.map (V.emb ρ)).toArray).run E.P w = .ok ⟨w.heap.size, 0, none⟩ (w.alloc (.cells (cs.map (V.emb ρ)).toArray e)) ∧
 WR E N (upd ρ H.length ⟨w.heap.size, 0, cs.length, sz⟩) H'.objs (w.alloc (.cells (cs.map (V.emb ρ)).toArray e)) ∧
 Goes H ρ w H'.objs (upd ρ H.length ⟨w.heap.size, 0, cs.length, sz⟩) (w.alloc (.cells (cs.map (V.emb ρ)).toArray e)) ∧ H'.objs.length = H.length + 1 := by
 unfold newCells at h
 split at h
 ·rename_i hone
  simp only [Option.some.injEq] at h
  subst h
  refine ⟨by simp [newRow], ?_⟩
  have := hw.new (w' := w.alloc (.cells (cs.map (V.emb ρ)).toArray e)) (.cells cs e .rw false) ⟨w.heap.size, 0, cs.length, sz⟩ (by simp) (fun b hb => RowKit.Below.heap_alloc w _ b hb) rfl rfl rfl rfl hv
   (fun ρ' hρ' => ⟨fun v hv' => List.all_eq_true.1 hone v hv', (cs.map (V.emb ρ)).toArray, (0, 0), heap_alloc_new w _, fun i v hi => by simp [hi, emb_lt (ltL_get hv hi) hρ'],
    hw.low, (fun _ i _ _ hz => by simp at hz), rfl, by simp⟩)
  exact ⟨this.1, this.2, by simp [Hp.new]⟩
 ·cases h

end Go.Am
