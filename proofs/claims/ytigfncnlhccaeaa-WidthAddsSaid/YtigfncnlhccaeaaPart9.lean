/-
  Texts of this session, one behind the other: AmSepH, SyPure, SyRunes, SyArgs, SySlices.
-/
import Derived.Test.YtigfncnlhccaeaaPart8
import Derived.IntWalk
/-
  Symbolic walks: the operations that look at memory or turn it.
-/
namespace Go.Am
open Go

variable {C : Cx} {σ σ' : Tmps} {η η' : Blks} {W W' : List Nat} {ks : List K} {Q : X → St → Prop} {all r : List Oper} {o : Oper} {v : V} {d i j k off : Nat} {H : Hp} {H0 : List AObj}

theorem HFits.at (h : HFits H0 W η H) {l : Bool} {b : AObj} (hi : η[i]? = some (l, k, b)) : H.objs[k]? = some b := h.has _ (List.mem_of_getElem? hi)

/-- The cells that a load reads. -/
def loadC (P : Program) (t : TypeId) (cs : List V) (o : Nat) : Option V :=
  match isAggT P t, sizeT P t with
  | some true, some n => if o + n ≤ cs.length then some (.agg ((cs.drop o).take n)) else none
  | some false, _ => cs[o]?
  | _, _ => none

theorem run_load {dst : Option Tmp} {t : TypeId} {a : Operand} {ty : TypeId} {pos : String} {after : Array Edge} {guard : Option (Nat × Bool)} {l fz : Bool} {cs : List V} {e : TypeId} {m : Mode} (i : Nat)
    (ha : evS σ a = some (.ptr k off)) (hi : η[i]? = some (l, k, .cells cs e m fz)) (hv : loadC C.E.P t cs off = some v) :
    ∀ H, HFits C.H0 W η H → opS C.E (evS σ) ⟨dst, .load t a, ty, pos, after, guard⟩ H = some (.val v, H) := fun H hh => by
  simp only [opS, ha, loadV, cellsOf, hh.at hi]
  unfold loadC at hv
  split at hv
  · rename_i h1 h2
    simp only [h1, h2, hv, okO, Option.map_some]
  · rename_i h1
    simp only [h1, hv, okO, Option.map_some]
  · cases hv

theorem RunO.load {dst : Option Tmp} {t : TypeId} {a : Operand} {ty : TypeId} {pos : String} {after : Array Edge} {guard : Option (Nat × Bool)} {l fz : Bool} {cs : List V} {e : TypeId} {m : Mode} (i : Nat)
    (hw : wantedS σ all ⟨dst, .load t a, ty, pos, after, guard⟩ = some true) (ha : evS σ a = some (.ptr k off)) (hi : η[i]? = some (l, k, .cells cs e m fz)) (hv : loadC C.E.P t cs off = some v) (hd : dst = some d) (hn : Nat.blt d C.n = true)
    (next : RunO C all r ⟨(d, v) :: σ, η, W⟩ ks Q) : RunO C all (⟨dst, .load t a, ty, pos, after, guard⟩ :: r) ⟨σ, η, W⟩ ks Q :=
  RunO.look hw (run_load i ha hi hv) hd hn next

theorem RunQ.load {dst : Option Tmp} {t : TypeId} {a : Operand} {ty : TypeId} {pos : String} {after : Array Edge} {guard : Option (Nat × Bool)} {l fz : Bool} {cs : List V} {e : TypeId} {m : Mode} (i : Nat)
    (hw : wantedS σ all ⟨dst, .load t a, ty, pos, after, guard⟩ = some true) (ha : evS σ a = some (.ptr k off)) (hi : η[i]? = some (l, k, .cells cs e m fz)) (hv : loadC C.E.P t cs off = some v) (hd : dst = some d) (hn : Nat.blt d C.n = true)
    (next : RunQ C all r ⟨(d, v) :: σ, η, W⟩ ks Q) : RunQ C all (⟨dst, .load t a, ty, pos, after, guard⟩ :: r) ⟨σ, η, W⟩ ks Q :=
  RunQ.look hw rfl (run_load i ha hi hv) hd hn next

/-- A new block. -/
theorem HFits.new (h : HFits H0 W η H) (b : AObj) : HFits H0 W ((true, H.size, b) :: η) (H.new b) where
  len := by simp only [Hp.new, List.length_append]; have := h.len; omega
  nodup := by
    simp only [keysB, List.map_cons, List.nodup_cons]
    refine ⟨fun hm => ?_, h.nodup⟩
    obtain ⟨x, hx, he⟩ := List.mem_map.mp hm
    have := h.has x hx
    rw [he] at this
    simp [Hp.size] at this
  has x hx := by
    rcases List.mem_cons.mp hx with rfl | hx
    · simp [Hp.new, Hp.size]
    · have := h.has x hx
      simp only [Hp.new]
      rw [List.getElem?_append_left]
      · exact this
      · exact (List.getElem?_eq_some_iff.mp this).1
  own x hx e := by
    rcases List.mem_cons.mp hx with rfl | hx
    · exact h.len
    · exact h.own x hx e
  same k hk hw := by
    have hl := h.len
    simp only [Hp.new]
    rw [List.getElem?_append_left (by omega)]
    exact h.same k hk hw
  wr := h.wr

def wrote (W : List Nat) (l : Bool) (k : Nat) : List Nat := if l then W else k :: W

def updB : Blks → Nat → AObj → Blks
  | [], _, _ => []
  | x :: r, 0, b => (x.1, x.2.1, b) :: r
  | x :: r, i + 1, b => x :: updB r i b

theorem get_updB : ∀ (η : Blks) (i j : Nat) (b : AObj), (updB η i b)[j]? = if i = j then (η[j]?).map (fun x => (x.1, x.2.1, b)) else η[j]?
  | [], i, j, b => by simp [updB]
  | x :: r, 0, 0, b => by simp [updB]
  | x :: r, 0, j + 1, b => by simp [updB]
  | x :: r, i + 1, 0, b => by simp [updB]
  | x :: r, i + 1, j + 1, b => by simp [updB, get_updB r i j b]

theorem keys_upd : ∀ (η : Blks) (i : Nat) (b : AObj), keysB (updB η i b) = keysB η
  | [], _, _ => rfl
  | x :: r, 0, b => rfl
  | x :: r, i + 1, b => by
    have := keys_upd r i b
    simp only [keysB, updB, List.map_cons] at this ⊢
    rw [this]

/-- A block that is turned. -/
theorem HFits.write (h : HFits H0 W η H) {l : Bool} {b : AObj} (hi : η[i]? = some (l, k, b)) (b' : AObj) (flat : Bool) : HFits H0 (wrote W l k) (updB η i b') (H.write k b' flat) where
  len := by simp only [Hp.write, List.length_set]; exact h.len
  nodup := by rw [keys_upd]; exact h.nodup
  has x hx := by
    obtain ⟨j, hj⟩ := List.mem_iff_getElem?.mp hx
    rw [get_updB] at hj
    simp only [Hp.write, List.getElem?_set]
    by_cases e : i = j
    · subst e
      rw [if_pos rfl, hi, Option.map_some, Option.some.injEq] at hj
      subst hj
      have := h.at hi
      rw [if_pos rfl, if_pos (List.getElem?_eq_some_iff.mp this).1]
    · rw [if_neg e] at hj
      have hne : k ≠ x.2.1 := by
        intro he
        have h1 : (keysB η)[i]? = some k := by simp [keysB, hi]
        have h2 : (keysB η)[j]? = some k := by simp [keysB, hj, he]
        have hlt : i < (keysB η).length := (List.getElem?_eq_some_iff.mp h1).1
        exact e ((List.getElem?_inj hlt h.nodup).mp (h1.trans h2.symm))
      rw [if_neg hne]
      exact h.has x (List.mem_of_getElem? hj)
  own x hx e := by
    obtain ⟨j, hj⟩ := List.mem_iff_getElem?.mp hx
    rw [get_updB] at hj
    split at hj
    · obtain ⟨y, hy, rfl⟩ := Option.map_eq_some_iff.mp hj
      exact h.own y (List.mem_of_getElem? hy) e
    · exact h.own x (List.mem_of_getElem? hj) e
  same k' hk hw := by
    simp only [Hp.write, List.getElem?_set]
    have hne : k ≠ k' := by
      intro he
      subst he
      unfold wrote at hw
      cases l with
      | true => have := h.own _ (List.mem_of_getElem? hi) rfl; simp at this; omega
      | false => simp at hw
    rw [if_neg hne]
    refine h.same k' hk fun hm => hw ?_
    unfold wrote
    split
    · exact hm
    · exact List.mem_cons_of_mem _ hm
  wr he := by
    unfold wrote at he
    cases l with
    | true =>
      simp only [if_true] at he
      have := h.own _ (List.mem_of_getElem? hi) rfl
      have := h.wr he
      simp only [Hp.write]
      simp at *
      omega
    | false => simp at he

theorem RunO.alloc {dst : Option Tmp} {t : TypeId} {ty : TypeId} {pos : String} {after : Array Edge} {guard : Option (Nat × Bool)} {z : V}
    (hw : wantedS σ all ⟨dst, .alloc t, ty, pos, after, guard⟩ = some true) (hz : zeroT C.E.P t = some z) {cs : List V} (hcs : z.cells = cs) (h1 : cs.all V.one = true) (hd : dst = some d) (hn : Nat.blt d C.n = true)
    (next : ∀ k, RunO C all r ⟨(d, .ptr k 0) :: σ, (true, k, .cells cs t .rw false) :: η, W⟩ ks Q) : RunO C all (⟨dst, .alloc t, ty, pos, after, guard⟩ :: r) ⟨σ, η, W⟩ ks Q :=
  RunO.make (T := Nat) (fun k => (true, k, .cells cs t .rw false) :: η) (fun k => .ptr k 0) hw (fun H hh => ⟨_, H.size, by simp only [opS, hz, hcs, newCells, h1, if_true, Option.map_some], hh.new _⟩) hd hn next

theorem RunO.box {dst : Option Tmp} {t : TypeId} {a : Operand} {ty : TypeId} {pos : String} {after : Array Edge} {guard : Option (Nat × Bool)}
    (hw : wantedS σ all ⟨dst, .box t a, ty, pos, after, guard⟩ = some true) (ha : evS σ a = some v) {cs : List V} (hcs : v.cells = cs) (h1 : cs.all V.one = true) (hd : dst = some d) (hn : Nat.blt d C.n = true)
    (next : ∀ k, RunO C all r ⟨(d, .ptr k 0) :: σ, (true, k, .cells cs t .rw false) :: η, W⟩ ks Q) : RunO C all (⟨dst, .box t a, ty, pos, after, guard⟩ :: r) ⟨σ, η, W⟩ ks Q :=
  RunO.make (T := Nat) (fun k => (true, k, .cells cs t .rw false) :: η) (fun k => .ptr k 0) hw (fun H hh => ⟨_, H.size, by simp only [opS, ha, hcs, newCells, h1, if_true, Option.map_some], hh.new _⟩) hd hn next

/-- A store into a known block. -/
theorem RunO.store {t : TypeId} {a x : Operand} {ty : TypeId} {pos : String} {after : Array Edge} {guard : Option (Nat × Bool)} {l : Bool} {cs cs' vs : List V} {e : TypeId} {m : Mode} (i : Nat)
    (hw : wantedS σ all ⟨none, .store t a x, ty, pos, after, guard⟩ = some true) (ha : evS σ a = some (.ptr k off)) (hx : evS σ x = some v) (hi : η[i]? = some (l, k, .cells cs e m false)) (hvs : v.cells = vs)
    (hs : sizeT C.E.P t = some vs.length) (hm : m ≠ .ro) (hr : off + vs.length ≤ cs.length) (h1 : vs.all V.one = true) (hcs : cs.take off ++ vs ++ cs.drop (off + vs.length) = cs')
    (next : RunO C all r ⟨σ, updB η i (.cells cs' e m false), wrote W l k⟩ ks Q) : RunO C all (⟨none, .store t a x, ty, pos, after, guard⟩ :: r) ⟨σ, η, W⟩ ks Q := by
  subst hvs
  exact RunO.turn hw (fun H hh => ⟨_, by simp only [opS, ha, hx, storeV, hs, if_true, putCells, hh.at hi, hm, hr, h1, ne_eq, not_false_eq_true, and_self, Option.map_some, hcs], hh.write hi _ (v.cells.all V.flat)⟩) rfl next

theorem RunO.buildSlice {dst : Option Tmp} {t : TypeId} {len : Nat} {parts : Array (Nat × Operand)} {ty : TypeId} {pos : String} {after : Array Edge} {guard : Option (Nat × Bool)} {ps : List (Nat × V)} {e : TypeId} {n : Nat} {z : V} {cs : List V}
    (hw : wantedS σ all ⟨dst, .buildSlice t len parts, ty, pos, after, guard⟩ = some true) (hp : evPartsS (evS σ) parts.toList = some ps) (ht : C.E.P.underlying t = some (.slice e)) (hs : sizeT C.E.P e = some n) (hz : zeroT C.E.P e = some z)
    (hl : len * n ≤ 16777216 ∧ z.cells.length = n) (hf : fillV (fun i => some (i * n, n)) (zeros z.cells len) ps = some cs) (h1 : cs.all V.one = true) (hd : dst = some d) (hn : Nat.blt d C.n = true)
    (next : ∀ k, RunO C all r ⟨(d, .slice k 0 len (some len)) :: σ, (true, k, .cells cs e .rw false) :: η, W⟩ ks Q) : RunO C all (⟨dst, .buildSlice t len parts, ty, pos, after, guard⟩ :: r) ⟨σ, η, W⟩ ks Q :=
  RunO.make (T := Nat) (fun k => (true, k, .cells cs e .rw false) :: η) (fun k => .slice k 0 len (some len)) hw (fun H hh => ⟨_, H.size, by simp only [opS, hp, ht, hs, hz, if_pos hl, hf, newCells, h1, if_true, Option.map_some], hh.new _⟩) hd hn next

/-- An element's address, of a slice. -/
theorem RunO.indexAddr {dst : Option Tmp} {t : TypeId} {x y : Operand} {ty : TypeId} {pos : String} {after : Array Edge} {guard : Option (Nat × Bool)} {e : TypeId} {n len : Nat} {cp : Option Nat} {kk : IntKind} {q : Int} {off' : Nat}
    (hw : wantedS σ all ⟨dst, .indexAddr t x y, ty, pos, after, guard⟩ = some true) (hx : evS σ x = some (.slice k off len cp)) (hy : evS σ y = some (.int kk q)) (ht : C.E.P.underlying t = some (.slice e)) (hs : sizeT C.E.P e = some n)
    (h0 : 0 ≤ q ∧ q < (len : Int)) (ho : off + q.toNat * n = off') (hd : dst = some d) (hn : Nat.blt d C.n = true)
    (next : RunO C all r ⟨(d, .ptr k off') :: σ, η, W⟩ ks Q) : RunO C all (⟨dst, .indexAddr t x y, ty, pos, after, guard⟩ :: r) ⟨σ, η, W⟩ ks Q :=
  RunO.val hw (fun H => by simp only [opS, hx, hy, indexAddrV, ht, hs, if_pos h0, ho, okO, Option.map_some]) hd hn next

theorem RunQ.indexAddr {dst : Option Tmp} {t : TypeId} {x y : Operand} {ty : TypeId} {pos : String} {after : Array Edge} {guard : Option (Nat × Bool)} {e : TypeId} {n len : Nat} {cp : Option Nat} {kk : IntKind} {q : Int} {off' : Nat}
    (hw : wantedS σ all ⟨dst, .indexAddr t x y, ty, pos, after, guard⟩ = some true) (hx : evS σ x = some (.slice k off len cp)) (hy : evS σ y = some (.int kk q)) (ht : C.E.P.underlying t = some (.slice e)) (hs : sizeT C.E.P e = some n)
    (h0 : 0 ≤ q ∧ q < (len : Int)) (ho : off + q.toNat * n = off') (hd : dst = some d) (hn : Nat.blt d C.n = true)
    (next : RunQ C all r ⟨(d, .ptr k off') :: σ, η, W⟩ ks Q) : RunQ C all (⟨dst, .indexAddr t x y, ty, pos, after, guard⟩ :: r) ⟨σ, η, W⟩ ks Q :=
  RunQ.val hw rfl (fun H => by simp only [opS, hx, hy, indexAddrV, ht, hs, if_pos h0, ho, okO, Option.map_some]) hd hn next

/-- Arithmetic, with its value said. -/
theorem RunO.bin {dst : Option Tmp} {op : BinOp} {t : TypeId} {x y : Operand} {t' ty : TypeId} {pos : String} {after : Array Edge} {guard : Option (Nat × Bool)} {kk : IntKind} {p z : Int} {v' : V}
    (hw : wantedS σ all ⟨dst, .binOp op t x y t', ty, pos, after, guard⟩ = some true) (hx : evS σ x = some v) (hy : evS σ y = some v') (hz : ∀ xc yc, binV C.E.P op t xc yc v v' = some (.int kk z)) (he : z = p) (hd : dst = some d) (hn : Nat.blt d C.n = true)
    (next : RunO C all r ⟨(d, .int kk p) :: σ, η, W⟩ ks Q) : RunO C all (⟨dst, .binOp op t x y t', ty, pos, after, guard⟩ :: r) ⟨σ, η, W⟩ ks Q := by
  subst he
  exact RunO.val hw (fun H => by simp only [opS, hx, hy, hz, okO, Option.map_some]) hd hn next

theorem RunO.conv {dst : Option Tmp} {t t' : TypeId} {x : Operand} {ty : TypeId} {pos : String} {after : Array Edge} {guard : Option (Nat × Bool)} {kk kk' : IntKind} {p q : Int} {D : TypeDesc}
    (hw : wantedS σ all ⟨dst, .convert t t' x, ty, pos, after, guard⟩ = some true) (hx : evS σ x = some (.int kk q)) (ht : C.E.P.underlying t = some D) (ht' : C.E.P.underlying t' = some (.int kk')) (he : kk'.wrap q = p) (hd : dst = some d) (hn : Nat.blt d C.n = true)
    (next : RunO C all r ⟨(d, .int kk' p) :: σ, η, W⟩ ks Q) : RunO C all (⟨dst, .convert t t' x, ty, pos, after, guard⟩ :: r) ⟨σ, η, W⟩ ks Q := by
  subst he
  exact RunO.val hw (fun H => by simp only [opS, hx, convV, ht, ht', ok]) hd hn next

theorem RunQ.bin {dst : Option Tmp} {op : BinOp} {t : TypeId} {x y : Operand} {t' ty : TypeId} {pos : String} {after : Array Edge} {guard : Option (Nat × Bool)} {kk : IntKind} {p z : Int} {v' : V}
    (hw : wantedS σ all ⟨dst, .binOp op t x y t', ty, pos, after, guard⟩ = some true) (hx : evS σ x = some v) (hy : evS σ y = some v') (hz : ∀ xc yc, binV C.E.P op t xc yc v v' = some (.int kk z)) (he : z = p) (hd : dst = some d) (hn : Nat.blt d C.n = true)
    (next : RunQ C all r ⟨(d, .int kk p) :: σ, η, W⟩ ks Q) : RunQ C all (⟨dst, .binOp op t x y t', ty, pos, after, guard⟩ :: r) ⟨σ, η, W⟩ ks Q := by
  subst he
  exact RunQ.val hw rfl (fun H => by simp only [opS, hx, hy, hz, okO, Option.map_some]) hd hn next

theorem RunQ.conv {dst : Option Tmp} {t t' : TypeId} {x : Operand} {ty : TypeId} {pos : String} {after : Array Edge} {guard : Option (Nat × Bool)} {kk kk' : IntKind} {p q : Int} {D : TypeDesc}
    (hw : wantedS σ all ⟨dst, .convert t t' x, ty, pos, after, guard⟩ = some true) (hx : evS σ x = some (.int kk q)) (ht : C.E.P.underlying t = some D) (ht' : C.E.P.underlying t' = some (.int kk')) (he : kk'.wrap q = p) (hd : dst = some d) (hn : Nat.blt d C.n = true)
    (next : RunQ C all r ⟨(d, .int kk' p) :: σ, η, W⟩ ks Q) : RunQ C all (⟨dst, .convert t t' x, ty, pos, after, guard⟩ :: r) ⟨σ, η, W⟩ ks Q := by
  subst he
  exact RunQ.val hw rfl (fun H => by simp only [opS, hx, convV, ht, ht', ok]) hd hn next

/-- An operation on temporaries, its value said in other words. -/
theorem RunO.valE {v' : V} (hw : wantedS σ all o = some true) (h : ∀ H, opS C.E (evS σ) o H = some (.val v, H)) (he : v = v') (hd : o.dst = some d) (hn : Nat.blt d C.n = true)
    (next : RunO C all r ⟨(d, v') :: σ, η, W⟩ ks Q) : RunO C all (o :: r) ⟨σ, η, W⟩ ks Q := by
  subst he
  exact RunO.val hw h hd hn next

/-- A test: one walk for each answer. -/
theorem RunO.cmp {dst : Option Tmp} {op : BinOp} {t0 : TypeId} {x0 y0 : Operand} {t' ty : TypeId} {pos : String} {after : Array Edge} {guard : Option (Nat × Bool)} {p : Prop} [Decidable p] (hw : wantedS σ all ⟨dst, .binOp op t0 x0 y0 t', ty, pos, after, guard⟩ = some true) (h : ∀ H, opS C.E (evS σ) ⟨dst, .binOp op t0 x0 y0 t', ty, pos, after, guard⟩ H = some (.val (.bool (decide p)), H)) (hd : dst = some d) (hn : Nat.blt d C.n = true)
    (h1 : p → RunO C all r ⟨(d, .bool true) :: σ, η, W⟩ ks Q) (h2 : ¬ p → RunO C all r ⟨(d, .bool false) :: σ, η, W⟩ ks Q) : RunO C all (⟨dst, .binOp op t0 x0 y0 t', ty, pos, after, guard⟩ :: r) ⟨σ, η, W⟩ ks Q := by
  by_cases hp : p
  · exact RunO.valE hw h (by rw [decide_eq_true hp]) hd hn (h1 hp)
  · exact RunO.valE hw h (by rw [decide_eq_false hp]) hd hn (h2 hp)

theorem RunO.cmpT {dst : Option Tmp} {op : BinOp} {t0 : TypeId} {x0 y0 : Operand} {t' ty : TypeId} {pos : String} {after : Array Edge} {guard : Option (Nat × Bool)} {p : Prop} [Decidable p] (hw : wantedS σ all ⟨dst, .binOp op t0 x0 y0 t', ty, pos, after, guard⟩ = some true) (h : ∀ H, opS C.E (evS σ) ⟨dst, .binOp op t0 x0 y0 t', ty, pos, after, guard⟩ H = some (.val (.bool (decide p)), H)) (hd : dst = some d) (hn : Nat.blt d C.n = true) (hp : p)
    (h1 : RunO C all r ⟨(d, .bool true) :: σ, η, W⟩ ks Q) : RunO C all (⟨dst, .binOp op t0 x0 y0 t', ty, pos, after, guard⟩ :: r) ⟨σ, η, W⟩ ks Q :=
  RunO.valE hw h (by rw [decide_eq_true hp]) hd hn h1

theorem RunO.cmpF {dst : Option Tmp} {op : BinOp} {t0 : TypeId} {x0 y0 : Operand} {t' ty : TypeId} {pos : String} {after : Array Edge} {guard : Option (Nat × Bool)} {p : Prop} [Decidable p] (hw : wantedS σ all ⟨dst, .binOp op t0 x0 y0 t', ty, pos, after, guard⟩ = some true) (h : ∀ H, opS C.E (evS σ) ⟨dst, .binOp op t0 x0 y0 t', ty, pos, after, guard⟩ H = some (.val (.bool (decide p)), H)) (hd : dst = some d) (hn : Nat.blt d C.n = true) (hp : ¬ p)
    (h1 : RunO C all r ⟨(d, .bool false) :: σ, η, W⟩ ks Q) : RunO C all (⟨dst, .binOp op t0 x0 y0 t', ty, pos, after, guard⟩ :: r) ⟨σ, η, W⟩ ks Q :=
  RunO.valE hw h (by rw [decide_eq_false hp]) hd hn h1

theorem RunO.cmpB {t : Bool} (hw : wantedS σ all o = some true) (h : ∀ H, opS C.E (evS σ) o H = some (.val (.bool t), H)) (hd : o.dst = some d) (hn : Nat.blt d C.n = true)
    (h1 : t = true → RunO C all r ⟨(d, .bool true) :: σ, η, W⟩ ks Q) (h2 : t = false → RunO C all r ⟨(d, .bool false) :: σ, η, W⟩ ks Q) : RunO C all (o :: r) ⟨σ, η, W⟩ ks Q := by
  cases t with
  | true => exact RunO.val hw h hd hn (h1 rfl)
  | false => exact RunO.val hw h hd hn (h2 rfl)

theorem RunQ.valE {v' : V} (hw : wantedS σ all o = some true) (hq : quietOp o.op = true) (h : ∀ H, opS C.E (evS σ) o H = some (.val v, H)) (he : v = v') (hd : o.dst = some d) (hn : Nat.blt d C.n = true)
    (next : RunQ C all r ⟨(d, v') :: σ, η, W⟩ ks Q) : RunQ C all (o :: r) ⟨σ, η, W⟩ ks Q := by
  subst he
  exact RunQ.val hw hq h hd hn next

theorem RunQ.cmp {dst : Option Tmp} {op : BinOp} {t0 : TypeId} {x0 y0 : Operand} {t' ty : TypeId} {pos : String} {after : Array Edge} {guard : Option (Nat × Bool)} {p : Prop} [Decidable p] (hw : wantedS σ all ⟨dst, .binOp op t0 x0 y0 t', ty, pos, after, guard⟩ = some true) (h : ∀ H, opS C.E (evS σ) ⟨dst, .binOp op t0 x0 y0 t', ty, pos, after, guard⟩ H = some (.val (.bool (decide p)), H)) (hd : dst = some d) (hn : Nat.blt d C.n = true)
    (h1 : p → RunQ C all r ⟨(d, .bool true) :: σ, η, W⟩ ks Q) (h2 : ¬ p → RunQ C all r ⟨(d, .bool false) :: σ, η, W⟩ ks Q) : RunQ C all (⟨dst, .binOp op t0 x0 y0 t', ty, pos, after, guard⟩ :: r) ⟨σ, η, W⟩ ks Q := by
  by_cases hp : p
  · exact RunQ.valE hw rfl h (by rw [decide_eq_true hp]) hd hn (h1 hp)
  · exact RunQ.valE hw rfl h (by rw [decide_eq_false hp]) hd hn (h2 hp)

theorem RunQ.cmpT {dst : Option Tmp} {op : BinOp} {t0 : TypeId} {x0 y0 : Operand} {t' ty : TypeId} {pos : String} {after : Array Edge} {guard : Option (Nat × Bool)} {p : Prop} [Decidable p] (hw : wantedS σ all ⟨dst, .binOp op t0 x0 y0 t', ty, pos, after, guard⟩ = some true) (h : ∀ H, opS C.E (evS σ) ⟨dst, .binOp op t0 x0 y0 t', ty, pos, after, guard⟩ H = some (.val (.bool (decide p)), H)) (hd : dst = some d) (hn : Nat.blt d C.n = true) (hp : p)
    (h1 : RunQ C all r ⟨(d, .bool true) :: σ, η, W⟩ ks Q) : RunQ C all (⟨dst, .binOp op t0 x0 y0 t', ty, pos, after, guard⟩ :: r) ⟨σ, η, W⟩ ks Q :=
  RunQ.valE hw rfl h (by rw [decide_eq_true hp]) hd hn h1

theorem RunQ.cmpF {dst : Option Tmp} {op : BinOp} {t0 : TypeId} {x0 y0 : Operand} {t' ty : TypeId} {pos : String} {after : Array Edge} {guard : Option (Nat × Bool)} {p : Prop} [Decidable p] (hw : wantedS σ all ⟨dst, .binOp op t0 x0 y0 t', ty, pos, after, guard⟩ = some true) (h : ∀ H, opS C.E (evS σ) ⟨dst, .binOp op t0 x0 y0 t', ty, pos, after, guard⟩ H = some (.val (.bool (decide p)), H)) (hd : dst = some d) (hn : Nat.blt d C.n = true) (hp : ¬ p)
    (h1 : RunQ C all r ⟨(d, .bool false) :: σ, η, W⟩ ks Q) : RunQ C all (⟨dst, .binOp op t0 x0 y0 t', ty, pos, after, guard⟩ :: r) ⟨σ, η, W⟩ ks Q :=
  RunQ.valE hw rfl h (by rw [decide_eq_false hp]) hd hn h1

theorem RunO.move {dst : Option Tmp} {x : Operand} {ty : TypeId} {pos : String} {after : Array Edge} {guard : Option (Nat × Bool)}
    (hw : wantedS σ all ⟨dst, .move x, ty, pos, after, guard⟩ = some true) (hx : evS σ x = some v) (hd : dst = some d) (hn : Nat.blt d C.n = true)
    (next : RunO C all r ⟨(d, v) :: σ, η, W⟩ ks Q) : RunO C all (⟨dst, .move x, ty, pos, after, guard⟩ :: r) ⟨σ, η, W⟩ ks Q :=
  RunO.val hw (fun H => by simp only [opS, hx, okO, Option.map_some]) hd hn next

theorem RunO.assign {dst : Option Tmp} {x : Operand} {ty : TypeId} {pos : String} {after : Array Edge} {guard : Option (Nat × Bool)}
    (hw : wantedS σ all ⟨dst, .assign x, ty, pos, after, guard⟩ = some true) (hx : evS σ x = some v) (hd : dst = some d) (hn : Nat.blt d C.n = true)
    (next : RunO C all r ⟨(d, v) :: σ, η, W⟩ ks Q) : RunO C all (⟨dst, .assign x, ty, pos, after, guard⟩ :: r) ⟨σ, η, W⟩ ks Q :=
  RunO.val hw (fun H => by simp only [opS, hx, okO, Option.map_some]) hd hn next

theorem RunQ.move {dst : Option Tmp} {x : Operand} {ty : TypeId} {pos : String} {after : Array Edge} {guard : Option (Nat × Bool)}
    (hw : wantedS σ all ⟨dst, .move x, ty, pos, after, guard⟩ = some true) (hx : evS σ x = some v) (hd : dst = some d) (hn : Nat.blt d C.n = true)
    (next : RunQ C all r ⟨(d, v) :: σ, η, W⟩ ks Q) : RunQ C all (⟨dst, .move x, ty, pos, after, guard⟩ :: r) ⟨σ, η, W⟩ ks Q :=
  RunQ.val hw rfl (fun H => by simp only [opS, hx, okO, Option.map_some]) hd hn next

theorem RunQ.assign {dst : Option Tmp} {x : Operand} {ty : TypeId} {pos : String} {after : Array Edge} {guard : Option (Nat × Bool)}
    (hw : wantedS σ all ⟨dst, .assign x, ty, pos, after, guard⟩ = some true) (hx : evS σ x = some v) (hd : dst = some d) (hn : Nat.blt d C.n = true)
    (next : RunQ C all r ⟨(d, v) :: σ, η, W⟩ ks Q) : RunQ C all (⟨dst, .assign x, ty, pos, after, guard⟩ :: r) ⟨σ, η, W⟩ ks Q :=
  RunQ.val hw rfl (fun H => by simp only [opS, hx, okO, Option.map_some]) hd hn next

theorem shr_at {c b : Nat} (n m : Int) (h : (2 : Int) ^ c = m) (hb : c ≤ b) : n.fdiv (2 ^ min (Int.toNat (c : Int)) b) = n / m := by
  rw [Int.toNat_natCast, Nat.min_eq_left hb, h, Int.fdiv_eq_ediv_of_nonneg]
  rw [← h]
  exact Int.le_of_lt (Int.pow_pos (by decide))

theorem shr1 {b : Nat} (n : Int) (hb : 1 ≤ b) : n.fdiv (2 ^ min (Int.toNat 1) b) = n / 2 := shr_at (c := 1) n 2 rfl hb

theorem Done.pureP {fn : Func} {vs : List V} {P : CR → Prop} {x : X} (hx : x = .normal ∨ x = .ret) (hr : ∀ H, resS C.E σ H fn.results.toList = some vs) (hv : tupV vs = v) (hfl : v.flat = true) (hP : P (.pure v)) : Done C x ⟨σ, η, []⟩ [] (FinS C.E fn C.H0.length P) :=
  Done.fin hx (fun H _ => hr H) fun H hh => by
    have := hh.wr rfl
    simp only [close, hv, hfl, Bool.true_and, decide_eq_true_eq, this, if_true]
    exact hP

/-- A call that turns nothing and gives one of some values. -/
theorem RunO.pureE {T : Type} (vf : T → V) {g : FuncId} {args : List V} (hw : wantedS σ all o = some true) (h : ∀ H, opS C.E (evS σ) o H = some (.enter g args, H)) (hd : o.dst = some d) (hn : Nat.blt d C.n = true)
    (hg : ∀ H, HFits C.H0 W η H → WPcall C.E g args H.objs fun c => ∃ t, c = .pure (vf t))
    (next : ∀ t, RunO C all r ⟨(d, vf t) :: σ, η, W⟩ ks Q) : RunO C all (o :: r) ⟨σ, η, W⟩ ks Q := .mk fun f H ⟨hf, hh⟩ => by
  simp only [WPo, hf.wanted hw, hf.op (h H)]
  obtain ⟨c, h1, t, rfl⟩ := hg H hh
  refine WPcall.of h1 ?_
  simp only [hd, Fr.set, Hp.after]
  exact (next t).of _ _ ⟨hf.put hn _, hh⟩

/-- A call that turns nothing that was there, and gives something with one new block that is known. -/
def MakesB (H : List AObj) (vf : Nat → V) (b : AObj) (c : CR) : Prop :=
  ∃ k H', c = .eff (vf k) H' ∧ H.length ≤ k ∧ H'.objs[k]? = some b ∧ H.length ≤ H'.objs.length ∧ (∀ j, j < H.length → H'.objs[j]? = H[j]?) ∧ H.length ≤ H'.wr

theorem Done.makes {fn : Func} {vs : List V} {vf : Nat → V} {b : AObj} {x : X} (i : Nat) (hx : x = .normal ∨ x = .ret) (hi : η[i]? = some (true, k, b)) (hr : ∀ H, resS C.E σ H fn.results.toList = some vs) (hv : tupV vs = vf k) (hfl : (vf k).flat = false) :
    Done C x ⟨σ, η, []⟩ [] (FinS C.E fn C.H0.length (MakesB C.H0 vf b)) :=
  Done.fin hx (fun H _ => hr H) fun H hh => by
    simp only [close, hv, hfl, Bool.false_and, Bool.false_eq_true, if_false]
    exact ⟨k, H, rfl, hh.own _ (List.mem_of_getElem? hi) rfl, hh.at hi, hh.len, fun j hj => hh.same j hj (by simp), hh.wr rfl⟩

theorem HFits.call {c : CR} {vf : Nat → V} {b : AObj} (h : HFits H0 W η H) (hm : MakesB H.objs vf b c) : ∃ k, (H.after c).1 = vf k ∧ HFits H0 W ((true, k, b) :: η) (H.after c).2 := by
  obtain ⟨k, H', rfl, h1, h2, h3, h4, h5⟩ := hm
  refine ⟨k, rfl, ?_, ?_, ?_, ?_, ?_, ?_⟩
  · simp only [Hp.after]; have := h.len; omega
  · simp only [keysB, List.map_cons, List.nodup_cons]
    refine ⟨fun hm => ?_, h.nodup⟩
    obtain ⟨x, hx, he⟩ := List.mem_map.mp hm
    have := (List.getElem?_eq_some_iff.mp (h.has x hx)).1
    omega
  · intro x hx
    rcases List.mem_cons.mp hx with rfl | hx
    · exact h2
    · have := h.has x hx
      simp only [Hp.after]
      rw [h4 _ (List.getElem?_eq_some_iff.mp this).1]
      exact this
  · intro x hx e
    rcases List.mem_cons.mp hx with rfl | hx
    · have := h.len; simp only; omega
    · exact h.own x hx e
  · intro j hj hw
    have := h.len
    simp only [Hp.after]
    rw [h4 j (by omega)]
    exact h.same j hj hw
  · intro he
    have := h.wr he
    have := h.len
    simp only [Hp.after]
    omega

theorem RunO.callB {g : FuncId} {args : List V} {vf : Nat → V} {b : AObj} (hw : wantedS σ all o = some true) (h : ∀ H, opS C.E (evS σ) o H = some (.enter g args, H)) (hd : o.dst = some d) (hn : Nat.blt d C.n = true)
    (hg : ∀ H, HFits C.H0 W η H → WPcall C.E g args H.objs (MakesB H.objs vf b))
    (next : ∀ k, RunO C all r ⟨(d, vf k) :: σ, (true, k, b) :: η, W⟩ ks Q) : RunO C all (o :: r) ⟨σ, η, W⟩ ks Q :=
  RunO.call (T := Nat) (fun k => (true, k, b) :: η) vf hw h hd hn (fun H hh => by
    obtain ⟨c, h1, h2⟩ := hg H hh
    exact ⟨c, h1, hh.call h2⟩) next

/-- A truth value that is moved: one walk for each. -/
theorem RunO.cmpM {dst : Option Tmp} {x : Operand} {ty : TypeId} {pos : String} {after : Array Edge} {guard : Option (Nat × Bool)} {t : Bool}
    (hw : wantedS σ all ⟨dst, .move x, ty, pos, after, guard⟩ = some true) (hx : evS σ x = some (.bool t)) (hd : dst = some d) (hn : Nat.blt d C.n = true)
    (h1 : t = true → RunO C all r ⟨(d, .bool true) :: σ, η, W⟩ ks Q) (h2 : t = false → RunO C all r ⟨(d, .bool false) :: σ, η, W⟩ ks Q) : RunO C all (⟨dst, .move x, ty, pos, after, guard⟩ :: r) ⟨σ, η, W⟩ ks Q := by
  cases t with
  | true => exact RunO.move hw hx hd hn (h1 rfl)
  | false => exact RunO.move hw hx hd hn (h2 rfl)

theorem RunO.un {dst : Option Tmp} {op : UnOp} {t : TypeId} {x : Operand} {ty : TypeId} {pos : String} {after : Array Edge} {guard : Option (Nat × Bool)} {kk : IntKind} {p z : Int}
    (hw : wantedS σ all ⟨dst, .unOp op t x, ty, pos, after, guard⟩ = some true) (hx : evS σ x = some v) (hz : unV op v = some (.int kk z)) (he : z = p) (hd : dst = some d) (hn : Nat.blt d C.n = true)
    (next : RunO C all r ⟨(d, .int kk p) :: σ, η, W⟩ ks Q) : RunO C all (⟨dst, .unOp op t x, ty, pos, after, guard⟩ :: r) ⟨σ, η, W⟩ ks Q := by
  subst he
  exact RunO.val hw (fun H => by simp only [opS, hx, hz, okO, Option.map_some]) hd hn next

end Go.Am

/-
  Small laws about conditions, whole numbers, rows of bytes.
-/
namespace Go.Am
open Go Go.IntWalk

theorem need_pos {β : Type} {b : Bool} {x : Option β} (h : b = true) : need b x = x := by subst h; rfl
theorem need_dec {β : Type} {p : Prop} [Decidable p] {x : Option β} (h : p) : need (decide p) x = x := need_pos (decide_eq_true h)
theorem bif_pos {α : Type} {b : Bool} {x y : α} (h : b = true) : (bif b then x else y) = x := by subst h; rfl
theorem bif_neg {α : Type} {b : Bool} {x y : α} (h : b = false) : (bif b then x else y) = y := by subst h; rfl
theorem bif_dec {α : Type} {p : Prop} [Decidable p] {x y : α} : (bif decide p then x else y) = if p then x else y := by
  by_cases h : p <;> simp [h]
theorem bif_if {α : Type} {b : Bool} {x y : α} : (bif b then x else y) = if b = true then x else y := by cases b <;> rfl

/-- Whole numbers within bounds. -/
theorem w64 {n : Int} (h : -9223372036854775808 ≤ n ∧ n ≤ 9223372036854775807) : IntKind.i64.wrap n = n := i64_in n h
theorem w32 {n : Int} (h : -2147483648 ≤ n ∧ n ≤ 2147483647) : IntKind.i32.wrap n = n := i32_in n h
theorem w8 {n : Int} (h : 0 ≤ n ∧ n ≤ 255) : IntKind.u8.wrap n = n := u8_in n h
theorem wu32 {n : Int} (h : 0 ≤ n ∧ n ≤ 4294967295) : IntKind.u32.wrap n = n := u32_in n h
theorem wu64 {n : Int} (h : 0 ≤ n ∧ n ≤ 18446744073709551615) : IntKind.u64.wrap n = n := u64_in n h
theorem wu16 {n : Int} (h : 0 ≤ n ∧ n ≤ 65535) : IntKind.u16.wrap n = n := u16_in n h

theorem dyI {k : IntKind} {a b : Int} (h : a = b) : (⟨.int k, a⟩ : Dy) = ⟨.int k, b⟩ := by subst h; rfl
theorem dyB {a b : Bool} (h : a = b) : (⟨.bool, a⟩ : Dy) = ⟨.bool, b⟩ := by subst h; rfl
theorem dyS {a b : List UInt8} (h : a = b) : (⟨.str, a⟩ : Dy) = ⟨.str, b⟩ := by subst h; rfl
theorem ret1 {a b : Dy} (h : a = b) : some [a] = some [b] := by rw [h]
theorem ret2 {a b c d : Dy} (h : a = b) (h2 : c = d) : some [a, c] = some [b, d] := by rw [h, h2]

/-! ### Bits -/

theorem bv_nat {w a : Nat} (h : a < 2 ^ w) : (BitVec.ofInt w (a : Int)).toNat = a := by
  rw [BitVec.toNat_ofInt]
  have : ((a : Int) % ((2 ^ w : Nat) : Int)) = (a : Int) := Int.emod_eq_of_lt (by omega) (by exact_mod_cast h)
  rw [this]; rfl
theorem bv_and {w a b : Nat} (ha : a < 2 ^ w) (hb : b < 2 ^ w) : (BitVec.ofInt w (a : Int) &&& BitVec.ofInt w (b : Int)).toNat = a &&& b := by
  rw [BitVec.toNat_and, bv_nat ha, bv_nat hb]
theorem bv_or {w a b : Nat} (ha : a < 2 ^ w) (hb : b < 2 ^ w) : (BitVec.ofInt w (a : Int) ||| BitVec.ofInt w (b : Int)).toNat = a ||| b := by
  rw [BitVec.toNat_or, bv_nat ha, bv_nat hb]
theorem bv_xor {w a b : Nat} (ha : a < 2 ^ w) (hb : b < 2 ^ w) : (BitVec.ofInt w (a : Int) ^^^ BitVec.ofInt w (b : Int)).toNat = a ^^^ b := by
  rw [BitVec.toNat_xor, bv_nat ha, bv_nat hb]
theorem bv_mask {w a k : Nat} (ha : a < 2 ^ w) (hk : k ≤ w) {c : Int} (hc : c = ((2 ^ k - 1 : Nat) : Int)) : (BitVec.ofInt w (a : Int) &&& BitVec.ofInt w c).toNat = a % 2 ^ k := by
  subst hc
  have h2 : 2 ^ k ≤ 2 ^ w := Nat.pow_le_pow_right (by omega) hk
  have h3 : 0 < 2 ^ k := Nat.pos_of_ne_zero (by simp)
  rw [bv_and ha (by omega), Nat.and_two_pow_sub_one_eq_mod]
theorem bv_join {w a b k : Nat} (ha : a * 2 ^ k < 2 ^ w) (hb : b < 2 ^ k) (hk : k ≤ w) {x y : Int} (hx : x = ((a * 2 ^ k : Nat) : Int)) (hy : y = (b : Int)) : (BitVec.ofInt w x ||| BitVec.ofInt w y).toNat = a * 2 ^ k + b := by
  subst hx hy
  have h2 : 2 ^ k ≤ 2 ^ w := Nat.pow_le_pow_right (by omega) hk
  rw [bv_or ha (by omega), ← Nat.shiftLeft_eq, Nat.shiftLeft_add_eq_or_of_lt hb]
theorem fdiv_nat (a b : Nat) : Int.fdiv (a : Int) (b : Int) = ((a / b : Nat) : Int) := by
  rw [Int.fdiv_eq_ediv_of_nonneg _ (by omega)]; rfl

/-! ### x[:min(len(x), k)] -/

theorem cutMin {α : Type} {K : Int} (k : Nat) (hk : K = (k : Int)) (s : List α) : List.take (Int.toNat (if K < (s.length : Int) then K else (s.length : Int))) s = s.take k := by
  subst hk
  split
  · rw [Int.toNat_natCast]
  · rw [Int.toNat_natCast, List.take_length, List.take_of_length_le (by omega)]
theorem cutMin_le {K : Int} (hk : 0 ≤ K) (n : Nat) : (0 : Int) ≤ (if K < (n : Int) then K else (n : Int)) ∧ (if K < (n : Int) then K else (n : Int)) ≤ (n : Int) := by
  split <;> omega

/-! Steps at the head of what a function comes to -/
theorem nd {β : Type} {p : Prop} [Decidable p] {x r : Option β} (h : p) (k : x = r) : need (decide p) x = r := by rw [need_dec h]; exact k
theorem np {β : Type} {b : Bool} {x r : Option β} (h : b = true) (k : x = r) : need b x = r := by rw [need_pos h]; exact k
theorem bp {β : Type} {b : Bool} {x y r : Option β} (h : b = true) (k : x = r) : (bif b then x else y) = r := by rw [h]; exact k
theorem bn {β : Type} {b : Bool} {x y r : Option β} (h : b = false) (k : y = r) : (bif b then x else y) = r := by rw [h]; exact k
theorem bc {β : Type} {b : Bool} {x y r : Option β} (h : b = true → x = r) (k : b = false → y = r) : (bif b then x else y) = r := by cases b; exact k rfl; exact h rfl

theorem nn {β : Type} {p : Prop} [Decidable p] {x r : Option β} (h : ¬ p) (k : x = r) : need (!decide p) x = r := by rw [decide_eq_false h]; exact k
theorem bpd {β : Type} {p : Prop} [Decidable p] {x y r : Option β} (h : p) (k : x = r) : (bif decide p then x else y) = r := by rw [decide_eq_true h]; exact k
theorem bnd {β : Type} {p : Prop} [Decidable p] {x y r : Option β} (h : ¬ p) (k : y = r) : (bif decide p then x else y) = r := by rw [decide_eq_false h]; exact k
theorem bcd {β : Type} {p : Prop} [Decidable p] {x y r : Option β} (h : p → x = r) (k : ¬ p → y = r) : (bif decide p then x else y) = r := by
  by_cases e : p
  · exact bpd e (h e)
  · exact bnd e (k e)

end Go.Am

/-
  Runes as bytes, and back.
-/
namespace Go.Am
open Go Go.IntWalk

theorem u8_mod (n : Nat) : IntKind.u8.wrap (n : Int) = ((n % 256 : Nat) : Int) := by
  unfold IntKind.wrap
  simp [IntKind.signed, IntKind.bits]

/-- A byte behind the first one. -/
theorem cont_i {y : Int} (h : 0 ≤ y) : IntKind.u8.wrap (↑(BitVec.toNat (BitVec.ofInt (8 : Nat) (128 : Int) ||| BitVec.ofInt (8 : Nat) (IntKind.u8.wrap (↑(BitVec.toNat (BitVec.ofInt (8 : Nat) (IntKind.u8.wrap y) &&& BitVec.ofInt (8 : Nat) (63 : Int))) : Int)))) : Int) = 128 + y % 64 := by
  obtain ⟨n, rfl⟩ := Int.eq_ofNat_of_zero_le h
  have e1 : IntKind.u8.wrap (n : Int) = ((n % 256 : Nat) : Int) := u8_mod n
  have e2 : (BitVec.ofInt 8 ((n % 256 : Nat) : Int) &&& BitVec.ofInt 8 63).toNat = n % 256 % 2 ^ 6 := bv_mask (w := 8) (k := 6) (a := n % 256) (Nat.mod_lt _ (by omega)) (by omega) rfl
  have e3 : IntKind.u8.wrap ((n % 256 % 2 ^ 6 : Nat) : Int) = ((n % 256 % 2 ^ 6 : Nat) : Int) := w8 (by omega)
  have e4 : (BitVec.ofInt 8 128 ||| BitVec.ofInt 8 ((n % 256 % 2 ^ 6 : Nat) : Int)).toNat = 2 * 2 ^ 6 + n % 256 % 2 ^ 6 := bv_join (w := 8) (a := 2) (b := n % 256 % 2 ^ 6) (k := 6) (by omega) (by omega) (by omega) rfl rfl
  rw [e1, e2, e3, e4, w8 (by omega)]
  omega
/-- A first byte. -/
theorem head_i {y : Int} {a k : Nat} {c : Int} (hc : c = ((a * 2 ^ k : Nat) : Int)) (ha : a * 2 ^ k + 2 ^ k ≤ 256) (hk : k ≤ 8) (h : 0 ≤ y) (h' : y < ((2 ^ k : Nat) : Int)) :
    IntKind.u8.wrap (↑(BitVec.toNat (BitVec.ofInt (8 : Nat) c ||| BitVec.ofInt (8 : Nat) (IntKind.u8.wrap y))) : Int) = c + y := by
  subst hc
  obtain ⟨n, rfl⟩ := Int.eq_ofNat_of_zero_le h
  have hn : n < 2 ^ k := by omega
  have h0 : 0 < 2 ^ k := Nat.pos_of_ne_zero (by simp)
  have e1 : IntKind.u8.wrap (n : Int) = (n : Int) := w8 (by omega)
  have e2 : (BitVec.ofInt 8 ((a * 2 ^ k : Nat) : Int) ||| BitVec.ofInt 8 (n : Int)).toNat = a * 2 ^ k + n := bv_join (w := 8) (a := a) (b := n) (k := k) (by omega) hn hk rfl rfl
  rw [e1, e2, w8 (by omega)]
  omega

/-- What may be a rune. -/
def ValR (x : Int) : Prop := (0 ≤ x ∧ x < 55296) ∨ (57343 < x ∧ x ≤ 1114111)

theorem ValR.valid {x : Int} (h : ValR x) : Utf8.valid x = true := by
  unfold Utf8.valid
  unfold ValR at h
  simp
  omega

theorem enc1 {x : Int} (h : ValR x) (h1 : x ≤ 127) : encode x = [UInt8.ofNat x.toNat] := by
  have hv := h.valid
  unfold encode
  unfold ValR at h
  simp only [hv, if_true]
  rw [if_pos (by omega)]
theorem enc2 {x : Int} (h : ValR x) (h0 : 127 < x) (h1 : x ≤ 2047) : encode x = [UInt8.ofNat (192 + x.toNat / 64), UInt8.ofNat (128 + x.toNat % 64)] := by
  have hv := h.valid
  unfold encode
  unfold ValR at h
  simp only [hv, if_true]
  rw [if_neg (by omega), if_pos (by omega)]
theorem enc3 {x : Int} (h : ValR x) (h0 : 2047 < x) (h1 : x ≤ 65535) : encode x = [UInt8.ofNat (224 + x.toNat / 4096), UInt8.ofNat (128 + x.toNat / 64 % 64), UInt8.ofNat (128 + x.toNat % 64)] := by
  have hv := h.valid
  unfold encode
  unfold ValR at h
  simp only [hv, if_true]
  rw [if_neg (by omega), if_neg (by omega), if_pos (by omega)]
theorem enc4 {x : Int} (h : ValR x) (h0 : 65535 < x) : encode x = [UInt8.ofNat (240 + x.toNat / 262144), UInt8.ofNat (128 + x.toNat / 4096 % 64), UInt8.ofNat (128 + x.toNat / 64 % 64), UInt8.ofNat (128 + x.toNat % 64)] := by
  have hv := h.valid
  unfold encode
  unfold ValR at h
  simp only [hv, if_true]
  rw [if_neg (by omega), if_neg (by omega), if_neg (by omega)]

theorem enc_len4 (x : Int) : 1 ≤ (encode x).length ∧ (encode x).length ≤ 4 := by
  unfold encode
  dsimp only
  repeat' split
  all_goals simp

/-- A rune that was laid is read. -/
theorem dec_enc {x : Int} (h : ValR x) (s : List UInt8) : decode (encode x ++ s) = (x.toNat, (encode x).length) := by
  have hv := h.valid
  have hx : 0 ≤ x ∧ x ≤ 1114111 := by unfold ValR at h; omega
  have hvn : Utf8.valid ((x.toNat : Nat) : Int) = true := by rw [Int.toNat_of_nonneg hx.1]; exact hv
  by_cases h1 : x ≤ 127
  · rw [enc1 h h1]
    unfold decode
    simp only [List.cons_append, List.nil_append, UInt8.toNat_ofNat']
    rw [if_pos (by omega)]
    simp
    omega
  by_cases h2 : x ≤ 2047
  · rw [enc2 h (by omega) h2]
    have e : x.toNat ≤ 2047 := by omega
    have e0 : 127 < x.toNat := by omega
    generalize x.toNat = c at *
    unfold decode
    simp only [List.cons_append, List.nil_append, UInt8.toNat_ofNat', List.getD_cons_zero, Nat.sub_self, List.length_cons]
    rw [if_neg (by omega), if_pos (by simp; omega), if_pos (by omega)]
    simp
    omega
  by_cases h3 : x ≤ 65535
  · rw [enc3 h (by omega) h3]
    have e : x.toNat ≤ 65535 := by omega
    have e0 : 2047 < x.toNat := by omega
    generalize x.toNat = c at *
    unfold decode
    simp only [List.cons_append, List.nil_append, UInt8.toNat_ofNat', List.getD_cons_zero, List.getD_cons_succ, Nat.sub_self, List.length_cons]
    have ec : (224 + c / 4096) % 2 ^ 8 % 16 * 4096 + (128 + c / 64 % 64) % 2 ^ 8 % 64 * 64 + (128 + c % 64) % 2 ^ 8 % 64 = c := by omega
    rw [if_neg (by omega), if_neg (by simp; omega), if_pos (by simp; omega)]
    simp only [ec]
    rw [if_pos (by simp [hvn]; omega)]
    rfl
  · rw [enc4 h (by omega)]
    have e : x.toNat ≤ 1114111 := by omega
    have e0 : 65535 < x.toNat := by omega
    generalize x.toNat = c at *
    unfold decode
    simp only [List.cons_append, List.nil_append, UInt8.toNat_ofNat', List.getD_cons_zero, List.getD_cons_succ, Nat.sub_self, List.length_cons]
    have ec : (240 + c / 262144) % 2 ^ 8 % 8 * 262144 + (128 + c / 4096 % 64) % 2 ^ 8 % 64 * 4096 + (128 + c / 64 % 64) % 2 ^ 8 % 64 * 64 + (128 + c % 64) % 2 ^ 8 % 64 = c := by omega
    rw [if_neg (by omega), if_neg (by simp; omega), if_neg (by simp; omega), if_pos (by simp; omega)]
    simp only [ec]
    rw [if_pos (by simp [hvn]; omega)]
    rfl

/-! ### What a builder lays for a rune -/

theorem head2 {y : Int} (h : 0 ≤ y) (h' : y < 32) : IntKind.u8.wrap (↑(BitVec.toNat (BitVec.ofInt (8 : Nat) (192 : Int) ||| BitVec.ofInt (8 : Nat) (IntKind.u8.wrap y))) : Int) = 192 + y := head_i (a := 6) (k := 5) rfl (by omega) (by omega) h h'
theorem head3 {y : Int} (h : 0 ≤ y) (h' : y < 16) : IntKind.u8.wrap (↑(BitVec.toNat (BitVec.ofInt (8 : Nat) (224 : Int) ||| BitVec.ofInt (8 : Nat) (IntKind.u8.wrap y))) : Int) = 224 + y := head_i (a := 14) (k := 4) rfl (by omega) (by omega) h h'
theorem head4 {y : Int} (h : 0 ≤ y) (h' : y < 8) : IntKind.u8.wrap (↑(BitVec.toNat (BitVec.ofInt (8 : Nat) (240 : Int) ||| BitVec.ofInt (8 : Nat) (IntKind.u8.wrap y))) : Int) = 240 + y := head_i (a := 30) (k := 3) rfl (by omega) (by omega) h h'

theorem fdv {x : Int} (k : Int) (_ : 0 ≤ x) (hk : 0 ≤ k) : Int.fdiv x k = x / k := Int.fdiv_eq_ediv_of_nonneg _ hk

theorem put1 {x : Int} (h : ValR x) (h1 : x ≤ 127) : [UInt8.ofNat (Int.toNat (IntKind.u8.wrap x))] = encode x := by
  rw [enc1 h h1, w8 (by unfold ValR at h; omega)]
theorem put2 {x : Int} (h : ValR x) (h0 : 127 < x) (h1 : x ≤ 2047) : [UInt8.ofNat (Int.toNat (192 + Int.fdiv x 64)), UInt8.ofNat (Int.toNat (128 + x % 64))] = encode x := by
  rw [enc2 h h0 h1, fdv 64 (by omega) (by omega)]
  congr 3 <;> omega
theorem put3 {x : Int} (h : ValR x) (h0 : 2047 < x) (h1 : x ≤ 65535) : [UInt8.ofNat (Int.toNat (224 + Int.fdiv x 4096)), UInt8.ofNat (Int.toNat (128 + Int.fdiv x 64 % 64)), UInt8.ofNat (Int.toNat (128 + x % 64))] = encode x := by
  rw [enc3 h h0 h1, fdv 64 (by omega) (by omega), fdv 4096 (by omega) (by omega)]
  congr 3
  · omega
  · congr 1; omega
  · congr 2; omega
theorem put4 {x : Int} (h : ValR x) (h0 : 65535 < x) : [UInt8.ofNat (Int.toNat (240 + Int.fdiv x 262144)), UInt8.ofNat (Int.toNat (128 + Int.fdiv x 4096 % 64)), UInt8.ofNat (Int.toNat (128 + Int.fdiv x 64 % 64)), UInt8.ofNat (Int.toNat (128 + x % 64))] = encode x := by
  rw [enc4 h h0, fdv 64 (by omega) (by omega), fdv 4096 (by omega) (by omega), fdv 262144 (by omega) (by omega)]
  have e1 : (240 + x / 262144).toNat = 240 + x.toNat / 262144 := by omega
  have e2 : (128 + x / 4096 % 64).toNat = 128 + x.toNat / 4096 % 64 := by omega
  have e3 : (128 + x / 64 % 64).toNat = 128 + x.toNat / 64 % 64 := by omega
  have e4 : (128 + x % 64).toNat = 128 + x.toNat % 64 := by omega
  rw [e1, e2, e3, e4]

end Go.Am

/-
  Arguments of a law as typed values: of numbers, bits, texts, and of structs and arrays of these.
-/
namespace Go.Am
open Go Go.RowKit Go.ChangeShapes

/-- The word of a type whose cells lie one behind the other. -/
def layF (lay : TypeId → Option Ty) (P : Program) : Nat → List Field → Option Ty
  | _, [] => some .unit
  | off, f :: r => match lay f.type, layF lay P (off + P.cellsOf f.type) r with
    | some a, some b => if f.offset = off ∧ a.size = P.cellsOf f.type then some (.pair a b) else none
    | _, _ => none
def arrTy (a : Ty) : Nat → Ty
  | 0 => .unit
  | n + 1 => .pair a (arrTy a n)
def lay (P : Program) : Nat → TypeId → Option Ty
  | 0, _ => none
  | d + 1, t => match P.underlying t with
    | some (.int .u8) => some .byte
    | some (.int k) => some (.int k)
    | some .bool => some .bool
    | some .string => some .str
    | some (.struct fs) => match layF (lay P d) P 0 fs.toList with
      | some ty => if ty.size = P.cellsOf t then some ty else none
      | none => none
    | some (.array n e) => match lay P d e with
      | some a => if a.size = P.cellsOf e ∧ n * P.cellsOf e = P.cellsOf t then some (arrTy a n) else none
      | none => none
    | _ => none

/-- What is known of a typed value. -/
def OkTy : (t : Ty) → t.den → Prop
  | .int k, n => k.min ≤ n ∧ n ≤ k.max
  | .byte, _ | .bool, _ | .unit, _ => True
  | .str, s => s.length ≤ maxLen
  | .pair a b, p => OkTy a p.1 ∧ OkTy b p.2
  | .list _ t, l => l.length ≤ maxLen ∧ ∀ x ∈ l, OkTy t x

section
variable {H : Type} {enc : TypeId × Value → H} {P : Program} {w : World} {base : Nat} {sp : Nat → Bool} {held : Bool} {ρ : Nat → Loc} {c : RC}

/-- Cells, and the typed value that they are. -/
def Opens (ρ : Nat → Loc) (c : RC) (ty : Ty) (cs : List Value) : Prop := ∃ (x : ty.den) (vs : List V), cs = vs.map (V.emb ρ) ∧ ER c ty x vs ∧ OkTy ty x ∧ ∀ v ∈ vs, v.flat = true

theorem Opens.pair {a b : Ty} {c1 c2 : List Value} (h1 : Opens ρ c a c1) (h2 : Opens ρ c b c2) : Opens ρ c (.pair a b) (c1 ++ c2) := by
  obtain ⟨x, vs, e1, e2, e3, e4⟩ := h1
  obtain ⟨y, us, f1, f2, f3, f4⟩ := h2
  refine ⟨(x, y), vs ++ us, by rw [e1, f1, List.map_append], ⟨vs, us, rfl, e2, f2⟩, ⟨e3, f3⟩, fun v hv => ?_⟩
  rcases List.mem_append.1 hv with h | h
  · exact e4 v h
  · exact f4 v h
theorem Opens.unit : Opens ρ c .unit [] := ⟨(), [], rfl, rfl, trivial, fun v hv => by cases hv⟩

theorem open_fields {lay : TypeId → Option Ty} {cs : List Value} : ∀ (fl : List Field) (off : Nat) (ty : Ty), layF lay P off fl = some ty →
    (∀ f ∈ fl, ∀ a, lay f.type = some a → Opens ρ c a ((cs.drop f.offset).take (P.cellsOf f.type))) → Opens ρ c ty ((cs.drop off).take ty.size)
  | [], off, ty, h, _ => by
    simp only [layF, Option.some.injEq] at h
    subst h
    simp only [Ty.size, List.take_zero]
    exact Opens.unit
  | f :: r, off, ty, h, hf => by
    simp only [layF] at h
    split at h
    · rename_i a b ha hb
      obtain ⟨⟨h1, h2⟩, h⟩ := of_ite2 h
      cases h
      have e1 := hf f (by simp) a ha
      have e2 := open_fields r _ b hb (fun g hg => hf g (List.mem_cons_of_mem _ hg))
      rw [h1, ← h2] at e1
      rw [← h2] at e2
      have : (cs.drop off).take (a.size + b.size) = (cs.drop off).take a.size ++ (cs.drop (off + a.size)).take b.size := by
        rw [List.take_add, List.drop_drop]
      simp only [Ty.size, this]
      exact e1.pair e2
    · cases h

theorem open_arr {a : Ty} {cs : List Value} {sz : Nat} (hsz : a.size = sz) : ∀ (n off : Nat), (∀ i, i < n → Opens ρ c a ((cs.drop (off + i * sz)).take sz)) → Opens ρ c (arrTy a n) ((cs.drop off).take (arrTy a n).size)
  | 0, off, _ => by
    simp only [arrTy, Ty.size, List.take_zero]
    exact Opens.unit
  | n + 1, off, h => by
    have e1 := h 0 (by omega)
    rw [Nat.zero_mul, Nat.add_zero, ← hsz] at e1
    have e2 := open_arr hsz n (off + sz) fun i hi => by
      have := h (i + 1) (by omega)
      rwa [show off + (i + 1) * sz = off + sz + i * sz by rw [Nat.add_mul]; omega] at this
    have : (cs.drop off).take (a.size + (arrTy a n).size) = (cs.drop off).take a.size ++ (cs.drop (off + sz)).take (arrTy a n).size := by
      rw [List.take_add, List.drop_drop, hsz]
    simp only [arrTy, Ty.size, this]
    exact e1.pair e2

theorem arr_size (a : Ty) : ∀ n, (arrTy a n).size = n * a.size
  | 0 => by simp [arrTy, Ty.size]
  | n + 1 => by simp only [arrTy, Ty.size, arr_size a n, Nat.add_mul]; omega

theorem mapM_get {α β : Type} {f : α → Option β} {l : List α} {r : List β} (h : l.mapM f = some r) (i : Nat) (a : α) (hi : l[i]? = some a) : ∃ b, f a = some b := by
  induction l generalizing r i with
  | nil => simp at hi
  | cons x l ih =>
    simp only [List.mapM_cons, Option.pure_def, Option.bind_eq_bind, Option.bind_eq_some_iff] at h
    obtain ⟨b, hb, r', hr', _⟩ := h
    cases i with
    | zero => simp at hi; subst hi; exact ⟨b, hb⟩
    | succ i => exact ih hr' i (by simpa using hi)

theorem open_cells : ∀ (d : Nat) (t : TypeId) (ty : Ty) (fuel : Nat) (cs : List Value) (x : DataW H × List MemPlace), lay P d t = some ty → DataW.trod enc P w base sp held fuel t cs = some x → Opens ρ c ty cs
  | 0, t, ty, fuel, cs, x, h, _ => by simp [lay] at h
  | d + 1, t, ty, fuel, cs, x, h, hx => by
    simp only [lay] at h
    split at h
    · rename_i ht
      cases h
      obtain ⟨n, rfl, rfl, hw⟩ := DataW.trod_int ht hx
      simp only [Lit.wf, Bool.and_eq_true, decide_eq_true_eq] at hw
      have h0 : IntKind.min .u8 = 0 := rfl
      have h1 : IntKind.max .u8 = 255 := rfl
      rw [h0, h1] at hw
      refine ⟨UInt8.ofNat n.toNat, [.int .u8 n], rfl, ?_, trivial, fun v hv => by simp only [List.mem_singleton] at hv; subst hv; rfl⟩
      simp only [ER]
      rw [byte_back hw.1 (by omega)]
    · rename_i k _ ht
      cases h
      obtain ⟨n, rfl, rfl, hw⟩ := DataW.trod_int ht hx
      simp only [Lit.wf, Bool.and_eq_true, decide_eq_true_eq] at hw
      exact ⟨n, [.int k n], rfl, rfl, hw, fun v hv => by simp only [List.mem_singleton] at hv; subst hv; rfl⟩
    · rename_i ht
      cases h
      obtain ⟨b, rfl, rfl⟩ := DataW.trod_bool ht hx
      exact ⟨b, [.bool b], rfl, rfl, trivial, fun v hv => by simp only [List.mem_singleton] at hv; subst hv; rfl⟩
    · rename_i ht
      cases h
      obtain ⟨s, rfl, rfl, hs⟩ := DataW.trod_string ht hx
      exact ⟨s.data.toList, [.str s.data.toList], rfl, rfl, hs, fun v hv => by simp only [List.mem_singleton] at hv; subst hv; rfl⟩
    · rename_i fs ht
      split at h
      · rename_i ty' hty
        obtain ⟨hsz, h⟩ := of_ite2 h
        cases h
        obtain ⟨xs, n, rfl, rfl, hl, hxl, hget⟩ := DataW.trod_struct ht hx
        have := open_fields (ρ := ρ) (c := c) (cs := cs) fs.toList 0 ty hty fun f hf a ha => by
          obtain ⟨i, hi⟩ := List.getElem?_of_mem hf
          have hi' : fs[i]? = some f := by simpa using hi
          have hlt : i < xs.length := by rw [hxl]; exact (Array.getElem?_eq_some_iff.1 hi').1
          have hg := hget i f hi'
          rw [List.getElem?_eq_getElem hlt] at hg
          exact open_cells d f.type a n _ _ ha hg
        rw [List.drop_zero, hsz, ← hl, List.take_length] at this
        exact this
      · cases h
    · rename_i n e ht
      split at h
      · rename_i a ha
        obtain ⟨⟨h1, h2⟩, h⟩ := of_ite2 h
        cases h
        cases fuel with
        | zero => simp [DataW.trod] at hx
        | succ m =>
          unfold DataW.trod at hx
          rw [ht] at hx
          simp only at hx
          obtain ⟨hl, hx⟩ := of_ite2 hx
          rw [Option.map_eq_some_iff] at hx
          obtain ⟨xs, hxs, _⟩ := hx
          have := open_arr (ρ := ρ) (c := c) (cs := cs) h1 n 0 fun i hi => by
            obtain ⟨b, hb⟩ := mapM_get hxs i i (by simp [hi])
            rw [Nat.zero_add]
            exact open_cells d e a m _ b ha hb
          rw [List.drop_zero, arr_size, h1, h2, ← hl, List.take_length] at this
          exact this
      · cases h
    · cases h

/-- One argument. -/
theorem open_arg {r : Go.Reach} {b0 : Nat} {d : Nat} {t : TypeId} {ty : Ty} {v : Value} {D : DataW H} {ps : List MemPlace} (hl : lay P d t = some ty) (hval : Value.okWide P w r b0 t v) (hd : DataW.Trod enc P w base sp held t v D ps) :
    ∃ (x : ty.den) (y : V), v = y.emb ρ ∧ VR c (instH ty x) y ∧ OkTy ty x ∧ y.flat = true := by
  obtain ⟨fuel, hf⟩ := hd
  obtain ⟨x, vs, e1, e2, e3, e4⟩ := open_cells (ρ := ρ) (c := c) d t ty fuel _ _ hl hf
  cases d with
  | zero => simp [lay] at hl
  | succ d =>
    unfold Value.okWide at hval
    have scalar : isCompound ty = false → (∀ u, vs = [u] → v.cells.toList = [u.emb ρ] → v = u.emb ρ) → ∃ (x : ty.den) (y : V), v = y.emb ρ ∧ VR c (instH ty x) y ∧ OkTy ty x ∧ y.flat = true := by
      intro hc hone
      have hlen := e2.length
      have h1 : ty.size = 1 := by cases ty <;> first | rfl | cases hc
      rw [h1] at hlen
      obtain ⟨u, rfl⟩ := List.length_eq_one_iff.1 hlen
      refine ⟨x, u, hone u rfl (by simpa using e1), instH_er.2 ⟨[u], e2, by rw [hc]; rfl, fun _ => rfl⟩, e3, e4 u (by simp)⟩
    have comp : isCompound ty = true → (∃ cs, v = .agg cs) → ∃ (x : ty.den) (y : V), v = y.emb ρ ∧ VR c (instH ty x) y ∧ OkTy ty x ∧ y.flat = true := by
      rintro hc ⟨cs, rfl⟩
      refine ⟨x, .agg vs, ?_, instH_er.2 ⟨vs, e2, by rw [hc]; rfl, fun h => by rw [hc] at h; cases h⟩, e3, flat_agg.2 e4⟩
      simp only [Value.cells] at e1
      simp only [V.emb, embL_eq]
      rw [← e1]
    simp only [lay] at hl
    split at hl
    · rename_i ht
      cases hl
      rw [ht] at hval
      simp only [Cell.okWide, Cell.ok, ht] at hval
      exact scalar rfl fun u hu hc => by cases v <;> first | (simp only [Value.cells] at hc; simpa using hc) | (simp at hval)
    · rename_i k _ ht
      cases hl
      rw [ht] at hval
      simp only [Cell.okWide, Cell.ok, ht] at hval
      exact scalar rfl fun u hu hc => by cases v <;> first | (simp only [Value.cells] at hc; simpa using hc) | (simp at hval)
    · rename_i ht
      cases hl
      rw [ht] at hval
      simp only [Cell.okWide, Cell.ok, ht] at hval
      exact scalar rfl fun u hu hc => by cases v <;> first | (simp only [Value.cells] at hc; simpa using hc) | (simp at hval)
    · rename_i ht
      cases hl
      rw [ht] at hval
      simp only [Cell.okWide, Cell.ok, ht] at hval
      exact scalar rfl fun u hu hc => by cases v <;> first | (simp only [Value.cells] at hc; simpa using hc) | (simp at hval)
    · rename_i fs ht
      rw [ht] at hval
      obtain ⟨cs, h1, _⟩ := hval
      split at hl
      · rename_i ty' hty
        have hl := (of_ite2 hl).2
        cases hl
        refine comp ?_ ⟨cs, h1⟩
        cases hfl : fs.toList with
        | nil => rw [hfl] at hty; simp only [layF, Option.some.injEq] at hty; subst hty; rfl
        | cons f r =>
          rw [hfl] at hty
          simp only [layF] at hty
          split at hty
          · have hty := (of_ite2 hty).2
            cases hty
            rfl
          · cases hty
      · cases hl
    · rename_i n e ht
      rw [ht] at hval
      obtain ⟨cs, h1, _⟩ := hval
      split at hl
      · have hl := (of_ite2 hl).2
        cases hl
        refine comp ?_ ⟨cs, h1⟩
        cases n <;> rfl
      · cases hl
    · cases hl

/-- All arguments. -/
def layAll (P : Program) (d : Nat) : List TypeId → Option (List Ty)
  | [] => some []
  | t :: r => match lay P d t, layAll P d r with
    | some a, some b => some (a :: b)
    | _, _ => none

def OkDs : List Ty → List Dy → Prop
  | [], ds => ds = []
  | t :: r, ds => ∃ (x : t.den) (ds' : List Dy), ds = ⟨t, x⟩ :: ds' ∧ OkTy t x ∧ OkDs r ds'

theorem open_args {d b0 : Nat} : ∀ (ts : List TypeId) (tys : List Ty) (vs : List Value) (Ds : List (DataW H)) (ps : List MemPlace), layAll P d ts = some tys → DataW.TrodAll enc P w base sp held ts vs Ds ps →
    (∀ (j : Nat) t v, ts[j]? = some t → vs[j]? = some v → Value.okWide P w .any b0 t v) →
    ∃ (ds : List Dy) (ys : List V) (as : List SV), vs = ys.map (V.emb ρ) ∧ instPL [] (tys.map .hole) ds = some (as, []) ∧ VRL c as ys ∧ OkDs tys ds ∧ ∀ y ∈ ys, y.flat = true
  | [], tys, [], [], ps, hl, _, _ => by
    simp only [layAll, Option.some.injEq] at hl
    subst hl
    exact ⟨[], [], [], rfl, rfl, rfl, rfl, fun y hy => by cases hy⟩
  | [], tys, [], _ :: _, ps, hl, h, _ => by simp [DataW.TrodAll] at h
  | [], tys, _ :: _, _, ps, hl, h, _ => by simp [DataW.TrodAll] at h
  | _ :: _, tys, [], _, ps, hl, h, _ => by simp [DataW.TrodAll] at h
  | _ :: _, tys, _ :: _, [], ps, hl, h, _ => by simp [DataW.TrodAll] at h
  | t :: ts, tys, v :: vs, D :: Ds, ps, hl, h, hval => by
    simp only [layAll] at hl
    split at hl
    · rename_i a b ha hb
      cases hl
      obtain ⟨p, q, h1, h2, _⟩ := h
      obtain ⟨x, y, e1, e2, e3, e4⟩ := open_arg (ρ := ρ) (c := c) ha (hval 0 t v rfl rfl) h1
      obtain ⟨ds, ys, as, f1, f2, f3, f4, f5⟩ := open_args ts b vs Ds q hb h2 fun j t v ht hv => hval (j + 1) t v (by simpa using ht) (by simpa using hv)
      refine ⟨⟨a, x⟩ :: ds, y :: ys, instH a x :: as, by rw [e1, f1]; rfl, ?_, ⟨y, ys, rfl, e2, f3⟩, ⟨x, ds, rfl, e3, f4⟩, fun z hz => ?_⟩
      · simp only [List.map_cons, instPL, instP, popD_self, f2]
      · rcases List.mem_cons.1 hz with rfl | hz
        · exact e4
        · exact f5 z hz
    · cases hl
end

theorem hole_pure : ∀ tys : List Ty, SP.pureL (tys.map .hole) = true
  | [] => rfl
  | _ :: r => by simp [SP.pureL, SP.pure, hole_pure r]

/-- A law of such arguments. -/
theorem law_flat {S : SE} (hS : SOkE S) (ok : S.E.Ok) {g : FuncId} (hOg : ∀ vs, S.E.orc g vs = none) (hfull : S.E.full g = false) {H : Type} {enc : TypeId × Value → H} {w : World} (hG : Globs S.E w) {ts : List TypeId} {tys : List Ty} {d b0 : Nat} (hl : layAll S.E.P d ts = some tys)
    (h : ∀ ds, OkDs tys ds → ∃ n, fnY S loopY (tys.map .hole) [.bool] n g ds = some [⟨.bool, true⟩]) {vs : List Value} {Ds : List (DataW H)} {ps : List MemPlace} (ht : DataW.TrodAll enc S.E.P w 0 (fun _ => true) true ts vs Ds ps)
    (hval : ∀ (j : Nat) t v, ts[j]? = some t → vs[j]? = some v → Value.okWide S.E.P w .any b0 t v) :
    Calls S.E.P g vs.toArray w fun e w' => e = .returned (.bool true) ∧ Below w.heap.size w w' := by
  obtain ⟨ds, ys, as, e1, e2, e3, e4, e5⟩ := open_args (ρ := rho0) (c := ⟨[], fun _ => False, fun _ => none, fun _ => none⟩) ts tys vs Ds ps hl ht hval
  obtain ⟨n, hn⟩ := h ds e4
  have hsv : instTy [.bool] [⟨.bool, true⟩] = some [SV.v (.bool true)] := by
    unfold instTy
    rw [show popD Ty.bool [⟨Ty.bool, true⟩] = some (true, []) from popD_self (t := .bool)]
    rfl
  obtain ⟨cr, h1, h2, h3⟩ := fn_gives hS.G hS.ctr hS.orc hOg hfull (hole_pure tys) hn e2 e3 (fun j hj => hj.elim) hsv
  obtain ⟨v, rfl⟩ := h2 rfl
  obtain ⟨rfl, _⟩ := h3
  subst e1
  have hlt : ltL 0 ys := fun y hy => lt_flat (e5 y hy) 0
  refine (h1.calls ok hlt (WR.emptyG hG rho0)).mono fun e w' hp => ?_
  obtain ⟨rfl, _, hg⟩ := hp
  exact ⟨rfl, hg.below0⟩

theorem trodAll_len {H : Type} {enc : TypeId × Value → H} {P : Program} {w : World} {base : Nat} {sp : Nat → Bool} {held : Bool} : ∀ {ts : List TypeId} {vs : List Value} {ds : List (DataW H)} {ps : List MemPlace}, DataW.TrodAll enc P w base sp held ts vs ds ps → ds.length = ts.length
  | [], [], [], _, _ => rfl
  | [], [], _ :: _, _, h => by simp [DataW.TrodAll] at h
  | [], _ :: _, _, _, h => by simp [DataW.TrodAll] at h
  | _ :: _, [], _, _, h => by simp [DataW.TrodAll] at h
  | _ :: _, _ :: _, [], _, h => by simp [DataW.TrodAll] at h
  | t :: ts, v :: vs, d :: ds, ps, h => by
    obtain ⟨p, q, _, h2, _⟩ := h
    simp [trodAll_len h2]

end Go.Am

/-
  A law's arguments that are slices of numbers, bits, texts, structs and arrays of these.
-/
namespace Go.Am
open Go Go.RowKit Go.ChangeShapes

variable {H : Type} {enc : TypeId × Value → H} {P : Program} {w : World} {base : Nat} {sp : Nat → Bool} {held : Bool} {ρ : Nat → Loc} {c : RC}

theorem cell_add {ad : Addr} (hspot : ad.spot = none) {C : Array Value} {row : TypeId} {z : Nat × Nat} (hC : w.heap[ad.block]? = some (.cells C row z)) (n j : Nat) : w.cell? ((ad.add n).add j) = C[ad.off + n + j]? := by
  obtain ⟨b, o, s⟩ := ad
  simp only at hspot hC
  subst hspot
  have : ((⟨b, o, none⟩ : Addr).add n).add j = ⟨b, o + n + j, none⟩ := by
    unfold Addr.add
    split <;> split <;> simp_all
  rw [this]
  unfold World.cell?
  simp only [hC]
  rfl

theorem open_elems {d fuel : Nat} {e : TypeId} {a : Ty} (ha : lay P d e = some a) (hsz : a.size = P.cellsOf e) {ad : Addr} (hspot : ad.spot = none) {C : Array Value} {row : TypeId} {z : Nat × Nat} (hC : w.heap[ad.block]? = some (.cells C row z)) :
    ∀ (len i0 : Nat), (∀ i, i < len → ∃ x, ((w.cells? base (ad.add ((i0 + i) * P.cellsOf e)) (P.cellsOf e)).bind (DataW.trod enc P w base sp held fuel e)) = some x) →
    ∃ (l : List a.den) (vs : List V), l.length = len ∧ vs.length = len * a.size ∧ (∀ (i : Nat) (x : a.den), l[i]? = some x → ER c a x ((vs.drop (i * a.size)).take a.size)) ∧ (∀ x ∈ l, OkTy a x) ∧ (∀ v ∈ vs, v.one = true ∧ v.flat = true) ∧
      ∀ (j : Nat) (v : V), vs[j]? = some v → C[ad.off + i0 * a.size + j]? = some (v.emb ρ)
  | 0, i0, _ => ⟨[], [], rfl, by simp, (fun i x h => by simp at h), (fun x h => by cases h), (fun v h => by cases h), (fun j v h => by simp at h)⟩
  | len + 1, i0, h => by
    obtain ⟨x, hx⟩ := h 0 (by omega)
    rw [Nat.add_zero, Option.bind_eq_some_iff] at hx
    obtain ⟨cs, h1, h2⟩ := hx
    obtain ⟨x0, us, e1, e2, e3, e4⟩ := open_cells (ρ := ρ) (c := c) d e a fuel cs x ha h2
    obtain ⟨l, vs, f1, f2, f3, f4, f5, f6⟩ := open_elems ha hsz hspot hC len (i0 + 1) fun i hi => by
      have := h (i + 1) (by omega)
      rwa [show i0 + (i + 1) = i0 + 1 + i by omega] at this
    have hlen := e2.length
    refine ⟨x0 :: l, us ++ vs, by simp [f1], by rw [List.length_append, hlen, f2, Nat.add_mul]; omega, fun i y hy => ?_, fun y hy => ?_, fun v hv => ?_, fun j v hv => ?_⟩
    · cases i with
      | zero =>
        simp only [List.getElem?_cons_zero, Option.some.injEq] at hy
        subst hy
        rw [Nat.zero_mul, List.drop_zero, List.take_append_of_le_length (by omega), ← hlen, List.take_length]
        exact e2
      | succ i =>
        have := f3 i y (by simpa using hy)
        rw [show (i + 1) * a.size = us.length + i * a.size by rw [Nat.add_mul, hlen]; omega, ← List.drop_drop, List.drop_left']
        · exact this
        · rfl
    · rcases List.mem_cons.1 hy with rfl | hy
      · exact e3
      · exact f4 y hy
    · rcases List.mem_append.1 hv with hv | hv
      · exact ⟨ER.one a x0 us e2 v hv, e4 v hv⟩
      · exact f5 v hv
    · by_cases hj : j < us.length
      · rw [List.getElem?_append_left hj] at hv
        have := (World.cells?_some h1).2.2 j (by omega)
        rw [cell_add hspot hC, e1, List.getElem?_map, hv] at this
        rw [← hsz] at this
        exact this
      · rw [List.getElem?_append_right (by omega)] at hv
        have := f6 (j - us.length) v hv
        rwa [show ad.off + (i0 + 1) * a.size + (j - us.length) = ad.off + i0 * a.size + j by rw [Nat.add_mul, hlen]; omega] at this

/-- Cells of a type without lists are the same wherever one looks. -/
theorem er_flat {c c' : RC} : ∀ (t : Ty) (x : t.den) (vs : List V), isFlatTy t = true → ER c t x vs → ER c' t x vs
  | .int _, _, _, _, h => h
  | .byte, _, _, _, h => h
  | .bool, _, _, _, h => h
  | .str, _, _, _, h => h
  | .unit, _, _, _, h => h
  | .pair a b, p, vs, hf, h => by
    simp only [isFlatTy, Bool.and_eq_true] at hf
    obtain ⟨c1, c2, e, h1, h2⟩ := h
    exact ⟨c1, c2, e, er_flat a p.1 c1 hf.1 h1, er_flat b p.2 c2 hf.2 h2⟩
  | .list _ _, _, _, hf, _ => by cases hf

/-- What a slice shows, as it lies in memory. -/
def RoObj (w : World) (l : Loc) (o : AObj) : Prop :=
  ∃ cs row C z, o = .cells cs row .ro false ∧ (∀ v ∈ cs, v.one = true ∧ v.flat = true) ∧ w.heap[l.block]? = some (.cells C row z) ∧ ∀ (j : Nat) (v : V) (ρ : Nat → Loc), cs[j]? = some v → C[l.off + j]? = some (v.emb ρ)

/-- The word of an argument's type. -/
def layS (P : Program) (d : Nat) (t : TypeId) : Option Ty := match P.underlying t with
  | some (.slice e) => match lay P d e with
    | some a => if a.size = P.cellsOf e ∧ isFlatTy a = true then some (.list e a) else none
    | none => none
  | _ => match lay P d t with
    | some a => if isFlatTy a = true then some a else none
    | none => none

abbrev roC (Hh : List AObj) : RC := ⟨Hh, fun _ => False, fun _ => none, fun _ => none⟩

theorem open_one {b0 d : Nat} {t : TypeId} {ty : Ty} {v : Value} {D : DataW H} {ps : List MemPlace} (hl : layS P d t = some ty) (hval : Value.okWide P w .any b0 t v) (hd : DataW.Trod enc P w base sp held t v D ps) :
    ∃ (x : ty.den) (os : List (Loc × AObj)), OkTy ty x ∧ (∀ p ∈ os, RoObj w p.1 p.2) ∧ ∀ (k0 : Nat) (ρ : Nat → Loc) (Hh : List AObj), (∀ i p, os[i]? = some p → ρ (k0 + i) = p.1 ∧ Hh[k0 + i]? = some p.2) →
      ∃ y, v = y.emb ρ ∧ VR (roC Hh) (instH ty x) y ∧ y.lt (k0 + os.length) = true := by
  unfold layS at hl
  split at hl
  · rename_i e ht
    split at hl
    · rename_i a ha
      obtain ⟨⟨hsz, hfl⟩, hl⟩ := of_ite2 hl
      cases hl
      obtain ⟨fuel, hf⟩ := hd
      cases fuel with
      | zero => simp [DataW.trod] at hf
      | succ m =>
        unfold DataW.trod at hf
        rw [ht] at hf
        unfold Value.okWide at hval
        rw [ht] at hval
        simp only [Cell.okWide, Cell.ok, ht] at hval
        cases v <;> first | (simp at hval; done) | skip
        rename_i q len cap
        cases q with
        | none =>
          have h0 : len = 0 ∧ cap = 0 := by
            cases len <;> cases cap <;> first | exact ⟨rfl, rfl⟩ | simp at hval
          obtain ⟨rfl, rfl⟩ := h0
          refine ⟨[], [], ⟨Nat.zero_le _, fun x hx => by cases hx⟩, (fun p hp => by cases hp), fun k0 ρ Hh _ => ⟨.nils, rfl, ?_, rfl⟩⟩
          show VR (roC Hh) (.frz e a []) .nils
          exact .inl ⟨rfl, .inl rfl⟩
        | some ad =>
          simp only [World.has] at hval
          obtain ⟨hlc, _, _, hspot, row, cells, hsh, _⟩ := hval
          unfold World.shape? at hsh
          split at hsh
          · rename_i C row' z hC
            have hf' : (if base ≤ ad.block ∧ len ≤ cap ∧ cap ≤ maxLen then _ else none) = some (D, ps) := hf
            obtain ⟨⟨_, _, hcap⟩, hf⟩ := of_ite2 hf'
            rw [Option.bind_eq_some_iff] at hf
            obtain ⟨elems, hel, _⟩ := hf
            obtain ⟨l, vs, f1, f2, f3, f4, f5, f6⟩ := open_elems (ρ := rho0) (c := roC []) ha hsz hspot hC len 0 (fun i hi => by
              rw [Nat.zero_add]
              exact mapM_get hel i i (by simp [hi]))
            refine ⟨l, [(⟨ad.block, ad.off, 0, 0⟩, .cells vs row' .ro false)], ⟨by omega, f4⟩, fun p hp => ?_, fun k0 ρ Hh hm => ?_⟩
            · simp only [List.mem_singleton] at hp
              subst hp
              refine ⟨vs, row', C, z, rfl, f5, hC, fun j u ρ hj => ?_⟩
              have := f6 j u hj
              rw [Nat.zero_mul, Nat.add_zero] at this
              rw [this, emb_flat (f5 u (List.mem_of_getElem? hj)).2 rho0 ρ]
            · obtain ⟨m1, m2⟩ := hm 0 _ rfl
              rw [Nat.add_zero] at m1 m2
              refine ⟨.slice k0 0 len (some cap), ?_, ?_, ?_⟩
              · obtain ⟨b, o, s⟩ := ad
                simp only at hspot
                subst hspot
                simp only [V.emb, m1, Nat.add_zero]
              · show VR (roC Hh) (.frz e a l) _
                by_cases hn : l = []
                · refine .inl ⟨hn, .inr ⟨k0, 0, some cap, ?_⟩⟩
                  rw [hn] at f1
                  rw [← f1]
                  rfl
                · refine .inr ⟨hn, k0, 0, some cap, by rw [f1], ⟨fun h => h, vs, row', .ro, false, m2, by rw [f1, f2]; omega, fun i x hx => ?_⟩, (fun h => by cases h), fun n hn => ?_⟩
                  · rw [Nat.zero_add]
                    exact er_flat a x _ hfl (f3 i x hx)
                  · cases hn
                    omega
              · simp only [V.lt, V.all, decide_eq_true_eq, List.length_singleton]
                omega
          · cases hsh
    · cases hl
  · split at hl
    · rename_i a ha
      obtain ⟨hfl, hl⟩ := of_ite2 hl
      cases hl
      obtain ⟨x, y, e1, e2, e3, e4⟩ := open_arg (ρ := rho0) (c := roC []) ha hval hd
      refine ⟨x, [], e3, (fun p hp => by cases hp), fun k0 ρ Hh _ => ⟨y, by rw [e1, emb_flat e4 rho0 ρ], ?_, lt_flat e4 _⟩⟩
      obtain ⟨cs, g1, g2, g3⟩ := instH_er.1 e2
      exact instH_er.2 ⟨cs, er_flat _ x cs hfl g1, g2, g3⟩
    · cases hl

def laySAll (P : Program) (d : Nat) : List TypeId → Option (List Ty)
  | [] => some []
  | t :: r => match layS P d t, laySAll P d r with
    | some a, some b => some (a :: b)
    | _, _ => none

theorem open_all {d b0 : Nat} : ∀ (ts : List TypeId) (tys : List Ty) (vs : List Value) (Ds : List (DataW H)) (ps : List MemPlace), laySAll P d ts = some tys → DataW.TrodAll enc P w base sp held ts vs Ds ps →
    (∀ (j : Nat) t v, ts[j]? = some t → vs[j]? = some v → Value.okWide P w .any b0 t v) →
    ∃ (ds : List Dy) (os : List (Loc × AObj)), OkDs tys ds ∧ (∀ p ∈ os, RoObj w p.1 p.2) ∧ ∀ (k0 : Nat) (ρ : Nat → Loc) (Hh : List AObj), (∀ i p, os[i]? = some p → ρ (k0 + i) = p.1 ∧ Hh[k0 + i]? = some p.2) →
      ∃ (ys : List V) (as : List SV), vs = ys.map (V.emb ρ) ∧ instPL [] (tys.map .hole) ds = some (as, []) ∧ VRL (roC Hh) as ys ∧ ∀ y ∈ ys, y.lt (k0 + os.length) = true
  | [], tys, [], [], ps, hl, _, _ => by
    simp only [laySAll, Option.some.injEq] at hl
    subst hl
    exact ⟨[], [], rfl, (fun p hp => by cases hp), fun k0 ρ Hh _ => ⟨[], [], rfl, rfl, rfl, fun y hy => by cases hy⟩⟩
  | [], tys, [], _ :: _, ps, hl, h, _ => by simp [DataW.TrodAll] at h
  | [], tys, _ :: _, _, ps, hl, h, _ => by simp [DataW.TrodAll] at h
  | _ :: _, tys, [], _, ps, hl, h, _ => by simp [DataW.TrodAll] at h
  | _ :: _, tys, _ :: _, [], ps, hl, h, _ => by simp [DataW.TrodAll] at h
  | t :: ts, tys, v :: vs, D :: Ds, ps, hl, h, hval => by
    simp only [laySAll] at hl
    split at hl
    · rename_i a b ha hb
      cases hl
      obtain ⟨p, q, h1, h2, _⟩ := h
      obtain ⟨x, os, e1, e2, e3⟩ := open_one ha (hval 0 t v rfl rfl) h1
      obtain ⟨ds, os', f1, f2, f3⟩ := open_all ts b vs Ds q hb h2 fun j t v ht hv => hval (j + 1) t v (by simpa using ht) (by simpa using hv)
      refine ⟨⟨a, x⟩ :: ds, os ++ os', ⟨x, ds, rfl, e1, f1⟩, fun p hp => ?_, fun k0 ρ Hh hm => ?_⟩
      · rcases List.mem_append.1 hp with hp | hp
        · exact e2 p hp
        · exact f2 p hp
      · obtain ⟨y, g1, g2, g3⟩ := e3 k0 ρ Hh fun i p hi => hm i p (by rw [List.getElem?_append_left (List.getElem?_eq_some_iff.1 hi).1]; exact hi)
        obtain ⟨ys, as, g4, g5, g6, g7⟩ := f3 (k0 + os.length) ρ Hh fun i p hi => by
          have := hm (os.length + i) p (by rw [List.getElem?_append_right (by omega), Nat.add_sub_cancel_left]; exact hi)
          rwa [← Nat.add_assoc] at this
        refine ⟨y :: ys, instH a x :: as, by rw [g1, g4]; rfl, ?_, ⟨y, ys, rfl, g2, g6⟩, fun z hz => ?_⟩
        · simp only [List.map_cons, instPL, instP, popD_self, g5]
        · rw [List.length_append]
          rcases List.mem_cons.1 hz with rfl | hz
          · exact lt_mono (by omega) g3
          · have := g7 z hz
            rwa [Nat.add_assoc] at this
    · cases hl

theorem ro_own {Hh : List AObj} (h : ∀ o ∈ Hh, o.own = false) (ρ : Nat → Loc) (b : Nat) : ¬ Owned Hh ρ b := by
  rintro ⟨k, o, h1, h2, _⟩
  rw [h o (List.mem_of_getElem? h1)] at h2
  cases h2

/-- A law of such arguments. -/
theorem law_slices {S : SE} (hS : SOkE S) (ok : S.E.Ok) {g : FuncId} (hOg : ∀ vs, S.E.orc g vs = none) (hfull : S.E.full g = false) {H : Type} {enc : TypeId × Value → H} {w : World} (hG : Globs S.E w) {ts : List TypeId} {tys : List Ty} {d b0 : Nat} (hl : laySAll S.E.P d ts = some tys)
    (h : ∀ ds, OkDs tys ds → ∃ n, fnY S loopY (tys.map .hole) [.bool] n g ds = some [⟨.bool, true⟩]) {vs : List Value} {Ds : List (DataW H)} {ps : List MemPlace} (ht : DataW.TrodAll enc S.E.P w 0 (fun _ => true) true ts vs Ds ps)
    (hval : ∀ (j : Nat) t v, ts[j]? = some t → vs[j]? = some v → Value.okWide S.E.P w .any b0 t v) :
    Calls S.E.P g vs.toArray w fun e w' => e = .returned (.bool true) ∧ Below w.heap.size w w' := by
  obtain ⟨ds, os, e1, e2, e3⟩ := open_all ts tys vs Ds ps hl ht hval
  have hρ : ∀ i p, os[i]? = some p → (fun k => ((os[k]?).map (·.1)).getD ⟨0, 0, 0, 0⟩) (0 + i) = p.1 ∧ (os.map (·.2))[0 + i]? = some p.2 := fun i p hi => by
    simp [hi]
  obtain ⟨ys, as, f1, f2, f3, f4⟩ := e3 0 (fun k => ((os[k]?).map (·.1)).getD ⟨0, 0, 0, 0⟩) (os.map (·.2)) hρ
  generalize hr : (fun k => ((os[k]?).map (·.1)).getD ⟨0, 0, 0, 0⟩ : Nat → Loc) = ρ at f1 hρ
  obtain ⟨n, hn⟩ := h ds e1
  have hsv : instTy [.bool] [⟨.bool, true⟩] = some [SV.v (.bool true)] := by
    unfold instTy
    rw [show popD Ty.bool [⟨Ty.bool, true⟩] = some (true, []) from popD_self (t := .bool)]
    rfl
  obtain ⟨cr, h1, h2, h3⟩ := fn_gives hS.G hS.ctr hS.orc hOg hfull (hole_pure tys) hn f2 f3 (fun j hj => hj.elim) hsv
  obtain ⟨v, rfl⟩ := h2 rfl
  obtain ⟨rfl, _⟩ := h3
  subst f1
  have ro : ∀ (k : Nat) (o : AObj), (os.map (·.2))[k]? = some o → RoObj w (ρ k) o := fun k o hk => by
    simp only [List.getElem?_map, Option.map_eq_some_iff] at hk
    obtain ⟨p, hp, rfl⟩ := hk
    have := (hρ k p hp).1
    rw [Nat.zero_add] at this
    rw [this]
    exact e2 p (List.mem_of_getElem? hp)
  have own : ∀ o ∈ os.map (·.2), o.own = false := fun o ho => by
    obtain ⟨k, hk⟩ := List.getElem?_of_mem ho
    obtain ⟨cs, row, C, z, rfl, _⟩ := ro k o hk
    rfl
  have hw : WR S.E w.heap.size ρ (os.map (·.2)) w := by
    refine ⟨Nat.le_refl _, fun k o hk => ?_, fun k o hk => ?_, fun k k' o o' hk _ ho _ _ => ?_, fun g cs hg => ?_⟩
    · obtain ⟨cs, row, C, z, rfl, g1, _⟩ := ro k o hk
      exact fun u hu => lt_flat (g1 u hu).2 _
    · obtain ⟨cs, row, C, z, rfl, g1, g2, g3⟩ := ro k o hk
      exact ⟨fun u hu => (g1 u hu).1, C, z, g2, fun i u hi => g3 i u ρ hi, (Array.getElem?_eq_some_iff.1 g2).1⟩
    · rw [own o (List.mem_of_getElem? hk)] at ho
      cases ho
    · obtain ⟨g1, g2, C, e, z, g3, g4⟩ := hG g cs hg
      exact ⟨g1, g2, C, e, z, g3, fun i u hi => g4 i u ρ hi⟩
  have hlt : ltL (os.map (·.2)).length ys := fun y hy => by
    have := f4 y hy
    rwa [Nat.zero_add, ← List.length_map (f := (·.2))] at this
  refine (h1.calls ok hlt hw).mono fun e w' hp => ?_
  obtain ⟨rfl, _, hg⟩ := hp
  exact ⟨rfl, hg.os, hg.tape, hg.output, hg.size, fun b hb => hg.same b hb (ro_own own ρ b)⟩
end Go.Am
