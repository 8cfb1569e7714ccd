/-
  Symbolic walks: the operations that look at memory or turn it.
-/
import Derived.Test.YtigfncnlhccaeaaAmSep
import Derived.IntWalk
namespace Go.Am
open Go

variable {C : Cx} {σ σ' : Tmps} {η η' : Blks} {W W' : List Nat} {ks : List K} {Q : X → St → Prop} {all r : List Oper} {o : Oper} {v : V} {d i j k off : Nat} {H : Hp} {H0 : List AObj}

theorem HFits.at (h : HFits H0 W η H) {l : Bool} {b : AObj} (hi : η[i]? = some (l, k, b)) : H.objs[k]? = some b := h.has _ (List.mem_of_getElem? hi)

/-- The cells that a load reads. -/
def loadC (P : Program) (t : TypeId) (cs : List V) (o : Nat) : Option V :=
  match isAggT P t, sizeT P t with
  | some true, some n => if o + n ≤ cs.length then some (.agg ((cs.drop o).take n)) else none
  | some false, _ => cs[o]?
  | _, _ => none

theorem run_load {dst : Option Tmp} {t : TypeId} {a : Operand} {ty : TypeId} {pos : String} {after : Array Edge} {guard : Option (Nat × Bool)} {l fz : Bool} {cs : List V} {e : TypeId} {m : Mode} (i : Nat)
    (ha : evS σ a = some (.ptr k off)) (hi : η[i]? = some (l, k, .cells cs e m fz)) (hv : loadC C.E.P t cs off = some v) :
    ∀ H, HFits C.H0 W η H → opS C.E (evS σ) ⟨dst, .load t a, ty, pos, after, guard⟩ H = some (.val v, H) := fun H hh => by
  simp only [opS, ha, loadV, cellsOf, hh.at hi]
  unfold loadC at hv
  split at hv
  · rename_i h1 h2
    simp only [h1, h2, hv, okO, Option.map_some]
  · rename_i h1
    simp only [h1, hv, okO, Option.map_some]
  · cases hv

theorem RunO.load {dst : Option Tmp} {t : TypeId} {a : Operand} {ty : TypeId} {pos : String} {after : Array Edge} {guard : Option (Nat × Bool)} {l fz : Bool} {cs : List V} {e : TypeId} {m : Mode} (i : Nat)
    (hw : wantedS σ all ⟨dst, .load t a, ty, pos, after, guard⟩ = some true) (ha : evS σ a = some (.ptr k off)) (hi : η[i]? = some (l, k, .cells cs e m fz)) (hv : loadC C.E.P t cs off = some v) (hd : dst = some d) (hn : Nat.blt d C.n = true)
    (next : RunO C all r ⟨(d, v) :: σ, η, W⟩ ks Q) : RunO C all (⟨dst, .load t a, ty, pos, after, guard⟩ :: r) ⟨σ, η, W⟩ ks Q :=
  RunO.look hw (run_load i ha hi hv) hd hn next

theorem RunQ.load {dst : Option Tmp} {t : TypeId} {a : Operand} {ty : TypeId} {pos : String} {after : Array Edge} {guard : Option (Nat × Bool)} {l fz : Bool} {cs : List V} {e : TypeId} {m : Mode} (i : Nat)
    (hw : wantedS σ all ⟨dst, .load t a, ty, pos, after, guard⟩ = some true) (ha : evS σ a = some (.ptr k off)) (hi : η[i]? = some (l, k, .cells cs e m fz)) (hv : loadC C.E.P t cs off = some v) (hd : dst = some d) (hn : Nat.blt d C.n = true)
    (next : RunQ C all r ⟨(d, v) :: σ, η, W⟩ ks Q) : RunQ C all (⟨dst, .load t a, ty, pos, after, guard⟩ :: r) ⟨σ, η, W⟩ ks Q :=
  RunQ.look hw rfl (run_load i ha hi hv) hd hn next

/-- A new block. -/
theorem HFits.new (h : HFits H0 W η H) (b : AObj) : HFits H0 W ((true, H.size, b) :: η) (H.new b) where
  len := by simp only [Hp.new, List.length_append]; have := h.len; omega
  nodup := by
    simp only [keysB, List.map_cons, List.nodup_cons]
    refine ⟨fun hm => ?_, h.nodup⟩
    obtain ⟨x, hx, he⟩ := List.mem_map.mp hm
    have := h.has x hx
    rw [he] at this
    simp [Hp.size] at this
  has x hx := by
    rcases List.mem_cons.mp hx with rfl | hx
    · simp [Hp.new, Hp.size]
    · have := h.has x hx
      simp only [Hp.new]
      rw [List.getElem?_append_left]
      · exact this
      · exact (List.getElem?_eq_some_iff.mp this).1
  own x hx e := by
    rcases List.mem_cons.mp hx with rfl | hx
    · exact h.len
    · exact h.own x hx e
  same k hk hw := by
    have hl := h.len
    simp only [Hp.new]
    rw [List.getElem?_append_left (by omega)]
    exact h.same k hk hw
  wr := h.wr

def wrote (W : List Nat) (l : Bool) (k : Nat) : List Nat := if l then W else k :: W

def updB : Blks → Nat → AObj → Blks
  | [], _, _ => []
  | x :: r, 0, b => (x.1, x.2.1, b) :: r
  | x :: r, i + 1, b => x :: updB r i b

theorem get_updB : ∀ (η : Blks) (i j : Nat) (b : AObj), (updB η i b)[j]? = if i = j then (η[j]?).map (fun x => (x.1, x.2.1, b)) else η[j]?
  | [], i, j, b => by simp [updB]
  | x :: r, 0, 0, b => by simp [updB]
  | x :: r, 0, j + 1, b => by simp [updB]
  | x :: r, i + 1, 0, b => by simp [updB]
  | x :: r, i + 1, j + 1, b => by simp [updB, get_updB r i j b]

theorem keys_upd : ∀ (η : Blks) (i : Nat) (b : AObj), keysB (updB η i b) = keysB η
  | [], _, _ => rfl
  | x :: r, 0, b => rfl
  | x :: r, i + 1, b => by
    have := keys_upd r i b
    simp only [keysB, updB, List.map_cons] at this ⊢
    rw [this]

/-- A block that is turned. -/
theorem HFits.write (h : HFits H0 W η H) {l : Bool} {b : AObj} (hi : η[i]? = some (l, k, b)) (b' : AObj) (flat : Bool) : HFits H0 (wrote W l k) (updB η i b') (H.write k b' flat) where
  len := by simp only [Hp.write, List.length_set]; exact h.len
  nodup := by rw [keys_upd]; exact h.nodup
  has x hx := by
    obtain ⟨j, hj⟩ := List.mem_iff_getElem?.mp hx
    rw [get_updB] at hj
    simp only [Hp.write, List.getElem?_set]
    by_cases e : i = j
    · subst e
      rw [if_pos rfl, hi, Option.map_some, Option.some.injEq] at hj
      subst hj
      have := h.at hi
      rw [if_pos rfl, if_pos (List.getElem?_eq_some_iff.mp this).1]
    · rw [if_neg e] at hj
      have hne : k ≠ x.2.1 := by
        intro he
        have h1 : (keysB η)[i]? = some k := by simp [keysB, hi]
        have h2 : (keysB η)[j]? = some k := by simp [keysB, hj, he]
        have hlt : i < (keysB η).length := (List.getElem?_eq_some_iff.mp h1).1
        exact e ((List.getElem?_inj hlt h.nodup).mp (h1.trans h2.symm))
      rw [if_neg hne]
      exact h.has x (List.mem_of_getElem? hj)
  own x hx e := by
    obtain ⟨j, hj⟩ := List.mem_iff_getElem?.mp hx
    rw [get_updB] at hj
    split at hj
    · obtain ⟨y, hy, rfl⟩ := Option.map_eq_some_iff.mp hj
      exact h.own y (List.mem_of_getElem? hy) e
    · exact h.own x (List.mem_of_getElem? hj) e
  same k' hk hw := by
    simp only [Hp.write, List.getElem?_set]
    have hne : k ≠ k' := by
      intro he
      subst he
      unfold wrote at hw
      cases l with
      | true => have := h.own _ (List.mem_of_getElem? hi) rfl; simp at this; omega
      | false => simp at hw
    rw [if_neg hne]
    refine h.same k' hk fun hm => hw ?_
    unfold wrote
    split
    · exact hm
    · exact List.mem_cons_of_mem _ hm
  wr he := by
    unfold wrote at he
    cases l with
    | true =>
      simp only [if_true] at he
      have := h.own _ (List.mem_of_getElem? hi) rfl
      have := h.wr he
      simp only [Hp.write]
      simp at *
      omega
    | false => simp at he

theorem RunO.alloc {dst : Option Tmp} {t : TypeId} {ty : TypeId} {pos : String} {after : Array Edge} {guard : Option (Nat × Bool)} {z : V}
    (hw : wantedS σ all ⟨dst, .alloc t, ty, pos, after, guard⟩ = some true) (hz : zeroT C.E.P t = some z) {cs : List V} (hcs : z.cells = cs) (h1 : cs.all V.one = true) (hd : dst = some d) (hn : Nat.blt d C.n = true)
    (next : ∀ k, RunO C all r ⟨(d, .ptr k 0) :: σ, (true, k, .cells cs t .rw false) :: η, W⟩ ks Q) : RunO C all (⟨dst, .alloc t, ty, pos, after, guard⟩ :: r) ⟨σ, η, W⟩ ks Q :=
  RunO.make (T := Nat) (fun k => (true, k, .cells cs t .rw false) :: η) (fun k => .ptr k 0) hw (fun H hh => ⟨_, H.size, by simp only [opS, hz, hcs, newCells, h1, if_true, Option.map_some], hh.new _⟩) hd hn next

theorem RunO.box {dst : Option Tmp} {t : TypeId} {a : Operand} {ty : TypeId} {pos : String} {after : Array Edge} {guard : Option (Nat × Bool)}
    (hw : wantedS σ all ⟨dst, .box t a, ty, pos, after, guard⟩ = some true) (ha : evS σ a = some v) {cs : List V} (hcs : v.cells = cs) (h1 : cs.all V.one = true) (hd : dst = some d) (hn : Nat.blt d C.n = true)
    (next : ∀ k, RunO C all r ⟨(d, .ptr k 0) :: σ, (true, k, .cells cs t .rw false) :: η, W⟩ ks Q) : RunO C all (⟨dst, .box t a, ty, pos, after, guard⟩ :: r) ⟨σ, η, W⟩ ks Q :=
  RunO.make (T := Nat) (fun k => (true, k, .cells cs t .rw false) :: η) (fun k => .ptr k 0) hw (fun H hh => ⟨_, H.size, by simp only [opS, ha, hcs, newCells, h1, if_true, Option.map_some], hh.new _⟩) hd hn next

/-- A store into a known block. -/
theorem RunO.store {t : TypeId} {a x : Operand} {ty : TypeId} {pos : String} {after : Array Edge} {guard : Option (Nat × Bool)} {l : Bool} {cs cs' vs : List V} {e : TypeId} {m : Mode} (i : Nat)
    (hw : wantedS σ all ⟨none, .store t a x, ty, pos, after, guard⟩ = some true) (ha : evS σ a = some (.ptr k off)) (hx : evS σ x = some v) (hi : η[i]? = some (l, k, .cells cs e m false)) (hvs : v.cells = vs)
    (hs : sizeT C.E.P t = some vs.length) (hm : m ≠ .ro) (hr : off + vs.length ≤ cs.length) (h1 : vs.all V.one = true) (hcs : cs.take off ++ vs ++ cs.drop (off + vs.length) = cs')
    (next : RunO C all r ⟨σ, updB η i (.cells cs' e m false), wrote W l k⟩ ks Q) : RunO C all (⟨none, .store t a x, ty, pos, after, guard⟩ :: r) ⟨σ, η, W⟩ ks Q := by
  subst hvs
  exact RunO.turn hw (fun H hh => ⟨_, by simp only [opS, ha, hx, storeV, hs, if_true, putCells, hh.at hi, hm, hr, h1, ne_eq, not_false_eq_true, and_self, Option.map_some, hcs], hh.write hi _ (v.cells.all V.flat)⟩) rfl next

theorem RunO.buildSlice {dst : Option Tmp} {t : TypeId} {len : Nat} {parts : Array (Nat × Operand)} {ty : TypeId} {pos : String} {after : Array Edge} {guard : Option (Nat × Bool)} {ps : List (Nat × V)} {e : TypeId} {n : Nat} {z : V} {cs : List V}
    (hw : wantedS σ all ⟨dst, .buildSlice t len parts, ty, pos, after, guard⟩ = some true) (hp : evPartsS (evS σ) parts.toList = some ps) (ht : C.E.P.underlying t = some (.slice e)) (hs : sizeT C.E.P e = some n) (hz : zeroT C.E.P e = some z)
    (hl : len * n ≤ 16777216 ∧ z.cells.length = n) (hf : fillV (fun i => some (i * n, n)) (zeros z.cells len) ps = some cs) (h1 : cs.all V.one = true) (hd : dst = some d) (hn : Nat.blt d C.n = true)
    (next : ∀ k, RunO C all r ⟨(d, .slice k 0 len (some len)) :: σ, (true, k, .cells cs e .rw false) :: η, W⟩ ks Q) : RunO C all (⟨dst, .buildSlice t len parts, ty, pos, after, guard⟩ :: r) ⟨σ, η, W⟩ ks Q :=
  RunO.make (T := Nat) (fun k => (true, k, .cells cs e .rw false) :: η) (fun k => .slice k 0 len (some len)) hw (fun H hh => ⟨_, H.size, by simp only [opS, hp, ht, hs, hz, if_pos hl, hf, newCells, h1, if_true, Option.map_some], hh.new _⟩) hd hn next

/-- An element's address, of a slice. -/
theorem RunO.indexAddr {dst : Option Tmp} {t : TypeId} {x y : Operand} {ty : TypeId} {pos : String} {after : Array Edge} {guard : Option (Nat × Bool)} {e : TypeId} {n len : Nat} {cp : Option Nat} {kk : IntKind} {q : Int} {off' : Nat}
    (hw : wantedS σ all ⟨dst, .indexAddr t x y, ty, pos, after, guard⟩ = some true) (hx : evS σ x = some (.slice k off len cp)) (hy : evS σ y = some (.int kk q)) (ht : C.E.P.underlying t = some (.slice e)) (hs : sizeT C.E.P e = some n)
    (h0 : 0 ≤ q ∧ q < (len : Int)) (ho : off + q.toNat * n = off') (hd : dst = some d) (hn : Nat.blt d C.n = true)
    (next : RunO C all r ⟨(d, .ptr k off') :: σ, η, W⟩ ks Q) : RunO C all (⟨dst, .indexAddr t x y, ty, pos, after, guard⟩ :: r) ⟨σ, η, W⟩ ks Q :=
  RunO.val hw (fun H => by simp only [opS, hx, hy, indexAddrV, ht, hs, if_pos h0, ho, okO, Option.map_some]) hd hn next

theorem RunQ.indexAddr {dst : Option Tmp} {t : TypeId} {x y : Operand} {ty : TypeId} {pos : String} {after : Array Edge} {guard : Option (Nat × Bool)} {e : TypeId} {n len : Nat} {cp : Option Nat} {kk : IntKind} {q : Int} {off' : Nat}
    (hw : wantedS σ all ⟨dst, .indexAddr t x y, ty, pos, after, guard⟩ = some true) (hx : evS σ x = some (.slice k off len cp)) (hy : evS σ y = some (.int kk q)) (ht : C.E.P.underlying t = some (.slice e)) (hs : sizeT C.E.P e = some n)
    (h0 : 0 ≤ q ∧ q < (len : Int)) (ho : off + q.toNat * n = off') (hd : dst = some d) (hn : Nat.blt d C.n = true)
    (next : RunQ C all r ⟨(d, .ptr k off') :: σ, η, W⟩ ks Q) : RunQ C all (⟨dst, .indexAddr t x y, ty, pos, after, guard⟩ :: r) ⟨σ, η, W⟩ ks Q :=
  RunQ.val hw rfl (fun H => by simp only [opS, hx, hy, indexAddrV, ht, hs, if_pos h0, ho, okO, Option.map_some]) hd hn next

/-- Arithmetic, with its value said. -/
theorem RunO.bin {dst : Option Tmp} {op : BinOp} {t : TypeId} {x y : Operand} {t' ty : TypeId} {pos : String} {after : Array Edge} {guard : Option (Nat × Bool)} {kk : IntKind} {p z : Int} {v' : V}
    (hw : wantedS σ all ⟨dst, .binOp op t x y t', ty, pos, after, guard⟩ = some true) (hx : evS σ x = some v) (hy : evS σ y = some v') (hz : ∀ xc yc, binV C.E.P op t xc yc v v' = some (.int kk z)) (he : z = p) (hd : dst = some d) (hn : Nat.blt d C.n = true)
    (next : RunO C all r ⟨(d, .int kk p) :: σ, η, W⟩ ks Q) : RunO C all (⟨dst, .binOp op t x y t', ty, pos, after, guard⟩ :: r) ⟨σ, η, W⟩ ks Q := by
  subst he
  exact RunO.val hw (fun H => by simp only [opS, hx, hy, hz, okO, Option.map_some]) hd hn next

theorem RunO.conv {dst : Option Tmp} {t t' : TypeId} {x : Operand} {ty : TypeId} {pos : String} {after : Array Edge} {guard : Option (Nat × Bool)} {kk kk' : IntKind} {p q : Int} {D : TypeDesc}
    (hw : wantedS σ all ⟨dst, .convert t t' x, ty, pos, after, guard⟩ = some true) (hx : evS σ x = some (.int kk q)) (ht : C.E.P.underlying t = some D) (ht' : C.E.P.underlying t' = some (.int kk')) (he : kk'.wrap q = p) (hd : dst = some d) (hn : Nat.blt d C.n = true)
    (next : RunO C all r ⟨(d, .int kk' p) :: σ, η, W⟩ ks Q) : RunO C all (⟨dst, .convert t t' x, ty, pos, after, guard⟩ :: r) ⟨σ, η, W⟩ ks Q := by
  subst he
  exact RunO.val hw (fun H => by simp only [opS, hx, convV, ht, ht', ok]) hd hn next

theorem RunQ.bin {dst : Option Tmp} {op : BinOp} {t : TypeId} {x y : Operand} {t' ty : TypeId} {pos : String} {after : Array Edge} {guard : Option (Nat × Bool)} {kk : IntKind} {p z : Int} {v' : V}
    (hw : wantedS σ all ⟨dst, .binOp op t x y t', ty, pos, after, guard⟩ = some true) (hx : evS σ x = some v) (hy : evS σ y = some v') (hz : ∀ xc yc, binV C.E.P op t xc yc v v' = some (.int kk z)) (he : z = p) (hd : dst = some d) (hn : Nat.blt d C.n = true)
    (next : RunQ C all r ⟨(d, .int kk p) :: σ, η, W⟩ ks Q) : RunQ C all (⟨dst, .binOp op t x y t', ty, pos, after, guard⟩ :: r) ⟨σ, η, W⟩ ks Q := by
  subst he
  exact RunQ.val hw rfl (fun H => by simp only [opS, hx, hy, hz, okO, Option.map_some]) hd hn next

theorem RunQ.conv {dst : Option Tmp} {t t' : TypeId} {x : Operand} {ty : TypeId} {pos : String} {after : Array Edge} {guard : Option (Nat × Bool)} {kk kk' : IntKind} {p q : Int} {D : TypeDesc}
    (hw : wantedS σ all ⟨dst, .convert t t' x, ty, pos, after, guard⟩ = some true) (hx : evS σ x = some (.int kk q)) (ht : C.E.P.underlying t = some D) (ht' : C.E.P.underlying t' = some (.int kk')) (he : kk'.wrap q = p) (hd : dst = some d) (hn : Nat.blt d C.n = true)
    (next : RunQ C all r ⟨(d, .int kk' p) :: σ, η, W⟩ ks Q) : RunQ C all (⟨dst, .convert t t' x, ty, pos, after, guard⟩ :: r) ⟨σ, η, W⟩ ks Q := by
  subst he
  exact RunQ.val hw rfl (fun H => by simp only [opS, hx, convV, ht, ht', ok]) hd hn next

/-- An operation on temporaries, its value said in other words. -/
theorem RunO.valE {v' : V} (hw : wantedS σ all o = some true) (h : ∀ H, opS C.E (evS σ) o H = some (.val v, H)) (he : v = v') (hd : o.dst = some d) (hn : Nat.blt d C.n = true)
    (next : RunO C all r ⟨(d, v') :: σ, η, W⟩ ks Q) : RunO C all (o :: r) ⟨σ, η, W⟩ ks Q := by
  subst he
  exact RunO.val hw h hd hn next

/-- A test: one walk for each answer. -/
theorem RunO.cmp {dst : Option Tmp} {op : BinOp} {t0 : TypeId} {x0 y0 : Operand} {t' ty : TypeId} {pos : String} {after : Array Edge} {guard : Option (Nat × Bool)} {p : Prop} [Decidable p] (hw : wantedS σ all ⟨dst, .binOp op t0 x0 y0 t', ty, pos, after, guard⟩ = some true) (h : ∀ H, opS C.E (evS σ) ⟨dst, .binOp op t0 x0 y0 t', ty, pos, after, guard⟩ H = some (.val (.bool (decide p)), H)) (hd : dst = some d) (hn : Nat.blt d C.n = true)
    (h1 : p → RunO C all r ⟨(d, .bool true) :: σ, η, W⟩ ks Q) (h2 : ¬ p → RunO C all r ⟨(d, .bool false) :: σ, η, W⟩ ks Q) : RunO C all (⟨dst, .binOp op t0 x0 y0 t', ty, pos, after, guard⟩ :: r) ⟨σ, η, W⟩ ks Q := by
  by_cases hp : p
  · exact RunO.valE hw h (by rw [decide_eq_true hp]) hd hn (h1 hp)
  · exact RunO.valE hw h (by rw [decide_eq_false hp]) hd hn (h2 hp)

theorem RunO.cmpT {dst : Option Tmp} {op : BinOp} {t0 : TypeId} {x0 y0 : Operand} {t' ty : TypeId} {pos : String} {after : Array Edge} {guard : Option (Nat × Bool)} {p : Prop} [Decidable p] (hw : wantedS σ all ⟨dst, .binOp op t0 x0 y0 t', ty, pos, after, guard⟩ = some true) (h : ∀ H, opS C.E (evS σ) ⟨dst, .binOp op t0 x0 y0 t', ty, pos, after, guard⟩ H = some (.val (.bool (decide p)), H)) (hd : dst = some d) (hn : Nat.blt d C.n = true) (hp : p)
    (h1 : RunO C all r ⟨(d, .bool true) :: σ, η, W⟩ ks Q) : RunO C all (⟨dst, .binOp op t0 x0 y0 t', ty, pos, after, guard⟩ :: r) ⟨σ, η, W⟩ ks Q :=
  RunO.valE hw h (by rw [decide_eq_true hp]) hd hn h1

theorem RunO.cmpF {dst : Option Tmp} {op : BinOp} {t0 : TypeId} {x0 y0 : Operand} {t' ty : TypeId} {pos : String} {after : Array Edge} {guard : Option (Nat × Bool)} {p : Prop} [Decidable p] (hw : wantedS σ all ⟨dst, .binOp op t0 x0 y0 t', ty, pos, after, guard⟩ = some true) (h : ∀ H, opS C.E (evS σ) ⟨dst, .binOp op t0 x0 y0 t', ty, pos, after, guard⟩ H = some (.val (.bool (decide p)), H)) (hd : dst = some d) (hn : Nat.blt d C.n = true) (hp : ¬ p)
    (h1 : RunO C all r ⟨(d, .bool false) :: σ, η, W⟩ ks Q) : RunO C all (⟨dst, .binOp op t0 x0 y0 t', ty, pos, after, guard⟩ :: r) ⟨σ, η, W⟩ ks Q :=
  RunO.valE hw h (by rw [decide_eq_false hp]) hd hn h1

theorem RunO.cmpB {t : Bool} (hw : wantedS σ all o = some true) (h : ∀ H, opS C.E (evS σ) o H = some (.val (.bool t), H)) (hd : o.dst = some d) (hn : Nat.blt d C.n = true)
    (h1 : t = true → RunO C all r ⟨(d, .bool true) :: σ, η, W⟩ ks Q) (h2 : t = false → RunO C all r ⟨(d, .bool false) :: σ, η, W⟩ ks Q) : RunO C all (o :: r) ⟨σ, η, W⟩ ks Q := by
  cases t with
  | true => exact RunO.val hw h hd hn (h1 rfl)
  | false => exact RunO.val hw h hd hn (h2 rfl)

theorem RunQ.valE {v' : V} (hw : wantedS σ all o = some true) (hq : quietOp o.op = true) (h : ∀ H, opS C.E (evS σ) o H = some (.val v, H)) (he : v = v') (hd : o.dst = some d) (hn : Nat.blt d C.n = true)
    (next : RunQ C all r ⟨(d, v') :: σ, η, W⟩ ks Q) : RunQ C all (o :: r) ⟨σ, η, W⟩ ks Q := by
  subst he
  exact RunQ.val hw hq h hd hn next

theorem RunQ.cmp {dst : Option Tmp} {op : BinOp} {t0 : TypeId} {x0 y0 : Operand} {t' ty : TypeId} {pos : String} {after : Array Edge} {guard : Option (Nat × Bool)} {p : Prop} [Decidable p] (hw : wantedS σ all ⟨dst, .binOp op t0 x0 y0 t', ty, pos, after, guard⟩ = some true) (h : ∀ H, opS C.E (evS σ) ⟨dst, .binOp op t0 x0 y0 t', ty, pos, after, guard⟩ H = some (.val (.bool (decide p)), H)) (hd : dst = some d) (hn : Nat.blt d C.n = true)
    (h1 : p → RunQ C all r ⟨(d, .bool true) :: σ, η, W⟩ ks Q) (h2 : ¬ p → RunQ C all r ⟨(d, .bool false) :: σ, η, W⟩ ks Q) : RunQ C all (⟨dst, .binOp op t0 x0 y0 t', ty, pos, after, guard⟩ :: r) ⟨σ, η, W⟩ ks Q := by
  by_cases hp : p
  · exact RunQ.valE hw rfl h (by rw [decide_eq_true hp]) hd hn (h1 hp)
  · exact RunQ.valE hw rfl h (by rw [decide_eq_false hp]) hd hn (h2 hp)

theorem RunQ.cmpT {dst : Option Tmp} {op : BinOp} {t0 : TypeId} {x0 y0 : Operand} {t' ty : TypeId} {pos : String} {after : Array Edge} {guard : Option (Nat × Bool)} {p : Prop} [Decidable p] (hw : wantedS σ all ⟨dst, .binOp op t0 x0 y0 t', ty, pos, after, guard⟩ = some true) (h : ∀ H, opS C.E (evS σ) ⟨dst, .binOp op t0 x0 y0 t', ty, pos, after, guard⟩ H = some (.val (.bool (decide p)), H)) (hd : dst = some d) (hn : Nat.blt d C.n = true) (hp : p)
    (h1 : RunQ C all r ⟨(d, .bool true) :: σ, η, W⟩ ks Q) : RunQ C all (⟨dst, .binOp op t0 x0 y0 t', ty, pos, after, guard⟩ :: r) ⟨σ, η, W⟩ ks Q :=
  RunQ.valE hw rfl h (by rw [decide_eq_true hp]) hd hn h1

theorem RunQ.cmpF {dst : Option Tmp} {op : BinOp} {t0 : TypeId} {x0 y0 : Operand} {t' ty : TypeId} {pos : String} {after : Array Edge} {guard : Option (Nat × Bool)} {p : Prop} [Decidable p] (hw : wantedS σ all ⟨dst, .binOp op t0 x0 y0 t', ty, pos, after, guard⟩ = some true) (h : ∀ H, opS C.E (evS σ) ⟨dst, .binOp op t0 x0 y0 t', ty, pos, after, guard⟩ H = some (.val (.bool (decide p)), H)) (hd : dst = some d) (hn : Nat.blt d C.n = true) (hp : ¬ p)
    (h1 : RunQ C all r ⟨(d, .bool false) :: σ, η, W⟩ ks Q) : RunQ C all (⟨dst, .binOp op t0 x0 y0 t', ty, pos, after, guard⟩ :: r) ⟨σ, η, W⟩ ks Q :=
  RunQ.valE hw rfl h (by rw [decide_eq_false hp]) hd hn h1

theorem RunO.move {dst : Option Tmp} {x : Operand} {ty : TypeId} {pos : String} {after : Array Edge} {guard : Option (Nat × Bool)}
    (hw : wantedS σ all ⟨dst, .move x, ty, pos, after, guard⟩ = some true) (hx : evS σ x = some v) (hd : dst = some d) (hn : Nat.blt d C.n = true)
    (next : RunO C all r ⟨(d, v) :: σ, η, W⟩ ks Q) : RunO C all (⟨dst, .move x, ty, pos, after, guard⟩ :: r) ⟨σ, η, W⟩ ks Q :=
  RunO.val hw (fun H => by simp only [opS, hx, okO, Option.map_some]) hd hn next

theorem RunO.assign {dst : Option Tmp} {x : Operand} {ty : TypeId} {pos : String} {after : Array Edge} {guard : Option (Nat × Bool)}
    (hw : wantedS σ all ⟨dst, .assign x, ty, pos, after, guard⟩ = some true) (hx : evS σ x = some v) (hd : dst = some d) (hn : Nat.blt d C.n = true)
    (next : RunO C all r ⟨(d, v) :: σ, η, W⟩ ks Q) : RunO C all (⟨dst, .assign x, ty, pos, after, guard⟩ :: r) ⟨σ, η, W⟩ ks Q :=
  RunO.val hw (fun H => by simp only [opS, hx, okO, Option.map_some]) hd hn next

theorem RunQ.move {dst : Option Tmp} {x : Operand} {ty : TypeId} {pos : String} {after : Array Edge} {guard : Option (Nat × Bool)}
    (hw : wantedS σ all ⟨dst, .move x, ty, pos, after, guard⟩ = some true) (hx : evS σ x = some v) (hd : dst = some d) (hn : Nat.blt d C.n = true)
    (next : RunQ C all r ⟨(d, v) :: σ, η, W⟩ ks Q) : RunQ C all (⟨dst, .move x, ty, pos, after, guard⟩ :: r) ⟨σ, η, W⟩ ks Q :=
  RunQ.val hw rfl (fun H => by simp only [opS, hx, okO, Option.map_some]) hd hn next

theorem RunQ.assign {dst : Option Tmp} {x : Operand} {ty : TypeId} {pos : String} {after : Array Edge} {guard : Option (Nat × Bool)}
    (hw : wantedS σ all ⟨dst, .assign x, ty, pos, after, guard⟩ = some true) (hx : evS σ x = some v) (hd : dst = some d) (hn : Nat.blt d C.n = true)
    (next : RunQ C all r ⟨(d, v) :: σ, η, W⟩ ks Q) : RunQ C all (⟨dst, .assign x, ty, pos, after, guard⟩ :: r) ⟨σ, η, W⟩ ks Q :=
  RunQ.val hw rfl (fun H => by simp only [opS, hx, okO, Option.map_some]) hd hn next

theorem shr_at {c b : Nat} (n m : Int) (h : (2 : Int) ^ c = m) (hb : c ≤ b) : n.fdiv (2 ^ min (Int.toNat (c : Int)) b) = n / m := by
  rw [Int.toNat_natCast, Nat.min_eq_left hb, h, Int.fdiv_eq_ediv_of_nonneg]
  rw [← h]
  exact Int.le_of_lt (Int.pow_pos (by decide))

theorem shr1 {b : Nat} (n : Int) (hb : 1 ≤ b) : n.fdiv (2 ^ min (Int.toNat 1) b) = n / 2 := shr_at (c := 1) n 2 rfl hb

theorem Done.pureP {fn : Func} {vs : List V} {P : CR → Prop} {x : X} (hx : x = .normal ∨ x = .ret) (hr : ∀ H, resS C.E σ H fn.results.toList = some vs) (hv : tupV vs = v) (hfl : v.flat = true) (hP : P (.pure v)) : Done C x ⟨σ, η, []⟩ [] (FinS C.E fn C.H0.length P) :=
  Done.fin hx (fun H _ => hr H) fun H hh => by
    have := hh.wr rfl
    simp only [close, hv, hfl, Bool.true_and, decide_eq_true_eq, this, if_true]
    exact hP

/-- A call that turns nothing and gives one of some values. -/
theorem RunO.pureE {T : Type} (vf : T → V) {g : FuncId} {args : List V} (hw : wantedS σ all o = some true) (h : ∀ H, opS C.E (evS σ) o H = some (.enter g args, H)) (hd : o.dst = some d) (hn : Nat.blt d C.n = true)
    (hg : ∀ H, HFits C.H0 W η H → WPcall C.E g args H.objs fun c => ∃ t, c = .pure (vf t))
    (next : ∀ t, RunO C all r ⟨(d, vf t) :: σ, η, W⟩ ks Q) : RunO C all (o :: r) ⟨σ, η, W⟩ ks Q := .mk fun f H ⟨hf, hh⟩ => by
  simp only [WPo, hf.wanted hw, hf.op (h H)]
  obtain ⟨c, h1, t, rfl⟩ := hg H hh
  refine WPcall.of h1 ?_
  simp only [hd, Fr.set, Hp.after]
  exact (next t).of _ _ ⟨hf.put hn _, hh⟩

/-- A call that turns nothing that was there, and gives something with one new block that is known. -/
def MakesB (H : List AObj) (vf : Nat → V) (b : AObj) (c : CR) : Prop :=
  ∃ k H', c = .eff (vf k) H' ∧ H.length ≤ k ∧ H'.objs[k]? = some b ∧ H.length ≤ H'.objs.length ∧ (∀ j, j < H.length → H'.objs[j]? = H[j]?) ∧ H.length ≤ H'.wr

theorem Done.makes {fn : Func} {vs : List V} {vf : Nat → V} {b : AObj} {x : X} (i : Nat) (hx : x = .normal ∨ x = .ret) (hi : η[i]? = some (true, k, b)) (hr : ∀ H, resS C.E σ H fn.results.toList = some vs) (hv : tupV vs = vf k) (hfl : (vf k).flat = false) :
    Done C x ⟨σ, η, []⟩ [] (FinS C.E fn C.H0.length (MakesB C.H0 vf b)) :=
  Done.fin hx (fun H _ => hr H) fun H hh => by
    simp only [close, hv, hfl, Bool.false_and, Bool.false_eq_true, if_false]
    exact ⟨k, H, rfl, hh.own _ (List.mem_of_getElem? hi) rfl, hh.at hi, hh.len, fun j hj => hh.same j hj (by simp), hh.wr rfl⟩

theorem HFits.call {c : CR} {vf : Nat → V} {b : AObj} (h : HFits H0 W η H) (hm : MakesB H.objs vf b c) : ∃ k, (H.after c).1 = vf k ∧ HFits H0 W ((true, k, b) :: η) (H.after c).2 := by
  obtain ⟨k, H', rfl, h1, h2, h3, h4, h5⟩ := hm
  refine ⟨k, rfl, ?_, ?_, ?_, ?_, ?_, ?_⟩
  · simp only [Hp.after]; have := h.len; omega
  · simp only [keysB, List.map_cons, List.nodup_cons]
    refine ⟨fun hm => ?_, h.nodup⟩
    obtain ⟨x, hx, he⟩ := List.mem_map.mp hm
    have := (List.getElem?_eq_some_iff.mp (h.has x hx)).1
    omega
  · intro x hx
    rcases List.mem_cons.mp hx with rfl | hx
    · exact h2
    · have := h.has x hx
      simp only [Hp.after]
      rw [h4 _ (List.getElem?_eq_some_iff.mp this).1]
      exact this
  · intro x hx e
    rcases List.mem_cons.mp hx with rfl | hx
    · have := h.len; simp only; omega
    · exact h.own x hx e
  · intro j hj hw
    have := h.len
    simp only [Hp.after]
    rw [h4 j (by omega)]
    exact h.same j hj hw
  · intro he
    have := h.wr he
    have := h.len
    simp only [Hp.after]
    omega

theorem RunO.callB {g : FuncId} {args : List V} {vf : Nat → V} {b : AObj} (hw : wantedS σ all o = some true) (h : ∀ H, opS C.E (evS σ) o H = some (.enter g args, H)) (hd : o.dst = some d) (hn : Nat.blt d C.n = true)
    (hg : ∀ H, HFits C.H0 W η H → WPcall C.E g args H.objs (MakesB H.objs vf b))
    (next : ∀ k, RunO C all r ⟨(d, vf k) :: σ, (true, k, b) :: η, W⟩ ks Q) : RunO C all (o :: r) ⟨σ, η, W⟩ ks Q :=
  RunO.call (T := Nat) (fun k => (true, k, b) :: η) vf hw h hd hn (fun H hh => by
    obtain ⟨c, h1, h2⟩ := hg H hh
    exact ⟨c, h1, hh.call h2⟩) next

/-- A truth value that is moved: one walk for each. -/
theorem RunO.cmpM {dst : Option Tmp} {x : Operand} {ty : TypeId} {pos : String} {after : Array Edge} {guard : Option (Nat × Bool)} {t : Bool}
    (hw : wantedS σ all ⟨dst, .move x, ty, pos, after, guard⟩ = some true) (hx : evS σ x = some (.bool t)) (hd : dst = some d) (hn : Nat.blt d C.n = true)
    (h1 : t = true → RunO C all r ⟨(d, .bool true) :: σ, η, W⟩ ks Q) (h2 : t = false → RunO C all r ⟨(d, .bool false) :: σ, η, W⟩ ks Q) : RunO C all (⟨dst, .move x, ty, pos, after, guard⟩ :: r) ⟨σ, η, W⟩ ks Q := by
  cases t with
  | true => exact RunO.move hw hx hd hn (h1 rfl)
  | false => exact RunO.move hw hx hd hn (h2 rfl)

theorem RunO.un {dst : Option Tmp} {op : UnOp} {t : TypeId} {x : Operand} {ty : TypeId} {pos : String} {after : Array Edge} {guard : Option (Nat × Bool)} {kk : IntKind} {p z : Int}
    (hw : wantedS σ all ⟨dst, .unOp op t x, ty, pos, after, guard⟩ = some true) (hx : evS σ x = some v) (hz : unV op v = some (.int kk z)) (he : z = p) (hd : dst = some d) (hn : Nat.blt d C.n = true)
    (next : RunO C all r ⟨(d, .int kk p) :: σ, η, W⟩ ks Q) : RunO C all (⟨dst, .unOp op t x, ty, pos, after, guard⟩ :: r) ⟨σ, η, W⟩ ks Q := by
  subst he
  exact RunO.val hw (fun H => by simp only [opS, hx, hz, okO, Option.map_some]) hd hn next

end Go.Am
