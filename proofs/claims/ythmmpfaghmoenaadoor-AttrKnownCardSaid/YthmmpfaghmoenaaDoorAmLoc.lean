/-
  An operation looks at the blocks that it names, and at no other one.
-/
import Derived.Test.YthmmpfaghmoenaaDoorAmDrawn
namespace Go.Am
open Go

variable {E : Env} {P : Program} {vis : Nat → Bool} {H : Hp} {W : List Nat}

def maskH (vis : Nat → Bool) (H : Hp) : Hp := { H with objs := maskL vis H.objs }

def Lc (vis : Nat → Bool) (H : Hp) (W : List Nat) (x y : Out) : Prop :=
  ∀ r H', x = some (r, H') → (∃ H'', y = some (r, H'') ∧ H''.objs = maskL (fun k => vis k || decide (H.objs.length ≤ k)) H'.objs) ∧ H.objs.length ≤ H'.objs.length ∧ ∀ k, k < H.objs.length → k ∉ W → H'.objs[k]? = H.objs[k]?

theorem maskL_low {n : Nat} {l : List AObj} (h : l.length ≤ n) : maskL (fun k => vis k || decide (n ≤ k)) l = maskL vis l := by
  apply List.ext_getElem?
  intro k
  rw [get_maskL, get_maskL]
  cases hk : l[k]? with
  | none => rfl
  | some o =>
    have := (List.getElem?_eq_some_iff.1 hk).1
    have e : decide (n ≤ k) = false := by simp; omega
    simp [e]

@[simp] theorem maskH_objs : (maskH vis H).objs = maskL vis H.objs := rfl
@[simp] theorem maskH_size : (maskH vis H).size = H.size := by simp [Hp.size]
theorem maskH_get {k : Nat} (h : vis k = true) : (maskH vis H).objs[k]? = H.objs[k]? := by
  rw [maskH_objs, get_maskL]
  cases H.objs[k]? <;> simp [h]

theorem Lc.none (y : Out) : Lc vis H W none y := fun r H' h => by cases h
theorem Lc.same (x : R) : Lc vis H W (some (x, H)) (some (x, maskH vis H)) := fun r H' h => by
  simp only [Option.some.injEq, Prod.mk.injEq] at h
  obtain ⟨rfl, rfl⟩ := h
  exact ⟨⟨_, rfl, (maskL_low (Nat.le_refl _)).symm⟩, Nat.le_refl _, fun _ _ _ => rfl⟩
theorem Lc.ok (v : V) : Lc vis H W (Am.ok v H) (Am.ok v (maskH vis H)) := Lc.same _
theorem Lc.okO (v : Option V) : Lc vis H W (Am.okO v H) (Am.okO v (maskH vis H)) := by
  cases v with
  | none => exact Lc.none _
  | some v => exact Lc.same _
theorem Lc.okE {v v' : Option V} (h : v' = v) : Lc vis H W (Am.okO v H) (Am.okO v' (maskH vis H)) := by subst h; exact Lc.okO _

theorem mask_append (H : Hp) (o : AObj) : maskL vis H.objs ++ [o] = maskL (fun k => vis k || decide (H.objs.length ≤ k)) (H.objs ++ [o]) := by
  apply List.ext_getElem?
  intro k
  rw [get_maskL]
  by_cases hk : k < H.objs.length
  · rw [List.getElem?_append_left (by simpa using hk), List.getElem?_append_left hk, get_maskL]
    have e : decide (H.objs.length ≤ k) = false := by simp; omega
    simp [e]
  · rw [List.getElem?_append_right (by simp; omega), List.getElem?_append_right (by omega)]
    have e : decide (H.objs.length ≤ k) = true := by simp; omega
    simp [e]

theorem Lc.new (x : R) (o : AObj) : Lc vis H W (some (x, H.new o)) (some (x, (maskH vis H).new o)) := fun r H' h => by
  simp only [Option.some.injEq, Prod.mk.injEq] at h
  obtain ⟨rfl, rfl⟩ := h
  refine ⟨⟨_, rfl, ?_⟩, by simp [Hp.new], fun k hk _ => ?_⟩
  · simp only [Hp.new, maskH_objs]
    exact mask_append H o
  · simp only [Hp.new]
    rw [List.getElem?_append_left hk]

theorem mask_set (l : List AObj) {k : Nat} (o : AObj) (hk : vis k = true) : (maskL vis l).set k o = maskL vis (l.set k o) := by
  apply List.ext_getElem?
  intro j
  rw [get_maskL, List.getElem?_set, List.getElem?_set, get_maskL, len_maskL]
  by_cases e : k = j
  · subst e
    rw [if_pos rfl, if_pos rfl]
    by_cases hl : k < l.length
    · simp [hl, hk]
    · simp [hl]
  · rw [if_neg e, if_neg e]

theorem Lc.write (x : R) {k : Nat} (o : AObj) (fl : Bool) (hk : vis k = true) (hW : k ∈ W) : Lc vis H W (some (x, H.write k o fl)) (some (x, (maskH vis H).write k o fl)) := fun r H' h => by
  simp only [Option.some.injEq, Prod.mk.injEq] at h
  obtain ⟨rfl, rfl⟩ := h
  refine ⟨⟨_, rfl, ?_⟩, by simp [Hp.write], fun j hj hn => ?_⟩
  · simp only [Hp.write, maskH_objs]
    rw [mask_set _ _ hk, maskL_low (by simp)]
  · simp only [Hp.write]
    rw [List.getElem?_set_ne (fun e => hn (by subst e; exact hW))]

theorem Lc.writeNew (x : R) {k : Nat} (o o2 : AObj) (fl : Bool) (hk : vis k = true) (hW : k ∈ W) : Lc vis H W (some (x, (H.write k o fl).new o2)) (some (x, ((maskH vis H).write k o fl).new o2)) := fun r H' h => by
  simp only [Option.some.injEq, Prod.mk.injEq] at h
  obtain ⟨rfl, rfl⟩ := h
  refine ⟨⟨_, rfl, ?_⟩, by simp [Hp.write, Hp.new], fun j hj hn => ?_⟩
  · simp only [Hp.write, Hp.new, maskH_objs]
    rw [mask_set _ _ hk]
    have := mask_append (vis := vis) (H.write k o fl) o2
    simp only [Hp.write, List.length_set] at this
    exact this
  · simp only [Hp.write, Hp.new]
    rw [List.getElem?_append_left (by simpa using hj), List.getElem?_set_ne (fun e => hn (by subst e; exact hW))]

theorem Lc.mapW {x y : Option Hp} {g : Hp → R × Hp} (x0 : R) (hg : ∀ h, g h = (x0, h)) (h : Lc vis H W (x.map fun h => (x0, h)) (y.map fun h => (x0, h))) : Lc vis H W (x.map g) (y.map g) := by
  have : g = fun h => (x0, h) := funext hg
  rw [this]; exact h

theorem newCells_loc (x : R) (cs : List V) (e : TypeId) (m : Am.Mode) : Lc vis H W ((newCells H cs e m).map fun h => (x, h)) ((newCells (maskH vis H) cs e m).map fun h => (x, h)) := by
  unfold newCells
  split
  · exact Lc.new x _
  · exact Lc.none _

theorem putCells_loc (x : R) {k o : Nat} {vs : List V} (hk : vis k = true) (hW : k ∈ W) : Lc vis H W ((putCells H k o vs).map fun h => (x, h)) ((putCells (maskH vis H) k o vs).map fun h => (x, h)) := by
  unfold putCells
  rw [maskH_get hk]
  split
  · split
    · exact Lc.write x _ _ hk hW
    · exact Lc.none _
  · exact Lc.none _

theorem loadV_loc {t : TypeId} {p : V} (h : ∀ k ∈ p.ids, vis k = true) : loadV E t (maskH vis H) p = loadV E t H p := by
  unfold loadV
  have : cellsOf E (maskH vis H) p = cellsOf E H p := by
    unfold cellsOf
    split
    · rw [maskH_get (h _ (by simp [V.ids]))]
    · rfl
    · rfl
  rw [this]

theorem shown_loc {size : Nat} {v : V} (h : ∀ k ∈ v.ids, vis k = true) : shown (maskH vis H) size v = shown H size v := by
  unfold shown
  split
  · rfl
  · rw [maskH_get (h _ (by simp [V.ids]))]
  · rfl
  · rfl

theorem convV_loc {s d : TypeId} {v : V} (h : ∀ k ∈ v.ids, vis k = true) : Lc vis H W (convV P s d v H) (convV P s d v (maskH vis H)) := by
  unfold convV
  split
  · exact Lc.ok _
  · exact Lc.ok _
  · exact Lc.ok _
  · split
    · split
      · rw [maskH_size]; exact Lc.new _ _
      · exact Lc.none _
    · split
      · rw [maskH_size]; exact Lc.new _ _
      · exact Lc.none _
    · exact Lc.none _
  · split
    · exact Lc.ok _
    · exact Lc.ok _
    · exact Lc.none _
  · rw [shown_loc h]
    split
    · exact Lc.okO _
    · exact Lc.okO _
    · exact Lc.none _
  · exact Lc.ok _
  · rw [maskH_get (h _ (by simp [V.ids]))]
    split
    · split
      · exact Lc.ok _
      · exact Lc.none _
    · exact Lc.none _
  · exact Lc.ok _
  · rw [maskH_get (h _ (by simp [V.ids]))]
    split
    · split
      · exact Lc.ok _
      · exact Lc.none _
    · exact Lc.none _
  · exact Lc.none _

theorem sliceV_loc {t : TypeId} {x : V} {lo hi mx : Option Nat} (h : ∀ k ∈ x.ids, vis k = true) : sliceV P t x lo hi mx (maskH vis H) = sliceV P t x lo hi mx H := by
  unfold sliceV
  split
  · rfl
  · rfl
  · rfl
  · split
    · rfl
    · split
      · rfl
      · rw [maskH_get (h _ (by simp [V.ids]))]
  · rfl
  · rfl

theorem sliceEnd_loc {t : TypeId} {x : V} {lo hi mx : Option Nat} (h : ∀ k ∈ x.ids, vis k = true) : sliceEnd P t x lo hi mx (maskH vis H) = sliceEnd P t x lo hi mx H := by
  unfold sliceEnd
  split
  · rw [maskH_get (h _ (by simp [V.ids]))]
  · rfl

theorem lookupV_loc {t : TypeId} {x k : V} {c : Bool} (h : ∀ k ∈ x.ids, vis k = true) : lookupV P t x k c (maskH vis H) = lookupV P t x k c H := by
  unfold lookupV
  cases x <;> try rfl
  rename_i j
  simp only [maskH_get (h j (by simp [V.ids]))]

theorem lenV_loc {t : TypeId} {x : V} (h : ∀ k ∈ x.ids, vis k = true) : lenV P t x (maskH vis H) = lenV P t x H := by
  unfold lenV
  split <;> try rfl
  rw [maskH_get (h _ (by simp [V.ids]))]

theorem appendV_loc {e : TypeId} {s : V} {new : List V} {n : Nat} (h : ∀ k ∈ s.ids, vis k = true ∧ k ∈ W) : Lc vis H W (appendV P e s new n H) (appendV P e s new n (maskH vis H)) := by
  unfold appendV
  split
  · split
    · exact Lc.none _
    · split
      · split
        · exact Lc.ok _
        · split
          · rw [maskH_size]; exact Lc.new _ _
          · exact Lc.none _
      · have hk := h _ (by simp [V.ids]; rfl)
        rw [maskH_get hk.1]
        split
        · split
          · split
            · split
              · split
                · exact Lc.ok _
                · exact Lc.none _
              · split
                · exact putCells_loc _ hk.1 hk.2
                · rw [maskH_size]; exact Lc.new _ _
            · split
              · split
                · exact Lc.ok _
                · split
                  · exact putCells_loc _ hk.1 hk.2
                  · split
                    · rw [maskH_size]; exact Lc.writeNew _ _ _ _ hk.1 hk.2
                    · exact Lc.none _
              · exact Lc.none _
          · exact Lc.none _
        · exact Lc.none _
      · exact Lc.none _
  · exact Lc.none _

theorem copyV_loc {e : TypeId} {d s : V} (h : ∀ k ∈ d.ids, vis k = true ∧ k ∈ W) (h2 : ∀ k ∈ s.ids, vis k = true) : Lc vis H W (copyV P e d s H) (copyV P e d s (maskH vis H)) := by
  unfold copyV
  split
  · split
    · exact Lc.ok _
    · exact Lc.ok _
    · exact Lc.ok _
    · exact Lc.none _
  · have hk := h _ (by simp [V.ids]; rfl)
    rw [shown_loc h2]
    split
    · simp only
      split
      · exact Lc.ok _
      · exact putCells_loc _ hk.1 hk.2
    · exact Lc.none _
  · exact Lc.none _

theorem mapSetV_loc (x : R) {t : TypeId} {m k v : V} (h : ∀ k ∈ m.ids, vis k = true ∧ k ∈ W) : Lc vis H W ((mapSetV P t m k v H).map fun h => (x, h)) ((mapSetV P t m k v (maskH vis H)).map fun h => (x, h)) := by
  unfold mapSetV
  split
  · have hk := h _ (by simp [V.ids]; rfl)
    rw [maskH_get hk.1]
    split
    · split
      · split
        · exact Lc.write _ _ _ hk.1 hk.2
        · exact Lc.none _
      · exact Lc.write _ _ _ hk.1 hk.2
      · exact Lc.none _
    · exact Lc.none _
  · exact Lc.none _

theorem mapEntryV_loc {t : TypeId} {m k : V} (h : ∀ k ∈ m.ids, vis k = true ∧ k ∈ W) : Lc vis H W (mapEntryV P t m k H) (mapEntryV P t m k (maskH vis H)) := by
  unfold mapEntryV
  split
  · have hk := h _ (by simp [V.ids]; rfl)
    rw [maskH_get hk.1]
    split
    · split
      · split
        · split
          · exact Lc.write _ _ _ hk.1 hk.2
          · exact Lc.none _
        · exact Lc.write _ _ _ hk.1 hk.2
        · exact Lc.none _
      · exact Lc.none _
    · exact Lc.none _
  · exact Lc.none _

theorem entryStoreV_loc (x : R) {m s v : V} (h : ∀ k ∈ m.ids, vis k = true ∧ k ∈ W) : Lc vis H W ((entryStoreV m s v H).map fun h => (x, h)) ((entryStoreV m s v (maskH vis H)).map fun h => (x, h)) := by
  unfold entryStoreV
  split
  · have hk := h _ (by simp [V.ids]; rfl)
    rw [maskH_get hk.1]
    split
    · split
      · exact Lc.write _ _ _ hk.1 hk.2
      · exact Lc.none _
    · exact Lc.none _
  · exact Lc.none _

theorem nextV_loc {it : V} {s : Bool} (h : ∀ k ∈ it.ids, vis k = true ∧ k ∈ W) : Lc vis H W (nextV it s H) (nextV it s (maskH vis H)) := by
  unfold nextV
  split
  · have hk := h _ (by simp [V.ids]; rfl)
    rw [maskH_get hk.1]
    split
    · split
      · exact Lc.write _ _ _ hk.1 hk.2
      · exact Lc.ok _
    · exact Lc.none _
  · exact Lc.none _

theorem rangeV_loc {t : TypeId} {x : V} : Lc vis H W (rangeV P t x H) (rangeV P t x (maskH vis H)) := by
  unfold rangeV
  split
  · rw [maskH_size]; exact Lc.new _ _
  · exact Lc.none _

theorem makeSliceV_loc {t : TypeId} {l c : V} : Lc vis H W (makeSliceV P t l c H) (makeSliceV P t l c (maskH vis H)) := by
  unfold makeSliceV
  split
  · split
    · split
      · rw [maskH_size]; exact newCells_loc _ _ _ _
      · exact Lc.none _
    · exact Lc.none _
  · exact Lc.none _

theorem storeV_loc (x : R) {t : TypeId} {p v : V} (h : ∀ k ∈ p.ids, vis k = true ∧ k ∈ W) : Lc vis H W ((storeV E t H p v).map fun h => (x, h)) ((storeV E t (maskH vis H) p v).map fun h => (x, h)) := by
  unfold storeV
  split
  · have hk := h _ (by simp [V.ids]; rfl)
    split
    · exact putCells_loc _ hk.1 hk.2
    · exact Lc.none _
  · exact Lc.none _

theorem builtinV_loc {b : Builtin} {ts : List TypeId} {args : List V} (h : ∀ v ∈ args, ∀ k ∈ v.ids, vis k = true) (hW : (b = .append ∨ b = .copy ∨ b = .unsafeString) → ∀ v ∈ args, ∀ k ∈ v.ids, k ∈ W) : Lc vis H W (builtinV E b ts args H) (builtinV E b ts args (maskH vis H)) := by
  unfold builtinV
  split
  · rename_i x
    exact Lc.okE (lenV_loc (h x (by simp)))
  · split
    · exact Lc.ok _
    · exact Lc.none _
  · split
    · exact Lc.ok _
    · exact Lc.none _
  · exact Lc.ok _
  · rename_i k o n
    rw [maskH_get (h _ (List.mem_singleton.2 rfl) _ (by simp [V.ids]))]
    split
    · split
      · exact Lc.ok _
      · exact Lc.none _
    · exact Lc.none _
  · exact Lc.ok _
  · rename_i pt it k o n
    have hk := h (.ptr k o) (by simp) k (by simp [V.ids])
    have hkW := hW (.inr (.inr rfl)) (.ptr k o) (by simp) k (by simp [V.ids])
    rw [maskH_get hk]
    split
    · split
      · split
        · exact Lc.write _ _ _ hk hkW
        · exact Lc.none _
      · exact Lc.none _
    · exact Lc.none _
  · rename_i s x
    have hs : shown (maskH vis H) = shown (maskH vis H) := rfl
    split
    · have e : ∀ z, shown (maskH vis H) z x = shown H z x := fun z => shown_loc (h x (by simp))
      have e2 : (fun z => shown (maskH vis H) z x) = fun z => shown H z x := funext e
      rw [e2]
      split
      · exact appendV_loc fun k hk => ⟨h s (by simp) k hk, hW (.inl rfl) s (by simp) k hk⟩
      · exact Lc.none _
    · have e : ∀ z, shown (maskH vis H) z x = shown H z x := fun z => shown_loc (h x (by simp))
      have e2 : (fun z => shown (maskH vis H) z x) = fun z => shown H z x := funext e
      rw [e2]
      split
      · exact appendV_loc fun k hk => ⟨h s (by simp) k hk, hW (.inl rfl) s (by simp) k hk⟩
      · exact Lc.none _
    · exact Lc.none _
  · rename_i d s
    split
    · exact copyV_loc (fun k hk => ⟨h d (by simp) k hk, hW (.inr (.inl rfl)) d (by simp) k hk⟩) (h s (by simp))
    · exact Lc.none _
  · exact Lc.okO _
  · exact Lc.okO _
  · exact Lc.none _

theorem evs_mem {f : Fr} : ∀ {xs : List Operand} {vs : List V}, evs f xs = some vs → ∀ v ∈ vs, ∃ x ∈ xs, f.ev x = some v
  | [], vs, h, v, hv => by simp only [evs, Option.some.injEq] at h; subst h; cases hv
  | x :: r, vs, h, v, hv => by
    simp only [evs] at h
    split at h
    · rename_i u us h1 h2
      simp only [Option.some.injEq] at h
      subst h
      rcases List.mem_cons.1 hv with rfl | hv
      · exact ⟨x, by simp, h1⟩
      · obtain ⟨y, hy, he⟩ := evs_mem h2 v hv
        exact ⟨y, List.mem_cons_of_mem _ hy, he⟩
    · cases h

theorem opV_loc {f : Fr} {o : Oper} (hv : ∀ k ∈ named f o, vis k = true) (hW : writes o = true → ∀ k ∈ named f o, k ∈ W) : Lc vis H W (opV E f o H) (opV E f o (maskH vis H)) := by
  obtain ⟨dst, op, type, pos, after, guard⟩ := o
  cases op <;> simp only [opV]
  case move x => exact Lc.okO _
  case assign x => exact Lc.okO _
  case pick c a b =>
    split
    · exact Lc.okO _
    · exact Lc.none _
  case alloc e =>
    split
    · rw [maskH_size]; exact newCells_loc _ _ _ _
    · exact Lc.none _
  case box e x =>
    split
    · rw [maskH_size]; exact newCells_loc _ _ _ _
    · exact Lc.none _
  case build t ps =>
    split
    · exact Lc.okO _
    · exact Lc.none _
  case buildSlice t n ps =>
    split
    · split
      · split
        · split
          · rw [maskH_size]; exact newCells_loc _ _ _ _
          · exact Lc.none _
        · exact Lc.none _
      · exact Lc.none _
    · exact Lc.none _
  case insert t m k v =>
    simp only [named] at hv hW
    cases hm : f.ev m with
    | none => exact Lc.none _
    | some m' =>
      rw [hm] at hv hW
      split
      · rename_i x y z e _ _
        simp only [Option.some.injEq] at e
        subst e
        exact mapSetV_loc _ fun k hk => ⟨hv k hk, hW rfl k hk⟩
      · exact Lc.none _
  case mapUpdate t m k v =>
    simp only [named] at hv hW
    cases hm : f.ev m with
    | none => exact Lc.none _
    | some m' =>
      rw [hm] at hv hW
      split
      · rename_i x y z e _ _
        simp only [Option.some.injEq] at e
        subst e
        exact mapSetV_loc _ fun k hk => ⟨hv k hk, hW rfl k hk⟩
      · exact Lc.none _
  case mapEntry t m k =>
    simp only [named] at hv hW
    cases hm : f.ev m with
    | none => exact Lc.none _
    | some m' =>
      rw [hm] at hv hW
      split
      · rename_i x y e _
        simp only [Option.some.injEq] at e
        subst e
        exact mapEntryV_loc fun k hk => ⟨hv k hk, hW rfl k hk⟩
      · exact Lc.none _
  case entryStore t m s v =>
    simp only [named] at hv hW
    cases hm : f.ev m with
    | none => exact Lc.none _
    | some m' =>
      rw [hm] at hv hW
      split
      · rename_i x y z e _ _
        simp only [Option.some.injEq] at e
        subst e
        exact entryStoreV_loc _ fun k hk => ⟨hv k hk, hW rfl k hk⟩
      · exact Lc.none _
  case load t a =>
    simp only [named] at hv
    cases ha : f.ev a with
    | none => exact Lc.none _
    | some p =>
      rw [ha] at hv
      exact Lc.okE (loadV_loc hv)
  case store t a x =>
    simp only [named] at hv hW
    cases ha : f.ev a with
    | none => exact Lc.none _
    | some p =>
      rw [ha] at hv hW
      cases hx : f.ev x with
      | none => exact Lc.none _
      | some v => exact storeV_loc _ fun k hk => ⟨hv k hk, hW rfl k hk⟩
  case nilCheck x =>
    split
    · exact Lc.ok _
    · exact Lc.ok _
    · exact Lc.ok _
    · exact Lc.ok _
    · exact Lc.none _
  case binOp op t x y yt =>
    split
    · exact Lc.okO _
    · exact Lc.none _
  case unOp op t x =>
    split
    · exact Lc.okO _
    · exact Lc.none _
  case convert s d x =>
    simp only [named] at hv
    cases ha : f.ev x with
    | none => exact Lc.none _
    | some p => rw [ha] at hv; exact convV_loc hv
  case makeInterface t x =>
    split
    · exact Lc.none _
    · exact Lc.ok _
    · exact Lc.none _
  case makeFunc g a b =>
    cases g with
    | func g =>
      simp only
      split
      · exact Lc.ok _
      · exact Lc.none _
    | _ => exact Lc.none _
  case makeMap t r =>
    cases r with
    | none => simp only [Am.ok, maskH_size]; exact Lc.new _ _
    | some r => exact Lc.none _
  case makeSlice t l c =>
    split
    · exact makeSliceV_loc
    · exact Lc.none _
  case slice t x lo hi mx =>
    simp only [named] at hv
    cases ha : f.ev x with
    | none => exact Lc.none _
    | some p =>
      rw [ha] at hv
      split
      · rename_i u a b c e _ _ _
        simp only [Option.some.injEq] at e
        subst e
        rw [sliceEnd_loc hv]
        split
        · rw [maskH_size]; exact Lc.new _ _
        · exact Lc.okE (sliceV_loc hv)
      · exact Lc.none _
  case fieldAddr s x i =>
    split
    · exact Lc.okO _
    · exact Lc.none _
  case field t x i =>
    split
    · exact Lc.okO _
    · exact Lc.none _
  case indexAddr t x i =>
    split
    · exact Lc.okO _
    · exact Lc.none _
  case index t x i =>
    split
    · exact Lc.okO _
    · exact Lc.none _
  case lookup t x i c =>
    simp only [named] at hv
    cases ha : f.ev x with
    | none => exact Lc.none _
    | some p =>
      rw [ha] at hv
      split
      · rename_i u y e _
        simp only [Option.some.injEq] at e
        subst e
        exact Lc.okE (lookupV_loc hv)
      · exact Lc.none _
  case range t x =>
    split
    · exact rangeV_loc
    · exact Lc.none _
  case next it s =>
    simp only [named] at hv hW
    cases ha : f.ev it with
    | none => exact Lc.none _
    | some p => rw [ha] at hv hW; exact nextV_loc fun k hk => ⟨hv k hk, hW rfl k hk⟩
  case extract x i =>
    split
    · exact Lc.okO _
    · exact Lc.none _
  case call c =>
    obtain ⟨callee, cargs, cts⟩ := c
    cases callee with
    | builtin b =>
      simp only [named] at hv hW
      simp only
      cases hargs : evs f cargs.toList with
      | none => exact Lc.none _
      | some args =>
        simp only
        have hin : ∀ v ∈ args, ∀ k ∈ v.ids, k ∈ cargs.toList.flatMap fun x => idsO (f.ev x) := by
          intro v hv k hk
          obtain ⟨x, hx, he⟩ := evs_mem hargs v hv
          exact List.mem_flatMap.2 ⟨x, hx, by rw [he]; exact hk⟩
        refine builtinV_loc (fun v hv' k hk => hv k (hin v hv' k hk)) fun hb v hv' k hk => hW ?_ k (hin v hv' k hk)
        rcases hb with rfl | rfl | rfl <;> rfl
    | value g =>
      simp only
      cases hargs : evs f cargs.toList with
      | none => exact Lc.none _
      | some args =>
        simp only
        split
        · unfold callV
          split
          · split
            · split
              · split
                · split
                  · rw [maskH_size]; exact Lc.new _ _
                  · exact Lc.none _
                · exact Lc.none _
              · split
                · split
                  · exact Lc.ok _
                  · exact Lc.none _
                · exact Lc.okO _
            · exact Lc.same _
          · exact Lc.none _
        · exact Lc.none _
    | invoke r m =>
      simp only
      cases hargs : evs f cargs.toList <;> exact Lc.none _
  all_goals exact Lc.none _

end Go.Am
