/-
  The evaluator's code is the model's.
-/
import Derived.Test.YthmmpfaghmoenaaDoorAmOps9
namespace Go.Am
open Go

variable {E : Env} {N : Nat} {ρ : Nat → Loc} {H : List AObj} {w : World}

/-! ### What memory keeps, on the evaluator's side alone -/

def Closed (lo : Nat) (objs : List AObj) : Prop := ∀ (k : Nat) (o : AObj), k < lo → objs[k]? = some o → ltL lo o.vals

structure Mono (H H' : Hp) : Prop where
  len : H.objs.length ≤ H'.objs.length
  wr : H'.wr ≤ H.wr
  esc : H'.esc ≤ H.esc
  same : ∀ k, k < H'.wr → k < H.objs.length → H'.objs[k]? = H.objs[k]?
  closed : ∀ lo, lo ≤ H.objs.length → lo ≤ H'.esc → Closed lo H.objs → Closed lo H'.objs

theorem Mono.refl (H : Hp) : Mono H H := ⟨Nat.le_refl _, Nat.le_refl _, Nat.le_refl _, fun _ _ _ => rfl, fun _ _ _ h => h⟩

theorem Mono.trans {A B C : Hp} (a : Mono A B) (b : Mono B C) : Mono A C where
  len := Nat.le_trans a.len b.len
  wr := Nat.le_trans b.wr a.wr
  esc := Nat.le_trans b.esc a.esc
  same := fun k h1 h2 => (b.same k h1 (Nat.lt_of_lt_of_le h2 a.len)).trans (a.same k (Nat.lt_of_lt_of_le h1 b.wr) h2)
  closed := fun lo h1 h2 h3 => b.closed lo (Nat.le_trans h1 a.len) h2 (a.closed lo h1 (Nat.le_trans h2 b.esc) h3)

theorem Mono.new (H : Hp) (o : AObj) : Mono H (H.new o) where
  len := by simp [Hp.new]
  wr := Nat.le_refl _
  esc := Nat.le_refl _
  same := fun k _ h => by simp only [Hp.new]; rw [List.getElem?_append_left h]
  closed := fun lo h1 _ h3 k x hk hx => by
    simp only [Hp.new] at hx
    rw [List.getElem?_append_left (by omega)] at hx
    exact h3 k x hk hx

theorem Mono.write {H : Hp} {k : Nat} {o o' : AObj} {fl : Bool} (hk : H.objs[k]? = some o) (hv : fl = true → ∀ v ∈ o'.vals, v ∈ o.vals ∨ v.flat = true) : Mono H (H.write k o' fl) where
  len := by simp [Hp.write]
  wr := Nat.min_le_left _ _
  esc := by
    simp only [Hp.write]
    split
    · exact Nat.le_refl _
    · exact Nat.min_le_left _ _
  same := fun j h1 _ => by
    simp only [Hp.write] at h1 ⊢
    rw [List.getElem?_set_ne (by omega)]
  closed := fun lo _ h2 h3 j x hj hx => by
    simp only [Hp.write] at h2 hx
    rcases getElem?_set' hx with ⟨rfl, rfl⟩ | ⟨_, hx⟩
    · cases fl with
      | true =>
        intro v hm
        rcases hv rfl v hm with h | h
        · exact h3 j o hj hk v h
        · exact lt_flat h lo
      | false => simp at h2; omega
    · exact h3 j x hj hx

theorem putCells_mono {H H' : Hp} {k o : Nat} {vs : List V} (h : putCells H k o vs = some H') : Mono H H' := by
  unfold putCells at h
  split at h
  · rename_i cs e m hk
    split at h
    · simp only [Option.some.injEq] at h
      subst h
      refine Mono.write hk fun hf v hv => ?_
      rcases mem_splice hv with h | h
      · exact .inl h
      · exact .inr (List.all_eq_true.1 hf v h)
    · cases h
  · cases h

theorem newCells_mono {H H' : Hp} {cs : List V} {e : TypeId} {m : Mode} (h : newCells H cs e m = some H') : Mono H H' := by
  unfold newCells at h
  split at h
  · simp only [Option.some.injEq] at h; subst h; exact Mono.new _ _
  · cases h

theorem ok_mono {v : V} {H : Hp} {r : R} {H' : Hp} (h : Am.ok v H = some (r, H')) : H' = H := by
  simp only [Am.ok, Option.some.injEq, Prod.mk.injEq] at h; exact h.2.symm

theorem okO_mono {v : Option V} {H : Hp} {r : R} {H' : Hp} (h : okO v H = some (r, H')) : H' = H := by
  simp only [okO, Option.map_eq_some_iff, Prod.mk.injEq] at h
  obtain ⟨_, _, _, h⟩ := h
  exact h.symm

theorem ok_new_mono {v : V} {H H0 : Hp} {r : R} {H' : Hp} (h0 : Mono H H0) (h : Am.ok v H0 = some (r, H')) : Mono H H' := by
  rw [ok_mono h]; exact h0

theorem map_mono {α : Type} {x : Option α} {g : α → R × Hp} {H : Hp} {r : R} {H' : Hp} (h : x.map g = some (r, H')) (hx : ∀ a, x = some a → Mono H (g a).2) : Mono H H' := by
  simp only [Option.map_eq_some_iff] at h
  obtain ⟨a, h1, h2⟩ := h
  have := hx a h1
  rw [h2] at this
  exact this

theorem appendV_mono {P : Program} {e : TypeId} {s : V} {new : List V} {n : Nat} {H : Hp} {r : R} {H' : Hp} (h : appendV P e s new n H = some (r, H')) : Mono H H' := by
  unfold appendV at h
  split at h
  · split at h
    · cases h
    · split at h
      · split at h
        · rw [ok_mono h]; exact Mono.refl _
        · split at h
          · exact ok_new_mono (Mono.new _ _) h
          · cases h
      · split at h
        · rename_i cs e' m fz hk
          split at h
          · split at h
            · split at h
              · split at h
                · rw [ok_mono h]; exact Mono.refl _
                · cases h
              · split at h
                · exact map_mono h fun a ha => putCells_mono ha
                · exact ok_new_mono (Mono.new _ _) h
            · split at h
              · split at h
                · rw [ok_mono h]; exact Mono.refl _
                · split at h
                  · exact map_mono h fun a ha => putCells_mono ha
                  · split at h
                    · exact ok_new_mono ((Mono.write hk (fun _ v hv => by cases hv)).trans (Mono.new _ _)) h
                    · cases h
              · cases h
          · cases h
        · cases h
      · cases h
  · cases h

theorem builtinV_mono {b : Builtin} {ats : List TypeId} {args : List V} {H : Hp} {r : R} {H' : Hp} (h : builtinV E b ats args H = some (r, H')) : Mono H H' := by
  unfold builtinV at h
  split at h
  · rw [okO_mono h]; exact Mono.refl _
  · split at h
    · rw [ok_mono h]; exact Mono.refl _
    · cases h
  · split at h
    · rw [ok_mono h]; exact Mono.refl _
    · cases h
  · rw [ok_mono h]; exact Mono.refl _
  · split at h
    · split at h
      · rw [ok_mono h]; exact Mono.refl _
      · cases h
    · cases h
  · rw [ok_mono h]; exact Mono.refl _
  · split at h
    · rename_i hk _
      split at h
      · split at h
        · exact ok_new_mono (Mono.write hk (fun _ v hv => by cases hv)) h
        · cases h
      · cases h
    · cases h
  · split at h
    · split at h
      · exact appendV_mono h
      · cases h
    · split at h
      · exact appendV_mono h
      · cases h
    · cases h
  · split at h
    · unfold copyV at h
      split at h
      · split at h
        · rw [ok_mono h]; exact Mono.refl _
        · rw [ok_mono h]; exact Mono.refl _
        · rw [ok_mono h]; exact Mono.refl _
        · cases h
      · split at h
        · simp only at h
          split at h
          · rw [ok_mono h]; exact Mono.refl _
          · exact map_mono h fun a ha => putCells_mono ha
        · cases h
      · cases h
    · cases h
  · rw [okO_mono h]; exact Mono.refl _
  · rw [okO_mono h]; exact Mono.refl _
  · cases h

theorem modify_vals {es : List Ent} {i : Nat} {c c' : Nat} {g : Ent → Ent} {P0 : V → Prop} (hk : ∀ e, (g e).key = e.key ∨ P0 (g e).key) (hv : ∀ e, (g e).val = e.val ∨ P0 (g e).val) :
    ∀ x ∈ (AObj.map (es.modify i g) c).vals, x ∈ (AObj.map es c').vals ∨ P0 x := by
  intro x hx
  rcases List.mem_append.1 hx with hx | hx
  · obtain ⟨e, he, rfl⟩ := List.mem_map.1 hx
    obtain ⟨j, hj⟩ := List.mem_iff_getElem?.1 he
    rw [List.getElem?_modify] at hj
    obtain ⟨e', he', rfl⟩ := Option.map_eq_some_iff.1 hj
    have hm : e'.key ∈ (AObj.map es c').vals := List.mem_append.2 (.inl (List.mem_map.2 ⟨e', List.mem_of_getElem? he', rfl⟩))
    split
    · rcases hk e' with h | h
      · rw [h]; exact .inl hm
      · exact .inr h
    · exact .inl hm
  · obtain ⟨e, he, rfl⟩ := List.mem_map.1 hx
    obtain ⟨j, hj⟩ := List.mem_iff_getElem?.1 he
    rw [List.getElem?_modify] at hj
    obtain ⟨e', he', rfl⟩ := Option.map_eq_some_iff.1 hj
    have hm : e'.val ∈ (AObj.map es c').vals := List.mem_append.2 (.inr (List.mem_map.2 ⟨e', List.mem_of_getElem? he', rfl⟩))
    split
    · rcases hv e' with h | h
      · rw [h]; exact .inl hm
      · exact .inr h
    · exact .inl hm

theorem push_vals {es : List Ent} {c c' : Nat} {e0 : Ent} : ∀ x ∈ (AObj.map (es ++ [e0]) c).vals, x ∈ (AObj.map es c').vals ∨ x = e0.key ∨ x = e0.val := by
  intro x hx
  rcases List.mem_append.1 hx with hx | hx
  · obtain ⟨e, he, rfl⟩ := List.mem_map.1 hx
    rcases List.mem_append.1 he with he | he
    · exact .inl (List.mem_append.2 (.inl (List.mem_map.2 ⟨e, he, rfl⟩)))
    · rw [List.mem_singleton.1 he]; exact .inr (.inl rfl)
  · obtain ⟨e, he, rfl⟩ := List.mem_map.1 hx
    rcases List.mem_append.1 he with he | he
    · exact .inl (List.mem_append.2 (.inr (List.mem_map.2 ⟨e, he, rfl⟩)))
    · rw [List.mem_singleton.1 he]; exact .inr (.inr rfl)

theorem plainKey_flat {P : Program} {kt : TypeId} {key : V} (hp : plainKey P kt key = true) : key.flat = true := by
  unfold plainKey at hp
  split at hp <;> first | rfl | cases hp

theorem mapSetV_mono {P : Program} {t : TypeId} {m key v : V} {H H' : Hp} (h : mapSetV P t m key v H = some H') : Mono H H' := by
  unfold mapSetV at h
  split at h
  · split at h
    · rename_i es clock hk
      split at h
      · split at h
        · rename_i hp
          simp only [Option.some.injEq] at h
          subst h
          exact Mono.write hk fun hf => modify_vals (P0 := fun x => x.flat = true) (fun e => .inr (plainKey_flat hp)) (fun e => .inr hf)
        · cases h
      · simp only [Option.some.injEq] at h
        subst h
        refine Mono.write hk fun hf x hx => ?_
        simp only [Bool.and_eq_true] at hf
        rcases push_vals x hx with h | rfl | rfl
        · exact .inl h
        · exact .inr hf.2
        · exact .inr hf.1
      · cases h
    · cases h
  · cases h

theorem zeroT_flat {P : Program} {t : TypeId} {z : V} (h : zeroT P t = some z) : z.flat = true :=
  (run_zeroT h (fun _ => default) default).2

theorem mapEntryV_mono {P : Program} {t : TypeId} {m key : V} {H : Hp} {r : R} {H' : Hp} (h : mapEntryV P t m key H = some (r, H')) : Mono H H' := by
  unfold mapEntryV at h
  split at h
  · split at h
    · rename_i hp
      split at h
      · rename_i es clock z hk hz
        split at h
        · split at h
          · simp only [Option.some.injEq, Prod.mk.injEq] at h
            obtain ⟨_, rfl⟩ := h
            exact Mono.write hk fun hf => modify_vals (P0 := fun x => x.flat = true) (fun e => .inr (plainKey_flat hp)) (fun e => .inl rfl)
          · cases h
        · simp only [Option.some.injEq, Prod.mk.injEq] at h
          obtain ⟨_, rfl⟩ := h
          refine Mono.write hk fun hf x hx => ?_
          rcases push_vals x hx with h | rfl | rfl
          · exact .inl h
          · exact .inr (plainKey_flat hp)
          · exact .inr (zeroT_flat hz)
        · cases h
      · cases h
    · cases h
  · cases h

theorem entryStoreV_mono {m stamp v : V} {H H' : Hp} (h : entryStoreV m stamp v H = some H') : Mono H H' := by
  unfold entryStoreV at h
  split at h
  · split at h
    · rename_i es clock hk
      split at h
      · simp only [Option.some.injEq] at h
        subst h
        exact Mono.write hk fun hf => modify_vals (P0 := fun x => x.flat = true) (fun e => .inl rfl) (fun e => .inr hf)
      · cases h
    · cases h
  · cases h

theorem convV_mono {P : Program} {s d : TypeId} {x : V} {H : Hp} {r : R} {H' : Hp} (h : convV P s d x H = some (r, H')) : Mono H H' ∧ (H'.objs.length = H.objs.length → H' = H) := by
  unfold convV at h
  have k : ∀ {v : V} {o : AObj}, Am.ok v (H.new o) = some (r, H') → Mono H H' ∧ (H'.objs.length = H.objs.length → H' = H) := fun h => by
    rw [ok_mono h]
    exact ⟨Mono.new _ _, fun e => by simp [Hp.new] at e⟩
  have k0 : ∀ {v : V}, Am.ok v H = some (r, H') → Mono H H' ∧ (H'.objs.length = H.objs.length → H' = H) := fun h => by
    rw [ok_mono h]; exact ⟨Mono.refl _, fun _ => rfl⟩
  have k1 : ∀ {v : Option V}, okO v H = some (r, H') → Mono H H' ∧ (H'.objs.length = H.objs.length → H' = H) := fun h => by
    rw [okO_mono h]; exact ⟨Mono.refl _, fun _ => rfl⟩
  split at h
  · exact k0 h
  · exact k0 h
  · exact k0 h
  · split at h
    · split at h
      · exact k h
      · cases h
    · split at h
      · exact k h
      · cases h
    · cases h
  · split at h
    · exact k0 h
    · exact k0 h
    · cases h
  · split at h
    · exact k1 h
    · exact k1 h
    · cases h
  · exact k0 h
  · split at h
    · split at h
      · exact k0 h
      · cases h
    · cases h
  · exact k0 h
  · split at h
    · split at h
      · exact k0 h
      · cases h
    · cases h
  · cases h

theorem callV_mono {f : FuncId} {args : List V} {H : Hp} {r : R} {H' : Hp} (h : callV E f args H = some (r, H')) : Mono H H' := by
  unfold callV at h
  split at h
  · split at h
    · split at h
      · split at h
        · split at h
          · exact ok_new_mono (Mono.new _ _) h
          · cases h
        · cases h
      · split at h
        · split at h
          · rw [ok_mono h]; exact Mono.refl _
          · cases h
        · rw [okO_mono h]; exact Mono.refl _
    · simp only [Option.some.injEq, Prod.mk.injEq] at h; rw [h.2]; exact Mono.refl _
  · cases h

theorem opV_mono {f : Fr} {o : Oper} {H : Hp} {r : R} {H' : Hp} (h : opV E f o H = some (r, H')) : Mono H H' := by
  unfold opV at h
  have k0 : ∀ {v : V}, Am.ok v H = some (r, H') → Mono H H' := fun h => by rw [ok_mono h]; exact Mono.refl _
  have k1 : ∀ {v : Option V}, okO v H = some (r, H') → Mono H H' := fun h => by rw [okO_mono h]; exact Mono.refl _
  split at h
  · exact k1 h
  · exact k1 h
  · split at h
    · exact k1 h
    · cases h
  · split at h
    · exact map_mono h fun a ha => newCells_mono ha
    · cases h
  · split at h
    · exact map_mono h fun a ha => newCells_mono ha
    · cases h
  · split at h
    · exact k1 h
    · cases h
  · split at h
    · split at h
      · split at h
        · split at h
          · exact map_mono h fun a ha => newCells_mono ha
          · cases h
        · cases h
      · cases h
    · cases h
  · split at h
    · exact k1 h
    · cases h
  · split at h
    · refine map_mono h fun a ha => ?_
      unfold storeV at ha
      split at ha
      · split at ha
        · exact putCells_mono ha
        · cases ha
      · cases ha
    · cases h
  · split at h
    · exact k0 h
    · exact k0 h
    · exact k0 h
    · exact k0 h
    · cases h
  · split at h
    · exact k1 h
    · cases h
  · split at h
    · exact k1 h
    · cases h
  · split at h
    · exact (convV_mono h).1
    · cases h
  · split at h
    · cases h
    · exact k0 h
    · cases h
  · split at h
    · exact k0 h
    · cases h
  · exact ok_new_mono (Mono.new _ _) h
  · split at h
    · unfold makeSliceV at h
      split at h
      · split at h
        · split at h
          · exact map_mono h fun a ha => newCells_mono ha
          · cases h
        · cases h
      · cases h
    · cases h
  · split at h
    · split at h
      · exact ok_new_mono (Mono.new _ _) h
      · exact k1 h
    · cases h
  · split at h
    · exact k1 h
    · cases h
  · split at h
    · exact k1 h
    · cases h
  · split at h
    · exact k1 h
    · cases h
  · split at h
    · exact k1 h
    · cases h
  · split at h
    · exact k1 h
    · cases h
  · split at h
    · exact map_mono h fun a ha => mapSetV_mono ha
    · cases h
  · split at h
    · exact map_mono h fun a ha => mapSetV_mono ha
    · cases h
  · split at h
    · exact mapEntryV_mono h
    · cases h
  · split at h
    · exact map_mono h fun a ha => entryStoreV_mono ha
    · cases h
  · split at h
    · unfold rangeV at h
      split at h
      · exact ok_new_mono (Mono.new _ _) h
      · cases h
    · cases h
  · split at h
    · unfold nextV at h
      split at h
      · split at h
        · rename_i hk
          split at h
          · exact ok_new_mono (Mono.write hk (fun _ v hv => by cases hv)) h
          · exact k0 h
        · cases h
      · cases h
    · cases h
  · split at h
    · exact k1 h
    · cases h
  · split at h
    · exact builtinV_mono h
    · split at h
      · exact callV_mono h
      · cases h
    · cases h
  · cases h

end Go.Am
