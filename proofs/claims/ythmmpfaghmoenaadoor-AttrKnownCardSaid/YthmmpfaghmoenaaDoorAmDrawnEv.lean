/-
  What the evaluator makes of a region that draws its order, each order makes.
-/
import Derived.Test.YthmmpfaghmoenaaDoorAmLoc
namespace Go.Am
open Go

variable {E : Env} {N : Nat} {ρ : Nat → Loc} {H : List AObj} {w : World}

theorem WR.mask (h : WR E N ρ H w) (p : Nat → Bool) : WR E N ρ (maskL p H) w := by
  have hk : ∀ (k : Nat) (o : AObj), (maskL p H)[k]? = some o → o = .dead ∨ H[k]? = some o := by
    intro k o ho
    rw [get_maskL] at ho
    cases hh : H[k]? with
    | none => rw [hh] at ho; cases ho
    | some x =>
      rw [hh] at ho
      simp only [Option.map_some, Option.some.injEq] at ho
      split at ho
      · exact .inr (by rw [ho])
      · exact .inl ho.symm
  refine h.sub _ hk fun k o ho => ?_
  rcases hk k o ho with rfl | h1
  · exact ltL_nil _
  · rw [len_maskL]; exact h.vals k o h1

/-- What is hidden from a call that turns nothing stays as it is. -/
theorem WR.unmask (h : WR E N ρ H w) {p : Nat → Bool} {w' : World} (h' : WR E N ρ (maskL p H) w') (g : Goes (maskL p H) ρ w (maskL p H) ρ w') : WR E N ρ H w' ∧ Goes H ρ w H ρ w' := by
  have own : ∀ b, Owned (maskL p H) ρ b → ∃ k o, p k = true ∧ H[k]? = some o ∧ o.own = true ∧ (ρ k).block = b := by
    rintro b ⟨k, o, hk, ho, hb⟩
    rw [get_maskL] at hk
    cases hh : H[k]? with
    | none => rw [hh] at hk; cases hk
    | some x =>
      rw [hh] at hk
      simp only [Option.map_some, Option.some.injEq] at hk
      split at hk
      · rename_i hp; subst hk; exact ⟨k, x, hp, hh, ho, hb⟩
      · subst hk; cases ho
  have sub : ∀ b, Owned (maskL p H) ρ b → Owned H ρ b := fun b hb => by
    obtain ⟨k, o, _, h1, h2, h3⟩ := own b hb
    exact ⟨k, o, h1, h2, h3⟩
  refine ⟨⟨h'.low, h.vals, fun k o hk => ?_, h.inj, h'.globs⟩, ⟨g.os, g.tape, g.output, g.size, fun b hb hn => g.same b hb (fun h => hn (sub b h)), fun _ _ h => h, fun _ _ => rfl, Nat.le_refl _⟩⟩
  by_cases hp : p k = true
  · exact h'.objs k o (by rw [get_maskL, hk]; simp [hp])
  · by_cases hd : o = .dead
    · subst hd; trivial
    · refine (h.objs k o hk).kept (h.vals k o hk) (fun _ _ => rfl) (g.same _ (h.block_lt hk hd) fun ho => ?_)
      obtain ⟨k2, o2, h1, h2, h3, h4⟩ := own _ ho
      have hne : k ≠ k2 := fun e => hp (by subst e; exact h1)
      cases hoo : o.own with
      | true => exact h.inj k k2 o o2 hk h2 hoo h3 hne h4.symm
      | false =>
        have h5 := h.own_ge h2 h3
        have h6 := h.objs k o hk
        cases o with
        | cells cs e m fz =>
          cases m with
          | ro => obtain ⟨_, C, z, _, _, hm⟩ := h6; simp only at hm; rw [h4] at h5; omega
          | rw => cases hoo
          | grown => cases hoo
        | map es c => cases hoo
        | alts as => cases hoo
        | iter s p => cases hoo
        | dead => exact hd rfl

theorem hideL_eq : ∀ (l : List Nat) (H : List AObj), hideL l H = maskL (fun k => !l.contains k) H
  | [], H => by
    apply List.ext_getElem?
    intro k
    rw [get_maskL]
    cases hk : H[k]? <;> simp [hideL, hk]
  | j :: l, H => by
    have := hideL_eq l (H.set j .dead)
    simp only [hideL, List.foldl_cons] at this ⊢
    rw [this]
    apply List.ext_getElem?
    intro k
    rw [get_maskL, get_maskL, List.getElem?_set]
    by_cases e : j = k
    · subst e
      by_cases hl : j < H.length
      · simp [hl]
      · simp [hl]
    · rw [if_neg e]
      cases hk : H[k]? with
      | none => rfl
      | some o => simp [Ne.symm e]

theorem maskL_id (l : List AObj) (p : Nat → Bool) (h : ∀ k, k < l.length → p k = true) : maskL p l = l := by
  apply List.ext_getElem?
  intro k
  rw [get_maskL]
  cases hk : l[k]? with
  | none => rfl
  | some o => simp [h k (List.getElem?_eq_some_iff.1 hk).1]

/-- What one operation does, and how it stands to those ahead of it. -/
structure SF (E : Env) (ops : List Oper) (n0 bef : Nat) (past : List Past) (o : Oper) (f : Fr) (H : List AObj) (v : V) (p : Past) (f' : Fr) (H' : List AObj) : Prop where
  idx : p.idx = past.length
  sz : p.sz = H.length
  mono : H.length ≤ H'.length
  keep : ∀ k, k < H.length → k ∉ p.tch → H'[k]? = H[k]?
  new : ∀ k, H.length ≤ k → k < H'.length → k ∈ p.tch
  sees : ∀ k, k ∈ p.tch → k < H.length → p.vis.sees k = true
  tlt : ∀ k, k ∈ p.tch → k < H'.length
  apart : ∀ q ∈ past, bef.testBit q.idx = false → (∀ k ∈ q.tch, p.vis.sees k = false) ∧ (∀ k ∈ p.tch, k < q.sz → q.vis.sees k = false)
  names : ∀ k, (∃ u, (u = v ∨ ∃ j ∈ p.tch, ∃ x, H'[j]? = some x ∧ u ∈ x.vals) ∧ u.all (fun j => !(j == k)) = false) → k < H'.length ∧ (k < n0 ∨ ∀ q ∈ past, bef.testBit q.idx = false → k ∉ q.tch)
  frame : f.set o.dst v = some f'
  exec : (wantedV f ops o = some false ∧ v = .undef ∧ H' = H ∧ p.tch = []) ∨
    (wantedV f ops o = some true ∧ ∀ (N : Nat) (ρ : Nat → Loc) (w : World) (a : Act), WR E N ρ (maskL p.vis.sees H) w → FR H.length ρ f a →
      Outs E.P (fun u w' => ∃ ρ', u = v.emb ρ' ∧ WR E N ρ' (maskL (fun k => p.vis.sees k || decide (H.length ≤ k)) H') w' ∧ Goes (maskL p.vis.sees H) ρ w (maskL (fun k => p.vis.sees k || decide (H.length ≤ k)) H') ρ' w' ∧ v.lt H'.length = true) ((execOp a.eval o).run E.P w))

theorem all_not {v : V} {p : Nat → Bool} {k : Nat} (h : v.all p = true) (hk : v.all (fun j => !(j == k)) = false) : p k = true := by
  cases hp : p k with
  | true => rfl
  | false =>
    have : v.all (fun j => !(j == k)) = true := all_mono p _ (fun j hj => by
      have : j ≠ k := fun e => by subst e; rw [hp] at hj; cases hj
      simp [this]) v h
    rw [this] at hk; cases hk

theorem hideOf_eq (bef : List Nat) (past : List Past) : hideOf bef past = (freeOf bef past).flatMap (·.tch) := by
  unfold hideOf
  split
  · rename_i h
    symm
    exact List.flatMap_eq_nil_iff.2 fun p hp => List.isEmpty_iff.1 (List.all_eq_true.1 h p (List.mem_filter.1 hp).1)
  · rfl

theorem tchOk2_eq (bef : List Nat) (past : List Past) (tch : List Nat) : tchOk2 bef past tch = tchOk (freeOf bef past) tch := by
  unfold tchOk2
  cases tch with
  | nil => simp [tchOk]
  | cons k r => simp

theorem tchOk_spec {free : List Past} {tch : List Nat} (h : tchOk free tch = true) {q : Past} (hq : q ∈ free) {k : Nat} (hk : k ∈ tch) (hlt : k < q.sz) : q.vis.sees k = false := by
  have := List.all_eq_true.1 (List.all_eq_true.1 h q hq) k hk
  simp only [Bool.or_eq_true, decide_eq_true_eq, Bool.not_eq_true'] at this
  rcases this with h | h
  · omega
  · exact h

theorem mem_freeOf {bef : List Nat} {past : List Past} {q : Past} (hq : q ∈ past) (hb : (bef.getD past.length 0).testBit q.idx = false) : q ∈ freeOf bef past := by
  unfold freeOf
  exact List.mem_filter.2 ⟨hq, by rw [hb]; rfl⟩

theorem evDrawn_step (ok : E.Ok) {C : Callee} (hC : Callee.Ok E C) {ops : List Oper} {n0 : Nat} {bef : List Nat} {o : Oper} {r : List Oper} {past : List Past} {f : Fr} {H : Hp} {res : Fr × Hp} {a : Act} (hw : WR E N ρ H.objs w) (hf : FR H.objs.length ρ f a)
    (h : evDrawn E C ops n0 bef (o :: r) past f H = some res) :
    ∃ v p f' H', SF E ops n0 (bef.getD past.length 0) past o f H.objs v p f' H'.objs ∧ Reach E N ρ H.objs w f' H' ∧ Mono H H' ∧ evDrawn E C ops n0 bef r (p :: past) f' H' = some res := by
  simp only [evDrawn, hideOf_eq, tchOk2_eq] at h
  split at h
  · cases h
  · rename_i hwant
    split at h
    · rename_i f' hs
      refine ⟨.undef, ⟨past.length, H.size, [], .only []⟩, f', H, ⟨rfl, rfl, Nat.le_refl _, fun _ _ _ => rfl, fun k h1 h2 => by omega, fun _ h => (by cases h), fun _ h => (by cases h), fun q _ _ => ⟨fun k _ => rfl, fun k hk => by cases hk⟩, ?_, hs, .inl ⟨hwant, rfl, rfl, rfl⟩⟩, ⟨ρ, _, w, hf.set (v := .undef) rfl hs, hw, Goes.refl _ _ _⟩, Mono.refl _, h⟩
      rintro k ⟨u, hu | ⟨j, hj, _⟩, hk⟩
      · subst hu; cases hk
      · cases hj
    · cases h
  · rename_i hwant
    split at h
    · cases h
    · rename_i g args H1 hop
      have hr := opV_run ok hw hf (wr := H.wr) (esc := H.esc) hop
      obtain ⟨hH1, hargs⟩ : H1.objs = H.objs ∧ ltL H.objs.length args := by cases hr with | enter h1 h2 h3 => exact ⟨h2, h3⟩
      have hm1 := opV_mono hop
      by_cases hcall : (named f o).isEmpty = true
      · rw [if_pos hcall] at h
        have hcall' : named f o = [] := List.isEmpty_iff.1 hcall
        have hrun : ∀ (vis : Nat → Bool) (N : Nat) (ρ : Nat → Loc) (w : World) (a : Act), WR E N ρ (maskL vis H.objs) w → FR H.objs.length ρ f a → (execOp a.eval o).run E.P w = .ok (.enter g (args.map (V.emb ρ)).toArray) w := by
          intro vis N ρ w a hw hf
          obtain ⟨⟨H'', h1, _⟩, _⟩ := opV_loc (E := E) (vis := vis) (H := H) (W := []) (f := f) (o := o) (by rw [hcall']; intro k hk; cases hk) (by intro _ k hk; rw [hcall'] at hk; cases hk) _ _ hop
          have hr := opV_run ok (H := maskL vis H.objs) hw (by rw [len_maskL]; exact hf) (wr := H.wr) (esc := H.esc) h1
          cases hr with
          | enter h1 h2 h3 => exact h1
        split at h
        · -- a call that turns nothing
          rename_i v hc
          split at h
          · rename_i f' hs
            rw [hH1, hideL_eq] at hc
            have hargs' : ltL (maskL (fun k => !((freeOf bef past).flatMap (·.tch)).contains k) H.objs).length args := by rw [len_maskL]; exact hargs
            obtain ⟨hgood, hcall2⟩ := hC g args _ _ hc hargs' N ρ w (hw.mask _)
            have hflat : v.flat = true := hgood
            obtain ⟨e, w', rfl, h3, h4⟩ := Calls.exist hcall2
            obtain ⟨h5, h6⟩ := hw.unmask h3 h4
            refine ⟨v, ⟨past.length, H.size, [], .but ((freeOf bef past).flatMap (·.tch))⟩, f', H1, ⟨rfl, rfl, Nat.le_of_eq (by rw [hH1]), fun _ _ _ => by rw [hH1], fun k h1 h2 => (by rw [hH1] at h2; omega), fun _ h => (by cases h), fun _ h => (by cases h), fun q hq hb => ⟨fun k hk => ?_, fun k hk => by cases hk⟩, ?_, hs, .inr ⟨hwant, ?_⟩⟩, ⟨ρ, _, w', by rw [hH1]; exact hf.set (lt_flat hflat _) hs, by rw [hH1]; exact h5, by rw [hH1]; exact h6⟩, hm1, h⟩
            · simp only [Vis.sees, Bool.not_eq_false', List.contains_iff_mem]
              exact List.mem_flatMap.2 ⟨q, mem_freeOf hq hb, hk⟩
            · rintro k ⟨u, hu | ⟨j, hj, _⟩, hk⟩
              · subst hu
                have := all_not (p := fun _ => false) hflat hk
                cases this
              · cases hj
            · intro N ρ w a hw hf
              have hgc := hC g args _ _ hc hargs' N ρ w hw
              rw [hrun _ N ρ w a hw hf]
              simp only [Outs]
              refine hgc.2.mono fun e w' ⟨he, h7, h8⟩ => ⟨_, he, ρ, rfl, ?_, ?_, by rw [hH1]; exact lt_flat hflat _⟩
              · rw [hH1, maskL_low (Nat.le_refl _)]; exact h7
              · rw [hH1, maskL_low (Nat.le_refl _)]; exact h8
          · cases h
        · -- a call that turns memory
          rename_i v H2 hc
          split at h
          · rename_i hok
            simp only [Bool.and_eq_true] at hok
            have hhide : (freeOf bef past).flatMap (·.tch) = [] := List.isEmpty_iff.1 hok.1
            split at h
            · rename_i f' hs
              rw [hhide, hH1] at hc
              simp only [hideL, List.foldl_nil] at hc
              obtain ⟨⟨hlt, hmono⟩, hcall2⟩ := hC g args _ _ hc hargs N ρ w hw
              obtain ⟨e, w', ρ', rfl, h3, h4⟩ := Calls.exist hcall2
              have hlen : H.objs.length ≤ H2.objs.length := hmono.len
              have haft : (H1.after (.eff v H2)).2.objs = H2.objs := rfl
              refine ⟨v, _, f', (H1.after (.eff v H2)).2, ⟨rfl, rfl, hlen, fun k hk hn => ?_, fun k h1 h2 => ?_, fun _ _ _ => ?_, fun k hk => ?_, fun q hq hb => ⟨fun k hk => ?_, fun k hk hlt => tchOk_spec hok.2 (mem_freeOf hq hb) hk hlt⟩, ?_, hs, .inr ⟨hwant, ?_⟩⟩, ⟨ρ', _, w', (hf.mono h4.len h4.ext).set hlt hs, h3, h4⟩, ?_, h⟩
              · refine hmono.same k ?_ hk
                by_cases hlt2 : k < H2.wr
                · exact hlt2
                · exact absurd (List.mem_range'_1.2 ⟨by omega, by rw [haft] at *; omega⟩) hn
              · rw [haft] at h2
                exact List.mem_range'_1.2 ⟨by simp only [Hp.size]; omega, by simp only [Hp.size]; omega⟩
              · rfl
              · have := List.mem_range'_1.1 hk
                rw [haft]
                simp only [Hp.size] at this
                omega
              · have : k ∈ (freeOf bef past).flatMap (·.tch) := List.mem_flatMap.2 ⟨q, mem_freeOf hq hb, hk⟩
                rw [hhide] at this; cases this
              · rintro k ⟨u, hu, hk⟩
                have hul : u.lt H2.objs.length = true := by
                  rcases hu with rfl | ⟨j, _, x, hx, hm⟩
                  · exact hlt
                  · exact h3.vals j x hx u hm
                refine ⟨by have := all_not hul hk; simpa [haft] using this, .inr fun q hq hb hkq => ?_⟩
                have : k ∈ (freeOf bef past).flatMap (·.tch) := List.mem_flatMap.2 ⟨q, mem_freeOf hq hb, hkq⟩
                rw [hhide] at this; cases this
              · intro N ρ w a hw hf
                have e1 : maskL (Vis.but []).sees H.objs = H.objs := maskL_id _ _ (fun _ _ => rfl)
                have e2 : maskL (fun k => (Vis.but []).sees k || decide (H.objs.length ≤ k)) (H1.after (.eff v H2)).2.objs = H2.objs := maskL_id _ _ (fun _ _ => rfl)
                rw [hrun _ N ρ w a hw hf]
                rw [e1] at hw
                simp only [Outs]
                refine (hC g args _ _ hc hargs N ρ w hw).2.mono fun e w' ⟨ρ', he, h7, h8⟩ => ⟨_, he, ρ', rfl, ?_, ?_, hlt⟩
                · rw [e2]; exact h7
                · rw [e1, e2]; exact h8
              · exact hm1.trans (after_mono (c := .eff v H2) (by rw [hH1]; exact ⟨hlt, hmono⟩))
            · cases h
          · cases h
        · cases h
      · rw [if_neg hcall] at h
        cases h
    · -- one operation
      rename_i r0 H' hne hop
      have hm1 := opV_mono hop
      obtain ⟨tch, htch0⟩ : ∃ tch, tch = (if writes o = true then (named f o).filter (fun k => decide (k < H.size)) else []) ++ List.range' H.size (H'.size - H.size) := ⟨_, rfl⟩
      simp only [← htch0] at h
      split at h
      · rename_i hok
        simp only [Bool.and_eq_true] at hok
        obtain ⟨⟨hvis, htch⟩, hnames⟩ := hok
        split at h
        · rename_i f' hs
          have hlc := opV_loc (E := E) (vis := (Vis.only (named f o)).sees) (H := H) (W := if writes o then named f o else []) (f := f) (o := o) (fun k hk => by simp [Vis.sees, hk]) (fun hw k hk => by rw [if_pos hw]; exact hk) _ _ hop
          obtain ⟨⟨H'', hop2, hH''⟩, hlen, hkeep⟩ := hlc
          have hr := opV_run ok hw hf (wr := H.wr) (esc := H.esc) hop
          have hboth : ∃ ρ' w', WR E N ρ' H'.objs w' ∧ Goes H.objs ρ w H'.objs ρ' w' ∧ (match r0 with | .val v => v | _ => V.undef).lt H'.objs.length = true := by
            cases hr with
            | val ρ' w' h1 h2 h3 h4 => exact ⟨ρ', w', h2, h3, h4⟩
            | skip w' h1 h2 h3 => exact ⟨ρ, w', h2, h3, rfl⟩
            | enter h1 h2 h3 => exact (hne _ _ rfl).elim
          obtain ⟨ρ', w', h2, h3, h4⟩ := hboth
          refine ⟨_, _, f', H', ⟨rfl, rfl, hlen, fun k hk hn => ?_, fun k h1 h5 => ?_, fun k hk hl => ?_, fun k hk => ?_, fun q hq hb => ⟨fun k hk => ?_, fun k hk hlt => tchOk_spec htch (mem_freeOf hq hb) hk hlt⟩, ?_, hs, .inr ⟨hwant, ?_⟩⟩, ⟨ρ', _, w', (hf.mono h3.len h3.ext).set h4 hs, h2, h3⟩, hm1, h⟩
          · refine hkeep k hk fun hw => hn ?_
            simp only [htch0]
            split at hw
            · rename_i hwr
              rw [if_pos hwr]
              exact List.mem_append_left _ (List.mem_filter.2 ⟨hw, decide_eq_true (by simpa [Hp.size] using hk)⟩)
            · cases hw
          · simp only [htch0]
            exact List.mem_append_right _ (List.mem_range'_1.2 ⟨h1, by simp only [Hp.size]; omega⟩)
          · simp only [htch0] at hk
            rcases List.mem_append.1 hk with hk | hk
            · split at hk
              · have := (List.mem_filter.1 hk).1
                simp [Vis.sees, this]
              · cases hk
            · have := List.mem_range'_1.1 hk
              simp only [Hp.size] at this
              omega
          · simp only [htch0] at hk
            rcases List.mem_append.1 hk with hk | hk
            · split at hk
              · have := of_decide_eq_true (List.mem_filter.1 hk).2
                simp only [Hp.size] at this
                omega
              · cases hk
            · have := List.mem_range'_1.1 hk
              simp only [Hp.size] at this
              omega
          · cases hse : (Vis.only (named f o)).sees k with
            | false => rfl
            | true =>
              exfalso
              have hkn : k ∈ named f o := by simpa [Vis.sees] using hse
              have := List.all_eq_true.1 hvis k hkn
              have hin : k ∈ (freeOf bef past).flatMap (·.tch) := List.mem_flatMap.2 ⟨q, mem_freeOf hq hb, hk⟩
              simp only [Bool.not_eq_true', List.contains_eq_mem, decide_eq_false_iff_not] at this
              exact this hin
          · rintro k ⟨u, hu, hk⟩
            have hul : u.lt H'.objs.length = true := by
              rcases hu with rfl | ⟨j, _, x, hx, hm⟩
              · exact h4
              · exact h2.vals j x hx u hm
            refine ⟨by have := all_not hul hk; simpa using this, ?_⟩
            by_cases hk0 : k < n0
            · exact .inl hk0
            · right
              intro q hq hb hkq
              have hin : k ∈ (freeOf bef past).flatMap (·.tch) := List.mem_flatMap.2 ⟨q, mem_freeOf hq hb, hkq⟩
              have hin2 : k ∈ ((freeOf bef past).flatMap (·.tch)).filter fun k => decide (n0 ≤ k) := List.mem_filter.2 ⟨hin, by simp; omega⟩
              unfold namesOk at hnames
              simp only [Bool.or_eq_true, Bool.and_eq_true] at hnames
              rcases hnames with he | ⟨h6, h7⟩
              · rw [List.isEmpty_iff] at he; rw [he] at hin2; cases hin2
              · have hpu : u.all (fun k => !(((freeOf bef past).flatMap (·.tch)).filter fun k => decide (n0 ≤ k)).contains k) = true := by
                  rcases hu with rfl | ⟨j, hj, x, hx, hm⟩
                  · cases r0 with
                    | val v => exact h6
                    | skip => rfl
                    | enter g as => rfl
                  · have := List.all_eq_true.1 h7 j hj
                    rw [hx] at this
                    exact List.all_eq_true.1 this u hm
                have := all_not hpu hk
                simp only [Bool.not_eq_true', List.contains_eq_mem, decide_eq_false_iff_not] at this
                exact this hin2
          · intro N ρ w a hw hf
            have hr := opV_run ok (H := maskL (Vis.only (named f o)).sees H.objs) hw (by rw [len_maskL]; exact hf) (wr := H.wr) (esc := H.esc) hop2
            cases hr with
            | val ρ' w' h1 h2 h3 h4 =>
              rw [h1]
              rw [hH''] at h2 h3 h4
              exact ⟨ρ', rfl, h2, h3, by simpa using h4⟩
            | skip w' h1 h2 h3 =>
              rw [h1]
              rw [hH''] at h2 h3
              exact ⟨ρ, rfl, h2, h3, rfl⟩
            | enter h1 h2 h3 => exact (hne _ _ rfl).elim
        · cases h
      · cases h


/-! ### The whole region -/

mutual
theorem all_of_names {p : Nat → Bool} : ∀ {u : V}, (∀ k, u.all (fun i => !(i == k)) = false → p k = true) → u.all p = true
  | .bool _, _ | .int _ _, _ | .str _, _ | .nilp, _ | .gptr _ _, _ | .nils, _ | .nilm, _ | .nilf, _ | .nili, _ => rfl
  | .ptr k _, h => h k (by simp [V.all])
  | .slice k _ _ _, h => h k (by simp [V.all])
  | .map k, h => h k (by simp [V.all])
  | .func f a b, h => by
    simp only [V.all, Bool.and_eq_true]
    exact ⟨allL_of_names fun k hk => h k (by simp [V.all, hk]), allL_of_names fun k hk => h k (by simp [V.all, hk])⟩
  | .iface t v, h => by simp only [V.all]; exact all_of_names fun k hk => h k (by simp [V.all, hk])
  | .agg cs, h => by simp only [V.all]; exact allL_of_names fun k hk => h k (by simp [V.all, hk])
  | .tup cs, h => by simp only [V.all]; exact allL_of_names fun k hk => h k (by simp [V.all, hk])
theorem allL_of_names {p : Nat → Bool} : ∀ {l : List V}, (∀ k, V.allL (fun i => !(i == k)) l = false → p k = true) → V.allL p l = true
  | [], _ => rfl
  | v :: r, h => by
    simp only [V.allL, Bool.and_eq_true]
    exact ⟨all_of_names fun k hk => h k (by simp [V.allL, hk]), allL_of_names fun k hk => h k (by simp [V.allL, hk])⟩
end

def pastAt (past : List Past) (p : Nat → Past) (j : Nat) : List Past := ((List.range j).map p).reverse ++ past

theorem pastAt_succ (past : List Past) (p0 : Past) (p : Nat → Past) (j : Nat) : pastAt past (fun | 0 => p0 | j + 1 => p j) (j + 1) = pastAt (p0 :: past) p j := by
  simp only [pastAt, List.range_succ_eq_map, List.map_cons, List.map_map, List.reverse_cons, List.append_assoc, List.singleton_append]
  rfl

theorem evDrawn_trace (ok : E.Ok) {C : Callee} (hC : Callee.Ok E C) {ops : List Oper} {n0 : Nat} {bef : List Nat} : ∀ (r : List Oper) (past : List Past) (f : Fr) (H : Hp) (f' : Fr) (H' : Hp) (ρ : Nat → Loc) (a : Act) (w : World), WR E N ρ H.objs w → FR H.objs.length ρ f a →
    evDrawn E C ops n0 bef r past f H = some (f', H') →
    ∃ (F : Nat → Fr) (M : Nat → List AObj) (v : Nat → V) (p : Nat → Past), F 0 = f ∧ M 0 = H.objs ∧ F r.length = f' ∧ M r.length = H'.objs ∧ Mono H H' ∧ Reach E N ρ H.objs w f' H' ∧
      ∀ j o, r[j]? = some o → SF E ops n0 (bef.getD (past.length + j) 0) (pastAt past p j) o (F j) (M j) (v j) (p j) (F (j + 1)) (M (j + 1))
  | [], past, f, H, f', H', ρ, a, w, hw, hf, h => by
    simp only [evDrawn, Option.some.injEq, Prod.mk.injEq] at h
    obtain ⟨rfl, rfl⟩ := h
    exact ⟨fun _ => f, fun _ => H.objs, fun _ => .undef, fun _ => default, rfl, rfl, rfl, rfl, Mono.refl _, ⟨ρ, a, w, hf, hw, Goes.refl _ _ _⟩, fun j o ho => by simp at ho⟩
  | o :: r, past, f, H, f', H', ρ, a, w, hw, hf, h => by
    obtain ⟨v0, p0, f1, H1, hsf, ⟨ρ1, a1, w1, hf1, hw1, hg1⟩, hm1, h1⟩ := evDrawn_step ok hC hw hf h
    obtain ⟨F, M, v, p, e1, e2, e3, e4, hm2, hb2, hall⟩ := evDrawn_trace ok hC r (p0 :: past) f1 H1 f' H' ρ1 a1 w1 hw1 hf1 h1
    refine ⟨fun | 0 => f | j + 1 => F j, fun | 0 => H.objs | j + 1 => M j, fun | 0 => v0 | j + 1 => v j, fun | 0 => p0 | j + 1 => p j, rfl, rfl, e3, e4, hm1.trans hm2, hb2.before hg1, fun j oj ho => ?_⟩
    cases j with
    | zero =>
      simp only [List.getElem?_cons_zero, Option.some.injEq] at ho
      subst ho
      simp only [pastAt, List.range_zero, List.map_nil, List.reverse_nil, List.nil_append, Nat.add_zero, e1, e2]
      exact hsf
    | succ j =>
      have := hall j oj (by simpa using ho)
      rw [pastAt_succ]
      simp only [List.length_cons] at this
      rw [show past.length + (j + 1) = past.length + 1 + j by omega]
      exact this

theorem befs_keep : ∀ (r : List Oper) (acc : List Nat) (k : Nat), k < acc.length → (befs r acc)[k]? = acc[k]?
  | [], acc, k, _ => rfl
  | o :: r, acc, k, h => by
    simp only [befs]
    rw [befs_keep r _ k (by simp; omega), List.getElem?_append_left h]

theorem befs_take : ∀ (r : List Oper) (acc : List Nat), (befs r acc).take acc.length = acc := by
  intro r acc
  apply List.ext_getElem?
  intro k
  rw [List.getElem?_take]
  split
  · rename_i h; exact befs_keep r acc k h
  · rename_i h; rw [List.getElem?_eq_none (by omega)]

theorem befs_at : ∀ (r : List Oper) (acc : List Nat) (j : Nat) (o : Oper), r[j]? = some o → (befs r acc)[acc.length + j]? = some (befOne ((befs r acc).take (acc.length + j)) o)
  | [], acc, j, o, h => by simp at h
  | x :: r, acc, 0, o, h => by
    simp only [List.getElem?_cons_zero, Option.some.injEq] at h
    subst h
    simp only [befs, Nat.add_zero]
    rw [befs_keep r _ acc.length (by simp)]
    have h1 := befs_take r (acc ++ [befOne acc x])
    have h2 : (befs r (acc ++ [befOne acc x])).take acc.length = acc := by
      have : ((befs r (acc ++ [befOne acc x])).take (acc ++ [befOne acc x]).length).take acc.length = acc := by rw [h1]; simp
      rw [List.take_take] at this
      simpa using this
    rw [h2]
    simp
  | x :: r, acc, j + 1, o, h => by
    simp only [befs]
    have := befs_at r (acc ++ [befOne acc x]) j o (by simpa using h)
    simp only [List.length_append, List.length_singleton] at this
    rw [show acc.length + (j + 1) = acc.length + 1 + j by omega]
    exact this

theorem befOne_test (acc : List Nat) (o : Oper) (i : Nat) : (befOne acc o).testBit i = true ↔ ∃ e ∈ o.after, Region.binds .any e = true ∧ (i = e.on ∨ (acc.getD e.on 0).testBit i = true) := by
  have key : ∀ (l : List Edge) (s : Nat), (l.foldl (fun s e => if Region.binds .any e then s ||| 2 ^ e.on ||| acc.getD e.on 0 else s) s).testBit i = true ↔ s.testBit i = true ∨ ∃ e ∈ l, Region.binds .any e = true ∧ (i = e.on ∨ (acc.getD e.on 0).testBit i = true) := by
    intro l
    induction l with
    | nil => intro s; simp
    | cons e l ih =>
      intro s
      simp only [List.foldl_cons]
      rw [ih]
      by_cases hb : Region.binds .any e = true
      · simp only [hb, if_true, Nat.testBit_or, Bool.or_eq_true, Nat.testBit_two_pow, decide_eq_true_eq, List.mem_cons, exists_eq_or_imp, true_and]
        constructor
        · rintro (((h | h) | h) | h)
          · exact .inl h
          · exact .inr (.inl (.inl h.symm))
          · exact .inr (.inl (.inr h))
          · exact .inr (.inr h)
        · rintro (h | (h | h) | h)
          · exact .inl (.inl (.inl h))
          · exact .inl (.inl (.inr h.symm))
          · exact .inl (.inr h)
          · exact .inr h
      · simp only [hb, Bool.false_eq_true, if_false, List.mem_cons, exists_eq_or_imp, false_and, false_or]
  unfold befOne
  rw [key]
  simp

theorem lex_facts {ops : Array Oper} : ∀ (fuel k : Nat) (listed : Array Bool), Region.lexFrom .any ops fuel k listed = true → listed.size = ops.size → (∀ x, listed.getD x false = true → x < k) → ∀ j, k ≤ j → j < k + fuel →
    ∃ l : Array Bool, l.size = ops.size ∧ (∀ x, l.getD x false = true → x < j) ∧ j ∈ Region.ready .any ops l ∧ Region.free .any ops l j = true
  | 0, k, listed, _, _, _, j, h1, h2 => by omega
  | fuel + 1, k, listed, h, hs, hl, j, h1, h2 => by
    simp only [Region.lexFrom, Bool.and_eq_true] at h
    obtain ⟨⟨hr, hf⟩, h3⟩ := h
    by_cases e : k = j
    · subst e
      exact ⟨listed, hs, hl, by simpa using hr, hf⟩
    · refine lex_facts fuel (k + 1) _ h3 (by simpa using hs) (fun x hx => ?_) j (by omega) (by omega)
      by_cases e2 : k = x
      · omega
      · rw [getD_set_ne false e2] at hx
        have := hl x hx
        omega

theorem drawnOk_facts {ops : List Oper} {bs : List Nat} {arr : Array Oper} : ∀ (r : List Oper) (n : Nat), drawnOkGo ops bs arr r n = true → ∀ j o, r[j]? = some o →
    notSelect o.op = true ∧ (∀ e ∈ o.after, Region.binds .any e = true → e.on < n + j) ∧ (∀ d, o.dst = some d → defAt ops d = some (n + j)) ∧
    ∀ t ∈ o.looksAt arr, ∀ d, defAt ops t = some d → d = n + j ∨ (d < n + j ∧ (bs.getD (n + j) 0).testBit d = true) ∨ (n + j < d ∧ (bs.getD d 0).testBit (n + j) = true)
  | [], n, _, j, o, ho => by simp at ho
  | o0 :: r, n, h, j, o, ho => by
    simp only [drawnOkGo, Bool.and_eq_true] at h
    obtain ⟨⟨⟨⟨h1, h2⟩, h3⟩, h4⟩, h5⟩ := h
    cases j with
    | zero =>
      simp only [List.getElem?_cons_zero, Option.some.injEq] at ho
      subst ho
      simp only [Nat.add_zero]
      refine ⟨h1, fun e he hb => ?_, fun d hd => ?_, fun t ht d hd => ?_⟩
      · rw [Array.all_eq_true_iff_forall_mem] at h2
        have := h2 e he
        simpa [hb] using this
      · rw [hd] at h3
        simpa using h3
      · have := List.all_eq_true.1 h4 t ht
        rw [hd] at this
        simp only [Bool.or_eq_true, beq_iff_eq] at this
        rcases this with h | h
        · exact .inl h
        · split at h
          · rename_i hlt; exact .inr (.inl ⟨hlt, h⟩)
          · rename_i hlt
            by_cases e : d = n
            · exact .inl e
            · exact .inr (.inr ⟨by omega, h⟩)
    | succ j =>
      have := drawnOk_facts r (n + 1) h5 j o (by simpa using ho)
      rw [show n + 1 + j = n + (j + 1) by omega] at this
      exact this

/-- A region that draws its order, as the evaluator has it. -/
theorem evDrawn_run (ok : E.Ok) {C : Callee} (hC : Callee.Ok E C) {id : Nat} {ops : Array Oper} (hB : drawnOk ops.toList = true) {f f' : Fr} {H H' : Hp} {a : Act} (hw : WR E N ρ H.objs w) (hf : FR H.objs.length ρ f a)
    (h : evDrawn E C ops.toList H.objs.length (befs ops.toList []) ops.toList [] f H = some (f', H')) :
    (Mono H H' ∧ Reach E N ρ H.objs w f' H') ∧ ∀ {Q : Exit → Act → World → Prop}, Ends E N ρ H.objs w (Q .normal) f' H' → (Code.region id ops true).wp E.P Q a w := by
  obtain ⟨F, M, v, p, e1, e2, e3, e4, hm, hreach, hall⟩ := evDrawn_trace ok hC ops.toList [] f H f' H' ρ a w hw hf h
  have hdf := drawnOk_facts ops.toList 0 hB
  simp only [Nat.zero_add] at hdf
  let b := befs ops.toList []
  have hbe : ∀ j o, ops.toList[j]? = some o → ∀ i, (b.getD j 0).testBit i = true ↔ ∃ e ∈ o.after, Region.binds .any e = true ∧ (i = e.on ∨ ((b.take j).getD e.on 0).testBit i = true) := by
    intro j o ho i
    have := befs_at ops.toList [] j o ho
    simp only [List.length_nil, Nat.zero_add] at this
    have e : b.getD j 0 = befOne (b.take j) o := by simp only [List.getD_eq_getElem?_getD]; show (b[j]?).getD 0 = _; rw [this]; rfl
    rw [e]
    exact befOne_test _ o i
  have hedge : ∀ j o, ops.toList[j]? = some o → ∀ e ∈ o.after, Region.binds .any e = true → e.on < j := fun j o ho => (hdf j o ho).2.1
  have hget : ∀ j o e, ops.toList[j]? = some o → e < j → (b.take j).getD e 0 = b.getD e 0 := by
    intro j o e _ he
    simp only [List.getD_eq_getElem?_getD, List.getElem?_take, he, if_true]
  let T : DT E ops.toList := { F := F, M := M, v := v, tch := fun i => (p i).tch, vis := fun i => (p i).vis.sees, bef := fun j i => decide (j < ops.toList.length) && (b.getD j 0).testBit i }
  have hex : ∀ i, i < ops.toList.length → ∃ o, ops.toList[i]? = some o := fun i hi => ⟨_, List.getElem?_eq_getElem hi⟩
  have hsf : ∀ j o, ops.toList[j]? = some o → SF E ops.toList H.objs.length (b.getD j 0) (pastAt [] p j) o (F j) (M j) (v j) (p j) (F (j + 1)) (M (j + 1)) := by
    intro j o ho
    have := hall j o ho
    simpa using this
  have hidx : ∀ j, j < ops.toList.length → (p j).idx = j ∧ (p j).sz = (M j).length := by
    intro j hj
    obtain ⟨o, ho⟩ := hex j hj
    have := hsf j o ho
    exact ⟨by rw [this.idx]; simp [pastAt], this.sz⟩
  have hpast : ∀ i j, i < j → p i ∈ pastAt [] p j := by
    intro i j hij
    simp only [pastAt, List.append_nil, List.mem_reverse, List.mem_map, List.mem_range]
    exact ⟨i, hij, rfl⟩
  have hM0 : (T.M 0).length = H.objs.length := by show (M 0).length = _; rw [e2]
  have hmono : ∀ i, i < ops.toList.length → (M i).length ≤ (M (i + 1)).length := by
    intro i hi
    obtain ⟨o, ho⟩ := hex i hi
    exact (hsf i o ho).mono
  have hnew : ∀ i k, i < ops.toList.length → T.fresh i k = true → k ∈ (p i).tch := by
    intro i k hi hk
    obtain ⟨o, ho⟩ := hex i hi
    have := DT.fresh_lt hk
    exact (hsf i o ho).new k this.1 this.2
  have hbirth : ∀ n, n ≤ ops.toList.length → ∀ k, k < (M n).length → k < (M 0).length ∨ ∃ i, i < n ∧ T.fresh i k = true := by
    intro n
    induction n with
    | zero => intro _ k hk; exact .inl hk
    | succ n ih =>
      intro hn k hk
      by_cases hlt : k < (M n).length
      · rcases ih (by omega) k hlt with h | ⟨i, hi, h⟩
        · exact .inl h
        · exact .inr ⟨i, by omega, h⟩
      · exact .inr ⟨n, by omega, by simp [DT.fresh]; exact ⟨Nat.le_of_not_lt hlt, hk⟩⟩
  have hnames : ∀ j o, ops.toList[j]? = some o → ∀ u, (u = v j ∨ ∃ i ∈ (p j).tch, ∃ x, (M (j + 1))[i]? = some x ∧ u ∈ x.vals) →
      u.all (fun k => decide (k < (T.M 0).length) || (List.range (j + 1)).any fun i => T.fresh i k && (i == j || T.bef j i)) = true := by
    intro j o ho u hu
    have hj : j < ops.toList.length := (List.getElem?_eq_some_iff.1 ho).1
    -- a value all of whose names pass
    have main : ∀ k, u.all (fun i => !(i == k)) = false → (decide (k < (T.M 0).length) || (List.range (j + 1)).any fun i => T.fresh i k && (i == j || T.bef j i)) = true := by
      intro k hk
      obtain ⟨hlt, hor⟩ := (hsf j o ho).names k ⟨u, hu, hk⟩
      simp only [Bool.or_eq_true, decide_eq_true_eq, List.any_eq_true, List.mem_range, Bool.and_eq_true, beq_iff_eq]
      rcases hbirth (j + 1) hj k hlt with h | ⟨i, hi, h⟩
      · exact .inl h
      · by_cases hk0 : k < H.objs.length
        · exact .inl (by rw [hM0]; exact hk0)
        · rcases hor with h0 | hor
          · exact absurd h0 hk0
          · refine .inr ⟨i, hi, h, ?_⟩
            by_cases e : i = j
            · exact .inl e
            · right
              cases hbb : (b.getD j 0).testBit i with
              | true => simp only [T, hj, decide_true, hbb, Bool.and_true]
              | false =>
                have hil : i < ops.toList.length := by omega
                have := hor (p i) (hpast i j (by omega)) (by rw [(hidx i hil).1]; exact hbb)
                exact absurd (hnew i k hil h) this
    exact all_of_names main
  have good : T.Good := by
    refine ⟨hmono, fun i k hi hk hn => ?_, hnew, fun i k hi hk hl => ?_, fun i k hi hk => ?_, fun i j hij hj hb => ?_, fun j hj => ?_, fun j k o hj hk ho w hw => ?_, fun i o ho => (hsf i o ho).frame, fun j i hj hb => ?_, fun j o ho e he hb => ?_, fun i j oi oj hij hoi hoj hb => ?_, fun j o cs bb ho => ?_, fun i o ho => ?_⟩
    · obtain ⟨o, ho⟩ := hex i hi; exact (hsf i o ho).keep k hk hn
    · obtain ⟨o, ho⟩ := hex i hi; exact (hsf i o ho).sees k hk hl
    · obtain ⟨o, ho⟩ := hex i hi; exact (hsf i o ho).tlt k hk
    · obtain ⟨o, ho⟩ := hex j hj
      have hil : i < ops.toList.length := by omega
      have hb' : (b.getD j 0).testBit i = false := by
        simp only [T, hj, decide_true, Bool.true_and] at hb; exact hb
      have := (hsf j o ho).apart (p i) (hpast i j hij) (by rw [(hidx i hil).1]; exact hb')
      rw [(hidx i hil).2] at this
      exact this
    · obtain ⟨o, ho⟩ := hex j hj
      exact hnames j o ho _ (.inl rfl)
    · obtain ⟨oj, hoj⟩ := hex j hj
      exact hnames j oj hoj w (.inr ⟨k, hk, o, ho, hw⟩)
    · obtain ⟨o, ho⟩ := hex j hj
      simp only [T, hj, decide_true, Bool.true_and] at hb
      obtain ⟨e, he, hbi, hor⟩ := (hbe j o ho i).1 hb
      have hlt := hedge j o ho e he hbi
      refine ⟨o, ho, e, he, hbi, hlt, ?_⟩
      rcases hor with h | h
      · exact .inl h
      · right
        rw [hget j o e.on ho hlt] at h
        have : e.on < ops.toList.length := by omega
        simp only [T, this, decide_true, Bool.true_and]
        exact h
    · have hj : j < ops.toList.length := (List.getElem?_eq_some_iff.1 ho).1
      refine ⟨hedge j o ho e he hb, ?_⟩
      simp only [T, hj, decide_true, Bool.true_and]
      exact (hbe j o ho e.on).2 ⟨e, he, hb, .inl rfl⟩
    · have hj : j < ops.toList.length := (List.getElem?_eq_some_iff.1 hoj).1
      obtain ⟨_, _, hdi, hli⟩ := hdf i oi hoi
      obtain ⟨_, _, hdj, hlj⟩ := hdf j oj hoj
      simp only [T, hj, decide_true, Bool.true_and] at hb
      have ha : ∀ d, oi.dst = some d → d ∉ oj.looksAt ops.toList.toArray := by
        intro d hd hm
        rcases hlj d (by simpa using hm) i (hdi d hd) with h | ⟨_, h⟩ | ⟨h, _⟩
        · omega
        · rw [hb] at h; cases h
        · omega
      have hc : ∀ d, oj.dst = some d → d ∉ oi.looksAt ops.toList.toArray := by
        intro d hd hm
        rcases hli d (by simpa using hm) j (hdj d hd) with h | ⟨h, _⟩ | ⟨_, h⟩
        · omega
        · omega
        · rw [hb] at h; cases h
      have hne : ∀ d, oi.dst = some d → oj.dst ≠ some d := by
        intro d hd hd'
        have := (hdi d hd).symm.trans (hdj d hd')
        simp only [Option.some.injEq] at this
        omega
      unfold Oper.apart
      simp only [Bool.and_eq_true]
      constructor
      · cases hd : oi.dst with
        | none => rfl
        | some d =>
          have h1 := ha d hd
          have h2 := hne d hd
          simp only [Bool.and_eq_true, Bool.not_eq_true', bne_iff_ne, ne_eq]
          exact ⟨by simpa using h1, h2⟩
      · cases hd : oj.dst with
        | none => rfl
        | some d =>
          have h1 := hc d hd
          simpa using h1
    · intro hop
      have := (hdf j o ho).1
      rw [hop] at this
      cases this
    · rcases (hsf i o ho).exec with ⟨h1, h2, h3, h4⟩ | h
      · exact .inl ⟨h1, h2, h3, h4⟩
      · exact .inr h
  have hfin : ∀ {Q : Exit → Act → World → Prop}, Ends E N ρ H.objs w (Q .normal) f' H' → (Code.region id ops true).wp E.P Q a w := by
    intro Q hQ
    have := DT.region (id := id) good ok.mixed (N := N) (ρ := ρ) (a := a) (w := w) (by show FR (M 0).length ρ (F 0) a; rw [e1, e2]; exact hf) (by show WR E N ρ (M 0) w; rw [e2]; exact hw) (Q := Q) (fun ρ' a' w' h1 h2 h3 => by
      refine hQ ρ' a' w' ?_ ?_ ?_
      · rw [← e3, ← e4]; exact h1
      · rw [← e4]; exact h2
      · rw [← e4, ← e2]; exact h3)
    simpa using this
  exact ⟨⟨hm, hreach⟩, hfin⟩

end Go.Am
