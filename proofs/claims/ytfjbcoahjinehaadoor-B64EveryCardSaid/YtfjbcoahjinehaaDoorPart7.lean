/-
  Texts of this session, one behind the other: SySound15, SySound16, SyLoop.
-/
import Derived.Test.YtfjbcoahjinehaaDoorPart6
/-
  Symbolic code: loops by their heads' forms, pieces of code.
-/
namespace Go.Am
open Go

variable {C : Cz} {η η' η1 : List SObj} {π π' : Pi} {H H' : Hp} {c c2 : RC} {σ : List (Nat × SV)} {f f' : Fr} {P : Program} {s s' : SSt} {β : Type} {S : SE} {K : CallY β} {b : β} {o : Oper} {E : Env}

theorem WP2_mono : ∀ (c : Code) (s : St) (Q Q' : X → St → Prop), (∀ x s, Q x s → Q' x s) → WP2 E c s Q → WP2 E c s Q' := by
  intro c
  induction c with
  | skip => intro s Q Q' hq h; exact hq _ _ h
  | label l => intro s Q Q' hq h; exact hq _ _ h
  | exit id => intro s Q Q' hq h; exact hq _ _ h
  | ret => intro s Q Q' hq h; exact hq _ _ h
  | region id ops d =>
    intro s Q Q' hq h
    cases d with
    | false => simp only [WP2] at h ⊢; exact WPo_mono (fun f H h => hq _ _ h) _ _ _ h
    | true =>
      simp only [WP2] at h ⊢
      exact ⟨h.1, WPd_mono (fun f H h => hq _ _ h) _ _ _ _ h.2⟩
  | seq a b ih1 ih2 =>
    intro s Q Q' hq h
    simp only [WP2] at h ⊢
    refine ih1 s _ _ (fun x s' hx => ?_) h
    cases x with
    | normal => exact ih2 s' Q Q' hq hx
    | exit i => exact hq _ _ hx
    | ret => exact hq _ _ hx
  | cond c a b ih1 ih2 =>
    intro s Q Q' hq h
    simp only [WP2] at h ⊢
    split at h
    · rename_i t hc
      cases t with
      | true => simpa using ih1 s Q Q' hq (by simpa using h)
      | false => simpa using ih2 s Q Q' hq (by simpa using h)
    · exact h.elim
  | block id b ih =>
    intro s Q Q' hq h
    simp only [WP2] at h ⊢
    refine ih s _ _ (fun x s' hx => ?_) h
    cases x with
    | normal => exact hq _ _ hx
    | ret => exact hq _ _ hx
    | exit i =>
      simp only at hx ⊢
      split at hx
      · rename_i hi; rw [if_pos hi]; exact hq _ _ hx
      · rename_i hi; rw [if_neg hi]; exact hq _ _ hx
  | loop b ih =>
    intro s Q Q' hq h
    simp only [WP2] at h ⊢
    obtain ⟨n, h⟩ := h
    refine ⟨n, ?_⟩
    have key : ∀ (n : Nat) (s : St), WPr (WP2 E b) Q n s → WPr (WP2 E b) Q' n s := by
      intro n
      induction n with
      | zero => intro s h; exact h
      | succ n ihn =>
        intro s h
        simp only [WPr] at h ⊢
        refine ih s _ _ (fun x s' hx => ?_) h
        cases x with
        | normal => exact ihn s' hx
        | exit i => exact hq _ _ hx
        | ret => exact hq _ _ hx
    exact key n s h
  | rangeFunc f ps as b ih1 ih2 => intro s Q Q' hq h; simp [WP2] at h
  | scope b ih => intro s Q Q' hq h; simp [WP2] at h
  | goto l => intro s Q Q' hq h; simp [WP2] at h
  | refuse why => intro s Q Q' hq h; simp [WP2] at h

theorem TR.cons {f : Fr} {t : Nat} {x : SV} {v : V} (ht : TR c σ f) (hv : get f.m t = some v) (hx : VR c x v) : TR c ((t, x) :: σ) f := by
  intro u y hy
  simp only [lookS] at hy
  split at hy
  · rename_i e
    have := Nat.eq_of_beq_eq_true e
    subst this
    cases hy
    exact ⟨v, hv, hx⟩
  · exact ht u y hy

/-- Rows that are nil are given names. -/
theorem prepS_ok : ∀ (l : List (Nat × TypeId)) (s s' : SSt) (π : Pi), prepS P l s = some s' → Abs C s f H π → ∃ π', Abs C s' f H π'
  | [], s, s', π, h, ha => by
    simp only [prepS, Option.some.injEq] at h
    subst h
    exact ⟨π, ha⟩
  | (t, e) :: r, s, s', π, h, ha => by
    have one : ∀ (ty : Ty) (x : SV), lookS s.σ t = some x → (∀ y, VR (rcOf s.η π H.objs) x y → Nilish (rcOf s.η π H.objs) y) → prepS P r ⟨(t, .h s.η.length 0) :: s.σ, s.η ++ [.lst 0 e ty [] true]⟩ = some s' → ∃ π', Abs C s' f H π' := by
      intro ty x hx hn h
      obtain ⟨v, h1, h2⟩ := ha.tr t x hx
      obtain ⟨hr, ext⟩ := emptyLst_ok ha.hr e ty
      refine prepS_ok r _ s' _ h ⟨ha.flen, (ha.tr.mono ext).cons h1 ?_, hr, ha.ext.trans ext⟩
      refine ⟨0, 0, H.size, ?_, Nat.le_refl _, (hn v h2).one, fun _ => .inl ⟨rfl, hn v h2⟩⟩
      simp [rcOf, lstO]
    simp only [prepS] at h
    split at h
    · rename_i ty hx hty
      exact one ty _ hx (fun y hy => .inl hy.1) h
    · rename_i ty hx hty
      exact one ty _ hx (fun y hy => hy) h
    · exact prepS_ok r s s' π h ha
    · cases h

/-- What a piece of code comes to. -/
def EndsY (C : Cz) (k : X → SSt → Option β) (b : β) (x : X) (st : St) : Prop := ∃ s' π', Abs C s' st.1 st.2 π' ∧ k x s' = some b

def BodyOk (C : Cz) (c : Code) (body : SSt → (X → SSt → Option β) → Option β) : Prop :=
  ∀ (s : SSt) (f : Fr) (H : Hp) (π : Pi) (k : X → SSt → Option β) (b : β), Abs C s f H π → body s k = some b → WP2 C.E c (f, H) (EndsY C k b)

theorem rounds_ok {cd : Code} {body : SSt → (X → SSt → Option β) → Option β} (hb : BodyOk C cd body) (h0 : ∀ k, C.c0.at' k = none ∧ C.c0.lst k = none) {T : Tm} {alt : Nat → SSt → Option β} {k : X → SSt → Option β} {b : β}
    (halt : ∀ n s f H π, Abs C s f H π → alt n s = some b → WPr (WP2 C.E cd) (EndsY C k b) n (f, H)) :
    ∀ (n : Nat) (ds : List Dy) (f : Fr) (H : Hp) (π : Pi), (∀ s, T.inst ds = some s → Abs C s f H π) → roundsY T alt body k n ds = some b → WPr (WP2 C.E cd) (EndsY C k b) n (f, H)
  | 0, ds, f, H, π, _, h => by simp [roundsY] at h
  | n + 1, ds, f, H, π, ha, h => by
    simp only [roundsY, roundY] at h
    split at h
    · rename_i s hs
      simp only [WPr]
      refine WP2_mono cd _ _ _ (fun x st hx => ?_) (hb s f H π _ b (ha s hs) h)
      obtain ⟨s1, π1, h1, h2⟩ := hx
      cases x with
      | normal =>
        simp only at h2 ⊢
        split at h2
        · rename_i q hq
          obtain ⟨hg, h2⟩ := guards_some h2
          exact rounds_ok hb h0 halt n q.ds st.1 st.2 π1 (fun s2 hi => form_ok h1 h0 hq hg hi) h2
        · exact halt n s1 st.1 st.2 π1 h1 h2
      | exit i => exact ⟨s1, π1, h1, h2⟩
      | ret => exact ⟨s1, π1, h1, h2⟩
    · cases h

theorem alt_ok {cd : Code} {body : SSt → (X → SSt → Option β) → Option β} (hE : S.E = C.E) (hb : BodyOk C cd body) (h0 : ∀ k, C.c0.at' k = none ∧ C.c0.lst k = none) {g : FuncId} {i : Nat} {k : X → SSt → Option β} {b : β} :
    ∀ n s f H π, Abs C s f H π → altY S loopY g i body k n s = some b → WPr (WP2 C.E cd) (EndsY C k b) n (f, H) := by
  intro n s f H π ha h
  unfold altY at h
  split at h
  · split at h
    · rename_i s1 hs1
      split at h
      · rename_i q hq
        obtain ⟨hg, h⟩ := guards_some h
        obtain ⟨π1, ha1⟩ := prepS_ok _ _ _ _ hs1 ha
        exact rounds_ok hb h0 (fun n s f H π _ h => by cases h) n q.ds f H π1 (fun s2 hi => form_ok ha1 h0 hq hg hi) h
      · cases h
    · cases h
  · cases h

theorem unroll_ok {cd : Code} {body : SSt → (X → SSt → Option β) → Option β} (hb : BodyOk C cd body) {k : X → SSt → Option β} {b : β} :
    ∀ (n : Nat) (s : SSt) (f : Fr) (H : Hp) (π : Pi), Abs C s f H π → unrollY body k n s = some b → WPr (WP2 C.E cd) (EndsY C k b) n (f, H)
  | 0, s, f, H, π, _, h => by simp [unrollY] at h
  | n + 1, s, f, H, π, ha, h => by
    simp only [unrollY] at h
    simp only [WPr]
    refine WP2_mono cd _ _ _ (fun x st hx => ?_) (hb s f H π _ b ha h)
    obtain ⟨s1, π1, h1, h2⟩ := hx
    cases x with
    | normal => exact unroll_ok hb n s1 st.1 st.2 π1 h1 h2
    | exit i => exact ⟨s1, π1, h1, h2⟩
    | ret => exact ⟨s1, π1, h1, h2⟩

theorem opsLt_ok {n : Nat} {ops : List Oper} (h : opsLt n ops = true) : ∀ o ∈ ops, dstOk n o := fun o ho => List.all_eq_true.1 h o ho

theorem codeY_ok (hG : GFlat C.E) (hE : S.E = C.E) (hK : CallOk C.E K) (hC : ∀ g ct, ct ∈ S.ctr g → CtrOk C.E g ct) {top : Bool} (h0 : top = true → ∀ k, C.c0.at' k = none ∧ C.c0.lst k = none) {n : Nat} {g : FuncId} :
    ∀ (c : Code) (i : Nat), dstsLt C.n c = true → BodyOk C c (codeY S loopY K n top g c i) := by
  intro c
  induction c with
  | skip => intro i _ s f H π k b ha h; exact ⟨s, π, ha, h⟩
  | label l => intro i _ s f H π k b ha h; exact ⟨s, π, ha, h⟩
  | exit id => intro i _ s f H π k b ha h; exact ⟨s, π, ha, h⟩
  | ret => intro i _ s f H π k b ha h; exact ⟨s, π, ha, h⟩
  | region id ops d =>
    intro i hd s f H π k b ha h
    replace hd := opsLt_ok hd
    cases d with
    | false =>
      simp only [codeY] at h
      simp only [WP2]
      exact WPo_mono (fun f H ⟨s', π', h1, _, h3⟩ => ⟨s', π', h1, h3⟩) _ _ _ (opsY_ok hG hE hK hC _ _ _ _ _ _ hd ha h)
    | true =>
      simp only [codeY] at h
      split at h
      · rename_i hdr
        simp only [WP2]
        refine ⟨hdr, WPd_mono (fun f H ⟨s', π', h1, _, h3⟩ => ⟨s', π', h1, h3⟩) _ _ _ _ (opsD_ok hG hE hK hC (start_ok ha.hr) _ [] [] _ _ _ _ hd ha (Ext.refl _) (Nat.le_refl _) trivial (fun p hp => by simp at hp) h)⟩
      · cases h
  | seq a b ih1 ih2 =>
    intro i hd s f H π k r ha h
    simp only [dstsLt, Bool.and_eq_true] at hd
    simp only [codeY] at h
    simp only [WP2]
    refine WP2_mono a _ _ _ (fun x st hx => ?_) (ih1 i hd.1 s f H π _ r ha h)
    obtain ⟨s1, π1, h1, h2⟩ := hx
    cases x with
    | normal => exact ih2 i hd.2 s1 st.1 st.2 π1 k r h1 h2
    | exit j => exact ⟨s1, π1, h1, h2⟩
    | ret => exact ⟨s1, π1, h1, h2⟩
  | cond c a b ih1 ih2 =>
    intro i hd s f H π k r ha h
    simp only [dstsLt, Bool.and_eq_true] at hd
    simp only [codeY] at h
    simp only [WP2]
    split at h
    · rename_i t hc
      obtain ⟨_, v, hv, rfl, _⟩ := evY_ok ha.tr hc
      simp only [hv]
      cases t with
      | true => exact ih1 i hd.1 s f H π k r ha h
      | false => exact ih2 i hd.2 s f H π k r ha h
    · cases h
  | block id b ih =>
    intro i hd s f H π k r ha h
    simp only [dstsLt] at hd
    simp only [codeY] at h
    simp only [WP2]
    refine WP2_mono b _ _ _ (fun x st hx => ?_) (ih id hd s f H π _ r ha h)
    obtain ⟨s1, π1, h1, h2⟩ := hx
    cases x with
    | normal => exact ⟨s1, π1, h1, h2⟩
    | ret => exact ⟨s1, π1, h1, h2⟩
    | exit j =>
      simp only at h2 ⊢
      split at h2
      · rename_i hj; rw [if_pos hj]; exact ⟨s1, π1, h1, h2⟩
      · rename_i hj; rw [if_neg hj]; exact ⟨s1, π1, h1, h2⟩
  | loop b ih =>
    intro i hd s f H π k r ha h
    simp only [dstsLt] at hd
    simp only [codeY] at h
    simp only [WP2]
    have hb := ih i hd
    split at h
    · rename_i T hT
      split at h
      · rename_i htop
        split at h
        · rename_i s1 hs1
          split at h
          · rename_i q hq
            obtain ⟨hg, h⟩ := guards_some h
            obtain ⟨π1, ha1⟩ := prepS_ok _ _ _ _ hs1 ha
            exact ⟨n, rounds_ok hb (h0 htop) (alt_ok hE hb (h0 htop)) n q.ds f H π1 (fun s2 hi => form_ok ha1 (h0 htop) hq hg hi) h⟩
          · cases h
        · cases h
      · cases h
    · exact ⟨_, unroll_ok hb _ s f H π ha h⟩
  | rangeFunc f ps as b ih1 ih2 => intro i _ s f H π k b ha h; simp [codeY] at h
  | scope b ih => intro i _ s f H π k b ha h; simp [codeY] at h
  | goto l => intro i _ s f H π k b ha h; simp [codeY] at h
  | refuse why => intro i _ s f H π k b ha h; simp [codeY] at h

end Go.Am

/-
  Symbolic calls, and contracts from them.
-/
namespace Go.Am
open Go

variable {C : Cz} {η η' η1 : List SObj} {π π' : Pi} {H H' : Hp} {c c2 : RC} {σ : List (Nat × SV)} {f f' : Fr} {P : Program} {s s' : SSt} {β : Type} {S : SE} {K : CallY β} {b : β} {o : Oper} {E : Env}

theorem resY_ok (hG : GFlat C.E) (ha : Abs C s f H π) : ∀ (l : List ResultVar) (vs : List SV), resY C.E s l = some vs → ∃ ys, resV C.E f H l = some ys ∧ VRL (rcOf s.η π H.objs) vs ys
  | [], vs, h => by
    simp only [resY, Option.some.injEq] at h
    subst h
    exact ⟨[], rfl, rfl⟩
  | .tmp t :: r, vs, h => by
    simp only [resY] at h
    split at h
    · rename_i v us h1 h2
      simp only [Option.some.injEq] at h
      subst h
      obtain ⟨y, h3, h4⟩ := ha.tr t v h1
      obtain ⟨ys, h5, h6⟩ := resY_ok hG ha r us h2
      exact ⟨y :: ys, by simp only [resV, h3, h5], y, ys, rfl, h4, h6⟩
    · cases h
  | .cell a t :: r, vs, h => by
    simp only [resY] at h
    split at h
    · rename_i p us h1 h2
      split at h
      · rename_i v η2 h3
        simp only [Option.some.injEq] at h
        subst h
        obtain ⟨y, h4, h5⟩ := ha.tr a p h1
        obtain ⟨x, z, e1, e2, e3, e4⟩ := loadY_ok hG ha.hr h5 (r := .val v) (η' := η2) (by rw [h3]; rfl)
        cases e1
        obtain ⟨ys, h6, h7⟩ := resY_ok hG ha r us h2
        exact ⟨z :: ys, by simp only [resV, h4, Option.bind_some, e3, h6], z, ys, rfl, e4, h7⟩
      · cases h
    · cases h

theorem argsY_ok : ∀ (args : List SV) (vs : List V) (i t : Nat) (x : SV), VRL c args vs → lookS (argsY args i) t = some x → i ≤ t ∧ ∃ v, vs[t - i]? = some v ∧ VR c x v
  | [], vs, i, t, x, _, h => by simp [argsY, lookS] at h
  | a :: r, vs, i, t, x, ⟨y, ys, e, h1, h2⟩, h => by
    subst e
    simp only [argsY, lookS] at h
    split at h
    · rename_i e
      have := Nat.eq_of_beq_eq_true e
      subst this
      cases h
      exact ⟨Nat.le_refl _, y, by simp, h1⟩
    · obtain ⟨h3, v, h4, h5⟩ := argsY_ok r ys (i + 1) t x h2 h
      refine ⟨by omega, v, ?_, h5⟩
      have : t - i = (t - (i + 1)) + 1 := by omega
      rw [this, List.getElem?_cons_succ]
      exact h4

theorem VRL.tup1 {xs : List SV} {ys : List V} (h : VRL c xs ys) : VR c (tupY xs) (tupV ys) := by
  cases xs with
  | nil => simp only [VRL] at h; subst h; exact ⟨[], rfl, rfl⟩
  | cons a r =>
    obtain ⟨y, ys', rfl, h1, h2⟩ := h
    cases r with
    | nil => simp only [VRL] at h2; subst h2; exact h1
    | cons a' r' =>
      obtain ⟨y', ys'', rfl, h3, h4⟩ := h2
      exact ⟨_, rfl, y, _, rfl, h1, y', _, rfl, h3, h4⟩

theorem HRel.at_n {n : Nat} (h : HRel C η π H) : HRel { C with n := n } η π H := ⟨h.objs, h.inj, h.len, h.disc, h.same, h.wr, h.bad⟩

/-- A function's body. -/
theorem bodyY_ok (hG : GFlat C.E) (hE : S.E = C.E) (hK : CallOk C.E K) (hC : ∀ g ct, ct ∈ S.ctr g → CtrOk C.E g ct) {top : Bool} (h0 : top = true → ∀ k, C.c0.at' k = none ∧ C.c0.lst k = none) {n : Nat} {g : FuncId} {args : List SV} {vs : List V}
    (hO : C.E.orc g vs = none) {k : SV → List SObj → Option β} (h : bodyY S loopY K n top g args η k = some b) {M : List AObj} (hr : HRel C η π ⟨M, M.length, M.length⟩) (hx : Ext C.c0 (rcOf η π M)) (hv : VRL (rcOf η π M) args vs) :
    ∃ xs ys η' π' H', Gives C.E g vs M (closeF (C.E.full g) M.length (tupV ys) H') ∧ HRel C η' π' H' ∧ Ext C.c0 (rcOf η' π' H'.objs) ∧ VRL (rcOf η' π' H'.objs) xs ys ∧ k (tupY xs) η' = some b := by
  unfold bodyY at h
  split at h
  · rename_i fn hfn
    split at h
    · rename_i body hbody
      split at h
      · rename_i hc
        obtain ⟨hlen, hd⟩ := hc
        have hvl := hv.length
        have ha : Abs { C with n := fn.ntmps } ⟨argsY args 0, η⟩ ⟨frame fn.ntmps vs⟩ ⟨M, M.length, M.length⟩ π := by
          refine ⟨length_frame _ _, fun t x hx => ?_, hr.at_n, hx⟩
          obtain ⟨_, v, h1, h2⟩ := argsY_ok args vs 0 t x hv hx
          refine ⟨v, ?_, h2⟩
          simp only [get_frame fn.ntmps vs t (by omega)]
          simpa using h1
        obtain ⟨x, st, hq, m0, hm⟩ := WP2_sound _ _ _ (codeY_ok (C := { C with n := fn.ntmps }) hG hE hK hC h0 body 0 hd _ _ _ _ _ _ ha h)
        obtain ⟨s1, π1, h1, h2⟩ := hq
        have fin : ∀ (_ : x = .normal ∨ x = .ret), (match resY S.E s1 fn.results.toList with
            | some vs => k (tupY vs) s1.η
            | none => none) = some b → ∃ xs ys η' π' H', Gives C.E g vs M (closeF (C.E.full g) M.length (tupV ys) H') ∧ HRel C η' π' H' ∧ Ext C.c0 (rcOf η' π' H'.objs) ∧ VRL (rcOf η' π' H'.objs) xs ys ∧ k (tupY xs) η' = some b := by
          intro hxx h2
          split at h2
          · rename_i xs hxs
            rw [hE] at hxs
            obtain ⟨ys, h3, h4⟩ := resY_ok (C := { C with n := fn.ntmps }) hG h1 _ _ hxs
            refine ⟨xs, ys, s1.η, π1, st.2, ⟨m0 + 1, fun m hle => ?_⟩, ⟨h1.hr.objs, h1.hr.inj, h1.hr.len, h1.hr.disc, h1.hr.same, h1.hr.wr, h1.hr.bad⟩, h1.ext, h4, h2⟩
            obtain ⟨m, rfl⟩ : ∃ j, m = j + 1 := ⟨m - 1, by omega⟩
            rw [hE] at hfn
            have := hm m (by omega) (m + 1) (by omega)
            simp only [evCall, hO, hfn, hbody]
            rw [if_pos (by omega), this]
            simp only [if_pos hxx]
            have h3' : resV C.E st.1 st.2 fn.results.toList = some ys := h3
            rw [h3']
            rfl
          · cases h2
        cases x with
        | normal => exact fin (.inl rfl) h2
        | ret => exact fin (.inr rfl) h2
        | exit i => cases h2
      · cases h
    · cases h
  · cases h

/-- Back from a call. -/
theorem back_ok (hr : HRel C η π H) {E : Env} {n : Nat} {c0 : RC} {top : Bool} (hr' : HRel { E := E, n := n, H0 := H.objs, W := fun j => named' η π j ∨ ¬ (j < C.H0.length ∧ ¬ C.W j), c0 := c0, B := π.bad, top := top } η' π' H') :
    HRel C η' π' { objs := H'.objs, wr := min H.wr H'.wr, esc := min H.esc H'.esc } := by
  have nn : ∀ j, j < C.H0.length → ¬ C.W j → ¬ (named' η π j ∨ ¬ (j < C.H0.length ∧ ¬ C.W j)) := by
    rintro j hj hw (⟨k, o, h1, h2, rfl⟩ | h)
    · rcases hr.disc k o h1 h2 with h | h
      · omega
      · exact hw h
    · exact h ⟨hj, hw⟩
  refine ⟨hr'.objs, hr'.inj, Nat.le_trans hr.len hr'.len, fun k o hk ho => ?_, fun j hj hw => ?_, fun m hm hw => ?_, fun j hj => ?_, fun j hj => hr'.bad.2 j (hr.bad.2 j hj)⟩
  · rcases hr'.disc k o hk ho with h | h
    · exact .inl (Nat.le_trans hr.len h)
    · rcases h with ⟨k', o', h1, h2, h3⟩ | h
      · rw [← h3]; exact hr.disc k' o' h1 h2
      · by_cases h1 : π' k < C.H0.length
        · by_cases h2 : C.W (π' k)
          · exact .inr h2
          · exact absurd ⟨h1, h2⟩ h
        · exact .inl (by omega)
  · have h1 := hr'.same j (Nat.lt_of_lt_of_le hj hr.len) (nn j hj hw)
    simp only at h1 ⊢
    rw [h1]
    exact hr.same j hj hw
  · have h1 := hr.wr m hm hw
    have h2 := hr'.wr m (Nat.le_trans hm hr.len) (fun j hj => nn j (Nat.lt_of_lt_of_le hj hm) (hw j hj))
    simp only
    omega
  · obtain ⟨h1, h2⟩ := hr'.bad.1 j hj
    by_cases h3 : j < C.H0.length ∧ ¬ C.W j
    · exact h3
    · exact absurd (.inr h3) h2

theorem callY_ok (hG : GFlat S.E) (hC : ∀ g ct, ct ∈ S.ctr g → CtrOk S.E g ct) (hO : ∀ g, S.E.full g = true → ∀ vs, S.E.orc g vs = none) : ∀ n, CallOk S.E (callY (β := β) S loopY n)
  | 0 => fun g args s k b h => by simp [callY] at h
  | n + 1 => by
    intro g args s k b h C π H hE hr vs hv
    simp only [callY] at h
    split at h
    · split at h
      · rename_i hf
        have hr0 : HRel { E := S.E, n := 0, H0 := H.objs, W := fun j => named' s.η π j ∨ ¬ (j < C.H0.length ∧ ¬ C.W j), c0 := rcOf s.η π H.objs, B := π.bad, top := false } s.η π ⟨H.objs, H.objs.length, H.objs.length⟩ := by
          refine ⟨hr.objs, hr.inj, Nat.le_refl _, fun k o hk ho => .inr (.inl ⟨k, o, hk, ho, rfl⟩), fun j hj hw => rfl, fun m hm hw => hm, fun j hj => ?_, fun j hj => hj⟩
          obtain ⟨h1, h2⟩ := hr.bad.1 j hj
          refine ⟨Nat.lt_of_lt_of_le h1 hr.len, ?_⟩
          rintro (⟨k, o, h3, h4, rfl⟩ | h3)
          · exact hr.notbad h3 h4 hj
          · exact h3 ⟨h1, h2⟩
        obtain ⟨xs, ys, η', π', H', h1, h2, h3, h4, h5⟩ := bodyY_ok (C := { E := S.E, n := 0, H0 := H.objs, W := fun j => named' s.η π j ∨ ¬ (j < C.H0.length ∧ ¬ C.W j), c0 := rcOf s.η π H.objs, B := π.bad, top := false }) hG rfl (callY_ok hG hC hO n) hC (fun e => by cases e) (hO g hf vs) h hr0 (Ext.refl _) hv
        simp only [hf, closeF] at h1
        exact ⟨_, h1, tupY xs, ⟨s.σ, η'⟩, π', rfl, h4.tup1, back_ok hr h2, h3, h2.len, h5⟩
      · cases h
    · rename_i c0 cs0 hcs
      split at h
      · rename_i ct q hpick
        obtain ⟨hmem, hq⟩ := pickCtr_ok hpick
        obtain ⟨cr, h1, _, _, sv, s', h2, h3, h4, h5, h6, h7⟩ := ctrY_ok (by rw [hE]; exact hC g ct (by rw [hcs]; exact hmem)) hq h hr hv
        exact ⟨cr, by rw [← hE]; exact h1, sv, s', π, h2, h3, h4, h5, h6, h7⟩
      · cases h

/-! ### Contracts -/

theorem ER.flat : ∀ (t : Ty) (x : t.den) (cs : List V), ER c t x cs → (∀ v ∈ cs, v.flat = true) → ER c2 t x cs
  | .int _, _, _, h, _ => h
  | .byte, _, _, h, _ => h
  | .bool, _, _, h, _ => h
  | .str, _, _, h, _ => h
  | .unit, _, _, h, _ => h
  | .pair a b, p, _, ⟨c1, c2, e, h1, h2⟩, hf => by
    subst e
    exact ⟨c1, c2, rfl, ER.flat a p.1 c1 h1 fun v hv => hf v (List.mem_append.2 (.inl hv)), ER.flat b p.2 c2 h2 fun v hv => hf v (List.mem_append.2 (.inr hv))⟩
  | .list e t, l, _, ⟨y, e1, h⟩, hf => by
    subst e1
    refine ⟨y, rfl, ?_⟩
    rcases h with h | ⟨_, b, off, cap, rfl, _⟩
    · exact .inl h
    · have := hf _ (List.mem_singleton.2 rfl)
      simp [V.flat, V.all] at this

theorem ER.flatTy : ∀ (t : Ty) (x : t.den) (cs : List V), isFlatTy t = true → ER c t x cs → ∀ v ∈ cs, v.flat = true
  | .int k, n, cs, _, h => by simp only [ER] at h; subst h; simp [V.flat, V.all]
  | .byte, n, cs, _, h => by simp only [ER] at h; subst h; simp [V.flat, V.all, byteV]
  | .bool, n, cs, _, h => by simp only [ER] at h; subst h; simp [V.flat, V.all]
  | .str, n, cs, _, h => by simp only [ER] at h; subst h; simp [V.flat, V.all]
  | .unit, n, cs, _, h => by simp only [ER] at h; subst h; simp
  | .pair a b, p, cs, hf, ⟨c1, c2, e, h1, h2⟩ => by
    simp only [isFlatTy, Bool.and_eq_true] at hf
    subst e
    intro v hv
    rcases List.mem_append.1 hv with h | h
    · exact ER.flatTy a p.1 c1 hf.1 h1 v h
    · exact ER.flatTy b p.2 c2 hf.2 h2 v h
  | .list _ _, _, _, hf, _ => by simp [isFlatTy] at hf

/-- A typed value of one cell, or of several. -/
theorem instH_er {t : Ty} {x : t.den} {y : V} : VR c (instH t x) y ↔ ∃ cs, ER c t x cs ∧ y = (if isCompound t = true then .agg cs else cs.headD .nilp) ∧ (isCompound t = false → cs.length = 1) := by
  cases hc : isCompound t with
  | false =>
    have e := instH_flat t x hc
    constructor
    · intro hv
      have h1 : VRL c (tv t x) [y] := by rw [e]; exact ⟨y, [], rfl, hv, rfl⟩
      exact ⟨[y], (tv_rel t x [y]).1 h1, rfl, fun _ => rfl⟩
    · rintro ⟨cs, h1, h2, h3⟩
      have h1 := (tv_rel t x cs).2 h1
      rw [e] at h1
      obtain ⟨y', e', h4⟩ := vrl1 h1
      subst e'
      simp only [Bool.false_eq_true, if_false, List.headD_cons] at h2
      rw [h2]; exact h4
  | true =>
    have e2 : instH t x = .agg (tv t x) := by unfold instH; rw [hc]
    rw [e2]
    constructor
    · rintro ⟨cs, h1, h2⟩
      exact ⟨cs, (tv_rel t x cs).1 h2, by rw [h1]; rfl, fun e => by cases e⟩
    · rintro ⟨cs, h1, h2, _⟩
      exact ⟨cs, by rw [h2]; rfl, (tv_rel t x cs).2 h1⟩

theorem flat_cells {t : Ty} {cs : List V} (h : (if isCompound t = true then V.agg cs else cs.headD .nilp).flat = true) (h1 : isCompound t = false → cs.length = 1) : ∀ v ∈ cs, v.flat = true := by
  cases hc : isCompound t with
  | true => rw [hc] at h; exact flat_agg.1 h
  | false =>
    rw [hc] at h
    obtain ⟨v, rfl⟩ := List.length_eq_one_iff.1 (h1 hc)
    simpa using h

theorem cells_flat {t : Ty} {cs : List V} (h : ∀ v ∈ cs, v.flat = true) (h1 : isCompound t = false → cs.length = 1) : (if isCompound t = true then V.agg cs else cs.headD .nilp).flat = true := by
  cases hc : isCompound t with
  | true => exact flat_agg.2 h
  | false =>
    obtain ⟨v, rfl⟩ := List.length_eq_one_iff.1 (h1 hc)
    simpa using h

theorem instH_flatV {t : Ty} {x : t.den} {y : V} (h : VR c (instH t x) y) (hf : y.flat = true) : VR c2 (instH t x) y := by
  obtain ⟨cs, h1, h2, h3⟩ := instH_er.1 h
  subst h2
  exact instH_er.2 ⟨cs, ER.flat t x cs h1 (flat_cells hf h3), rfl, h3⟩

theorem instH_isFlat {t : Ty} {x : t.den} {y : V} (ht : isFlatTy t = true) (h : VR c (instH t x) y) : y.flat = true := by
  obtain ⟨cs, h1, h2, h3⟩ := instH_er.1 h
  subst h2
  exact cells_flat (ER.flatTy t x cs ht h1) h3

mutual
theorem instP_mono0 (hx : ExtF c c2) : ∀ (p : SP) (ds : List Dy) (out : SV × List Dy) (y : V), instP [] p ds = some out → p.pure = true → VR c out.1 y → VR c2 out.1 y
  | .hole t, ds, out, y, h, _, hv => by
    simp only [instP] at h
    split at h
    · cases h; exact instH_mono hx hv
    · cases h
  | .lit x, ds, out, y, h, _, hv => by simp only [instP, Option.some.injEq] at h; subst h; exact hv
  | .ptr k o, ds, out, y, h, hp, hv => by cases hp
  | .h k, ds, out, y, h, hp, hv => by cases hp
  | .all k, ds, out, y, h, hp, hv => by cases hp
  | .allG k, ds, out, y, h, hp, hv => by cases hp
  | .func f a b, ds, out, y, h, hp, hv => by
    simp only [SP.pure, Bool.and_eq_true] at hp
    simp only [instP] at h
    split at h
    · rename_i a' ds1 h1
      split at h
      · rename_i b' ds2 h2
        cases h
        obtain ⟨va, vb, e, h3, h4⟩ := hv
        exact ⟨va, vb, e, instPL_mono0 hx a _ _ _ h1 hp.1 h3, instPL_mono0 hx b _ _ _ h2 hp.2 h4⟩
      · cases h
    · cases h
  | .agg cs, ds, out, y, h, hp, hv => by
    simp only [SP.pure] at hp
    simp only [instP] at h
    split at h
    · rename_i a' ds1 h1
      cases h
      obtain ⟨va, e, h3⟩ := hv
      exact ⟨va, e, instPL_mono0 hx cs _ _ _ h1 hp h3⟩
    · cases h
theorem instPL_mono0 (hx : ExtF c c2) : ∀ (ps : List SP) (ds : List Dy) (out : List SV × List Dy) (ys : List V), instPL [] ps ds = some out → SP.pureL ps = true → VRL c out.1 ys → VRL c2 out.1 ys
  | [], ds, out, ys, h, _, hv => by simp only [instPL, Option.some.injEq] at h; subst h; exact hv
  | p :: r, ds, out, ys, h, hp, hv => by
    simp only [SP.pureL, Bool.and_eq_true] at hp
    simp only [instPL] at h
    split at h
    · rename_i x ds1 h1
      split at h
      · rename_i xs ds2 h2
        cases h
        obtain ⟨y, ys', e, h3, h4⟩ := hv
        exact ⟨y, ys', e, instP_mono0 hx p _ _ _ h1 hp.1 h3, instPL_mono0 hx r _ _ _ h2 hp.2 h4⟩
      · cases h
    · cases h
end

theorem instTy_flat : ∀ {ts : List Ty} {ds : List Dy} {as : List SV} {ys : List V}, instTy ts ds = some as → VRL c as ys → (∀ y ∈ ys, y.flat = true) → VRL c2 as ys
  | [], [], as, ys, h, hv, _ => by simp only [instTy, Option.some.injEq] at h; subst h; exact hv
  | [], _ :: _, as, ys, h, hv, _ => by simp [instTy] at h
  | t :: r, ds, as, ys, h, hv, hf => by
    simp only [instTy] at h
    split at h
    · rename_i x ds' h1
      split at h
      · rename_i xs h2
        simp only [Option.some.injEq] at h
        subst h
        obtain ⟨y, ys', rfl, h3, h4⟩ := hv
        exact ⟨y, ys', rfl, instH_flatV h3 (hf y (by simp)), instTy_flat h2 h4 fun y hy => hf y (by simp [hy])⟩
      · cases h
    · cases h

theorem instTy_mono (hx : ExtF c c2) : ∀ {ts : List Ty} {ds : List Dy} {as : List SV} {ys : List V}, instTy ts ds = some as → VRL c as ys → VRL c2 as ys
  | [], [], as, ys, h, hv => by simp only [instTy, Option.some.injEq] at h; subst h; exact hv
  | [], _ :: _, as, ys, h, hv => by simp [instTy] at h
  | t :: r, ds, as, ys, h, hv => by
    simp only [instTy] at h
    split at h
    · rename_i x ds' h1
      split at h
      · rename_i xs h2
        simp only [Option.some.injEq] at h
        subst h
        obtain ⟨y, ys', rfl, h3, h4⟩ := hv
        exact ⟨y, ys', rfl, instH_mono hx h3, instTy_mono hx h2 h4⟩
      · cases h
    · cases h

theorem instTy_isFlat : ∀ {ts : List Ty} {ds : List Dy} {as : List SV} {ys : List V}, ts.all isFlatTy = true → instTy ts ds = some as → VRL c as ys → ∀ y ∈ ys, y.flat = true
  | [], [], as, ys, _, h, hv => by simp only [instTy, Option.some.injEq] at h; subst h; simp only [VRL] at hv; subst hv; simp
  | [], _ :: _, as, ys, _, h, hv => by simp [instTy] at h
  | t :: r, ds, as, ys, ht, h, hv => by
    simp only [List.all_cons, Bool.and_eq_true] at ht
    simp only [instTy] at h
    split at h
    · rename_i x ds' h1
      split at h
      · rename_i xs h2
        simp only [Option.some.injEq] at h
        subst h
        obtain ⟨y, ys', rfl, h3, h4⟩ := hv
        intro z hz
        rcases List.mem_cons.1 hz with rfl | hz
        · exact instH_isFlat ht.1 h3
        · exact instTy_isFlat ht.2 h2 h4 z hz
      · cases h
    · cases h

theorem instTy_len : ∀ {ts : List Ty} {ds : List Dy} {as : List SV}, instTy ts ds = some as → as.length = ts.length
  | [], [], as, h => by simp only [instTy, Option.some.injEq] at h; subst h; rfl
  | [], _ :: _, as, h => by simp [instTy] at h
  | t :: r, ds, as, h => by
    simp only [instTy] at h
    split at h
    · split at h
      · rename_i xs h2
        simp only [Option.some.injEq] at h
        subst h
        simp [instTy_len h2]
      · cases h
    · cases h

theorem untup_ok {n : Nat} {v : SV} {vs : List SV} (h : untup n v = some vs) {y : V} (hv : VR c v y) : ∃ ys, VRL c vs ys ∧ (n = 1 → ys = [y]) ∧ (n ≠ 1 → y = .tup ys) ∧ ∀ (c2 : RC) (as : List SV), as.length = n → VRL c2 as ys → VR c2 (tupY as) y := by
  unfold untup at h
  split at h
  · simp only [Option.some.injEq] at h
    subst h
    refine ⟨[y], ⟨y, [], rfl, hv, rfl⟩, fun _ => rfl, fun h => absurd rfl h, fun c2 as h1 h2 => ?_⟩
    obtain ⟨a, rfl⟩ := List.length_eq_one_iff.1 h1
    obtain ⟨y', e, h3⟩ := vrl1 h2
    simp only [List.cons.injEq, and_true] at e
    subst e
    exact h3
  · rename_i hne
    split at h
    · simp only [Option.some.injEq] at h
      subst h
      obtain ⟨ys, rfl, h1⟩ := hv
      refine ⟨ys, h1, fun e => absurd e hne, fun _ => rfl, fun c2 as h2 h3 => ?_⟩
      have : tupY as = .tup as := by
        cases as with
        | nil => rfl
        | cons a r => cases r with
          | nil => exact absurd h2.symm hne
          | cons _ _ => rfl
      rw [this]
      exact ⟨ys, rfl, h3⟩
    · cases h

theorem instTy_exact {ts : List Ty} {ds : List Dy} {as as' : List SV} (h1 : instTy ts ds = some as) (h2 : instTy ts ds = some as') : as = as' := by rw [h1] at h2; exact Option.some.inj h2

/-- What a function comes to, it answers. -/
theorem fn_gives (hG : GFlat S.E) (hC : ∀ g ct, ct ∈ S.ctr g → CtrOk S.E g ct) (hO : ∀ g, S.E.full g = true → ∀ vs, S.E.orc g vs = none) {g : FuncId} (hOg : ∀ vs, S.E.orc g vs = none) (hfull : S.E.full g = false) {pat : List SP} {out : List Ty} (h2p : SP.pureL pat = true)
    {ds ds' : List Dy} {n : Nat} (h : fnY S loopY pat out n g ds = some ds') {args : List SV} {vs : List V} {sv : List SV} {rc : RC} (hargs : instPL [] pat ds = some (args, [])) (hv : VRL rc args vs) (hown : ∀ j, rc.own j → j < rc.H.length) (hsv : instTy out ds' = some sv) :
    ∃ cr, Gives S.E g vs rc.H cr ∧ (out.all isFlatTy = true → ∃ v, cr = .pure v) ∧ match cr with
    | .pure v => VR rc (tupY sv) v
    | .eff v H' => rc.H.length ≤ H'.wr ∧ rc.H.length ≤ H'.objs.length ∧ (∀ (j : Nat) (o : AObj), rc.H[j]? = some o → H'.objs[j]? = some o) ∧ VR { rc with H := H'.objs } (tupY sv) v := by
  unfold fnY at h
  rw [hargs] at h
  simp only at h
  have hpure := h2p
  have f1 : ExtF rc (rcOf [] ⟨id, rc.own⟩ rc.H) := ⟨fun j o h1 h2 => ⟨by
    rintro (⟨k, o, h3, _⟩ | h3)
    · simp at h3
    · exact h1 h3, h2⟩⟩
  have hr0 : HRel { E := S.E, n := 0, H0 := rc.H, W := fun _ => False, c0 := rcOf [] ⟨id, rc.own⟩ rc.H, B := rc.own, top := true } [] ⟨id, rc.own⟩ ⟨rc.H, rc.H.length, rc.H.length⟩ :=
    ⟨fun k o hk => by simp at hk, fun k k' o o' hk => by simp at hk, Nat.le_refl _, fun k o hk => by simp at hk, fun j hj hw => rfl, fun m hm hw => hm, fun j hj => ⟨hown j hj, fun h => h⟩, fun j hj => hj⟩
  obtain ⟨xs, ys, η', π', H', h1, h2, h3, h4, h5⟩ := bodyY_ok (C := { E := S.E, n := 0, H0 := rc.H, W := fun _ => False, c0 := rcOf [] ⟨id, rc.own⟩ rc.H, B := rc.own, top := true }) hG rfl (callY_ok hG hC hO depthY) hC (fun _ k => ⟨rfl, rfl⟩) (hOg vs) h hr0 (Ext.refl _) (instPL_mono0 f1 _ _ _ _ hargs hpure hv)
  split at h5
  · rename_i us hus
    split at h5
    · rename_i q hq
      obtain ⟨hg, h5⟩ := guards_some h5
      simp only [Option.some.injEq] at h5
      subst h5
      obtain ⟨zs, h6, e1, e2, h7⟩ := untup_ok hus h4.tup1
      obtain ⟨as, h8, h9⟩ := readTy_ok h2 (F := q.f) _ _ _ hq (fun _ h => h) hg zs h6
      have := instTy_exact h8 hsv
      subst this
      have hlen := instTy_len h8
      -- how flat it is
      have flat1 : (tupV ys).flat = true → ∀ z ∈ zs, z.flat = true := fun hf z hz => by
        by_cases hn : out.length = 1
        · rw [e1 hn] at hz; simp only [List.mem_singleton] at hz; rw [hz]; exact hf
        · have := e2 hn
          rw [this] at hf
          exact flat_tup.1 hf z hz
      have flat2 : (∀ z ∈ zs, z.flat = true) → (tupV ys).flat = true := fun hf => by
        by_cases hn : out.length = 1
        · exact hf _ (by rw [e1 hn]; simp)
        · rw [e2 hn]; exact flat_tup.2 hf
      have hwr : rc.H.length ≤ H'.wr := h2.wr rc.H.length (Nat.le_refl _) fun j _ h => h
      have hkeep : ∀ (j : Nat) (o : AObj), rc.H[j]? = some o → H'.objs[j]? = some o := fun j o ho => by
        have := h2.same j (List.getElem?_eq_some_iff.1 ho).1 (fun h => h)
        rw [this]; exact ho
      simp only [hfull, closeF, close] at h1
      by_cases hf : (tupV ys).flat = true
      · simp only [hf, hwr, decide_true, Bool.and_self, if_true] at h1
        exact ⟨_, h1, fun _ => ⟨_, rfl⟩, h7 rc as (by rw [hlen]) (instTy_flat h8 h9 (flat1 hf))⟩
      · simp only [hf, Bool.false_and, Bool.false_eq_true, if_false] at h1
        refine ⟨_, h1, fun hfl => absurd (flat2 (instTy_isFlat hfl h8 h9)) hf, hwr, h2.len, hkeep, h7 _ as (by rw [hlen]) (instTy_mono ?_ h8 h9)⟩
        refine ⟨fun j o h10 h11 => ⟨fun h12 => h10 ?_, h11⟩⟩
        exact .inr (h2.bad.2 j h12)
    · cases h5
  · cases h5

/-- A contract of what a function comes to. -/
theorem CtrOk.of_fn (hG : GFlat S.E) (hC : ∀ g ct, ct ∈ S.ctr g → CtrOk S.E g ct) (hO : ∀ g, S.E.full g = true → ∀ vs, S.E.orc g vs = none) {g : FuncId} (hOg : ∀ vs, S.E.orc g vs = none) (hfull : S.E.full g = false) {ct : Ctr} (h2p : SP.pureL ct.pat = true)
    (h : ∀ ds gs ds', ct.res ds = some (gs, ds') → gs.all id = true → ∃ n, fnY S loopY ct.pat ct.out n g ds = some ds') : CtrOk S.E g ct := by
  intro ds gs ds' args vs sv rc hres hgs hargs hv hown hsv
  obtain ⟨n, h⟩ := h ds gs ds' hres hgs
  exact fn_gives hG hC hO hOg hfull h2p h hargs hv hown hsv

end Go.Am

/-
  Loops of a function, named: their bodies, and what comes behind them, read off the function's text.
-/
namespace Go.Am
open Go

/-- The body of the loop in this block. -/
def loopOf : Code → Nat → Nat → Option Code
  | .seq a b, i, t => match loopOf a i t with
    | some c => some c
    | none => loopOf b i t
  | .cond _ a b, i, t => match loopOf a i t with
    | some c => some c
    | none => loopOf b i t
  | .block id b, _, t => loopOf b id t
  | .loop b, i, t => match Nat.beq i t with
    | true => some b
    | false => loopOf b i t
  | _, _, _ => none

abbrev Kont := X → SSt → Option (List Dy)

/-- What comes behind that loop; the next rounds of loops around it are given. -/
def contOf (S : SE) (N : Nat) (g : FuncId) (nx : Nat → List Dy → Option (List Dy)) : Code → Nat → Kont → Nat → Option Kont
  | .seq a b, i, k, t => match contOf S N g nx a i (fun x s' => match x with
      | .normal => codeY S loopY (callY S loopY depthY) N true g b i s' k
      | x => k x s') t with
    | some r => some r
    | none => contOf S N g nx b i k t
  | .cond _ a b, i, k, t => match contOf S N g nx a i k t with
    | some r => some r
    | none => contOf S N g nx b i k t
  | .block id b, _, k, t => contOf S N g nx b id (fun x s' => match x with
      | .exit i => if i = id then k .normal s' else k (.exit i) s'
      | x => k x s') t
  | .loop b, i, k, t => match Nat.beq i t with
    | true => some k
    | false => match S.tm g i with
      | some T => contOf S N g nx b i (fun x s' => match x with
        | .normal => match T.read s' with
          | some q => guards q.g (nx i q.ds)
          | none => none
        | x => k x s') t
      | none => none
  | _, _, _, _ => none

/-- What comes behind a function's body. -/
def endY (S : SE) (out : List Ty) (g : FuncId) : Kont := fun x s' => match x with
  | .normal | .ret => match (S.E.P.funcs[g]?) with
    | some fn => match resY S.E s' fn.results.toList with
      | some vs => match untup out.length (tupY vs) with
        | some vs => match readTy s'.η out vs with
          | some q => guards q.g (some q.ds)
          | none => none
        | none => none
      | none => none
    | none => none
  | _ => none

/-- The rounds of that loop. -/
abbrev RL (S : SE) (out : List Ty) (N : Nat) (g t : Nat) (nx : Nat → List Dy → Option (List Dy)) (m : Nat) (ds : List Dy) : Option (List Dy) :=
  match S.tm g t, S.E.P.funcs[g]? with
  | some T, some fn => match fn.body with
    | some c => match Nat.ble 1000000 t with
      | false => match loopOf c 0 t, contOf S N g nx c 0 (endY S out g) t with
        | some b, some k => roundsY T (altY S loopY g t (codeY S loopY (callY S loopY depthY) N true g b t) k) (codeY S loopY (callY S loopY depthY) N true g b t) k m ds
        | _, _ => none
      | true => match loopOf c 0 (t - 1000000), contOf S N g nx c 0 (endY S out g) (t - 1000000) with
        | some b, some k => roundsY T (fun _ _ => none) (codeY S loopY (callY S loopY depthY) N true g b (t - 1000000)) k m ds
        | _, _ => none
    | none => none
  | _, _ => none

def memN (x : Nat) : List Nat → Bool
  | [] => false
  | y :: r => Nat.beq x y || memN x r
theorem memN_mem {x : Nat} : ∀ {l : List Nat}, memN x l = true → x ∈ l
  | [], h => by cases h
  | y :: r, h => by
    simp only [memN, Bool.or_eq_true] at h
    rcases h with h | h
    · rw [Nat.eq_of_beq_eq_true h]; simp
    · exact List.mem_cons_of_mem _ (memN_mem h)

/-- Under this condition. -/
def need {β : Type} (b : Bool) (x : Option β) : Option β := match b with
  | true => x
  | false => none

def noNx : Nat → List Dy → Option (List Dy) := fun _ _ => none
abbrev updNx (nx : Nat → List Dy → Option (List Dy)) (j : Nat) (f : List Dy → Option (List Dy)) : Nat → List Dy → Option (List Dy) := fun i => match Nat.beq i j with
  | true => f
  | false => nx i

/-- Contracts, one behind the other. -/
def addCtr (c : FuncId → List Ctr) (g : FuncId) (x : Ctr) : FuncId → List Ctr := fun i => match Nat.beq i g with
  | true => x :: c i
  | false => c i
theorem addCtr_ok {E : Env} {c : FuncId → List Ctr} (h : ∀ g ct, ct ∈ c g → CtrOk E g ct) {g : FuncId} {x : Ctr} (hx : CtrOk E g x) : ∀ i ct, ct ∈ addCtr c g x i → CtrOk E i ct := by
  intro i ct hi
  unfold addCtr at hi
  split at hi
  · rename_i e
    have := Nat.eq_of_beq_eq_true e
    subst this
    rcases List.mem_cons.1 hi with rfl | hi
    · exact hx
    · exact h _ ct hi
  · exact h i ct hi

/-! ### Contracts of few arguments -/

def ctr0 (out : List Ty) (r : List Dy) : Ctr where
  pat := []
  res ds := match ds with
    | [] => some ([], r)
    | _ => none
  out := out
def ctr1 (t : Ty) (out : List Ty) (p : t.den → List Bool) (f : t.den → List Dy) : Ctr where
  pat := [.hole t]
  res ds := match popD t ds with
    | some (x, []) => some (p x, f x)
    | _ => none
  out := out
def ctr2 (t u : Ty) (out : List Ty) (p : t.den → u.den → List Bool) (f : t.den → u.den → List Dy) : Ctr where
  pat := [.hole t, .hole u]
  res ds := match popD t ds with
    | some (x, ds) => match popD u ds with
      | some (y, []) => some (p x y, f x y)
      | _ => none
    | none => none
  out := out
def ctr3 (t u w : Ty) (out : List Ty) (p : t.den → u.den → w.den → List Bool) (f : t.den → u.den → w.den → List Dy) : Ctr where
  pat := [.hole t, .hole u, .hole w]
  res ds := match popD t ds with
    | some (x, ds) => match popD u ds with
      | some (y, ds) => match popD w ds with
        | some (z, []) => some (p x y z, f x y z)
        | _ => none
      | none => none
    | none => none
  out := out

theorem popD_eq {t : Ty} {ds r : List Dy} {x : t.den} (h : popD t ds = some (x, r)) : ds = ⟨t, x⟩ :: r := by
  unfold popD at h
  split at h
  · rename_i d r'
    split at h
    · rename_i y hy
      obtain ⟨e, rfl⟩ := castD_some hy
      simp only [Option.some.injEq, Prod.mk.injEq] at h
      obtain ⟨h1, rfl⟩ := h
      obtain ⟨t', x'⟩ := d
      subst e
      rw [← h1]
    · cases h
  · cases h

theorem ctr0_res {out : List Ty} {r ds ds' : List Dy} {gs : List Bool} (h : (ctr0 out r).res ds = some (gs, ds')) : ds = [] ∧ gs = [] ∧ ds' = r := by
  simp only [ctr0] at h
  split at h
  · cases h; exact ⟨rfl, rfl, rfl⟩
  · cases h
theorem ctr1_res {t : Ty} {out : List Ty} {p : t.den → List Bool} {f : t.den → List Dy} {ds ds' : List Dy} {gs : List Bool} (h : (ctr1 t out p f).res ds = some (gs, ds')) : ∃ x, ds = [⟨t, x⟩] ∧ gs = p x ∧ ds' = f x := by
  simp only [ctr1] at h
  split at h
  · rename_i x hx
    cases h
    exact ⟨x, popD_eq hx, rfl, rfl⟩
  · cases h
theorem ctr2_res {t u : Ty} {out : List Ty} {p : t.den → u.den → List Bool} {f : t.den → u.den → List Dy} {ds ds' : List Dy} {gs : List Bool} (h : (ctr2 t u out p f).res ds = some (gs, ds')) : ∃ x y, ds = [⟨t, x⟩, ⟨u, y⟩] ∧ gs = p x y ∧ ds' = f x y := by
  simp only [ctr2] at h
  split at h
  · rename_i x ds1 hx
    split at h
    · rename_i y hy
      cases h
      exact ⟨x, y, by rw [popD_eq hx, popD_eq hy], rfl, rfl⟩
    · cases h
  · cases h
theorem ctr3_res {t u w : Ty} {out : List Ty} {p : t.den → u.den → w.den → List Bool} {f : t.den → u.den → w.den → List Dy} {ds ds' : List Dy} {gs : List Bool} (h : (ctr3 t u w out p f).res ds = some (gs, ds')) : ∃ x y z, ds = [⟨t, x⟩, ⟨u, y⟩, ⟨w, z⟩] ∧ gs = p x y z ∧ ds' = f x y z := by
  simp only [ctr3] at h
  split at h
  · rename_i x ds1 hx
    split at h
    · rename_i y ds2 hy
      split at h
      · rename_i z hz
        cases h
        exact ⟨x, y, z, by rw [popD_eq hx, popD_eq hy, popD_eq hz], rfl, rfl⟩
      · cases h
    · cases h
  · cases h

/-- What symbolic evaluation stands upon. -/
structure SOkE (S : SE) : Prop where
  G : GFlat S.E
  ctr : ∀ g ct, ct ∈ S.ctr g → CtrOk S.E g ct
  orc : ∀ g, S.E.full g = true → ∀ vs, S.E.orc g vs = none

theorem ctr0_ok {S : SE} (hS : SOkE S) {g : FuncId} (hOg : ∀ vs, S.E.orc g vs = none) (hfull : S.E.full g = false) {out : List Ty} {r : List Dy} (h : ∃ n, fnY S loopY [] out n g [] = some r) : CtrOk S.E g (ctr0 out r) :=
  CtrOk.of_fn hS.G hS.ctr hS.orc hOg hfull rfl fun ds gs ds' hr hg => by
    obtain ⟨rfl, rfl, rfl⟩ := ctr0_res hr
    exact h
theorem ctr1_ok {S : SE} (hS : SOkE S) {g : FuncId} (hOg : ∀ vs, S.E.orc g vs = none) (hfull : S.E.full g = false) {t : Ty} {out : List Ty} {p : t.den → List Bool} {f : t.den → List Dy}
    (h : ∀ x, (p x).all id = true → ∃ n, fnY S loopY [.hole t] out n g [⟨t, x⟩] = some (f x)) : CtrOk S.E g (ctr1 t out p f) :=
  CtrOk.of_fn hS.G hS.ctr hS.orc hOg hfull rfl fun ds gs ds' hr hg => by
    obtain ⟨x, rfl, rfl, rfl⟩ := ctr1_res hr
    exact h x hg
theorem ctr2_ok {S : SE} (hS : SOkE S) {g : FuncId} (hOg : ∀ vs, S.E.orc g vs = none) (hfull : S.E.full g = false) {t u : Ty} {out : List Ty} {p : t.den → u.den → List Bool} {f : t.den → u.den → List Dy}
    (h : ∀ x y, (p x y).all id = true → ∃ n, fnY S loopY [.hole t, .hole u] out n g [⟨t, x⟩, ⟨u, y⟩] = some (f x y)) : CtrOk S.E g (ctr2 t u out p f) :=
  CtrOk.of_fn hS.G hS.ctr hS.orc hOg hfull rfl fun ds gs ds' hr hg => by
    obtain ⟨x, y, rfl, rfl, rfl⟩ := ctr2_res hr
    exact h x y hg
theorem ctr3_ok {S : SE} (hS : SOkE S) {g : FuncId} (hOg : ∀ vs, S.E.orc g vs = none) (hfull : S.E.full g = false) {t u w : Ty} {out : List Ty} {p : t.den → u.den → w.den → List Bool} {f : t.den → u.den → w.den → List Dy}
    (h : ∀ x y z, (p x y z).all id = true → ∃ n, fnY S loopY [.hole t, .hole u, .hole w] out n g [⟨t, x⟩, ⟨u, y⟩, ⟨w, z⟩] = some (f x y z)) : CtrOk S.E g (ctr3 t u w out p f) :=
  CtrOk.of_fn hS.G hS.ctr hS.orc hOg hfull rfl fun ds gs ds' hr hg => by
    obtain ⟨x, y, z, rfl, rfl, rfl⟩ := ctr3_res hr
    exact h x y z hg

/-- Oracles of one number, as contracts. -/
theorem ctr1_orcI {E : Env} {g : FuncId} {k k' : IntKind} {f : Int → Int} (h : ∀ x, E.orc g [.int k x] = some (.int k' (f x))) : CtrOk E g (ctr1 (.int k) [.int k'] (fun _ => []) fun x => [⟨.int k', f x⟩]) := by
  intro ds gs ds' args vs sv rc hr hg hargs hv hown hsv
  obtain ⟨x, rfl, rfl, rfl⟩ := ctr1_res hr
  have e1 : args = [.v (.int k x)] := by
    have : instPL [] [.hole (.int k)] [⟨.int k, x⟩] = some ([SV.v (.int k x)], []) := by
      unfold instPL instP
      rw [show popD (Ty.int k) [⟨Ty.int k, x⟩] = some (x, []) from popD_self (t := .int k)]
      rfl
    have e : instPL [] [.hole (.int k)] [⟨.int k, x⟩] = some (args, []) := hargs
    rw [this] at e
    exact (Prod.mk.inj (Option.some.inj e)).1.symm
  have e2 : sv = [.v (.int k' (f x))] := by
    have : instTy [.int k'] [⟨.int k', f x⟩] = some [SV.v (.int k' (f x))] := by
      unfold instTy
      rw [show popD (Ty.int k') [⟨Ty.int k', f x⟩] = some (f x, []) from popD_self (t := .int k')]
      rfl
    exact instTy_exact hsv this
  subst e1 e2
  obtain ⟨y, rfl, rfl, _⟩ := vrl1 hv
  refine ⟨.pure (.int k' (f x)), ⟨1, fun m hm => ?_⟩, fun _ => ⟨_, rfl⟩, rfl, rfl⟩
  obtain ⟨m, rfl⟩ : ∃ j, m = j + 1 := ⟨m - 1, by omega⟩
  simp only [evCall, h x]
/-- An oracle of nothing, that tells a bit. -/
theorem ctr0_orcB {E : Env} {g : FuncId} {b : Bool} (h : E.orc g [] = some (.bool b)) : CtrOk E g (ctr0 [.bool] [⟨.bool, b⟩]) := by
  intro ds gs ds' args vs sv rc hr hg hargs hv hown hsv
  obtain ⟨rfl, rfl, rfl⟩ := ctr0_res hr
  have e1 : args = [] := by
    have e : instPL [] [] [] = some (args, []) := hargs
    simp only [instPL, Option.some.injEq, Prod.mk.injEq] at e
    exact e.1.symm
  have e2 : sv = [.v (.bool b)] := by
    have : instTy [.bool] [⟨.bool, b⟩] = some [SV.v (.bool b)] := by
      simp only [instTy, popD_self]; rfl
    exact instTy_exact hsv this
  subst e1 e2
  simp only [VRL] at hv
  subst hv
  refine ⟨.pure (.bool b), ⟨1, fun m hm => ?_⟩, fun _ => ⟨_, rfl⟩, rfl, rfl⟩
  obtain ⟨m, rfl⟩ : ∃ j, m = j + 1 := ⟨m - 1, by omega⟩
  simp only [evCall, h]

end Go.Am
