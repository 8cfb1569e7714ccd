/-
  The evaluator's calls are the model's: the theorem.
-/
import Derived.Test.YthmmpfaghmoenaaDoorAmLit
import Derived.LoopN
namespace Go.Am
open Go

variable {E : Env} {N : Nat} {ρ : Nat → Loc} {H : List AObj} {w : World}

/-! ### A region that draws its order -/

theorem evQuiet_run (ok : E.Ok) {C : Callee} (hC : Callee.Ok E C) {ops : List Oper} {H : Hp} {ρ : Nat → Loc} {w0 : World} (hw0 : WR E N ρ H.objs w0) {K : Act → Prop} : ∀ (r : List Oper) (f f' : Fr) (a : Act),
    evQuiet E C ops r f H = some f' → FR H.objs.length ρ f a → (∀ a', FR H.objs.length ρ f' a' → K a') →
    wpQuiet E.P ops.toArray (fun w' => WR E N ρ H.objs w' ∧ Goes H.objs ρ w0 H.objs ρ w') K r a
  | [], f, f', a, h, hf, hK => by
    simp only [evQuiet, Option.some.injEq] at h
    subst h
    exact hK a hf
  | o :: r, f, f', a, h, hf, hK => by
    simp only [evQuiet] at h
    unfold wpQuiet
    split at h
    · rename_i hwant
      rw [if_pos (wanted_run hf hwant)]
      split at h
      · rename_i hq
        split at h
        · rename_i v H' hop
          split at h
          · rename_i hlen
            split at h
            · rename_i f1 hs
              obtain ⟨_, hq'⟩ := opV_quiet hq hop (fun _ _ => hlen)
              rcases hq' with ⟨u, hu, hrun⟩ | ⟨g, args, hu, _⟩
              · simp only [R.val.injEq] at hu
                subst hu
                have hlt := (hrun N ρ w0 a hw0 hf).1
                refine ⟨v.emb ρ, fun w hw => ?_, evQuiet_run ok hC hw0 r f1 f' _ h (hf.set hlt hs) hK⟩
                unfold Oper.quietAt
                rw [(hrun N ρ w a hw.1 hf).2]
                exact ⟨rfl, rfl⟩
              · cases hu
            · cases h
          · cases h
        · rename_i g args H' hop
          obtain ⟨_, hq'⟩ := opV_quiet hq hop (fun _ h => by cases h)
          rcases hq' with ⟨u, hu, _⟩ | ⟨g', args', hu, hrun⟩
          · cases hu
          · simp only [R.enter.injEq] at hu
            obtain ⟨rfl, rfl⟩ := hu
            split at h
            · rename_i v hc
              split at h
              · rename_i f1 hs
                have hargs := (hrun N ρ w0 a hw0 hf).1
                have hgood := (hC g args H.objs _ hc hargs N ρ w0 hw0).1
                refine ⟨v.emb ρ, fun w hw => ?_, evQuiet_run ok hC hw0 r f1 f' _ h (hf.set (lt_flat hgood _) hs) hK⟩
                unfold Oper.quietAt
                rw [(hrun N ρ w a hw.1 hf).2]
                refine ⟨rfl, ?_⟩
                exact (hC g args H.objs _ hc hargs N ρ w hw.1).2.mono fun e w' hp => ⟨hp.1, hp.2.1, hw.2.trans hp.2.2⟩
              · cases h
            · cases h
        · cases h
      · cases h
    · rename_i hwant
      rw [if_neg (by rw [wanted_run hf hwant]; simp)]
      split at h
      · rename_i f1 hs
        exact evQuiet_run ok hC hw0 r f1 f' _ h (hf.set (v := .undef) rfl hs) hK
      · cases h
    · cases h

theorem evQuiet_reach (ok : E.Ok) {C : Callee} (hC : Callee.Ok E C) {ops : List Oper} {H : Hp} {ρ : Nat → Loc} {w0 : World} (hw0 : WR E N ρ H.objs w0) : ∀ (r : List Oper) (f f' : Fr) (a : Act),
    evQuiet E C ops r f H = some f' → FR H.objs.length ρ f a → ∃ a', FR H.objs.length ρ f' a'
  | [], f, f', a, h, hf => by
    simp only [evQuiet, Option.some.injEq] at h
    subst h
    exact ⟨a, hf⟩
  | o :: r, f, f', a, h, hf => by
    simp only [evQuiet] at h
    split at h
    · split at h
      · rename_i hq
        split at h
        · rename_i v H' hop
          split at h
          · rename_i hlen
            split at h
            · rename_i f1 hs
              obtain ⟨_, hq'⟩ := opV_quiet hq hop (fun _ _ => hlen)
              rcases hq' with ⟨u, hu, hrun⟩ | ⟨g, args, hu, _⟩
              · simp only [R.val.injEq] at hu
                subst hu
                exact evQuiet_reach ok hC hw0 r f1 f' _ h (hf.set (hrun N ρ w0 a hw0 hf).1 hs)
              · cases hu
            · cases h
          · cases h
        · rename_i g args H' hop
          obtain ⟨_, hq'⟩ := opV_quiet hq hop (fun _ h => by cases h)
          rcases hq' with ⟨u, hu, _⟩ | ⟨g', args', hu, hrun⟩
          · cases hu
          · simp only [R.enter.injEq] at hu
            obtain ⟨rfl, rfl⟩ := hu
            split at h
            · rename_i v hc
              split at h
              · rename_i f1 hs
                have hgood := (hC g args H.objs _ hc (hrun N ρ w0 a hw0 hf).1 N ρ w0 hw0).1
                exact evQuiet_reach ok hC hw0 r f1 f' _ h (hf.set (lt_flat hgood _) hs)
              · cases h
            · cases h
        · cases h
      · cases h
    · split at h
      · rename_i f1 hs
        exact evQuiet_reach ok hC hw0 r f1 f' _ h (hf.set (v := .undef) rfl hs)
      · cases h
    · cases h

/-! ### Code -/

def X.exit' : X → Exit
  | .normal => .normal
  | .exit id => .exit id
  | .ret => .ret

theorem evCode_mono (ok : E.Ok) {C : Callee} (hC : Callee.Ok E C) (fuel : Nat) : ∀ (c : Code) (s : St) (x : X) (s' : St) (ρ : Nat → Loc) (a : Act) (w : World),
    evCode E C fuel c s = some (x, s') → WR E N ρ s.2.objs w → FR s.2.objs.length ρ s.1 a → Mono s.2 s'.2 ∧ Reach E N ρ s.2.objs w s'.1 s'.2 := by
  intro c
  induction c with
  | skip => intro s x s' ρ a w h hw hf; simp only [evCode, Option.some.injEq, Prod.mk.injEq] at h; obtain ⟨rfl, rfl⟩ := h; exact ⟨Mono.refl _, ρ, a, w, hf, hw, Goes.refl _ _ _⟩
  | label l => intro s x s' ρ a w h hw hf; simp only [evCode, Option.some.injEq, Prod.mk.injEq] at h; obtain ⟨rfl, rfl⟩ := h; exact ⟨Mono.refl _, ρ, a, w, hf, hw, Goes.refl _ _ _⟩
  | exit id => intro s x s' ρ a w h hw hf; simp only [evCode, Option.some.injEq, Prod.mk.injEq] at h; obtain ⟨rfl, rfl⟩ := h; exact ⟨Mono.refl _, ρ, a, w, hf, hw, Goes.refl _ _ _⟩
  | ret => intro s x s' ρ a w h hw hf; simp only [evCode, Option.some.injEq, Prod.mk.injEq] at h; obtain ⟨rfl, rfl⟩ := h; exact ⟨Mono.refl _, ρ, a, w, hf, hw, Goes.refl _ _ _⟩
  | region id ops d =>
    intro s x s' ρ a w h hw hf
    cases d with
    | false =>
      simp only [evCode, Option.map_eq_some_iff, Prod.mk.injEq] at h
      obtain ⟨s1, h1, rfl, rfl⟩ := h
      exact evOps_mono ok hC _ _ _ _ _ ρ a w h1 hw hf
    | true =>
      simp only [evCode] at h
      split at h
      · rename_i f1 h1
        simp only [Option.some.injEq, Prod.mk.injEq] at h
        obtain ⟨rfl, rfl⟩ := h
        split at h1
        case isFalse => cases h1
        obtain ⟨a', ha'⟩ := evQuiet_reach ok hC hw _ _ _ a h1 hf
        exact ⟨Mono.refl _, ρ, a', w, ha', hw, Goes.refl _ _ _⟩
      · split at h
        · rename_i hB
          simp only [Option.map_eq_some_iff, Prod.mk.injEq] at h
          obtain ⟨s1, h1, rfl, rfl⟩ := h
          cases hd : evDrawn E C ops.toList s.2.objs.length (befs ops.toList []) ops.toList [] s.1 s.2 with
          | some s2 => rw [hd] at h1; cases h1; exact (evDrawn_run ok hC (id := id) hB hw hf hd).1
          | none => rw [hd] at h1; exact (evLit_run ok (id := id) hB hw hf h1).1
        · cases h
  | seq c1 c2 ih1 ih2 =>
    intro s x s' ρ a w h hw hf
    simp only [evCode] at h
    split at h
    · rename_i s1 h1
      obtain ⟨m1, ρ1, a1, w1, f1, r1, g1⟩ := ih1 s _ s1 ρ a w h1 hw hf
      have := ih2 s1 x s' ρ1 a1 w1 h r1 f1
      exact ⟨m1.trans this.1, this.2.before g1⟩
    · exact ih1 s x s' ρ a w h hw hf
  | cond c t e ih1 ih2 =>
    intro s x s' ρ a w h hw hf
    simp only [evCode] at h
    split at h
    · exact ih1 s x s' ρ a w h hw hf
    · exact ih2 s x s' ρ a w h hw hf
    · cases h
  | block id b ih =>
    intro s x s' ρ a w h hw hf
    simp only [evCode] at h
    split at h
    · rename_i i s1 h1
      split at h
      · simp only [Option.some.injEq, Prod.mk.injEq] at h
        obtain ⟨rfl, rfl⟩ := h
        exact ih s _ s1 ρ a w h1 hw hf
      · simp only [Option.some.injEq, Prod.mk.injEq] at h
        obtain ⟨rfl, rfl⟩ := h
        exact ih s _ s1 ρ a w h1 hw hf
    · exact ih s x s' ρ a w h hw hf
  | loop b ih =>
    intro s x s' ρ a w h hw hf
    simp only [evCode] at h
    have key : ∀ (n : Nat) (s : St) (ρ : Nat → Loc) (a : Act) (w : World), iter (evCode E C fuel b) n s = some (x, s') → WR E N ρ s.2.objs w → FR s.2.objs.length ρ s.1 a → Mono s.2 s'.2 ∧ Reach E N ρ s.2.objs w s'.1 s'.2 := by
      intro n
      induction n with
      | zero => intro s ρ a w h; cases h
      | succ n ihn =>
        intro s ρ a w h hw hf
        simp only [iter] at h
        split at h
        · rename_i s1 h1
          obtain ⟨m1, ρ1, a1, w1, f1, r1, g1⟩ := ih s _ s1 ρ a w h1 hw hf
          have := ihn s1 ρ1 a1 w1 h r1 f1
          exact ⟨m1.trans this.1, this.2.before g1⟩
        · exact ih s x s' ρ a w h hw hf
    exact key fuel s ρ a w h hw hf
  | rangeFunc f ps as b ih1 ih2 => intro s x s' ρ a w h; simp [evCode] at h
  | scope b ih => intro s x s' ρ a w h; simp [evCode] at h
  | goto l => intro s x s' ρ a w h; simp [evCode] at h
  | refuse why => intro s x s' ρ a w h; simp [evCode] at h

theorem evCode_run (ok : E.Ok) {C : Callee} (hC : Callee.Ok E C) (fuel : Nat) : ∀ (c : Code) (s : St) (x : X) (s' : St) (ρ : Nat → Loc) (a : Act) (w : World) (Q : Exit → Act → World → Prop),
    evCode E C fuel c s = some (x, s') → WR E N ρ s.2.objs w → FR s.2.objs.length ρ s.1 a → Ends E N ρ s.2.objs w (Q x.exit') s'.1 s'.2 → c.wp E.P Q a w := by
  intro c
  induction c with
  | skip => intro s x s' ρ a w Q h hw hf hQ; simp only [evCode, Option.some.injEq, Prod.mk.injEq] at h; obtain ⟨rfl, rfl⟩ := h; exact wp_skip (hQ ρ a w hf hw (Goes.refl _ _ _))
  | label l => intro s x s' ρ a w Q h hw hf hQ; simp only [evCode, Option.some.injEq, Prod.mk.injEq] at h; obtain ⟨rfl, rfl⟩ := h; exact wp_label (hQ ρ a w hf hw (Goes.refl _ _ _))
  | exit id => intro s x s' ρ a w Q h hw hf hQ; simp only [evCode, Option.some.injEq, Prod.mk.injEq] at h; obtain ⟨rfl, rfl⟩ := h; exact wp_exit (hQ ρ a w hf hw (Goes.refl _ _ _))
  | ret => intro s x s' ρ a w Q h hw hf hQ; simp only [evCode, Option.some.injEq, Prod.mk.injEq] at h; obtain ⟨rfl, rfl⟩ := h; exact wp_ret (hQ ρ a w hf hw (Goes.refl _ _ _))
  | region id ops d =>
    intro s x s' ρ a w Q h hw hf hQ
    cases d with
    | false =>
      simp only [evCode, Option.map_eq_some_iff, Prod.mk.injEq] at h
      obtain ⟨s1, h1, rfl, rfl⟩ := h
      refine wp_region_list ?_
      have := evOps_run ok hC (Q := Q) _ _ _ _ _ ρ a w h1 hw hf hQ
      simpa using this
    | true =>
      simp only [evCode] at h
      split at h
      case h_2 =>
        split at h
        case isFalse => cases h
        rename_i hB
        simp only [Option.map_eq_some_iff, Prod.mk.injEq] at h
        obtain ⟨s1, h1, rfl, rfl⟩ := h
        cases hd : evDrawn E C ops.toList s.2.objs.length (befs ops.toList []) ops.toList [] s.1 s.2 with
        | some s2 => rw [hd] at h1; cases h1; exact (evDrawn_run ok hC (id := id) hB hw hf hd).2 hQ
        | none => rw [hd] at h1; exact (evLit_run ok (id := id) hB hw hf h1).2 hQ
      rename_i f1 h1
      simp only [Option.some.injEq, Prod.mk.injEq] at h
      obtain ⟨rfl, rfl⟩ := h
      split at h1
      case isFalse => cases h1
      rename_i hqB
      simp only [Bool.and_eq_true] at hqB
      have hw1 : WR E N ρ s.2.objs { w with drawn := w.drawn + 1 } := hw.drawn rfl
      have hg1 : Goes s.2.objs ρ w s.2.objs ρ { w with drawn := w.drawn + 1 } := ⟨rfl, rfl, rfl, Nat.le_refl _, fun _ _ _ => rfl, fun _ _ h => h, fun _ _ => rfl, Nat.le_refl _⟩
      refine wp_region_quiet (C := fun w' => WR E N ρ s.2.objs w' ∧ Goes s.2.objs ρ w s.2.objs ρ w') ok.mixed hqB.2 ⟨hw1, hg1⟩ ?_
      have := evQuiet_run ok hC hw (K := fun a' => ∀ w', (WR E N ρ s.2.objs w' ∧ Goes s.2.objs ρ w s.2.objs ρ w') → Q .normal a' w') _ _ _ a h1 hf (fun a' ha' w' hw' => hQ ρ a' w' ha' hw'.1 hw'.2)
      simpa using this
  | seq c1 c2 ih1 ih2 =>
    intro s x s' ρ a w Q h hw hf hQ
    simp only [evCode] at h
    refine wp_seq ?_
    split at h
    · rename_i s1 h1
      exact ih1 s _ s1 ρ a w _ h1 hw hf fun ρ1 a1 w1 f1 r1 g1 => ih2 s1 x s' ρ1 a1 w1 Q h r1 f1 (hQ.after g1)
    · rename_i hne
      refine ih1 s x s' ρ a w _ h hw hf fun ρ1 a1 w1 f1 r1 g1 => ?_
      have := hQ ρ1 a1 w1 f1 r1 g1
      cases x with
      | normal => exact absurd h (hne _)
      | exit id => exact this
      | ret => exact this
  | cond c t e ih1 ih2 =>
    intro s x s' ρ a w Q h hw hf hQ
    simp only [evCode] at h
    split at h
    · rename_i hc
      exact wp_cond_true (by rw [(hf.ev hc).2]; rfl) (ih1 s x s' ρ a w Q h hw hf hQ)
    · rename_i hc
      exact wp_cond_false (by rw [(hf.ev hc).2]; rfl) (ih2 s x s' ρ a w Q h hw hf hQ)
    · cases h
  | block id b ih =>
    intro s x s' ρ a w Q h hw hf hQ
    simp only [evCode] at h
    refine wp_block ?_
    split at h
    · rename_i i s1 h1
      split at h
      · rename_i hi
        simp only [Option.some.injEq, Prod.mk.injEq] at h
        obtain ⟨rfl, rfl⟩ := h
        refine ih s _ s1 ρ a w _ h1 hw hf fun ρ1 a1 w1 f1 r1 g1 => ?_
        simp only [X.exit', Exit.inBlock, hi, if_true]
        exact hQ ρ1 a1 w1 f1 r1 g1
      · rename_i hi
        simp only [Option.some.injEq, Prod.mk.injEq] at h
        obtain ⟨rfl, rfl⟩ := h
        refine ih s _ s1 ρ a w _ h1 hw hf fun ρ1 a1 w1 f1 r1 g1 => ?_
        simp only [X.exit', Exit.inBlock, hi, if_false]
        exact hQ ρ1 a1 w1 f1 r1 g1
    · rename_i hne
      refine ih s x s' ρ a w _ h hw hf fun ρ1 a1 w1 f1 r1 g1 => ?_
      have := hQ ρ1 a1 w1 f1 r1 g1
      cases x with
      | normal => exact this
      | exit i => exact absurd h (hne _ _)
      | ret => exact this
  | loop b ih =>
    intro s x s' ρ a w Q h hw hf hQ
    simp only [evCode] at h
    refine wp_loop_rounds fuel ?_
    have key : ∀ (n : Nat) (s : St) (ρ : Nat → Loc) (a : Act) (w : World), iter (evCode E C fuel b) n s = some (x, s') → WR E N ρ s.2.objs w → FR s.2.objs.length ρ s.1 a → Ends E N ρ s.2.objs w (Q x.exit') s'.1 s'.2 →
        x ≠ .normal → Code.rounds E.P b Q n a w := by
      intro n
      induction n with
      | zero => intro s ρ a w h; cases h
      | succ n ihn =>
        intro s ρ a w h hw hf hQ hx
        simp only [iter] at h
        rw [rounds_succ]
        split at h
        · rename_i s1 h1
          exact ih s _ s1 ρ a w _ h1 hw hf fun ρ1 a1 w1 f1 r1 g1 => ihn s1 ρ1 a1 w1 h r1 f1 (hQ.after g1) hx
        · refine ih s x s' ρ a w _ h hw hf fun ρ1 a1 w1 f1 r1 g1 => ?_
          have := hQ ρ1 a1 w1 f1 r1 g1
          cases x with
          | normal => exact absurd rfl hx
          | exit i => exact this
          | ret => exact this
    have hx : ∀ (n : Nat) (s : St), iter (evCode E C fuel b) n s = some (x, s') → x ≠ .normal := by
      intro n
      induction n with
      | zero => intro s h; cases h
      | succ n ihn =>
        intro s h
        simp only [iter] at h
        split at h
        · exact ihn _ h
        · rename_i hne
          intro e
          subst e
          exact hne _ h
    exact key fuel s ρ a w h hw hf hQ (hx fuel s h)
  | rangeFunc f ps as b ih1 ih2 => intro s x s' ρ a w Q h; simp [evCode] at h
  | scope b ih => intro s x s' ρ a w Q h; simp [evCode] at h
  | goto l => intro s x s' ρ a w Q h; simp [evCode] at h
  | refuse why => intro s x s' ρ a w Q h; simp [evCode] at h

/-! ### Calls -/

def resF (tmps : Array Value) : ResultVar → Sem Value
  | .tmp t => pure (tmps.getD t undef)
  | .cell p t => do loadVar t (← asAddr (tmps.getD p undef))

theorem results_eq (fn : Func) (tmps : Array Value) : results fn tmps = (do let vs ← fn.results.mapM (resF tmps); pure (if h : vs.size = 1 then vs[0] else .tuple vs)) := by
  have e : (fun x => match x with
      | ResultVar.tmp t => (pure (tmps.getD t undef) : Sem Value)
      | ResultVar.cell a t => do loadVar t (← asAddr (tmps.getD a undef))) = resF tmps := by
    funext x
    cases x <;> rfl
  rw [← e]
  rfl

theorem resV_run {f : Fr} {F : Hp} {a : Act} (hw : WR E N ρ F.objs w) (hf : FR F.objs.length ρ f a) : ∀ (rs : List ResultVar) (vs : List V), resV E f F rs = some vs →
    ltL F.objs.length vs ∧ (rs.mapM (resF a.tmps)).run E.P w = .ok (vs.map (V.emb ρ)) w
  | [], vs, h => by simp only [resV, Option.some.injEq] at h; subst h; exact ⟨ltL_nil _, rfl⟩
  | .tmp t :: r, vs, h => by
    simp only [resV] at h
    split at h
    · rename_i v us h1 h2
      simp only [Option.some.injEq] at h
      subst h
      have ih := resV_run hw hf r us h2
      have hv := hf.val t v h1
      refine ⟨ltL_cons.2 ⟨hv.1, ih.1⟩, ?_⟩
      have e : a.tmps.getD t undef = v.emb ρ := by simp [Array.getD_eq_getD_getElem?, hv.2]
      simp only [List.mapM_cons, Sem.run_bind, resF, Sem.run_pure, Result.andThen_ok, ih.2, e, List.map_cons]
    · cases h
  | .cell p t :: r, vs, h => by
    simp only [resV] at h
    split at h
    · rename_i v us h1 h2
      simp only [Option.some.injEq] at h
      subst h
      simp only [Option.bind_eq_some_iff] at h1
      obtain ⟨u, h3, h4⟩ := h1
      have ih := resV_run hw hf r us h2
      have hu := hf.val p u h3
      have hl := loadV_run hw (wr := F.wr) (esc := F.esc) h4
      refine ⟨ltL_cons.2 ⟨hl.2, ih.1⟩, ?_⟩
      have e : a.tmps.getD p undef = u.emb ρ := by simp [Array.getD_eq_getD_getElem?, hu.2]
      have hl' : (do loadVar t (← asAddr (u.emb ρ)) : Sem Value).run E.P w = .ok (v.emb ρ) w := by
        have := hl.1
        unfold loadV at h4
        split at h4
        · cases h4
        · rename_i cs o hc
          obtain ⟨_, b, f', hp, _⟩ := cellsOf_run hw (wr := F.wr) (esc := F.esc) hc
          rw [hp] at this ⊢
          simpa [Instr.loadAt, Instr.sureAddr, asAddr] using this
      simp only [List.mapM_cons, Sem.run_bind, resF, Sem.run_pure, e] at hl' ⊢
      rw [hl']
      simp only [Result.andThen_ok, ih.2, List.map_cons]
    · cases h

theorem results_run {fn : Func} {f : Fr} {F : Hp} {a : Act} {vs : List V} (hw : WR E N ρ F.objs w) (hf : FR F.objs.length ρ f a) (h : resV E f F fn.results.toList = some vs) :
    (results fn a.tmps).run E.P w = .ok ((tupV vs).emb ρ) w ∧ (tupV vs).lt F.objs.length = true := by
  have hr := resV_run hw hf _ _ h
  refine ⟨?_, ?_⟩
  · rw [results_eq, ← Array.toArray_toList (xs := fn.results), List.mapM_toArray]
    simp only [Sem.run_bind, Sem.run_map, hr.2, Result.andThen_ok, Sem.run_pure]
    congr 1
    match vs with
    | [] => simp [tupV]
    | [v] => simp [tupV]
    | v :: u :: r => simp [tupV]
  · match vs, hr.1 with
    | [], _ => exact (lt_tup _ _).2 (ltL_nil _)
    | [v], h => exact (ltL_cons.1 h).1
    | v :: u :: r, h => exact (lt_tup _ _).2 h

theorem take_eq {H F : List AObj} (h : ∀ k, k < H.length → F[k]? = H[k]?) : F.take H.length = H := by
  apply List.ext_getElem?
  intro k
  rw [List.getElem?_take]
  split
  · rename_i hk; exact h k hk
  · rename_i hk; rw [List.getElem?_eq_none (by omega)]

/-- The end of a call. -/
theorem close_run (hw : WR E N ρ H w) {ρ' : Nat → Loc} {w' : World} {F : Hp} {v : V} (hm : Mono ⟨H, H.length, H.length⟩ F) (hw' : WR E N ρ' F.objs w') (hg : Goes H ρ w F.objs ρ' w') (hv : v.lt F.objs.length = true) :
    (close H.length v F).good H ∧ CallPost E N ρ H w (close H.length v F) (.returned (v.emb ρ')) w' := by
  have hlen := hm.len
  simp only at hlen
  unfold close
  split
  · rename_i hc
    simp only [Bool.and_eq_true, decide_eq_true_eq] at hc
    refine ⟨hc.1, by rw [emb_flat hc.1 ρ ρ'], ?_, ?_⟩
    · have hsame : ∀ k, k < H.length → F.objs[k]? = H[k]? := fun k hk => hm.same k (by omega) hk
      refine ⟨hw'.low, hw.vals, fun k o hk => ?_, fun k k' o o' hk hk' h1 h2 hne => ?_, globs_kept hw (fun b hb => hg.same b (Nat.lt_of_lt_of_le hb hw.low) (fun ⟨k, o, hk, ho, he⟩ => by have := hw.own_ge hk ho; omega))⟩
      · have hlt := (List.getElem?_eq_some_iff.1 hk).1
        have := hw'.objs k o (by rw [hsame k hlt]; exact hk)
        rw [hg.ext k hlt] at this
        exact this.kept (hw.vals k o hk) (fun j hj => (hg.ext j hj).symm) rfl
      · have hlt := (List.getElem?_eq_some_iff.1 hk).1
        have hlt' := (List.getElem?_eq_some_iff.1 hk').1
        have := hw'.inj k k' o o' (by rw [hsame k hlt]; exact hk) (by rw [hsame k' hlt']; exact hk') h1 h2 hne
        rwa [hg.ext k hlt, hg.ext k' hlt'] at this
    · exact ⟨hg.os, hg.tape, hg.output, hg.size, hg.same, fun _ _ h => h, fun _ _ => rfl, Nat.le_refl _⟩
  · split
    · rename_i hc
      simp only [Bool.and_eq_true, decide_eq_true_eq] at hc
      have hl : (F.objs.take H.length).length = H.length := by simp; omega
      have hget : ∀ (k : Nat) (o : AObj), (F.objs.take H.length)[k]? = some o → k < H.length ∧ F.objs[k]? = some o := fun k o hk => by
        rw [List.getElem?_take] at hk
        split at hk
        · rename_i hlt; exact ⟨hlt, hk⟩
        · cases hk
      have hcl := hm.closed H.length (Nat.le_refl _) hc.2 hw.closed
      refine ⟨⟨lt_flat hc.1 _, ?_⟩, ρ', rfl, ?_, ?_⟩
      · refine ⟨by simp only [hl]; exact Nat.le_refl _, hm.wr, hm.esc, fun k h1 h2 => ?_, fun lo h1 h2 h3 k o hk ho => ?_⟩
        · simp only at h1 h2 ⊢
          rw [List.getElem?_take, if_pos h2]
          exact hm.same k h1 h2
        · exact hm.closed lo h1 h2 h3 k o hk (hget k o ho).2
      · refine ⟨hw'.low, fun k o hk => ?_, fun k o hk => hw'.objs k o (hget k o hk).2, fun k k' o o' hk hk' h1 h2 hne => hw'.inj k k' o o' (hget k o hk).2 (hget k' o' hk').2 h1 h2 hne, hw'.globs⟩
        simp only [hl]
        exact hcl k o (hget k o hk).1 (hget k o hk).2
      · refine ⟨hg.os, hg.tape, hg.output, hg.size, hg.same, fun b hb ⟨k, o, hk, ho, he⟩ => hg.owned b hb ⟨k, o, (hget k o hk).2, ho, he⟩, hg.ext, by simp only [hl]; exact Nat.le_refl _⟩
    · exact ⟨⟨hv, hm⟩, ρ', rfl, hw', hg⟩

theorem get_frame : ∀ (n : Nat) (l : List V) (t : Nat), l.length ≤ n → get (frame n l) t = l[t]?
  | 0, [], t, _ => by simp [frame, get]
  | n + 1, [], 0, _ => by simp [frame, get]
  | n + 1, [], t + 1, _ => by simp [frame, get, get_frame n [] t]
  | n + 1, v :: r, 0, _ => by simp [frame, get]
  | n + 1, v :: r, t + 1, h => by simp [frame, get, get_frame n r t (by simpa using h)]

theorem length_frame : ∀ (n : Nat) (l : List V), (frame n l).length = n
  | 0, _ => rfl
  | n + 1, [] => by simp [frame, length_frame n []]
  | n + 1, v :: r => by simp [frame, length_frame n r]

theorem enter_fr {args : List V} {n : Nat} (hl : ltL H.length args) (hle : args.length ≤ n) :
    FR H.length ρ { m := frame n args } { tmps := (args.map (V.emb ρ)).toArray ++ Array.replicate (n - ((args.map (V.emb ρ)).toArray).size) undef, defers := [] } := by
  refine ⟨rfl, by simp [length_frame]; omega, fun t v ht => ?_⟩
  simp only [get_frame n args t hle] at ht
  have hlt := (List.getElem?_eq_some_iff.1 ht).1
  refine ⟨ltL_get hl ht, ?_⟩
  rw [Array.getElem?_append_left (by simpa using hlt)]
  simp [ht]

theorem evCall_ok (ok : E.Ok) : ∀ fuel : Nat, Callee.Ok E (evCall E fuel)
  | 0 => fun g args H c h => by simp [evCall] at h
  | fuel + 1 => fun g args H c h hl N ρ w hw => by
    have ih := evCall_ok ok fuel
    unfold evCall at h
    split at h
    · rename_i v ho
      simp only [Option.some.injEq] at h
      subst h
      obtain ⟨hfl, hcall⟩ := ok.orc g args v ho
      refine ⟨hfl, (hcall ρ w hw.globs').mono fun e w' hp => ?_⟩
      obtain ⟨he, hb⟩ := hp
      refine ⟨he, ?_, ?_⟩
      · refine ⟨Nat.le_trans hw.low hb.size, hw.vals, fun k o hk => ?_, hw.inj, globs_kept hw (fun b hb' => hb.block b (Nat.lt_of_lt_of_le hb' hw.low))⟩
        by_cases hd : o = .dead
        · subst hd; trivial
        · exact (hw.objs k o hk).kept (hw.vals k o hk) (fun _ _ => rfl) (hb.block _ (hw.block_lt hk hd))
      · exact ⟨hb.os, hb.tape, hb.output, hb.size, fun b hb' _ => hb.block b hb', fun _ _ h => h, fun _ _ => rfl, Nat.le_refl _⟩
    · split at h
      · rename_i fn hfn
        split at h
        · rename_i body hbody
          split at h
          · rename_i hle
            split at h
            · rename_i x s hev
              split at h
              · rename_i hx
                simp only [Option.map_eq_some_iff] at h
                obtain ⟨vs, hres, rfl⟩ := h
                have hf0 := enter_fr (ρ := ρ) hl hle
                obtain ⟨hm, ρ1, a1, w1, f1, r1, g1⟩ := evCode_mono ok ih (fuel + 1) body _ x s ρ _ w hev hw hf0
                have hgood := (close_run hw hm r1 g1 (results_run r1 f1 hres).2).1
                refine ⟨hgood, calls_of_wp hfn hbody ?_⟩
                refine evCode_run ok ih (fuel + 1) body _ x s ρ _ w _ hev hw hf0 fun ρ2 a2 w2 f2 r2 g2 => ?_
                have hr := results_run r2 f2 hres
                have hc := close_run hw hm r2 g2 hr.2
                rcases hx with rfl | rfl
                · exact ⟨f2.defers, _, hr.1, hc.2⟩
                · exact ⟨f2.defers, _, hr.1, hc.2⟩
              · cases h
            · cases h
          · cases h
        · cases h
      · cases h

end Go.Am
