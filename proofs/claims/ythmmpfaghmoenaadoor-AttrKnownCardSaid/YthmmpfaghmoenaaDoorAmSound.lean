/-
  The evaluator's calls are the model's.
-/
import Derived.Test.YthmmpfaghmoenaaDoorAmCode
namespace Go.Am
open Go

variable {E : Env} {N : Nat} {ρ : Nat → Loc} {H : List AObj} {w : World}

/-! ### Operations that leave memory alone -/

/-- An operation that answers a value, or arrives at a call, and leaves memory alone. -/
def Quiet (E : Env) (f : Fr) (o : Oper) (H : List AObj) (r : R) : Prop :=
  (∃ v, r = .val v ∧ ∀ (N : Nat) (ρ : Nat → Loc) (w : World) (a : Act), WR E N ρ H w → FR H.length ρ f a → v.lt H.length = true ∧ (execOp a.eval o).run E.P w = .ok (.value (v.emb ρ)) w) ∨
  (∃ g args, r = .enter g args ∧ ∀ (N : Nat) (ρ : Nat → Loc) (w : World) (a : Act), WR E N ρ H w → FR H.length ρ f a → ltL H.length args ∧ (execOp a.eval o).run E.P w = .ok (.enter g (args.map (V.emb ρ)).toArray) w)

theorem quiet_val {f : Fr} {o : Oper} {H : List AObj} {v : V}
    (hv : ∀ (N : Nat) (ρ : Nat → Loc) (w : World) (a : Act), WR E N ρ H w → FR H.length ρ f a → v.lt H.length = true ∧ (execOp a.eval o).run E.P w = .ok (.value (v.emb ρ)) w) : Quiet E f o H (.val v) := .inl ⟨v, rfl, hv⟩

theorem quiet_okO {f : Fr} {o : Oper} {H0 H' : Hp} {x : Option V} {r : R} (h : okO x H0 = some (r, H'))
    (hv : ∀ v, x = some v → ∀ (N : Nat) (ρ : Nat → Loc) (w : World) (a : Act), WR E N ρ H0.objs w → FR H0.objs.length ρ f a → v.lt H0.objs.length = true ∧ (execOp a.eval o).run E.P w = .ok (.value (v.emb ρ)) w) : H' = H0 ∧ Quiet E f o H0.objs r := by
  simp only [okO, Option.map_eq_some_iff, Prod.mk.injEq] at h
  obtain ⟨v, hx, rfl, rfl⟩ := h
  exact ⟨rfl, quiet_val (hv v hx)⟩

theorem quiet_ok {f : Fr} {o : Oper} {H0 H' : Hp} {v : V} {r : R} (h : Am.ok v H0 = some (r, H'))
    (hv : ∀ (N : Nat) (ρ : Nat → Loc) (w : World) (a : Act), WR E N ρ H0.objs w → FR H0.objs.length ρ f a → v.lt H0.objs.length = true ∧ (execOp a.eval o).run E.P w = .ok (.value (v.emb ρ)) w) : H' = H0 ∧ Quiet E f o H0.objs r := by
  simp only [Am.ok, Option.some.injEq, Prod.mk.injEq] at h
  obtain ⟨rfl, rfl⟩ := h
  exact ⟨rfl, quiet_val hv⟩

theorem convV_val {P : Program} {s d : TypeId} {x : V} {H : Hp} {r : R} {H' : Hp} (h : convV P s d x H = some (r, H')) : ∃ v, r = .val v := by
  have k0 : ∀ {v : V} {H0 : Hp}, Am.ok v H0 = some (r, H') → ∃ v, r = .val v := fun h => by
    simp only [Am.ok, Option.some.injEq, Prod.mk.injEq] at h; exact ⟨_, h.1.symm⟩
  have k1 : ∀ {v : Option V}, okO v H = some (r, H') → ∃ v, r = .val v := fun h => by
    simp only [okO, Option.map_eq_some_iff, Prod.mk.injEq] at h; obtain ⟨v, _, h1, _⟩ := h; exact ⟨v, h1.symm⟩
  unfold convV at h
  split at h
  · exact k0 h
  · exact k0 h
  · exact k0 h
  · split at h
    · split at h
      · exact k0 h
      · cases h
    · split at h
      · exact k0 h
      · cases h
    · cases h
  · split at h
    · exact k0 h
    · exact k0 h
    · cases h
  · split at h
    · exact k1 h
    · exact k1 h
    · cases h
  · exact k0 h
  · split at h
    · split at h
      · exact k0 h
      · cases h
    · cases h
  · exact k0 h
  · split at h
    · split at h
      · exact k0 h
      · cases h
    · cases h
  · cases h

theorem shown_len {H : Hp} {k o n c size m : Nat} {cap : Option Nat} {cs : List V} (h : shown H size (.slice k o n cap) = some (cs, m)) (_ : c = c) : m = n := by
  unfold shown at h
  simp only at h
  split at h
  · split at h
    · simp only [Option.some.injEq, Prod.mk.injEq] at h; exact h.2.symm
    · cases h
  · cases h

theorem convV_quiet {s d : TypeId} {x v : V} {H : Hp} {H' : Hp} (h : convV E.P s d x H = some (.val v, H')) (hl : H'.objs.length = H.objs.length) :
    H' = H ∧ ∀ (N : Nat) (ρ : Nat → Loc) (w : World), WR E N ρ H.objs w → v.lt H.objs.length = true ∧ (convert s d (x.emb ρ)).run E.P w = .ok (v.emb ρ) w := by
  have hH := (convV_mono h).2 hl
  refine ⟨hH, ?_⟩
  subst hH
  have new : ∀ {u : V} {o : AObj}, Am.ok u (H'.new o) = some (R.val v, H') → False := fun h => by
    have := ok_mono h
    have := congrArg (fun H : Hp => H.objs.length) this
    simp [Hp.new] at this
  have val : ∀ {u : V}, Am.ok u H' = some (R.val v, H') → u = v := fun h => by
    simp only [Am.ok, Option.some.injEq, Prod.mk.injEq, R.val.injEq] at h; exact h.1
  unfold convV at h
  split at h
  · rename_i d' k k' n hs hd
    rw [← val h]
    exact fun N ρ w hw => ⟨rfl, by simp [convert, run_underlying hs, run_underlying hd, Conv.intToInt]⟩
  · rename_i d' k n hs hd
    rw [← val h]
    exact fun N ρ w hw => ⟨rfl, by simp [convert, run_underlying hs, run_underlying hd, Conv.intToString, encode_run]⟩
  · rename_i d' s' hs hd
    rw [← val h]
    exact fun N ρ w hw => ⟨rfl, by simp [convert, run_underlying hs, run_underlying hd]⟩
  · split at h
    · split at h
      · exact (new h).elim
      · cases h
    · split at h
      · exact (new h).elim
      · cases h
    · cases h
  · rename_i e hs hd
    split at h
    · rename_i he
      rw [← val h]
      exact fun N ρ w hw => ⟨rfl, by simp [convert, run_underlying hs, run_underlying hd, run_underlying he, Conv.bytesToString]; rfl⟩
    · rename_i he
      rw [← val h]
      exact fun N ρ w hw => ⟨rfl, by simp [convert, run_underlying hs, run_underlying hd, run_underlying he, Conv.runesToString]; rfl⟩
    · cases h
  · rename_i e k o n c hs hd
    split at h
    · rename_i cs m he hsh
      simp only [okO, Option.map_eq_some_iff, Prod.mk.injEq, R.val.injEq] at h
      obtain ⟨y, ⟨s', hbs, rfl⟩, rfl, _⟩ := h
      refine fun N ρ w hw => ⟨rfl, ?_⟩
      have sh := shown_run hw (wr := H'.wr) (esc := H'.esc) hsh
      obtain ⟨ns, hns, rfl⟩ := bytesOf_run cs s' hbs ρ
      have hm := shown_len hsh (Eq.refl 0)
      subst hm
      have hload := sh.2.2.2 m (Nat.le_refl _)
      rw [List.take_of_length_le (by rw [sh.2.2.1]; exact Nat.le_refl _), hns, emb_slice] at hload
      simp only [Builtin.firstCells, Nat.mul_one] at hload
      rw [emb_slice, run_convert_bytes_string w s d e _ _ _ hs he hd, run_bytesToString w _ _ _ ns hload]
      congr 2
      rw [show (ByteArray.empty : ByteArray) = ⟨⟨[]⟩⟩ from rfl, foldl_push]
      simp
    · rename_i cs m he hsh
      simp only [okO, Option.map_eq_some_iff, Prod.mk.injEq, R.val.injEq] at h
      obtain ⟨y, ⟨s', hbs, rfl⟩, rfl, _⟩ := h
      refine fun N ρ w hw => ⟨rfl, ?_⟩
      have sh := shown_run hw (wr := H'.wr) (esc := H'.esc) hsh
      obtain ⟨ns, hns, rfl⟩ := runesOf_run cs s' hbs ρ
      have hm := shown_len hsh (Eq.refl 0)
      subst hm
      have hload := sh.2.2.2 m (Nat.le_refl _)
      rw [List.take_of_length_le (by rw [sh.2.2.1]; exact Nat.le_refl _), hns, emb_slice] at hload
      simp only [Builtin.firstCells, Nat.mul_one] at hload
      rw [emb_slice]
      have := fun cc => run_runesToString w _ m cc ns hload
      simp only [convert, Sem.run_bind, run_underlying hs, run_underlying hd, run_underlying he, Result.andThen_ok, emb_str]
      exact this _
    · cases h
  · rename_i e hs hd
    rw [← val h]
    exact fun N ρ w hw => ⟨rfl, by simp [convert, run_underlying hs, run_underlying hd, Conv.unsafePointer]⟩
  · rename_i t k o hs hd
    split at h
    · rename_i cs e m fz sz hk hz
      split at h
      · rename_i ho
        rw [← val h]
        intro N ρ w hw
        obtain ⟨j, hj, hjs⟩ := Option.map_eq_some_iff.1 hz
        obtain ⟨_, C, z, hC, hcs, _⟩ := hw.objs k _ hk
        have h1 := hcs o cs[o] (List.getElem?_eq_getElem ho)
        have h2 := (Array.getElem?_eq_some_iff.1 h1).1
        exact ⟨by simpa using (List.getElem?_eq_some_iff.1 hk).1, Lib.run_to_unsafe w ⟨(ρ k).block, (ρ k).off + o, none⟩ hs hd hj (by omega) (cells := C.size) (e := e) (by simp [World.shape?, hC]) h2⟩
      · cases h
    · cases h
  · rename_i e hs hd
    rw [← val h]
    exact fun N ρ w hw => ⟨rfl, by simp [convert, run_underlying hs, run_underlying hd, Conv.unsafePointer]⟩
  · rename_i u k o hs hd
    split at h
    · rename_i cs e fz sz hk hz
      split at h
      · rename_i ho
        rw [← val h]
        intro N ρ w hw
        obtain ⟨j, hj, hjs⟩ := Option.map_eq_some_iff.1 hz
        obtain ⟨_, C, z, hC, hcs, hm⟩ := hw.objs k _ hk
        simp only at hm
        exact ⟨by simpa using (List.getElem?_eq_some_iff.1 hk).1, Lib.run_from_unsafe w ⟨(ρ k).block, (ρ k).off + o, none⟩ hs hd hj (cells := C.size) (e := e) (by simp [World.shape?, hC]) (by rw [hm.2.2.1, hm.2.2.2, Nat.zero_add]; exact ho)⟩
      · cases h
    · cases h
  · cases h

theorem opV_quiet {f : Fr} {o : Oper} {r : R} {H0 H' : Hp} (hq : quietOp o.op = true) (h : opV E f o H0 = some (r, H')) (hlen : ∀ v, r = .val v → H'.objs.length = H0.objs.length) :
    H' = H0 ∧ Quiet E f o H0.objs r := by
  obtain ⟨dst, op, type, pos, after, guard⟩ := o
  simp only at hq
  unfold opV at h
  simp only at h
  have one : ∀ {s : Sem Value} {v : V} {ρ : Nat → Loc} {w : World}, s.run E.P w = .ok (v.emb ρ) w → (do Pure.pure (Next.value (← s)) : Sem Next).run E.P w = .ok (.value (v.emb ρ)) w := fun h => by simp [h]
  split at h
  · exact quiet_okO h fun v hx N ρ w a hw hf => ⟨(hf.ev hx).1, by simp [execOp, (hf.ev hx).2]⟩
  · exact quiet_okO h fun v hx N ρ w a hw hf => ⟨(hf.ev hx).1, by simp [execOp, (hf.ev hx).2]⟩
  · split at h
    · rename_i b hc
      refine quiet_okO h fun v hx N ρ w a hw hf => ⟨(hf.ev hx).1, ?_⟩
      have e := (hf.ev hx).2
      simp only [execOp, Sem.run_bind, (hf.ev hc).2, emb_bool, asBool, Sem.run_pure, Result.andThen_ok]
      cases b
      · simpa using e
      · simpa using e
    · cases h
  · cases hq
  · cases hq
  · rename_i t parts
    split at h
    · rename_i ps hp
      refine quiet_okO h fun v hv N ρ w a hw hf => ?_
      have hp' := hf.evParts hp
      refine ⟨buildV_lt hv hp'.1, ?_⟩
      have e : parts.map (fun (p : Nat × Operand) => (p.1, a.eval p.2)) = (ps.map fun p => (p.1, p.2.emb ρ)).toArray := by
        apply Array.ext'
        simpa using hp'.2
      have := buildV_run hv ρ w
      rw [← e] at this
      exact one this
    · cases h
  · cases hq
  · split at h
    · rename_i p hx
      refine quiet_okO h fun v hv N ρ w a hw hf => ?_
      have := loadV_run hw hv
      exact ⟨this.2, one (by rw [(hf.ev hx).2]; exact this.1)⟩
    · cases h
  · cases hq
  · split at h
    · rename_i k o' hx
      exact quiet_ok h fun N ρ w a hw hf => ⟨(hf.ev hx).1, by unfold execOp; dsimp only; rw [(hf.ev hx).2]; rfl⟩
    · rename_i k o' hx
      exact quiet_ok h fun N ρ w a hw hf => ⟨(hf.ev hx).1, by unfold execOp; dsimp only; rw [(hf.ev hx).2]; rfl⟩
    · rename_i g x1 x2 hx
      exact quiet_ok h fun N ρ w a hw hf => ⟨(hf.ev hx).1, by unfold execOp; dsimp only; rw [(hf.ev hx).2, emb_func]; rfl⟩
    · rename_i t v hx
      exact quiet_ok h fun N ρ w a hw hf => ⟨(hf.ev hx).1, by unfold execOp; dsimp only; rw [(hf.ev hx).2]; rfl⟩
    · cases h
  · split at h
    · rename_i u v hx hy
      refine quiet_okO h fun z hz N ρ w a hw hf => ?_
      have := run_binV hz ρ w
      exact ⟨lt_flat this.2 _, one (by rw [(hf.ev hx).2, (hf.ev hy).2]; exact this.1)⟩
    · cases h
  · split at h
    · rename_i u hx
      refine quiet_okO h fun z hz N ρ w a hw hf => ?_
      have := run_unV (P := E.P) hz ρ w
      exact ⟨lt_flat this.2 _, one (by rw [(hf.ev hx).2]; exact this.1)⟩
    · cases h
  · split at h
    · rename_i u hx
      obtain ⟨v, rfl⟩ := convV_val h
      obtain ⟨h1, hrun⟩ := convV_quiet h (hlen v rfl)
      exact ⟨h1, quiet_val fun N ρ w a hw hf => ⟨(hrun N ρ w hw).1, one (by rw [(hf.ev hx).2]; exact (hrun N ρ w hw).2)⟩⟩
    · cases h
  · split at h
    · cases h
    · rename_i d v hni hu hx
      refine quiet_ok h fun N ρ w a hw hf => ⟨by simpa using (hf.ev hx).1, one ?_⟩
      rw [(hf.ev hx).2]
      simp only [Instr.makeInterface, Sem.run_bind, run_underlying hu, Result.andThen_ok, emb_iface]
      cases d <;> first | rfl | exact absurd hu (hni _)
    · cases h
  · split at h
    · rename_i us vs hx hy
      refine quiet_ok h fun N ρ w a hw hf => ?_
      have hx' := hf.evs hx
      have hy' := hf.evs hy
      refine ⟨(lt_func _ _ _ _).2 ⟨hx'.1, hy'.1⟩, one ?_⟩
      have e1 := Array.ext' (xs := Array.map a.eval _) (ys := (us.map (V.emb ρ)).toArray) (by simpa using hx'.2)
      have e2 := Array.ext' (xs := Array.map a.eval _) (ys := (vs.map (V.emb ρ)).toArray) (by simpa using hy'.2)
      rw [e1, e2, emb_func]
      rfl
    · cases h
  · cases hq
  · cases hq
  · split at h
    · rename_i v lo' hi' mx' hx hlo hhi hmx
      simp only [Option.bind_eq_some_iff] at hlo hhi hmx
      obtain ⟨l1, l2, l3⟩ := hlo
      obtain ⟨h1, h2, h3⟩ := hhi
      obtain ⟨m1, m2, m3⟩ := hmx
      split at h
      · simp only [Am.ok, Option.some.injEq, Prod.mk.injEq] at h
        obtain ⟨rfl, rfl⟩ := h
        have := hlen _ rfl
        simp [Hp.new] at this
      refine quiet_okO h fun z hz N ρ w a hw hf => ?_
      have := sliceV_run hw (hf.ev hx).1 l3 h3 m3 hz
      refine ⟨this.2, one ?_⟩
      rw [(hf.ev hx).2, evOpt_run hf l2, evOpt_run hf h2, evOpt_run hf m2]
      exact this.1
    · cases h
  · split at h
    · rename_i v hx
      refine quiet_okO h fun z hz N ρ w a hw hf => ?_
      have := fieldAddrV_run (hf.ev hx).1 hz ρ w
      exact ⟨this.2, one (by rw [(hf.ev hx).2]; exact this.1)⟩
    · cases h
  · split at h
    · rename_i v hx
      refine quiet_okO h fun z hz N ρ w a hw hf => ?_
      have := fieldV_run (hf.ev hx).1 hz ρ w
      exact ⟨this.2, one (by rw [(hf.ev hx).2]; exact this.1)⟩
    · cases h
  · split at h
    · rename_i u v hx hy
      refine quiet_okO h fun z hz N ρ w a hw hf => ?_
      have := indexAddrV_run (hf.ev hx).1 hz ρ w
      exact ⟨this.2, one (by rw [(hf.ev hx).2, (hf.ev hy).2]; exact this.1)⟩
    · cases h
  · split at h
    · rename_i u v hx hy
      refine quiet_okO h fun z hz N ρ w a hw hf => ?_
      have := indexV_run (hf.ev hx).1 hz ρ w
      exact ⟨this.2, one (by rw [(hf.ev hx).2, (hf.ev hy).2]; exact this.1)⟩
    · cases h
  · split at h
    · rename_i u v hx hy
      refine quiet_okO h fun z hz N ρ w a hw hf => ?_
      have := lookupV_run hw hz
      exact ⟨this.2, one (by rw [(hf.ev hx).2, (hf.ev hy).2]; exact this.1)⟩
    · cases h
  · cases hq
  · cases hq
  · cases hq
  · cases hq
  · cases hq
  · cases hq
  · split at h
    · rename_i vs hx
      refine quiet_okO h fun z hz N ρ w a hw hf => ?_
      refine ⟨ltL_get ((lt_tup _ _).1 (hf.ev hx).1) hz, one ?_⟩
      rw [(hf.ev hx).2]
      exact extract_run hz ρ w
    · cases h
  · rename_i c
    split at h
    · rename_i args b hargs hcb
      have erun : ∀ (a : Act) (ρ : Nat → Loc), FR H0.objs.length ρ f a → execOp a.eval ⟨dst, .call c, type, pos, after, guard⟩ =
          builtin b c.argTypes type (c.args.map fun | .const _ => true | _ => false) (args.map (V.emb ρ)).toArray := fun a ρ hf => by
        have e1 : c.args.map a.eval = (args.map (V.emb ρ)).toArray := Array.ext' (by simpa using (hf.evs hargs).2)
        simp only [execOp, resolve, hcb, e1]
        rfl
      simp only [quietOp, hcb] at hq
      unfold builtinV at h
      split at h
      · rename_i t ats' x hats
        refine quiet_okO h fun v hv N ρ w a hw hf => ?_
        have hw' : WR E N ρ (⟨H0.objs, H0.wr, H0.esc⟩ : Hp).objs w := hw
        have := lenV_run (ty := type) (ats := ats') hw' hv
        have e : c.argTypes = (t :: ats').toArray := Array.ext' (by simpa using hats)
        exact ⟨lt_flat this.2 _, by rw [erun a ρ hf, e]; exact one this.1⟩
      · rename_i t ats' k o' n c' hats
        split at h
        · rename_i el hu
          refine quiet_ok h fun N ρ w a hw hf => ⟨rfl, ?_⟩
          have e : c.argTypes = (t :: ats').toArray := Array.ext' (by simpa using hats)
          rw [erun a ρ hf, e]
          exact one (by simp [Builtin.cap_, run_underlying hu, goInt])
        · cases h
      · rename_i t ats' hats
        split at h
        · rename_i el hu
          refine quiet_ok h fun N ρ w a hw hf => ⟨rfl, ?_⟩
          have e : c.argTypes = (t :: ats').toArray := Array.ext' (by simpa using hats)
          rw [erun a ρ hf, e]
          exact one (by simp [Builtin.cap_, run_underlying hu, goInt])
        · cases h
      · cases hq
      · cases hq
      · cases hq
      · cases hq
      · cases hq
      · cases hq
      · rename_i x r'
        refine quiet_okO h fun v hv N ρ w a hw hf => ?_
        have := minV_run (P := E.P) H0.objs.length ρ w r' x v (ltL_cons.1 (hf.evs hargs).1).1 hv
        exact ⟨this.2, by rw [erun a ρ hf]; exact one (by simpa [Builtin.min_] using this.1)⟩
      · rename_i x r'
        refine quiet_okO h fun v hv N ρ w a hw hf => ?_
        have := maxV_run (P := E.P) H0.objs.length ρ w r' x v (ltL_cons.1 (hf.evs hargs).1).1 hv
        exact ⟨this.2, by rw [erun a ρ hf]; exact one (by simpa [Builtin.max_] using this.1)⟩
      · cases h
    · rename_i args g hargs hcg
      simp only [quietOp, hcg] at hq
      cases hq
    · cases h
  · cases h

/-! ### What a called function comes to -/

def CallPost (E : Env) (N : Nat) (ρ : Nat → Loc) (H : List AObj) (w : World) : CR → Ending → World → Prop
  | .pure v, e, w' => e = .returned (v.emb ρ) ∧ WR E N ρ H w' ∧ Goes H ρ w H ρ w'
  | .eff v H', e, w' => ∃ ρ', e = .returned (v.emb ρ') ∧ WR E N ρ' H'.objs w' ∧ Goes H ρ w H'.objs ρ' w'

def CR.good (H : List AObj) : CR → Prop
  | .pure v => v.flat = true
  | .eff v H' => v.lt H'.objs.length = true ∧ Mono ⟨H, H.length, H.length⟩ H'

def Callee.Ok (E : Env) (C : Callee) : Prop := ∀ (g : FuncId) (args : List V) (H : List AObj) (c : CR), C g args H = some c → ltL H.length args →
  ∀ (N : Nat) (ρ : Nat → Loc) (w : World), WR E N ρ H w → c.good H ∧ Calls E.P g (args.map (V.emb ρ)).toArray w (CallPost E N ρ H w c)

theorem Calls.exist {P : Program} {f : FuncId} {args : Array Value} {R : Ending → World → Prop} (h : Calls P f args w R) : ∃ e w', R e w' :=
  let ⟨e, w', _, r, _⟩ := h []
  ⟨e, w', r⟩

theorem WR.closed (h : WR E N ρ H w) : Closed H.length H := fun k o _ hk => h.vals k o hk

theorem after_mono {H : Hp} {c : CR} (hc : c.good H.objs) : Mono H (H.after c).2 := by
  cases c with
  | pure v => exact Mono.refl _
  | eff v H' =>
    obtain ⟨_, hm⟩ := hc
    simp only [Hp.after]
    exact ⟨hm.len, Nat.min_le_left _ _, Nat.min_le_left _ _, fun k h1 h2 => hm.same k (Nat.lt_of_lt_of_le h1 (Nat.min_le_right _ _)) h2,
      fun lo h1 h2 h3 => hm.closed lo h1 (Nat.le_trans h2 (Nat.min_le_right _ _)) h3⟩

theorem wanted_run {n : Nat} {f : Fr} {a : Act} {ops : List Oper} {o : Oper} {b : Bool} (hf : FR n ρ f a) (h : wantedV f ops o = some b) : Region.wanted o (yielded ops.toArray a.tmps) = b := by
  unfold wantedV at h
  unfold Region.wanted
  cases hg : o.guard with
  | none => rw [hg] at h; simp only [Option.some.injEq] at h; simpa using h
  | some jw =>
    obtain ⟨j, want⟩ := jw
    rw [hg] at h
    simp only at h ⊢
    unfold yielded
    rw [List.getElem?_toArray]
    cases hd : (ops[j]?).bind (·.dst) with
    | none => rw [hd] at h; simp only [Option.some.injEq] at h; subst h; rfl
    | some d =>
      rw [hd] at h
      simp only [Option.bind_some] at h ⊢
      cases hv : get f.m d with
      | none => rw [hv] at h; cases h
      | some v =>
        rw [hv] at h
        rw [(hf.val d v hv).2]
        cases v <;> simp_all [V.emb]
        all_goals (subst h; rfl)

/-- What is asked at the end of a piece of code. -/
def Ends (E : Env) (N : Nat) (ρ : Nat → Loc) (H : List AObj) (w : World) (Q : Act → World → Prop) (f' : Fr) (H' : Hp) : Prop :=
  ∀ ρ' a' w', FR H'.objs.length ρ' f' a' → WR E N ρ' H'.objs w' → Goes H ρ w H'.objs ρ' w' → Q a' w'

/-- A state of the model at the end. -/
def Reach (E : Env) (N : Nat) (ρ : Nat → Loc) (H : List AObj) (w : World) (f' : Fr) (H' : Hp) : Prop :=
  ∃ ρ' a' w', FR H'.objs.length ρ' f' a' ∧ WR E N ρ' H'.objs w' ∧ Goes H ρ w H'.objs ρ' w'

theorem Ends.after {Q : Act → World → Prop} {f' : Fr} {H' : Hp} (h : Ends E N ρ H w Q f' H') {ρ1 : Nat → Loc} {H1 : List AObj} {w1 : World} (hg : Goes H ρ w H1 ρ1 w1) : Ends E N ρ1 H1 w1 Q f' H' :=
  fun ρ' a' w' h1 h2 h3 => h ρ' a' w' h1 h2 (hg.trans h3)

theorem Reach.before {f' : Fr} {H' : Hp} {ρ1 : Nat → Loc} {H1 : List AObj} {w1 : World} (hg : Goes H ρ w H1 ρ1 w1) (h : Reach E N ρ1 H1 w1 f' H') : Reach E N ρ H w f' H' :=
  let ⟨ρ', a', w', h1, h2, h3⟩ := h
  ⟨ρ', a', w', h1, h2, hg.trans h3⟩

theorem evOps_mono (ok : E.Ok) {C : Callee} (hC : Callee.Ok E C) {ops : List Oper} : ∀ (r : List Oper) (f : Fr) (H : Hp) (f' : Fr) (H' : Hp) (ρ : Nat → Loc) (a : Act) (w : World),
    evOps E C ops r f H = some (f', H') → WR E N ρ H.objs w → FR H.objs.length ρ f a → Mono H H' ∧ Reach E N ρ H.objs w f' H'
  | [], f, H, f', H', ρ, a, w, h, hw, hf => by
    simp only [evOps, Option.some.injEq, Prod.mk.injEq] at h
    obtain ⟨rfl, rfl⟩ := h
    exact ⟨Mono.refl _, ρ, a, w, hf, hw, Goes.refl _ _ _⟩
  | o :: r, f, H, f', H', ρ, a, w, h, hw, hf => by
    simp only [evOps] at h
    split at h
    · split at h
      · rename_i v H1 hop
        have hm := opV_mono hop
        have hr := opV_run ok hw hf (wr := H.wr) (esc := H.esc) hop
        cases hr with
        | val ρ1 w1 h1 h2 h3 h4 =>
          split at h
          · rename_i f1 hs
            have ih := evOps_mono ok hC r f1 H1 f' H' ρ1 _ w1 h h2 ((hf.mono h3.len h3.ext).set h4 hs)
            exact ⟨hm.trans ih.1, ih.2.before h3⟩
          · cases h
      · rename_i H1 hop
        have hm := opV_mono hop
        have hr := opV_run ok hw hf (wr := H.wr) (esc := H.esc) hop
        cases hr with
        | skip w1 h1 h2 h3 =>
          split at h
          · rename_i f1 hs
            have ih := evOps_mono ok hC r f1 H1 f' H' ρ _ w1 h h2 ((hf.mono h3.len h3.ext).set (v := .undef) rfl hs)
            exact ⟨hm.trans ih.1, ih.2.before h3⟩
          · cases h
      · rename_i g args H1 hop
        have hm := opV_mono hop
        have hr := opV_run ok hw hf (wr := H.wr) (esc := H.esc) hop
        cases hr with
        | enter h1 h2 h3 =>
          split at h
          · rename_i c hc
            have hc' := hc
            rw [h2] at hc'
            obtain ⟨hgood, hcall⟩ := hC g args H.objs c hc' h3 N ρ w hw
            obtain ⟨e, w1, hp⟩ := Calls.exist hcall
            have ha := after_mono (H := H1) (by rw [h2]; exact hgood)
            split at h
            · rename_i f1 hs
              cases c with
              | pure v =>
                obtain ⟨rfl, p2, p3⟩ := hp
                simp only [Hp.after] at hs h ha
                have ih := evOps_mono ok hC r f1 H1 f' H' ρ _ w1 h (by rw [h2]; exact p2) (by rw [h2]; exact hf.set (lt_flat hgood _) hs)
                rw [h2] at ih
                exact ⟨hm.trans ih.1, ih.2.before p3⟩
              | eff v Hc =>
                obtain ⟨ρ1, rfl, p2, p3⟩ := hp
                simp only [Hp.after] at hs h ha
                have ih := evOps_mono ok hC r f1 _ f' H' ρ1 _ w1 h p2 ((hf.mono p3.len p3.ext).set hgood.1 hs)
                exact ⟨(hm.trans ha).trans ih.1, ih.2.before p3⟩
            · cases h
          · cases h
      · cases h
    · split at h
      · rename_i f1 hs
        exact evOps_mono ok hC r f1 H f' H' ρ _ w h hw (hf.set (v := .undef) rfl hs)
      · cases h
    · cases h

theorem evOps_run (ok : E.Ok) {C : Callee} (hC : Callee.Ok E C) {ops : List Oper} {Q : Exit → Act → World → Prop} : ∀ (r : List Oper) (f : Fr) (H : Hp) (f' : Fr) (H' : Hp) (ρ : Nat → Loc) (a : Act) (w : World),
    evOps E C ops r f H = some (f', H') → WR E N ρ H.objs w → FR H.objs.length ρ f a → Ends E N ρ H.objs w (Q .normal) f' H' → wpList E.P ops.toArray Q r a w
  | [], f, H, f', H', ρ, a, w, h, hw, hf, hQ => by
    simp only [evOps, Option.some.injEq, Prod.mk.injEq] at h
    obtain ⟨rfl, rfl⟩ := h
    exact hQ ρ a w hf hw (Goes.refl _ _ _)
  | o :: r, f, H, f', H', ρ, a, w, h, hw, hf, hQ => by
    simp only [evOps] at h
    unfold wpList
    split at h
    · rename_i hwant
      rw [if_pos (wanted_run hf hwant)]
      left
      unfold Oper.wp
      split at h
      · rename_i v H1 hop
        have hr := opV_run ok hw hf (wr := H.wr) (esc := H.esc) hop
        cases hr with
        | val ρ1 w1 h1 h2 h3 h4 =>
          rw [h1]
          split at h
          · rename_i f1 hs
            exact evOps_run ok hC r f1 H1 f' H' ρ1 _ w1 h h2 ((hf.mono h3.len h3.ext).set h4 hs) (hQ.after h3)
          · cases h
      · rename_i H1 hop
        have hr := opV_run ok hw hf (wr := H.wr) (esc := H.esc) hop
        cases hr with
        | skip w1 h1 h2 h3 =>
          rw [h1]
          split at h
          · rename_i f1 hs
            exact evOps_run ok hC r f1 H1 f' H' ρ _ w1 h h2 ((hf.mono h3.len h3.ext).set (v := .undef) rfl hs) (hQ.after h3)
          · cases h
      · rename_i g args H1 hop
        have hr := opV_run ok hw hf (wr := H.wr) (esc := H.esc) hop
        cases hr with
        | enter h1 h2 h3 =>
          rw [h1]
          split at h
          · rename_i c hc
            rw [h2] at hc
            obtain ⟨hgood, hcall⟩ := hC g args H.objs c hc h3 N ρ w hw
            simp only [Oper.upon]
            split at h
            · rename_i f1 hs
              refine hcall.mono fun e w1 hp => ?_
              cases c with
              | pure v =>
                obtain ⟨rfl, p2, p3⟩ := hp
                simp only [Hp.after] at hs h
                exact evOps_run ok hC r f1 H1 f' H' ρ _ w1 h (by rw [h2]; exact p2) (by rw [h2]; exact hf.set (lt_flat hgood _) hs) (by rw [h2]; exact hQ.after p3)
              | eff v Hc =>
                obtain ⟨ρ1, rfl, p2, p3⟩ := hp
                simp only [Hp.after] at hs h
                exact evOps_run ok hC r f1 _ f' H' ρ1 _ w1 h p2 ((hf.mono p3.len p3.ext).set hgood.1 hs) (hQ.after p3)
            · cases h
          · cases h
      · cases h
    · rename_i hwant
      rw [if_neg (by rw [wanted_run hf hwant]; simp)]
      split at h
      · rename_i f1 hs
        exact evOps_run ok hC r f1 H f' H' ρ _ w h hw (hf.set (v := .undef) rfl hs) hQ
      · cases h
    · cases h

end Go.Am
