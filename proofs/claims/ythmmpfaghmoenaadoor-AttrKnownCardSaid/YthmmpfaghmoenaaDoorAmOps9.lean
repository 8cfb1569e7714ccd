/-
  Each operation of the evaluator is one of the model's: the theorem.
-/
import Derived.Test.YthmmpfaghmoenaaDoorAmOps8
namespace Go.Am
open Go

/-- The package-level variables that are known lie as they are said. -/
def Globs (E : Env) (w : World) : Prop := ∀ (g : Nat) (cs : List V), E.G g = some cs → g < w.heap.size ∧ (∀ v ∈ cs, v.flat = true ∧ v.one = true) ∧ ∃ C e z, w.heap[g]? = some (.cells C e z) ∧ ∀ (i : Nat) (v : V) (ρ : Nat → Loc), cs[i]? = some v → C[i]? = some (v.emb ρ)

theorem Globs.none {E : Env} (h : ∀ g, E.G g = none) (w : World) : Globs E w := fun g cs hg => by simp [h] at hg

theorem WR.globs' {E : Env} {N : Nat} {ρ : Nat → Loc} {H : List AObj} {w : World} (h : WR E N ρ H w) : Globs E w := fun g cs hg => by
  obtain ⟨h1, h2, C, e, z, h3, h4⟩ := h.globs g cs hg
  exact ⟨Nat.lt_of_lt_of_le h1 h.low, h2, C, e, z, h3, fun i v ρ' hi => by rw [h4 i v hi, emb_flat (h2 v (List.mem_of_getElem? hi)).1 ρ' ρ]⟩

/-- What stands outside is as it is said. -/
structure Env.Ok (E : Env) : Prop where
  mixed : E.P.follows .mixedOrders = true
  names : ∀ (f : FuncId) (fn : Func), E.P.funcs[f]? = some fn → fn.body.isSome = true → fn.name ≠ "runtime.NumGoroutine"
  ext : ∀ (f : FuncId) (args : List V) (v : V), E.ext f args = some v → v.flat = true ∧ ∀ (ρ : Nat → Loc) (w : World), (callFunc f (args.map (V.emb ρ)).toArray).run E.P w = .ok (.value (v.emb ρ)) w
  made : ∀ (f : FuncId) (e : TypeId), E.made f = some e → sizeT E.P e = some 1 ∧ ∀ (n : Nat) (w : World), n ≤ 140737488355328 → ∃ C : Array Value,
    (callFunc f #[.int .i64 n]).run E.P w = .ok (.value (.slice (some ⟨w.heap.size, 0, none⟩) n C.size)) (w.drew.drew.alloc (.cells C e)) ∧ n ≤ C.size ∧ C.size ≤ maxLen
  same : ∀ (f : FuncId), E.same f = true → ∀ (v : Value) (w : World), (callFunc f #[v]).run E.P w = .ok (.value v) w
  orc : ∀ (f : FuncId) (args : List V) (v : V), E.orc f args = some v → v.flat = true ∧ ∀ (ρ : Nat → Loc) (w : World), Globs E w →
    Calls E.P f (args.map (V.emb ρ)).toArray w fun e w' => e = .returned (v.emb ρ) ∧ RowKit.Below w.heap.size w w'

variable {P : Program} {E : Env} {N : Nat} {ρ : Nat → Loc} {H : List AObj} {w : World}

inductive OpRes (E : Env) (N : Nat) (ρ : Nat → Loc) (H : List AObj) (w : World) (s : Sem Next) : R → Hp → Prop
  | val {v : V} {H' : Hp} (ρ' : Nat → Loc) (w' : World) (h1 : s.run E.P w = .ok (.value (v.emb ρ')) w') (h2 : WR E N ρ' H'.objs w') (h3 : Goes H ρ w H'.objs ρ' w') (h4 : v.lt H'.objs.length = true) : OpRes E N ρ H w s (.val v) H'
  | skip {H' : Hp} (w' : World) (h1 : s.run E.P w = .ok .skip w') (h2 : WR E N ρ H'.objs w') (h3 : Goes H ρ w H'.objs ρ w') : OpRes E N ρ H w s .skip H'
  | enter {f : FuncId} {args : List V} {H' : Hp} (h1 : s.run E.P w = .ok (.enter f (args.map (V.emb ρ)).toArray) w) (h2 : H'.objs = H) (h3 : ltL H.length args) : OpRes E N ρ H w s (.enter f args) H'

theorem Val.res {s : Sem Value} {v : V} {H' : Hp} (h : Val E N ρ H w s v H'.objs) : OpRes E N ρ H w (do Pure.pure (Next.value (← s))) (.val v) H' := by
  obtain ⟨ρ', w', h1, h2, h3, h4⟩ := h
  exact .val ρ' w' (by simp [h1]) h2 h3 h4

theorem res_okO {s : Sem Value} {x : Option V} {H0 : Hp} {r : R} {H' : Hp} (h : okO x H0 = some (r, H')) (hk : ∀ v, x = some v → Val E N ρ H w s v H0.objs) : OpRes E N ρ H w (do Pure.pure (Next.value (← s))) r H' := by
  simp only [okO, Option.map_eq_some_iff, Prod.mk.injEq] at h
  obtain ⟨v, hx, rfl, rfl⟩ := h
  exact (hk v hx).res

theorem evOpt_run {n : Nat} {f : Fr} {a : Act} (hf : FR n ρ f a) {x : Option Operand} {y : Option V} (h : evOpt f x = some y) : x.map a.eval = y.map (V.emb ρ) := by
  cases x with
  | none => simp only [evOpt, Option.some.injEq] at h; subst h; rfl
  | some x =>
    simp only [evOpt, Option.map_eq_some_iff] at h
    obtain ⟨v, hv, rfl⟩ := h
    simp [(hf.ev hv).2]

theorem extract_run {vs : List V} {i : Nat} {v : V} (h : vs[i]? = some v) (ρ : Nat → Loc) (w : World) : (Instr.extract ((V.tup vs).emb ρ) i).run P w = .ok (v.emb ρ) w := by
  simp [Instr.extract, h]

theorem callV_run (ok : E.Ok) (hw : WR E N ρ H w) {wr esc : Nat} {f : FuncId} {args : List V} {r : R} {H' : Hp} (hl : ltL H.length args) (h : callV E f args ⟨H, wr, esc⟩ = some (r, H')) :
    OpRes E N ρ H w (callFunc f (args.map (V.emb ρ)).toArray) r H' := by
  unfold callV at h
  split at h
  · rename_i fn hfn
    split at h
    · split at h
      · rename_i e hs
        split at h
        · rename_i n
          split at h
          · rename_i hn
            simp only [Am.ok, Option.some.injEq, Prod.mk.injEq] at h
            obtain ⟨rfl, rfl⟩ := h
            obtain ⟨hz, hmk⟩ := ok.made f e hs
            obtain ⟨C, hrun, hle, hmx⟩ := hmk n.toNat w (by omega)
            have hg := hw.grow (w' := w.drew.drew.alloc (.cells C e)) (cs := []) (C := C) (z := (0, 0)) (q := C.size) (sz := 1) (e := e) false (by simp) (fun b hb => RowKit.Below.heap_alloc w.drew.drew _ b hb) rfl rfl rfl (heap_alloc_new w.drew.drew _) (ltL_nil _) (by intro v hv; cases hv) (by intro i v hv; simp at hv)
              (fun i _ _ hzz => by simp at hzz) (by simp) (by simp) hz (by omega) hmx
            refine .val _ _ ?_ hg.1 hg.2 (by simp [Hp.size, Hp.new])
            have hnn : (n.toNat : Int) = n := Int.toNat_of_nonneg hn.1
            rw [hnn] at hrun
            simp only [List.map_cons, List.map_nil, emb_int, emb_slice_none, Hp.size, upd_same]
            simpa using hrun
          · cases h
        · cases h
      split at h
      · rename_i hs
        split at h
        · rename_i v
          simp only [Am.ok, Option.some.injEq, Prod.mk.injEq] at h
          obtain ⟨rfl, rfl⟩ := h
          exact .val ρ w (ok.same f hs (v.emb ρ) w) hw (Goes.refl H ρ w) (ltL_cons.1 hl).1
        · cases h
      · simp only [okO, Option.map_eq_some_iff, Prod.mk.injEq] at h
        obtain ⟨v, hx, rfl, rfl⟩ := h
        have := ok.ext f args v hx
        exact .val ρ w (this.2 ρ w) hw (Goes.refl H ρ w) (lt_flat this.1 _)
    · rename_i hb
      simp only [Option.some.injEq, Prod.mk.injEq] at h
      obtain ⟨rfl, rfl⟩ := h
      cases hbb : fn.body with
      | none => rw [hbb] at hb; exact absurd rfl hb
      | some c =>
        have hn := ok.names f fn hfn (by rw [hbb]; rfl)
        refine .enter ?_ rfl hl
        simp [callFunc, hfn, hbb, hn]
  · cases h

theorem builtinV_run (hw : WR E N ρ H w) {wr esc : Nat} {b : Builtin} {ats : Array TypeId} {ty : TypeId} {cst : Array Bool} {args : List V} {r : R} {H' : Hp} (hl : ltL H.length args)
    (h : builtinV E b ats.toList args ⟨H, wr, esc⟩ = some (r, H')) : OpRes E N ρ H w (builtin b ats ty cst (args.map (V.emb ρ)).toArray) r H' := by
  unfold builtinV at h
  split at h
  · -- len
    rename_i t ats' x hats
    have e : ats = (t :: ats').toArray := Array.ext' (by simpa using hats)
    refine res_okO h fun v hv => ?_
    have := lenV_run (ty := ty) (ats := ats') hw hv
    rw [e]
    exact Val.pure hw this.1 (lt_flat this.2 _)
  · -- cap
    rename_i t ats' k o n c hats
    have e : ats = (t :: ats').toArray := Array.ext' (by simpa using hats)
    split at h
    · rename_i el hu
      simp only [Am.ok, Option.some.injEq, Prod.mk.injEq] at h
      obtain ⟨rfl, rfl⟩ := h
      refine Val.res (Val.pure hw ?_ rfl)
      rw [e]
      simp [Builtin.cap_, run_underlying hu, goInt]
    · cases h
  · -- cap of nil
    rename_i t ats' hats
    have e : ats = (t :: ats').toArray := Array.ext' (by simpa using hats)
    split at h
    · rename_i el hu
      simp only [Am.ok, Option.some.injEq, Prod.mk.injEq] at h
      obtain ⟨rfl, rfl⟩ := h
      refine Val.res (Val.pure hw ?_ rfl)
      rw [e]
      simp [Builtin.cap_, run_underlying hu, goInt]
    · cases h
  · -- unsafeSliceData of nil
    simp only [Am.ok, Option.some.injEq, Prod.mk.injEq] at h
    obtain ⟨rfl, rfl⟩ := h
    exact Val.res (Val.pure hw (by simp [Lib.run_unsafeSliceData_nil]) rfl)
  · -- unsafeSliceData
    rename_i k o n
    split at h
    · rename_i cs e fz hk
      split at h
      · rename_i hc
        obtain ⟨hz, hn, hle⟩ := hc
        simp only [Am.ok, Option.some.injEq, Prod.mk.injEq] at h
        obtain ⟨rfl, rfl⟩ := h
        have hg := (hw.objs k _ hk).grown hz
        refine Val.res (Val.pure hw ?_ ((ltL_cons.1 hl).1))
        have hcap : ((ρ k).ext - o) / (ρ k).sz ≠ 0 := by
          rw [hg.2.1, Nat.div_one]
          have := hg.2.2
          omega
        simp only [List.map_cons, List.map_nil, emb_slice_none, emb_ptr]
        exact Lib.run_unsafeSliceData_row _ _ _ _ _ _ hcap
      · cases h
    · cases h
  · -- unsafeString of nothing
    rename_i a b hats
    have e : ats = #[a, b] := Array.ext' (by simpa using hats)
    simp only [Am.ok, Option.some.injEq, Prod.mk.injEq] at h
    obtain ⟨rfl, rfl⟩ := h
    subst e
    exact Val.res (Val.pure hw (Lib.run_unsafeString_none w _ _ _ _) rfl)
  · -- unsafeString
    rename_i pt it k o n hats
    have e : ats = #[pt, it] := Array.ext' (by simpa using hats)
    subst e
    split at h
    · rename_i cs el md el' hk hp
      split at h
      · rename_i hc
        obtain ⟨hmd, rfl, hz, h0, h63, hle⟩ := hc
        split at h
        · rename_i s hs
          simp only [Am.ok, Option.some.injEq, Prod.mk.injEq] at h
          obtain ⟨rfl, rfl⟩ := h
          exact (unsafeString_run hw hmd hk hp hz h0 h63 hle hs).res
        · cases h
      · cases h
    · cases h
  · -- append
    rename_i st xt ats' s x hats
    have hl' := (ltL_cons.1 hl).1
    have e : ∃ rest : List TypeId, ats = (st :: xt :: rest).toArray := ⟨ats', Array.ext' (by simpa using hats)⟩
    obtain ⟨rest, rfl⟩ := e
    have two : ∀ (y : Value), Builtin.append_ (st :: xt :: rest).toArray ty #[s.emb ρ, y] = Builtin.append_ #[st, xt] ty #[s.emb ρ, y] := fun y => by
      simp [Builtin.append_]
    split at h
    · rename_i el el' hs hx
      split at h
      · rename_i cs n hsh
        simp only [Option.bind_eq_some_iff] at hsh
        obtain ⟨z, hz, hsh⟩ := hsh
        obtain ⟨v, rfl, hv⟩ := appendV_run (ty := ty) hw hs hx (.inr ⟨_, rfl⟩) hl' hz hsh h
        have := hv.res
        simpa [builtin, two] using this
      · cases h
    · rename_i el hs hx
      split at h
      · rename_i cs n hsh
        simp only [Option.bind_eq_some_iff] at hsh
        obtain ⟨z, hz, hsh⟩ := hsh
        obtain ⟨v, rfl, hv⟩ := appendV_run (ty := ty) hw hs hx (.inl rfl) hl' hz hsh h
        have := hv.res
        simpa [builtin, two] using this
      · cases h
    · cases h
  · -- copy
    rename_i dt ats' d s hats
    have e : ∃ rest : List TypeId, ats = (dt :: rest).toArray := ⟨ats', Array.ext' (by simpa using hats)⟩
    obtain ⟨rest, rfl⟩ := e
    split at h
    · rename_i el hd
      obtain ⟨v, rfl, hv⟩ := copyV_run (u := dt) (ty := ty) hw hd h
      have two : Builtin.copy_ (dt :: rest).toArray ty #[d.emb ρ, s.emb ρ] = Builtin.copy_ #[dt, dt] ty #[d.emb ρ, s.emb ρ] := by simp [Builtin.copy_]
      have := hv.res
      simpa [builtin, two] using this
    · cases h
  · -- min
    rename_i x r'
    refine res_okO h fun v hv => ?_
    have := minV_run (P := E.P) H.length ρ w r' x v (ltL_cons.1 hl).1 hv
    exact Val.pure hw (by simpa [Builtin.min_] using this.1) this.2
  · -- max
    rename_i x r'
    refine res_okO h fun v hv => ?_
    have := maxV_run (P := E.P) H.length ρ w r' x v (ltL_cons.1 hl).1 hv
    exact Val.pure hw (by simpa [Builtin.max_] using this.1) this.2
  · cases h

theorem opV_run (ok : E.Ok) (hw : WR E N ρ H w) {f : Fr} {a : Act} (hf : FR H.length ρ f a) {wr esc : Nat} {o : Oper} {r : R} {H' : Hp} (h : opV E f o ⟨H, wr, esc⟩ = some (r, H')) :
    OpRes E N ρ H w (execOp a.eval o) r H' := by
  obtain ⟨dst, op, type, pos, after, guard⟩ := o
  unfold opV at h
  simp only at h
  unfold execOp
  simp only
  split at h
  · -- move
    rename_i x
    simp only [okO, Option.map_eq_some_iff, Prod.mk.injEq] at h
    obtain ⟨v, hx, rfl, rfl⟩ := h
    exact .val ρ w (by simp [(hf.ev hx).2]) hw (Goes.refl H ρ w) (hf.ev hx).1
  · -- assign
    rename_i x
    simp only [okO, Option.map_eq_some_iff, Prod.mk.injEq] at h
    obtain ⟨v, hx, rfl, rfl⟩ := h
    exact .val ρ w (by simp [(hf.ev hx).2]) hw (Goes.refl H ρ w) (hf.ev hx).1
  · -- pick
    rename_i c x y
    split at h
    · rename_i b hc
      simp only [okO, Option.map_eq_some_iff, Prod.mk.injEq] at h
      obtain ⟨v, hx, rfl, rfl⟩ := h
      refine .val ρ w ?_ hw (Goes.refl H ρ w) (hf.ev hx).1
      simp only [Sem.run_bind, (hf.ev hc).2, emb_bool, asBool, Sem.run_pure, Result.andThen_ok]
      have e := (hf.ev hx).2
      cases b
      · simpa using e
      · simpa using e
    · cases h
  · -- alloc
    rename_i e
    split at h
    · rename_i z hz
      simp only [Option.map_eq_some_iff, Prod.mk.injEq] at h
      obtain ⟨H1, hn, rfl, rfl⟩ := h
      have hz' := run_zeroT hz ρ w
      obtain ⟨ρ', w', h1, h2⟩ := newVar_run hw (lt_flat hz'.2 _) hn
      refine Val.res ⟨ρ', w', ?_, h2⟩
      simp only [Instr.alloc, Sem.run_bind, hz'.1, Result.andThen_ok]
      simpa [Hp.size] using h1
    · cases h
  · -- box
    rename_i e x
    split at h
    · rename_i v hx
      simp only [Option.map_eq_some_iff, Prod.mk.injEq] at h
      obtain ⟨H1, hn, rfl, rfl⟩ := h
      obtain ⟨ρ', w', h1, h2⟩ := newVar_run hw (hf.ev hx).1 hn
      refine Val.res ⟨ρ', w', ?_, h2⟩
      rw [(hf.ev hx).2]
      exact h1
    · cases h
  · -- build
    rename_i t parts
    split at h
    · rename_i ps hp
      have hp' := hf.evParts hp
      refine res_okO h fun v hv => Val.pure hw ?_ (buildV_lt hv hp'.1)
      have e : parts.map (fun (p : Nat × Operand) => (p.1, a.eval p.2)) = (ps.map fun p => (p.1, p.2.emb ρ)).toArray := by
        apply Array.ext'
        simpa using hp'.2
      have := buildV_run hv ρ w
      rw [← e] at this
      exact this
    · cases h
  · -- buildSlice
    rename_i t len parts
    split at h
    · rename_i ps e hp hu
      split at h
      · rename_i n z hn hz
        split at h
        · rename_i hc
          split at h
          · rename_i cs hcs
            simp only [Option.map_eq_some_iff, Prod.mk.injEq] at h
            obtain ⟨H1, hnew, rfl, rfl⟩ := h
            have hp' := hf.evParts hp
            have ep : parts.map (fun (p : Nat × Operand) => (p.1, a.eval p.2)) = (ps.map fun p => (p.1, p.2.emb ρ)).toArray := by
              apply Array.ext'
              simpa using hp'.2
            have hz' := run_zeroT hz ρ w
            have hzl : ltL H.length (zeros z.cells len) := zeros_lt (ltL_cells (lt_flat hz'.2 _)) _
            have hcl : ltL H.length cs := fill_lt _ ps _ _ hcs hzl hp'.1
            have hnr := newCells_run hw hcl hnew 0
            refine Val.res ⟨_, _, ?_, hnr.2.1, hnr.2.2.1, by rw [hnr.2.2.2]; simp [Hp.size]⟩
            have hfill := fill_run (fun i => some (i * n, n)) ρ ps _ cs hcs
            have hbig : ¬ len * n > 2 ^ 24 := by omega
            simp only [Instr.buildSlice, Sem.run_bind, run_underlying hu, Result.andThen_ok, run_sizeT hn, if_neg hbig]
            have ep' : (Array.map (fun x => match x with | (i, x) => (i, a.eval x)) parts).toList = ps.map fun p => (p.1, p.2.emb ρ) := by
              have := congrArg Array.toList ep
              simpa using this
            by_cases h0 : len * n = 0
            · have hz0 : zeros z.cells len = [] := List.eq_nil_of_length_eq_zero (by rw [zeros_length, hc.2, h0])
              rw [hz0] at hfill
              have hr0 : ∀ f : Nat → Value, (Array.range 0).map f = #[] := fun f => by simp
              have hfill' : Instr.fill (fun i => some (i * n, n)) #[] (ps.map fun p => (p.1, p.2.emb ρ)) = some (cs.map (V.emb ρ)).toArray := hfill
              simp only [Sem.run_pure, Result.andThen_ok, h0, ep', hr0, hfill', if_true, Sem.run_bind, hnr.1]
              simp [Hp.size]
            · have hzz := zeros_emb z.cells len n hc.2 ρ
              simp only [if_neg h0, Sem.run_bind, hz'.1, Sem.run_pure, Result.andThen_ok, emb_cells, hzz, ep', hfill, hnr.1]
              simp [Hp.size]
          · cases h
        · cases h
      · cases h
    · cases h
  · -- load
    rename_i t x
    split at h
    · rename_i p hx
      refine res_okO h fun v hv => ?_
      have := loadV_run hw hv
      exact Val.pure hw (by rw [(hf.ev hx).2]; exact this.1) this.2
    · cases h
  · -- store
    rename_i t x y
    split at h
    · rename_i p v hx hy
      simp only [Option.map_eq_some_iff, Prod.mk.injEq] at h
      obtain ⟨H1, hs, rfl, rfl⟩ := h
      obtain ⟨w', h1, h2, h3⟩ := storeV_run hw (hf.ev hy).1 hs
      exact .skip w' (by simp [(hf.ev hx).2, (hf.ev hy).2, h1]) h2 h3
    · cases h
  · -- nilCheck
    rename_i x
    split at h
    · rename_i k o' hx
      simp only [Am.ok, Option.some.injEq, Prod.mk.injEq] at h
      obtain ⟨rfl, rfl⟩ := h
      exact .val ρ w (by dsimp only; rw [(hf.ev hx).2]; rfl) hw (Goes.refl H ρ w) (hf.ev hx).1
    · rename_i k o' hx
      simp only [Am.ok, Option.some.injEq, Prod.mk.injEq] at h
      obtain ⟨rfl, rfl⟩ := h
      exact .val ρ w (by dsimp only; rw [(hf.ev hx).2]; rfl) hw (Goes.refl H ρ w) (hf.ev hx).1
    · rename_i g x1 x2 hx
      simp only [Am.ok, Option.some.injEq, Prod.mk.injEq] at h
      obtain ⟨rfl, rfl⟩ := h
      exact .val ρ w (by dsimp only; rw [(hf.ev hx).2, emb_func]; rfl) hw (Goes.refl H ρ w) (hf.ev hx).1
    · rename_i t v hx
      simp only [Am.ok, Option.some.injEq, Prod.mk.injEq] at h
      obtain ⟨rfl, rfl⟩ := h
      exact .val ρ w (by dsimp only; rw [(hf.ev hx).2]; rfl) hw (Goes.refl H ρ w) (hf.ev hx).1
    · cases h
  · -- binOp
    rename_i op t x y t'
    split at h
    · rename_i u v hx hy
      refine res_okO h fun z hz => ?_
      have := run_binV hz ρ w
      exact Val.pure hw (by rw [(hf.ev hx).2, (hf.ev hy).2]; exact this.1) (lt_flat this.2 _)
    · cases h
  · -- unOp
    rename_i op t x
    split at h
    · rename_i u hx
      refine res_okO h fun z hz => ?_
      have := run_unV (P := E.P) hz ρ w
      exact Val.pure hw (by rw [(hf.ev hx).2]; exact this.1) (lt_flat this.2 _)
    · cases h
  · -- convert
    rename_i s d x
    split at h
    · rename_i u hx
      obtain ⟨v, rfl, hv⟩ := convV_run hw h
      dsimp only
      rw [(hf.ev hx).2]
      exact hv.res
    · cases h
  · -- makeInterface
    rename_i t x
    split at h
    · cases h
    · rename_i d v hni hu hx
      simp only [Am.ok, Option.some.injEq, Prod.mk.injEq] at h
      obtain ⟨rfl, rfl⟩ := h
      refine Val.res (Val.pure hw ?_ (by simpa using (hf.ev hx).1))
      rw [(hf.ev hx).2]
      simp only [Instr.makeInterface, Sem.run_bind, run_underlying hu, Result.andThen_ok, emb_iface]
      cases d <;> first | rfl | exact absurd hu (hni _)
    · cases h
  · -- makeFunc
    rename_i g x y
    split at h
    · rename_i us vs hx hy
      simp only [Am.ok, Option.some.injEq, Prod.mk.injEq] at h
      obtain ⟨rfl, rfl⟩ := h
      have hx' := hf.evs hx
      have hy' := hf.evs hy
      refine Val.res (Val.pure hw ?_ ((lt_func _ _ _ _).2 ⟨hx'.1, hy'.1⟩))
      have e1 : x.map a.eval = (us.map (V.emb ρ)).toArray := Array.ext' (by simpa using hx'.2)
      have e2 : y.map a.eval = (vs.map (V.emb ρ)).toArray := Array.ext' (by simpa using hy'.2)
      rw [e1, e2, emb_func]
      rfl
    · cases h
  · -- makeMap
    simp only [Am.ok, Option.some.injEq, Prod.mk.injEq] at h
    obtain ⟨rfl, rfl⟩ := h
    have := hw.new (w' := w.alloc (.map #[] 0)) (.map [] 0) ⟨w.heap.size, 0, 0, 0⟩ (by simp) (fun b hb => RowKit.Below.heap_alloc w _ b hb) rfl rfl rfl rfl (ltL_nil _)
      (fun ρ' _ => ⟨heap_alloc_new w _, hw.low⟩)
    refine Val.res ⟨_, _, ?_, this.1, this.2, by simp [Hp.size, Hp.new]⟩
    simp [Instr.makeMap, Hp.size]
  · -- makeSlice
    rename_i t l c
    split at h
    · rename_i u v hx hy
      obtain ⟨z, rfl, hz⟩ := makeSliceV_run hw h
      dsimp only
      rw [(hf.ev hx).2, (hf.ev hy).2]
      exact hz.res
    · cases h
  · -- slice
    rename_i t x lo hi mx
    split at h
    · rename_i v lo' hi' mx' hx hlo hhi hmx
      simp only [Option.bind_eq_some_iff] at hlo hhi hmx
      obtain ⟨l1, l2, l3⟩ := hlo
      obtain ⟨h1, h2, h3⟩ := hhi
      obtain ⟨m1, m2, m3⟩ := hmx
      split at h
      · rename_i hend
        simp only [Am.ok, Option.some.injEq, Prod.mk.injEq] at h
        obtain ⟨rfl, rfl⟩ := h
        obtain ⟨ρ', hrun, hw', hg'⟩ := sliceEnd_run hw l3 h3 m3 hend
        refine Val.res ⟨ρ', w, ?_, hw', hg', by simp [Hp.size, Hp.new]⟩
        rw [(hf.ev hx).2, evOpt_run hf l2, evOpt_run hf h2, evOpt_run hf m2]
        exact hrun
      refine res_okO h fun z hz => ?_
      have := sliceV_run hw (hf.ev hx).1 l3 h3 m3 hz
      refine Val.pure hw ?_ this.2
      rw [(hf.ev hx).2, evOpt_run hf l2, evOpt_run hf h2, evOpt_run hf m2]
      exact this.1
    · cases h
  · -- fieldAddr
    rename_i s x i
    split at h
    · rename_i v hx
      refine res_okO h fun z hz => ?_
      have := fieldAddrV_run (hf.ev hx).1 hz ρ w
      exact Val.pure hw (by rw [(hf.ev hx).2]; exact this.1) this.2
    · cases h
  · -- field
    rename_i t x i
    split at h
    · rename_i v hx
      refine res_okO h fun z hz => ?_
      have := fieldV_run (hf.ev hx).1 hz ρ w
      exact Val.pure hw (by rw [(hf.ev hx).2]; exact this.1) this.2
    · cases h
  · -- indexAddr
    rename_i t x i
    split at h
    · rename_i u v hx hy
      refine res_okO h fun z hz => ?_
      have := indexAddrV_run (hf.ev hx).1 hz ρ w
      exact Val.pure hw (by rw [(hf.ev hx).2, (hf.ev hy).2]; exact this.1) this.2
    · cases h
  · -- index
    rename_i t x i
    split at h
    · rename_i u v hx hy
      refine res_okO h fun z hz => ?_
      have := indexV_run (hf.ev hx).1 hz ρ w
      exact Val.pure hw (by rw [(hf.ev hx).2, (hf.ev hy).2]; exact this.1) this.2
    · cases h
  · -- lookup
    rename_i t x i c
    split at h
    · rename_i u v hx hy
      refine res_okO h fun z hz => ?_
      have := lookupV_run hw hz
      exact Val.pure hw (by rw [(hf.ev hx).2, (hf.ev hy).2]; exact this.1) this.2
    · cases h
  · -- mapUpdate
    rename_i t m k v
    split at h
    · rename_i x y z hx hy hz
      simp only [Option.map_eq_some_iff, Prod.mk.injEq] at h
      obtain ⟨H1, hs, rfl, rfl⟩ := h
      obtain ⟨w', h1, h2, h3⟩ := mapSetV_run hw (hf.ev hy).1 (hf.ev hz).1 hs
      exact .skip w' (by simp [(hf.ev hx).2, (hf.ev hy).2, (hf.ev hz).2, h1]) h2 h3
    · cases h
  · -- insert
    rename_i t m k v
    split at h
    · rename_i x y z hx hy hz
      simp only [Option.map_eq_some_iff, Prod.mk.injEq] at h
      obtain ⟨H1, hs, rfl, rfl⟩ := h
      obtain ⟨w', h1, h2, h3⟩ := mapSetV_run hw (hf.ev hy).1 (hf.ev hz).1 hs
      exact .skip w' (by simp [(hf.ev hx).2, (hf.ev hy).2, (hf.ev hz).2, h1]) h2 h3
    · cases h
  · -- mapEntry
    rename_i t m k
    split at h
    · rename_i x y hx hy
      obtain ⟨v, rfl, hl, w', h1, h2, h3⟩ := mapEntryV_run hw (hf.ev hy).1 h
      exact .val ρ w' (by simp [(hf.ev hx).2, (hf.ev hy).2, h1]) h2 h3 hl
    · cases h
  · -- entryStore
    rename_i t m s v
    split at h
    · rename_i x y z hx hy hz
      simp only [Option.map_eq_some_iff, Prod.mk.injEq] at h
      obtain ⟨H1, hs, rfl, rfl⟩ := h
      obtain ⟨w', h1, h2, h3⟩ := entryStoreV_run (t := t) hw (hf.ev hz).1 hs
      exact .skip w' (by simp [(hf.ev hx).2, (hf.ev hy).2, (hf.ev hz).2, h1]) h2 h3
    · cases h
  · -- range
    rename_i t x
    split at h
    · rename_i v hx
      obtain ⟨z, rfl, hz⟩ := rangeV_run hw h
      dsimp only
      rw [(hf.ev hx).2]
      exact hz.res
    · cases h
  · -- next
    rename_i it s
    split at h
    · rename_i v hx
      obtain ⟨z, rfl, hz⟩ := nextV_run (ty := type) hw h
      dsimp only
      rw [(hf.ev hx).2]
      exact hz.res
    · cases h
  · -- extract
    rename_i x i
    split at h
    · rename_i vs hx
      refine res_okO h fun z hz => ?_
      refine Val.pure hw ?_ (ltL_get ((lt_tup _ _).1 (hf.ev hx).1) hz)
      rw [(hf.ev hx).2]
      exact extract_run hz ρ w
    · cases h
  · -- call
    rename_i c
    split at h
    · rename_i args b hargs hcb
      have ha := hf.evs hargs
      have e1 : c.args.map a.eval = (args.map (V.emb ρ)).toArray := Array.ext' (by simpa using ha.2)
      have erun : (do let d ← resolve a.eval c type; invoke d.target d.args : Sem Next) =
          builtin b c.argTypes type (c.args.map fun | .const _ => true | _ => false) (args.map (V.emb ρ)).toArray := by
        simp only [resolve, hcb, e1]
        rfl
      dsimp only
      rw [erun]
      exact builtinV_run hw ha.1 h
    · rename_i args g hargs hcg
      split at h
      · rename_i g' x y hg
        have ha := hf.evs hargs
        have e1 : c.args.map a.eval = (args.map (V.emb ρ)).toArray := Array.ext' (by simpa using ha.2)
        have hge := hf.ev hg
        have hgl := (lt_func _ _ _ _).1 hge.1
        have := callV_run ok hw (args := x ++ args ++ y) (ltL_append.2 ⟨ltL_append.2 ⟨hgl.1, ha.1⟩, hgl.2⟩) h
        have erun : (do let d ← resolve a.eval c type; invoke d.target d.args : Sem Next) = callFunc g' ((x ++ args ++ y).map (V.emb ρ)).toArray := by
          simp only [resolve, hcg, hge.2, e1, emb_func, Deferred.ofValue]
          show invoke (.fn (.func g') (y.map (V.emb ρ)).toArray) ((x.map (V.emb ρ)).toArray ++ (args.map (V.emb ρ)).toArray) = _
          simp [invoke]
        dsimp only
        rw [erun]
        exact this
      · cases h
    · cases h
  · cases h

end Go.Am
