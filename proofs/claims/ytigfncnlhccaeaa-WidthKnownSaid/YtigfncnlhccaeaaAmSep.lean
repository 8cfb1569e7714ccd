/-
  Symbolic walks with what is known of memory: blocks by number, each known block apart from each other one.
-/
import Derived.Test.YtigfncnlhccaeaaAmSym
namespace Go.Am
open Go

abbrev Tmps := List (Nat × V)
/-- What is known of a block: whether the call made it, its number, what it holds. -/
abbrev Blks := List (Bool × Nat × AObj)

def keysB (η : Blks) : List Nat := η.map fun x => x.2.1

structure HFits (H0 : List AObj) (W : List Nat) (η : Blks) (H : Hp) : Prop where
  len : H0.length ≤ H.objs.length
  nodup : (keysB η).Nodup
  has : ∀ x ∈ η, H.objs[x.2.1]? = some x.2.2
  own : ∀ x ∈ η, x.1 = true → H0.length ≤ x.2.1
  same : ∀ k, k < H0.length → k ∉ W → H.objs[k]? = H0[k]?
  wr : W = [] → H0.length ≤ H.wr

inductive K where
  | seq (b : Code)
  | block (id : Nat)
  | inv (I : St → Prop)

def kont (E : Env) : List K → (X → St → Prop) → X → St → Prop
  | [], Q, x, s => Q x s
  | .seq b :: ks, Q, x, s => match x with
    | .normal => WP E b s (kont E ks Q)
    | x => kont E ks Q x s
  | .block id :: ks, Q, x, s => match x with
    | .exit i => if i = id then kont E ks Q .normal s else kont E ks Q (.exit i) s
    | x => kont E ks Q x s
  | .inv I :: ks, Q, x, s => match x with
    | .normal => I s
    | x => kont E ks Q x s

/-- What does not change in a walk: the outside, the number of temporaries, memory at the call's start. -/
structure Cx where
  E : Env
  n : Nat
  H0 : List AObj

structure SA where
  σ : Tmps
  η : Blks
  W : List Nat

def SA.is (C : Cx) (S : SA) (f : Fr) (H : Hp) : Prop := Fits C.n S.σ f ∧ HFits C.H0 S.W S.η H

-- structures, so that no unfolding takes one for another
structure RunO (C : Cx) (all r : List Oper) (S : SA) (ks : List K) (Q : X → St → Prop) : Prop where
  of : ∀ f H, S.is C f H → WPo C.E all r f H fun f H => kont C.E ks Q .normal (f, H)
structure RunQ (C : Cx) (all r : List Oper) (S : SA) (ks : List K) (Q : X → St → Prop) : Prop where
  of : ∀ f H, S.is C f H → WPq C.E all r f H fun f => kont C.E ks Q .normal (f, H)
structure Run (C : Cx) (c : Code) (S : SA) (ks : List K) (Q : X → St → Prop) : Prop where
  of : ∀ f H, S.is C f H → WP C.E c (f, H) (kont C.E ks Q)
structure Done (C : Cx) (x : X) (S : SA) (ks : List K) (Q : X → St → Prop) : Prop where
  of : ∀ f H, S.is C f H → kont C.E ks Q x (f, H)

variable {C : Cx} {σ σ' : Tmps} {η η' : Blks} {W W' : List Nat} {ks : List K} {Q : X → St → Prop} {all r : List Oper} {o : Oper} {a b : Code} {x : X} {v : V} {d i j : Nat} {S : SA}

theorem RunO.nil (h : Done C .normal S ks Q) : RunO C all [] S ks Q := .mk fun f H hs => h.of f H hs

/-- An operation that only looks at temporaries. -/
theorem RunO.val (hw : wantedS σ all o = some true) (h : ∀ H, opS C.E (evS σ) o H = some (.val v, H)) (hd : o.dst = some d) (hn : Nat.blt d C.n = true)
    (next : RunO C all r ⟨(d, v) :: σ, η, W⟩ ks Q) : RunO C all (o :: r) ⟨σ, η, W⟩ ks Q := .mk fun f H ⟨hf, hh⟩ => by
  simp only [WPo, hf.wanted hw, hf.op (h H), hd, Fr.set]
  exact next.of _ _ ⟨hf.put hn v, hh⟩

/-- An operation that looks at memory, too, and turns none. -/
theorem RunO.look (hw : wantedS σ all o = some true) (h : ∀ H, HFits C.H0 W η H → opS C.E (evS σ) o H = some (.val v, H)) (hd : o.dst = some d) (hn : Nat.blt d C.n = true)
    (next : RunO C all r ⟨(d, v) :: σ, η, W⟩ ks Q) : RunO C all (o :: r) ⟨σ, η, W⟩ ks Q := .mk fun f H ⟨hf, hh⟩ => by
  simp only [WPo, hf.wanted hw, hf.op (h H hh), hd, Fr.set]
  exact next.of _ _ ⟨hf.put hn v, hh⟩

/-- An operation that turns memory. -/
theorem RunO.turn (hw : wantedS σ all o = some true) (h : ∀ H, HFits C.H0 W η H → ∃ H', opS C.E (evS σ) o H = some (.skip, H') ∧ HFits C.H0 W' η' H') (hd : o.dst = none)
    (next : RunO C all r ⟨σ, η', W'⟩ ks Q) : RunO C all (o :: r) ⟨σ, η, W⟩ ks Q := .mk fun f H ⟨hf, hh⟩ => by
  obtain ⟨H', h1, h2⟩ := h H hh
  simp only [WPo, hf.wanted hw, hf.op h1, hd, Fr.set]
  exact next.of _ _ ⟨hf, h2⟩

/-- An operation that makes a block, or turns one, and gives a value. -/
theorem RunO.make {T : Type} (η' : T → Blks) (v : T → V) (hw : wantedS σ all o = some true) (h : ∀ H, HFits C.H0 W η H → ∃ H' k, opS C.E (evS σ) o H = some (.val (v k), H') ∧ HFits C.H0 W' (η' k) H') (hd : o.dst = some d) (hn : Nat.blt d C.n = true)
    (next : ∀ k, RunO C all r ⟨(d, v k) :: σ, η' k, W'⟩ ks Q) : RunO C all (o :: r) ⟨σ, η, W⟩ ks Q := .mk fun f H ⟨hf, hh⟩ => by
  obtain ⟨H', k, h1, h2⟩ := h H hh
  simp only [WPo, hf.wanted hw, hf.op h1, hd, Fr.set]
  exact (next k).of _ _ ⟨hf.put hn _, h2⟩

theorem RunO.no (hw : wantedS σ all o = some false) (hd : o.dst = some d) (hn : Nat.blt d C.n = true)
    (next : RunO C all r ⟨(d, .undef) :: σ, η, W⟩ ks Q) : RunO C all (o :: r) ⟨σ, η, W⟩ ks Q := .mk fun f H ⟨hf, hh⟩ => by
  simp only [WPo, hf.wanted hw, hd, Fr.set]
  exact next.of _ _ ⟨hf.put hn _, hh⟩

theorem RunO.no0 (hw : wantedS σ all o = some false) (hd : o.dst = none)
    (next : RunO C all r ⟨σ, η, W⟩ ks Q) : RunO C all (o :: r) ⟨σ, η, W⟩ ks Q := .mk fun f H ⟨hf, hh⟩ => by
  simp only [WPo, hf.wanted hw, hd, Fr.set]
  exact next.of _ _ ⟨hf, hh⟩

/-- A call of something that turns no memory. -/
theorem RunO.pure {g : FuncId} {args : List V} (hw : wantedS σ all o = some true) (h : ∀ H, opS C.E (evS σ) o H = some (.enter g args, H)) (hd : o.dst = some d) (hn : Nat.blt d C.n = true)
    (hg : ∀ H, HFits C.H0 W η H → Gives C.E g args H.objs (.pure v))
    (next : RunO C all r ⟨(d, v) :: σ, η, W⟩ ks Q) : RunO C all (o :: r) ⟨σ, η, W⟩ ks Q := .mk fun f H ⟨hf, hh⟩ => by
  simp only [WPo, hf.wanted hw, hf.op (h H)]
  refine WPcall.of (hg H hh) ?_
  simp only [hd, Fr.set, Hp.after]
  exact next.of _ _ ⟨hf.put hn _, hh⟩

/-- A call. -/
theorem RunO.call {T : Type} (η' : T → Blks) (v : T → V) {g : FuncId} {args : List V} (hw : wantedS σ all o = some true) (h : ∀ H, opS C.E (evS σ) o H = some (.enter g args, H)) (hd : o.dst = some d) (hn : Nat.blt d C.n = true)
    (hg : ∀ H, HFits C.H0 W η H → WPcall C.E g args H.objs fun c => ∃ k, (H.after c).1 = v k ∧ HFits C.H0 W' (η' k) (H.after c).2)
    (next : ∀ k, RunO C all r ⟨(d, v k) :: σ, η' k, W'⟩ ks Q) : RunO C all (o :: r) ⟨σ, η, W⟩ ks Q := .mk fun f H ⟨hf, hh⟩ => by
  simp only [WPo, hf.wanted hw, hf.op (h H)]
  obtain ⟨c, h1, k, h2, h3⟩ := hg H hh
  refine ⟨c, h1, ?_⟩
  simp only [hd, Fr.set, h2]
  exact (next k).of _ _ ⟨hf.put hn _, h3⟩

theorem RunO.call0 {T : Type} (η' : T → Blks) {g : FuncId} {args : List V} (hw : wantedS σ all o = some true) (h : ∀ H, opS C.E (evS σ) o H = some (.enter g args, H)) (hd : o.dst = none)
    (hg : ∀ H, HFits C.H0 W η H → WPcall C.E g args H.objs fun c => ∃ k, HFits C.H0 W' (η' k) (H.after c).2)
    (next : ∀ k, RunO C all r ⟨σ, η' k, W'⟩ ks Q) : RunO C all (o :: r) ⟨σ, η, W⟩ ks Q := .mk fun f H ⟨hf, hh⟩ => by
  simp only [WPo, hf.wanted hw, hf.op (h H)]
  obtain ⟨c, h1, k, h3⟩ := hg H hh
  refine ⟨c, h1, ?_⟩
  simp only [hd, Fr.set]
  exact (next k).of _ _ ⟨hf, h3⟩

theorem RunQ.nil (h : Done C .normal S ks Q) : RunQ C all [] S ks Q := .mk fun f H hs => h.of f H hs

theorem RunQ.val (hw : wantedS σ all o = some true) (hq : quietOp o.op = true) (h : ∀ H, opS C.E (evS σ) o H = some (.val v, H)) (hd : o.dst = some d) (hn : Nat.blt d C.n = true)
    (next : RunQ C all r ⟨(d, v) :: σ, η, W⟩ ks Q) : RunQ C all (o :: r) ⟨σ, η, W⟩ ks Q := .mk fun f H ⟨hf, hh⟩ => by
  simp only [WPq, hf.wanted hw, hf.op (h H), hd, Fr.set]
  exact ⟨hq, trivial, next.of _ _ ⟨hf.put hn v, hh⟩⟩

theorem RunQ.look (hw : wantedS σ all o = some true) (hq : quietOp o.op = true) (h : ∀ H, HFits C.H0 W η H → opS C.E (evS σ) o H = some (.val v, H)) (hd : o.dst = some d) (hn : Nat.blt d C.n = true)
    (next : RunQ C all r ⟨(d, v) :: σ, η, W⟩ ks Q) : RunQ C all (o :: r) ⟨σ, η, W⟩ ks Q := .mk fun f H ⟨hf, hh⟩ => by
  simp only [WPq, hf.wanted hw, hf.op (h H hh), hd, Fr.set]
  exact ⟨hq, trivial, next.of _ _ ⟨hf.put hn v, hh⟩⟩

theorem RunQ.pure {g : FuncId} {args : List V} (hw : wantedS σ all o = some true) (hq : quietOp o.op = true) (h : ∀ H, opS C.E (evS σ) o H = some (.enter g args, H)) (hd : o.dst = some d) (hn : Nat.blt d C.n = true)
    (hg : ∀ H, HFits C.H0 W η H → Gives C.E g args H.objs (.pure v))
    (next : RunQ C all r ⟨(d, v) :: σ, η, W⟩ ks Q) : RunQ C all (o :: r) ⟨σ, η, W⟩ ks Q := .mk fun f H ⟨hf, hh⟩ => by
  simp only [WPq, hf.wanted hw, hf.op (h H)]
  refine ⟨hq, WPcall.of (hg H hh) ?_⟩
  simp only [hd, Fr.set]
  exact next.of _ _ ⟨hf.put hn _, hh⟩

theorem RunQ.no (hw : wantedS σ all o = some false) (hd : o.dst = some d) (hn : Nat.blt d C.n = true)
    (next : RunQ C all r ⟨(d, .undef) :: σ, η, W⟩ ks Q) : RunQ C all (o :: r) ⟨σ, η, W⟩ ks Q := .mk fun f H ⟨hf, hh⟩ => by
  simp only [WPq, hf.wanted hw, hd, Fr.set]
  exact next.of _ _ ⟨hf.put hn _, hh⟩

theorem Run.region {id : Nat} {ops : Array Oper} {l : List Oper} (hl : ops.toList = l) (h : RunO C l l S ks Q) : Run C (.region id ops false) S ks Q := .mk fun f H hs => by
  subst hl
  simp only [WP]
  exact h.of f H hs

theorem Run.drawn {id : Nat} {ops : Array Oper} {l : List Oper} (hl : ops.toList = l) (hb : Region.lexB .any ops = true) (hqa : quietAll l = true) (h : RunQ C l l S ks Q) : Run C (.region id ops true) S ks Q := .mk fun f H hs => by
  subst hl
  simp only [WP, hqa, if_true]
  exact ⟨hb, h.of f H hs⟩

theorem Run.skip (h : Done C .normal S ks Q) : Run C .skip S ks Q := .mk fun f H hs => h.of f H hs
theorem Run.label {l : Nat} (h : Done C .normal S ks Q) : Run C (.label l) S ks Q := .mk fun f H hs => h.of f H hs
theorem Run.exit (h : Done C (.exit i) S ks Q) : Run C (.exit i) S ks Q := .mk fun f H hs => h.of f H hs
theorem Run.ret (h : Done C .ret S ks Q) : Run C .ret S ks Q := .mk fun f H hs => h.of f H hs

theorem Run.seq (h : Run C a S (.seq b :: ks) Q) : Run C (.seq a b) S ks Q := .mk fun f H hs => by
  simp only [WP]
  refine WP_mono _ _ _ _ (fun x s hx => ?_) (h.of f H hs)
  cases x <;> exact hx

theorem Run.block (h : Run C a S (.block i :: ks) Q) : Run C (.block i a) S ks Q := .mk fun f H hs => by
  simp only [WP]
  refine WP_mono _ _ _ _ (fun x s hx => ?_) (h.of f H hs)
  cases x <;> exact hx

theorem Run.cond {c : Operand} {t : Bool} (hc : evS S.σ c = some (.bool t)) (h1 : t = true → Run C a S ks Q) (h2 : t = false → Run C b S ks Q) : Run C (.cond c a b) S ks Q := .mk fun f H hs => by
  simp only [WP, hs.1.ev _ _ hc]
  cases t with
  | true => exact (h1 rfl).of f H hs
  | false => exact (h2 rfl).of f H hs

theorem Run.condT {c : Operand} (hc : evS S.σ c = some (.bool true)) (h : Run C a S ks Q) : Run C (.cond c a b) S ks Q :=
  Run.cond hc (fun _ => h) (fun e => by cases e)

theorem Run.condF {c : Operand} (hc : evS S.σ c = some (.bool false)) (h : Run C b S ks Q) : Run C (.cond c a b) S ks Q :=
  Run.cond hc (fun e => by cases e) (fun _ => h)

theorem Run.condD {c : Operand} {p : Prop} [Decidable p] (hc : evS S.σ c = some (.bool (decide p))) (h1 : p → Run C a S ks Q) (h2 : ¬ p → Run C b S ks Q) : Run C (.cond c a b) S ks Q :=
  Run.cond hc (fun e => h1 (of_decide_eq_true e)) (fun e => h2 (of_decide_eq_false e))

theorem Done.seq (h : Run C b S ks Q) : Done C .normal S (.seq b :: ks) Q := .mk fun f H hs => h.of f H hs
theorem Done.seqE (h : Done C (.exit i) S ks Q) : Done C (.exit i) S (.seq b :: ks) Q := .mk fun f H hs => h.of f H hs
theorem Done.seqR (h : Done C .ret S ks Q) : Done C .ret S (.seq b :: ks) Q := .mk fun f H hs => h.of f H hs
theorem Done.blockN (h : Done C .normal S ks Q) : Done C .normal S (.block i :: ks) Q := .mk fun f H hs => h.of f H hs
theorem Done.blockR (h : Done C .ret S ks Q) : Done C .ret S (.block i :: ks) Q := .mk fun f H hs => h.of f H hs
theorem Done.hit (h : Done C .normal S ks Q) : Done C (.exit i) S (.block i :: ks) Q := .mk fun f H hs => by
  simp only [kont, if_true]
  exact h.of f H hs
theorem Done.miss (hne : Nat.beq i j = false) (h : Done C (.exit i) S ks Q) : Done C (.exit i) S (.block j :: ks) Q := .mk fun f H hs => by
  have : i ≠ j := fun e => by subst e; simp at hne
  simp only [kont, if_neg this]
  exact h.of f H hs
theorem Done.invE {I : St → Prop} (h : Done C (.exit i) S ks Q) : Done C (.exit i) S (.inv I :: ks) Q := .mk fun f H hs => h.of f H hs
theorem Done.invR {I : St → Prop} (h : Done C .ret S ks Q) : Done C .ret S (.inv I :: ks) Q := .mk fun f H hs => h.of f H hs

/-- What is known may be forgotten. -/
structure SubS (S S' : SA) : Prop where
  tmps : Sub S.σ S'.σ
  blks : S'.η.Sublist S.η
  wr : S.W = S'.W

theorem SubS.is {S S' : SA} (h : SubS S S') {f : Fr} {H : Hp} (hs : S.is C f H) : S'.is C f H := by
  obtain ⟨hf, hh⟩ := hs
  refine ⟨hf.sub _ h.tmps, ⟨hh.len, ?_, fun x hx => hh.has x (h.blks.subset hx), fun x hx => hh.own x (h.blks.subset hx), ?_, ?_⟩⟩
  · exact List.Sublist.nodup (List.Sublist.map (fun x : Bool × Nat × AObj => x.2.1) h.blks) hh.nodup
  · rw [← h.wr]; exact hh.same
  · rw [← h.wr]; exact hh.wr

theorem Done.sub (S' : SA) (h : SubS S S') (hd : Done C x S' ks Q) : Done C x S ks Q := .mk fun f H hs => hd.of f H (h.is hs)
theorem Run.sub (S' : SA) (h : SubS S S') (hd : Run C a S' ks Q) : Run C a S ks Q := .mk fun f H hs => hd.of f H (h.is hs)
theorem RunO.sub (S' : SA) (h : SubS S S') (hd : RunO C all r S' ks Q) : RunO C all r S ks Q := .mk fun f H hs => hd.of f H (h.is hs)

/-- The state at a loop's head: given by parameters. -/
def Head {α : Type} (C : Cx) (good : α → Prop) (st : α → SA) (μ : α → Nat) (m : Nat) (s : St) : Prop := ∃ a, good a ∧ μ a < m ∧ (st a).is C s.1 s.2

theorem Run.loop {α : Type} (good : α → Prop) (st : α → SA) (μ : α → Nat) (a0 : α) (h0 : good a0) (hs : SubS S (st a0))
    (round : ∀ a, good a → Run C b (st a) (.inv (Head C good st μ (μ a)) :: ks) Q) : Run C (.loop b) S ks Q := .mk fun f H hS => by
  have key : ∀ (m : Nat) (s : St), Head C good st μ m s → WPr (WP C.E b) (kont C.E ks Q) m s := by
    intro m
    induction m with
    | zero => rintro s ⟨a, _, h, _⟩; omega
    | succ m ih =>
      rintro ⟨f, H⟩ ⟨a, ha, hm, hf⟩
      simp only [WPr]
      refine WP_mono _ _ _ _ (fun x s' hx => ?_) ((round a ha).of f H hf)
      cases x with
      | normal =>
        obtain ⟨a', h1, h2, h3⟩ := hx
        exact ih s' ⟨a', h1, by omega, h3⟩
      | exit i => exact hx
      | ret => exact hx
  simp only [WP]
  exact ⟨μ a0 + 1, key _ _ ⟨a0, h0, Nat.lt_succ_self _, hs.is hS⟩⟩

theorem Done.inv {α : Type} {good : α → Prop} {st : α → SA} {μ : α → Nat} {m : Nat} (a : α) (h : good a) (hm : μ a < m) (hs : SubS S (st a)) : Done C .normal S (.inv (Head C good st μ m) :: ks) Q :=
  .mk fun _ _ hf => ⟨a, h, hm, hs.is hf⟩

/-! ### The end of a body -/

def FinS (E : Env) (fn : Func) (n : Nat) (P : CR → Prop) (x : X) (s : St) : Prop :=
  (x = .normal ∨ x = .ret) ∧ ∃ vs, resV E s.1 s.2 fn.results.toList = some vs ∧ P (close n (tupV vs) s.2)

theorem Done.fin {fn : Func} {P : CR → Prop} {vs : List V} (hx : x = .normal ∨ x = .ret) (hr : ∀ H, HFits C.H0 S.W S.η H → resS C.E S.σ H fn.results.toList = some vs)
    (hc : ∀ H, HFits C.H0 S.W S.η H → P (close C.H0.length (tupV vs) H)) : Done C x S [] (FinS C.E fn C.H0.length P) :=
  .mk fun _ H ⟨hf, hh⟩ => ⟨hx, vs, hf.res _ _ (hr H hh), hc H hh⟩

/-- The end of a body that turned nothing. -/
theorem Done.pure {fn : Func} {vs : List V} (hx : x = .normal ∨ x = .ret) (hr : ∀ H, resS C.E σ H fn.results.toList = some vs) (hv : tupV vs = v) (hfl : v.flat = true) : Done C x ⟨σ, η, []⟩ [] (FinS C.E fn C.H0.length (· = .pure v)) :=
  Done.fin hx (fun H _ => hr H) fun H hh => by
    have := hh.wr rfl
    simp only [close, hv, hfl, Bool.true_and, decide_eq_true_eq, this, if_true]

theorem Gives.of_some {E : Env} {c' : CR} {g : FuncId} {args : List V} {H : List AObj} {P : CR → Prop} (h : WPcall E g args H P) (hp : ∀ c, P c → c = c') : Gives E g args H c' := by
  obtain ⟨c, h1, h2⟩ := h
  rw [← hp c h2]
  exact h1

/-- Arguments, as the temporaries at a body's start. -/
def argsS : List V → Nat → Tmps
  | [], _ => []
  | v :: r, t => (t, v) :: argsS r (t + 1)

theorem frame_lenS : ∀ (n : Nat) (l : List V), (frame n l).length = n
  | 0, _ => rfl
  | n + 1, [] => by simp [frame, frame_lenS n []]
  | n + 1, v :: r => by simp [frame, frame_lenS n r]

theorem get_frameS : ∀ (n : Nat) (l : List V) (t : Nat), l.length ≤ n → get (frame n l) t = l[t]?
  | 0, [], t, _ => by simp [frame, get]
  | 0, _ :: _, t, h => by simp at h
  | n + 1, [], 0, _ => by simp [frame, get]
  | n + 1, [], t + 1, _ => by simpa [frame, get] using get_frameS n [] t (by simp)
  | n + 1, v :: r, 0, _ => by simp [frame, get]
  | n + 1, v :: r, t + 1, h => by simpa [frame, get] using get_frameS n r t (by simpa using h)

theorem look_argsS : ∀ (l : List V) (k t : Nat) (v : V), look (argsS l k) t = some v → k ≤ t ∧ l[t - k]? = some v
  | [], k, t, v, h => by simp [argsS, look] at h
  | u :: r, k, t, v, h => by
    simp only [argsS, look] at h
    split at h
    · rename_i e
      have e := Nat.eq_of_beq_eq_true e
      subst e
      simpa using h
    · obtain ⟨h1, h2⟩ := look_argsS r (k + 1) t v h
      refine ⟨by omega, ?_⟩
      rw [show t - k = (t - (k + 1)) + 1 by omega]
      simpa using h2

theorem fits_frame {n : Nat} {l : List V} (h : l.length ≤ n) : Fits n (argsS l 0) { m := frame n l } where
  len := frame_lenS n l
  has t v hv := by
    obtain ⟨_, h2⟩ := look_argsS l 0 t v hv
    rw [get_frameS n l t h]
    simpa using h2

theorem HFits.start (H0 : List AObj) (η : Blks) (hd : (keysB η).Nodup) (hx : ∀ x ∈ η, x.1 = false ∧ H0[x.2.1]? = some x.2.2) : HFits H0 [] η { objs := H0, wr := H0.length, esc := H0.length } where
  len := Nat.le_refl _
  nodup := hd
  has x h := (hx x h).2
  own x h e := by rw [(hx x h).1] at e; cases e
  same _ _ _ := rfl
  wr _ := Nat.le_refl _

/-- A function's contract, by its body: what is known of memory at its start is given. -/
theorem WPcall.walk {E : Env} {g : FuncId} {fn : Func} {body : Code} {args : List V} {objs : List AObj} {P : CR → Prop} {n : Nat} {σ : Tmps} (η : Blks) (ho : E.orc g args = none) (hf : E.P.funcs[g]? = some fn) (hb : fn.body = some body) (hnt : fn.ntmps = n) (hn : Nat.ble args.length n = true)
    (hσ : argsS args 0 = σ) (hd : (keysB η).Nodup) (hx : ∀ x ∈ η, x.1 = false ∧ objs[x.2.1]? = some x.2.2)
    (h : Run ⟨E, n, objs⟩ body ⟨σ, η, []⟩ [] (FinS E fn objs.length P)) : WPcall E g args objs P := by
  subst hnt
  subst hσ
  have hn : args.length ≤ fn.ntmps := Nat.le_of_ble_eq_true hn
  have := h.of { m := frame fn.ntmps args } { objs := objs, wr := objs.length, esc := objs.length } ⟨fits_frame hn, HFits.start objs η hd hx⟩
  obtain ⟨x, s', ⟨hx, vs, hv, hc⟩, m0, hm⟩ := WP_sound _ _ _ this
  refine ⟨_, ⟨m0 + 1, fun m hle => ?_⟩, hc⟩
  obtain ⟨m, rfl⟩ : ∃ k, m = k + 1 := ⟨m - 1, by omega⟩
  unfold evCall
  simp only [ho, hf, hb, if_pos hn, hm m (by omega) (m + 1) (by omega), if_pos hx, hv, Option.map_some]

theorem Gives.walk {E : Env} {g : FuncId} {fn : Func} {body : Code} {args : List V} {objs : List AObj} {n : Nat} {σ : Tmps} (η : Blks) (ho : E.orc g args = none) (hf : E.P.funcs[g]? = some fn) (hb : fn.body = some body) (hnt : fn.ntmps = n) (hn : Nat.ble args.length n = true)
    (hσ : argsS args 0 = σ) (hd : (keysB η).Nodup) (hx : ∀ x ∈ η, x.1 = false ∧ objs[x.2.1]? = some x.2.2)
    (h : Run ⟨E, n, objs⟩ body ⟨σ, η, []⟩ [] (FinS E fn objs.length (· = .pure v))) : Gives E g args objs (.pure v) := by
  obtain ⟨c, h1, h2⟩ := WPcall.walk η ho hf hb hnt hn hσ hd hx h
  rw [← h2]
  exact h1

end Go.Am
