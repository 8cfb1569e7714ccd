/-
  What holds behind a piece of code, by the evaluator, with rounds and depth left open.
-/
import Derived.Test.YthmmpfaghmoenaaDoorAmCall
namespace Go.Am
open Go

variable {E : Env}

/-- The call comes to this, with whatever depth that is great enough. -/
def Gives (E : Env) (g : FuncId) (args : List V) (H : List AObj) (c : CR) : Prop := ∃ m0, ∀ m, m0 ≤ m → evCall E m g args H = some c

def WPcall (E : Env) (g : FuncId) (args : List V) (H : List AObj) (K : CR → Prop) : Prop := ∃ c, Gives E g args H c ∧ K c

theorem WPcall.of {g : FuncId} {args : List V} {H : List AObj} {K : CR → Prop} {c : CR} (h : Gives E g args H c) (hk : K c) : WPcall E g args H K := ⟨c, h, hk⟩

def WPo (E : Env) (all : List Oper) : List Oper → Fr → Hp → (Fr → Hp → Prop) → Prop
  | [], f, H, Q => Q f H
  | o :: r, f, H, Q =>
    match wantedV f all o with
    | some true => match opV E f o H with
      | some (.val v, H') => match f.set o.dst v with
        | some f' => WPo E all r f' H' Q
        | none => False
      | some (.skip, H') => match f.set o.dst .undef with
        | some f' => WPo E all r f' H' Q
        | none => False
      | some (.enter g args, H') => WPcall E g args H'.objs fun c => match f.set o.dst (H'.after c).1 with
        | some f' => WPo E all r f' (H'.after c).2 Q
        | none => False
      | none => False
    | some false => match f.set o.dst .undef with
      | some f' => WPo E all r f' H Q
      | none => False
    | none => False

theorem WPo_sound {all : List Oper} {Q : Fr → Hp → Prop} : ∀ (r : List Oper) (f : Fr) (H : Hp), WPo E all r f H Q → ∃ f' H', Q f' H' ∧ ∃ m0, ∀ m, m0 ≤ m → evOps E (evCall E m) all r f H = some (f', H')
  | [], f, H, h => ⟨f, H, h, 0, fun _ _ => rfl⟩
  | o :: r, f, H, h => by
    simp only [WPo] at h
    simp only [evOps]
    split at h
    · split at h
      · split at h
        · obtain ⟨f', H', hq, m0, hm⟩ := WPo_sound r _ _ h
          refine ⟨f', H', hq, m0, fun m hle => ?_⟩
          simp only [*]
        · exact h.elim
      · split at h
        · obtain ⟨f', H', hq, m0, hm⟩ := WPo_sound r _ _ h
          refine ⟨f', H', hq, m0, fun m hle => ?_⟩
          simp only [*]
        · exact h.elim
      · obtain ⟨c, ⟨m1, h1⟩, h⟩ := h
        split at h
        · obtain ⟨f', H', hq, m0, hm⟩ := WPo_sound r _ _ h
          refine ⟨f', H', hq, max m0 m1, fun m hle => ?_⟩
          simp only [*, h1 m (by omega)]
          exact hm m (by omega)
        · exact h.elim
      · exact h.elim
    · split at h
      · obtain ⟨f', H', hq, m0, hm⟩ := WPo_sound r _ _ h
        refine ⟨f', H', hq, m0, fun m hle => ?_⟩
        simp only [*]
      · exact h.elim
    · exact h.elim

/-- A region that draws its order. -/
def WPq (E : Env) (all : List Oper) : List Oper → Fr → Hp → (Fr → Prop) → Prop
  | [], f, _, Q => Q f
  | o :: r, f, H, Q =>
    match wantedV f all o with
    | some true =>
      quietOp o.op = true ∧
      match opV E f o H with
      | some (.val v, H') => H'.objs.length = H.objs.length ∧ match f.set o.dst v with
        | some f' => WPq E all r f' H Q
        | none => False
      | some (.enter g args, _) => WPcall E g args H.objs fun c => match c with
        | .pure v => (match f.set o.dst v with
          | some f' => WPq E all r f' H Q
          | none => False)
        | _ => False
      | _ => False
    | some false => match f.set o.dst .undef with
      | some f' => WPq E all r f' H Q
      | none => False
    | none => False

theorem WPq_sound {all : List Oper} {Q : Fr → Prop} : ∀ (r : List Oper) (f : Fr) (H : Hp), WPq E all r f H Q → ∃ f', Q f' ∧ ∃ m0, ∀ m, m0 ≤ m → evQuiet E (evCall E m) all r f H = some f'
  | [], f, H, h => ⟨f, h, 0, fun _ _ => rfl⟩
  | o :: r, f, H, h => by
    simp only [WPq] at h
    simp only [evQuiet]
    split at h
    · obtain ⟨hq0, h⟩ := h
      split at h
      · obtain ⟨hl, h⟩ := h
        split at h
        · obtain ⟨f', hq, m0, hm⟩ := WPq_sound r _ _ h
          refine ⟨f', hq, m0, fun m hle => ?_⟩
          simp only [*, if_true]
        · exact h.elim
      · obtain ⟨c, ⟨m1, h1⟩, h⟩ := h
        split at h
        · split at h
          · obtain ⟨f', hq, m0, hm⟩ := WPq_sound r _ _ h
            refine ⟨f', hq, max m0 m1, fun m hle => ?_⟩
            simp only [*, h1 m (by omega), if_true]
            exact hm m (by omega)
          · exact h.elim
        · exact h.elim
      · exact h.elim
    · split at h
      · obtain ⟨f', hq, m0, hm⟩ := WPq_sound r _ _ h
        refine ⟨f', hq, m0, fun m hle => ?_⟩
        simp only [*]
      · exact h.elim
    · exact h.elim

/-- A region that draws its order, and whose operations may turn memory. -/
def WPd (E : Env) (ops : List Oper) (n0 : Nat) (bef : List Nat) : List Oper → List Past → Fr → Hp → (Fr → Hp → Prop) → Prop
  | [], _, f, H, Q => Q f H
  | o :: r, past, f, H, Q =>
    match wantedV f ops o with
    | none => False
    | some false => match f.set o.dst .undef with
      | some f' => WPd E ops n0 bef r (⟨past.length, H.size, [], .only []⟩ :: past) f' H Q
      | none => False
    | some true =>
      match opV E f o H with
      | none => False
      | some (.enter g args, H1) => (named f o).isEmpty = true ∧ ∃ c, Gives E g args (hideL ((freeOf bef past).flatMap (·.tch)) H1.objs) c ∧
        match c with
        | .pure v => (match f.set o.dst v with
          | some f' => WPd E ops n0 bef r (⟨past.length, H.size, [], .but ((freeOf bef past).flatMap (·.tch))⟩ :: past) f' H1 Q
          | none => False)
        | .eff v H2 => ((freeOf bef past).flatMap (·.tch)).isEmpty = true ∧ tchOk (freeOf bef past) (List.range' (min H2.wr H.size) (H2.objs.length - min H2.wr H.size)) = true ∧ match f.set o.dst v with
            | some f' => WPd E ops n0 bef r (⟨past.length, H.size, List.range' (min H2.wr H.size) (H2.objs.length - min H2.wr H.size), .but []⟩ :: past) f' (H1.after (.eff v H2)).2 Q
            | none => False
      | some (r0, H') => (named f o).all (fun k => !((freeOf bef past).flatMap (·.tch)).contains k) = true ∧ tchOk (freeOf bef past) ((if writes o then (named f o).filter (fun k => decide (k < H.size)) else []) ++ List.range' H.size (H'.size - H.size)) = true ∧
          namesOk n0 ((freeOf bef past).flatMap (·.tch)) ((if writes o then (named f o).filter (fun k => decide (k < H.size)) else []) ++ List.range' H.size (H'.size - H.size)) r0 H' = true ∧
          match f.set o.dst (match r0 with | .val v => v | _ => .undef) with
          | some f' => WPd E ops n0 bef r (⟨past.length, H.size, (if writes o then (named f o).filter (fun k => decide (k < H.size)) else []) ++ List.range' H.size (H'.size - H.size), .only (named f o)⟩ :: past) f' H' Q
          | none => False

theorem WPd_sound {ops : List Oper} {n0 : Nat} {bef : List Nat} {Q : Fr → Hp → Prop} : ∀ (r : List Oper) (past : List Past) (f : Fr) (H : Hp), WPd E ops n0 bef r past f H Q → ∃ f' H', Q f' H' ∧ ∃ m0, ∀ m, m0 ≤ m → evDrawn E (evCall E m) ops n0 bef r past f H = some (f', H')
  | [], past, f, H, h => ⟨f, H, h, 0, fun _ _ => rfl⟩
  | o :: r, past, f, H, h => by
    simp only [WPd] at h
    simp only [evDrawn, hideOf_eq, tchOk2_eq]
    split at h
    · exact h.elim
    · split at h
      · obtain ⟨f', H', hq, m0, hm⟩ := WPd_sound r _ _ _ h
        exact ⟨f', H', hq, m0, fun m hle => by simp only [*]⟩
      · exact h.elim
    · split at h
      · exact h.elim
      · obtain ⟨hn, c, ⟨m1, h1⟩, h⟩ := h
        cases c with
        | pure v =>
          simp only at h
          split at h
          · obtain ⟨f', H', hq, m0, hm⟩ := WPd_sound r _ _ _ h
            refine ⟨f', H', hq, max m0 m1, fun m hle => ?_⟩
            simp only [if_true, h1 m (by omega), *]
            exact hm m (by omega)
          · exact h.elim
        | eff v H2 =>
          simp only at h
          obtain ⟨h2, h3, h⟩ := h
          split at h
          · obtain ⟨f', H', hq, m0, hm⟩ := WPd_sound r _ _ _ h
            refine ⟨f', H', hq, max m0 m1, fun m hle => ?_⟩
            simp only [if_true, h1 m (by omega), Bool.and_self, *]
            exact hm m (by omega)
          · exact h.elim
      · rename_i hwant _ r0 H1 hne hop
        obtain ⟨h2, h3, h4, h⟩ := h
        have hall := Bool.and_eq_true_iff.2 ⟨Bool.and_eq_true_iff.2 ⟨h2, h3⟩, h4⟩
        split at h
        · rename_i f1 hs
          obtain ⟨f', H', hq, m0, hm⟩ := WPd_sound r _ _ _ h
          refine ⟨f', H', hq, m0, fun m hle => ?_⟩
          cases r0 with
          | enter g as => exact (hne _ _ rfl).elim
          | val v =>
            simp only [hwant, hop]
            refine (if_pos hall).trans ?_
            simp only [hs]
            exact hm m hle
          | skip =>
            simp only [hwant, hop]
            refine (if_pos hall).trans ?_
            simp only [hs]
            exact hm m hle
        · exact h.elim

theorem WPd_mono {ops : List Oper} {n0 : Nat} {bef : List Nat} {Q Q' : Fr → Hp → Prop} (hq : ∀ f H, Q f H → Q' f H) : ∀ (r : List Oper) (past : List Past) (f : Fr) (H : Hp), WPd E ops n0 bef r past f H Q → WPd E ops n0 bef r past f H Q'
  | [], past, f, H, h => hq f H h
  | o :: r, past, f, H, h => by
    simp only [WPd] at h ⊢
    split at h
    · exact h.elim
    · split at h
      · exact WPd_mono hq r _ _ _ h
      · exact h.elim
    · split at h
      · exact h.elim
      · obtain ⟨hn, c, h1, h⟩ := h
        refine ⟨hn, c, h1, ?_⟩
        cases c with
        | pure v =>
          simp only at h ⊢
          split at h
          · exact WPd_mono hq r _ _ _ h
          · exact h.elim
        | eff v H2 =>
          simp only at h ⊢
          obtain ⟨h2, h3, h⟩ := h
          refine ⟨h2, h3, ?_⟩
          split at h
          · exact WPd_mono hq r _ _ _ h
          · exact h.elim
      · obtain ⟨h2, h3, h4, h⟩ := h
        refine ⟨h2, h3, h4, ?_⟩
        split at h
        · exact WPd_mono hq r _ _ _ h
        · exact h.elim

def WPr (W : St → (X → St → Prop) → Prop) (Q : X → St → Prop) : Nat → St → Prop
  | 0, _ => False
  | n + 1, s => W s fun x s' => match x with
    | .normal => WPr W Q n s'
    | x => Q x s'

def WP (E : Env) : Code → St → (X → St → Prop) → Prop
  | .skip, s, Q | .label _, s, Q => Q .normal s
  | .region _ ops false, s, Q => WPo E ops.toList ops.toList s.1 s.2 fun f H => Q .normal (f, H)
  | .region _ ops true, s, Q => if quietAll ops.toList = true then Region.lexB .any ops = true ∧ WPq E ops.toList ops.toList s.1 s.2 (fun f => Q .normal (f, s.2)) else drawnOk ops.toList = true ∧ WPd E ops.toList s.2.objs.length (befs ops.toList []) ops.toList [] s.1 s.2 fun f H => Q .normal (f, H)
  | .seq a b, s, Q => WP E a s fun x s' => match x with
    | .normal => WP E b s' Q
    | x => Q x s'
  | .cond c a b, s, Q => match s.1.ev c with
    | some (.bool t) => if t = true then WP E a s Q else WP E b s Q
    | _ => False
  | .block id b, s, Q => WP E b s fun x s' => match x with
    | .exit i => if i = id then Q .normal s' else Q (.exit i) s'
    | x => Q x s'
  | .loop b, s, Q => ∃ n, WPr (WP E b) Q n s
  | .exit id, s, Q => Q (.exit id) s
  | .ret, s, Q => Q .ret s
  | _, _, _ => False

theorem WP_sound : ∀ (c : Code) (s : St) (Q : X → St → Prop), WP E c s Q → ∃ x s', Q x s' ∧ ∃ m0, ∀ m, m0 ≤ m → ∀ k, m0 ≤ k → evCode E (evCall E m) k c s = some (x, s') := by
  intro c
  induction c with
  | skip => intro s Q h; exact ⟨_, _, h, 0, fun _ _ _ _ => rfl⟩
  | label l => intro s Q h; exact ⟨_, _, h, 0, fun _ _ _ _ => rfl⟩
  | exit id => intro s Q h; exact ⟨_, _, h, 0, fun _ _ _ _ => rfl⟩
  | ret => intro s Q h; exact ⟨_, _, h, 0, fun _ _ _ _ => rfl⟩
  | region id ops d =>
    intro s Q h
    cases d with
    | false =>
      simp only [WP] at h
      obtain ⟨f', H', hq, m0, hm⟩ := WPo_sound _ _ _ h
      exact ⟨_, _, hq, m0, fun m hle k _ => by simp only [evCode, hm m hle]; rfl⟩
    | true =>
      simp only [WP] at h
      split at h
      · rename_i hqa
        obtain ⟨hB, h⟩ := h
        obtain ⟨f', hq, m0, hm⟩ := WPq_sound _ _ _ h
        exact ⟨_, _, hq, m0, fun m hle k _ => by simp only [evCode, hB, hqa, Bool.and_self, if_true, hm m hle]⟩
      · rename_i hqa
        obtain ⟨hB, h⟩ := h
        obtain ⟨f', H', hq, m0, hm⟩ := WPd_sound _ _ _ _ h
        have hqa' : quietAll ops.toList = false := by simpa using hqa
        exact ⟨_, _, hq, m0, fun m hle k _ => by simp only [evCode, hB, hqa', Bool.false_and, Bool.false_eq_true, if_false, if_true, hm m hle]; rfl⟩
  | seq a b ih1 ih2 =>
    intro s Q h
    simp only [WP] at h
    obtain ⟨x, s1, h1, m1, hm1⟩ := ih1 s _ h
    cases x with
    | normal =>
      obtain ⟨x2, s2, h2, m2, hm2⟩ := ih2 s1 Q h1
      exact ⟨x2, s2, h2, max m1 m2, fun m hle k hk => by simp only [evCode, hm1 m (by omega) k (by omega)]; exact hm2 m (by omega) k (by omega)⟩
    | exit i => exact ⟨_, s1, h1, m1, fun m hle k hk => by simp only [evCode, hm1 m hle k hk]⟩
    | ret => exact ⟨_, s1, h1, m1, fun m hle k hk => by simp only [evCode, hm1 m hle k hk]⟩
  | cond c a b ih1 ih2 =>
    intro s Q h
    simp only [WP] at h
    split at h
    · rename_i t hc
      cases t with
      | true =>
        obtain ⟨x, s1, h1, m1, hm1⟩ := ih1 s Q (by simpa using h)
        exact ⟨x, s1, h1, m1, fun m hle k hk => by simp only [evCode, hc]; exact hm1 m hle k hk⟩
      | false =>
        obtain ⟨x, s1, h1, m1, hm1⟩ := ih2 s Q (by simpa using h)
        exact ⟨x, s1, h1, m1, fun m hle k hk => by simp only [evCode, hc]; exact hm1 m hle k hk⟩
    · exact h.elim
  | block id b ih =>
    intro s Q h
    simp only [WP] at h
    obtain ⟨x, s1, h1, m1, hm1⟩ := ih s _ h
    cases x with
    | normal => exact ⟨_, s1, h1, m1, fun m hle k hk => by simp only [evCode, hm1 m hle k hk]⟩
    | ret => exact ⟨_, s1, h1, m1, fun m hle k hk => by simp only [evCode, hm1 m hle k hk]⟩
    | exit i =>
      simp only at h1
      by_cases hi : i = id
      · rw [if_pos hi] at h1
        exact ⟨_, s1, h1, m1, fun m hle k hk => by simp only [evCode, hm1 m hle k hk, hi, if_true]⟩
      · rw [if_neg hi] at h1
        exact ⟨_, s1, h1, m1, fun m hle k hk => by simp only [evCode, hm1 m hle k hk, hi, if_false]⟩
  | loop b ih =>
    intro s Q h
    simp only [WP] at h
    obtain ⟨n, h⟩ := h
    have key : ∀ (n : Nat) (s : St), WPr (WP E b) Q n s → ∃ x s', Q x s' ∧ ∃ m0, ∀ m, m0 ≤ m → ∀ k, m0 ≤ k → ∀ j, n ≤ j → iter (evCode E (evCall E m) k b) j s = some (x, s') := by
      intro n
      induction n with
      | zero => intro s h; exact h.elim
      | succ n ihn =>
        intro s h
        simp only [WPr] at h
        obtain ⟨x, s1, h1, m1, hm1⟩ := ih s _ h
        have out : ∀ x', x = x' → x' ≠ .normal → Q x' s1 → ∃ x s', Q x s' ∧ ∃ m0, ∀ m, m0 ≤ m → ∀ k, m0 ≤ k → ∀ j, n + 1 ≤ j → iter (evCode E (evCall E m) k b) j s = some (x, s') := fun x' e hne hq =>
          ⟨x', s1, hq, m1, fun m hle k hk j hj => by
            obtain ⟨j, rfl⟩ : ∃ i, j = i + 1 := ⟨j - 1, by omega⟩
            simp only [iter, hm1 m hle k hk, e]
            cases x' with
            | normal => exact absurd rfl hne
            | exit i => rfl
            | ret => rfl⟩
        cases x with
        | normal =>
          obtain ⟨x2, s2, h2, m2, hm2⟩ := ihn s1 h1
          refine ⟨x2, s2, h2, max m1 m2, fun m hle k hk j hj => ?_⟩
          obtain ⟨j, rfl⟩ : ∃ i, j = i + 1 := ⟨j - 1, by omega⟩
          simp only [iter, hm1 m (by omega) k (by omega)]
          exact hm2 m (by omega) k (by omega) j (by omega)
        | exit i => exact out _ rfl (by simp) h1
        | ret => exact out _ rfl (by simp) h1
    obtain ⟨x, s', hq, m0, hm⟩ := key n s h
    exact ⟨x, s', hq, max m0 n, fun m hle k hk => by simp only [evCode]; exact hm m (by omega) k (by omega) k (by omega)⟩
  | rangeFunc f ps as b ih1 ih2 => intro s Q h; simp [WP] at h
  | scope b ih => intro s Q h; simp [WP] at h
  | goto l => intro s Q h; simp [WP] at h
  | refuse why => intro s Q h; simp [WP] at h

theorem WPo_mono {all : List Oper} {Q Q' : Fr → Hp → Prop} (hq : ∀ f H, Q f H → Q' f H) : ∀ (r : List Oper) (f : Fr) (H : Hp), WPo E all r f H Q → WPo E all r f H Q'
  | [], f, H, h => hq f H h
  | o :: r, f, H, h => by
    simp only [WPo] at h ⊢
    split at h
    · split at h
      · split at h
        · first | exact WPo_mono hq r _ _ h | (simp only [*]; exact WPo_mono hq r _ _ h)
        · exact h.elim
      · split at h
        · first | exact WPo_mono hq r _ _ h | (simp only [*]; exact WPo_mono hq r _ _ h)
        · exact h.elim
      · obtain ⟨c, hc, h⟩ := h
        split at h
        · exact ⟨c, hc, by first | exact WPo_mono hq r _ _ h | (simp only [*]; exact WPo_mono hq r _ _ h)⟩
        · exact h.elim
      · exact h.elim
    · split at h
      · first | exact WPo_mono hq r _ _ h | (simp only [*]; exact WPo_mono hq r _ _ h)
      · exact h.elim
    · exact h.elim

theorem WPq_mono {all : List Oper} {Q Q' : Fr → Prop} (hq : ∀ f, Q f → Q' f) : ∀ (r : List Oper) (f : Fr) (H : Hp), WPq E all r f H Q → WPq E all r f H Q'
  | [], f, H, h => hq f h
  | o :: r, f, H, h => by
    simp only [WPq] at h ⊢
    split at h
    · obtain ⟨hq0, h⟩ := h
      split at h
      · obtain ⟨hl, h⟩ := h
        split at h
        · first | exact ⟨hq0, hl, WPq_mono hq r _ _ h⟩ | (simp only [*, true_and]; exact WPq_mono hq r _ _ h)
        · exact h.elim
      · obtain ⟨c, hc, h⟩ := h
        split at h
        · split at h
          · exact ⟨hq0, _, hc, by first | exact WPq_mono hq r _ _ h | (simp only [*]; exact WPq_mono hq r _ _ h)⟩
          · exact h.elim
        · exact h.elim
      · exact h.elim
    · split at h
      · first | exact WPq_mono hq r _ _ h | (simp only [*]; exact WPq_mono hq r _ _ h)
      · exact h.elim
    · exact h.elim

theorem WP_mono : ∀ (c : Code) (s : St) (Q Q' : X → St → Prop), (∀ x s, Q x s → Q' x s) → WP E c s Q → WP E c s Q' := by
  intro c
  induction c with
  | skip => intro s Q Q' hq h; exact hq _ _ h
  | label l => intro s Q Q' hq h; exact hq _ _ h
  | exit id => intro s Q Q' hq h; exact hq _ _ h
  | ret => intro s Q Q' hq h; exact hq _ _ h
  | region id ops d =>
    intro s Q Q' hq h
    cases d with
    | false => simp only [WP] at h ⊢; exact WPo_mono (fun f H h => hq _ _ h) _ _ _ h
    | true =>
      simp only [WP] at h ⊢
      by_cases hqa : quietAll ops.toList = true
      · rw [if_pos hqa] at h ⊢
        exact ⟨h.1, WPq_mono (fun f h => hq _ _ h) _ _ _ h.2⟩
      · rw [if_neg hqa] at h ⊢
        exact ⟨h.1, WPd_mono (fun f H h => hq _ _ h) _ _ _ _ h.2⟩
  | seq a b ih1 ih2 =>
    intro s Q Q' hq h
    simp only [WP] at h ⊢
    refine ih1 s _ _ (fun x s' hx => ?_) h
    cases x with
    | normal => exact ih2 s' Q Q' hq hx
    | exit i => exact hq _ _ hx
    | ret => exact hq _ _ hx
  | cond c a b ih1 ih2 =>
    intro s Q Q' hq h
    simp only [WP] at h ⊢
    split at h
    · rename_i t hc
      cases t with
      | true => simpa using ih1 s Q Q' hq (by simpa using h)
      | false => simpa using ih2 s Q Q' hq (by simpa using h)
    · exact h.elim
  | block id b ih =>
    intro s Q Q' hq h
    simp only [WP] at h ⊢
    refine ih s _ _ (fun x s' hx => ?_) h
    cases x with
    | normal => exact hq _ _ hx
    | ret => exact hq _ _ hx
    | exit i =>
      simp only at hx ⊢
      split at hx
      · rename_i hi; rw [if_pos hi]; exact hq _ _ hx
      · rename_i hi; rw [if_neg hi]; exact hq _ _ hx
  | loop b ih =>
    intro s Q Q' hq h
    simp only [WP] at h ⊢
    obtain ⟨n, h⟩ := h
    refine ⟨n, ?_⟩
    have key : ∀ (n : Nat) (s : St), WPr (WP E b) Q n s → WPr (WP E b) Q' n s := by
      intro n
      induction n with
      | zero => intro s h; exact h
      | succ n ihn =>
        intro s h
        simp only [WPr] at h ⊢
        refine ih s _ _ (fun x s' hx => ?_) h
        cases x with
        | normal => exact ihn s' hx
        | exit i => exact hq _ _ hx
        | ret => exact hq _ _ hx
    exact key n s h
  | rangeFunc f ps as b ih1 ih2 => intro s Q Q' hq h; simp [WP] at h
  | scope b ih => intro s Q Q' hq h; simp [WP] at h
  | goto l => intro s Q Q' hq h; simp [WP] at h
  | refuse why => intro s Q Q' hq h; simp [WP] at h

/-- A loop, by what holds at each round's head and what each round lowers. -/
theorem WP_loop {b : Code} {s : St} {Q : X → St → Prop} (I : St → Prop) (μ : St → Nat) (h0 : I s)
    (round : ∀ s, I s → WP E b s fun x s' => match x with
      | .normal => I s' ∧ μ s' < μ s
      | x => Q x s') : WP E (.loop b) s Q := by
  simp only [WP]
  have key : ∀ (n : Nat) (s : St), I s → μ s ≤ n → WPr (WP E b) Q (n + 1) s := by
    intro n
    induction n with
    | zero =>
      intro s hI hm
      simp only [WPr]
      refine WP_mono _ _ _ _ (fun x s' hx => ?_) (round s hI)
      cases x with
      | normal => have := hx.2; omega
      | exit i => exact hx
      | ret => exact hx
    | succ n ih =>
      intro s hI hm
      rw [WPr]
      refine WP_mono _ _ _ _ (fun x s' hx => ?_) (round s hI)
      cases x with
      | normal => exact ih s' hx.1 (by have := hx.2; omega)
      | exit i => exact hx
      | ret => exact hx
  exact ⟨_, key (μ s) s h0 (Nat.le_refl _)⟩

/-- What stands at the end of a body. -/
def Fin (E : Env) (fn : Func) (n : Nat) (c : CR) (x : X) (s : St) : Prop :=
  (x = .normal ∨ x = .ret) ∧ ∃ vs, resV E s.1 s.2 fn.results.toList = some vs ∧ close n (tupV vs) s.2 = c

/-- A function's contract, by its body. -/
theorem Gives.of_body {g : FuncId} {fn : Func} {body : Code} {args : List V} {H : List AObj} {c : CR} (ho : E.orc g args = none) (hf : E.P.funcs[g]? = some fn) (hb : fn.body = some body) (hn : args.length ≤ fn.ntmps)
    (h : WP E body ({ m := frame fn.ntmps args }, { objs := H, wr := H.length, esc := H.length }) (Fin E fn H.length c)) : Gives E g args H c := by
  obtain ⟨x, s', ⟨hx, vs, hv, hc⟩, m0, hm⟩ := WP_sound _ _ _ h
  refine ⟨m0 + 1, fun m hle => ?_⟩
  obtain ⟨m, rfl⟩ : ∃ k, m = k + 1 := ⟨m - 1, by omega⟩
  unfold evCall
  simp only [ho, hf, hb, if_pos hn, hm m (by omega) (m + 1) (by omega), if_pos hx, hv, Option.map_some, hc]

theorem Gives.orc {g : FuncId} {args : List V} {H : List AObj} {v : V} (h : E.orc g args = some v) : Gives E g args H (.pure v) :=
  ⟨1, fun m hle => by
    obtain ⟨m, rfl⟩ : ∃ k, m = k + 1 := ⟨m - 1, by omega⟩
    simp only [evCall, h]⟩

/-- What the evaluator knows, the model does. -/
theorem Gives.calls {g : FuncId} {args : List V} {H : List AObj} {c : CR} (h : Gives E g args H c) (ok : E.Ok) {N : Nat} {ρ : Nat → Loc} {w : World} (hl : ltL H.length args) (hw : WR E N ρ H w) :
    Calls E.P g (args.map (V.emb ρ)).toArray w (CallPost E N ρ H w c) := by
  obtain ⟨m0, hm⟩ := h
  exact (evCall_ok ok m0 g args H c (hm m0 (Nat.le_refl _)) hl N ρ w hw).2

end Go.Am
