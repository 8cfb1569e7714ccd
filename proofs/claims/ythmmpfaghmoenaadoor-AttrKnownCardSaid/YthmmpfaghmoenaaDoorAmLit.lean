/-
  The literal of a map: its entries may be laid in any order; behind it lies one of the maps that these orders come to.
-/
import Derived.Test.YthmmpfaghmoenaaDoorAmDrawnEv
namespace Go.Am
open Go

variable {E : Env} {N : Nat} {ρ ρ' : Nat → Loc} {H : List AObj} {w w' : World}

theorem mem_ins1 {α : Type} (a : α) : ∀ (s t : List α), s ++ a :: t ∈ ins1 a (s ++ t)
  | [], [] => by simp [ins1]
  | [], b :: t => by simp [ins1]
  | b :: s, t => by
    simp only [List.cons_append, ins1, List.mem_cons, List.mem_map]
    exact .inr ⟨_, mem_ins1 a s t, rfl⟩

theorem mem_perms {α : Type} : ∀ (l l' : List α), l'.Perm l → l' ∈ perms l
  | [], l', h => by simp [perms, h.eq_nil]
  | a :: l, l', h => by
    obtain ⟨s, t, rfl⟩ := List.append_of_mem (h.mem_iff.2 (List.mem_cons_self ..))
    have : (s ++ t).Perm l := (List.perm_middle.symm.trans h).cons_inv
    simp only [perms, List.mem_flatMap]
    exact ⟨_, mem_perms l _ this, mem_ins1 a s t⟩

theorem ins1_perm {α : Type} (a : α) : ∀ (l l' : List α), l' ∈ ins1 a l → l'.Perm (a :: l)
  | [], l', h => by simp only [ins1, List.mem_singleton] at h; subst h; exact List.Perm.refl _
  | b :: l, l', h => by
    simp only [ins1, List.mem_cons, List.mem_map] at h
    rcases h with rfl | ⟨x, hx, rfl⟩
    · exact List.Perm.refl _
    · exact ((ins1_perm a l x hx).cons b).trans (List.Perm.swap a b l)

theorem perms_perm {α : Type} : ∀ (l l' : List α), l' ∈ perms l → l'.Perm l
  | [], l', h => by simp only [perms, List.mem_singleton] at h; subst h; exact List.Perm.refl _
  | a :: l, l', h => by
    simp only [perms, List.mem_flatMap] at h
    obtain ⟨x, hx, hl⟩ := h
    exact (ins1_perm a x l' hl).trans ((perms_perm l x hx).cons a)

theorem stamp_append : ∀ (s : List (V × V)) (n : Nat) (k v : V), stamp (s ++ [(k, v)]) n = stamp s n ++ [⟨k, v, n + s.length⟩]
  | [], n, k, v => by simp [stamp]
  | (a, b) :: s, n, k, v => by
    simp only [List.cons_append, stamp, stamp_append s (n + 1) k v, List.length_cons]
    rw [show n + 1 + s.length = n + (s.length + 1) by omega]

theorem stamp_vals {v : V} : ∀ {s : List (V × V)} {n : Nat}, v ∈ (stamp s n).map (·.key) ++ (stamp s n).map (·.val) → ∃ p ∈ s, v = p.1 ∨ v = p.2
  | [], n, h => by simp [stamp] at h
  | (a, b) :: s, n, h => by
    simp only [stamp, List.map_cons, List.cons_append, List.mem_cons, List.mem_append] at h
    rcases h with h | h | h | h
    · exact ⟨_, List.mem_cons_self .., .inl h⟩
    · obtain ⟨p, hp, h⟩ := stamp_vals (v := v) (s := s) (n := n + 1) (List.mem_append.2 (.inl h))
      exact ⟨p, List.mem_cons_of_mem _ hp, h⟩
    · exact ⟨_, List.mem_cons_self .., .inr h⟩
    · obtain ⟨p, hp, h⟩ := stamp_vals (v := v) (s := s) (n := n + 1) (List.mem_append.2 (.inr h))
      exact ⟨p, List.mem_cons_of_mem _ hp, h⟩

theorem isNN_eq {α : Type} {a : Option (Option α)} (h : isNN a = true) : a = some none := by
  unfold isNN at h
  split at h
  · rfl
  · cases h

theorem findV_none {k : V} : ∀ (es : List Ent) (i : Nat), (∀ e ∈ es, findV k [e] 0 = some none) → findV k es i = some none
  | [], i, _ => rfl
  | e :: es, i, h => by
    have h1 := h e (List.mem_cons_self ..)
    simp only [findV] at h1 ⊢
    split at h1
    · cases h1
    · exact findV_none es _ fun e' he => h e' (List.mem_cons_of_mem _ he)
    · cases h1

theorem findA_none {P : Program} {kt : TypeId} {k : V} : ∀ (es : List Ent) (i : Nat), (∀ e ∈ es, findA P kt k [e] 0 = some none) → findA P kt k es i = some none
  | [], i, _ => rfl
  | e :: es, i, h => by
    have h1 := h e (List.mem_cons_self ..)
    simp only [findA] at h1 ⊢
    split at h1
    · cases h1
    · exact findA_none es _ fun e' he => h e' (List.mem_cons_of_mem _ he)
    · cases h1

theorem findK_none {P : Program} {kt : TypeId} {k : V} {es : List Ent} (h0 : findK P kt k [] = some none) (h : ∀ e ∈ es, findK P kt k [e] = some none) : findK P kt k es = some none := by
  unfold findK at h0 h ⊢
  split
  · rename_i hp
    exact findV_none es 0 fun e he => by have := h e he; rwa [if_pos hp] at this
  · rename_i hp
    split
    · rename_i ha
      exact findA_none es 0 fun e he => by have := h e he; rwa [if_neg hp, if_pos ha] at this
    · rename_i ha
      rw [if_neg hp, if_neg ha] at h0
      cases h0

theorem findK_born {P : Program} {kt : TypeId} {k a b : V} {n m : Nat} (h : findK P kt k [⟨a, b, n⟩] = some none) : findK P kt k [⟨a, b, m⟩] = some none := by
  unfold findK at h ⊢
  simpa only [findV, findA] using h

theorem evParts_more {fx fr : Fr} (hx : ∀ x v, fx.ev x = some v → fr.ev x = some v) : ∀ {ps : List (Nat × Operand)} {vs : List (Nat × V)}, evParts fx ps = some vs → evParts fr ps = some vs
  | [], vs, h => h
  | (i, x) :: r, vs, h => by
    simp only [evParts] at h ⊢
    cases h1 : fx.ev x with
    | none => rw [h1] at h; cases h
    | some v =>
      cases h2 : evParts fx r with
      | none => rw [h1, h2] at h; cases h
      | some vs' =>
        rw [h1, h2] at h
        rw [hx x v h1, evParts_more hx h2]
        exact h

theorem okO_val {x : Option V} {H H1 : Hp} {v : V} (h : okO x H = some (.val v, H1)) : x = some v := by
  unfold okO at h
  obtain ⟨y, h1, h2⟩ := Option.map_eq_some_iff.1 h
  cases h2
  exact h1

theorem litPure_run {fx fr : Fr} {o : Oper} (hp : litPure o.op = true) (hx : ∀ x v, fx.ev x = some v → fr.ev x = some v) {v : V} {H1 : Hp} (h : opV E fx o ⟨[], 0, 0⟩ = some (.val v, H1)) (M : List AObj) :
    opV E fr o ⟨M, 0, 0⟩ = some (.val v, ⟨M, 0, 0⟩) := by
  obtain ⟨dst, op, type, pos, after, guard⟩ := o
  cases op <;> simp only [litPure, Bool.false_eq_true] at hp
  case build t ps =>
    unfold opV at h ⊢
    simp only at h ⊢
    cases h1 : evParts fx ps.toList with
    | none => rw [h1] at h; cases h
    | some vs =>
      rw [h1] at h
      rw [evParts_more hx h1]
      simp only at h ⊢
      rw [okO_val h]
      rfl
  case move x =>
    unfold opV at h ⊢
    simp only at h ⊢
    rw [hx x v (okO_val h)]
    rfl
  case assign x =>
    unfold opV at h ⊢
    simp only at h ⊢
    rw [hx x v (okO_val h)]
    rfl
  case nilCheck x =>
    unfold opV at h ⊢
    simp only at h ⊢
    cases h1 : fx.ev x with
    | none => rw [h1] at h; cases h
    | some a =>
      rw [h1] at h
      rw [hx x a h1]
      cases a <;> simp only [ok, reduceCtorEq, Option.some.injEq, Prod.mk.injEq, R.val.injEq] at h ⊢ <;> simp [h.1]
  case fieldAddr st x i =>
    unfold opV at h ⊢
    simp only at h ⊢
    cases h1 : fx.ev x with
    | none => rw [h1] at h; cases h
    | some a =>
      rw [h1] at h
      rw [hx x a h1]
      simp only at h ⊢
      rw [okO_val h]
      rfl

theorem get_range {g : Nat → Option V} (n t : Nat) : get ((List.range n).map g) t = if t < n then g t else none := by
  rw [get_eq, List.getElem?_map]
  by_cases h : t < n
  · rw [List.getElem?_range h, if_pos h]; rfl
  · rw [List.getElem?_eq_none (by simpa using h), if_neg h]; rfl

theorem litSee_spec {ks : List LD} {o : Oper} {x : Operand} {v : V} (h : litSee ks o x = some v) :
    ∃ t j q, x = .tmp t ∧ ks[j]? = some q ∧ q.d = some (t, v) ∧ ∃ e ∈ o.after, Region.binds .any e = true ∧ e.on = j := by
  unfold litSee at h
  split at h
  · rename_i t
    split at h
    · rename_i j hj
      split at h
      · rename_i ha
        obtain ⟨q, hq, hv⟩ := Option.bind_eq_some_iff.1 h
        obtain ⟨⟨d, u⟩, hd, rfl⟩ := Option.map_eq_some_iff.1 hv
        have := List.findIdx?_eq_some_iff_getElem.1 hj
        obtain ⟨hlt, hl, _⟩ := this
        rw [List.getElem?_eq_getElem hlt] at hq
        simp only [Option.some.injEq] at hq
        rw [hq] at hl
        unfold LD.lays at hl
        rw [hd] at hl
        simp only [beq_iff_eq] at hl
        subst hl
        rw [Array.any_eq_true'] at ha
        obtain ⟨e, he, h2⟩ := ha
        simp only [Bool.and_eq_true, beq_iff_eq] at h2
        exact ⟨_, j, q, rfl, by rw [List.getElem?_eq_getElem hlt, hq], hd, e, he, h2.1, h2.2⟩
      · cases h
    · cases h
  · cases h

/-- One value, or none. -/
def Outs1 (K : Value → World → Prop) : Result Next → Prop
  | .ok (.value u) w' => K u w'
  | .ok .skip w' => K undef w'
  | _ => False

theorem Outs1.outs {P : Program} {K : Value → World → Prop} {r : Result Next} (h : Outs1 K r) : Outs P K r := by
  unfold Outs1 at h
  split at h
  · exact h
  · exact h
  · exact h.elim

theorem sets_len : ∀ (ks : List LD) (f : Fr), (sets ks f).m.length = f.m.length
  | [], f => rfl
  | q :: r, f => by
    simp only [sets]
    rw [sets_len r]
    split
    · simp [length_put]
    · rfl

theorem sets_old {t : Nat} : ∀ (ks : List LD) (f : Fr), (∀ q ∈ ks, ∀ v, q.d ≠ some (t, v)) → get (sets ks f).m t = get f.m t
  | [], f, _ => rfl
  | q :: r, f, h => by
    simp only [sets]
    rw [sets_old r _ fun q' hq' => h q' (List.mem_cons_of_mem _ hq')]
    split
    · rename_i d v hd
      simp only [get_put]
      rw [if_neg]
      rintro ⟨rfl, _⟩
      exact h q (List.mem_cons_self ..) v hd
    · rfl

theorem sets_get {t : Nat} {v : V} : ∀ (ks : List LD) (f : Fr), (∀ q ∈ ks, ∀ v', q.d = some (t, v') → v' = v) → t < f.m.length → ((∃ q ∈ ks, q.d = some (t, v)) ∨ get f.m t = some v) → get (sets ks f).m t = some v
  | [], f, _, _, h => by
    rcases h with ⟨q, hq, _⟩ | h
    · cases hq
    · exact h
  | q :: r, f, hv, hlt, h => by
    simp only [sets]
    refine sets_get r _ (fun q' hq' => hv q' (List.mem_cons_of_mem _ hq')) (by split <;> simp [length_put, hlt]) ?_
    by_cases hr : ∃ q' ∈ r, q'.d = some (t, v)
    · exact .inl hr
    · right
      split
      · rename_i d u hd
        simp only [get_put]
        by_cases e : t = d
        · subst e
          rw [if_pos ⟨rfl, hlt⟩, hv q (List.mem_cons_self ..) u hd]
        · rw [if_neg (fun hc => e hc.1)]
          rcases h with ⟨q', hq', h1⟩ | h
          · rcases List.mem_cons.1 hq' with rfl | hq'
            · rw [hd] at h1; cases h1; exact absurd rfl e
            · exact absurd ⟨q', hq', h1⟩ hr
          · exact h
      · rename_i hd
        rcases h with ⟨q', hq', h1⟩ | h
        · rcases List.mem_cons.1 hq' with rfl | hq'
          · rw [hd] at h1; cases h1
          · exact absurd ⟨q', hq', h1⟩ hr
        · exact h

theorem filterMap_some {α β : Type} (g : α → Option β) : ∀ l : List α, (l.filter fun x => (g x).isSome).filterMap g = l.filterMap g
  | [] => rfl
  | x :: l => by
    cases h : g x with
    | none => rw [List.filter_cons_of_neg (by simp [h]), filterMap_some g l, List.filterMap_cons_none h]
    | some y => rw [List.filter_cons_of_pos (by simp [h]), List.filterMap_cons_some h, List.filterMap_cons_some h, filterMap_some g l]

theorem filterMap_range {α β : Type} (g : α → Option β) : ∀ l : List α, (List.range l.length).filterMap (fun j => (l[j]?).bind g) = l.filterMap g
  | [] => rfl
  | x :: l => by
    rw [List.length_cons, List.range_succ_eq_map, List.filterMap_cons, List.filterMap_cons, List.filterMap_map]
    have := filterMap_range g l
    have e : ((fun j => ((x :: l)[j]?).bind g) ∘ Nat.succ) = fun j => (l[j]?).bind g := by funext j; simp
    rw [e, this]
    simp

/-- The literal: its operations, and what each comes to. -/
structure Lit (E : Env) (ops : List Oper) (f : Fr) (n : Nat) (ds : List Nat) (ks : List LD) (t0 kt vt : TypeId) (d0 : Nat) : Prop where
  len : ks.length = ops.length
  under : E.P.underlying t0 = some (.map kt vt)
  first : ∃ o, ops[0]? = some o ∧ o.op = .makeMap t0 none ∧ o.dst = some d0 ∧ o.guard = none
  first' : ks[0]? = some ⟨some (d0, .map n), none⟩
  d0in : ds.contains d0 = true
  step : ∀ i o, 0 < i → ops[i]? = some o → ∃ q, ks[i]? = some q ∧ litStep E n t0 kt ds f (ks.take i) o = some q

theorem litGo_spec {n : Nat} {t0 kt : TypeId} {ds : List Nat} {f : Fr} : ∀ (r : List Oper) (k0 ks : List LD), litGo E n t0 kt ds f r k0 = some ks →
    ks.length = k0.length + r.length ∧ ks.take k0.length = k0 ∧ ∀ i o, r[i]? = some o → ∃ q, ks[k0.length + i]? = some q ∧ litStep E n t0 kt ds f (ks.take (k0.length + i)) o = some q
  | [], k0, ks, h => by
    simp only [litGo, Option.some.injEq] at h
    subst h
    exact ⟨by simp, by simp, fun i o ho => by simp at ho⟩
  | o :: r, k0, ks, h => by
    simp only [litGo] at h
    split at h
    · rename_i q hq
      obtain ⟨h1, h2, h3⟩ := litGo_spec r (k0 ++ [q]) ks h
      simp only [List.length_append, List.length_cons, List.length_nil, Nat.zero_add] at h1 h2 h3
      have h4 : ks.take k0.length = k0 := by
        have := congrArg (List.take k0.length) h2
        rw [List.take_take, Nat.min_eq_left (by omega)] at this
        simpa using this
      have h5 : ks[k0.length]? = some q := by
        have := congrArg (·[k0.length]?) h2
        simp only [List.getElem?_take] at this
        rw [if_pos (by omega)] at this
        simpa using this
      refine ⟨by simp; omega, h4, fun i o' ho => ?_⟩
      cases i with
      | zero =>
        simp only [List.getElem?_cons_zero, Option.some.injEq] at ho
        subst ho
        exact ⟨q, h5, by rw [Nat.add_zero, h4]; exact hq⟩
      | succ i =>
        obtain ⟨q', h6, h7⟩ := h3 i o' (by simpa using ho)
        rw [show k0.length + 1 + i = k0.length + (i + 1) by omega] at h6 h7
        exact ⟨q', h6, h7⟩
    · cases h

namespace Lit
variable {ops : List Oper} {f : Fr} {n : Nat} {ds : List Nat} {ks : List LD} {t0 kt vt : TypeId} {d0 : Nat}

def kvOf (ks : List LD) (j : Nat) : Option (V × V) := (ks[j]?).bind (·.kv)

/-- Memory, when the entries 's' are laid; none: when there is no map yet. -/
def mem (H : List AObj) : Option (List (V × V)) → List AObj
  | none => H
  | some s => H ++ [.map (stamp s 0) s.length]

/-- What holds when the operations L are done: 'js' are those among them that laid an entry, in the order in which they were done. -/
structure Inv (E : Env) (N : Nat) (ρ0 : Nat → Loc) (w0 : World) (H : List AObj) (ks : List LD) (f : Fr) (L : Nat → Bool) (js : List Nat) (ρ : Nat → Loc) (fr : Fr) (a : Act) (w : World) : Prop where
  nodup : js.Nodup
  done : ∀ j, j ∈ js ↔ L j = true ∧ (kvOf ks j).isSome = true
  none0 : L 0 = false → js = []
  wr : WR E N ρ (mem H (if L 0 = true then some (js.filterMap (kvOf ks)) else none)) w
  goes : Goes H ρ0 w0 (mem H (if L 0 = true then some (js.filterMap (kvOf ks)) else none)) ρ w
  frr : FR (mem H (if L 0 = true then some (js.filterMap (kvOf ks)) else none)).length ρ fr a
  has : ∀ (j : Nat) (q : LD) (d : Nat) (v : V), L j = true → ks[j]? = some q → q.d = some (d, v) → get fr.m d = some v
  old : ∀ t, (∀ (j : Nat) (q : LD) (v : V), L j = true → ks[j]? = some q → q.d ≠ some (t, v)) → get fr.m t = get f.m t
  size : fr.m.length = f.m.length

theorem kv_mem {js : List Nat} {p : V × V} (h : p ∈ js.filterMap (kvOf ks)) : ∃ j q, j ∈ js ∧ ks[j]? = some q ∧ q.kv = some p := by
  obtain ⟨j, hj, h1⟩ := List.mem_filterMap.1 h
  unfold kvOf at h1
  obtain ⟨q, hq, h2⟩ := Option.bind_eq_some_iff.1 h1
  exact ⟨j, q, hj, hq, h2⟩


theorem stamp_mem {e : Ent} : ∀ {s : List (V × V)} {n : Nat}, e ∈ stamp s n → ∃ p ∈ s, ∃ b, e = ⟨p.1, p.2, b⟩
  | [], n, h => by simp [stamp] at h
  | (a, b) :: s, n, h => by
    simp only [stamp, List.mem_cons] at h
    rcases h with rfl | h
    · exact ⟨_, List.mem_cons_self .., _, rfl⟩
    · obtain ⟨p, hp, b, he⟩ := stamp_mem h
      exact ⟨p, List.mem_cons_of_mem _ hp, b, he⟩

theorem lays_of {q : LD} {d : Nat} {v : V} (h : q.d = some (d, v)) : LD.lays d q = true := by
  unfold LD.lays; rw [h]; simp

theorem fresh_of {i : Nat} {o : Oper} {q : LD} {d : Nat} {v : V} (h : litStep E n t0 kt ds f (ks.take i) o = some q) (hd : q.d = some (d, v)) :
    (ks.take i).any (LD.lays d) = false ∧ o.dst = some d ∧ ds.contains d = true ∧ litPure o.op = true ∧ q.kv = none ∧ o.guard = none ∧ ∃ H1, opV E (litFrame ds f (ks.take i) o) o ⟨[], 0, 0⟩ = some (.val v, H1) := by
  unfold litStep at h
  split at h
  · cases h
  · rename_i hg
    split at h
    · split at h
      · split at h
        · split at h
          · simp only [Option.some.injEq] at h
            subst h
            cases hd
          · cases h
        · cases h
      · cases h
    · rename_i d' hd'
      split at h
      · rename_i hc
        split at h
        · rename_i v' H1 hop
          simp only [Option.some.injEq] at h
          subst h
          simp only [Option.some.injEq, Prod.mk.injEq] at hd
          obtain ⟨rfl, rfl⟩ := hd
          exact ⟨hc.2.1, hd', hc.2.2, hc.1, rfl, by simpa using hg, H1, hop⟩
        · cases h
      · cases h

theorem distinct (T : Lit E ops f n ds ks t0 kt vt d0) {i j : Nat} {q q' : LD} {d : Nat} {v v' : V} (hi : ks[i]? = some q) (hj : ks[j]? = some q') (hd : q.d = some (d, v)) (hd' : q'.d = some (d, v')) : i = j := by
  have key : ∀ {i j : Nat} {q q' : LD} {v v' : V}, i < j → ks[i]? = some q → ks[j]? = some q' → q.d = some (d, v) → q'.d = some (d, v') → False := by
    intro i j q q' v v' hij hi hj hd hd'
    have hjl : j < ops.length := by rw [← T.len]; exact (List.getElem?_eq_some_iff.1 hj).1
    obtain ⟨q2, h1, h2⟩ := T.step j ops[j] (by omega) (List.getElem?_eq_getElem hjl)
    rw [hj] at h1
    cases h1
    have := (fresh_of h2 hd').1
    rw [List.any_eq_false] at this
    exact this q (List.mem_of_getElem? (by rw [List.getElem?_take, if_pos hij]; exact hi)) (lays_of hd)
  rcases Nat.lt_trichotomy i j with h | h | h
  · exact (key h hi hj hd hd').elim
  · exact h
  · exact (key h hj hi hd' hd).elim

theorem ins_of {i : Nat} {o : Oper} {q : LD} {p : V × V} (h : litStep E n t0 kt ds f (ks.take i) o = some q) (hq : q.kv = some p) :
    ∃ m k v, o.op = .insert t0 m k v ∧ o.dst = none ∧ o.guard = none ∧ (litFrame ds f (ks.take i) o).ev m = some (.map n) ∧ (litFrame ds f (ks.take i) o).ev k = some p.1 ∧ (litFrame ds f (ks.take i) o).ev v = some p.2 ∧ p.1.lt n = true ∧ p.2.lt n = true ∧ findK E.P kt p.1 [] = some none ∧
      (∀ (j : Nat) (q' : LD) (p' : V × V), j < i → ks[j]? = some q' → q'.kv = some p' → findK E.P kt p.1 [⟨p'.1, p'.2, 0⟩] = some none ∧ findK E.P kt p'.1 [⟨p.1, p.2, 0⟩] = some none) ∧ q = ⟨none, some p⟩ := by
  unfold litStep at h
  split at h
  · cases h
  · rename_i hg
    split at h
    · rename_i hdst
      split at h
      · rename_i t m k v hop
        split at h
        · rename_i n' k' v' h1 h2 h3
          split at h
          · rename_i hc
            obtain ⟨rfl, rfl, hkf, hvf, hnn, hall⟩ := hc
            simp only [Option.some.injEq] at h
            subst h
            simp only [Option.some.injEq] at hq
            subst hq
            refine ⟨m, k, v, hop, hdst, by simpa using hg, h1, h2, h3, hkf, hvf, isNN_eq hnn, fun j q' p' hj hq' hp' => ?_, rfl⟩
            have := List.all_eq_true.1 hall q' (List.mem_of_getElem? (by rw [List.getElem?_take, if_pos hj]; exact hq'))
            obtain ⟨a, b⟩ := p'
            rw [hp'] at this
            simp only [Bool.and_eq_true] at this
            exact ⟨isNN_eq this.1, isNN_eq this.2⟩
          · cases h
        · cases h
      · cases h
    · split at h
      · split at h
        · simp only [Option.some.injEq] at h
          subst h
          cases hq
        · cases h
      · cases h

/-- What an operation lays, or enters. -/
theorem kind_of {i : Nat} {o : Oper} {q : LD} (h : litStep E n t0 kt ds f (ks.take i) o = some q) : (∃ p, q.kv = some p) ∨ ∃ d v, q.d = some (d, v) := by
  unfold litStep at h
  split at h
  · cases h
  · split at h
    · split at h
      · split at h
        · split at h
          · simp only [Option.some.injEq] at h
            subst h
            exact .inl ⟨_, rfl⟩
          · cases h
        · cases h
      · cases h
    · split at h
      · split at h
        · simp only [Option.some.injEq] at h
          subst h
          exact .inr ⟨_, _, rfl⟩
        · cases h
      · cases h

theorem dsin (T : Lit E ops f n ds ks t0 kt vt d0) {j : Nat} {q : LD} {d : Nat} {v : V} (hq : ks[j]? = some q) (hd : q.d = some (d, v)) : ds.contains d = true := by
  rcases Nat.eq_zero_or_pos j with rfl | hj
  · rw [T.first'] at hq
    cases hq
    cases hd
    exact T.d0in
  · have hjl : j < ops.length := by rw [← T.len]; exact (List.getElem?_eq_some_iff.1 hq).1
    obtain ⟨q2, h1, h2⟩ := T.step j ops[j] hj (List.getElem?_eq_getElem hjl)
    rw [hq] at h1
    cases h1
    exact (fresh_of h2 hd).2.2.1

theorem apart (T : Lit E ops f n ds ks t0 kt vt d0) {i j : Nat} {q q' : LD} {p p' : V × V} (hij : i ≠ j) (hi : ks[i]? = some q) (hj : ks[j]? = some q') (hp : q.kv = some p) (hp' : q'.kv = some p') : findK E.P kt p.1 [⟨p'.1, p'.2, 0⟩] = some none := by
  have at0 : ∀ {i : Nat} {q : LD} {p : V × V}, ks[i]? = some q → q.kv = some p → 0 < i := by
    intro i q p hi hp
    rcases Nat.eq_zero_or_pos i with rfl | h
    · rw [T.first'] at hi
      simp only [Option.some.injEq] at hi
      subst hi
      cases hp
    · exact h
  rcases Nat.lt_or_gt_of_ne hij with h | h
  · have hjl : j < ops.length := by rw [← T.len]; exact (List.getElem?_eq_some_iff.1 hj).1
    obtain ⟨q2, h1, h2⟩ := T.step j ops[j] (at0 hj hp') (List.getElem?_eq_getElem hjl)
    rw [hj] at h1
    cases h1
    obtain ⟨_, _, _, _, _, _, _, _, _, _, _, _, hall, _⟩ := ins_of h2 hp'
    exact (hall i q p h hi hp).2
  · have hil : i < ops.length := by rw [← T.len]; exact (List.getElem?_eq_some_iff.1 hi).1
    obtain ⟨q2, h1, h2⟩ := T.step i ops[i] (at0 hi hp) (List.getElem?_eq_getElem hil)
    rw [hi] at h1
    cases h1
    obtain ⟨_, _, _, _, _, _, _, _, _, _, _, _, hall, _⟩ := ins_of h2 hp
    exact (hall j q' p' h hj hp').1

theorem put0 {L : Nat → Bool} {i : Nat} (h : 0 < i) : DT.put L i 0 = L 0 := by simp [DT.put, show (0 : Nat) ≠ i by omega]

/-- A value is laid. -/
theorem Inv.lay {ρ0 : Nat → Loc} {w0 : World} {L : Nat → Bool} {js js' : List Nat} {fr : Fr} {a : Act} (T : Lit E ops f n ds ks t0 kt vt d0) (hr : ∀ (q : LD) (d : Nat) (v : V), q ∈ ks → q.d = some (d, v) → d < f.m.length)
    (h : Inv E N ρ0 w0 H ks f L js ρ fr a w) {i : Nat} {q : LD} (hq : ks[i]? = some q) {d : Nat} {v : V} (hd : q.d = some (d, v))
    (hn : js'.Nodup) (hdone : ∀ j, j ∈ js' ↔ DT.put L i j = true ∧ (kvOf ks j).isSome = true) (h0 : DT.put L i 0 = false → js' = [])
    (hw : WR E N ρ' (mem H (if DT.put L i 0 = true then some (js'.filterMap (kvOf ks)) else none)) w')
    (hg : Goes (mem H (if L 0 = true then some (js.filterMap (kvOf ks)) else none)) ρ w (mem H (if DT.put L i 0 = true then some (js'.filterMap (kvOf ks)) else none)) ρ' w')
    (hlt : v.lt (mem H (if DT.put L i 0 = true then some (js'.filterMap (kvOf ks)) else none)).length = true) :
    Inv E N ρ0 w0 H ks f (DT.put L i) js' ρ' ⟨put fr.m d v⟩ (a.put (some d) (v.emb ρ')) w' := by
  have hdl := hr q d v (List.mem_of_getElem? hq) hd
  have hset : fr.set (some d) v = some ⟨put fr.m d v⟩ := rfl
  refine ⟨hn, hdone, h0, hw, h.goes.trans hg, (h.frr.mono hg.len hg.ext).set hlt hset, ?_, ?_, ?_⟩
  · intro j q' d' v' hLj hq' hd'
    simp only [get_put]
    by_cases e : j = i
    · subst e
      rw [hq] at hq'
      cases hq'
      rw [hd] at hd'
      cases hd'
      rw [if_pos ⟨rfl, by rw [h.size]; exact hdl⟩]
    · have hne : ¬ (d' = d ∧ d < fr.m.length) := fun hc => e (distinct T hq' hq hd' (by rw [hc.1]; exact hd))
      rw [if_neg hne]
      exact h.has j q' d' v' (by simpa [DT.put, e] using hLj) hq' hd'
  · intro t ht
    simp only [get_put]
    have hne : ¬ (t = d ∧ d < fr.m.length) := fun hc => ht i q v (by simp [DT.put]) hq (by rw [hc.1]; exact hd)
    rw [if_neg hne]
    exact h.old t fun j q' v' hLj hq' => ht j q' v' (by simp only [DT.put]; split <;> first | rfl | exact hLj) hq'
  · rw [length_put]; exact h.size

theorem Inv.step (ok : E.Ok) {ρ0 : Nat → Loc} {w0 : World} {L : Nat → Bool} {js : List Nat} {fr : Fr} {a : Act} (T : Lit E ops f H.length ds ks t0 kt vt d0) (hr : ∀ (q : LD) (d : Nat) (v : V), q ∈ ks → q.d = some (d, v) → d < f.m.length)
    (h : Inv E N ρ0 w0 H ks f L js ρ fr a w) {i : Nat} {o : Oper} (ho : ops[i]? = some o) (hL : L i = false) (hpre : ∀ e ∈ o.after, Region.binds .any e = true → L e.on = true) :
    o.guard = none ∧ Outs1 (fun u w' => ∃ js' ρ' fr', Inv E N ρ0 w0 H ks f (DT.put L i) js' ρ' fr' (a.put o.dst u) w') ((execOp a.eval o).run E.P w) := by
  have look : ∀ x v, (litFrame ds f (ks.take i) o).ev x = some v → fr.ev x = some v := by
    intro x v hx
    cases x with
    | tmp t =>
      simp only [Fr.ev, litFrame, get_range] at hx ⊢
      split at hx
      · split at hx
        · obtain ⟨t', j, q, ht, hj, hd, e, he, hb, rfl⟩ := litSee_spec hx
          cases ht
          rw [List.getElem?_take] at hj
          split at hj
          · exact h.has _ q t v (hpre e he hb) hj hd
          · cases hj
        · rename_i hds
          rw [h.old t fun j q v' _ hq hd => hds (dsin T hq hd)]
          exact hx
      · cases hx
    | const c => exact hx
    | global g => exact hx
    | func g => exact hx
  rcases Nat.eq_zero_or_pos i with rfl | hi
  · obtain ⟨o', ho', hop, hdst, hg⟩ := T.first
    rw [ho] at ho'
    cases ho'
    refine ⟨hg, ?_⟩
    have hM : mem H (if L 0 = true then some (js.filterMap (kvOf ks)) else none) = H := by rw [if_neg (by simp [hL])]; rfl
    have hwr := h.wr
    have hfr := h.frr
    rw [hM] at hwr hfr
    have hop' : opV E fr o ⟨H, 0, 0⟩ = some (.val (.map H.length), ⟨H ++ [.map [] 0], 0, 0⟩) := by
      unfold opV
      rw [hop]
      rfl
    have hres := opV_run ok hwr hfr hop'
    generalize (execOp a.eval o) = s at hres
    have hjs := h.none0 hL
    cases hres with
    | val ρ' w1 h1 h2 h3 h4 =>
      rw [h1]
      simp only [Outs1, hdst]
      have hM' : mem H (if DT.put L 0 0 = true then some (([] : List Nat).filterMap (kvOf ks)) else none) = H ++ [.map [] 0] := by simp [DT.put, mem, stamp]
      refine ⟨[], ρ', _, h.lay T hr T.first' rfl List.nodup_nil (fun j => ?_) (fun h0 => by simp [DT.put] at h0) (by rw [hM']; exact h2) (by rw [hM, hM']; exact h3) (by rw [hM']; exact h4)⟩
      by_cases e : j = 0
      · subst e
        simp [kvOf, T.first']
      · have := h.done j
        rw [hjs] at this
        simp only [DT.put, e, if_false]
        exact this
  · obtain ⟨q, hq, hst⟩ := T.step i o hi ho
    have same : DT.put L i 0 = L 0 := put0 hi
    have keep : ∀ {d : Nat} {v : V}, q.kv = none → q.d = some (d, v) → (∃ wr esc, opV E fr o ⟨mem H (if L 0 = true then some (js.filterMap (kvOf ks)) else none), 0, 0⟩ = some (.val v, ⟨mem H (if L 0 = true then some (js.filterMap (kvOf ks)) else none), wr, esc⟩)) →
        Outs1 (fun u w' => ∃ js' ρ' fr', Inv E N ρ0 w0 H ks f (DT.put L i) js' ρ' fr' (a.put o.dst u) w') ((execOp a.eval o).run E.P w) := by
      intro d v hkv hd ⟨wr, esc, hop⟩
      have hres := opV_run ok h.wr h.frr hop
      generalize (execOp a.eval o) = s at hres
      cases hres with
      | val ρ' w1 h1 h2 h3 h4 =>
        rw [h1, (fresh_of hst hd).2.1]
        simp only [Outs1]
        refine ⟨js, ρ', _, h.lay T hr hq hd h.nodup (fun j => ?_) (fun h0 => h.none0 (by rwa [same] at h0)) (by rw [same]; exact h2) (by rw [same]; exact h3) (by rw [same]; exact h4)⟩
        rw [h.done j]
        by_cases e : j = i
        · subst e
          simp [hL, kvOf, hq, hkv]
        · simp [DT.put, e]
    cases hkv : q.kv with
    | some p =>
      obtain ⟨m, k, v, hop, hdst, hg, hm, hk, hv, hkf, hvf, hnn, hall, hqe⟩ := ins_of hst hkv
      refine ⟨hg, ?_⟩
      have hm' := look m _ hm
      have hk' := look k _ hk
      have hv' := look v _ hv
      -- the map is there
      have hL0 : L 0 = true := by
        cases hL0 : L 0 with
        | true => rfl
        | false =>
          exfalso
          have h1 := (h.frr.ev hm').1
          rw [if_neg (by simp [hL0])] at h1
          simp [mem] at h1
      let s := js.filterMap (kvOf ks)
      have hM : mem H (if L 0 = true then some (js.filterMap (kvOf ks)) else none) = H ++ [.map (stamp s 0) s.length] := by rw [if_pos hL0]; rfl
      have hfk : findK E.P kt p.1 (stamp s 0) = some none := by
        refine findK_none hnn fun e he => ?_
        obtain ⟨p', hp', b, rfl⟩ := stamp_mem he
        obtain ⟨j, q', hj, hq', hp2⟩ := kv_mem hp'
        have hne : i ≠ j := fun e => by subst e; have := ((h.done i).1 hj).1; rw [hL] at this; cases this
        exact findK_born (apart T hne hq hq' hkv hp2)
      have hop' : opV E fr o ⟨mem H (if L 0 = true then some (js.filterMap (kvOf ks)) else none), 0, 0⟩ = some (.skip, ⟨H ++ [.map (stamp (s ++ [p]) 0) (s.length + 1)], 0, 0⟩) := by
        unfold opV
        rw [hop]
        simp only [hm', hk', hv']
        unfold mapSetV
        rw [T.under]
        simp only [hM, List.getElem?_concat_length, hfk, Hp.write, Option.map_some]
        rw [List.set_append_right _ _ (Nat.le_refl _)]
        obtain ⟨p1, p2⟩ := p
        rw [stamp_append]
        simp
      have hres := opV_run ok h.wr h.frr hop'
      generalize (execOp a.eval o) = sm at hres
      cases hres with
      | skip w1 h1 h2 h3 =>
        rw [h1, hdst]
        simp only [Outs1]
        have hi' : i ∉ js := fun hm => by have := ((h.done i).1 hm).1; rw [hL] at this; cases this
        have hM' : mem H (if DT.put L i 0 = true then some ((js ++ [i]).filterMap (kvOf ks)) else none) = H ++ [.map (stamp (s ++ [p]) 0) (s.length + 1)] := by
          rw [same, if_pos hL0, List.filterMap_append]
          have : [i].filterMap (kvOf ks) = [p] := by simp [kvOf, hq, hkv]
          rw [this]
          simp [mem, s]
        have hqd : q.d = none := by rw [hqe]
        refine ⟨js ++ [i], ρ, fr, ?_, fun j => ?_, fun h0 => ?_, by rw [hM']; exact h2, by rw [hM']; exact h.goes.trans h3, ?_, ?_, ?_, h.size⟩
        · rw [List.nodup_append]
          exact ⟨h.nodup, by simp, fun a ha b hb e => by simp at hb; subst hb; subst e; exact hi' ha⟩
        · rw [List.mem_append, h.done j]
          by_cases e : j = i
          · subst e
            simp [DT.put, kvOf, hq, hkv]
          · simp [DT.put, e]
        · rw [same, hL0] at h0; cases h0
        · rw [hM']
          have := h.frr
          rw [hM] at this
          have e : (H ++ [AObj.map (stamp (s ++ [p]) 0) (s.length + 1)]).length = (H ++ [AObj.map (stamp s 0) s.length]).length := by simp
          rw [e]
          exact this
        · intro j q' d v hLj hq' hd
          have hne : j ≠ i := fun e => by subst e; rw [hq] at hq'; cases hq'; rw [hqd] at hd; cases hd
          exact h.has j q' d v (by simpa [DT.put, hne] using hLj) hq' hd
        · intro t ht
          exact h.old t fun j q' v' hLj hq' => ht j q' v' (by simp only [DT.put]; split <;> first | rfl | exact hLj) hq'
    | none =>
      rcases kind_of hst with ⟨p, hp⟩ | ⟨d, v, hd⟩
      · rw [hkv] at hp; cases hp
      · obtain ⟨_, _, _, hpure, _, hg, H1, hop⟩ := fresh_of hst hd
        exact ⟨hg, keep hkv hd ⟨0, 0, litPure_run hpure look hop _⟩⟩


theorem Inv.init (hw : WR E N ρ H w) {a : Act} (hf : FR H.length ρ f a) : Inv E N ρ w H ks f (fun _ => false) [] ρ f a w :=
  ⟨List.nodup_nil, fun j => by simp, fun _ => rfl, hw, Goes.refl _ _ _, hf, fun _ _ _ _ h => (by cases h), fun _ _ => rfl, rfl⟩

/-- All are done. -/
theorem Inv.all {ρ0 : Nat → Loc} {w0 : World} {L : Nat → Bool} {js : List Nat} {fr : Fr} {a : Act} (T : Lit E ops f H.length ds ks t0 kt vt d0) (hr : ∀ (q : LD) (d : Nat) (v : V), q ∈ ks → q.d = some (d, v) → d < f.m.length)
    (h : Inv E N ρ0 w0 H ks f L js ρ fr a w) (hL : ∀ i, i < ops.length → L i = true) {as : List (List Ent × Nat)} (has : as = (perms (ks.filterMap (·.kv))).map fun s => (stamp s 0, s.length)) :
    FR (H ++ [AObj.alts as]).length ρ (sets ks f) a ∧ WR E N ρ (H ++ [.alts as]) w ∧ Goes H ρ0 w0 (H ++ [.alts as]) ρ w := by
  have hpos : 0 < ops.length := by
    obtain ⟨o, ho, _⟩ := T.first
    exact (List.getElem?_eq_some_iff.1 ho).1
  have h0 := hL 0 hpos
  have hM : mem H (if L 0 = true then some (js.filterMap (kvOf ks)) else none) = H ++ [.map (stamp (js.filterMap (kvOf ks)) 0) (js.filterMap (kvOf ks)).length] := by rw [if_pos h0]; rfl
  have hwr := h.wr
  have hgo := h.goes
  have hfr := h.frr
  rw [hM] at hwr hgo hfr
  have hperm : (js.filterMap (kvOf ks)).Perm (ks.filterMap (·.kv)) := by
    rw [← filterMap_range (fun q : LD => q.kv) ks, ← filterMap_some _ (List.range ks.length)]
    refine List.Perm.filterMap _ ((List.perm_ext_iff_of_nodup h.nodup (List.Pairwise.filter _ List.nodup_range)).2 fun j => ?_)
    rw [h.done j, List.mem_filter, List.mem_range]
    constructor
    · rintro ⟨_, h2⟩
      refine ⟨?_, h2⟩
      unfold kvOf at h2
      by_cases hlt : j < ks.length
      · exact hlt
      · rw [List.getElem?_eq_none (by omega)] at h2; cases h2
    · rintro ⟨h1, h2⟩
      exact ⟨hL j (by rw [← T.len]; exact h1), h2⟩
  have hin : (stamp (js.filterMap (kvOf ks)) 0, (js.filterMap (kvOf ks)).length) ∈ as := by
    rw [has]
    exact List.mem_map.2 ⟨_, mem_perms _ _ hperm, rfl⟩
  have hflat : ∀ v ∈ (AObj.alts as).vals, v.lt H.length = true := by
    intro v hv
    simp only [AObj.vals, List.mem_flatMap] at hv
    obtain ⟨p, hp, hv⟩ := hv
    rw [has] at hp
    obtain ⟨s, hs, rfl⟩ := List.mem_map.1 hp
    obtain ⟨x, hx, hvx⟩ := stamp_vals hv
    have hsp : s.Perm (ks.filterMap (·.kv)) := perms_perm _ _ hs
    obtain ⟨q, hq, hqk⟩ := List.mem_filterMap.1 (hsp.mem_iff.1 hx)
    obtain ⟨j, hj⟩ := List.mem_iff_getElem?.1 hq
    have hj0 : 0 < j := by
      rcases Nat.eq_zero_or_pos j with rfl | h
      · rw [T.first'] at hj; cases hj; cases hqk
      · exact h
    have hjl : j < ops.length := by rw [← T.len]; exact (List.getElem?_eq_some_iff.1 hj).1
    obtain ⟨q2, h1, h2⟩ := T.step j ops[j] hj0 (List.getElem?_eq_getElem hjl)
    rw [hj] at h1
    cases h1
    obtain ⟨_, _, _, _, _, _, _, _, _, hkf, hvf, _⟩ := ins_of h2 hqk
    rcases hvx with rfl | rfl
    · exact hkf
    · exact hvf
  have get2 : ∀ (k : Nat) (o : AObj), (H ++ [.alts as])[k]? = some o → (k < H.length ∧ H[k]? = some o) ∨ (k = H.length ∧ o = .alts as) := by
    intro k o hk
    by_cases hlt : k < H.length
    · rw [List.getElem?_append_left hlt] at hk; exact .inl ⟨hlt, hk⟩
    · rw [List.getElem?_append_right (by omega)] at hk
      have : k - H.length = 0 := by
        have := (List.getElem?_eq_some_iff.1 hk).1
        simp at this
        omega
      rw [this] at hk
      simp only [List.getElem?_cons_zero, Option.some.injEq] at hk
      exact .inr ⟨by omega, hk.symm⟩
  have back : ∀ (k : Nat) (o : AObj), (H ++ [.alts as])[k]? = some o → o.own = true → ∃ o', (H ++ [.map (stamp (js.filterMap (kvOf ks)) 0) (js.filterMap (kvOf ks)).length])[k]? = some o' ∧ o'.own = true := by
    intro k o hk ho
    rcases get2 k o hk with ⟨hlt, hk'⟩ | ⟨rfl, rfl⟩
    · exact ⟨o, by rw [List.getElem?_append_left hlt]; exact hk', ho⟩
    · exact ⟨_, List.getElem?_concat_length, rfl⟩
  refine ⟨⟨hfr.defers, by rw [hfr.size, sets_len, h.size], fun t v hv => ?_⟩, ⟨hwr.low, fun k o hk => ?_, fun k o hk => ?_, fun k k' o o' hk hk' ho ho' hne => ?_, hwr.globs⟩, ⟨hgo.os, hgo.tape, hgo.output, hgo.size, hgo.same, fun b hb ⟨k, o, hk, ho, he⟩ => ?_, hgo.ext, by simp⟩⟩
  · have : get fr.m t = some v := by
      by_cases hex : ∃ q ∈ ks, ∃ v', q.d = some (t, v')
      · obtain ⟨q, hq, v', hd⟩ := hex
        obtain ⟨j, hj⟩ := List.mem_iff_getElem?.1 hq
        have hjl : j < ops.length := by rw [← T.len]; exact (List.getElem?_eq_some_iff.1 hj).1
        have h1 := h.has j q t v' (hL j hjl) hj hd
        have h2 := sets_get (t := t) (v := v') ks f (fun q' hq' v2 hd' => by
          obtain ⟨j', hj'⟩ := List.mem_iff_getElem?.1 hq'
          have := distinct T hj hj' hd hd'
          subst this
          rw [hj] at hj'
          cases hj'
          rw [hd] at hd'
          cases hd'
          rfl) (hr q t v' hq hd) (.inl ⟨q, hq, hd⟩)
        rw [h2] at hv
        rw [h1]
        exact hv
      · rw [sets_old ks f (fun q hq v' hd => hex ⟨q, hq, v', hd⟩)] at hv
        rw [h.old t fun j q v' _ hj hd => hex ⟨q, List.mem_of_getElem? hj, v', hd⟩]
        exact hv
    have := hfr.val t v this
    simpa using this
  · rcases get2 k o hk with ⟨hlt, hk'⟩ | ⟨rfl, rfl⟩
    · have := hwr.vals k o (by rw [List.getElem?_append_left hlt]; exact hk')
      simpa using this
    · exact fun v hv => lt_mono (by simp) (hflat v hv)
  · rcases get2 k o hk with ⟨hlt, hk'⟩ | ⟨rfl, rfl⟩
    · exact hwr.objs k o (by rw [List.getElem?_append_left hlt]; exact hk')
    · have := hwr.objs H.length _ List.getElem?_concat_length
      exact ⟨⟨_, hin, this.1⟩, this.2⟩
  · obtain ⟨o1, h1, h2⟩ := back k o hk ho
    obtain ⟨o2, h3, h4⟩ := back k' o' hk' ho'
    exact hwr.inj k k' o1 o2 h1 h3 h2 h4 hne
  · obtain ⟨o1, h1, h2⟩ := back k o hk ho
    exact hgo.owned b hb ⟨k, o1, h1, h2, he⟩


/-- In the order of the text. -/
theorem inText (ok : E.Ok) (T : Lit E ops f H.length ds ks t0 kt vt d0) (hr : ∀ (q : LD) (d : Nat) (v : V), q ∈ ks → q.d = some (d, v) → d < f.m.length)
    (hedge : ∀ j o, ops[j]? = some o → ∀ e ∈ o.after, Region.binds .any e = true → e.on < j) (hw : WR E N ρ H w) {a : Act} (hf : FR H.length ρ f a) :
    ∀ i, i ≤ ops.length → ∃ js ρ' fr a' w', Inv E N ρ w H ks f (fun j => decide (j < i)) js ρ' fr a' w' := by
  intro i
  induction i with
  | zero =>
    intro _
    refine ⟨[], ρ, f, a, w, ?_⟩
    have e : (fun j => decide (j < 0)) = fun _ => false := by funext j; simp
    rw [e]
    exact Inv.init hw hf
  | succ i ih =>
    intro hi
    obtain ⟨js, ρ1, fr, a1, w1, h⟩ := ih (by omega)
    have ho : ops[i]? = some ops[i] := List.getElem?_eq_getElem (by omega)
    obtain ⟨_, hs⟩ := h.step ok T hr ho (by simp) (fun e he hb => by simpa using hedge i _ ho e he hb)
    have e : DT.put (fun j => decide (j < i)) i = fun j => decide (j < i + 1) := by
      funext j
      simp only [DT.put]
      by_cases h1 : j = i
      · simp [h1]
      · simp only [h1, if_false]
        congr 1
        exact propext (by omega)
    rw [e] at hs
    unfold Outs1 at hs
    split at hs
    · obtain ⟨js', ρ', fr', h'⟩ := hs
      exact ⟨js', ρ', fr', _, _, h'⟩
    · obtain ⟨js', ρ', fr', h'⟩ := hs
      exact ⟨js', ρ', fr', _, _, h'⟩
    · exact hs.elim

theorem any (ok : E.Ok) {ρ0 : Nat → Loc} {w0 : World} (T : Lit E ops f H.length ds ks t0 kt vt d0) (hr : ∀ (q : LD) (d : Nat) (v : V), q ∈ ks → q.d = some (d, v) → d < f.m.length)
    (hedge : ∀ j o, ops[j]? = some o → ∀ e ∈ o.after, Region.binds .any e = true → e.on < j) {Q : Exit → Act → World → Prop}
    (hQ : ∀ js ρ fr a w (L : Nat → Bool), Inv E N ρ0 w0 H ks f L js ρ fr a w → (∀ i, i < ops.length → L i = true) → Q .normal a w) :
    ∀ (fuel : Nat) (listed : Array Bool) (js : List Nat) (ρ : Nat → Loc) (fr : Fr) (a : Act) (w : World), listed.size = ops.length → ops.length ≤ listed.toList.count true + fuel → Inv E N ρ0 w0 H ks f (fun j => listed.getD j false) js ρ fr a w →
      wpAny E.P .any ops.toArray Q fuel listed a w := by
  have nothing : ∀ (listed : Array Bool), listed.size = ops.length → Region.ready .any ops.toArray listed = [] → ∀ i, i < ops.length → listed.getD i false = true := by
    intro listed hs hr i
    induction i using Nat.strongRecOn with
    | _ i ih =>
      intro hi
      cases hli : listed.getD i false with
      | true => rfl
      | false =>
        exfalso
        have : i ∈ Region.ready .any ops.toArray listed := by
          rw [mem_ready]
          refine ⟨?_, ops[i], by simp [hi], fun e he hb => ?_⟩
          · have : i < listed.size := by omega
            simp only [Array.getD_eq_getD_getElem?, Array.getElem?_eq_getElem this, Option.getD_some] at hli ⊢
            exact hli
          · have := hedge i ops[i] (List.getElem?_eq_getElem hi) e he hb
            exact ih e.on this (by omega)
        rw [hr] at this
        cases this
  intro fuel
  induction fuel with
  | zero =>
    intro listed js ρ fr a w hs hc h
    have hall : ∀ b ∈ listed.toList, true = b := List.count_eq_length.1 (by
      have := List.count_le_length (a := true) (l := listed.toList)
      simp only [Array.length_toList] at this ⊢
      omega)
    have hall' : ∀ i, i < ops.length → listed.getD i false = true := by
      intro i hi
      have hlt : i < listed.size := by omega
      have := hall listed[i] (by simp)
      simp [Array.getD_eq_getD_getElem?, hlt, ← this]
    refine ⟨?_, hQ _ _ _ _ _ _ h hall'⟩
    cases hr : Region.ready .any ops.toArray listed with
    | nil => rfl
    | cons x xs =>
      have hx : x ∈ Region.ready .any ops.toArray listed := by rw [hr]; simp
      obtain ⟨h1, o, ho, _⟩ := mem_ready.1 hx
      have hxl : x < ops.length := by have := (Array.getElem?_eq_some_iff.1 ho).1; simpa using this
      have h2 := hall' x hxl
      have : x < listed.size := by omega
      simp only [Array.getD_eq_getD_getElem?, Array.getElem?_eq_getElem this, Option.getD_some] at h1 h2
      rw [h1] at h2; cases h2
  | succ fuel ih =>
    intro listed js ρ fr a w hs hc h
    refine ⟨fun hr => hQ _ _ _ _ _ _ h (nothing listed hs hr), fun i hi => ?_⟩
    obtain ⟨h1, o, ho, hall⟩ := mem_ready.1 hi
    have ho' : ops[i]? = some o := by simpa using ho
    have hil : i < ops.length := (List.getElem?_eq_some_iff.1 ho').1
    have hsl : i < listed.size := by omega
    have hun : listed.getD i false = false := by
      simp only [Array.getD_eq_getD_getElem?, Array.getElem?_eq_getElem hsl, Option.getD_some] at h1 ⊢
      exact h1
    obtain ⟨hg, hstep⟩ := h.step ok T hr ho' hun hall
    unfold wpOp
    rw [ho]
    simp only
    rw [if_pos (by simp [Region.wanted, hg])]
    left
    refine hstep.outs.upon fun u w' ⟨js', ρ', fr', h'⟩ => ?_
    refine ih _ js' ρ' fr' _ w' (by simpa using hs) ?_ ?_
    · rw [Array.toList_setIfInBounds, List.count_set (by simpa using hsl)]
      have hb : listed.toList[i]'(by simpa using hsl) = false := by
        simp only [Array.getD_eq_getD_getElem?, Array.getElem?_eq_getElem hsl, Option.getD_some] at hun
        simpa using hun
      simp only [hb]
      have e0 : ((false == true) = true) = False := by simp
      have e1 : ((true == true) = true) = True := by simp
      simp only [e0, e1, if_false, if_true]
      omega
    · have : (fun j => (listed.setIfInBounds i true).getD j false) = DT.put (fun j => listed.getD j false) i := by
        funext j
        by_cases e : j = i
        · subst e; simp [DT.put, hsl]
        · simp only [DT.put, e, if_false]
          exact getD_set_ne false (Ne.symm e)
      rw [this]
      exact h'

end Lit

/-- The literal of a map, as the evaluator has it. -/
theorem evLit_run (ok : E.Ok) {id : Nat} {ops : Array Oper} (hB : drawnOk ops.toList = true) {f f' : Fr} {H H' : Hp} {a : Act} (hw : WR E N ρ H.objs w) (hf : FR H.objs.length ρ f a)
    (h : evLit E ops.toList f H = some (f', H')) :
    (Mono H H' ∧ Reach E N ρ H.objs w f' H') ∧ ∀ {Q : Exit → Act → World → Prop}, Ends E N ρ H.objs w (Q .normal) f' H' → (Code.region id ops true).wp E.P Q a w := by
  have hedge : ∀ j o, ops.toList[j]? = some o → ∀ e ∈ o.after, Region.binds .any e = true → e.on < j := fun j o ho => by
    have := (drawnOk_facts ops.toList 0 hB j o ho).2.1
    simpa using this
  unfold evLit at h
  split at h
  · rename_i o r hops
    split at h
    · rename_i t0 d0 hop hdst hg
      split at h
      · rename_i kt vt hu
        split at h
        · rename_i ks hgo
          split at h
          · rename_i hrange
            simp only [Option.some.injEq, Prod.mk.injEq] at h
            obtain ⟨rfl, rfl⟩ := h
            obtain ⟨h1, h2, h3⟩ := litGo_spec r _ ks hgo
            simp only [List.length_cons, List.length_nil, Nat.zero_add] at h1 h2 h3
            have T : Lit E ops.toList f H.objs.length (ops.toList.filterMap (·.dst)) ks t0 kt vt d0 := by
              refine ⟨by rw [h1, hops, List.length_cons]; omega, hu, ⟨o, by rw [hops]; rfl, hop, hdst, hg⟩, ?_, by rw [hops, List.filterMap_cons_some hdst]; simp, fun i o' hi ho' => ?_⟩
              · have := congrArg (·[0]?) h2
                simp only [List.getElem?_take] at this
                simpa using this
              · rw [hops] at ho'
                obtain ⟨j, rfl⟩ : ∃ j, i = j + 1 := ⟨i - 1, by omega⟩
                obtain ⟨q, h4, h5⟩ := h3 j o' (by simpa using ho')
                rw [Nat.add_comm] at h4 h5
                exact ⟨q, h4, h5⟩
            have hr : ∀ (q : LD) (d : Nat) (v : V), q ∈ ks → q.d = some (d, v) → d < f.m.length := by
              intro q d v hq hd
              have := List.all_eq_true.1 hrange q hq
              rw [hd] at this
              simpa using this
            refine ⟨⟨Mono.new H _, ?_⟩, fun {Q} hQ => ?_⟩
            · obtain ⟨js, ρ', fr, a', w', hI⟩ := Lit.inText ok T hr hedge hw hf ops.toList.length (Nat.le_refl _)
              obtain ⟨e1, e2, e3⟩ := hI.all T hr (fun i hi => by simpa using hi) rfl
              exact ⟨ρ', a', w', e1, e2, e3⟩
            · refine wp_region_any ok.mixed ?_
              have hw1 : WR E N ρ H.objs { w with drawn := w.drawn + 1 } := hw.drawn rfl
              refine Lit.any (N := N) (ρ0 := ρ) (w0 := { w with drawn := w.drawn + 1 }) ok T hr hedge (fun js ρ' fr a' w' L hI hL => ?_) _ _ [] ρ f a _ (by simp) (by simp) ?_
              · obtain ⟨e1, e2, e3⟩ := hI.all T hr hL rfl
                exact hQ ρ' a' w' e1 e2 ⟨e3.os, e3.tape, e3.output, e3.size, e3.same, e3.owned, e3.ext, e3.len⟩
              · have : (fun j => (Array.replicate ops.toList.toArray.size false).getD j false) = fun _ => false := by
                  funext j
                  simp [Array.getD_eq_getD_getElem?]
                  by_cases h : j < ops.size <;> simp [h]
                rw [this]
                exact Lit.Inv.init hw1 hf
          · cases h
        · cases h
      · cases h
    · cases h
  · cases h
end Go.Am
