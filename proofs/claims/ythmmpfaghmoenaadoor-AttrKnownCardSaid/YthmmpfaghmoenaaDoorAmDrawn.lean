/-
  A region that draws its order, whose operations may turn memory: what the order as it stands in the text comes to, each order comes to, if operations that are not ordered have nothing to do with each other.
-/
import Derived.Test.YthmmpfaghmoenaaDoorAmSound
import Derived.Orders
namespace Go.Am
open Go

variable {E : Env} {N : Nat} {ρ ρ' : Nat → Loc} {H : List AObj} {w w' : World}

def maskL (p : Nat → Bool) (H : List AObj) : List AObj := H.mapIdx fun k o => if p k then o else .dead

theorem get_maskL (p : Nat → Bool) (H : List AObj) (k : Nat) : (maskL p H)[k]? = (H[k]?).map fun o => if p k then o else .dead := by
  simp [maskL, List.getElem?_mapIdx]
@[simp] theorem len_maskL (p : Nat → Bool) (H : List AObj) : (maskL p H).length = H.length := by simp [maskL]

theorem WR.sub (h : WR E N ρ H w) (H2 : List AObj) (hs : ∀ (k : Nat) (o : AObj), H2[k]? = some o → o = .dead ∨ H[k]? = some o) (hv : ∀ (k : Nat) (o : AObj), H2[k]? = some o → ltL H2.length o.vals) : WR E N ρ H2 w := by
  refine ⟨h.low, hv, fun k o hk => ?_, fun k k' o o' hk hk' ho ho' hne => ?_, h.globs⟩
  · rcases hs k o hk with rfl | h1
    · trivial
    · exact h.objs k o h1
  · rcases hs k o hk with rfl | h1
    · cases ho
    · rcases hs k' o' hk' with rfl | h2
      · cases ho'
      · exact h.inj k k' o o' h1 h2 ho ho' hne

theorem OR.congr {P : Program} {l : Loc} {o : AObj} {n : Nat} (h : OR P N ρ w l o) (hv : ltL n o.vals) (he : ∀ k, k < n → ρ' k = ρ k) : OR P N ρ' w l o := h.kept hv he rfl

theorem emb_all {p : Nat → Bool} {v : V} (h : v.all p = true) {ρ ρ' : Nat → Loc} (he : ∀ k, p k = true → ρ' k = ρ k) : v.emb ρ' = v.emb ρ := emb_congr ρ ρ' p he v h

/-- An object that is not touched, by the blocks that it names. -/
theorem OR.keptP {P : Program} {p : Nat → Bool} {l : Loc} {o : AObj} (h : OR P N ρ w l o) (hv : ∀ v ∈ o.vals, v.all p = true) (he : ∀ k, p k = true → ρ' k = ρ k)
    (hb : w'.heap[l.block]? = w.heap[l.block]?) : OR P N ρ' w' l o := by
  cases o with
  | cells cs e m fz =>
    obtain ⟨h1, C, z, hC, hcs, hm⟩ := h
    exact ⟨h1, C, z, hb.trans hC, fun i v hi => by rw [hcs i v hi, emb_all (hv v (List.mem_of_getElem? hi)) he], hm⟩
  | map es c =>
    refine ⟨?_, h.2⟩
    rw [hb, h.1]
    congr 2
    refine congrArg List.toArray (List.map_congr_left fun e hm => ?_)
    have hk := hv e.key (List.mem_append.2 (.inl (List.mem_map.2 ⟨e, hm, rfl⟩)))
    have hw := hv e.val (List.mem_append.2 (.inr (List.mem_map.2 ⟨e, hm, rfl⟩)))
    simp [Ent.emb, emb_all hk he, emb_all hw he]
  | alts as =>
    obtain ⟨⟨q, hq, h1⟩, h2⟩ := h
    refine ⟨⟨q, hq, ?_⟩, h2⟩
    rw [hb, h1]
    congr 2
    refine congrArg List.toArray (List.map_congr_left fun e hm => ?_)
    have hk := hv e.key (List.mem_flatMap.2 ⟨q, hq, List.mem_append.2 (.inl (List.mem_map.2 ⟨e, hm, rfl⟩))⟩)
    have hw := hv e.val (List.mem_flatMap.2 ⟨q, hq, List.mem_append.2 (.inr (List.mem_map.2 ⟨e, hm, rfl⟩))⟩)
    simp [Ent.emb, emb_all hk he, emb_all hw he]
  | iter s p => exact ⟨hb.trans h.1, h.2⟩
  | dead => trivial

/-- What an operation comes to: one of some values, in a world. -/
def Outs (P : Program) (K : Value → World → Prop) : Result Next → Prop
  | .ok (.value u) w' => K u w'
  | .ok .skip w' => K undef w'
  | .ok (.enter f args) w' => Calls P f args w' fun e w'' => ∃ u, e = .returned u ∧ K u w''
  | _ => False

theorem Outs.upon {P : Program} {K : Value → World → Prop} {o : Oper} {a : Act} {next : Act → World → Prop} {Q : Exit → Act → World → Prop} {r : Result Next} (h : Outs P K r) (hk : ∀ u w', K u w' → next (a.put o.dst u) w') : o.upon P a next Q r := by
  cases r with
  | ok n w' =>
    cases n <;> simp only [Outs] at h <;> simp only [Oper.upon]
    case value u => exact hk _ _ h
    case skip => exact hk _ _ h
    case enter f args =>
      refine h.mono fun e w'' ⟨u, he, hu⟩ => ?_
      subst he
      exact hk _ _ hu
  | halt x w' => simp only [Outs] at h

/-- All operations, in the order of the text: frames, memory ahead of each, its value, what it touches, what it sees. -/
structure DT (E : Env) (ops : List Oper) where
  F : Nat → Fr
  M : Nat → List AObj
  v : Nat → V
  tch : Nat → List Nat
  vis : Nat → Nat → Bool
  bef : Nat → Nat → Bool

namespace DT
variable {ops : List Oper}

def fresh (T : DT E ops) (i k : Nat) : Bool := decide ((T.M i).length ≤ k) && decide (k < (T.M (i + 1)).length)

/-- Behind operation i: what it sees, and what is new. -/
def vis' (T : DT E ops) (i k : Nat) : Bool := T.vis i k || decide ((T.M i).length ≤ k)

structure Good (T : DT E ops) : Prop where
  mono : ∀ i, i < ops.length → (T.M i).length ≤ (T.M (i + 1)).length
  keep : ∀ i k, i < ops.length → k < (T.M i).length → k ∉ T.tch i → (T.M (i + 1))[k]? = (T.M i)[k]?
  new : ∀ i k, i < ops.length → T.fresh i k = true → k ∈ T.tch i
  sees : ∀ i k, i < ops.length → k ∈ T.tch i → k < (T.M i).length → T.vis i k = true
  tlt : ∀ i k, i < ops.length → k ∈ T.tch i → k < (T.M (i + 1)).length
  apart : ∀ i j, i < j → j < ops.length → T.bef j i = false → (∀ k ∈ T.tch i, T.vis j k = false) ∧ (∀ k ∈ T.tch j, k < (T.M i).length → T.vis i k = false)
  namesV : ∀ j, j < ops.length → (T.v j).all (fun k => decide (k < (T.M 0).length) || (List.range (j + 1)).any fun i => T.fresh i k && (i == j || T.bef j i)) = true
  namesO : ∀ j k o, j < ops.length → k ∈ T.tch j → (T.M (j + 1))[k]? = some o → ∀ v ∈ o.vals, v.all (fun k => decide (k < (T.M 0).length) || (List.range (j + 1)).any fun i => T.fresh i k && (i == j || T.bef j i)) = true
  frame : ∀ i o, ops[i]? = some o → (T.F i).set o.dst (T.v i) = some (T.F (i + 1))
  befE : ∀ j i, j < ops.length → T.bef j i = true → ∃ o, ops[j]? = some o ∧ ∃ e ∈ o.after, Region.binds .any e = true ∧ e.on < j ∧ (i = e.on ∨ T.bef e.on i = true)
  edge : ∀ j o, ops[j]? = some o → ∀ e ∈ o.after, Region.binds .any e = true → e.on < j ∧ T.bef j e.on = true
  tmps : ∀ i j oi oj, i < j → ops[i]? = some oi → ops[j]? = some oj → T.bef j i = false → oi.apart ops.toArray oj = true
  noSel : ∀ (j : Nat) (o : Oper) (cs : Array SelectCase) (b : Bool), ops[j]? = some o → o.op ≠ .select cs b
  exec : ∀ i o, ops[i]? = some o → (wantedV (T.F i) ops o = some false ∧ T.v i = .undef ∧ T.M (i + 1) = T.M i ∧ T.tch i = []) ∨
    (wantedV (T.F i) ops o = some true ∧ ∀ (N : Nat) (ρ : Nat → Loc) (w : World) (a : Act), WR E N ρ (maskL (T.vis i) (T.M i)) w → FR (T.M i).length ρ (T.F i) a →
      Outs E.P (fun u w' => ∃ ρ', u = (T.v i).emb ρ' ∧ WR E N ρ' (maskL (T.vis' i) (T.M (i + 1))) w' ∧ Goes (maskL (T.vis i) (T.M i)) ρ w (maskL (T.vis' i) (T.M (i + 1))) ρ' w' ∧ (T.v i).lt (T.M (i + 1)).length = true) ((execOp a.eval o).run E.P w))

/-! ### What holds when some are done -/

def cont (T : DT E ops) (L : Nat → Bool) (k : Nat) : Nat → AObj
  | 0 => (T.M 0)[k]?.getD .dead
  | j + 1 => if L j && (T.tch j).contains k then (T.M (j + 1))[k]?.getD .dead else cont T L k j

def lastv (T : DT E ops) (L : Nat → Bool) (t : Nat) : Nat → Option V
  | 0 => get (T.F 0).m t
  | j + 1 => if L j && ((ops[j]?).bind (·.dst) == some t) && decide (t < (T.F 0).m.length) then some (T.v j) else lastv T L t j

/-- Memory when those of L are done. -/
def HL (T : DT E ops) (L : Nat → Bool) : List AObj := (List.range (T.M ops.length).length).map fun k => cont T L k ops.length

def availB (T : DT E ops) (L : Nat → Bool) (k : Nat) : Bool := decide (k < (T.M 0).length) || (List.range ops.length).any fun j => L j && T.fresh j k

variable {T : DT E ops} {L : Nat → Bool} {i : Nat}

theorem get_HL (T : DT E ops) (L : Nat → Bool) {k : Nat} (hk : k < (T.M ops.length).length) : (T.HL L)[k]? = some (T.cont L k ops.length) := by
  simp [HL, hk]
theorem get_HL' {k : Nat} {o : AObj} (h : (T.HL L)[k]? = some o) : k < (T.M ops.length).length ∧ o = T.cont L k ops.length := by
  simp only [HL, List.getElem?_map, Option.map_eq_some_iff] at h
  obtain ⟨j, h1, h2⟩ := h
  have := List.getElem?_eq_some_iff.1 h1
  obtain ⟨hl, he⟩ := this
  simp at hl he
  subst he
  exact ⟨hl, h2.symm⟩
@[simp] theorem len_HL (T : DT E ops) (L : Nat → Bool) : (T.HL L).length = (T.M ops.length).length := by simp [HL]

theorem Good.monoLe (g : T.Good) : ∀ {i j : Nat}, i ≤ j → j ≤ ops.length → (T.M i).length ≤ (T.M j).length := by
  intro i j hij hj
  induction j with
  | zero => have : i = 0 := by omega
            subst this; exact Nat.le_refl _
  | succ j ih =>
    by_cases e : i = j + 1
    · subst e; exact Nat.le_refl _
    · exact Nat.le_trans (ih (by omega) (by omega)) (g.mono j (by omega))

def ClosedL (T : DT E ops) (L : Nat → Bool) : Prop := ∀ j, j < ops.length → L j = true → ∀ i, T.bef j i = true → L i = true

/-- i may come next. -/
structure Next (T : DT E ops) (L : Nat → Bool) (i : Nat) : Prop where
  lt : i < ops.length
  un : L i = false
  pre : ∀ j, T.bef i j = true → L j = true
  closed : T.ClosedL L

theorem Next.before (hn : T.Next L i) {j : Nat} (_ : j < i) (hL : L j = false) : T.bef i j = false := by
  cases h : T.bef i j with
  | false => rfl
  | true => have := hn.pre j h; rw [hL] at this; cases this

theorem Next.behind (hn : T.Next L i) {j : Nat} (hj : j < ops.length) (hL : L j = true) : T.bef j i = false := by
  cases h : T.bef j i with
  | false => rfl
  | true => have := hn.closed j hj hL i h; rw [hn.un] at this; cases this

theorem cont_upto (g : T.Good) (k : Nat) : ∀ j, j ≤ ops.length → (∀ i, i < j → k ∈ T.tch i → L i = true) → T.cont L k j = ((T.M j)[k]?).getD .dead := by
  intro j
  induction j with
  | zero => intro _ _; rfl
  | succ j ih =>
    intro hj hL
    simp only [cont]
    by_cases hk : k ∈ T.tch j
    · rw [if_pos (by simp [hL j (by omega) hk, hk])]
    · rw [if_neg (by simp [hk]), ih (by omega) (fun i hi => hL i (by omega))]
      by_cases hlt : k < (T.M j).length
      · rw [g.keep j k (by omega) hlt hk]
      · have : ¬ k < (T.M (j + 1)).length := fun h => hk (g.new j k (by omega) (by simp [fresh]; omega))
        rw [List.getElem?_eq_none (by omega), List.getElem?_eq_none (by omega)]

theorem cont_from (k i : Nat) : ∀ j, i ≤ j → (∀ x, i ≤ x → x < j → L x = true → k ∉ T.tch x) → T.cont L k j = T.cont L k i := by
  intro j hij
  induction j with
  | zero => intro _; have : i = 0 := by omega
            subst this; rfl
  | succ j ih =>
    intro h
    by_cases e : i = j + 1
    · subst e; rfl
    · simp only [cont]
      rw [if_neg, ih (by omega) (fun x h1 h2 => h x h1 (by omega))]
      intro hc
      simp only [Bool.and_eq_true, List.contains_iff_mem] at hc
      exact h j (by omega) (by omega) hc.1 (by simpa using hc.2)

/-- What the next one sees is as the text has it. -/
theorem view (g : T.Good) (hn : T.Next L i) {k : Nat} (hk : k < (T.M i).length) (hv : T.vis i k = true) : some (T.cont L k ops.length) = (T.M i)[k]? := by
  have h1 : ∀ x, i ≤ x → x < ops.length → L x = true → k ∉ T.tch x := by
    intro x hx hxl hL hm
    have hne : x ≠ i := fun e => by subst e; rw [hn.un] at hL; cases hL
    have := (g.apart i x (by omega) hxl (hn.behind hxl hL)).2 k hm hk
    rw [hv] at this; cases this
  have h2 : ∀ x, x < i → k ∈ T.tch x → L x = true := by
    intro x hx hm
    cases hL : L x with
    | true => rfl
    | false =>
      have := (g.apart x i hx hn.lt (hn.before hx hL)).1 k hm
      rw [hv] at this; cases this
  rw [cont_from k i ops.length (Nat.le_of_lt hn.lt) h1, cont_upto g k i (Nat.le_of_lt hn.lt) h2]
  rw [List.getElem?_eq_getElem hk]
  rfl

def put (L : Nat → Bool) (i : Nat) : Nat → Bool := fun j => if j = i then true else L j

theorem cont_put_ne (k i : Nat) (h : k ∉ T.tch i) : ∀ j, T.cont (put L i) k j = T.cont L k j
  | 0 => rfl
  | j + 1 => by
    simp only [cont, cont_put_ne k i h j]
    by_cases e : j = i
    · subst e; simp [h]
    · simp [put, e]

theorem cont_put (g : T.Good) (hn : T.Next L i) {k : Nat} (hk : k ∈ T.tch i) : T.cont (put L i) k ops.length = ((T.M (i + 1))[k]?).getD .dead := by
  have h1 : ∀ x, i + 1 ≤ x → x < ops.length → put L i x = true → k ∉ T.tch x := by
    intro x hx hxl hL hm
    have hL' : L x = true := by simpa [put, show x ≠ i by omega] using hL
    have ha := g.apart i x (by omega) hxl (hn.behind hxl hL')
    have hlt := g.tlt i k hn.lt hk
    have hv1 := ha.1 k hk
    have hlx : k < (T.M x).length := Nat.lt_of_lt_of_le hlt (g.monoLe (by omega) (by omega))
    have := g.sees x k hxl hm hlx
    rw [hv1] at this; cases this
  rw [cont_from k (i + 1) ops.length hn.lt h1]
  simp only [cont]
  rw [if_pos (by simp [put, hk])]

/-! #### Temporaries -/

theorem lastv_from (t i : Nat) : ∀ j, i ≤ j → (∀ x, i ≤ x → x < j → L x = true → (ops[x]?).bind (·.dst) ≠ some t) → T.lastv L t j = T.lastv L t i := by
  intro j hij
  induction j with
  | zero => intro _; have : i = 0 := by omega
            subst this; rfl
  | succ j ih =>
    intro h
    by_cases e : i = j + 1
    · subst e; rfl
    · simp only [lastv]
      rw [if_neg, ih (by omega) (fun x h1 h2 => h x h1 (by omega))]
      intro hc
      simp only [Bool.and_eq_true, beq_iff_eq, decide_eq_true_eq] at hc
      exact h j (by omega) (by omega) hc.1.1 hc.1.2

theorem Good.lenF (g : T.Good) : ∀ i, i ≤ ops.length → (T.F i).m.length = (T.F 0).m.length := by
  intro i
  induction i with
  | zero => intro _; rfl
  | succ i ih =>
    intro hi
    obtain ⟨o, ho⟩ : ∃ o, ops[i]? = some o := ⟨_, List.getElem?_eq_getElem (by omega)⟩
    have := g.frame i o ho
    rw [← ih (by omega)]
    cases hd : o.dst with
    | none => rw [hd] at this; simp only [Fr.set, Option.some.injEq] at this; rw [← this]
    | some d => rw [hd] at this; simp only [Fr.set, Option.some.injEq] at this; rw [← this, length_put]

theorem lastv_upto (g : T.Good) (t : Nat) : ∀ j, j ≤ ops.length → (∀ i, i < j → (ops[i]?).bind (·.dst) = some t → L i = true) → T.lastv L t j = get (T.F j).m t := by
  intro j
  induction j with
  | zero => intro _ _; rfl
  | succ j ih =>
    intro hj hL
    obtain ⟨o, ho⟩ : ∃ o, ops[j]? = some o := ⟨_, List.getElem?_eq_getElem (by omega)⟩
    have hf := g.frame j o ho
    have hlen := g.lenF j (by omega)
    simp only [lastv, ho, Option.bind_some]
    cases hd : o.dst with
    | none =>
      rw [hd] at hf; simp only [Fr.set, Option.some.injEq] at hf
      rw [← hf, if_neg (by simp)]
      exact ih (by omega) (fun i hi => hL i (by omega))
    | some d =>
      rw [hd] at hf; simp only [Fr.set, Option.some.injEq] at hf
      rw [← hf, get_put, hlen]
      by_cases e : t = d
      · subst e
        have hLj : L j = true := hL j (by omega) (by rw [ho]; exact hd)
        by_cases hlt : t < (T.F 0).m.length
        · rw [if_pos (by simp [hLj, hlt]), if_pos ⟨rfl, hlt⟩]
        · rw [if_neg (by simp [hlt]), if_neg (by simp [hlt])]
          exact ih (by omega) (fun i hi => hL i (by omega))
      · rw [if_neg (by simp [Ne.symm e]), if_neg (by simp [e])]
        exact ih (by omega) (fun i hi => hL i (by omega))

/-- What the next one looks at is as the text has it. -/
theorem viewT (g : T.Good) (hn : T.Next L i) {o : Oper} (ho : ops[i]? = some o) {t : Nat} (ht : t ∈ o.looksAt ops.toArray) : T.lastv L t ops.length = get (T.F i).m t := by
  have h1 : ∀ x, i ≤ x → x < ops.length → L x = true → (ops[x]?).bind (·.dst) ≠ some t := by
    intro x hx hxl hL hd
    have hne : x ≠ i := fun e => by subst e; rw [hn.un] at hL; cases hL
    obtain ⟨ox, hox⟩ : ∃ o, ops[x]? = some o := ⟨_, List.getElem?_eq_getElem hxl⟩
    rw [hox] at hd
    have := Oper.apart_spec (g.tmps i x o ox (by omega) ho hox (hn.behind hxl hL))
    exact this.2.2 t hd ht
  have h2 : ∀ x, x < i → (ops[x]?).bind (·.dst) = some t → L x = true := by
    intro x hx hd
    cases hL : L x with
    | true => rfl
    | false =>
      obtain ⟨ox, hox⟩ : ∃ o, ops[x]? = some o := ⟨_, List.getElem?_eq_getElem (by have := hn.lt; omega)⟩
      rw [hox] at hd
      have := Oper.apart_spec (g.tmps x i ox o hx hox ho (hn.before hx hL))
      exact absurd ht (this.1 t hd)
  rw [lastv_from t i ops.length (Nat.le_of_lt hn.lt) h1, lastv_upto g t i (Nat.le_of_lt hn.lt) h2]

theorem lastv_put_ne (t i : Nat) (h : (ops[i]?).bind (·.dst) ≠ some t) : ∀ j, T.lastv (put L i) t j = T.lastv L t j
  | 0 => rfl
  | j + 1 => by
    simp only [lastv, lastv_put_ne t i h j]
    by_cases e : j = i
    · subst e
      have : ((ops[j]?).bind (·.dst) == some t) = false := by simpa using h
      simp [this]
    · simp [put, e]

theorem lastv_put (g : T.Good) (hn : T.Next L i) {o : Oper} (ho : ops[i]? = some o) {t : Nat} (hd : o.dst = some t) (hlt : t < (T.F 0).m.length) : T.lastv (put L i) t ops.length = some (T.v i) := by
  have h1 : ∀ x, i + 1 ≤ x → x < ops.length → put L i x = true → (ops[x]?).bind (·.dst) ≠ some t := by
    intro x hx hxl hL hd2
    have hL' : L x = true := by simpa [put, show x ≠ i by omega] using hL
    obtain ⟨ox, hox⟩ : ∃ o, ops[x]? = some o := ⟨_, List.getElem?_eq_getElem hxl⟩
    rw [hox] at hd2
    have := Oper.apart_spec (g.tmps i x o ox (by omega) ho hox (hn.behind hxl hL'))
    exact this.2.1 t hd hd2
  rw [lastv_from t (i + 1) ops.length hn.lt h1]
  simp only [lastv]
  rw [if_pos (by simp [put, ho, hd, hlt])]


/-! ### One more is done -/

/-- When those of L are done. -/
structure Inv (T : DT E ops) (N : Nat) (ρ0 : Nat → Loc) (w0 : World) (L : Nat → Bool) (ρ : Nat → Loc) (a : Act) (w : World) : Prop where
  closed : T.ClosedL L
  wr : WR E N ρ (T.HL L) w
  goes : Goes (T.M 0) ρ0 w0 (T.HL L) ρ w
  avail : ∀ k, k < (T.M ops.length).length → ∀ v ∈ (T.cont L k ops.length).vals, v.all (T.availB L) = true
  defers : a.defers = []
  size : a.tmps.size = (T.F 0).m.length
  val : ∀ t v, T.lastv L t ops.length = some v → v.all (T.availB L) = true ∧ a.tmps[t]? = some (v.emb ρ)

theorem fresh_lt {k : Nat} (h : T.fresh i k = true) : (T.M i).length ≤ k ∧ k < (T.M (i + 1)).length := by simpa [fresh] using h

theorem avail_put {k : Nat} (h : T.availB L k = true) : T.availB (put L i) k = true := by
  simp only [availB, Bool.or_eq_true, decide_eq_true_eq, List.any_eq_true, Bool.and_eq_true, List.mem_range] at h ⊢
  rcases h with h | ⟨j, hj, h1, h2⟩
  · exact .inl h
  · exact .inr ⟨j, hj, by simp [put, h1], h2⟩

theorem avail_of_names (hn : T.Next L i) {k : Nat} (h : (decide (k < (T.M 0).length) || (List.range (i + 1)).any fun j => T.fresh j k && (j == i || T.bef i j)) = true) : T.availB (put L i) k = true := by
  simp only [availB, Bool.or_eq_true, decide_eq_true_eq, List.any_eq_true, Bool.and_eq_true, List.mem_range, beq_iff_eq] at h ⊢
  rcases h with h | ⟨j, hj, h1, h2⟩
  · exact .inl h
  · refine .inr ⟨j, by have := hn.lt; omega, ?_, h1⟩
    rcases h2 with rfl | h2
    · simp [put]
    · simp [put, hn.pre j h2]

/-- The blocks that are new in the next one were not there. -/
theorem avail_not_fresh (g : T.Good) (hn : T.Next L i) {k : Nat} (h : T.availB L k = true) : T.fresh i k = false := by
  cases hf : T.fresh i k with
  | false => rfl
  | true =>
    have h0 := fresh_lt hf
    simp only [availB, Bool.or_eq_true, decide_eq_true_eq, List.any_eq_true, Bool.and_eq_true, List.mem_range] at h
    rcases h with h | ⟨j, hj, h1, h2⟩
    · have := g.monoLe (Nat.zero_le i) (Nat.le_of_lt hn.lt); omega
    · have h3 := fresh_lt h2
      have hne : j ≠ i := fun e => by subst e; rw [hn.un] at h1; cases h1
      by_cases hlt : j < i
      · have := g.monoLe (show j + 1 ≤ i by omega) (Nat.le_of_lt hn.lt); omega
      · have := g.monoLe (show i + 1 ≤ j by omega) (Nat.le_of_lt hj); omega

theorem avail_lt (g : T.Good) {k : Nat} (h : T.availB L k = true) : k < (T.M ops.length).length := by
  simp only [availB, Bool.or_eq_true, decide_eq_true_eq, List.any_eq_true, Bool.and_eq_true, List.mem_range] at h
  rcases h with h | ⟨j, hj, h1, h2⟩
  · have := g.monoLe (Nat.zero_le ops.length) (Nat.le_refl _); omega
  · have := fresh_lt h2
    have := g.monoLe (show j + 1 ≤ ops.length by omega) (Nat.le_refl _); omega

/-- A value that stands in what the next one sees names blocks that were there ahead of it in the text. -/
theorem all_lt {n : Nat} {p : Nat → Bool} {v : V} (h : v.all p = true) (hp : ∀ j, p j = true → j < n) : v.lt n = true := all_mono p _ (fun j hj => by simpa using hp j hj) v h


theorem Good.lenFi (g : T.Good) (hn : T.Next L i) : (T.F i).m.length = (T.F 0).m.length := g.lenF i (Nat.le_of_lt hn.lt)

/-- What op number i does when those of L are done. -/
theorem Inv.step (g : T.Good) {N : Nat} {ρ0 : Nat → Loc} {w0 : World} {ρ : Nat → Loc} {a : Act} {w : World} (h : T.Inv N ρ0 w0 L ρ a w) (hn : T.Next L i)
    {v' : Nat → Loc} {w' : World}
    (hw : WR E N v' (maskL (T.vis' i) (T.M (i + 1))) w') (hg : Goes (maskL (T.vis i) (T.M i)) ρ w (maskL (T.vis' i) (T.M (i + 1))) v' w') :
    ∃ ρ', (∀ k, k < (T.M (i + 1)).length → ρ' k = v' k) ∧ (∀ k, T.availB L k = true → ρ' k = ρ k) ∧ WR E N ρ' (T.HL (put L i)) w' ∧ Goes (T.M 0) ρ0 w0 (T.HL (put L i)) ρ' w' ∧
      ∀ k, k < (T.M ops.length).length → ∀ v ∈ (T.cont (put L i) k ops.length).vals, v.all (T.availB (put L i)) = true := by
  have hil := hn.lt
  have hmono := g.mono i hil
  have hle1 : (T.M (i + 1)).length ≤ (T.M ops.length).length := g.monoLe hil (Nat.le_refl _)
  have hgx : ∀ k, k < (T.M i).length → v' k = ρ k := fun k hk => hg.ext k (by simpa using hk)
  let ρ' : Nat → Loc := fun k => if T.fresh i k then v' k else ρ k
  have e1 : ∀ k, k < (T.M (i + 1)).length → ρ' k = v' k := by
    intro k hk
    by_cases hf : T.fresh i k = true
    · simp [ρ', hf]
    · have hlt : k < (T.M i).length := by
        simp only [fresh, Bool.and_eq_true, decide_eq_true_eq] at hf; omega
      simp [ρ', hf, hgx k hlt]
  have e2 : ∀ k, T.availB L k = true → ρ' k = ρ k := by
    intro k hk
    simp [ρ', avail_not_fresh g hn hk]
  have e3 : ∀ k, T.fresh i k = false → ρ' k = ρ k := by intro k hk; simp [ρ', hk]
  -- what is seen, or new: as behind the operation
  have near : ∀ k, k < (T.M (i + 1)).length → T.vis' i k = true → (T.M (i + 1))[k]? = some (T.cont (put L i) k ops.length) := by
    intro k hk hv
    by_cases ht : k ∈ T.tch i
    · rw [cont_put g hn ht, List.getElem?_eq_getElem hk]; rfl
    · have hlt : k < (T.M i).length := by
        by_cases hlt : k < (T.M i).length
        · exact hlt
        · exact absurd (g.new i k hil (by simp [fresh]; omega)) ht
      have hvi : T.vis i k = true := by
        simp only [vis', Bool.or_eq_true, decide_eq_true_eq] at hv
        rcases hv with hv | hv
        · exact hv
        · omega
      rw [cont_put_ne k i ht, g.keep i k hil hlt ht, view g hn hlt hvi]
  have far : ∀ k, ¬ (k < (T.M (i + 1)).length ∧ T.vis' i k = true) → T.cont (put L i) k ops.length = T.cont L k ops.length := by
    intro k hk
    refine cont_put_ne k i (fun ht => hk ⟨g.tlt i k hil ht, ?_⟩) _
    by_cases hlt : k < (T.M i).length
    · simp [vis', g.sees i k hil ht hlt]
    · simp [vis']; exact .inr (by omega)
  have hmem : ∀ k o, k < (T.M (i + 1)).length → T.vis' i k = true → (T.HL (put L i))[k]? = some o → (maskL (T.vis' i) (T.M (i + 1)))[k]? = some o := by
    intro k o hk hv ho
    obtain ⟨_, rfl⟩ := get_HL' ho
    rw [get_maskL, near k hk hv]
    simp [hv]
  have hold : ∀ k o, ¬ (k < (T.M (i + 1)).length ∧ T.vis' i k = true) → (T.HL (put L i))[k]? = some o → (T.HL L)[k]? = some o := by
    intro k o hk ho
    obtain ⟨hl, rfl⟩ := get_HL' ho
    rw [get_HL T L hl, far k hk]
  -- what was seen: as ahead of it
  have wasown : ∀ b, Owned (maskL (T.vis i) (T.M i)) ρ b → ∃ k o, k < (T.M (i + 1)).length ∧ T.vis' i k = true ∧ (T.HL L)[k]? = some o ∧ o.own = true ∧ (ρ k).block = b := by
    rintro b ⟨k, o, hk, ho, hb⟩
    rw [get_maskL] at hk
    cases hmk : (T.M i)[k]? with
    | none => rw [hmk] at hk; cases hk
    | some o1 =>
      rw [hmk] at hk
      have hlt := (List.getElem?_eq_some_iff.1 hmk).1
      simp only [Option.map_some, Option.some.injEq] at hk
      by_cases hv : T.vis i k = true
      · rw [if_pos hv] at hk
        subst hk
        refine ⟨k, o1, by omega, by simp [vis', hv], ?_, ho, hb⟩
        rw [get_HL T L (by omega), view g hn hlt hv, hmk]
      · rw [if_neg hv] at hk; subst hk; cases ho
  have hblk : ∀ k o, ¬ (k < (T.M (i + 1)).length ∧ T.vis' i k = true) → (T.HL L)[k]? = some o → o ≠ .dead → w'.heap[(ρ k).block]? = w.heap[(ρ k).block]? := by
    intro k o hk ho hd
    have hbl := h.wr.block_lt ho hd
    refine hg.same _ hbl fun hown => ?_
    obtain ⟨k2, o2, h1, h2, h3, h4, h5⟩ := wasown _ hown
    have hne : k ≠ k2 := fun e => hk (by subst e; exact ⟨h1, h2⟩)
    cases hoo : o.own with
    | true => exact h.wr.inj k k2 o o2 ho h3 hoo h4 hne h5.symm
    | false =>
      have h6 := h.wr.own_ge h3 h4
      have h7 := h.wr.objs k o ho
      cases o with
      | cells cs e m fz =>
        cases m with
        | ro => obtain ⟨_, C, z, _, _, hm⟩ := h7; simp only at hm; rw [h5] at h6; omega
        | rw => cases hoo
        | grown => cases hoo
      | map es c => cases hoo
      | alts as => cases hoo
      | iter s p => cases hoo
      | dead => exact hd rfl
  have hav : ∀ k, k < (T.M ops.length).length → ∀ v ∈ (T.cont (put L i) k ops.length).vals, v.all (T.availB (put L i)) = true := by
    intro k hk v hv
    by_cases ht : k ∈ T.tch i
    · rw [cont_put g hn ht] at hv
      have hkl := g.tlt i k hil ht
      rw [List.getElem?_eq_getElem hkl] at hv
      exact all_mono _ _ (fun j hj => avail_of_names hn hj) v (g.namesO i k _ hil ht (List.getElem?_eq_getElem hkl) v hv)
    · rw [cont_put_ne k i ht] at hv
      exact all_mono _ _ (fun j hj => avail_put hj) v (h.avail k hk v hv)
  refine ⟨ρ', e1, e2, ⟨hw.low, ?_, ?_, ?_, ?_⟩, ?_, hav⟩
  · intro k o ho
    obtain ⟨hl, rfl⟩ := get_HL' ho
    intro v hv
    rw [len_HL]
    exact all_lt (hav k hl v hv) (fun j hj => avail_lt g hj)
  · intro k o ho
    by_cases hk : k < (T.M (i + 1)).length ∧ T.vis' i k = true
    · rw [e1 k hk.1]
      have h1 := hmem k o hk.1 hk.2 ho
      exact (hw.objs k o h1).congr (by have := hw.vals k o h1; simpa using this) (fun j hj => e1 j hj)
    · have h1 := hold k o hk ho
      obtain ⟨hl, _⟩ := get_HL' h1
      by_cases hd : o = .dead
      · subst hd; trivial
      · have hnf : T.fresh i k = false := by
          cases hf : T.fresh i k with
          | false => rfl
          | true => exact absurd ⟨(fresh_lt hf).2, by simp [vis']; exact .inr (fresh_lt hf).1⟩ hk
        rw [e3 k hnf]
        obtain ⟨_, rfl⟩ := get_HL' h1
        exact (h.wr.objs k _ h1).keptP (h.avail k hl) e2 (hblk k _ hk h1 hd)
  · intro k k' o o' ho ho' hown hown' hne
    have mix : ∀ k k' o o', (k < (T.M (i + 1)).length ∧ T.vis' i k = true) → ¬ (k' < (T.M (i + 1)).length ∧ T.vis' i k' = true) → (T.HL (put L i))[k]? = some o → (T.HL (put L i))[k']? = some o' → o.own = true → o'.own = true → (ρ' k).block ≠ (ρ' k').block := by
      intro k k' o o' hk hk' ho ho' hown hown' heq
      have h1 := hmem k o hk.1 hk.2 ho
      have h2 := hold k' o' hk' ho'
      have hnf : T.fresh i k' = false := by
        cases hf : T.fresh i k' with
        | false => rfl
        | true => exact absurd ⟨(fresh_lt hf).2, by simp [vis']; exact .inr (fresh_lt hf).1⟩ hk'
      rw [e1 k hk.1, e3 k' hnf] at heq
      have hbl := h.wr.block_lt h2 (AObj.own_ne_dead hown')
      have := hg.owned (v' k).block (by rw [heq]; exact hbl) ⟨k, o, h1, hown, rfl⟩
      obtain ⟨k2, o2, h3, h4, h5, h6, h7⟩ := wasown _ this
      have hne2 : k2 ≠ k' := fun e => hk' (by subst e; exact ⟨h3, h4⟩)
      exact h.wr.inj k2 k' o2 o' h5 h2 h6 hown' hne2 (h7.trans heq)
    by_cases hk : k < (T.M (i + 1)).length ∧ T.vis' i k = true <;> by_cases hk' : k' < (T.M (i + 1)).length ∧ T.vis' i k' = true
    · rw [e1 k hk.1, e1 k' hk'.1]
      exact hw.inj k k' o o' (hmem k o hk.1 hk.2 ho) (hmem k' o' hk'.1 hk'.2 ho') hown hown' hne
    · exact mix k k' o o' hk hk' ho ho' hown hown'
    · exact fun e => mix k' k o' o hk' hk ho' ho hown' hown e.symm
    · have nf : ∀ k, ¬ (k < (T.M (i + 1)).length ∧ T.vis' i k = true) → T.fresh i k = false := by
        intro k hk
        cases hf : T.fresh i k with
        | false => rfl
        | true => exact absurd ⟨(fresh_lt hf).2, by simp [vis']; exact .inr (fresh_lt hf).1⟩ hk
      rw [e3 k (nf k hk), e3 k' (nf k' hk')]
      exact h.wr.inj k k' o o' (hold k o hk ho) (hold k' o' hk' ho') hown hown' hne
  · intro gl cs hgl
    obtain ⟨h1, h2, C, e, z, hC, h3⟩ := hw.globs gl cs hgl
    exact ⟨h1, h2, C, e, z, hC, fun j v hv => by rw [h3 j v hv, emb_flat (h2 v (List.mem_of_getElem? hv)).1 v' ρ']⟩
  · have hsub : ∀ b, Owned (maskL (T.vis i) (T.M i)) ρ b → Owned (T.HL L) ρ b := by
      intro b hb
      obtain ⟨k, o, _, _, h3, h4, h5⟩ := wasown b hb
      exact ⟨k, o, h3, h4, h5⟩
    have hown' : ∀ b, b < w.heap.size → Owned (T.HL (put L i)) ρ' b → Owned (T.HL L) ρ b := by
      rintro b hb ⟨k, o, ho, hown, hbk⟩
      by_cases hk : k < (T.M (i + 1)).length ∧ T.vis' i k = true
      · rw [e1 k hk.1] at hbk
        exact hsub b (hg.owned b hb ⟨k, o, hmem k o hk.1 hk.2 ho, hown, hbk⟩)
      · have hnf : T.fresh i k = false := by
          cases hf : T.fresh i k with
          | false => rfl
          | true => exact absurd ⟨(fresh_lt hf).2, by simp [vis']; exact .inr (fresh_lt hf).1⟩ hk
        rw [e3 k hnf] at hbk
        exact ⟨k, o, hold k o hk ho, hown, hbk⟩
    have g0 := h.goes
    refine ⟨hg.os.trans g0.os, hg.tape.trans g0.tape, hg.output.trans g0.output, Nat.le_trans g0.size hg.size, ?_, ?_, ?_, ?_⟩
    · intro b hb hno
      rw [hg.same b (Nat.lt_of_lt_of_le hb g0.size) (fun ho => hno (g0.owned b hb (hsub b ho)))]
      exact g0.same b hb hno
    · intro b hb ho
      exact g0.owned b hb (hown' b (Nat.lt_of_lt_of_le hb g0.size) ho)
    · intro k hk
      have hnf : T.fresh i k = false := by
        cases hf : T.fresh i k with
        | false => rfl
        | true => have := (fresh_lt hf).1; have := g.monoLe (Nat.zero_le i) (Nat.le_of_lt hil); omega
      rw [e3 k hnf]
      exact g0.ext k hk
    · rw [len_HL]; have := g0.len; rw [len_HL] at this; exact this


/-! ### What the text's order keeps -/

theorem names_lt (g : T.Good) {j k : Nat} (hj : j < ops.length) (h : (decide (k < (T.M 0).length) || (List.range (j + 1)).any fun i => T.fresh i k && (i == j || T.bef j i)) = true) : k < (T.M (j + 1)).length := by
  simp only [Bool.or_eq_true, decide_eq_true_eq, List.any_eq_true, Bool.and_eq_true, List.mem_range] at h
  rcases h with h | ⟨x, hx, h1, _⟩
  · have := g.monoLe (Nat.zero_le (j + 1)) hj; omega
  · have := fresh_lt h1
    have := g.monoLe (show x + 1 ≤ j + 1 by omega) hj; omega

theorem Good.ltM (g : T.Good) (h0 : ∀ (k : Nat) (o : AObj), (T.M 0)[k]? = some o → ltL (T.M 0).length o.vals) : ∀ i, i ≤ ops.length → ∀ (k : Nat) (o : AObj), (T.M i)[k]? = some o → ltL (T.M i).length o.vals := by
  intro i
  induction i with
  | zero => intro _; exact h0
  | succ i ih =>
    intro hi k o ho
    by_cases ht : k ∈ T.tch i
    · exact fun v hv => all_lt (g.namesO i k o hi ht ho v hv) (fun j hj => names_lt g hi hj)
    · by_cases hlt : k < (T.M i).length
      · rw [g.keep i k hi hlt ht] at ho
        exact ltL_mono (g.mono i hi) (ih (by omega) k o ho)
      · exact absurd (g.new i k hi (by simp [fresh]; exact ⟨by omega, (List.getElem?_eq_some_iff.1 ho).1⟩)) ht

theorem Good.ltF (g : T.Good) (h0 : ∀ t v, get (T.F 0).m t = some v → v.lt (T.M 0).length = true) : ∀ i, i ≤ ops.length → ∀ t v, get (T.F i).m t = some v → v.lt (T.M i).length = true := by
  intro i
  induction i with
  | zero => intro _; exact h0
  | succ i ih =>
    intro hi t v hv
    obtain ⟨o, ho⟩ : ∃ o, ops[i]? = some o := ⟨_, List.getElem?_eq_getElem hi⟩
    have hf := g.frame i o ho
    have old : get (T.F i).m t = some v → v.lt (T.M (i + 1)).length = true := fun h => lt_mono (g.mono i hi) (ih (by omega) t v h)
    cases hd : o.dst with
    | none => rw [hd] at hf; simp only [Fr.set, Option.some.injEq] at hf; rw [← hf] at hv; exact old hv
    | some d =>
      rw [hd] at hf; simp only [Fr.set, Option.some.injEq] at hf
      rw [← hf, get_put] at hv
      split at hv
      · simp only [Option.some.injEq] at hv
        subst hv
        exact all_lt (g.namesV i hi) (fun j hj => names_lt g hi hj)
      · exact old hv

theorem lastv_none {t : Nat} (ht : ¬ t < (T.F 0).m.length) : ∀ j, T.lastv L t j = none
  | 0 => by simp only [lastv, get_eq]; rw [List.getElem?_eq_none (by omega)]; rfl
  | j + 1 => by simp only [lastv]; rw [if_neg (by simp [ht]), lastv_none ht j]

/-- The temporaries as the text's order has them ahead of operation i. -/
def over (f : Fr) (ρ : Nat → Loc) (a : Act) : Act := { a with tmps := a.tmps.mapIdx fun t x => match get f.m t with | some v => v.emb ρ | none => x }

theorem over_get (f : Fr) (ρ : Nat → Loc) (a : Act) (t : Nat) : (over f ρ a).tmps[t]? = (a.tmps[t]?).map fun x => match get f.m t with | some v => v.emb ρ | none => x := by
  simp [over]

theorem Inv.look (g : T.Good) {N : Nat} {ρ0 : Nat → Loc} {w0 : World} {ρ : Nat → Loc} {a : Act} {w : World} (h : T.Inv N ρ0 w0 L ρ a w) (hn : T.Next L i) {o : Oper} (ho : ops[i]? = some o) {t : Nat} (ht : t ∈ o.looksAt ops.toArray) :
    (over (T.F i) ρ a).tmps[t]? = a.tmps[t]? := by
  rw [over_get]
  cases hv : get (T.F i).m t with
  | none => simp
  | some v =>
    have := (h.val t v (by rw [viewT g hn ho ht, hv])).2
    rw [this]
    simp

theorem Inv.next (g : T.Good) {N : Nat} {ρ0 : Nat → Loc} {w0 : World} {ρ : Nat → Loc} {a : Act} {w : World} (h : T.Inv N ρ0 w0 L ρ a w) (hn : T.Next L i) {o : Oper} (ho : ops[i]? = some o)
    (hM0 : ∀ (k : Nat) (o : AObj), (T.M 0)[k]? = some o → ltL (T.M 0).length o.vals) (hF0 : ∀ t v, get (T.F 0).m t = some v → v.lt (T.M 0).length = true) {Q : Exit → Act → World → Prop} {K : Act → World → Prop}
    (hK : ∀ ρ' a' w', T.Inv N ρ0 w0 (put L i) ρ' a' w' → K a' w') : wpOp E.P ops.toArray Q i K a w := by
  have hil := hn.lt
  have hlooks := fun t ht => h.look g hn ho (t := t) ht
  have hFR : FR (T.M i).length ρ (T.F i) (over (T.F i) ρ a) := by
    refine ⟨h.defers, by simp [over, h.size, g.lenFi hn], fun t v hv => ⟨g.ltF hF0 i (Nat.le_of_lt hil) t v hv, ?_⟩⟩
    rw [over_get]
    have hlt : t < (T.F i).m.length := by
      rw [get_eq] at hv
      by_cases hlt : t < (T.F i).m.length
      · exact hlt
      · rw [List.getElem?_eq_none (by omega)] at hv; cases hv
    have : t < a.tmps.size := by rw [h.size, ← g.lenFi hn]; exact hlt
    rw [Array.getElem?_eq_getElem this, hv]
    rfl
  have hexe : execOp (over (T.F i) ρ a).eval o = execOp a.eval o := by
    refine execOp_congr o (fun cs b => g.noSel i o cs b ho) fun x hx => ?_
    cases x with
    | tmp t =>
      have ht : t ∈ o.looksAt ops.toArray := List.mem_append_left _ (List.mem_filterMap.2 ⟨.tmp t, by simpa using hx, rfl⟩)
      simp only [Act.eval, Array.getD_eq_getD_getElem?, hlooks t ht]
    | _ => rfl
  have hwant : Region.wanted o (yielded ops.toArray (over (T.F i) ρ a).tmps) = Region.wanted o (yielded ops.toArray a.tmps) := by
    unfold Region.wanted
    cases hg : o.guard with
    | none => rfl
    | some gw =>
      obtain ⟨gi, want⟩ := gw
      have : yielded ops.toArray (over (T.F i) ρ a).tmps gi = yielded ops.toArray a.tmps gi := by
        unfold yielded
        cases ht : (ops.toArray[gi]?).bind (·.dst) with
        | none => rfl
        | some t =>
          have ht' : t ∈ o.looksAt ops.toArray := List.mem_append_right _ (by simp only [hg, ht]; simp)
          have := hlooks t ht'
          simp only [Option.bind_some, this]
      simp only [this]
  have hWR : WR E N ρ (maskL (T.vis i) (T.M i)) w := by
    refine h.wr.sub _ (fun k x hx => ?_) (fun k x hx => ?_)
    · rw [get_maskL] at hx
      cases hmk : (T.M i)[k]? with
      | none => rw [hmk] at hx; cases hx
      | some y =>
        rw [hmk] at hx
        simp only [Option.map_some, Option.some.injEq] at hx
        have hlt := (List.getElem?_eq_some_iff.1 hmk).1
        by_cases hv : T.vis i k = true
        · rw [if_pos hv] at hx; subst hx
          right
          rw [get_HL T L (by have := g.monoLe (Nat.le_of_lt hil) (Nat.le_refl _); omega), view g hn hlt hv, hmk]
        · rw [if_neg hv] at hx; exact .inl hx.symm
    · rw [get_maskL] at hx
      cases hmk : (T.M i)[k]? with
      | none => rw [hmk] at hx; cases hx
      | some y =>
        rw [hmk] at hx
        simp only [Option.map_some, Option.some.injEq] at hx
        rw [len_maskL]
        split at hx
        · subst hx; exact g.ltM hM0 i (Nat.le_of_lt hil) k y hmk
        · subst hx; exact ltL_nil _
  have hclosed : T.ClosedL (put L i) := by
    intro j hj hL k hk
    by_cases e : k = i
    · subst e; simp [put]
    · simp only [put, e, if_false]
      by_cases e2 : j = i
      · subst e2; exact hn.pre k hk
      · exact h.closed j hj (by simpa [put, e2] using hL) k hk
  -- temporaries behind it
  have hvals : ∀ (ρ' : Nat → Loc), (∀ k, T.availB L k = true → ρ' k = ρ k) → ∀ t v, T.lastv (put L i) t ops.length = some v → v.all (T.availB (put L i)) = true ∧ (a.put o.dst ((T.v i).emb ρ')).tmps[t]? = some (v.emb ρ') := by
    intro ρ' he t v hv
    by_cases hlt : t < (T.F 0).m.length
    · by_cases hd : o.dst = some t
      · rw [lastv_put g hn ho hd hlt] at hv
        simp only [Option.some.injEq] at hv
        subst hv
        refine ⟨all_mono _ _ (fun k hk => avail_of_names hn hk) _ (g.namesV i hil), ?_⟩
        simp only [hd, Act.put]
        rw [Array.getElem?_setIfInBounds_self_of_lt (by rw [h.size]; exact hlt)]
      · rw [lastv_put_ne t i (by rw [ho]; exact hd)] at hv
        obtain ⟨h1, h2⟩ := h.val t v hv
        refine ⟨all_mono _ _ (fun k hk => avail_put hk) v h1, ?_⟩
        rw [emb_all h1 he]
        cases hdd : o.dst with
        | none => exact h2
        | some d =>
          simp only [Act.put]
          rw [Array.getElem?_setIfInBounds_ne (fun e => hd (by rw [hdd, e]))]
          exact h2
    · rw [lastv_none hlt] at hv; cases hv
  have hsize : ∀ u, (a.put o.dst u).tmps.size = (T.F 0).m.length := fun u => by cases o.dst <;> simp [Act.put, h.size]
  have hdef : ∀ u, (a.put o.dst u).defers = [] := fun u => by cases o.dst <;> simp [Act.put, h.defers]
  unfold wpOp
  have ho' : ops.toArray[i]? = some o := by simpa using ho
  rw [ho']
  simp only
  rcases g.exec i o ho with ⟨hw0, hv0, hM, ht0⟩ | ⟨hw1, hex⟩
  · rw [if_neg (by rw [← hwant, wanted_run hFR hw0]; simp)]
    have hHL : T.HL (put L i) = T.HL L := by
      unfold HL
      exact List.map_congr_left fun k _ => cont_put_ne k i (by rw [ht0]; simp) _
    refine hK ρ _ w ⟨hclosed, by rw [hHL]; exact h.wr, by rw [hHL]; exact h.goes, fun k hk v hv => ?_, hdef _, hsize _, ?_⟩
    · rw [cont_put_ne k i (by rw [ht0]; simp)] at hv
      exact all_mono _ _ (fun j hj => avail_put hj) v (h.avail k hk v hv)
    · have := hvals ρ (fun _ _ => rfl)
      rw [hv0] at this
      exact this
  · rw [if_pos (by rw [← hwant, wanted_run hFR hw1])]
    left
    have h1 := hex N ρ w _ hWR hFR
    rw [hexe] at h1
    refine h1.upon fun u w' ⟨v', hu, hw', hg', hlt⟩ => ?_
    subst hu
    obtain ⟨ρ', e1, e2, h3, h4, h5⟩ := h.step g hn hw' hg'
    rw [← emb_lt hlt e1]
    exact hK ρ' _ w' ⟨hclosed, h3, h4, h5, hdef _, hsize _, hvals ρ' e2⟩

theorem Inv.done (g : T.Good) {N : Nat} {ρ0 : Nat → Loc} {w0 : World} {ρ : Nat → Loc} {a : Act} {w : World} (h : T.Inv N ρ0 w0 L ρ a w) (hall : ∀ i, i < ops.length → L i = true) :
    FR (T.M ops.length).length ρ (T.F ops.length) a ∧ WR E N ρ (T.M ops.length) w ∧ Goes (T.M 0) ρ0 w0 (T.M ops.length) ρ w := by
  have e : T.HL L = T.M ops.length := by
    apply List.ext_getElem?
    intro k
    by_cases hk : k < (T.M ops.length).length
    · rw [get_HL T L hk, cont_upto g k ops.length (Nat.le_refl _) (fun i hi _ => hall i hi), List.getElem?_eq_getElem hk]; rfl
    · rw [List.getElem?_eq_none (by simp; omega), List.getElem?_eq_none (by omega)]
  refine ⟨⟨h.defers, by rw [h.size, g.lenF _ (Nat.le_refl _)], fun t v hv => ?_⟩, e ▸ h.wr, e ▸ h.goes⟩
  have := h.val t v (by rw [lastv_upto g t ops.length (Nat.le_refl _) (fun i hi _ => hall i hi), hv])
  exact ⟨all_lt this.1 (fun j hj => avail_lt g hj), this.2⟩

theorem Inv.init (g : T.Good) {N : Nat} {ρ : Nat → Loc} {a : Act} {w : World} (hf : FR (T.M 0).length ρ (T.F 0) a) (hw : WR E N ρ (T.M 0) w) : T.Inv N ρ w (fun _ => false) ρ a w := by
  have hc : ∀ k j, T.cont (fun _ => false) k j = ((T.M 0)[k]?).getD .dead := by
    intro k j
    induction j with
    | zero => rfl
    | succ j ih => simp only [cont]; rw [if_neg (by simp), ih]
  have hl : ∀ t j, T.lastv (fun _ => false) t j = get (T.F 0).m t := by
    intro t j
    induction j with
    | zero => rfl
    | succ j ih => simp only [lastv]; rw [if_neg (by simp), ih]
  have h0 := g.monoLe (Nat.zero_le ops.length) (Nat.le_refl _)
  have hget : ∀ (k : Nat) (o : AObj), (T.HL (fun _ => false))[k]? = some o → o = .dead ∨ (T.M 0)[k]? = some o := by
    intro k o ho
    obtain ⟨_, rfl⟩ := get_HL' ho
    rw [hc]
    cases hmk : (T.M 0)[k]? with
    | none => exact .inl rfl
    | some x => exact .inr rfl
  refine ⟨(fun j _ h => by cases h), hw.sub _ hget (fun k o ho => ?_), ⟨rfl, rfl, rfl, Nat.le_refl _, fun _ _ _ => rfl, ?_, fun _ _ => rfl, by simpa using h0⟩, fun k _ v hv => ?_, hf.defers, by rw [hf.size], fun t v hv => ?_⟩
  · rw [len_HL]
    rcases hget k o ho with rfl | h1
    · exact ltL_nil _
    · exact ltL_mono h0 (hw.vals k o h1)
  · rintro b _ ⟨k, o, ho, hown, hb⟩
    rcases hget k o ho with rfl | h1
    · cases hown
    · exact ⟨k, o, h1, hown, hb⟩
  · rw [hc] at hv
    cases hmk : (T.M 0)[k]? with
    | none => rw [hmk] at hv; cases hv
    | some x =>
      rw [hmk] at hv
      exact all_mono _ _ (fun j hj => by simp only [availB, Bool.or_eq_true]; exact .inl hj) v (hw.vals k x hmk v hv)
  · rw [hl] at hv
    have := hf.val t v hv
    exact ⟨all_mono _ _ (fun j hj => by simp only [availB, Bool.or_eq_true]; exact .inl hj) v this.1, this.2⟩

theorem bef_listed (g : T.Good) (hc : T.ClosedL L) {i : Nat} {o : Oper} (hi : i < ops.length) (ho : ops[i]? = some o) (h : ∀ e ∈ o.after, Region.binds .any e = true → L e.on = true) : ∀ j, T.bef i j = true → L j = true := by
  intro j hj
  obtain ⟨o', ho', e, he, hb, hlt, hor⟩ := g.befE i j hi hj
  rw [ho] at ho'
  simp only [Option.some.injEq] at ho'
  subst ho'
  have h1 := h e he hb
  rcases hor with rfl | h2
  · exact h1
  · exact hc e.on (by omega) h1 j h2

theorem any (g : T.Good) {N : Nat} {ρ0 : Nat → Loc} {w0 : World} (hM0 : ∀ (k : Nat) (o : AObj), (T.M 0)[k]? = some o → ltL (T.M 0).length o.vals) (hF0 : ∀ t v, get (T.F 0).m t = some v → v.lt (T.M 0).length = true) {Q : Exit → Act → World → Prop}
    (hQ : ∀ ρ' a' w', FR (T.M ops.length).length ρ' (T.F ops.length) a' → WR E N ρ' (T.M ops.length) w' → Goes (T.M 0) ρ0 w0 (T.M ops.length) ρ' w' → Q .normal a' w') :
    ∀ (fuel : Nat) (listed : Array Bool) (ρ : Nat → Loc) (a : Act) (w : World), listed.size = ops.length → ops.length ≤ listed.toList.count true + fuel → T.Inv N ρ0 w0 (fun j => listed.getD j false) ρ a w →
      wpAny E.P .any ops.toArray Q fuel listed a w := by
  have fin : ∀ (listed : Array Bool) (ρ : Nat → Loc) (a : Act) (w : World), listed.size = ops.length → T.Inv N ρ0 w0 (fun j => listed.getD j false) ρ a w → (∀ i, i < ops.length → listed.getD i false = true) → Q .normal a w := by
    intro listed ρ a w _ h hall
    obtain ⟨h1, h2, h3⟩ := h.done g hall
    exact hQ ρ a w h1 h2 h3
  have nothing : ∀ (listed : Array Bool), listed.size = ops.length → Region.ready .any ops.toArray listed = [] → ∀ i, i < ops.length → listed.getD i false = true := by
    intro listed hs hr i
    induction i using Nat.strongRecOn with
    | _ i ih =>
      intro hi
      cases hli : listed.getD i false with
      | true => rfl
      | false =>
        exfalso
        have : i ∈ Region.ready .any ops.toArray listed := by
          rw [mem_ready]
          refine ⟨?_, ops[i], by simp [hi], fun e he hb => ?_⟩
          · have : i < listed.size := by omega
            simp only [Array.getD_eq_getD_getElem?, Array.getElem?_eq_getElem this, Option.getD_some] at hli ⊢
            exact hli
          · have := (g.edge i ops[i] (List.getElem?_eq_getElem hi) e he hb).1
            exact ih e.on this (by omega)
        rw [hr] at this
        cases this
  intro fuel
  induction fuel with
  | zero =>
    intro listed ρ a w hs hc h
    have hall : ∀ b ∈ listed.toList, true = b := List.count_eq_length.1 (by
      have := List.count_le_length (a := true) (l := listed.toList)
      simp only [Array.length_toList] at this ⊢
      omega)
    have hall' : ∀ i, i < ops.length → listed.getD i false = true := by
      intro i hi
      have hlt : i < listed.size := by omega
      have := hall listed[i] (by simp)
      simp [Array.getD_eq_getD_getElem?, hlt, ← this]
    refine ⟨?_, fin listed ρ a w hs h hall'⟩
    cases hr : Region.ready .any ops.toArray listed with
    | nil => rfl
    | cons x xs =>
      have hx : x ∈ Region.ready .any ops.toArray listed := by rw [hr]; simp
      obtain ⟨h1, o, ho, _⟩ := mem_ready.1 hx
      have hxl : x < ops.length := by have := (Array.getElem?_eq_some_iff.1 ho).1; simpa using this
      have h2 := hall' x hxl
      have : x < listed.size := by omega
      simp only [Array.getD_eq_getD_getElem?, Array.getElem?_eq_getElem this, Option.getD_some] at h1 h2
      rw [h1] at h2; cases h2
  | succ fuel ih =>
    intro listed ρ a w hs hc h
    refine ⟨fun hr => fin listed ρ a w hs h (nothing listed hs hr), fun i hi => ?_⟩
    obtain ⟨h1, o, ho, hall⟩ := mem_ready.1 hi
    have ho' : ops[i]? = some o := by simpa using ho
    have hil : i < ops.length := (List.getElem?_eq_some_iff.1 ho').1
    have hsl : i < listed.size := by omega
    have hun : listed.getD i false = false := by
      simp only [Array.getD_eq_getD_getElem?, Array.getElem?_eq_getElem hsl, Option.getD_some] at h1 ⊢
      exact h1
    have hn : T.Next (fun j => listed.getD j false) i := ⟨hil, hun, bef_listed g h.closed hil ho' hall, h.closed⟩
    refine h.next g hn ho' hM0 hF0 fun ρ' a' w' h' => ih _ ρ' a' w' (by simpa using hs) ?_ ?_
    · rw [Array.toList_setIfInBounds, List.count_set (by simpa using hsl)]
      have hb : listed.toList[i]'(by simpa using hsl) = false := by
        simp only [Array.getD_eq_getD_getElem?, Array.getElem?_eq_getElem hsl, Option.getD_some] at hun
        simpa using hun
      simp only [hb]
      have e0 : ((false == true) = true) = False := by simp
      have e1 : ((true == true) = true) = True := by simp
      simp only [e0, e1, if_false, if_true]
      omega
    · have : (fun j => (listed.setIfInBounds i true).getD j false) = put (fun j => listed.getD j false) i := by
        funext j
        by_cases e : j = i
        · subst e; simp [put, hsl]
        · simp only [put, e, if_false]
          exact getD_set_ne false (Ne.symm e)
      rw [this]
      exact h'

/-- A region that draws its order. -/
theorem region (g : T.Good) (hm : E.P.follows .mixedOrders = true) {id : Nat} {N : Nat} {ρ : Nat → Loc} {a : Act} {w : World} (hf : FR (T.M 0).length ρ (T.F 0) a) (hw : WR E N ρ (T.M 0) w) {Q : Exit → Act → World → Prop}
    (hQ : ∀ ρ' a' w', FR (T.M ops.length).length ρ' (T.F ops.length) a' → WR E N ρ' (T.M ops.length) w' → Goes (T.M 0) ρ w (T.M ops.length) ρ' w' → Q .normal a' w') : (Code.region id ops.toArray true).wp E.P Q a w := by
  refine wp_region_any hm ?_
  have hw1 : WR E N ρ (T.M 0) { w with drawn := w.drawn + 1 } := hw.drawn rfl
  have h0 := Inv.init g hf hw1
  refine any g (ρ0 := ρ) (w0 := { w with drawn := w.drawn + 1 }) hw.vals (fun t v hv => (hf.val t v hv).1) (fun ρ' a' w' h1 h2 h3 => hQ ρ' a' w' h1 h2 ⟨h3.os, h3.tape, h3.output, h3.size, h3.same, h3.owned, h3.ext, h3.len⟩) _ _ ρ a _ (by simp) (by simp) ?_
  have : (fun j => (Array.replicate ops.toArray.size false).getD j false) = fun _ => false := by
    funext j
    simp [Array.getD_eq_getD_getElem?]
    by_cases h : j < ops.length <;> simp [h]
  rw [this]
  exact h0

end DT
end Go.Am
