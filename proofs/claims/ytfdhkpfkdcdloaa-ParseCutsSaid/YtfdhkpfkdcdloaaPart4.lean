/-
  Texts of this session, one behind the other: AmDrawn, AmLoc, AmDrawnEv, AmLit.
-/
import Derived.Test.YtfdhkpfkdcdloaaPart3
import Derived.Orders
namespace Go.Am
open Go

variable {E : Env} {N : Nat} {ρ ρ' : Nat → Loc} {H : List AObj} {w w' : World}

def maskL (p : Nat → Bool) (H : List AObj) : List AObj := H.mapIdx fun k o => if p k then o else .dead

theorem get_maskL (p : Nat → Bool) (H : List AObj) (k : Nat) : (maskL p H)[k]? = (H[k]?).map fun o => if p k then o else .dead := by
 simp [maskL, List.getElem?_mapIdx]
@[simp] theorem len_maskL (p : Nat → Bool) (H : List AObj) : (maskL p H).length = H.length := by simp [maskL]

theorem WR.sub (h : WR E N ρ H w) (H2 : List AObj) (hs : ∀ (k : Nat) (o : AObj), H2[k]? = some o → o = .dead ∨ H[k]? = some o) (hv : ∀ (k : Nat) (o : AObj), H2[k]? = some o → ltL H2.length o.vals) : WR E N ρ H2 w := by
 refine ⟨h.low, hv, fun k o hk => ?_, fun k k' o o' hk hk' ho ho' hne => ?_, h.globs⟩
 ·rcases hs k o hk with rfl | h1
  ·trivial
  ·exact h.objs k o h1
 ·rcases hs k o hk with rfl | h1
  ·cases ho
  ·rcases hs k' o' hk' with rfl | h2
   ·cases ho'
   ·exact h.inj k k' o o' h1 h2 ho ho' hne

theorem OR.congr {P : Program} {l : Loc} {o : AObj} {n : Nat} (h : OR P N ρ w l o) (hv : ltL n o.vals) (he : ∀ k, k < n → ρ' k = ρ k) : OR P N ρ' w l o := h.kept hv he rfl

theorem emb_all {p : Nat → Bool} {v : V} (h : v.all p = true) {ρ ρ' : Nat → Loc} (he : ∀ k, p k = true → ρ' k = ρ k) : v.emb ρ' = v.emb ρ := emb_congr ρ ρ' p he v h

theorem OR.keptP {P : Program} {p : Nat → Bool} {l : Loc} {o : AObj} (h : OR P N ρ w l o) (hv : ∀ v ∈ o.vals, v.all p = true) (he : ∀ k, p k = true → ρ' k = ρ k)
 (hb : w'.heap[l.block]? = w.heap[l.block]?) : OR P N ρ' w' l o := by
 cases o with
 | cells cs e m fz =>
  obtain ⟨h1, C, z, hC, hcs, hm⟩ := h
  exact ⟨h1, C, z, hb.trans hC, fun i v hi => by rw [hcs i v hi, emb_all (hv v (List.mem_of_getElem? hi)) he], hm⟩
 | map es c =>
  refine ⟨?_, h.2⟩
  rw [hb, h.1]
  congr 2
  refine congrArg List.toArray (List.map_congr_left fun e hm => ?_)
  have hk := hv e.key (List.mem_append.2 (.inl (List.mem_map.2 ⟨e, hm, rfl⟩)))
  have hw := hv e.val (List.mem_append.2 (.inr (List.mem_map.2 ⟨e, hm, rfl⟩)))
  simp [Ent.emb, emb_all hk he, emb_all hw he]
 | alts as =>
  obtain ⟨⟨q, hq, h1⟩, h2⟩ := h
  refine ⟨⟨q, hq, ?_⟩, h2⟩
  rw [hb, h1]
  congr 2
  refine congrArg List.toArray (List.map_congr_left fun e hm => ?_)
  have hk := hv e.key (List.mem_flatMap.2 ⟨q, hq, List.mem_append.2 (.inl (List.mem_map.2 ⟨e, hm, rfl⟩))⟩)
  have hw := hv e.val (List.mem_flatMap.2 ⟨q, hq, List.mem_append.2 (.inr (List.mem_map.2 ⟨e, hm, rfl⟩))⟩)
  simp [Ent.emb, emb_all hk he, emb_all hw he]
 | iter s p => exact ⟨hb.trans h.1, h.2⟩
 | dead => trivial

def Outs (P : Program) (K : Value → World → Prop) : Result Next → Prop
 | .ok (.value u) w' => K u w'
 | .ok .skip w' => K undef w'
 | .ok (.enter f args) w' => Calls P f args w' fun e w'' => ∃ u, e = .returned u ∧ K u w''
 | _ => False

theorem Outs.upon {P : Program} {K : Value → World → Prop} {o : Oper} {a : Act} {next : Act → World → Prop} {Q : Exit → Act → World → Prop} {r : Result Next} (h : Outs P K r) (hk : ∀ u w', K u w' → next (a.put o.dst u) w') : o.upon P a next Q r := by
 cases r with
 | ok n w' =>
  cases n <;> simp only [Outs] at h <;> simp only [Oper.upon]
  case value u => exact hk _ _ h
  case skip => exact hk _ _ h
  case enter f args =>
   refine h.mono fun e w'' ⟨u, he, hu⟩ => ?_
   subst he
   exact hk _ _ hu
 | halt x w' => simp only [Outs] at h

structure DT (E : Env) (ops : List Oper) where
 F : Nat → Fr
 M : Nat → List AObj
 v : Nat → V
 tch : Nat → List Nat
 vis : Nat → Nat → Bool
 bef : Nat → Nat → Bool

namespace DT
variable {ops : List Oper}

def fresh (T : DT E ops) (i k : Nat) : Bool := decide ((T.M i).length ≤ k) && decide (k < (T.M (i + 1)).length)

def vis' (T : DT E ops) (i k : Nat) : Bool := T.vis i k || decide ((T.M i).length ≤ k)

structure Good (T : DT E ops) : Prop where
 mono : ∀ i, i < ops.length → (T.M i).length ≤ (T.M (i + 1)).length
 keep : ∀ i k, i < ops.length → k < (T.M i).length → k ∉ T.tch i → (T.M (i + 1))[k]? = (T.M i)[k]?
 new : ∀ i k, i < ops.length → T.fresh i k = true → k ∈ T.tch i
 sees : ∀ i k, i < ops.length → k ∈ T.tch i → k < (T.M i).length → T.vis i k = true
 tlt : ∀ i k, i < ops.length → k ∈ T.tch i → k < (T.M (i + 1)).length
 apart : ∀ i j, i < j → j < ops.length → T.bef j i = false → (∀ k ∈ T.tch i, T.vis j k = false) ∧ (∀ k ∈ T.tch j, k < (T.M i).length → T.vis i k = false)
 namesV : ∀ j, j < ops.length → (T.v j).all (fun k => decide (k < (T.M 0).length) || (List.range (j + 1)).any fun i => T.fresh i k && (i == j || T.bef j i)) = true
 namesO : ∀ j k o, j < ops.length → k ∈ T.tch j → (T.M (j + 1))[k]? = some o → ∀ v ∈ o.vals, v.all (fun k => decide (k < (T.M 0).length) || (List.range (j + 1)).any fun i => T.fresh i k && (i == j || T.bef j i)) = true
 frame : ∀ i o, ops[i]? = some o → (T.F i).set o.dst (T.v i) = some (T.F (i + 1))
 befE : ∀ j i, j < ops.length → T.bef j i = true → ∃ o, ops[j]? = some o ∧ ∃ e ∈ o.after, Region.binds .any e = true ∧ e.on < j ∧ (i = e.on ∨ T.bef e.on i = true)
 edge : ∀ j o, ops[j]? = some o → ∀ e ∈ o.after, Region.binds .any e = true → e.on < j ∧ T.bef j e.on = true
 tmps : ∀ i j oi oj, i < j → ops[i]? = some oi → ops[j]? = some oj → T.bef j i = false → oi.apart ops.toArray oj = true
 noSel : ∀ (j : Nat) (o : Oper) (cs : Array SelectCase) (b : Bool), ops[j]? = some o → o.op ≠ .select cs b
 exec : ∀ i o, ops[i]? = some o → (wantedV (T.F i) ops o = some false ∧ T.v i = .undef ∧ T.M (i + 1) = T.M i ∧ T.tch i = []) ∨
  (wantedV (T.F i) ops o = some true ∧ ∀ (N : Nat) (ρ : Nat → Loc) (w : World) (a : Act), WR E N ρ (maskL (T.vis i) (T.M i)) w → FR (T.M i).length ρ (T.F i) a →
   Outs E.P (fun u w' => ∃ ρ', u = (T.v i).emb ρ' ∧ WR E N ρ' (maskL (T.vis' i) (T.M (i + 1))) w' ∧ Goes (maskL (T.vis i) (T.M i)) ρ w (maskL (T.vis' i) (T.M (i + 1))) ρ' w' ∧ (T.v i).lt (T.M (i + 1)).length = true) ((execOp a.eval o).run E.P w))

def cont (T : DT E ops) (L : Nat → Bool) (k : Nat) : Nat → AObj
 | 0 => (T.M 0)[k]?.getD .dead
 | j + 1 => if L j && (T.tch j).contains k then (T.M (j + 1))[k]?.getD .dead else cont T L k j

def lastv (T : DT E ops) (L : Nat → Bool) (t : Nat) : Nat → Option V
 | 0 => get (T.F 0).m t
 | j + 1 => if L j && ((ops[j]?).bind (·.dst) == some t) && decide (t < (T.F 0).m.length) then some (T.v j) else lastv T L t j

def HL (T : DT E ops) (L : Nat → Bool) : List AObj := (List.range (T.M ops.length).length).map fun k => cont T L k ops.length

def availB (T : DT E ops) (L : Nat → Bool) (k : Nat) : Bool := decide (k < (T.M 0).length) || (List.range ops.length).any fun j => L j && T.fresh j k

variable {T : DT E ops} {L : Nat → Bool} {i : Nat}

theorem get_HL (T : DT E ops) (L : Nat → Bool) {k : Nat} (hk : k < (T.M ops.length).length) : (T.HL L)[k]? = some (T.cont L k ops.length) := by
 simp [HL, hk]
theorem get_HL' {k : Nat} {o : AObj} (h : (T.HL L)[k]? = some o) : k < (T.M ops.length).length ∧ o = T.cont L k ops.length := by
 simp only [HL, List.getElem?_map, Option.map_eq_some_iff] at h
 obtain ⟨j, h1, h2⟩ := h
 have := List.getElem?_eq_some_iff.1 h1
 obtain ⟨hl, he⟩ := this
 simp at hl he
 subst he
 exact ⟨hl, h2.symm⟩
@[simp] theorem len_HL (T : DT E ops) (L : Nat → Bool) : (T.HL L).length = (T.M ops.length).length := by simp [HL]

theorem Good.monoLe (g : T.Good) : ∀ {i j : Nat}, i ≤ j → j ≤ ops.length → (T.M i).length ≤ (T.M j).length := by
 intro i j hij hj
 induction j with
 | zero => have : i = 0 := by omega
           subst this; exact Nat.le_refl _
 | succ j ih =>
  by_cases e : i = j + 1
  ·subst e; exact Nat.le_refl _
  ·exact Nat.le_trans (ih (by omega) (by omega)) (g.mono j (by omega))

def ClosedL (T : DT E ops) (L : Nat → Bool) : Prop := ∀ j, j < ops.length → L j = true → ∀ i, T.bef j i = true → L i = true

structure Next (T : DT E ops) (L : Nat → Bool) (i : Nat) : Prop where
 lt : i < ops.length
 un : L i = false
 pre : ∀ j, T.bef i j = true → L j = true
 closed : T.ClosedL L

theorem Next.before (hn : T.Next L i) {j : Nat} (_ : j < i) (hL : L j = false) : T.bef i j = false := by
 cases h : T.bef i j with
 | false => rfl
 | true => have := hn.pre j h; rw [hL] at this; cases this

theorem Next.behind (hn : T.Next L i) {j : Nat} (hj : j < ops.length) (hL : L j = true) : T.bef j i = false := by
 cases h : T.bef j i with
 | false => rfl
 | true => have := hn.closed j hj hL i h; rw [hn.un] at this; cases this

theorem cont_upto (g : T.Good) (k : Nat) : ∀ j, j ≤ ops.length → (∀ i, i < j → k ∈ T.tch i → L i = true) → T.cont L k j = ((T.M j)[k]?).getD .dead := by
 intro j
 induction j with
 | zero => intro _ _; rfl
 | succ j ih =>
  intro hj hL
  simp only [cont]
  by_cases hk : k ∈ T.tch j
  ·rw [if_pos (by simp [hL j (by omega) hk, hk])]
  ·rw [if_neg (by simp [hk]), ih (by omega) (fun i hi => hL i (by omega))]
   by_cases hlt : k < (T.M j).length
   ·rw [g.keep j k (by omega) hlt hk]
   ·have : ¬ k < (T.M (j + 1)).length := fun h => hk (g.new j k (by omega) (by simp [fresh]; omega))
    rw [List.getElem?_eq_none (by omega), List.getElem?_eq_none (by omega)]

theorem cont_from (k i : Nat) : ∀ j, i ≤ j → (∀ x, i ≤ x → x < j → L x = true → k ∉ T.tch x) → T.cont L k j = T.cont L k i := by
 intro j hij
 induction j with
 | zero => intro _; have : i = 0 := by omega
           subst this; rfl
 | succ j ih =>
  intro h
  by_cases e : i = j + 1
  ·subst e; rfl
  ·simp only [cont]
   rw [if_neg, ih (by omega) (fun x h1 h2 => h x h1 (by omega))]
   intro hc
   simp only [Bool.and_eq_true, List.contains_iff_mem] at hc
   exact h j (by omega) (by omega) hc.1 (by simpa using hc.2)

theorem view (g : T.Good) (hn : T.Next L i) {k : Nat} (hk : k < (T.M i).length) (hv : T.vis i k = true) : some (T.cont L k ops.length) = (T.M i)[k]? := by
 have h1 : ∀ x, i ≤ x → x < ops.length → L x = true → k ∉ T.tch x := by
  intro x hx hxl hL hm
  have hne : x ≠ i := fun e => by subst e; rw [hn.un] at hL; cases hL
  have := (g.apart i x (by omega) hxl (hn.behind hxl hL)).2 k hm hk
  rw [hv] at this; cases this
 have h2 : ∀ x, x < i → k ∈ T.tch x → L x = true := by
  intro x hx hm
  cases hL : L x with
  | true => rfl
  | false =>
   have := (g.apart x i hx hn.lt (hn.before hx hL)).1 k hm
   rw [hv] at this; cases this
 rw [cont_from k i ops.length (Nat.le_of_lt hn.lt) h1, cont_upto g k i (Nat.le_of_lt hn.lt) h2]
 rw [List.getElem?_eq_getElem hk]
 rfl

def put (L : Nat → Bool) (i : Nat) : Nat → Bool := fun j => if j = i then true else L j

theorem cont_put_ne (k i : Nat) (h : k ∉ T.tch i) : ∀ j, T.cont (put L i) k j = T.cont L k j
 | 0 => rfl
 | j + 1 => by
  simp only [cont, cont_put_ne k i h j]
  by_cases e : j = i
  ·subst e; simp [h]
  ·simp [put, e]

theorem cont_put (g : T.Good) (hn : T.Next L i) {k : Nat} (hk : k ∈ T.tch i) : T.cont (put L i) k ops.length = ((T.M (i + 1))[k]?).getD .dead := by
 have h1 : ∀ x, i + 1 ≤ x → x < ops.length → put L i x = true → k ∉ T.tch x := by
  intro x hx hxl hL hm
  have hL' : L x = true := by simpa [put, show x ≠ i by omega] using hL
  have ha := g.apart i x (by omega) hxl (hn.behind hxl hL')
  have hlt := g.tlt i k hn.lt hk
  have hv1 := ha.1 k hk
  have hlx : k < (T.M x).length := Nat.lt_of_lt_of_le hlt (g.monoLe (by omega) (by omega))
  have := g.sees x k hxl hm hlx
  rw [hv1] at this; cases this
 rw [cont_from k (i + 1) ops.length hn.lt h1]
 simp only [cont]
 rw [if_pos (by simp [put, hk])]

theorem lastv_from (t i : Nat) : ∀ j, i ≤ j → (∀ x, i ≤ x → x < j → L x = true → (ops[x]?).bind (·.dst) ≠ some t) → T.lastv L t j = T.lastv L t i := by
 intro j hij
 induction j with
 | zero => intro _; have : i = 0 := by omega
           subst this; rfl
 | succ j ih =>
  intro h
  by_cases e : i = j + 1
  ·subst e; rfl
  ·simp only [lastv]
   rw [if_neg, ih (by omega) (fun x h1 h2 => h x h1 (by omega))]
   intro hc
   simp only [Bool.and_eq_true, beq_iff_eq, decide_eq_true_eq] at hc
   exact h j (by omega) (by omega) hc.1.1 hc.1.2

theorem Good.lenF (g : T.Good) : ∀ i, i ≤ ops.length → (T.F i).m.length = (T.F 0).m.length := by
 intro i
 induction i with
 | zero => intro _; rfl
 | succ i ih =>
  intro hi
  obtain ⟨o, ho⟩ : ∃ o, ops[i]? = some o := ⟨_, List.getElem?_eq_getElem (by omega)⟩
  have := g.frame i o ho
  rw [← ih (by omega)]
  cases hd : o.dst with
  | none => rw [hd] at this; simp only [Fr.set, Option.some.injEq] at this; rw [← this]
  | some d => rw [hd] at this; simp only [Fr.set, Option.some.injEq] at this; rw [← this, length_put]

theorem lastv_upto (g : T.Good) (t : Nat) : ∀ j, j ≤ ops.length → (∀ i, i < j → (ops[i]?).bind (·.dst) = some t → L i = true) → T.lastv L t j = get (T.F j).m t := by
 intro j
 induction j with
 | zero => intro _ _; rfl
 | succ j ih =>
  intro hj hL
  obtain ⟨o, ho⟩ : ∃ o, ops[j]? = some o := ⟨_, List.getElem?_eq_getElem (by omega)⟩
  have hf := g.frame j o ho
  have hlen := g.lenF j (by omega)
  simp only [lastv, ho, Option.bind_some]
  cases hd : o.dst with
  | none =>
   rw [hd] at hf; simp only [Fr.set, Option.some.injEq] at hf
   rw [← hf, if_neg (by simp)]
   exact ih (by omega) (fun i hi => hL i (by omega))
  | some d =>
   rw [hd] at hf; simp only [Fr.set, Option.some.injEq] at hf
   rw [← hf, get_put, hlen]
   by_cases e : t = d
   ·subst e
    have hLj : L j = true := hL j (by omega) (by rw [ho]; exact hd)
    by_cases hlt : t < (T.F 0).m.length
    ·rw [if_pos (by simp [hLj, hlt]), if_pos ⟨rfl, hlt⟩]
    ·rw [if_neg (by simp [hlt]), if_neg (by simp [hlt])]
     exact ih (by omega) (fun i hi => hL i (by omega))
   ·rw [if_neg (by simp [Ne.symm e]), if_neg (by simp [e])]
    exact ih (by omega) (fun i hi => hL i (by omega))

theorem viewT (g : T.Good) (hn : T.Next L i) {o : Oper} (ho : ops[i]? = some o) {t : Nat} (ht : t ∈ o.looksAt ops.toArray) : T.lastv L t ops.length = get (T.F i).m t := by
 have h1 : ∀ x, i ≤ x → x < ops.length → L x = true → (ops[x]?).bind (·.dst) ≠ some t := by
  intro x hx hxl hL hd
  have hne : x ≠ i := fun e => by subst e; rw [hn.un] at hL; cases hL
  obtain ⟨ox, hox⟩ : ∃ o, ops[x]? = some o := ⟨_, List.getElem?_eq_getElem hxl⟩
  rw [hox] at hd
  have := Oper.apart_spec (g.tmps i x o ox (by omega) ho hox (hn.behind hxl hL))
  exact this.2.2 t hd ht
 have h2 : ∀ x, x < i → (ops[x]?).bind (·.dst) = some t → L x = true := by
  intro x hx hd
  cases hL : L x with
  | true => rfl
  | false =>
   obtain ⟨ox, hox⟩ : ∃ o, ops[x]? = some o := ⟨_, List.getElem?_eq_getElem (by have := hn.lt; omega)⟩
   rw [hox] at hd
   have := Oper.apart_spec (g.tmps x i ox o hx hox ho (hn.before hx hL))
   exact absurd ht (this.1 t hd)
 rw [lastv_from t i ops.length (Nat.le_of_lt hn.lt) h1, lastv_upto g t i (Nat.le_of_lt hn.lt) h2]

theorem lastv_put_ne (t i : Nat) (h : (ops[i]?).bind (·.dst) ≠ some t) : ∀ j, T.lastv (put L i) t j = T.lastv L t j
 | 0 => rfl
 | j + 1 => by
  simp only [lastv, lastv_put_ne t i h j]
  by_cases e : j = i
  ·subst e
   have : ((ops[j]?).bind (·.dst) == some t) = false := by simpa using h
   simp [this]
  ·simp [put, e]

theorem lastv_put (g : T.Good) (hn : T.Next L i) {o : Oper} (ho : ops[i]? = some o) {t : Nat} (hd : o.dst = some t) (hlt : t < (T.F 0).m.length) : T.lastv (put L i) t ops.length = some (T.v i) := by
 have h1 : ∀ x, i + 1 ≤ x → x < ops.length → put L i x = true → (ops[x]?).bind (·.dst) ≠ some t := by
  intro x hx hxl hL hd2
  have hL' : L x = true := by simpa [put, show x ≠ i by omega] using hL
  obtain ⟨ox, hox⟩ : ∃ o, ops[x]? = some o := ⟨_, List.getElem?_eq_getElem hxl⟩
  rw [hox] at hd2
  have := Oper.apart_spec (g.tmps i x o ox (by omega) ho hox (hn.behind hxl hL'))
  exact this.2.1 t hd hd2
 rw [lastv_from t (i + 1) ops.length hn.lt h1]
 simp only [lastv]
 rw [if_pos (by simp [put, ho, hd, hlt])]

structure Inv (T : DT E ops) (N : Nat) (ρ0 : Nat → Loc) (w0 : World) (L : Nat → Bool) (ρ : Nat → Loc) (a : Act) (w : World) : Prop where
 closed : T.ClosedL L
 wr : WR E N ρ (T.HL L) w
 goes : Goes (T.M 0) ρ0 w0 (T.HL L) ρ w
 avail : ∀ k, k < (T.M ops.length).length → ∀ v ∈ (T.cont L k ops.length).vals, v.all (T.availB L) = true
 defers : a.defers = []
 size : a.tmps.size = (T.F 0).m.length
 val : ∀ t v, T.lastv L t ops.length = some v → v.all (T.availB L) = true ∧ a.tmps[t]? = some (v.emb ρ)

theorem fresh_lt {k : Nat} (h : T.fresh i k = true) : (T.M i).length ≤ k ∧ k < (T.M (i + 1)).length := by simpa [fresh] using h

theorem avail_put {k : Nat} (h : T.availB L k = true) : T.availB (put L i) k = true := by
 simp only [availB, Bool.or_eq_true, decide_eq_true_eq, List.any_eq_true, Bool.and_eq_true, List.mem_range] at h ⊢
 rcases h with h | ⟨j, hj, h1, h2⟩
 ·exact .inl h
 ·exact .inr ⟨j, hj, by simp [put, h1], h2⟩

theorem avail_of_names (hn : T.Next L i) {k : Nat} (h : (decide (k < (T.M 0).length) || (List.range (i + 1)).any fun j => T.fresh j k && (j == i || T.bef i j)) = true) : T.availB (put L i) k = true := by
 simp only [availB, Bool.or_eq_true, decide_eq_true_eq, List.any_eq_true, Bool.and_eq_true, List.mem_range, beq_iff_eq] at h ⊢
 rcases h with h | ⟨j, hj, h1, h2⟩
 ·exact .inl h
 ·refine .inr ⟨j, by have := hn.lt; omega, ?_, h1⟩
  rcases h2 with rfl | h2
  ·simp [put]
  ·simp [put, hn.pre j h2]

theorem avail_not_fresh (g : T.Good) (hn : T.Next L i) {k : Nat} (h : T.availB L k = true) : T.fresh i k = false := by
 cases hf : T.fresh i k with
 | false => rfl
 | true =>
  have h0 := fresh_lt hf
  simp only [availB, Bool.or_eq_true, decide_eq_true_eq, List.any_eq_true, Bool.and_eq_true, List.mem_range] at h
  rcases h with h | ⟨j, hj, h1, h2⟩
  ·have := g.monoLe (Nat.zero_le i) (Nat.le_of_lt hn.lt); omega
  ·have h3 := fresh_lt h2
   have hne : j ≠ i := fun e => by subst e; rw [hn.un] at h1; cases h1
   by_cases hlt : j < i
   ·have := g.monoLe (show j + 1 ≤ i by omega) (Nat.le_of_lt hn.lt); omega
   ·have := g.monoLe (show i + 1 ≤ j by omega) (Nat.le_of_lt hj); omega

theorem avail_lt (g : T.Good) {k : Nat} (h : T.availB L k = true) : k < (T.M ops.length).length := by
 simp only [availB, Bool.or_eq_true, decide_eq_true_eq, List.any_eq_true, Bool.and_eq_true, List.mem_range] at h
 rcases h with h | ⟨j, hj, h1, h2⟩
 ·have := g.monoLe (Nat.zero_le ops.length) (Nat.le_refl _); omega
 ·have := fresh_lt h2
  have := g.monoLe (show j + 1 ≤ ops.length by omega) (Nat.le_refl _); omega

theorem all_lt {n : Nat} {p : Nat → Bool} {v : V} (h : v.all p = true) (hp : ∀ j, p j = true → j < n) : v.lt n = true := all_mono p _ (fun j hj => by simpa using hp j hj) v h

theorem Good.lenFi (g : T.Good) (hn : T.Next L i) : (T.F i).m.length = (T.F 0).m.length := g.lenF i (Nat.le_of_lt hn.lt)

theorem Inv.step (g : T.Good) {N : Nat} {ρ0 : Nat → Loc} {w0 : World} {ρ : Nat → Loc} {a : Act} {w : World} (h : T.Inv N ρ0 w0 L ρ a w) (hn : T.Next L i)
 {v' : Nat → Loc} {w' : World}
 (hw : WR E N v' (maskL (T.vis' i) (T.M (i + 1))) w') (hg : Goes (maskL (T.vis i) (T.M i)) ρ w (maskL (T.vis' i) (T.M (i + 1))) v' w') :
 ∃ ρ', (∀ k, k < (T.M (i + 1)).length → ρ' k = v' k) ∧ (∀ k, T.availB L k = true → ρ' k = ρ k) ∧ WR E N ρ' (T.HL (put L i)) w' ∧ Goes (T.M 0) ρ0 w0 (T.HL (put L i)) ρ' w' ∧
  ∀ k, k < (T.M ops.length).length → ∀ v ∈ (T.cont (put L i) k ops.length).vals, v.all (T.availB (put L i)) = true := by
 have hil := hn.lt
 have hmono := g.mono i hil
 have hle1 : (T.M (i + 1)).length ≤ (T.M ops.length).length := g.monoLe hil (Nat.le_refl _)
 have hgx : ∀ k, k < (T.M i).length → v' k = ρ k := fun k hk => hg.ext k (by simpa using hk)
 let ρ' : Nat → Loc := fun k => if T.fresh i k then v' k else ρ k
 have e1 : ∀ k, k < (T.M (i + 1)).length → ρ' k = v' k := by
  intro k hk
  by_cases hf : T.fresh i k = true
  ·simp [ρ', hf]
  ·have hlt : k < (T.M i).length := by
    simp only [fresh, Bool.and_eq_true, decide_eq_true_eq] at hf; omega
   simp [ρ', hf, hgx k hlt]
 have e2 : ∀ k, T.availB L k = true → ρ' k = ρ k := by
  intro k hk
  simp [ρ', avail_not_fresh g hn hk]
 have e3 : ∀ k, T.fresh i k = false → ρ' k = ρ k := by intro k hk; simp [ρ', hk]
 have near : ∀ k, k < (T.M (i + 1)).length → T.vis' i k = true → (T.M (i + 1))[k]? = some (T.cont (put L i) k ops.length) := by
  intro k hk hv
  by_cases ht : k ∈ T.tch i
  ·rw [cont_put g hn ht, List.getElem?_eq_getElem hk]; rfl
  ·have hlt : k < (T.M i).length := by
    by_cases hlt : k < (T.M i).length
    ·exact hlt
    ·exact absurd (g.new i k hil (by simp [fresh]; omega)) ht
   have hvi : T.vis i k = true := by
    simp only [vis', Bool.or_eq_true, decide_eq_true_eq] at hv
    rcases hv with hv | hv
    ·exact hv
    ·omega
   rw [cont_put_ne k i ht, g.keep i k hil hlt ht, view g hn hlt hvi]
 have far : ∀ k, ¬ (k < (T.M (i + 1)).length ∧ T.vis' i k = true) → T.cont (put L i) k ops.length = T.cont L k ops.length := by
  intro k hk
  refine cont_put_ne k i (fun ht => hk ⟨g.tlt i k hil ht, ?_⟩) _
  by_cases hlt : k < (T.M i).length
  ·simp [vis', g.sees i k hil ht hlt]
  ·simp [vis']; exact .inr (by omega)
 have hmem : ∀ k o, k < (T.M (i + 1)).length → T.vis' i k = true → (T.HL (put L i))[k]? = some o → (maskL (T.vis' i) (T.M (i + 1)))[k]? = some o := by
  intro k o hk hv ho
  obtain ⟨_, rfl⟩ := get_HL' ho
  rw [get_maskL, near k hk hv]
  simp [hv]
 have hold : ∀ k o, ¬ (k < (T.M (i + 1)).length ∧ T.vis' i k = true) → (T.HL (put L i))[k]? = some o → (T.HL L)[k]? = some o := by
  intro k o hk ho
  obtain ⟨hl, rfl⟩ := get_HL' ho
  rw [get_HL T L hl, far k hk]
 have wasown : ∀ b, Owned (maskL (T.vis i) (T.M i)) ρ b → ∃ k o, k < (T.M (i + 1)).length ∧ T.vis' i k = true ∧ (T.HL L)[k]? = some o ∧ o.own = true ∧ (ρ k).block = b := by
  rintro b ⟨k, o, hk, ho, hb⟩
  rw [get_maskL] at hk
  cases hmk : (T.M i)[k]? with
  | none => rw [hmk] at hk; cases hk
  | some o1 =>
   rw [hmk] at hk
   have hlt := (List.getElem?_eq_some_iff.1 hmk).1
   simp only [Option.map_some, Option.some.injEq] at hk
   by_cases hv : T.vis i k = true
   ·rw [if_pos hv] at hk
    subst hk
    refine ⟨k, o1, by omega, by simp [vis', hv], ?_, ho, hb⟩
    rw [get_HL T L (by omega), view g hn hlt hv, hmk]
   ·rw [if_neg hv] at hk; subst hk; cases ho
 have hblk : ∀ k o, ¬ (k < (T.M (i + 1)).length ∧ T.vis' i k = true) → (T.HL L)[k]? = some o → o ≠ .dead → w'.heap[(ρ k).block]? = w.heap[(ρ k).block]? := by
  intro k o hk ho hd
  have hbl := h.wr.block_lt ho hd
  refine hg.same _ hbl fun hown => ?_
  obtain ⟨k2, o2, h1, h2, h3, h4, h5⟩ := wasown _ hown
  have hne : k ≠ k2 := fun e => hk (by subst e; exact ⟨h1, h2⟩)
  cases hoo : o.own with
  | true => exact h.wr.inj k k2 o o2 ho h3 hoo h4 hne h5.symm
  | false =>
   have h6 := h.wr.own_ge h3 h4
   have h7 := h.wr.objs k o ho
   cases o with
   | cells cs e m fz =>
    cases m with
    | ro => obtain ⟨_, C, z, _, _, hm⟩ := h7; simp only at hm; rw [h5] at h6; omega
    | rw => cases hoo
    | grown => cases hoo
   | map es c => cases hoo
   | alts as => cases hoo
   | iter s p => cases hoo
   | dead => exact hd rfl
 have hav : ∀ k, k < (T.M ops.length).length → ∀ v ∈ (T.cont (put L i) k ops.length).vals, v.all (T.availB (put L i)) = true := by
  intro k hk v hv
  by_cases ht : k ∈ T.tch i
  ·rw [cont_put g hn ht] at hv
   have hkl := g.tlt i k hil ht
   rw [List.getElem?_eq_getElem hkl] at hv
   exact all_mono _ _ (fun j hj => avail_of_names hn hj) v (g.namesO i k _ hil ht (List.getElem?_eq_getElem hkl) v hv)
  ·rw [cont_put_ne k i ht] at hv
   exact all_mono _ _ (fun j hj => avail_put hj) v (h.avail k hk v hv)
 refine ⟨ρ', e1, e2, ⟨hw.low, ?_, ?_, ?_, ?_⟩, ?_, hav⟩
 ·intro k o ho
  obtain ⟨hl, rfl⟩ := get_HL' ho
  intro v hv
  rw [len_HL]
  exact all_lt (hav k hl v hv) (fun j hj => avail_lt g hj)
 ·intro k o ho
  by_cases hk : k < (T.M (i + 1)).length ∧ T.vis' i k = true
  ·rw [e1 k hk.1]
   have h1 := hmem k o hk.1 hk.2 ho
   exact (hw.objs k o h1).congr (by have := hw.vals k o h1; simpa using this) (fun j hj => e1 j hj)
  ·have h1 := hold k o hk ho
   obtain ⟨hl, _⟩ := get_HL' h1
   by_cases hd : o = .dead
   ·subst hd; trivial
   ·have hnf : T.fresh i k = false := by
     cases hf : T.fresh i k with
     | false => rfl
     | true => exact absurd ⟨(fresh_lt hf).2, by simp [vis']; exact .inr (fresh_lt hf).1⟩ hk
    rw [e3 k hnf]
    obtain ⟨_, rfl⟩ := get_HL' h1
    exact (h.wr.objs k _ h1).keptP (h.avail k hl) e2 (hblk k _ hk h1 hd)
 ·intro k k' o o' ho ho' hown hown' hne
  have mix : ∀ k k' o o', (k < (T.M (i + 1)).length ∧ T.vis' i k = true) → ¬ (k' < (T.M (i + 1)).length ∧ T.vis' i k' = true) → (T.HL (put L i))[k]? = some o → (T.HL (put L i))[k']? = some o' → o.own = true → o'.own = true → (ρ' k).block ≠ (ρ' k').block := by
   intro k k' o o' hk hk' ho ho' hown hown' heq
   have h1 := hmem k o hk.1 hk.2 ho
   have h2 := hold k' o' hk' ho'
   have hnf : T.fresh i k' = false := by
    cases hf : T.fresh i k' with
    | false => rfl
    | true => exact absurd ⟨(fresh_lt hf).2, by simp [vis']; exact .inr (fresh_lt hf).1⟩ hk'
   rw [e1 k hk.1, e3 k' hnf] at heq
   have hbl := h.wr.block_lt h2 (AObj.own_ne_dead hown')
   have := hg.owned (v' k).block (by rw [heq]; exact hbl) ⟨k, o, h1, hown, rfl⟩
   obtain ⟨k2, o2, h3, h4, h5, h6, h7⟩ := wasown _ this
   have hne2 : k2 ≠ k' := fun e => hk' (by subst e; exact ⟨h3, h4⟩)
   exact h.wr.inj k2 k' o2 o' h5 h2 h6 hown' hne2 (h7.trans heq)
  by_cases hk : k < (T.M (i + 1)).length ∧ T.vis' i k = true <;> by_cases hk' : k' < (T.M (i + 1)).length ∧ T.vis' i k' = true
  ·rw [e1 k hk.1, e1 k' hk'.1]
   exact hw.inj k k' o o' (hmem k o hk.1 hk.2 ho) (hmem k' o' hk'.1 hk'.2 ho') hown hown' hne
  ·exact mix k k' o o' hk hk' ho ho' hown hown'
  ·exact fun e => mix k' k o' o hk' hk ho' ho hown' hown e.symm
  ·have nf : ∀ k, ¬ (k < (T.M (i + 1)).length ∧ T.vis' i k = true) → T.fresh i k = false := by
    intro k hk
    cases hf : T.fresh i k with
    | false => rfl
    | true => exact absurd ⟨(fresh_lt hf).2, by simp [vis']; exact .inr (fresh_lt hf).1⟩ hk
   rw [e3 k (nf k hk), e3 k' (nf k' hk')]
   exact h.wr.inj k k' o o' (hold k o hk ho) (hold k' o' hk' ho') hown hown' hne
 ·intro gl cs hgl
  obtain ⟨h1, h2, C, e, z, hC, h4, h3⟩ := hw.globs gl cs hgl
  exact ⟨h1, h2, C, e, z, hC, h4, fun j v hv => by rw [h3 j v hv, emb_flat (h2 v (List.mem_of_getElem? hv)).1 v' ρ']⟩
 ·have hsub : ∀ b, Owned (maskL (T.vis i) (T.M i)) ρ b → Owned (T.HL L) ρ b := by
   intro b hb
   obtain ⟨k, o, _, _, h3, h4, h5⟩ := wasown b hb
   exact ⟨k, o, h3, h4, h5⟩
  have hown' : ∀ b, b < w.heap.size → Owned (T.HL (put L i)) ρ' b → Owned (T.HL L) ρ b := by
   rintro b hb ⟨k, o, ho, hown, hbk⟩
   by_cases hk : k < (T.M (i + 1)).length ∧ T.vis' i k = true
   ·rw [e1 k hk.1] at hbk
    exact hsub b (hg.owned b hb ⟨k, o, hmem k o hk.1 hk.2 ho, hown, hbk⟩)
   ·have hnf : T.fresh i k = false := by
     cases hf : T.fresh i k with
     | false => rfl
     | true => exact absurd ⟨(fresh_lt hf).2, by simp [vis']; exact .inr (fresh_lt hf).1⟩ hk
    rw [e3 k hnf] at hbk
    exact ⟨k, o, hold k o hk ho, hown, hbk⟩
  have g0 := h.goes
  refine ⟨hg.os.trans g0.os, hg.tape.trans g0.tape, hg.output.trans g0.output, Nat.le_trans g0.size hg.size, ?_, ?_, ?_, ?_⟩
  ·intro b hb hno
   rw [hg.same b (Nat.lt_of_lt_of_le hb g0.size) (fun ho => hno (g0.owned b hb (hsub b ho)))]
   exact g0.same b hb hno
  ·intro b hb ho
   exact g0.owned b hb (hown' b (Nat.lt_of_lt_of_le hb g0.size) ho)
  ·intro k hk
   have hnf : T.fresh i k = false := by
    cases hf : T.fresh i k with
    | false => rfl
    | true => have := (fresh_lt hf).1; have := g.monoLe (Nat.zero_le i) (Nat.le_of_lt hil); omega
   rw [e3 k hnf]
   exact g0.ext k hk
  ·rw [len_HL]; have := g0.len; rw [len_HL] at this; exact this

theorem names_lt (g : T.Good) {j k : Nat} (hj : j < ops.length) (h : (decide (k < (T.M 0).length) || (List.range (j + 1)).any fun i => T.fresh i k && (i == j || T.bef j i)) = true) : k < (T.M (j + 1)).length := by
 simp only [Bool.or_eq_true, decide_eq_true_eq, List.any_eq_true, Bool.and_eq_true, List.mem_range] at h
 rcases h with h | ⟨x, hx, h1, _⟩
 ·have := g.monoLe (Nat.zero_le (j + 1)) hj; omega
 ·have := fresh_lt h1
  have := g.monoLe (show x + 1 ≤ j + 1 by omega) hj; omega

theorem Good.ltM (g : T.Good) (h0 : ∀ (k : Nat) (o : AObj), (T.M 0)[k]? = some o → ltL (T.M 0).length o.vals) : ∀ i, i ≤ ops.length → ∀ (k : Nat) (o : AObj), (T.M i)[k]? = some o → ltL (T.M i).length o.vals := by
 intro i
 induction i with
 | zero => intro _; exact h0
 | succ i ih =>
  intro hi k o ho
  by_cases ht : k ∈ T.tch i
  ·exact fun v hv => all_lt (g.namesO i k o hi ht ho v hv) (fun j hj => names_lt g hi hj)
  ·by_cases hlt : k < (T.M i).length
   ·rw [g.keep i k hi hlt ht] at ho
    exact ltL_mono (g.mono i hi) (ih (by omega) k o ho)
   ·exact absurd (g.new i k hi (by simp [fresh]; exact ⟨by omega, (List.getElem?_eq_some_iff.1 ho).1⟩)) ht

theorem Good.ltF (g : T.Good) (h0 : ∀ t v, get (T.F 0).m t = some v → v.lt (T.M 0).length = true) : ∀ i, i ≤ ops.length → ∀ t v, get (T.F i).m t = some v → v.lt (T.M i).length = true := by
 intro i
 induction i with
 | zero => intro _; exact h0
 | succ i ih =>
  intro hi t v hv
  obtain ⟨o, ho⟩ : ∃ o, ops[i]? = some o := ⟨_, List.getElem?_eq_getElem hi⟩
  have hf := g.frame i o ho
  have old : get (T.F i).m t = some v → v.lt (T.M (i + 1)).length = true := fun h => lt_mono (g.mono i hi) (ih (by omega) t v h)
  cases hd : o.dst with
  | none => rw [hd] at hf; simp only [Fr.set, Option.some.injEq] at hf; rw [← hf] at hv; exact old hv
  | some d =>
   rw [hd] at hf; simp only [Fr.set, Option.some.injEq] at hf
   rw [← hf, get_put] at hv
   split at hv
   ·simp only [Option.some.injEq] at hv
    subst hv
    exact all_lt (g.namesV i hi) (fun j hj => names_lt g hi hj)
   ·exact old hv

theorem lastv_none {t : Nat} (ht : ¬ t < (T.F 0).m.length) : ∀ j, T.lastv L t j = none
 | 0 => by simp only [lastv, get_eq]; rw [List.getElem?_eq_none (by omega)]; rfl
 | j + 1 => by simp only [lastv]; rw [if_neg (by simp [ht]), lastv_none ht j]

def over (f : Fr) (ρ : Nat → Loc) (a : Act) : Act := { a with tmps := a.tmps.mapIdx fun t x => match get f.m t with | some v => v.emb ρ | none => x }

theorem over_get (f : Fr) (ρ : Nat → Loc) (a : Act) (t : Nat) : (over f ρ a).tmps[t]? = (a.tmps[t]?).map fun x => match get f.m t with | some v => v.emb ρ | none => x := by
 simp [over]

theorem Inv.look (g : T.Good) {N : Nat} {ρ0 : Nat → Loc} {w0 : World} {ρ : Nat → Loc} {a : Act} {w : World} (h : T.Inv N ρ0 w0 L ρ a w) (hn : T.Next L i) {o : Oper} (ho : ops[i]? = some o) {t : Nat} (ht : t ∈ o.looksAt ops.toArray) :
 (over (T.F i) ρ a).tmps[t]? = a.tmps[t]? := by
 rw [over_get]
 cases hv : get (T.F i).m t with
 | none => simp
 | some v =>
  have := (h.val t v (by rw [viewT g hn ho ht, hv])).2
  rw [this]
  simp

theorem Inv.next (g : T.Good) {N : Nat} {ρ0 : Nat → Loc} {w0 : World} {ρ : Nat → Loc} {a : Act} {w : World} (h : T.Inv N ρ0 w0 L ρ a w) (hn : T.Next L i) {o : Oper} (ho : ops[i]? = some o)
 (hM0 : ∀ (k : Nat) (o : AObj), (T.M 0)[k]? = some o → ltL (T.M 0).length o.vals) (hF0 : ∀ t v, get (T.F 0).m t = some v → v.lt (T.M 0).length = true) {Q : Exit → Act → World → Prop} {K : Act → World → Prop}
 (hK : ∀ ρ' a' w', T.Inv N ρ0 w0 (put L i) ρ' a' w' → K a' w') : wpOp E.P ops.toArray Q i K a w := by
 have hil := hn.lt
 have hlooks := fun t ht => h.look g hn ho (t := t) ht
 have hFR : FR (T.M i).length ρ (T.F i) (over (T.F i) ρ a) := by
  refine ⟨h.defers, by simp [over, h.size, g.lenFi hn], fun t v hv => ⟨g.ltF hF0 i (Nat.le_of_lt hil) t v hv, ?_⟩⟩
  rw [over_get]
  have hlt : t < (T.F i).m.length := by
   rw [get_eq] at hv
   by_cases hlt : t < (T.F i).m.length
   ·exact hlt
   ·rw [List.getElem?_eq_none (by omega)] at hv; cases hv
  have : t < a.tmps.size := by rw [h.size, ← g.lenFi hn]; exact hlt
  rw [Array.getElem?_eq_getElem this, hv]
  rfl
 have hexe : execOp (over (T.F i) ρ a).eval o = execOp a.eval o := by
  refine execOp_congr o (fun cs b => g.noSel i o cs b ho) fun x hx => ?_
  cases x with
  | tmp t =>
   have ht : t ∈ o.looksAt ops.toArray := List.mem_append_left _ (List.mem_filterMap.2 ⟨.tmp t, by simpa using hx, rfl⟩)
   simp only [Act.eval, Array.getD_eq_getD_getElem?, hlooks t ht]
  | _ => rfl
 have hwant : Region.wanted o (yielded ops.toArray (over (T.F i) ρ a).tmps) = Region.wanted o (yielded ops.toArray a.tmps) := by
  unfold Region.wanted
  cases hg : o.guard with
  | none => rfl
  | some gw =>
   obtain ⟨gi, want⟩ := gw
   have : yielded ops.toArray (over (T.F i) ρ a).tmps gi = yielded ops.toArray a.tmps gi := by
    unfold yielded
    cases ht : (ops.toArray[gi]?).bind (·.dst) with
    | none => rfl
    | some t =>
     have ht' : t ∈ o.looksAt ops.toArray := List.mem_append_right _ (by simp only [hg, ht]; simp)
     have := hlooks t ht'
     simp only [Option.bind_some, this]
   simp only [this]
 have hWR : WR E N ρ (maskL (T.vis i) (T.M i)) w := by
  refine h.wr.sub _ (fun k x hx => ?_) (fun k x hx => ?_)
  ·rw [get_maskL] at hx
   cases hmk : (T.M i)[k]? with
   | none => rw [hmk] at hx; cases hx
   | some y =>
    rw [hmk] at hx
    simp only [Option.map_some, Option.some.injEq] at hx
    have hlt := (List.getElem?_eq_some_iff.1 hmk).1
    by_cases hv : T.vis i k = true
    ·rw [if_pos hv] at hx; subst hx
     right
     rw [get_HL T L (by have := g.monoLe (Nat.le_of_lt hil) (Nat.le_refl _); omega), view g hn hlt hv, hmk]
    ·rw [if_neg hv] at hx; exact .inl hx.symm
  ·rw [get_maskL] at hx
   cases hmk : (T.M i)[k]? with
   | none => rw [hmk] at hx; cases hx
   | some y =>
    rw [hmk] at hx
    simp only [Option.map_some, Option.some.injEq] at hx
    rw [len_maskL]
    split at hx
    ·subst hx; exact g.ltM hM0 i (Nat.le_of_lt hil) k y hmk
    ·subst hx; exact ltL_nil _
 have hclosed : T.ClosedL (put L i) := by
  intro j hj hL k hk
  by_cases e : k = i
  ·subst e; simp [put]
  ·simp only [put, e, if_false]
   by_cases e2 : j = i
   ·subst e2; exact hn.pre k hk
   ·exact h.closed j hj (by simpa [put, e2] using hL) k hk
 have hvals : ∀ (ρ' : Nat → Loc), (∀ k, T.availB L k = true → ρ' k = ρ k) → ∀ t v, T.lastv (put L i) t ops.length = some v → v.all (T.availB (put L i)) = true ∧ (a.put o.dst ((T.v i).emb ρ')).tmps[t]? = some (v.emb ρ') := by
  intro ρ' he t v hv
  by_cases hlt : t < (T.F 0).m.length
  ·by_cases hd : o.dst = some t
   ·rw [lastv_put g hn ho hd hlt] at hv
    simp only [Option.some.injEq] at hv
    subst hv
    refine ⟨all_mono _ _ (fun k hk => avail_of_names hn hk) _ (g.namesV i hil), ?_⟩
    simp only [hd, Act.put]
    rw [Array.getElem?_setIfInBounds_self_of_lt (by rw [h.size]; exact hlt)]
   ·rw [lastv_put_ne t i (by rw [ho]; exact hd)] at hv
    obtain ⟨h1, h2⟩ := h.val t v hv
    refine ⟨all_mono _ _ (fun k hk => avail_put hk) v h1, ?_⟩
    rw [emb_all h1 he]
    cases hdd : o.dst with
    | none => exact h2
    | some d =>
     simp only [Act.put]
     rw [Array.getElem?_setIfInBounds_ne (fun e => hd (by rw [hdd, e]))]
     exact h2
  ·rw [lastv_none hlt] at hv; cases hv
 have hsize : ∀ u, (a.put o.dst u).tmps.size = (T.F 0).m.length := fun u => by cases o.dst <;> simp [Act.put, h.size]
 have hdef : ∀ u, (a.put o.dst u).defers = [] := fun u => by cases o.dst <;> simp [Act.put, h.defers]
 unfold wpOp
 have ho' : ops.toArray[i]? = some o := by simpa using ho
 rw [ho']
 simp only
 rcases g.exec i o ho with ⟨hw0, hv0, hM, ht0⟩ | ⟨hw1, hex⟩
 ·rw [if_neg (by rw [← hwant, wanted_run hFR hw0]; simp)]
  have hHL : T.HL (put L i) = T.HL L := by
   unfold HL
   exact List.map_congr_left fun k _ => cont_put_ne k i (by rw [ht0]; simp) _
  refine hK ρ _ w ⟨hclosed, by rw [hHL]; exact h.wr, by rw [hHL]; exact h.goes, fun k hk v hv => ?_, hdef _, hsize _, ?_⟩
  ·rw [cont_put_ne k i (by rw [ht0]; simp)] at hv
   exact all_mono _ _ (fun j hj => avail_put hj) v (h.avail k hk v hv)
  ·have := hvals ρ (fun _ _ => rfl)
   rw [hv0] at this
   exact this
 ·rw [if_pos (by rw [← hwant, wanted_run hFR hw1])]
  left
  have h1 := hex N ρ w _ hWR hFR
  rw [hexe] at h1
  refine h1.upon fun u w' ⟨v', hu, hw', hg', hlt⟩ => ?_
  subst hu
  obtain ⟨ρ', e1, e2, h3, h4, h5⟩ := h.step g hn hw' hg'
  rw [← emb_lt hlt e1]
  exact hK ρ' _ w' ⟨hclosed, h3, h4, h5, hdef _, hsize _, hvals ρ' e2⟩

theorem Inv.done (g : T.Good) {N : Nat} {ρ0 : Nat → Loc} {w0 : World} {ρ : Nat → Loc} {a : Act} {w : World} (h : T.Inv N ρ0 w0 L ρ a w) (hall : ∀ i, i < ops.length → L i = true) :
 FR (T.M ops.length).length ρ (T.F ops.length) a ∧ WR E N ρ (T.M ops.length) w ∧ Goes (T.M 0) ρ0 w0 (T.M ops.length) ρ w := by
 have e : T.HL L = T.M ops.length := by
  apply List.ext_getElem?
  intro k
  by_cases hk : k < (T.M ops.length).length
  ·rw [get_HL T L hk, cont_upto g k ops.length (Nat.le_refl _) (fun i hi _ => hall i hi), List.getElem?_eq_getElem hk]; rfl
  ·rw [List.getElem?_eq_none (by simp; omega), List.getElem?_eq_none (by omega)]
 refine ⟨⟨h.defers, by rw [h.size, g.lenF _ (Nat.le_refl _)], fun t v hv => ?_⟩, e ▸ h.wr, e ▸ h.goes⟩
 have := h.val t v (by rw [lastv_upto g t ops.length (Nat.le_refl _) (fun i hi _ => hall i hi), hv])
 exact ⟨all_lt this.1 (fun j hj => avail_lt g hj), this.2⟩

theorem Inv.init (g : T.Good) {N : Nat} {ρ : Nat → Loc} {a : Act} {w : World} (hf : FR (T.M 0).length ρ (T.F 0) a) (hw : WR E N ρ (T.M 0) w) : T.Inv N ρ w (fun _ => false) ρ a w := by
 have hc : ∀ k j, T.cont (fun _ => false) k j = ((T.M 0)[k]?).getD .dead := by
  intro k j
  induction j with
  | zero => rfl
  | succ j ih => simp only [cont]; rw [if_neg (by simp), ih]
 have hl : ∀ t j, T.lastv (fun _ => false) t j = get (T.F 0).m t := by
  intro t j
  induction j with
  | zero => rfl
  | succ j ih => simp only [lastv]; rw [if_neg (by simp), ih]
 have h0 := g.monoLe (Nat.zero_le ops.length) (Nat.le_refl _)
 have hget : ∀ (k : Nat) (o : AObj), (T.HL (fun _ => false))[k]? = some o → o = .dead ∨ (T.M 0)[k]? = some o := by
  intro k o ho
  obtain ⟨_, rfl⟩ := get_HL' ho
  rw [hc]
  cases hmk : (T.M 0)[k]? with
  | none => exact .inl rfl
  | some x => exact .inr rfl
 refine ⟨(fun j _ h => by cases h), hw.sub _ hget (fun k o ho => ?_), ⟨rfl, rfl, rfl, Nat.le_refl _, fun _ _ _ => rfl, ?_, fun _ _ => rfl, by simpa using h0⟩, fun k _ v hv => ?_, hf.defers, by rw [hf.size], fun t v hv => ?_⟩
 ·rw [len_HL]
  rcases hget k o ho with rfl | h1
  ·exact ltL_nil _
  ·exact ltL_mono h0 (hw.vals k o h1)
 ·rintro b _ ⟨k, o, ho, hown, hb⟩
  rcases hget k o ho with rfl | h1
  ·cases hown
  ·exact ⟨k, o, h1, hown, hb⟩
 ·rw [hc] at hv
  cases hmk : (T.M 0)[k]? with
  | none => rw [hmk] at hv; cases hv
  | some x =>
   rw [hmk] at hv
   exact all_mono _ _ (fun j hj => by simp only [availB, Bool.or_eq_true]; exact .inl hj) v (hw.vals k x hmk v hv)
 ·rw [hl] at hv
  have := hf.val t v hv
  exact ⟨all_mono _ _ (fun j hj => by simp only [availB, Bool.or_eq_true]; exact .inl hj) v this.1, this.2⟩

theorem bef_listed (g : T.Good) (hc : T.ClosedL L) {i : Nat} {o : Oper} (hi : i < ops.length) (ho : ops[i]? = some o) (h : ∀ e ∈ o.after, Region.binds .any e = true → L e.on = true) : ∀ j, T.bef i j = true → L j = true := by
 intro j hj
 obtain ⟨o', ho', e, he, hb, hlt, hor⟩ := g.befE i j hi hj
 rw [ho] at ho'
 simp only [Option.some.injEq] at ho'
 subst ho'
 have h1 := h e he hb
 rcases hor with rfl | h2
 ·exact h1
 ·exact hc e.on (by omega) h1 j h2

theorem any (g : T.Good) {N : Nat} {ρ0 : Nat → Loc} {w0 : World} (hM0 : ∀ (k : Nat) (o : AObj), (T.M 0)[k]? = some o → ltL (T.M 0).length o.vals) (hF0 : ∀ t v, get (T.F 0).m t = some v → v.lt (T.M 0).length = true) {Q : Exit → Act → World → Prop}
 (hQ : ∀ ρ' a' w', FR (T.M ops.length).length ρ' (T.F ops.length) a' → WR E N ρ' (T.M ops.length) w' → Goes (T.M 0) ρ0 w0 (T.M ops.length) ρ' w' → Q .normal a' w') :
 ∀ (fuel : Nat) (listed : Array Bool) (ρ : Nat → Loc) (a : Act) (w : World), listed.size = ops.length → ops.length ≤ listed.toList.count true + fuel → T.Inv N ρ0 w0 (fun j => listed.getD j false) ρ a w →
  wpAny E.P .any ops.toArray Q fuel listed a w := by
 have fin : ∀ (listed : Array Bool) (ρ : Nat → Loc) (a : Act) (w : World), listed.size = ops.length → T.Inv N ρ0 w0 (fun j => listed.getD j false) ρ a w → (∀ i, i < ops.length → listed.getD i false = true) → Q .normal a w := by
  intro listed ρ a w _ h hall
  obtain ⟨h1, h2, h3⟩ := h.done g hall
  exact hQ ρ a w h1 h2 h3
 have nothing : ∀ (listed : Array Bool), listed.size = ops.length → Region.ready .any ops.toArray listed = [] → ∀ i, i < ops.length → listed.getD i false = true := by
  intro listed hs hr i
  induction i using Nat.strongRecOn with
  | _ i ih =>
   intro hi
   cases hli : listed.getD i false with
   | true => rfl
   | false =>
    exfalso
    have : i ∈ Region.ready .any ops.toArray listed := by
     rw [mem_ready]
     refine ⟨?_, ops[i], by simp [hi], fun e he hb => ?_⟩
     ·have : i < listed.size := by omega
      simp only [Array.getD_eq_getD_getElem?, Array.getElem?_eq_getElem this, Option.getD_some] at hli ⊢
      exact hli
     ·have := (g.edge i ops[i] (List.getElem?_eq_getElem hi) e he hb).1
      exact ih e.on this (by omega)
    rw [hr] at this
    cases this
 intro fuel
 induction fuel with
 | zero =>
  intro listed ρ a w hs hc h
  have hall : ∀ b ∈ listed.toList, true = b := List.count_eq_length.1 (by
   have := List.count_le_length (a := true) (l := listed.toList)
   simp only [Array.length_toList] at this ⊢
   omega)
  have hall' : ∀ i, i < ops.length → listed.getD i false = true := by
   intro i hi
   have hlt : i < listed.size := by omega
   have := hall listed[i] (by simp)
   simp [Array.getD_eq_getD_getElem?, hlt, ← this]
  refine ⟨?_, fin listed ρ a w hs h hall'⟩
  cases hr : Region.ready .any ops.toArray listed with
  | nil => rfl
  | cons x xs =>
   have hx : x ∈ Region.ready .any ops.toArray listed := by rw [hr]; simp
   obtain ⟨h1, o, ho, _⟩ := mem_ready.1 hx
   have hxl : x < ops.length := by have := (Array.getElem?_eq_some_iff.1 ho).1; simpa using this
   have h2 := hall' x hxl
   have : x < listed.size := by omega
   simp only [Array.getD_eq_getD_getElem?, Array.getElem?_eq_getElem this, Option.getD_some] at h1 h2
   rw [h1] at h2; cases h2
 | succ fuel ih =>
  intro listed ρ a w hs hc h
  refine ⟨fun hr => fin listed ρ a w hs h (nothing listed hs hr), fun i hi => ?_⟩
  obtain ⟨h1, o, ho, hall⟩ := mem_ready.1 hi
  have ho' : ops[i]? = some o := by simpa using ho
  have hil : i < ops.length := (List.getElem?_eq_some_iff.1 ho').1
  have hsl : i < listed.size := by omega
  have hun : listed.getD i false = false := by
   simp only [Array.getD_eq_getD_getElem?, Array.getElem?_eq_getElem hsl, Option.getD_some] at h1 ⊢
   exact h1
  have hn : T.Next (fun j => listed.getD j false) i := ⟨hil, hun, bef_listed g h.closed hil ho' hall, h.closed⟩
  refine h.next g hn ho' hM0 hF0 fun ρ' a' w' h' => ih _ ρ' a' w' (by simpa using hs) ?_ ?_
  ·rw [Array.toList_setIfInBounds, List.count_set (by simpa using hsl)]
   have hb : listed.toList[i]'(by simpa using hsl) = false := by
    simp only [Array.getD_eq_getD_getElem?, Array.getElem?_eq_getElem hsl, Option.getD_some] at hun
    simpa using hun
   simp only [hb]
   have e0 : ((false == true) = true) = False := by simp
   have e1 : ((true == true) = true) = True := by simp
   simp only [e0, e1, if_false, if_true]
   omega
  ·have : (fun j => (listed.setIfInBounds i true).getD j false) = put (fun j => listed.getD j false) i := by
    funext j
    by_cases e : j = i
    ·subst e; simp [put, hsl]
    ·simp only [put, e, if_false]
     exact getD_set_ne false (Ne.symm e)
   rw [this]
   exact h'

theorem region (g : T.Good) (hm : E.P.follows .mixedOrders = true) {id : Nat} {N : Nat} {ρ : Nat → Loc} {a : Act} {w : World} (hf : FR (T.M 0).length ρ (T.F 0) a) (hw : WR E N ρ (T.M 0) w) {Q : Exit → Act → World → Prop}
 (hQ : ∀ ρ' a' w', FR (T.M ops.length).length ρ' (T.F ops.length) a' → WR E N ρ' (T.M ops.length) w' → Goes (T.M 0) ρ w (T.M ops.length) ρ' w' → Q .normal a' w') : (Code.region id ops.toArray true).wp E.P Q a w := by
 refine wp_region_any hm ?_
 have hw1 : WR E N ρ (T.M 0) { w with drawn := w.drawn + 1 } := hw.drawn rfl
 have h0 := Inv.init g hf hw1
 refine any g (ρ0 := ρ) (w0 := { w with drawn := w.drawn + 1 }) hw.vals (fun t v hv => (hf.val t v hv).1) (fun ρ' a' w' h1 h2 h3 => hQ ρ' a' w' h1 h2 ⟨h3.os, h3.tape, h3.output, h3.size, h3.same, h3.owned, h3.ext, h3.len⟩) _ _ ρ a _ (by simp) (by simp) ?_
 have : (fun j => (Array.replicate ops.toArray.size false).getD j false) = fun _ => false := by
  funext j
  simp [Array.getD_eq_getD_getElem?]
  by_cases h : j < ops.length <;> simp [h]
 rw [this]
 exact h0

end DT
end Go.Am

namespace Go.Am
open Go

variable {E : Env} {P : Program} {vis : Nat → Bool} {H : Hp} {W : List Nat}

def maskH (vis : Nat → Bool) (H : Hp) : Hp := { H with objs := maskL vis H.objs }

def Lc (vis : Nat → Bool) (H : Hp) (W : List Nat) (x y : Out) : Prop :=
 ∀ r H', x = some (r, H') → (∃ H'', y = some (r, H'') ∧ H''.objs = maskL (fun k => vis k || decide (H.objs.length ≤ k)) H'.objs) ∧ H.objs.length ≤ H'.objs.length ∧ ∀ k, k < H.objs.length → k ∉ W → H'.objs[k]? = H.objs[k]?

theorem maskL_low {n : Nat} {l : List AObj} (h : l.length ≤ n) : maskL (fun k => vis k || decide (n ≤ k)) l = maskL vis l := by
 apply List.ext_getElem?
 intro k
 rw [get_maskL, get_maskL]
 cases hk : l[k]? with
 | none => rfl
 | some o =>
  have := (List.getElem?_eq_some_iff.1 hk).1
  have e : decide (n ≤ k) = false := by simp; omega
  simp [e]

@[simp] theorem maskH_objs : (maskH vis H).objs = maskL vis H.objs := rfl
@[simp] theorem maskH_size : (maskH vis H).size = H.size := by simp [Hp.size]
theorem maskH_get {k : Nat} (h : vis k = true) : (maskH vis H).objs[k]? = H.objs[k]? := by
 rw [maskH_objs, get_maskL]
 cases H.objs[k]? <;> simp [h]

theorem Lc.none (y : Out) : Lc vis H W none y := fun r H' h => by cases h
theorem Lc.same (x : R) : Lc vis H W (some (x, H)) (some (x, maskH vis H)) := fun r H' h => by
 simp only [Option.some.injEq, Prod.mk.injEq] at h
 obtain ⟨rfl, rfl⟩ := h
 exact ⟨⟨_, rfl, (maskL_low (Nat.le_refl _)).symm⟩, Nat.le_refl _, fun _ _ _ => rfl⟩
theorem Lc.ok (v : V) : Lc vis H W (Am.ok v H) (Am.ok v (maskH vis H)) := Lc.same _
theorem Lc.okO (v : Option V) : Lc vis H W (Am.okO v H) (Am.okO v (maskH vis H)) := by
 cases v with
 | none => exact Lc.none _
 | some v => exact Lc.same _
theorem Lc.okE {v v' : Option V} (h : v' = v) : Lc vis H W (Am.okO v H) (Am.okO v' (maskH vis H)) := by subst h; exact Lc.okO _

theorem mask_append (H : Hp) (o : AObj) : maskL vis H.objs ++ [o] = maskL (fun k => vis k || decide (H.objs.length ≤ k)) (H.objs ++ [o]) := by
 apply List.ext_getElem?
 intro k
 rw [get_maskL]
 by_cases hk : k < H.objs.length
 ·rw [List.getElem?_append_left (by simpa using hk), List.getElem?_append_left hk, get_maskL]
  have e : decide (H.objs.length ≤ k) = false := by simp; omega
  simp [e]
 ·rw [List.getElem?_append_right (by simp; omega), List.getElem?_append_right (by omega)]
  have e : decide (H.objs.length ≤ k) = true := by simp; omega
  simp [e]

theorem Lc.new (x : R) (o : AObj) : Lc vis H W (some (x, H.new o)) (some (x, (maskH vis H).new o)) := fun r H' h => by
 simp only [Option.some.injEq, Prod.mk.injEq] at h
 obtain ⟨rfl, rfl⟩ := h
 refine ⟨⟨_, rfl, ?_⟩, by simp [Hp.new], fun k hk _ => ?_⟩
 ·simp only [Hp.new, maskH_objs]
  exact mask_append H o
 ·simp only [Hp.new]
  rw [List.getElem?_append_left hk]

theorem mask_set (l : List AObj) {k : Nat} (o : AObj) (hk : vis k = true) : (maskL vis l).set k o = maskL vis (l.set k o) := by
 apply List.ext_getElem?
 intro j
 rw [get_maskL, List.getElem?_set, List.getElem?_set, get_maskL, len_maskL]
 by_cases e : k = j
 ·subst e
  rw [if_pos rfl, if_pos rfl]
  by_cases hl : k < l.length
  ·simp [hl, hk]
  ·simp [hl]
 ·rw [if_neg e, if_neg e]

theorem Lc.write (x : R) {k : Nat} (o : AObj) (fl : Bool) (hk : vis k = true) (hW : k ∈ W) : Lc vis H W (some (x, H.write k o fl)) (some (x, (maskH vis H).write k o fl)) := fun r H' h => by
 simp only [Option.some.injEq, Prod.mk.injEq] at h
 obtain ⟨rfl, rfl⟩ := h
 refine ⟨⟨_, rfl, ?_⟩, by simp [Hp.write], fun j hj hn => ?_⟩
 ·simp only [Hp.write, maskH_objs]
  rw [mask_set _ _ hk, maskL_low (by simp)]
 ·simp only [Hp.write]
  rw [List.getElem?_set_ne (fun e => hn (by subst e; exact hW))]

theorem Lc.writeNew (x : R) {k : Nat} (o o2 : AObj) (fl : Bool) (hk : vis k = true) (hW : k ∈ W) : Lc vis H W (some (x, (H.write k o fl).new o2)) (some (x, ((maskH vis H).write k o fl).new o2)) := fun r H' h => by
 simp only [Option.some.injEq, Prod.mk.injEq] at h
 obtain ⟨rfl, rfl⟩ := h
 refine ⟨⟨_, rfl, ?_⟩, by simp [Hp.write, Hp.new], fun j hj hn => ?_⟩
 ·simp only [Hp.write, Hp.new, maskH_objs]
  rw [mask_set _ _ hk]
  have := mask_append (vis := vis) (H.write k o fl) o2
  simp only [Hp.write, List.length_set] at this
  exact this
 ·simp only [Hp.write, Hp.new]
  rw [List.getElem?_append_left (by simpa using hj), List.getElem?_set_ne (fun e => hn (by subst e; exact hW))]

theorem newCells_loc (x : R) (cs : List V) (e : TypeId) (m : Am.Mode) : Lc vis H W ((newCells H cs e m).map fun h => (x, h)) ((newCells (maskH vis H) cs e m).map fun h => (x, h)) := by
 unfold newCells
 split
 ·exact Lc.new x _
 ·exact Lc.none _

theorem putCells_loc (x : R) {k o : Nat} {vs : List V} (hk : vis k = true) (hW : k ∈ W) : Lc vis H W ((putCells H k o vs).map fun h => (x, h)) ((putCells (maskH vis H) k o vs).map fun h => (x, h)) := by
 unfold putCells
 rw [maskH_get hk]
 split
 ·split
  ·exact Lc.write x _ _ hk hW
  ·exact Lc.none _
 ·exact Lc.none _

theorem loadV_loc {t : TypeId} {p : V} (h : ∀ k ∈ p.ids, vis k = true) : loadV E t (maskH vis H) p = loadV E t H p := by
 unfold loadV
 have : cellsOf E (maskH vis H) p = cellsOf E H p := by
  unfold cellsOf
  split
  ·rw [maskH_get (h _ (by simp [V.ids]))]
  ·rfl
  ·rfl
 rw [this]

theorem shown_loc {size : Nat} {v : V} (h : ∀ k ∈ v.ids, vis k = true) : shown (maskH vis H) size v = shown H size v := by
 unfold shown
 split
 ·rfl
 ·rfl
 ·split
  ·rfl
  ·rw [maskH_get (h _ (by simp [V.ids]))]
 ·rfl
 ·rfl

theorem convV_loc {s d : TypeId} {v : V} (h : ∀ k ∈ v.ids, vis k = true) : Lc vis H W (convV P s d v H) (convV P s d v (maskH vis H)) := by
 unfold convV
 split
 ·exact Lc.ok _
 ·exact Lc.ok _
 ·exact Lc.ok _
 ·split
  ·split
   ·rw [maskH_size]; exact Lc.new _ _
   ·exact Lc.none _
  ·split
   ·rw [maskH_size]; exact Lc.new _ _
   ·exact Lc.none _
  ·exact Lc.none _
 ·split
  ·exact Lc.ok _
  ·exact Lc.ok _
  ·exact Lc.none _
 ·split
  ·exact Lc.ok _
  ·exact Lc.ok _
  ·exact Lc.none _
 ·rw [shown_loc h]
  split
  ·exact Lc.okO _
  ·exact Lc.okO _
  ·exact Lc.none _
 ·exact Lc.ok _
 ·rw [maskH_get (h _ (by simp [V.ids]))]
  split
  ·split
   ·exact Lc.ok _
   ·exact Lc.none _
  ·exact Lc.none _
 ·exact Lc.ok _
 ·rw [maskH_get (h _ (by simp [V.ids]))]
  split
  ·split
   ·exact Lc.ok _
   ·exact Lc.none _
  ·exact Lc.none _
 ·exact Lc.none _

theorem sliceV_loc {t : TypeId} {x : V} {lo hi mx : Option Nat} (h : ∀ k ∈ x.ids, vis k = true) : sliceV P t x lo hi mx (maskH vis H) = sliceV P t x lo hi mx H := by
 unfold sliceV
 split
 ·rfl
 ·rfl
 ·rfl
 ·rfl
 ·split
  ·rfl
  ·split
   ·rfl
   ·rw [maskH_get (h _ (by simp [V.ids]))]
 ·rfl
 ·rfl

theorem sliceEnd_loc {t : TypeId} {x : V} {lo hi mx : Option Nat} (h : ∀ k ∈ x.ids, vis k = true) : sliceEnd P t x lo hi mx (maskH vis H) = sliceEnd P t x lo hi mx H := by
 unfold sliceEnd
 split
 ·rw [maskH_get (h _ (by simp [V.ids]))]
 ·rfl

theorem lookupV_loc {t : TypeId} {x k : V} {c : Bool} (h : ∀ k ∈ x.ids, vis k = true) : lookupV P t x k c (maskH vis H) = lookupV P t x k c H := by
 unfold lookupV
 cases x <;> try rfl
 rename_i j
 simp only [maskH_get (h j (by simp [V.ids]))]

theorem lenV_loc {t : TypeId} {x : V} (h : ∀ k ∈ x.ids, vis k = true) : lenV P t x (maskH vis H) = lenV P t x H := by
 unfold lenV
 split <;> try rfl
 rw [maskH_get (h _ (by simp [V.ids]))]

theorem lenV_locM {t : TypeId} {x : V} (h : ∀ k, x = .map k → vis k = true) : lenV P t x (maskH vis H) = lenV P t x H := by
 unfold lenV
 split <;> try rfl
 rw [maskH_get (h _ rfl)]

theorem appendV_loc {e : TypeId} {s : V} {new : List V} {n : Nat} (h : ∀ k ∈ s.ids, vis k = true ∧ k ∈ W) : Lc vis H W (appendV P e s new n H) (appendV P e s new n (maskH vis H)) := by
 unfold appendV
 split
 ·split
  ·exact Lc.none _
  ·split
   ·split
    ·exact Lc.ok _
    ·split
     ·rw [maskH_size]; exact Lc.new _ _
     ·exact Lc.none _
   ·split
    ·exact Lc.ok _
    ·split
     ·rw [maskH_size]; exact Lc.new _ _
     ·exact Lc.none _
   ·split
    ·exact Lc.ok _
    ·split
     ·rw [maskH_size]; exact Lc.new _ _
     ·exact Lc.none _
   ·have hk := h _ (by simp [V.ids]; rfl)
    rw [maskH_get hk.1]
    split
    ·split
     ·split
      ·split
       ·split
        ·exact Lc.ok _
        ·exact Lc.none _
       ·split
        ·exact putCells_loc _ hk.1 hk.2
        ·rw [maskH_size]; exact Lc.new _ _
      ·split
       ·split
        ·exact Lc.ok _
        ·split
         ·exact putCells_loc _ hk.1 hk.2
         ·split
          ·rw [maskH_size]; exact Lc.writeNew _ _ _ _ hk.1 hk.2
          ·exact Lc.none _
       ·exact Lc.none _
     ·exact Lc.none _
    ·exact Lc.none _
   ·exact Lc.none _
 ·exact Lc.none _

theorem copyV_loc {e : TypeId} {d s : V} (h : ∀ k ∈ d.ids, vis k = true ∧ k ∈ W) (h2 : ∀ k ∈ s.ids, vis k = true) : Lc vis H W (copyV P e d s H) (copyV P e d s (maskH vis H)) := by
 unfold copyV
 split
 ·split
  ·exact Lc.ok _
  ·exact Lc.ok _
  ·exact Lc.ok _
  ·exact Lc.ok _
  ·exact Lc.none _
 ·have hk := h _ (by simp [V.ids]; rfl)
  rw [shown_loc h2]
  split
  ·simp only
   split
   ·exact Lc.ok _
   ·exact putCells_loc _ hk.1 hk.2
  ·exact Lc.none _
 ·exact Lc.none _

theorem mapSetV_loc (x : R) {t : TypeId} {m k v : V} (h : ∀ k ∈ m.ids, vis k = true ∧ k ∈ W) : Lc vis H W ((mapSetV P t m k v H).map fun h => (x, h)) ((mapSetV P t m k v (maskH vis H)).map fun h => (x, h)) := by
 unfold mapSetV
 split
 ·have hk := h _ (by simp [V.ids]; rfl)
  rw [maskH_get hk.1]
  split
  ·split
   ·split
    ·exact Lc.write _ _ _ hk.1 hk.2
    ·exact Lc.none _
   ·exact Lc.write _ _ _ hk.1 hk.2
   ·exact Lc.none _
  ·exact Lc.none _
 ·exact Lc.none _

theorem mapEntryV_loc {t : TypeId} {m k : V} (h : ∀ k ∈ m.ids, vis k = true ∧ k ∈ W) : Lc vis H W (mapEntryV P t m k H) (mapEntryV P t m k (maskH vis H)) := by
 unfold mapEntryV
 split
 ·have hk := h _ (by simp [V.ids]; rfl)
  rw [maskH_get hk.1]
  split
  ·split
   ·split
    ·split
     ·exact Lc.write _ _ _ hk.1 hk.2
     ·exact Lc.none _
    ·exact Lc.write _ _ _ hk.1 hk.2
    ·exact Lc.none _
   ·exact Lc.none _
  ·exact Lc.none _
 ·exact Lc.none _

theorem entryStoreV_loc (x : R) {m s v : V} (h : ∀ k ∈ m.ids, vis k = true ∧ k ∈ W) : Lc vis H W ((entryStoreV m s v H).map fun h => (x, h)) ((entryStoreV m s v (maskH vis H)).map fun h => (x, h)) := by
 unfold entryStoreV
 split
 ·have hk := h _ (by simp [V.ids]; rfl)
  rw [maskH_get hk.1]
  split
  ·split
   ·exact Lc.write _ _ _ hk.1 hk.2
   ·exact Lc.none _
  ·exact Lc.none _
 ·exact Lc.none _

theorem nextV_loc {it : V} {s : Bool} (h : ∀ k ∈ it.ids, vis k = true ∧ k ∈ W) : Lc vis H W (nextV it s H) (nextV it s (maskH vis H)) := by
 unfold nextV
 split
 ·have hk := h _ (by simp [V.ids]; rfl)
  rw [maskH_get hk.1]
  split
  ·split
   ·exact Lc.write _ _ _ hk.1 hk.2
   ·exact Lc.ok _
  ·exact Lc.none _
 ·exact Lc.none _

theorem rangeV_loc {t : TypeId} {x : V} : Lc vis H W (rangeV P t x H) (rangeV P t x (maskH vis H)) := by
 unfold rangeV
 split
 ·rw [maskH_size]; exact Lc.new _ _
 ·exact Lc.none _

theorem makeSliceV_loc {t : TypeId} {l c : V} : Lc vis H W (makeSliceV P t l c H) (makeSliceV P t l c (maskH vis H)) := by
 unfold makeSliceV
 split
 ·split
  ·split
   ·rw [maskH_size]; exact newCells_loc _ _ _ _
   ·exact Lc.none _
  ·exact Lc.none _
 ·exact Lc.none _

theorem storeV_loc (x : R) {t : TypeId} {p v : V} (h : ∀ k ∈ p.ids, vis k = true ∧ k ∈ W) : Lc vis H W ((storeV E t H p v).map fun h => (x, h)) ((storeV E t (maskH vis H) p v).map fun h => (x, h)) := by
 unfold storeV
 split
 ·have hk := h _ (by simp [V.ids]; rfl)
  split
  ·exact putCells_loc _ hk.1 hk.2
  ·exact Lc.none _
 ·exact Lc.none _

theorem builtinV_loc {b : Builtin} {ts : List TypeId} {args : List V} (h : ∀ v ∈ args, ∀ k ∈ v.ids, vis k = true) (hW : (b = .append ∨ b = .copy ∨ b = .unsafeString) → ∀ v ∈ args, ∀ k ∈ v.ids, k ∈ W) : Lc vis H W (builtinV E b ts args H) (builtinV E b ts args (maskH vis H)) := by
 unfold builtinV
 split
 ·rename_i x
  exact Lc.okE (lenV_loc (h x (by simp)))
 ·split
  ·exact Lc.ok _
  ·exact Lc.none _
 ·split
  ·exact Lc.ok _
  ·exact Lc.none _
 ·exact Lc.ok _
 ·rename_i k o n
  rw [maskH_get (h _ (List.mem_singleton.2 rfl) _ (by simp [V.ids]))]
  split
  ·split
   ·exact Lc.ok _
   ·exact Lc.none _
  ·exact Lc.none _
 ·exact Lc.ok _
 ·rename_i pt it k o n
  have hk := h (.ptr k o) (by simp) k (by simp [V.ids])
  have hkW := hW (.inr (.inr rfl)) (.ptr k o) (by simp) k (by simp [V.ids])
  rw [maskH_get hk]
  split
  ·split
   ·split
    ·exact Lc.write _ _ _ hk hkW
    ·exact Lc.none _
   ·exact Lc.none _
  ·exact Lc.none _
 ·rename_i s x
  have hs : shown (maskH vis H) = shown (maskH vis H) := rfl
  split
  ·have e : ∀ z, shown (maskH vis H) z x = shown H z x := fun z => shown_loc (h x (by simp))
   have e2 : (fun z => shown (maskH vis H) z x) = fun z => shown H z x := funext e
   rw [e2]
   split
   ·exact appendV_loc fun k hk => ⟨h s (by simp) k hk, hW (.inl rfl) s (by simp) k hk⟩
   ·exact Lc.none _
  ·have e : ∀ z, shown (maskH vis H) z x = shown H z x := fun z => shown_loc (h x (by simp))
   have e2 : (fun z => shown (maskH vis H) z x) = fun z => shown H z x := funext e
   rw [e2]
   split
   ·exact appendV_loc fun k hk => ⟨h s (by simp) k hk, hW (.inl rfl) s (by simp) k hk⟩
   ·exact Lc.none _
  ·exact Lc.none _
 ·rename_i d s
  split
  ·exact copyV_loc (fun k hk => ⟨h d (by simp) k hk, hW (.inr (.inl rfl)) d (by simp) k hk⟩) (h s (by simp))
  ·exact Lc.none _
 ·exact Lc.okO _
 ·exact Lc.okO _
 ·exact Lc.none _

theorem evs_mem {f : Fr} : ∀ {xs : List Operand} {vs : List V}, evs f xs = some vs → ∀ v ∈ vs, ∃ x ∈ xs, f.ev x = some v
 | [], vs, h, v, hv => by simp only [evs, Option.some.injEq] at h; subst h; cases hv
 | x :: r, vs, h, v, hv => by
  simp only [evs] at h
  split at h
  ·rename_i u us h1 h2
   simp only [Option.some.injEq] at h
   subst h
   rcases List.mem_cons.1 hv with rfl | hv
   ·exact ⟨x, by simp, h1⟩
   ·obtain ⟨y, hy, he⟩ := evs_mem h2 v hv
    exact ⟨y, List.mem_cons_of_mem _ hy, he⟩
  ·cases h

theorem opV_loc {f : Fr} {o : Oper} (hv : ∀ k ∈ named f o, vis k = true) (hW : writes o = true → ∀ k ∈ named f o, k ∈ W) : Lc vis H W (opV E f o H) (opV E f o (maskH vis H)) := by
 obtain ⟨dst, op, type, pos, after, guard⟩ := o
 cases op <;> simp only [opV]
 case move x => exact Lc.okO _
 case assign x => exact Lc.okO _
 case pick c a b =>
  split
  ·exact Lc.okO _
  ·exact Lc.none _
 case alloc e =>
  split
  ·rw [maskH_size]; exact newCells_loc _ _ _ _
  ·exact Lc.none _
 case box e x =>
  split
  ·rw [maskH_size]; exact newCells_loc _ _ _ _
  ·exact Lc.none _
 case build t ps =>
  split
  ·exact Lc.okO _
  ·exact Lc.none _
 case buildSlice t n ps =>
  split
  ·split
   ·split
    ·split
     ·rw [maskH_size]; exact newCells_loc _ _ _ _
     ·exact Lc.none _
    ·exact Lc.none _
   ·exact Lc.none _
  ·exact Lc.none _
 case insert t m k v =>
  simp only [named] at hv hW
  cases hm : f.ev m with
  | none => exact Lc.none _
  | some m' =>
   rw [hm] at hv hW
   split
   ·rename_i x y z e _ _
    simp only [Option.some.injEq] at e
    subst e
    exact mapSetV_loc _ fun k hk => ⟨hv k hk, hW rfl k hk⟩
   ·exact Lc.none _
 case mapUpdate t m k v =>
  simp only [named] at hv hW
  cases hm : f.ev m with
  | none => exact Lc.none _
  | some m' =>
   rw [hm] at hv hW
   split
   ·rename_i x y z e _ _
    simp only [Option.some.injEq] at e
    subst e
    exact mapSetV_loc _ fun k hk => ⟨hv k hk, hW rfl k hk⟩
   ·exact Lc.none _
 case mapEntry t m k =>
  simp only [named] at hv hW
  cases hm : f.ev m with
  | none => exact Lc.none _
  | some m' =>
   rw [hm] at hv hW
   split
   ·rename_i x y e _
    simp only [Option.some.injEq] at e
    subst e
    exact mapEntryV_loc fun k hk => ⟨hv k hk, hW rfl k hk⟩
   ·exact Lc.none _
 case entryStore t m s v =>
  simp only [named] at hv hW
  cases hm : f.ev m with
  | none => exact Lc.none _
  | some m' =>
   rw [hm] at hv hW
   split
   ·rename_i x y z e _ _
    simp only [Option.some.injEq] at e
    subst e
    exact entryStoreV_loc _ fun k hk => ⟨hv k hk, hW rfl k hk⟩
   ·exact Lc.none _
 case load t a =>
  simp only [named] at hv
  cases ha : f.ev a with
  | none => exact Lc.none _
  | some p =>
   rw [ha] at hv
   exact Lc.okE (loadV_loc hv)
 case store t a x =>
  simp only [named] at hv hW
  cases ha : f.ev a with
  | none => exact Lc.none _
  | some p =>
   rw [ha] at hv hW
   cases hx : f.ev x with
   | none => exact Lc.none _
   | some v => exact storeV_loc _ fun k hk => ⟨hv k hk, hW rfl k hk⟩
 case nilCheck x =>
  split
  ·exact Lc.ok _
  ·exact Lc.ok _
  ·exact Lc.ok _
  ·exact Lc.ok _
  ·exact Lc.none _
 case binOp op t x y yt =>
  split
  ·exact Lc.okO _
  ·exact Lc.none _
 case unOp op t x =>
  split
  ·exact Lc.okO _
  ·exact Lc.none _
 case convert s d x =>
  simp only [named] at hv
  cases ha : f.ev x with
  | none => exact Lc.none _
  | some p => rw [ha] at hv; exact convV_loc hv
 case makeInterface t x =>
  split
  ·exact Lc.none _
  ·exact Lc.ok _
  ·exact Lc.none _
 case makeFunc g a b =>
  cases g with
  | func g =>
   simp only
   split
   ·exact Lc.ok _
   ·exact Lc.none _
  | _ => exact Lc.none _
 case makeMap t r =>
  cases r with
  | none => simp only [Am.ok, maskH_size]; exact Lc.new _ _
  | some r => exact Lc.none _
 case makeSlice t l c =>
  split
  ·exact makeSliceV_loc
  ·exact Lc.none _
 case slice t x lo hi mx =>
  simp only [named] at hv
  cases ha : f.ev x with
  | none => exact Lc.none _
  | some p =>
   rw [ha] at hv
   split
   ·rename_i u a b c e _ _ _
    simp only [Option.some.injEq] at e
    subst e
    rw [sliceEnd_loc hv]
    split
    ·rw [maskH_size]; exact Lc.new _ _
    ·exact Lc.okE (sliceV_loc hv)
   ·exact Lc.none _
 case fieldAddr s x i =>
  split
  ·exact Lc.okO _
  ·exact Lc.none _
 case field t x i =>
  split
  ·exact Lc.okO _
  ·exact Lc.none _
 case indexAddr t x i =>
  split
  ·exact Lc.okO _
  ·exact Lc.none _
 case index t x i =>
  split
  ·exact Lc.okO _
  ·exact Lc.none _
 case lookup t x i c =>
  simp only [named] at hv
  cases ha : f.ev x with
  | none => exact Lc.none _
  | some p =>
   rw [ha] at hv
   split
   ·rename_i u y e _
    simp only [Option.some.injEq] at e
    subst e
    exact Lc.okE (lookupV_loc hv)
   ·exact Lc.none _
 case range t x =>
  split
  ·exact rangeV_loc
  ·exact Lc.none _
 case next it s =>
  simp only [named] at hv hW
  cases ha : f.ev it with
  | none => exact Lc.none _
  | some p => rw [ha] at hv hW; exact nextV_loc fun k hk => ⟨hv k hk, hW rfl k hk⟩
 case extract x i =>
  split
  ·exact Lc.okO _
  ·exact Lc.none _
 case call c =>
  obtain ⟨callee, cargs, cts⟩ := c
  cases callee with
  | builtin b =>
   by_cases hb : b = .len
   ·subst hb
    simp only [named] at hv
    simp only
    cases hargs : evs f cargs.toList with
    | none => exact Lc.none _
    | some args =>
     simp only
     have hm : ∀ x ∈ args, ∀ k, x = .map k → vis k = true := fun x hx k hk => by
      obtain ⟨y, hy, he⟩ := evs_mem hargs x hx
      exact hv k (List.mem_flatMap.2 ⟨y, hy, by rw [he, hk]; exact List.mem_singleton.2 rfl⟩)
     generalize cts.toList = ts
     rcases ts with _ | ⟨t, ts⟩
     ·exact Lc.none _
     rcases args with _ | ⟨x, _ | ⟨y, r⟩⟩
     ·exact Lc.none _
     ·exact Lc.okE (lenV_locM fun k hk => hm x (by simp) k hk)
     ·exact Lc.none _
   have hnm : named f ⟨dst, .call ⟨.builtin b, cargs, cts⟩, type, pos, after, guard⟩ = cargs.toList.flatMap fun x => idsO (f.ev x) := by
    cases b <;> first | rfl | exact absurd rfl hb
   rw [hnm] at hv hW
   simp only
   cases hargs : evs f cargs.toList with
   | none => exact Lc.none _
   | some args =>
    simp only
    have hin : ∀ v ∈ args, ∀ k ∈ v.ids, k ∈ cargs.toList.flatMap fun x => idsO (f.ev x) := by
     intro v hv k hk
     obtain ⟨x, hx, he⟩ := evs_mem hargs v hv
     exact List.mem_flatMap.2 ⟨x, hx, by rw [he]; exact hk⟩
    refine builtinV_loc (fun v hv' k hk => hv k (hin v hv' k hk)) fun hb v hv' k hk => hW ?_ k (hin v hv' k hk)
    rcases hb with rfl | rfl | rfl <;> rfl
  | value g =>
   simp only
   cases hargs : evs f cargs.toList with
   | none => exact Lc.none _
   | some args =>
    simp only
    split
    ·unfold callV
     split
     ·split
      ·split
       ·split
        ·split
         ·rw [maskH_size]; exact Lc.new _ _
         ·exact Lc.none _
        ·exact Lc.none _
       ·split
        ·split
         ·exact Lc.ok _
         ·exact Lc.none _
        ·exact Lc.okO _
      ·exact Lc.same _
     ·exact Lc.none _
    ·exact Lc.none _
  | invoke r m =>
   simp only
   cases hargs : evs f cargs.toList <;> exact Lc.none _
 all_goals exact Lc.none _

end Go.Am

namespace Go.Am
open Go

variable {E : Env} {N : Nat} {ρ : Nat → Loc} {H : List AObj} {w : World}

theorem WR.mask (h : WR E N ρ H w) (p : Nat → Bool) : WR E N ρ (maskL p H) w := by
 have hk : ∀ (k : Nat) (o : AObj), (maskL p H)[k]? = some o → o = .dead ∨ H[k]? = some o := by
  intro k o ho
  rw [get_maskL] at ho
  cases hh : H[k]? with
  | none => rw [hh] at ho; cases ho
  | some x =>
   rw [hh] at ho
   simp only [Option.map_some, Option.some.injEq] at ho
   split at ho
   ·exact .inr (by rw [ho])
   ·exact .inl ho.symm
 refine h.sub _ hk fun k o ho => ?_
 rcases hk k o ho with rfl | h1
 ·exact ltL_nil _
 ·rw [len_maskL]; exact h.vals k o h1

theorem WR.unmask (h : WR E N ρ H w) {p : Nat → Bool} {w' : World} (h' : WR E N ρ (maskL p H) w') (g : Goes (maskL p H) ρ w (maskL p H) ρ w') : WR E N ρ H w' ∧ Goes H ρ w H ρ w' := by
 have own : ∀ b, Owned (maskL p H) ρ b → ∃ k o, p k = true ∧ H[k]? = some o ∧ o.own = true ∧ (ρ k).block = b := by
  rintro b ⟨k, o, hk, ho, hb⟩
  rw [get_maskL] at hk
  cases hh : H[k]? with
  | none => rw [hh] at hk; cases hk
  | some x =>
   rw [hh] at hk
   simp only [Option.map_some, Option.some.injEq] at hk
   split at hk
   ·rename_i hp; subst hk; exact ⟨k, x, hp, hh, ho, hb⟩
   ·subst hk; cases ho
 have sub : ∀ b, Owned (maskL p H) ρ b → Owned H ρ b := fun b hb => by
  obtain ⟨k, o, _, h1, h2, h3⟩ := own b hb
  exact ⟨k, o, h1, h2, h3⟩
 refine ⟨⟨h'.low, h.vals, fun k o hk => ?_, h.inj, h'.globs⟩, ⟨g.os, g.tape, g.output, g.size, fun b hb hn => g.same b hb (fun h => hn (sub b h)), fun _ _ h => h, fun _ _ => rfl, Nat.le_refl _⟩⟩
 by_cases hp : p k = true
 ·exact h'.objs k o (by rw [get_maskL, hk]; simp [hp])
 ·by_cases hd : o = .dead
  ·subst hd; trivial
  ·refine (h.objs k o hk).kept (h.vals k o hk) (fun _ _ => rfl) (g.same _ (h.block_lt hk hd) fun ho => ?_)
   obtain ⟨k2, o2, h1, h2, h3, h4⟩ := own _ ho
   have hne : k ≠ k2 := fun e => hp (by subst e; exact h1)
   cases hoo : o.own with
   | true => exact h.inj k k2 o o2 hk h2 hoo h3 hne h4.symm
   | false =>
    have h5 := h.own_ge h2 h3
    have h6 := h.objs k o hk
    cases o with
    | cells cs e m fz =>
     cases m with
     | ro => obtain ⟨_, C, z, _, _, hm⟩ := h6; simp only at hm; rw [h4] at h5; omega
     | rw => cases hoo
     | grown => cases hoo
    | map es c => cases hoo
    | alts as => cases hoo
    | iter s p => cases hoo
    | dead => exact hd rfl

theorem hideL_eq : ∀ (l : List Nat) (H : List AObj), hideL l H = maskL (fun k => !l.contains k) H
 | [], H => by
  apply List.ext_getElem?
  intro k
  rw [get_maskL]
  cases hk : H[k]? <;> simp [hideL, hk]
 | j :: l, H => by
  have := hideL_eq l (H.set j .dead)
  simp only [hideL, List.foldl_cons] at this ⊢
  rw [this]
  apply List.ext_getElem?
  intro k
  rw [get_maskL, get_maskL, List.getElem?_set]
  by_cases e : j = k
  ·subst e
   by_cases hl : j < H.length
   ·simp [hl]
   ·simp [hl]
  ·rw [if_neg e]
   cases hk : H[k]? with
   | none => rfl
   | some o => simp [Ne.symm e]

theorem maskL_id (l : List AObj) (p : Nat → Bool) (h : ∀ k, k < l.length → p k = true) : maskL p l = l := by
 apply List.ext_getElem?
 intro k
 rw [get_maskL]
 cases hk : l[k]? with
 | none => rfl
 | some o => simp [h k (List.getElem?_eq_some_iff.1 hk).1]

structure SF (E : Env) (ops : List Oper) (n0 bef : Nat) (past : List Past) (o : Oper) (f : Fr) (H : List AObj) (v : V) (p : Past) (f' : Fr) (H' : List AObj) : Prop where
 idx : p.idx = past.length
 sz : p.sz = H.length
 mono : H.length ≤ H'.length
 keep : ∀ k, k < H.length → k ∉ p.tch → H'[k]? = H[k]?
 new : ∀ k, H.length ≤ k → k < H'.length → k ∈ p.tch
 sees : ∀ k, k ∈ p.tch → k < H.length → p.vis.sees k = true
 tlt : ∀ k, k ∈ p.tch → k < H'.length
 apart : ∀ q ∈ past, bef.testBit q.idx = false → (∀ k ∈ q.tch, p.vis.sees k = false) ∧ (∀ k ∈ p.tch, k < q.sz → q.vis.sees k = false)
 names : (∃ t, copyOf o = some t ∧ f.ev (.tmp t) = some v ∧ p.tch = []) ∨ ∀ k, (∃ u, (u = v ∨ ∃ j ∈ p.tch, ∃ x, H'[j]? = some x ∧ u ∈ x.vals) ∧ u.all (fun j => !(j == k)) = false) → k < H'.length ∧ (k < n0 ∨ ∀ q ∈ past, bef.testBit q.idx = false → k ∉ q.tch)
 frame : f.set o.dst v = some f'
 exec : (wantedV f ops o = some false ∧ v = .undef ∧ H' = H ∧ p.tch = []) ∨
  (wantedV f ops o = some true ∧ ∀ (N : Nat) (ρ : Nat → Loc) (w : World) (a : Act), WR E N ρ (maskL p.vis.sees H) w → FR H.length ρ f a →
   Outs E.P (fun u w' => ∃ ρ', u = v.emb ρ' ∧ WR E N ρ' (maskL (fun k => p.vis.sees k || decide (H.length ≤ k)) H') w' ∧ Goes (maskL p.vis.sees H) ρ w (maskL (fun k => p.vis.sees k || decide (H.length ≤ k)) H') ρ' w' ∧ v.lt H'.length = true) ((execOp a.eval o).run E.P w))

theorem all_not {v : V} {p : Nat → Bool} {k : Nat} (h : v.all p = true) (hk : v.all (fun j => !(j == k)) = false) : p k = true := by
 cases hp : p k with
 | true => rfl
 | false =>
  have : v.all (fun j => !(j == k)) = true := all_mono p _ (fun j hj => by
   have : j ≠ k := fun e => by subst e; rw [hp] at hj; cases hj
   simp [this]) v h
  rw [this] at hk; cases hk

theorem hideOf_eq (bef : List Nat) (past : List Past) : hideOf bef past = (freeOf bef past).flatMap (·.tch) := by
 unfold hideOf
 split
 ·rename_i h
  symm
  exact List.flatMap_eq_nil_iff.2 fun p hp => List.isEmpty_iff.1 (List.all_eq_true.1 h p (List.mem_filter.1 hp).1)
 ·rfl

theorem tchOk2_eq (bef : List Nat) (past : List Past) (tch : List Nat) : tchOk2 bef past tch = tchOk (freeOf bef past) tch := by
 unfold tchOk2
 cases tch with
 | nil => simp [tchOk]
 | cons k r => simp

theorem tchOk_spec {free : List Past} {tch : List Nat} (h : tchOk free tch = true) {q : Past} (hq : q ∈ free) {k : Nat} (hk : k ∈ tch) (hlt : k < q.sz) : q.vis.sees k = false := by
 have := List.all_eq_true.1 (List.all_eq_true.1 h q hq) k hk
 simp only [Bool.or_eq_true, decide_eq_true_eq, Bool.not_eq_true'] at this
 rcases this with h | h
 ·omega
 ·exact h

theorem mem_freeOf {bef : List Nat} {past : List Past} {q : Past} (hq : q ∈ past) (hb : (bef.getD past.length 0).testBit q.idx = false) : q ∈ freeOf bef past := by
 unfold freeOf
 exact List.mem_filter.2 ⟨hq, by rw [hb]; rfl⟩

theorem copy_looks {ops : Array Oper} {o : Oper} {t : Nat} (ht : copyOf o = some t) : t ∈ o.looksAt ops := by
 obtain ⟨dst, op, ty, pos, after, guard⟩ := o
 cases op
 case move x => cases x <;> simp only [copyOf, Option.some.injEq, reduceCtorEq] at ht; subst ht; simp [Oper.looksAt, Op.operands]
 case assign x => cases x <;> simp only [copyOf, Option.some.injEq, reduceCtorEq] at ht; subst ht; simp [Oper.looksAt, Op.operands]
 all_goals cases ht

theorem opV_copy {E : Env} {f : Fr} {o : Oper} {t : Nat} {H : Hp} {r0 : R} {H' : Hp} (ht : copyOf o = some t) (h : opV E f o H = some (r0, H')) : (∃ v, f.ev (.tmp t) = some v ∧ r0 = .val v) ∧ H' = H := by
 have k1 : ∀ {x : Option V}, okO x H = some (r0, H') → (∃ v, x = some v ∧ r0 = .val v) ∧ H' = H := fun h => by
  simp only [okO, Option.map_eq_some_iff, Prod.mk.injEq] at h
  obtain ⟨v, e, e1, e2⟩ := h
  exact ⟨⟨v, e, e1.symm⟩, e2.symm⟩
 obtain ⟨dst, op, ty, pos, after, guard⟩ := o
 cases op
 case move x => cases x <;> simp only [copyOf, Option.some.injEq, reduceCtorEq] at ht; subst ht; exact k1 h
 case assign x => cases x <;> simp only [copyOf, Option.some.injEq, reduceCtorEq] at ht; subst ht; exact k1 h
 all_goals cases ht

theorem evDrawn_step (ok : E.Ok) {C : Callee} (hC : Callee.Ok E C) {ops : List Oper} {n0 : Nat} {bef : List Nat} {o : Oper} {r : List Oper} {past : List Past} {f : Fr} {H : Hp} {res : Fr × Hp} {a : Act} (hw : WR E N ρ H.objs w) (hf : FR H.objs.length ρ f a)
 (h : evDrawn E C ops n0 bef (o :: r) past f H = some res) :
 ∃ v p f' H', SF E ops n0 (bef.getD past.length 0) past o f H.objs v p f' H'.objs ∧ Reach E N ρ H.objs w f' H' ∧ Mono H H' ∧ evDrawn E C ops n0 bef r (p :: past) f' H' = some res := by
 simp only [evDrawn, hideOf_eq, tchOk2_eq] at h
 split at h
 ·cases h
 ·rename_i hwant
  split at h
  ·rename_i f' hs
   refine ⟨.undef, ⟨past.length, H.size, [], .only []⟩, f', H, ⟨rfl, rfl, Nat.le_refl _, fun _ _ _ => rfl, fun k h1 h2 => by omega, fun _ h => (by cases h), fun _ h => (by cases h), fun q _ _ => ⟨fun k _ => rfl, fun k hk => by cases hk⟩, ?_, hs, .inl ⟨hwant, rfl, rfl, rfl⟩⟩, ⟨ρ, _, w, hf.set (v := .undef) rfl hs, hw, Goes.refl _ _ _⟩, Mono.refl _, h⟩
   right
   rintro k ⟨u, hu | ⟨j, hj, _⟩, hk⟩
   ·subst hu; cases hk
   ·cases hj
  ·cases h
 ·rename_i hwant
  split at h
  ·cases h
  ·rename_i g args H1 hop
   have hr := opV_run ok hw hf (wr := H.wr) (esc := H.esc) hop
   obtain ⟨hH1, hargs⟩ : H1.objs = H.objs ∧ ltL H.objs.length args := by cases hr with | enter h1 h2 h3 => exact ⟨h2, h3⟩
   have hm1 := opV_mono hop
   by_cases hcall : (named f o).isEmpty = true
   ·rw [if_pos hcall] at h
    have hcall' : named f o = [] := List.isEmpty_iff.1 hcall
    have hrun : ∀ (vis : Nat → Bool) (N : Nat) (ρ : Nat → Loc) (w : World) (a : Act), WR E N ρ (maskL vis H.objs) w → FR H.objs.length ρ f a → (execOp a.eval o).run E.P w = .ok (.enter g (args.map (V.emb ρ)).toArray) w := by
     intro vis N ρ w a hw hf
     obtain ⟨⟨H'', h1, _⟩, _⟩ := opV_loc (E := E) (vis := vis) (H := H) (W := []) (f := f) (o := o) (by rw [hcall']; intro k hk; cases hk) (by intro _ k hk; rw [hcall'] at hk; cases hk) _ _ hop
     have hr := opV_run ok (H := maskL vis H.objs) hw (by rw [len_maskL]; exact hf) (wr := H.wr) (esc := H.esc) h1
     cases hr with
     | enter h1 h2 h3 => exact h1
    split at h
    ·-- a call that turns nothing
     rename_i v hc
     split at h
     ·rename_i f' hs
      rw [hH1, hideL_eq] at hc
      have hargs' : ltL (maskL (fun k => !((freeOf bef past).flatMap (·.tch)).contains k) H.objs).length args := by rw [len_maskL]; exact hargs
      obtain ⟨hgood, hcall2⟩ := hC g args _ _ hc hargs' N ρ w (hw.mask _)
      have hflat : v.flat = true := hgood
      obtain ⟨e, w', rfl, h3, h4⟩ := Calls.exist hcall2
      obtain ⟨h5, h6⟩ := hw.unmask h3 h4
      refine ⟨v, ⟨past.length, H.size, [], .but ((freeOf bef past).flatMap (·.tch))⟩, f', H1, ⟨rfl, rfl, Nat.le_of_eq (by rw [hH1]), fun _ _ _ => by rw [hH1], fun k h1 h2 => (by rw [hH1] at h2; omega), fun _ h => (by cases h), fun _ h => (by cases h), fun q hq hb => ⟨fun k hk => ?_, fun k hk => by cases hk⟩, ?_, hs, .inr ⟨hwant, ?_⟩⟩, ⟨ρ, _, w', by rw [hH1]; exact hf.set (lt_flat hflat _) hs, by rw [hH1]; exact h5, by rw [hH1]; exact h6⟩, hm1, h⟩
      ·simp only [Vis.sees, Bool.not_eq_false', List.contains_iff_mem]
       exact List.mem_flatMap.2 ⟨q, mem_freeOf hq hb, hk⟩
      ·right
       rintro k ⟨u, hu | ⟨j, hj, _⟩, hk⟩
       ·subst hu
        have := all_not (p := fun _ => false) hflat hk
        cases this
       ·cases hj
      ·intro N ρ w a hw hf
       have hgc := hC g args _ _ hc hargs' N ρ w hw
       rw [hrun _ N ρ w a hw hf]
       simp only [Outs]
       refine hgc.2.mono fun e w' ⟨he, h7, h8⟩ => ⟨_, he, ρ, rfl, ?_, ?_, by rw [hH1]; exact lt_flat hflat _⟩
       ·rw [hH1, maskL_low (Nat.le_refl _)]; exact h7
       ·rw [hH1, maskL_low (Nat.le_refl _)]; exact h8
     ·cases h
    ·-- a call that turns memory
     rename_i v H2 hc
     split at h
     ·rename_i hok
      simp only [Bool.and_eq_true] at hok
      have hhide : (freeOf bef past).flatMap (·.tch) = [] := List.isEmpty_iff.1 hok.1
      split at h
      ·rename_i f' hs
       rw [hhide, hH1] at hc
       simp only [hideL, List.foldl_nil] at hc
       obtain ⟨⟨hlt, hmono⟩, hcall2⟩ := hC g args _ _ hc hargs N ρ w hw
       obtain ⟨e, w', ρ', rfl, h3, h4⟩ := Calls.exist hcall2
       have hlen : H.objs.length ≤ H2.objs.length := hmono.len
       have haft : (H1.after (.eff v H2)).2.objs = H2.objs := rfl
       refine ⟨v, _, f', (H1.after (.eff v H2)).2, ⟨rfl, rfl, hlen, fun k hk hn => ?_, fun k h1 h2 => ?_, fun _ _ _ => ?_, fun k hk => ?_, fun q hq hb => ⟨fun k hk => ?_, fun k hk hlt => tchOk_spec hok.2 (mem_freeOf hq hb) hk hlt⟩, ?_, hs, .inr ⟨hwant, ?_⟩⟩, ⟨ρ', _, w', (hf.mono h4.len h4.ext).set hlt hs, h3, h4⟩, ?_, h⟩
       ·refine hmono.same k ?_ hk
        by_cases hlt2 : k < H2.wr
        ·exact hlt2
        ·exact absurd (List.mem_range'_1.2 ⟨by omega, by rw [haft] at *; omega⟩) hn
       ·rw [haft] at h2
        exact List.mem_range'_1.2 ⟨by simp only [Hp.size]; omega, by simp only [Hp.size]; omega⟩
       ·rfl
       ·have := List.mem_range'_1.1 hk
        rw [haft]
        simp only [Hp.size] at this
        omega
       ·have : k ∈ (freeOf bef past).flatMap (·.tch) := List.mem_flatMap.2 ⟨q, mem_freeOf hq hb, hk⟩
        rw [hhide] at this; cases this
       ·right
        rintro k ⟨u, hu, hk⟩
        have hul : u.lt H2.objs.length = true := by
         rcases hu with rfl | ⟨j, _, x, hx, hm⟩
         ·exact hlt
         ·exact h3.vals j x hx u hm
        refine ⟨by have := all_not hul hk; simpa [haft] using this, .inr fun q hq hb hkq => ?_⟩
        have : k ∈ (freeOf bef past).flatMap (·.tch) := List.mem_flatMap.2 ⟨q, mem_freeOf hq hb, hkq⟩
        rw [hhide] at this; cases this
       ·intro N ρ w a hw hf
        have e1 : maskL (Vis.but []).sees H.objs = H.objs := maskL_id _ _ (fun _ _ => rfl)
        have e2 : maskL (fun k => (Vis.but []).sees k || decide (H.objs.length ≤ k)) (H1.after (.eff v H2)).2.objs = H2.objs := maskL_id _ _ (fun _ _ => rfl)
        rw [hrun _ N ρ w a hw hf]
        rw [e1] at hw
        simp only [Outs]
        refine (hC g args _ _ hc hargs N ρ w hw).2.mono fun e w' ⟨ρ', he, h7, h8⟩ => ⟨_, he, ρ', rfl, ?_, ?_, hlt⟩
        ·rw [e2]; exact h7
        ·rw [e1, e2]; exact h8
       ·exact hm1.trans (after_mono (c := .eff v H2) (by rw [hH1]; exact ⟨hlt, hmono⟩))
      ·cases h
     ·cases h
    ·cases h
   ·rw [if_neg hcall] at h
    cases h
  ·-- one operation
   rename_i r0 H' hne hop
   have hm1 := opV_mono hop
   obtain ⟨tch, htch0⟩ : ∃ tch, tch = (if writes o = true then (named f o).filter (fun k => decide (k < H.size)) else []) ++ List.range' H.size (H'.size - H.size) := ⟨_, rfl⟩
   simp only [← htch0] at h
   split at h
   ·rename_i hok
    simp only [Bool.and_eq_true] at hok
    obtain ⟨⟨hvis, htch⟩, hnames⟩ := hok
    split at h
    ·rename_i f' hs
     have hlc := opV_loc (E := E) (vis := (Vis.only (named f o)).sees) (H := H) (W := if writes o then named f o else []) (f := f) (o := o) (fun k hk => by simp [Vis.sees, hk]) (fun hw k hk => by rw [if_pos hw]; exact hk) _ _ hop
     obtain ⟨⟨H'', hop2, hH''⟩, hlen, hkeep⟩ := hlc
     have hr := opV_run ok hw hf (wr := H.wr) (esc := H.esc) hop
     have hboth : ∃ ρ' w', WR E N ρ' H'.objs w' ∧ Goes H.objs ρ w H'.objs ρ' w' ∧ (match r0 with | .val v => v | _ => V.undef).lt H'.objs.length = true := by
      cases hr with
      | val ρ' w' h1 h2 h3 h4 => exact ⟨ρ', w', h2, h3, h4⟩
      | skip w' h1 h2 h3 => exact ⟨ρ, w', h2, h3, rfl⟩
      | enter h1 h2 h3 => exact (hne _ _ rfl).elim
     obtain ⟨ρ', w', h2, h3, h4⟩ := hboth
     refine ⟨_, _, f', H', ⟨rfl, rfl, hlen, fun k hk hn => ?_, fun k h1 h5 => ?_, fun k hk hl => ?_, fun k hk => ?_, fun q hq hb => ⟨fun k hk => ?_, fun k hk hlt => tchOk_spec htch (mem_freeOf hq hb) hk hlt⟩, ?_, hs, .inr ⟨hwant, ?_⟩⟩, ⟨ρ', _, w', (hf.mono h3.len h3.ext).set h4 hs, h2, h3⟩, hm1, h⟩
     ·refine hkeep k hk fun hw => hn ?_
      simp only [htch0]
      split at hw
      ·rename_i hwr
       rw [if_pos hwr]
       exact List.mem_append_left _ (List.mem_filter.2 ⟨hw, decide_eq_true (by simpa [Hp.size] using hk)⟩)
      ·cases hw
     ·simp only [htch0]
      exact List.mem_append_right _ (List.mem_range'_1.2 ⟨h1, by simp only [Hp.size]; omega⟩)
     ·simp only [htch0] at hk
      rcases List.mem_append.1 hk with hk | hk
      ·split at hk
       ·have := (List.mem_filter.1 hk).1
        simp [Vis.sees, this]
       ·cases hk
      ·have := List.mem_range'_1.1 hk
       simp only [Hp.size] at this
       omega
     ·simp only [htch0] at hk
      rcases List.mem_append.1 hk with hk | hk
      ·split at hk
       ·have := of_decide_eq_true (List.mem_filter.1 hk).2
        simp only [Hp.size] at this
        omega
       ·cases hk
      ·have := List.mem_range'_1.1 hk
       simp only [Hp.size] at this
       omega
     ·cases hse : (Vis.only (named f o)).sees k with
      | false => rfl
      | true =>
       exfalso
       have hkn : k ∈ named f o := by simpa [Vis.sees] using hse
       have := List.all_eq_true.1 hvis k hkn
       have hin : k ∈ (freeOf bef past).flatMap (·.tch) := List.mem_flatMap.2 ⟨q, mem_freeOf hq hb, hk⟩
       simp only [Bool.not_eq_true', List.contains_eq_mem, decide_eq_false_iff_not] at this
       exact this hin
     ·rw [Bool.or_eq_true] at hnames
      rcases hnames with hcp | hnames
      ·left
       obtain ⟨t, ht⟩ := Option.isSome_iff_exists.1 hcp
       obtain ⟨hv, hH⟩ := opV_copy ht hop
       refine ⟨t, ht, ?_, ?_⟩
       ·obtain ⟨v, e1, e2⟩ := hv
        rw [e1, e2]
       ·have hwr : writes o = false := by
         obtain ⟨dst, op, ty, pos, after, guard⟩ := o
         cases op <;> first | rfl | cases ht
        show tch = []
        rw [htch0, hwr, hH]
        simp
      right
      rintro k ⟨u, hu, hk⟩
      have hul : u.lt H'.objs.length = true := by
       rcases hu with rfl | ⟨j, _, x, hx, hm⟩
       ·exact h4
       ·exact h2.vals j x hx u hm
      refine ⟨by have := all_not hul hk; simpa using this, ?_⟩
      by_cases hk0 : k < n0
      ·exact .inl hk0
      ·right
       intro q hq hb hkq
       have hin : k ∈ (freeOf bef past).flatMap (·.tch) := List.mem_flatMap.2 ⟨q, mem_freeOf hq hb, hkq⟩
       have hin2 : k ∈ ((freeOf bef past).flatMap (·.tch)).filter fun k => decide (n0 ≤ k) := List.mem_filter.2 ⟨hin, by simp; omega⟩
       unfold namesOk at hnames
       simp only [Bool.or_eq_true, Bool.and_eq_true] at hnames
       rcases hnames with he | ⟨h6, h7⟩
       ·rw [List.isEmpty_iff] at he; rw [he] at hin2; cases hin2
       ·have hpu : u.all (fun k => !(((freeOf bef past).flatMap (·.tch)).filter fun k => decide (n0 ≤ k)).contains k) = true := by
         rcases hu with rfl | ⟨j, hj, x, hx, hm⟩
         ·cases r0 with
          | val v => exact h6
          | skip => rfl
          | enter g as => rfl
         ·have := List.all_eq_true.1 h7 j hj
          rw [hx] at this
          exact List.all_eq_true.1 this u hm
        have := all_not hpu hk
        simp only [Bool.not_eq_true', List.contains_eq_mem, decide_eq_false_iff_not] at this
        exact this hin2
     ·intro N ρ w a hw hf
      have hr := opV_run ok (H := maskL (Vis.only (named f o)).sees H.objs) hw (by rw [len_maskL]; exact hf) (wr := H.wr) (esc := H.esc) hop2
      cases hr with
      | val ρ' w' h1 h2 h3 h4 =>
       rw [h1]
       rw [hH''] at h2 h3 h4
       exact ⟨ρ', rfl, h2, h3, by simpa using h4⟩
      | skip w' h1 h2 h3 =>
       rw [h1]
       rw [hH''] at h2 h3
       exact ⟨ρ, rfl, h2, h3, rfl⟩
      | enter h1 h2 h3 => exact (hne _ _ rfl).elim
    ·cases h
   ·cases h

mutual
theorem all_of_names {p : Nat → Bool} : ∀ {u : V}, (∀ k, u.all (fun i => !(i == k)) = false → p k = true) → u.all p = true
 | .bool _, _ | .int _ _, _ | .str _, _ | .nilp, _ | .gptr _ _, _ | .nils, _ | .odd _, _ | .nilm, _ | .nilf, _ | .nili, _ => rfl
 | .ptr k _, h => h k (by simp [V.all])
 | .slice k _ _ _, h => h k (by simp [V.all])
 | .map k, h => h k (by simp [V.all])
 | .func f a b, h => by
  simp only [V.all, Bool.and_eq_true]
  exact ⟨allL_of_names fun k hk => h k (by simp [V.all, hk]), allL_of_names fun k hk => h k (by simp [V.all, hk])⟩
 | .iface t v, h => by simp only [V.all]; exact all_of_names fun k hk => h k (by simp [V.all, hk])
 | .agg cs, h => by simp only [V.all]; exact allL_of_names fun k hk => h k (by simp [V.all, hk])
 | .tup cs, h => by simp only [V.all]; exact allL_of_names fun k hk => h k (by simp [V.all, hk])
theorem allL_of_names {p : Nat → Bool} : ∀ {l : List V}, (∀ k, V.allL (fun i => !(i == k)) l = false → p k = true) → V.allL p l = true
 | [], _ => rfl
 | v :: r, h => by
  simp only [V.allL, Bool.and_eq_true]
  exact ⟨all_of_names fun k hk => h k (by simp [V.allL, hk]), allL_of_names fun k hk => h k (by simp [V.allL, hk])⟩
end

def pastAt (past : List Past) (p : Nat → Past) (j : Nat) : List Past := ((List.range j).map p).reverse ++ past

theorem pastAt_succ (past : List Past) (p0 : Past) (p : Nat → Past) (j : Nat) : pastAt past (fun | 0 => p0 | j + 1 => p j) (j + 1) = pastAt (p0 :: past) p j := by
 simp only [pastAt, List.range_succ_eq_map, List.map_cons, List.map_map, List.reverse_cons, List.append_assoc, List.singleton_append]
 rfl

theorem evDrawn_trace (ok : E.Ok) {C : Callee} (hC : Callee.Ok E C) {ops : List Oper} {n0 : Nat} {bef : List Nat} : ∀ (r : List Oper) (past : List Past) (f : Fr) (H : Hp) (f' : Fr) (H' : Hp) (ρ : Nat → Loc) (a : Act) (w : World), WR E N ρ H.objs w → FR H.objs.length ρ f a →
 evDrawn E C ops n0 bef r past f H = some (f', H') →
 ∃ (F : Nat → Fr) (M : Nat → List AObj) (v : Nat → V) (p : Nat → Past), F 0 = f ∧ M 0 = H.objs ∧ F r.length = f' ∧ M r.length = H'.objs ∧ Mono H H' ∧ Reach E N ρ H.objs w f' H' ∧
  ∀ j o, r[j]? = some o → SF E ops n0 (bef.getD (past.length + j) 0) (pastAt past p j) o (F j) (M j) (v j) (p j) (F (j + 1)) (M (j + 1))
 | [], past, f, H, f', H', ρ, a, w, hw, hf, h => by
  simp only [evDrawn, Option.some.injEq, Prod.mk.injEq] at h
  obtain ⟨rfl, rfl⟩ := h
  exact ⟨fun _ => f, fun _ => H.objs, fun _ => .undef, fun _ => default, rfl, rfl, rfl, rfl, Mono.refl _, ⟨ρ, a, w, hf, hw, Goes.refl _ _ _⟩, fun j o ho => by simp at ho⟩
 | o :: r, past, f, H, f', H', ρ, a, w, hw, hf, h => by
  obtain ⟨v0, p0, f1, H1, hsf, ⟨ρ1, a1, w1, hf1, hw1, hg1⟩, hm1, h1⟩ := evDrawn_step ok hC hw hf h
  obtain ⟨F, M, v, p, e1, e2, e3, e4, hm2, hb2, hall⟩ := evDrawn_trace ok hC r (p0 :: past) f1 H1 f' H' ρ1 a1 w1 hw1 hf1 h1
  refine ⟨fun | 0 => f | j + 1 => F j, fun | 0 => H.objs | j + 1 => M j, fun | 0 => v0 | j + 1 => v j, fun | 0 => p0 | j + 1 => p j, rfl, rfl, e3, e4, hm1.trans hm2, hb2.before hg1, fun j oj ho => ?_⟩
  cases j with
  | zero =>
   simp only [List.getElem?_cons_zero, Option.some.injEq] at ho
   subst ho
   simp only [pastAt, List.range_zero, List.map_nil, List.reverse_nil, List.nil_append, Nat.add_zero, e1, e2]
   exact hsf
  | succ j =>
   have := hall j oj (by simpa using ho)
   rw [pastAt_succ]
   simp only [List.length_cons] at this
   rw [show past.length + (j + 1) = past.length + 1 + j by omega]
   exact this

theorem befs_keep : ∀ (r : List Oper) (acc : List Nat) (k : Nat), k < acc.length → (befs r acc)[k]? = acc[k]?
 | [], acc, k, _ => rfl
 | o :: r, acc, k, h => by
  simp only [befs]
  rw [befs_keep r _ k (by simp; omega), List.getElem?_append_left h]

theorem befs_take : ∀ (r : List Oper) (acc : List Nat), (befs r acc).take acc.length = acc := by
 intro r acc
 apply List.ext_getElem?
 intro k
 rw [List.getElem?_take]
 split
 ·rename_i h; exact befs_keep r acc k h
 ·rename_i h; rw [List.getElem?_eq_none (by omega)]

theorem befs_at : ∀ (r : List Oper) (acc : List Nat) (j : Nat) (o : Oper), r[j]? = some o → (befs r acc)[acc.length + j]? = some (befOne ((befs r acc).take (acc.length + j)) o)
 | [], acc, j, o, h => by simp at h
 | x :: r, acc, 0, o, h => by
  simp only [List.getElem?_cons_zero, Option.some.injEq] at h
  subst h
  simp only [befs, Nat.add_zero]
  rw [befs_keep r _ acc.length (by simp)]
  have h1 := befs_take r (acc ++ [befOne acc x])
  have h2 : (befs r (acc ++ [befOne acc x])).take acc.length = acc := by
   have : ((befs r (acc ++ [befOne acc x])).take (acc ++ [befOne acc x]).length).take acc.length = acc := by rw [h1]; simp
   rw [List.take_take] at this
   simpa using this
  rw [h2]
  simp
 | x :: r, acc, j + 1, o, h => by
  simp only [befs]
  have := befs_at r (acc ++ [befOne acc x]) j o (by simpa using h)
  simp only [List.length_append, List.length_singleton] at this
  rw [show acc.length + (j + 1) = acc.length + 1 + j by omega]
  exact this

theorem befOne_test (acc : List Nat) (o : Oper) (i : Nat) : (befOne acc o).testBit i = true ↔ ∃ e ∈ o.after, Region.binds .any e = true ∧ (i = e.on ∨ (acc.getD e.on 0).testBit i = true) := by
 have key : ∀ (l : List Edge) (s : Nat), (l.foldl (fun s e => if Region.binds .any e then s ||| 2 ^ e.on ||| acc.getD e.on 0 else s) s).testBit i = true ↔ s.testBit i = true ∨ ∃ e ∈ l, Region.binds .any e = true ∧ (i = e.on ∨ (acc.getD e.on 0).testBit i = true) := by
  intro l
  induction l with
  | nil => intro s; simp
  | cons e l ih =>
   intro s
   simp only [List.foldl_cons]
   rw [ih]
   by_cases hb : Region.binds .any e = true
   ·simp only [hb, if_true, Nat.testBit_or, Bool.or_eq_true, Nat.testBit_two_pow, decide_eq_true_eq, List.mem_cons, exists_eq_or_imp, true_and]
    constructor
    ·rintro (((h | h) | h) | h)
     ·exact .inl h
     ·exact .inr (.inl (.inl h.symm))
     ·exact .inr (.inl (.inr h))
     ·exact .inr (.inr h)
    ·rintro (h | (h | h) | h)
     ·exact .inl (.inl (.inl h))
     ·exact .inl (.inl (.inr h.symm))
     ·exact .inl (.inr h)
     ·exact .inr h
   ·simp only [hb, Bool.false_eq_true, if_false, List.mem_cons, exists_eq_or_imp, false_and, false_or]
 unfold befOne
 rw [key]
 simp

theorem drawnOk_facts {ops : List Oper} {bs : List Nat} {arr : Array Oper} : ∀ (r : List Oper) (n : Nat), drawnOkGo ops bs arr r n = true → ∀ j o, r[j]? = some o →
 notSelect o.op = true ∧ (∀ e ∈ o.after, Region.binds .any e = true → e.on < n + j) ∧ (∀ d, o.dst = some d → defAt ops d = some (n + j)) ∧
 ∀ t ∈ o.looksAt arr, ∀ d, defAt ops t = some d → d = n + j ∨ (d < n + j ∧ (bs.getD (n + j) 0).testBit d = true) ∨ (n + j < d ∧ (bs.getD d 0).testBit (n + j) = true)
 | [], n, _, j, o, ho => by simp at ho
 | o0 :: r, n, h, j, o, ho => by
  simp only [drawnOkGo, Bool.and_eq_true] at h
  obtain ⟨⟨⟨⟨h1, h2⟩, h3⟩, h4⟩, h5⟩ := h
  cases j with
  | zero =>
   simp only [List.getElem?_cons_zero, Option.some.injEq] at ho
   subst ho
   simp only [Nat.add_zero]
   refine ⟨h1, fun e he hb => ?_, fun d hd => ?_, fun t ht d hd => ?_⟩
   ·rw [Array.all_eq_true_iff_forall_mem] at h2
    have := h2 e he
    simpa [hb] using this
   ·rw [hd] at h3
    simpa using h3
   ·have := List.all_eq_true.1 h4 t ht
    rw [hd] at this
    simp only [Bool.or_eq_true, beq_iff_eq] at this
    rcases this with h | h
    ·exact .inl h
    ·split at h
     ·rename_i hlt; exact .inr (.inl ⟨hlt, h⟩)
     ·rename_i hlt
      by_cases e : d = n
      ·exact .inl e
      ·exact .inr (.inr ⟨by omega, h⟩)
  | succ j =>
   have := drawnOk_facts r (n + 1) h5 j o (by simpa using ho)
   rw [show n + 1 + j = n + (j + 1) by omega] at this
   exact this

theorem evDrawn_run (ok : E.Ok) {C : Callee} (hC : Callee.Ok E C) {id : Nat} {ops : Array Oper} (hB : drawnOk ops.toList = true) {f f' : Fr} {H H' : Hp} {a : Act} (hw : WR E N ρ H.objs w) (hf : FR H.objs.length ρ f a)
 (h : evDrawn E C ops.toList H.objs.length (befs ops.toList []) ops.toList [] f H = some (f', H')) :
 (Mono H H' ∧ Reach E N ρ H.objs w f' H') ∧ ∀ {Q : Exit → Act → World → Prop}, Ends E N ρ H.objs w (Q .normal) f' H' → (Code.region id ops true).wp E.P Q a w := by
 obtain ⟨F, M, v, p, e1, e2, e3, e4, hm, hreach, hall⟩ := evDrawn_trace ok hC ops.toList [] f H f' H' ρ a w hw hf h
 have hdf := drawnOk_facts ops.toList 0 hB
 simp only [Nat.zero_add] at hdf
 let b := befs ops.toList []
 have hbe : ∀ j o, ops.toList[j]? = some o → ∀ i, (b.getD j 0).testBit i = true ↔ ∃ e ∈ o.after, Region.binds .any e = true ∧ (i = e.on ∨ ((b.take j).getD e.on 0).testBit i = true) := by
  intro j o ho i
  have := befs_at ops.toList [] j o ho
  simp only [List.length_nil, Nat.zero_add] at this
  have e : b.getD j 0 = befOne (b.take j) o := by simp only [List.getD_eq_getElem?_getD]; show (b[j]?).getD 0 = _; rw [this]; rfl
  rw [e]
  exact befOne_test _ o i
 have hedge : ∀ j o, ops.toList[j]? = some o → ∀ e ∈ o.after, Region.binds .any e = true → e.on < j := fun j o ho => (hdf j o ho).2.1
 have hget : ∀ j o e, ops.toList[j]? = some o → e < j → (b.take j).getD e 0 = b.getD e 0 := by
  intro j o e _ he
  simp only [List.getD_eq_getElem?_getD, List.getElem?_take, he, if_true]
 let T : DT E ops.toList := { F := F, M := M, v := v, tch := fun i => (p i).tch, vis := fun i => (p i).vis.sees, bef := fun j i => decide (j < ops.toList.length) && (b.getD j 0).testBit i }
 have hex : ∀ i, i < ops.toList.length → ∃ o, ops.toList[i]? = some o := fun i hi => ⟨_, List.getElem?_eq_getElem hi⟩
 have hsf : ∀ j o, ops.toList[j]? = some o → SF E ops.toList H.objs.length (b.getD j 0) (pastAt [] p j) o (F j) (M j) (v j) (p j) (F (j + 1)) (M (j + 1)) := by
  intro j o ho
  have := hall j o ho
  simpa using this
 have hidx : ∀ j, j < ops.toList.length → (p j).idx = j ∧ (p j).sz = (M j).length := by
  intro j hj
  obtain ⟨o, ho⟩ := hex j hj
  have := hsf j o ho
  exact ⟨by rw [this.idx]; simp [pastAt], this.sz⟩
 have hpast : ∀ i j, i < j → p i ∈ pastAt [] p j := by
  intro i j hij
  simp only [pastAt, List.append_nil, List.mem_reverse, List.mem_map, List.mem_range]
  exact ⟨i, hij, rfl⟩
 have hM0 : (T.M 0).length = H.objs.length := by show (M 0).length = _; rw [e2]
 have hmono : ∀ i, i < ops.toList.length → (M i).length ≤ (M (i + 1)).length := by
  intro i hi
  obtain ⟨o, ho⟩ := hex i hi
  exact (hsf i o ho).mono
 have hnew : ∀ i k, i < ops.toList.length → T.fresh i k = true → k ∈ (p i).tch := by
  intro i k hi hk
  obtain ⟨o, ho⟩ := hex i hi
  have := DT.fresh_lt hk
  exact (hsf i o ho).new k this.1 this.2
 have hbirth : ∀ n, n ≤ ops.toList.length → ∀ k, k < (M n).length → k < (M 0).length ∨ ∃ i, i < n ∧ T.fresh i k = true := by
  intro n
  induction n with
  | zero => intro _ k hk; exact .inl hk
  | succ n ih =>
   intro hn k hk
   by_cases hlt : k < (M n).length
   ·rcases ih (by omega) k hlt with h | ⟨i, hi, h⟩
    ·exact .inl h
    ·exact .inr ⟨i, by omega, h⟩
   ·exact .inr ⟨n, by omega, by simp [DT.fresh]; exact ⟨Nat.le_of_not_lt hlt, hk⟩⟩
 have htrans : ∀ j, j < ops.toList.length → ∀ i k, (b.getD j 0).testBit i = true → (b.getD i 0).testBit k = true → (b.getD j 0).testBit k = true := by
  intro j
  induction j using Nat.strongRecOn with
  | ind j ih =>
   intro hj i k h1 h2
   obtain ⟨o, ho⟩ := hex j hj
   obtain ⟨e, he, hb, hor⟩ := (hbe j o ho i).1 h1
   have hlt := hedge j o ho e he hb
   refine (hbe j o ho k).2 ⟨e, he, hb, .inr ?_⟩
   rw [hget j o e.on ho hlt] at hor ⊢
   rcases hor with h | h
   ·rw [← h]; exact h2
   ·exact ih e.on hlt (by omega) i k h h2
 have hlay : ∀ t j, j ≤ ops.toList.length → (F j).ev (.tmp t) = (F 0).ev (.tmp t) ∨ ∃ i oi, i < j ∧ ops.toList[i]? = some oi ∧ oi.dst = some t ∧ (F j).ev (.tmp t) = some (v i) := by
  intro t j
  induction j with
  | zero => intro _; exact .inl rfl
  | succ j ih =>
   intro hj
   obtain ⟨o, ho⟩ := hex j hj
   have hfr := (hsf j o ho).frame
   have hih : (F j).ev (.tmp t) = (F 0).ev (.tmp t) ∨ ∃ i oi, i < j + 1 ∧ ops.toList[i]? = some oi ∧ oi.dst = some t ∧ (F j).ev (.tmp t) = some (v i) := by
    rcases ih (by omega) with h | ⟨i, oi, h1, h2⟩
    ·exact .inl h
    ·exact .inr ⟨i, oi, by omega, h2⟩
   cases hd : o.dst with
   | none =>
    rw [hd] at hfr
    simp only [Fr.set, Option.some.injEq] at hfr
    rw [← hfr]; exact hih
   | some d =>
    rw [hd] at hfr
    simp only [Fr.set, Option.some.injEq] at hfr
    have hg : (F (j + 1)).ev (.tmp t) = if t = d ∧ d < (F j).m.length then some (v j) else (F j).ev (.tmp t) := by
     rw [← hfr]; exact get_put _ _ _ _
    rw [hg]
    split
    ·rename_i h; exact .inr ⟨j, o, by omega, ho, by rw [hd, h.1], rfl⟩
    ·exact hih
 have hnames : ∀ j o, ops.toList[j]? = some o → ∀ u, (u = v j ∨ ∃ i ∈ (p j).tch, ∃ x, (M (j + 1))[i]? = some x ∧ u ∈ x.vals) →
  u.all (fun k => decide (k < (T.M 0).length) || (List.range (j + 1)).any fun i => T.fresh i k && (i == j || T.bef j i)) = true := by
  intro j
  induction j using Nat.strongRecOn with
  | ind j ih =>
  intro o ho u hu
  have hj : j < ops.toList.length := (List.getElem?_eq_some_iff.1 ho).1
  rcases (hsf j o ho).names with ⟨t, ht, hv, htch⟩ | hnm
  ·-- a copy
   have huv : u = v j := by
    rcases hu with h | ⟨i, hi, _⟩
    ·exact h
    ·rw [htch] at hi; cases hi
   subst huv
   rcases hlay t j (by omega) with h | ⟨i, oi, h1, h2, h3, h4⟩
   ·rw [h, e1] at hv
    have := (hf.ev hv).1
    exact all_mono _ _ (fun k hk => by rw [hM0]; simp only [Bool.or_eq_true]; exact .inl hk) _ this
   ·rw [h4] at hv
    have hvi : v i = v j := Option.some.inj hv
    have hi := ih i h1 oi h2 _ (.inl rfl)
    rw [← hvi]
    have hlk : t ∈ o.looksAt ops.toList.toArray := copy_looks ht
    have hbi : (b.getD j 0).testBit i = true := by
     rcases (hdf j o ho).2.2.2 t hlk i ((hdf i oi h2).2.2.1 t h3) with h | ⟨_, h⟩ | ⟨h, _⟩
     ·omega
     ·exact h
     ·omega
    refine all_mono _ _ (fun k hk => ?_) _ hi
    simp only [Bool.or_eq_true, decide_eq_true_eq, List.any_eq_true, List.mem_range, Bool.and_eq_true, beq_iff_eq] at hk ⊢
    rcases hk with hk | ⟨i', h5, h6, h7⟩
    ·exact .inl hk
    ·refine .inr ⟨i', by omega, h6, .inr ?_⟩
     have : (b.getD j 0).testBit i' = true := by
      rcases h7 with h7 | h7
      ·rw [h7]; exact hbi
      ·simp only [T, Bool.and_eq_true] at h7
       exact htrans j hj i i' hbi h7.2
     simp only [T, hj, decide_true, this, Bool.and_true]
  have main : ∀ k, u.all (fun i => !(i == k)) = false → (decide (k < (T.M 0).length) || (List.range (j + 1)).any fun i => T.fresh i k && (i == j || T.bef j i)) = true := by
   intro k hk
   obtain ⟨hlt, hor⟩ := hnm k ⟨u, hu, hk⟩
   simp only [Bool.or_eq_true, decide_eq_true_eq, List.any_eq_true, List.mem_range, Bool.and_eq_true, beq_iff_eq]
   rcases hbirth (j + 1) hj k hlt with h | ⟨i, hi, h⟩
   ·exact .inl h
   ·by_cases hk0 : k < H.objs.length
    ·exact .inl (by rw [hM0]; exact hk0)
    ·rcases hor with h0 | hor
     ·exact absurd h0 hk0
     ·refine .inr ⟨i, hi, h, ?_⟩
      by_cases e : i = j
      ·exact .inl e
      ·right
       cases hbb : (b.getD j 0).testBit i with
       | true => simp only [T, hj, decide_true, hbb, Bool.and_true]
       | false =>
        have hil : i < ops.toList.length := by omega
        have := hor (p i) (hpast i j (by omega)) (by rw [(hidx i hil).1]; exact hbb)
        exact absurd (hnew i k hil h) this
  exact all_of_names main
 have good : T.Good := by
  refine ⟨hmono, fun i k hi hk hn => ?_, hnew, fun i k hi hk hl => ?_, fun i k hi hk => ?_, fun i j hij hj hb => ?_, fun j hj => ?_, fun j k o hj hk ho w hw => ?_, fun i o ho => (hsf i o ho).frame, fun j i hj hb => ?_, fun j o ho e he hb => ?_, fun i j oi oj hij hoi hoj hb => ?_, fun j o cs bb ho => ?_, fun i o ho => ?_⟩
  ·obtain ⟨o, ho⟩ := hex i hi; exact (hsf i o ho).keep k hk hn
  ·obtain ⟨o, ho⟩ := hex i hi; exact (hsf i o ho).sees k hk hl
  ·obtain ⟨o, ho⟩ := hex i hi; exact (hsf i o ho).tlt k hk
  ·obtain ⟨o, ho⟩ := hex j hj
   have hil : i < ops.toList.length := by omega
   have hb' : (b.getD j 0).testBit i = false := by
    simp only [T, hj, decide_true, Bool.true_and] at hb; exact hb
   have := (hsf j o ho).apart (p i) (hpast i j hij) (by rw [(hidx i hil).1]; exact hb')
   rw [(hidx i hil).2] at this
   exact this
  ·obtain ⟨o, ho⟩ := hex j hj
   exact hnames j o ho _ (.inl rfl)
  ·obtain ⟨oj, hoj⟩ := hex j hj
   exact hnames j oj hoj w (.inr ⟨k, hk, o, ho, hw⟩)
  ·obtain ⟨o, ho⟩ := hex j hj
   simp only [T, hj, decide_true, Bool.true_and] at hb
   obtain ⟨e, he, hbi, hor⟩ := (hbe j o ho i).1 hb
   have hlt := hedge j o ho e he hbi
   refine ⟨o, ho, e, he, hbi, hlt, ?_⟩
   rcases hor with h | h
   ·exact .inl h
   ·right
    rw [hget j o e.on ho hlt] at h
    have : e.on < ops.toList.length := by omega
    simp only [T, this, decide_true, Bool.true_and]
    exact h
  ·have hj : j < ops.toList.length := (List.getElem?_eq_some_iff.1 ho).1
   refine ⟨hedge j o ho e he hb, ?_⟩
   simp only [T, hj, decide_true, Bool.true_and]
   exact (hbe j o ho e.on).2 ⟨e, he, hb, .inl rfl⟩
  ·have hj : j < ops.toList.length := (List.getElem?_eq_some_iff.1 hoj).1
   obtain ⟨_, _, hdi, hli⟩ := hdf i oi hoi
   obtain ⟨_, _, hdj, hlj⟩ := hdf j oj hoj
   simp only [T, hj, decide_true, Bool.true_and] at hb
   have ha : ∀ d, oi.dst = some d → d ∉ oj.looksAt ops.toList.toArray := by
    intro d hd hm
    rcases hlj d (by simpa using hm) i (hdi d hd) with h | ⟨_, h⟩ | ⟨h, _⟩
    ·omega
    ·rw [hb] at h; cases h
    ·omega
   have hc : ∀ d, oj.dst = some d → d ∉ oi.looksAt ops.toList.toArray := by
    intro d hd hm
    rcases hli d (by simpa using hm) j (hdj d hd) with h | ⟨h, _⟩ | ⟨_, h⟩
    ·omega
    ·omega
    ·rw [hb] at h; cases h
   have hne : ∀ d, oi.dst = some d → oj.dst ≠ some d := by
    intro d hd hd'
    have := (hdi d hd).symm.trans (hdj d hd')
    simp only [Option.some.injEq] at this
    omega
   unfold Oper.apart
   simp only [Bool.and_eq_true]
   constructor
   ·cases hd : oi.dst with
    | none => rfl
    | some d =>
     have h1 := ha d hd
     have h2 := hne d hd
     simp only [Bool.and_eq_true, Bool.not_eq_true', bne_iff_ne, ne_eq]
     exact ⟨by simpa using h1, h2⟩
   ·cases hd : oj.dst with
    | none => rfl
    | some d =>
     have h1 := hc d hd
     simpa using h1
  ·intro hop
   have := (hdf j o ho).1
   rw [hop] at this
   cases this
  ·rcases (hsf i o ho).exec with ⟨h1, h2, h3, h4⟩ | h
   ·exact .inl ⟨h1, h2, h3, h4⟩
   ·exact .inr h
 have hfin : ∀ {Q : Exit → Act → World → Prop}, Ends E N ρ H.objs w (Q .normal) f' H' → (Code.region id ops true).wp E.P Q a w := by
  intro Q hQ
  have := DT.region (id := id) good ok.mixed (N := N) (ρ := ρ) (a := a) (w := w) (by show FR (M 0).length ρ (F 0) a; rw [e1, e2]; exact hf) (by show WR E N ρ (M 0) w; rw [e2]; exact hw) (Q := Q) (fun ρ' a' w' h1 h2 h3 => by
   refine hQ ρ' a' w' ?_ ?_ ?_
   ·rw [← e3, ← e4]; exact h1
   ·rw [← e4]; exact h2
   ·rw [← e4, ← e2]; exact h3)
  simpa using this
 exact ⟨⟨hm, hreach⟩, hfin⟩

end Go.Am

namespace Go.Am
open Go

variable {E : Env} {N : Nat} {ρ ρ' : Nat → Loc} {H : List AObj} {w w' : World}

theorem mem_ins1 {α : Type} (a : α) : ∀ (s t : List α), s ++ a :: t ∈ ins1 a (s ++ t)
 | [], [] => by simp [ins1]
 | [], b :: t => by simp [ins1]
 | b :: s, t => by
  simp only [List.cons_append, ins1, List.mem_cons, List.mem_map]
  exact .inr ⟨_, mem_ins1 a s t, rfl⟩

theorem mem_perms {α : Type} : ∀ (l l' : List α), l'.Perm l → l' ∈ perms l
 | [], l', h => by simp [perms, h.eq_nil]
 | a :: l, l', h => by
  obtain ⟨s, t, rfl⟩ := List.append_of_mem (h.mem_iff.2 (List.mem_cons_self ..))
  have : (s ++ t).Perm l := (List.perm_middle.symm.trans h).cons_inv
  simp only [perms, List.mem_flatMap]
  exact ⟨_, mem_perms l _ this, mem_ins1 a s t⟩

theorem ins1_perm {α : Type} (a : α) : ∀ (l l' : List α), l' ∈ ins1 a l → l'.Perm (a :: l)
 | [], l', h => by simp only [ins1, List.mem_singleton] at h; subst h; exact List.Perm.refl _
 | b :: l, l', h => by
  simp only [ins1, List.mem_cons, List.mem_map] at h
  rcases h with rfl | ⟨x, hx, rfl⟩
  ·exact List.Perm.refl _
  ·exact ((ins1_perm a l x hx).cons b).trans (List.Perm.swap a b l)

theorem perms_perm {α : Type} : ∀ (l l' : List α), l' ∈ perms l → l'.Perm l
 | [], l', h => by simp only [perms, List.mem_singleton] at h; subst h; exact List.Perm.refl _
 | a :: l, l', h => by
  simp only [perms, List.mem_flatMap] at h
  obtain ⟨x, hx, hl⟩ := h
  exact (ins1_perm a x l' hl).trans ((perms_perm l x hx).cons a)

theorem stamp_append : ∀ (s : List (V × V)) (n : Nat) (k v : V), stamp (s ++ [(k, v)]) n = stamp s n ++ [⟨k, v, n + s.length⟩]
 | [], n, k, v => by simp [stamp]
 | (a, b) :: s, n, k, v => by
  simp only [List.cons_append, stamp, stamp_append s (n + 1) k v, List.length_cons]
  rw [show n + 1 + s.length = n + (s.length + 1) by omega]

theorem stamp_vals {v : V} : ∀ {s : List (V × V)} {n : Nat}, v ∈ (stamp s n).map (·.key) ++ (stamp s n).map (·.val) → ∃ p ∈ s, v = p.1 ∨ v = p.2
 | [], n, h => by simp [stamp] at h
 | (a, b) :: s, n, h => by
  simp only [stamp, List.map_cons, List.cons_append, List.mem_cons, List.mem_append] at h
  rcases h with h | h | h | h
  ·exact ⟨_, List.mem_cons_self .., .inl h⟩
  ·obtain ⟨p, hp, h⟩ := stamp_vals (v := v) (s := s) (n := n + 1) (List.mem_append.2 (.inl h))
   exact ⟨p, List.mem_cons_of_mem _ hp, h⟩
  ·exact ⟨_, List.mem_cons_self .., .inr h⟩
  ·obtain ⟨p, hp, h⟩ := stamp_vals (v := v) (s := s) (n := n + 1) (List.mem_append.2 (.inr h))
   exact ⟨p, List.mem_cons_of_mem _ hp, h⟩

theorem isNN_eq {α : Type} {a : Option (Option α)} (h : isNN a = true) : a = some none := by
 unfold isNN at h
 split at h
 ·rfl
 ·cases h

theorem findV_none {k : V} : ∀ (es : List Ent) (i : Nat), (∀ e ∈ es, findV k [e] 0 = some none) → findV k es i = some none
 | [], i, _ => rfl
 | e :: es, i, h => by
  have h1 := h e (List.mem_cons_self ..)
  simp only [findV] at h1 ⊢
  split at h1
  ·cases h1
  ·exact findV_none es _ fun e' he => h e' (List.mem_cons_of_mem _ he)
  ·cases h1

theorem findA_none {P : Program} {kt : TypeId} {k : V} : ∀ (es : List Ent) (i : Nat), (∀ e ∈ es, findA P kt k [e] 0 = some none) → findA P kt k es i = some none
 | [], i, _ => rfl
 | e :: es, i, h => by
  have h1 := h e (List.mem_cons_self ..)
  simp only [findA] at h1 ⊢
  split at h1
  ·cases h1
  ·exact findA_none es _ fun e' he => h e' (List.mem_cons_of_mem _ he)
  ·cases h1

theorem findK_none {P : Program} {kt : TypeId} {k : V} {es : List Ent} (h0 : findK P kt k [] = some none) (h : ∀ e ∈ es, findK P kt k [e] = some none) : findK P kt k es = some none := by
 unfold findK at h0 h ⊢
 split
 ·rename_i hp
  exact findV_none es 0 fun e he => by have := h e he; rwa [if_pos hp] at this
 ·rename_i hp
  split
  ·rename_i ha
   exact findA_none es 0 fun e he => by have := h e he; rwa [if_neg hp, if_pos ha] at this
  ·rename_i ha
   rw [if_neg hp, if_neg ha] at h0
   cases h0

theorem findK_born {P : Program} {kt : TypeId} {k a b : V} {n m : Nat} (h : findK P kt k [⟨a, b, n⟩] = some none) : findK P kt k [⟨a, b, m⟩] = some none := by
 unfold findK at h ⊢
 simpa only [findV, findA] using h

theorem evParts_more {fx fr : Fr} (hx : ∀ x v, fx.ev x = some v → fr.ev x = some v) : ∀ {ps : List (Nat × Operand)} {vs : List (Nat × V)}, evParts fx ps = some vs → evParts fr ps = some vs
 | [], vs, h => h
 | (i, x) :: r, vs, h => by
  simp only [evParts] at h ⊢
  cases h1 : fx.ev x with
  | none => rw [h1] at h; cases h
  | some v =>
   cases h2 : evParts fx r with
   | none => rw [h1, h2] at h; cases h
   | some vs' =>
    rw [h1, h2] at h
    rw [hx x v h1, evParts_more hx h2]
    exact h

theorem okO_val {x : Option V} {H H1 : Hp} {v : V} (h : okO x H = some (.val v, H1)) : x = some v := by
 unfold okO at h
 obtain ⟨y, h1, h2⟩ := Option.map_eq_some_iff.1 h
 cases h2
 exact h1

theorem litPure_run {fx fr : Fr} {o : Oper} (hp : litPure o.op = true) (hx : ∀ x v, fx.ev x = some v → fr.ev x = some v) {v : V} {H1 : Hp} (h : opV E fx o ⟨[], 0, 0⟩ = some (.val v, H1)) (M : List AObj) :
 opV E fr o ⟨M, 0, 0⟩ = some (.val v, ⟨M, 0, 0⟩) := by
 obtain ⟨dst, op, type, pos, after, guard⟩ := o
 cases op <;> simp only [litPure, Bool.false_eq_true] at hp
 case build t ps =>
  unfold opV at h ⊢
  simp only at h ⊢
  cases h1 : evParts fx ps.toList with
  | none => rw [h1] at h; cases h
  | some vs =>
   rw [h1] at h
   rw [evParts_more hx h1]
   simp only at h ⊢
   rw [okO_val h]
   rfl
 case move x =>
  unfold opV at h ⊢
  simp only at h ⊢
  rw [hx x v (okO_val h)]
  rfl
 case assign x =>
  unfold opV at h ⊢
  simp only at h ⊢
  rw [hx x v (okO_val h)]
  rfl
 case nilCheck x =>
  unfold opV at h ⊢
  simp only at h ⊢
  cases h1 : fx.ev x with
  | none => rw [h1] at h; cases h
  | some a =>
   rw [h1] at h
   rw [hx x a h1]
   cases a <;> simp only [ok, reduceCtorEq, Option.some.injEq, Prod.mk.injEq, R.val.injEq] at h ⊢ <;> simp [h.1]
 case fieldAddr st x i =>
  unfold opV at h ⊢
  simp only at h ⊢
  cases h1 : fx.ev x with
  | none => rw [h1] at h; cases h
  | some a =>
   rw [h1] at h
   rw [hx x a h1]
   simp only at h ⊢
   rw [okO_val h]
   rfl

theorem get_range {g : Nat → Option V} (n t : Nat) : get ((List.range n).map g) t = if t < n then g t else none := by
 rw [get_eq, List.getElem?_map]
 by_cases h : t < n
 ·rw [List.getElem?_range h, if_pos h]; rfl
 ·rw [List.getElem?_eq_none (by simpa using h), if_neg h]; rfl

theorem litSee_spec {ks : List LD} {o : Oper} {x : Operand} {v : V} (h : litSee ks o x = some v) :
 ∃ t j q, x = .tmp t ∧ ks[j]? = some q ∧ q.d = some (t, v) ∧ ∃ e ∈ o.after, Region.binds .any e = true ∧ e.on = j := by
 unfold litSee at h
 split at h
 ·rename_i t
  split at h
  ·rename_i j hj
   split at h
   ·rename_i ha
    obtain ⟨q, hq, hv⟩ := Option.bind_eq_some_iff.1 h
    obtain ⟨⟨d, u⟩, hd, rfl⟩ := Option.map_eq_some_iff.1 hv
    have := List.findIdx?_eq_some_iff_getElem.1 hj
    obtain ⟨hlt, hl, _⟩ := this
    rw [List.getElem?_eq_getElem hlt] at hq
    simp only [Option.some.injEq] at hq
    rw [hq] at hl
    unfold LD.lays at hl
    rw [hd] at hl
    simp only [beq_iff_eq] at hl
    subst hl
    rw [Array.any_eq_true'] at ha
    obtain ⟨e, he, h2⟩ := ha
    simp only [Bool.and_eq_true, beq_iff_eq] at h2
    exact ⟨_, j, q, rfl, by rw [List.getElem?_eq_getElem hlt, hq], hd, e, he, h2.1, h2.2⟩
   ·cases h
  ·cases h
 ·cases h

def Outs1 (K : Value → World → Prop) : Result Next → Prop
 | .ok (.value u) w' => K u w'
 | .ok .skip w' => K undef w'
 | _ => False

theorem Outs1.outs {P : Program} {K : Value → World → Prop} {r : Result Next} (h : Outs1 K r) : Outs P K r := by
 unfold Outs1 at h
 split at h
 ·exact h
 ·exact h
 ·exact h.elim

theorem sets_len : ∀ (ks : List LD) (f : Fr), (sets ks f).m.length = f.m.length
 | [], f => rfl
 | q :: r, f => by
  simp only [sets]
  rw [sets_len r]
  split
  ·simp [length_put]
  ·rfl

theorem sets_old {t : Nat} : ∀ (ks : List LD) (f : Fr), (∀ q ∈ ks, ∀ v, q.d ≠ some (t, v)) → get (sets ks f).m t = get f.m t
 | [], f, _ => rfl
 | q :: r, f, h => by
  simp only [sets]
  rw [sets_old r _ fun q' hq' => h q' (List.mem_cons_of_mem _ hq')]
  split
  ·rename_i d v hd
   simp only [get_put]
   rw [if_neg]
   rintro ⟨rfl, _⟩
   exact h q (List.mem_cons_self ..) v hd
  ·rfl

theorem sets_get {t : Nat} {v : V} : ∀ (ks : List LD) (f : Fr), (∀ q ∈ ks, ∀ v', q.d = some (t, v') → v' = v) → t < f.m.length → ((∃ q ∈ ks, q.d = some (t, v)) ∨ get f.m t = some v) → get (sets ks f).m t = some v
 | [], f, _, _, h => by
  rcases h with ⟨q, hq, _⟩ | h
  ·cases hq
  ·exact h
 | q :: r, f, hv, hlt, h => by
  simp only [sets]
  refine sets_get r _ (fun q' hq' => hv q' (List.mem_cons_of_mem _ hq')) (by split <;> simp [length_put, hlt]) ?_
  by_cases hr : ∃ q' ∈ r, q'.d = some (t, v)
  ·exact .inl hr
  ·right
   split
   ·rename_i d u hd
    simp only [get_put]
    by_cases e : t = d
    ·subst e
     rw [if_pos ⟨rfl, hlt⟩, hv q (List.mem_cons_self ..) u hd]
    ·rw [if_neg (fun hc => e hc.1)]
     rcases h with ⟨q', hq', h1⟩ | h
     ·rcases List.mem_cons.1 hq' with rfl | hq'
      ·rw [hd] at h1; cases h1; exact absurd rfl e
      ·exact absurd ⟨q', hq', h1⟩ hr
     ·exact h
   ·rename_i hd
    rcases h with ⟨q', hq', h1⟩ | h
    ·rcases List.mem_cons.1 hq' with rfl | hq'
     ·rw [hd] at h1; cases h1
     ·exact absurd ⟨q', hq', h1⟩ hr
    ·exact h

theorem filterMap_some {α β : Type} (g : α → Option β) : ∀ l : List α, (l.filter fun x => (g x).isSome).filterMap g = l.filterMap g
 | [] => rfl
 | x :: l => by
  cases h : g x with
  | none => rw [List.filter_cons_of_neg (by simp [h]), filterMap_some g l, List.filterMap_cons_none h]
  | some y => rw [List.filter_cons_of_pos (by simp [h]), List.filterMap_cons_some h, List.filterMap_cons_some h, filterMap_some g l]

theorem filterMap_range {α β : Type} (g : α → Option β) : ∀ l : List α, (List.range l.length).filterMap (fun j => (l[j]?).bind g) = l.filterMap g
 | [] => rfl
 | x :: l => by
  rw [List.length_cons, List.range_succ_eq_map, List.filterMap_cons, List.filterMap_cons, List.filterMap_map]
  have := filterMap_range g l
  have e : ((fun j => ((x :: l)[j]?).bind g) ∘ Nat.succ) = fun j => (l[j]?).bind g := by funext j; simp
  rw [e, this]
  simp

structure Lit (E : Env) (ops : List Oper) (f : Fr) (n : Nat) (ds : List Nat) (ks : List LD) (t0 kt vt : TypeId) (d0 : Nat) : Prop where
 len : ks.length = ops.length
 under : E.P.underlying t0 = some (.map kt vt)
 first : ∃ o, ops[0]? = some o ∧ o.op = .makeMap t0 none ∧ o.dst = some d0 ∧ o.guard = none
 first' : ks[0]? = some ⟨some (d0, .map n), none⟩
 d0in : ds.contains d0 = true
 step : ∀ i o, 0 < i → ops[i]? = some o → ∃ q, ks[i]? = some q ∧ litStep E n t0 kt ds f (ks.take i) o = some q

theorem litGo_spec {n : Nat} {t0 kt : TypeId} {ds : List Nat} {f : Fr} : ∀ (r : List Oper) (k0 ks : List LD), litGo E n t0 kt ds f r k0 = some ks →
 ks.length = k0.length + r.length ∧ ks.take k0.length = k0 ∧ ∀ i o, r[i]? = some o → ∃ q, ks[k0.length + i]? = some q ∧ litStep E n t0 kt ds f (ks.take (k0.length + i)) o = some q
 | [], k0, ks, h => by
  simp only [litGo, Option.some.injEq] at h
  subst h
  exact ⟨by simp, by simp, fun i o ho => by simp at ho⟩
 | o :: r, k0, ks, h => by
  simp only [litGo] at h
  split at h
  ·rename_i q hq
   obtain ⟨h1, h2, h3⟩ := litGo_spec r (k0 ++ [q]) ks h
   simp only [List.length_append, List.length_cons, List.length_nil, Nat.zero_add] at h1 h2 h3
   have h4 : ks.take k0.length = k0 := by
    have := congrArg (List.take k0.length) h2
    rw [List.take_take, Nat.min_eq_left (by omega)] at this
    simpa using this
   have h5 : ks[k0.length]? = some q := by
    have := congrArg (·[k0.length]?) h2
    simp only [List.getElem?_take] at this
    rw [if_pos (by omega)] at this
    simpa using this
   refine ⟨by simp; omega, h4, fun i o' ho => ?_⟩
   cases i with
   | zero =>
    simp only [List.getElem?_cons_zero, Option.some.injEq] at ho
    subst ho
    exact ⟨q, h5, by rw [Nat.add_zero, h4]; exact hq⟩
   | succ i =>
    obtain ⟨q', h6, h7⟩ := h3 i o' (by simpa using ho)
    rw [show k0.length + 1 + i = k0.length + (i + 1) by omega] at h6 h7
    exact ⟨q', h6, h7⟩
  ·cases h

namespace Lit
variable {ops : List Oper} {f : Fr} {n : Nat} {ds : List Nat} {ks : List LD} {t0 kt vt : TypeId} {d0 : Nat}

def kvOf (ks : List LD) (j : Nat) : Option (V × V) := (ks[j]?).bind (·.kv)

def mem (H : List AObj) : Option (List (V × V)) → List AObj
 | none => H
 | some s => H ++ [.map (stamp s 0) s.length]

structure Inv (E : Env) (N : Nat) (ρ0 : Nat → Loc) (w0 : World) (H : List AObj) (ks : List LD) (f : Fr) (L : Nat → Bool) (js : List Nat) (ρ : Nat → Loc) (fr : Fr) (a : Act) (w : World) : Prop where
 nodup : js.Nodup
 done : ∀ j, j ∈ js ↔ L j = true ∧ (kvOf ks j).isSome = true
 none0 : L 0 = false → js = []
 wr : WR E N ρ (mem H (if L 0 = true then some (js.filterMap (kvOf ks)) else none)) w
 goes : Goes H ρ0 w0 (mem H (if L 0 = true then some (js.filterMap (kvOf ks)) else none)) ρ w
 frr : FR (mem H (if L 0 = true then some (js.filterMap (kvOf ks)) else none)).length ρ fr a
 has : ∀ (j : Nat) (q : LD) (d : Nat) (v : V), L j = true → ks[j]? = some q → q.d = some (d, v) → get fr.m d = some v
 old : ∀ t, (∀ (j : Nat) (q : LD) (v : V), L j = true → ks[j]? = some q → q.d ≠ some (t, v)) → get fr.m t = get f.m t
 size : fr.m.length = f.m.length

theorem kv_mem {js : List Nat} {p : V × V} (h : p ∈ js.filterMap (kvOf ks)) : ∃ j q, j ∈ js ∧ ks[j]? = some q ∧ q.kv = some p := by
 obtain ⟨j, hj, h1⟩ := List.mem_filterMap.1 h
 unfold kvOf at h1
 obtain ⟨q, hq, h2⟩ := Option.bind_eq_some_iff.1 h1
 exact ⟨j, q, hj, hq, h2⟩

theorem stamp_mem {e : Ent} : ∀ {s : List (V × V)} {n : Nat}, e ∈ stamp s n → ∃ p ∈ s, ∃ b, e = ⟨p.1, p.2, b⟩
 | [], n, h => by simp [stamp] at h
 | (a, b) :: s, n, h => by
  simp only [stamp, List.mem_cons] at h
  rcases h with rfl | h
  ·exact ⟨_, List.mem_cons_self .., _, rfl⟩
  ·obtain ⟨p, hp, b, he⟩ := stamp_mem h
   exact ⟨p, List.mem_cons_of_mem _ hp, b, he⟩

theorem lays_of {q : LD} {d : Nat} {v : V} (h : q.d = some (d, v)) : LD.lays d q = true := by
 unfold LD.lays; rw [h]; simp

theorem fresh_of {i : Nat} {o : Oper} {q : LD} {d : Nat} {v : V} (h : litStep E n t0 kt ds f (ks.take i) o = some q) (hd : q.d = some (d, v)) :
 (ks.take i).any (LD.lays d) = false ∧ o.dst = some d ∧ ds.contains d = true ∧ litPure o.op = true ∧ q.kv = none ∧ o.guard = none ∧ ∃ H1, opV E (litFrame ds f (ks.take i) o) o ⟨[], 0, 0⟩ = some (.val v, H1) := by
 unfold litStep at h
 split at h
 ·cases h
 ·rename_i hg
  split at h
  ·split at h
   ·split at h
    ·split at h
     ·simp only [Option.some.injEq] at h
      subst h
      cases hd
     ·cases h
    ·cases h
   ·cases h
  ·rename_i d' hd'
   split at h
   ·rename_i hc
    split at h
    ·rename_i v' H1 hop
     simp only [Option.some.injEq] at h
     subst h
     simp only [Option.some.injEq, Prod.mk.injEq] at hd
     obtain ⟨rfl, rfl⟩ := hd
     exact ⟨hc.2.1, hd', hc.2.2, hc.1, rfl, by simpa using hg, H1, hop⟩
    ·cases h
   ·cases h

theorem distinct (T : Lit E ops f n ds ks t0 kt vt d0) {i j : Nat} {q q' : LD} {d : Nat} {v v' : V} (hi : ks[i]? = some q) (hj : ks[j]? = some q') (hd : q.d = some (d, v)) (hd' : q'.d = some (d, v')) : i = j := by
 have key : ∀ {i j : Nat} {q q' : LD} {v v' : V}, i < j → ks[i]? = some q → ks[j]? = some q' → q.d = some (d, v) → q'.d = some (d, v') → False := by
  intro i j q q' v v' hij hi hj hd hd'
  have hjl : j < ops.length := by rw [← T.len]; exact (List.getElem?_eq_some_iff.1 hj).1
  obtain ⟨q2, h1, h2⟩ := T.step j ops[j] (by omega) (List.getElem?_eq_getElem hjl)
  rw [hj] at h1
  cases h1
  have := (fresh_of h2 hd').1
  rw [List.any_eq_false] at this
  exact this q (List.mem_of_getElem? (by rw [List.getElem?_take, if_pos hij]; exact hi)) (lays_of hd)
 rcases Nat.lt_trichotomy i j with h | h | h
 ·exact (key h hi hj hd hd').elim
 ·exact h
 ·exact (key h hj hi hd' hd).elim

theorem ins_of {i : Nat} {o : Oper} {q : LD} {p : V × V} (h : litStep E n t0 kt ds f (ks.take i) o = some q) (hq : q.kv = some p) :
 ∃ m k v, o.op = .insert t0 m k v ∧ o.dst = none ∧ o.guard = none ∧ (litFrame ds f (ks.take i) o).ev m = some (.map n) ∧ (litFrame ds f (ks.take i) o).ev k = some p.1 ∧ (litFrame ds f (ks.take i) o).ev v = some p.2 ∧ p.1.lt n = true ∧ p.2.lt n = true ∧ findK E.P kt p.1 [] = some none ∧
  (∀ (j : Nat) (q' : LD) (p' : V × V), j < i → ks[j]? = some q' → q'.kv = some p' → findK E.P kt p.1 [⟨p'.1, p'.2, 0⟩] = some none ∧ findK E.P kt p'.1 [⟨p.1, p.2, 0⟩] = some none) ∧ q = ⟨none, some p⟩ := by
 unfold litStep at h
 split at h
 ·cases h
 ·rename_i hg
  split at h
  ·rename_i hdst
   split at h
   ·rename_i t m k v hop
    split at h
    ·rename_i n' k' v' h1 h2 h3
     split at h
     ·rename_i hc
      obtain ⟨rfl, rfl, hkf, hvf, hnn, hall⟩ := hc
      simp only [Option.some.injEq] at h
      subst h
      simp only [Option.some.injEq] at hq
      subst hq
      refine ⟨m, k, v, hop, hdst, by simpa using hg, h1, h2, h3, hkf, hvf, isNN_eq hnn, fun j q' p' hj hq' hp' => ?_, rfl⟩
      have := List.all_eq_true.1 hall q' (List.mem_of_getElem? (by rw [List.getElem?_take, if_pos hj]; exact hq'))
      obtain ⟨a, b⟩ := p'
      rw [hp'] at this
      simp only [Bool.and_eq_true] at this
      exact ⟨isNN_eq this.1, isNN_eq this.2⟩
     ·cases h
    ·cases h
   ·cases h
  ·split at h
   ·split at h
    ·simp only [Option.some.injEq] at h
     subst h
     cases hq
    ·cases h
   ·cases h

theorem kind_of {i : Nat} {o : Oper} {q : LD} (h : litStep E n t0 kt ds f (ks.take i) o = some q) : (∃ p, q.kv = some p) ∨ ∃ d v, q.d = some (d, v) := by
 unfold litStep at h
 split at h
 ·cases h
 ·split at h
  ·split at h
   ·split at h
    ·split at h
     ·simp only [Option.some.injEq] at h
      subst h
      exact .inl ⟨_, rfl⟩
     ·cases h
    ·cases h
   ·cases h
  ·split at h
   ·split at h
    ·simp only [Option.some.injEq] at h
     subst h
     exact .inr ⟨_, _, rfl⟩
    ·cases h
   ·cases h

theorem dsin (T : Lit E ops f n ds ks t0 kt vt d0) {j : Nat} {q : LD} {d : Nat} {v : V} (hq : ks[j]? = some q) (hd : q.d = some (d, v)) : ds.contains d = true := by
 rcases Nat.eq_zero_or_pos j with rfl | hj
 ·rw [T.first'] at hq
  cases hq
  cases hd
  exact T.d0in
 ·have hjl : j < ops.length := by rw [← T.len]; exact (List.getElem?_eq_some_iff.1 hq).1
  obtain ⟨q2, h1, h2⟩ := T.step j ops[j] hj (List.getElem?_eq_getElem hjl)
  rw [hq] at h1
  cases h1
  exact (fresh_of h2 hd).2.2.1

theorem apart (T : Lit E ops f n ds ks t0 kt vt d0) {i j : Nat} {q q' : LD} {p p' : V × V} (hij : i ≠ j) (hi : ks[i]? = some q) (hj : ks[j]? = some q') (hp : q.kv = some p) (hp' : q'.kv = some p') : findK E.P kt p.1 [⟨p'.1, p'.2, 0⟩] = some none := by
 have at0 : ∀ {i : Nat} {q : LD} {p : V × V}, ks[i]? = some q → q.kv = some p → 0 < i := by
  intro i q p hi hp
  rcases Nat.eq_zero_or_pos i with rfl | h
  ·rw [T.first'] at hi
   simp only [Option.some.injEq] at hi
   subst hi
   cases hp
  ·exact h
 rcases Nat.lt_or_gt_of_ne hij with h | h
 ·have hjl : j < ops.length := by rw [← T.len]; exact (List.getElem?_eq_some_iff.1 hj).1
  obtain ⟨q2, h1, h2⟩ := T.step j ops[j] (at0 hj hp') (List.getElem?_eq_getElem hjl)
  rw [hj] at h1
  cases h1
  obtain ⟨_, _, _, _, _, _, _, _, _, _, _, _, hall, _⟩ := ins_of h2 hp'
  exact (hall i q p h hi hp).2
 ·have hil : i < ops.length := by rw [← T.len]; exact (List.getElem?_eq_some_iff.1 hi).1
  obtain ⟨q2, h1, h2⟩ := T.step i ops[i] (at0 hi hp) (List.getElem?_eq_getElem hil)
  rw [hi] at h1
  cases h1
  obtain ⟨_, _, _, _, _, _, _, _, _, _, _, _, hall, _⟩ := ins_of h2 hp
  exact (hall j q' p' h hj hp').1

theorem put0 {L : Nat → Bool} {i : Nat} (h : 0 < i) : DT.put L i 0 = L 0 := by simp [DT.put, show (0 : Nat) ≠ i by omega]

theorem Inv.lay {ρ0 : Nat → Loc} {w0 : World} {L : Nat → Bool} {js js' : List Nat} {fr : Fr} {a : Act} (T : Lit E ops f n ds ks t0 kt vt d0) (hr : ∀ (q : LD) (d : Nat) (v : V), q ∈ ks → q.d = some (d, v) → d < f.m.length)
 (h : Inv E N ρ0 w0 H ks f L js ρ fr a w) {i : Nat} {q : LD} (hq : ks[i]? = some q) {d : Nat} {v : V} (hd : q.d = some (d, v))
 (hn : js'.Nodup) (hdone : ∀ j, j ∈ js' ↔ DT.put L i j = true ∧ (kvOf ks j).isSome = true) (h0 : DT.put L i 0 = false → js' = [])
 (hw : WR E N ρ' (mem H (if DT.put L i 0 = true then some (js'.filterMap (kvOf ks)) else none)) w')
 (hg : Goes (mem H (if L 0 = true then some (js.filterMap (kvOf ks)) else none)) ρ w (mem H (if DT.put L i 0 = true then some (js'.filterMap (kvOf ks)) else none)) ρ' w')
 (hlt : v.lt (mem H (if DT.put L i 0 = true then some (js'.filterMap (kvOf ks)) else none)).length = true) :
 Inv E N ρ0 w0 H ks f (DT.put L i) js' ρ' ⟨put fr.m d v⟩ (a.put (some d) (v.emb ρ')) w' := by
 have hdl := hr q d v (List.mem_of_getElem? hq) hd
 have hset : fr.set (some d) v = some ⟨put fr.m d v⟩ := rfl
 refine ⟨hn, hdone, h0, hw, h.goes.trans hg, (h.frr.mono hg.len hg.ext).set hlt hset, ?_, ?_, ?_⟩
 ·intro j q' d' v' hLj hq' hd'
  simp only [get_put]
  by_cases e : j = i
  ·subst e
   rw [hq] at hq'
   cases hq'
   rw [hd] at hd'
   cases hd'
   rw [if_pos ⟨rfl, by rw [h.size]; exact hdl⟩]
  ·have hne : ¬ (d' = d ∧ d < fr.m.length) := fun hc => e (distinct T hq' hq hd' (by rw [hc.1]; exact hd))
   rw [if_neg hne]
   exact h.has j q' d' v' (by simpa [DT.put, e] using hLj) hq' hd'
 ·intro t ht
  simp only [get_put]
  have hne : ¬ (t = d ∧ d < fr.m.length) := fun hc => ht i q v (by simp [DT.put]) hq (by rw [hc.1]; exact hd)
  rw [if_neg hne]
  exact h.old t fun j q' v' hLj hq' => ht j q' v' (by simp only [DT.put]; split <;> first | rfl | exact hLj) hq'
 ·rw [length_put]; exact h.size

theorem Inv.step (ok : E.Ok) {ρ0 : Nat → Loc} {w0 : World} {L : Nat → Bool} {js : List Nat} {fr : Fr} {a : Act} (T : Lit E ops f H.length ds ks t0 kt vt d0) (hr : ∀ (q : LD) (d : Nat) (v : V), q ∈ ks → q.d = some (d, v) → d < f.m.length)
 (h : Inv E N ρ0 w0 H ks f L js ρ fr a w) {i : Nat} {o : Oper} (ho : ops[i]? = some o) (hL : L i = false) (hpre : ∀ e ∈ o.after, Region.binds .any e = true → L e.on = true) :
 o.guard = none ∧ Outs1 (fun u w' => ∃ js' ρ' fr', Inv E N ρ0 w0 H ks f (DT.put L i) js' ρ' fr' (a.put o.dst u) w') ((execOp a.eval o).run E.P w) := by
 have look : ∀ x v, (litFrame ds f (ks.take i) o).ev x = some v → fr.ev x = some v := by
  intro x v hx
  cases x with
  | tmp t =>
   simp only [Fr.ev, litFrame, get_range] at hx ⊢
   split at hx
   ·split at hx
    ·obtain ⟨t', j, q, ht, hj, hd, e, he, hb, rfl⟩ := litSee_spec hx
     cases ht
     rw [List.getElem?_take] at hj
     split at hj
     ·exact h.has _ q t v (hpre e he hb) hj hd
     ·cases hj
    ·rename_i hds
     rw [h.old t fun j q v' _ hq hd => hds (dsin T hq hd)]
     exact hx
   ·cases hx
  | const c => exact hx
  | global g => exact hx
  | func g => exact hx
 rcases Nat.eq_zero_or_pos i with rfl | hi
 ·obtain ⟨o', ho', hop, hdst, hg⟩ := T.first
  rw [ho] at ho'
  cases ho'
  refine ⟨hg, ?_⟩
  have hM : mem H (if L 0 = true then some (js.filterMap (kvOf ks)) else none) = H := by rw [if_neg (by simp [hL])]; rfl
  have hwr := h.wr
  have hfr := h.frr
  rw [hM] at hwr hfr
  have hop' : opV E fr o ⟨H, 0, 0⟩ = some (.val (.map H.length), ⟨H ++ [.map [] 0], 0, 0⟩) := by
   unfold opV
   rw [hop]
   rfl
  have hres := opV_run ok hwr hfr hop'
  generalize (execOp a.eval o) = s at hres
  have hjs := h.none0 hL
  cases hres with
  | val ρ' w1 h1 h2 h3 h4 =>
   rw [h1]
   simp only [Outs1, hdst]
   have hM' : mem H (if DT.put L 0 0 = true then some (([] : List Nat).filterMap (kvOf ks)) else none) = H ++ [.map [] 0] := by simp [DT.put, mem, stamp]
   refine ⟨[], ρ', _, h.lay T hr T.first' rfl List.nodup_nil (fun j => ?_) (fun h0 => by simp [DT.put] at h0) (by rw [hM']; exact h2) (by rw [hM, hM']; exact h3) (by rw [hM']; exact h4)⟩
   by_cases e : j = 0
   ·subst e
    simp [kvOf, T.first']
   ·have := h.done j
    rw [hjs] at this
    simp only [DT.put, e, if_false]
    exact this
 ·obtain ⟨q, hq, hst⟩ := T.step i o hi ho
  have same : DT.put L i 0 = L 0 := put0 hi
  have keep : ∀ {d : Nat} {v : V}, q.kv = none → q.d = some (d, v) → (∃ wr esc, opV E fr o ⟨mem H (if L 0 = true then some (js.filterMap (kvOf ks)) else none), 0, 0⟩ = some (.val v, ⟨mem H (if L 0 = true then some (js.filterMap (kvOf ks)) else none), wr, esc⟩)) →
   Outs1 (fun u w' => ∃ js' ρ' fr', Inv E N ρ0 w0 H ks f (DT.put L i) js' ρ' fr' (a.put o.dst u) w') ((execOp a.eval o).run E.P w) := by
   intro d v hkv hd ⟨wr, esc, hop⟩
   have hres := opV_run ok h.wr h.frr hop
   generalize (execOp a.eval o) = s at hres
   cases hres with
   | val ρ' w1 h1 h2 h3 h4 =>
    rw [h1, (fresh_of hst hd).2.1]
    simp only [Outs1]
    refine ⟨js, ρ', _, h.lay T hr hq hd h.nodup (fun j => ?_) (fun h0 => h.none0 (by rwa [same] at h0)) (by rw [same]; exact h2) (by rw [same]; exact h3) (by rw [same]; exact h4)⟩
    rw [h.done j]
    by_cases e : j = i
    ·subst e
     simp [hL, kvOf, hq, hkv]
    ·simp [DT.put, e]
  cases hkv : q.kv with
  | some p =>
   obtain ⟨m, k, v, hop, hdst, hg, hm, hk, hv, hkf, hvf, hnn, hall, hqe⟩ := ins_of hst hkv
   refine ⟨hg, ?_⟩
   have hm' := look m _ hm
   have hk' := look k _ hk
   have hv' := look v _ hv
   have hL0 : L 0 = true := by
    cases hL0 : L 0 with
    | true => rfl
    | false =>
     exfalso
     have h1 := (h.frr.ev hm').1
     rw [if_neg (by simp [hL0])] at h1
     simp [mem] at h1
   let s := js.filterMap (kvOf ks)
   have hM : mem H (if L 0 = true then some (js.filterMap (kvOf ks)) else none) = H ++ [.map (stamp s 0) s.length] := by rw [if_pos hL0]; rfl
   have hfk : findK E.P kt p.1 (stamp s 0) = some none := by
    refine findK_none hnn fun e he => ?_
    obtain ⟨p', hp', b, rfl⟩ := stamp_mem he
    obtain ⟨j, q', hj, hq', hp2⟩ := kv_mem hp'
    have hne : i ≠ j := fun e => by subst e; have := ((h.done i).1 hj).1; rw [hL] at this; cases this
    exact findK_born (apart T hne hq hq' hkv hp2)
   have hop' : opV E fr o ⟨mem H (if L 0 = true then some (js.filterMap (kvOf ks)) else none), 0, 0⟩ = some (.skip, ⟨H ++ [.map (stamp (s ++ [p]) 0) (s.length + 1)], 0, 0⟩) := by
    unfold opV
    rw [hop]
    simp only [hm', hk', hv']
    unfold mapSetV
    rw [T.under]
    simp only [hM, List.getElem?_concat_length, hfk, Hp.write, Option.map_some]
    rw [List.set_append_right _ _ (Nat.le_refl _)]
    obtain ⟨p1, p2⟩ := p
    rw [stamp_append]
    simp
   have hres := opV_run ok h.wr h.frr hop'
   generalize (execOp a.eval o) = sm at hres
   cases hres with
   | skip w1 h1 h2 h3 =>
    rw [h1, hdst]
    simp only [Outs1]
    have hi' : i ∉ js := fun hm => by have := ((h.done i).1 hm).1; rw [hL] at this; cases this
    have hM' : mem H (if DT.put L i 0 = true then some ((js ++ [i]).filterMap (kvOf ks)) else none) = H ++ [.map (stamp (s ++ [p]) 0) (s.length + 1)] := by
     rw [same, if_pos hL0, List.filterMap_append]
     have : [i].filterMap (kvOf ks) = [p] := by simp [kvOf, hq, hkv]
     rw [this]
     simp [mem, s]
    have hqd : q.d = none := by rw [hqe]
    refine ⟨js ++ [i], ρ, fr, ?_, fun j => ?_, fun h0 => ?_, by rw [hM']; exact h2, by rw [hM']; exact h.goes.trans h3, ?_, ?_, ?_, h.size⟩
    ·rw [List.nodup_append]
     exact ⟨h.nodup, by simp, fun a ha b hb e => by simp at hb; subst hb; subst e; exact hi' ha⟩
    ·rw [List.mem_append, h.done j]
     by_cases e : j = i
     ·subst e
      simp [DT.put, kvOf, hq, hkv]
     ·simp [DT.put, e]
    ·rw [same, hL0] at h0; cases h0
    ·rw [hM']
     have := h.frr
     rw [hM] at this
     have e : (H ++ [AObj.map (stamp (s ++ [p]) 0) (s.length + 1)]).length = (H ++ [AObj.map (stamp s 0) s.length]).length := by simp
     rw [e]
     exact this
    ·intro j q' d v hLj hq' hd
     have hne : j ≠ i := fun e => by subst e; rw [hq] at hq'; cases hq'; rw [hqd] at hd; cases hd
     exact h.has j q' d v (by simpa [DT.put, hne] using hLj) hq' hd
    ·intro t ht
     exact h.old t fun j q' v' hLj hq' => ht j q' v' (by simp only [DT.put]; split <;> first | rfl | exact hLj) hq'
  | none =>
   rcases kind_of hst with ⟨p, hp⟩ | ⟨d, v, hd⟩
   ·rw [hkv] at hp; cases hp
   ·obtain ⟨_, _, _, hpure, _, hg, H1, hop⟩ := fresh_of hst hd
    exact ⟨hg, keep hkv hd ⟨0, 0, litPure_run hpure look hop _⟩⟩

theorem Inv.init (hw : WR E N ρ H w) {a : Act} (hf : FR H.length ρ f a) : Inv E N ρ w H ks f (fun _ => false) [] ρ f a w :=
 ⟨List.nodup_nil, fun j => by simp, fun _ => rfl, hw, Goes.refl _ _ _, hf, fun _ _ _ _ h => (by cases h), fun _ _ => rfl, rfl⟩

theorem Inv.all {ρ0 : Nat → Loc} {w0 : World} {L : Nat → Bool} {js : List Nat} {fr : Fr} {a : Act} (T : Lit E ops f H.length ds ks t0 kt vt d0) (hr : ∀ (q : LD) (d : Nat) (v : V), q ∈ ks → q.d = some (d, v) → d < f.m.length)
 (h : Inv E N ρ0 w0 H ks f L js ρ fr a w) (hL : ∀ i, i < ops.length → L i = true) {as : List (List Ent × Nat)} (has : as = (perms (ks.filterMap (·.kv))).map fun s => (stamp s 0, s.length)) :
 FR (H ++ [AObj.alts as]).length ρ (sets ks f) a ∧ WR E N ρ (H ++ [.alts as]) w ∧ Goes H ρ0 w0 (H ++ [.alts as]) ρ w := by
 have hpos : 0 < ops.length := by
  obtain ⟨o, ho, _⟩ := T.first
  exact (List.getElem?_eq_some_iff.1 ho).1
 have h0 := hL 0 hpos
 have hM : mem H (if L 0 = true then some (js.filterMap (kvOf ks)) else none) = H ++ [.map (stamp (js.filterMap (kvOf ks)) 0) (js.filterMap (kvOf ks)).length] := by rw [if_pos h0]; rfl
 have hwr := h.wr
 have hgo := h.goes
 have hfr := h.frr
 rw [hM] at hwr hgo hfr
 have hperm : (js.filterMap (kvOf ks)).Perm (ks.filterMap (·.kv)) := by
  rw [← filterMap_range (fun q : LD => q.kv) ks, ← filterMap_some _ (List.range ks.length)]
  refine List.Perm.filterMap _ ((List.perm_ext_iff_of_nodup h.nodup (List.Pairwise.filter _ List.nodup_range)).2 fun j => ?_)
  rw [h.done j, List.mem_filter, List.mem_range]
  constructor
  ·rintro ⟨_, h2⟩
   refine ⟨?_, h2⟩
   unfold kvOf at h2
   by_cases hlt : j < ks.length
   ·exact hlt
   ·rw [List.getElem?_eq_none (by omega)] at h2; cases h2
  ·rintro ⟨h1, h2⟩
   exact ⟨hL j (by rw [← T.len]; exact h1), h2⟩
 have hin : (stamp (js.filterMap (kvOf ks)) 0, (js.filterMap (kvOf ks)).length) ∈ as := by
  rw [has]
  exact List.mem_map.2 ⟨_, mem_perms _ _ hperm, rfl⟩
 have hflat : ∀ v ∈ (AObj.alts as).vals, v.lt H.length = true := by
  intro v hv
  simp only [AObj.vals, List.mem_flatMap] at hv
  obtain ⟨p, hp, hv⟩ := hv
  rw [has] at hp
  obtain ⟨s, hs, rfl⟩ := List.mem_map.1 hp
  obtain ⟨x, hx, hvx⟩ := stamp_vals hv
  have hsp : s.Perm (ks.filterMap (·.kv)) := perms_perm _ _ hs
  obtain ⟨q, hq, hqk⟩ := List.mem_filterMap.1 (hsp.mem_iff.1 hx)
  obtain ⟨j, hj⟩ := List.mem_iff_getElem?.1 hq
  have hj0 : 0 < j := by
   rcases Nat.eq_zero_or_pos j with rfl | h
   ·rw [T.first'] at hj; cases hj; cases hqk
   ·exact h
  have hjl : j < ops.length := by rw [← T.len]; exact (List.getElem?_eq_some_iff.1 hj).1
  obtain ⟨q2, h1, h2⟩ := T.step j ops[j] hj0 (List.getElem?_eq_getElem hjl)
  rw [hj] at h1
  cases h1
  obtain ⟨_, _, _, _, _, _, _, _, _, hkf, hvf, _⟩ := ins_of h2 hqk
  rcases hvx with rfl | rfl
  ·exact hkf
  ·exact hvf
 have get2 : ∀ (k : Nat) (o : AObj), (H ++ [.alts as])[k]? = some o → (k < H.length ∧ H[k]? = some o) ∨ (k = H.length ∧ o = .alts as) := by
  intro k o hk
  by_cases hlt : k < H.length
  ·rw [List.getElem?_append_left hlt] at hk; exact .inl ⟨hlt, hk⟩
  ·rw [List.getElem?_append_right (by omega)] at hk
   have : k - H.length = 0 := by
    have := (List.getElem?_eq_some_iff.1 hk).1
    simp at this
    omega
   rw [this] at hk
   simp only [List.getElem?_cons_zero, Option.some.injEq] at hk
   exact .inr ⟨by omega, hk.symm⟩
 have back : ∀ (k : Nat) (o : AObj), (H ++ [.alts as])[k]? = some o → o.own = true → ∃ o', (H ++ [.map (stamp (js.filterMap (kvOf ks)) 0) (js.filterMap (kvOf ks)).length])[k]? = some o' ∧ o'.own = true := by
  intro k o hk ho
  rcases get2 k o hk with ⟨hlt, hk'⟩ | ⟨rfl, rfl⟩
  ·exact ⟨o, by rw [List.getElem?_append_left hlt]; exact hk', ho⟩
  ·exact ⟨_, List.getElem?_concat_length, rfl⟩
 refine ⟨⟨hfr.defers, by rw [hfr.size, sets_len, h.size], fun t v hv => ?_⟩, ⟨hwr.low, fun k o hk => ?_, fun k o hk => ?_, fun k k' o o' hk hk' ho ho' hne => ?_, hwr.globs⟩, ⟨hgo.os, hgo.tape, hgo.output, hgo.size, hgo.same, fun b hb ⟨k, o, hk, ho, he⟩ => ?_, hgo.ext, by simp⟩⟩
 ·have : get fr.m t = some v := by
   by_cases hex : ∃ q ∈ ks, ∃ v', q.d = some (t, v')
   ·obtain ⟨q, hq, v', hd⟩ := hex
    obtain ⟨j, hj⟩ := List.mem_iff_getElem?.1 hq
    have hjl : j < ops.length := by rw [← T.len]; exact (List.getElem?_eq_some_iff.1 hj).1
    have h1 := h.has j q t v' (hL j hjl) hj hd
    have h2 := sets_get (t := t) (v := v') ks f (fun q' hq' v2 hd' => by
     obtain ⟨j', hj'⟩ := List.mem_iff_getElem?.1 hq'
     have := distinct T hj hj' hd hd'
     subst this
     rw [hj] at hj'
     cases hj'
     rw [hd] at hd'
     cases hd'
     rfl) (hr q t v' hq hd) (.inl ⟨q, hq, hd⟩)
    rw [h2] at hv
    rw [h1]
    exact hv
   ·rw [sets_old ks f (fun q hq v' hd => hex ⟨q, hq, v', hd⟩)] at hv
    rw [h.old t fun j q v' _ hj hd => hex ⟨q, List.mem_of_getElem? hj, v', hd⟩]
    exact hv
  have := hfr.val t v this
  simpa using this
 ·rcases get2 k o hk with ⟨hlt, hk'⟩ | ⟨rfl, rfl⟩
  ·have := hwr.vals k o (by rw [List.getElem?_append_left hlt]; exact hk')
   simpa using this
  ·exact fun v hv => lt_mono (by simp) (hflat v hv)
 ·rcases get2 k o hk with ⟨hlt, hk'⟩ | ⟨rfl, rfl⟩
  ·exact hwr.objs k o (by rw [List.getElem?_append_left hlt]; exact hk')
  ·have := hwr.objs H.length _ List.getElem?_concat_length
   exact ⟨⟨_, hin, this.1⟩, this.2⟩
 ·obtain ⟨o1, h1, h2⟩ := back k o hk ho
  obtain ⟨o2, h3, h4⟩ := back k' o' hk' ho'
  exact hwr.inj k k' o1 o2 h1 h3 h2 h4 hne
 ·obtain ⟨o1, h1, h2⟩ := back k o hk ho
  exact hgo.owned b hb ⟨k, o1, h1, h2, he⟩

theorem inText (ok : E.Ok) (T : Lit E ops f H.length ds ks t0 kt vt d0) (hr : ∀ (q : LD) (d : Nat) (v : V), q ∈ ks → q.d = some (d, v) → d < f.m.length)
 (hedge : ∀ j o, ops[j]? = some o → ∀ e ∈ o.after, Region.binds .any e = true → e.on < j) (hw : WR E N ρ H w) {a : Act} (hf : FR H.length ρ f a) :
 ∀ i, i ≤ ops.length → ∃ js ρ' fr a' w', Inv E N ρ w H ks f (fun j => decide (j < i)) js ρ' fr a' w' := by
 intro i
 induction i with
 | zero =>
  intro _
  refine ⟨[], ρ, f, a, w, ?_⟩
  have e : (fun j => decide (j < 0)) = fun _ => false := by funext j; simp
  rw [e]
  exact Inv.init hw hf
 | succ i ih =>
  intro hi
  obtain ⟨js, ρ1, fr, a1, w1, h⟩ := ih (by omega)
  have ho : ops[i]? = some ops[i] := List.getElem?_eq_getElem (by omega)
  obtain ⟨_, hs⟩ := h.step ok T hr ho (by simp) (fun e he hb => by simpa using hedge i _ ho e he hb)
  have e : DT.put (fun j => decide (j < i)) i = fun j => decide (j < i + 1) := by
   funext j
   simp only [DT.put]
   by_cases h1 : j = i
   ·simp [h1]
   ·simp only [h1, if_false]
    congr 1
    exact propext (by omega)
  rw [e] at hs
  unfold Outs1 at hs
  split at hs
  ·obtain ⟨js', ρ', fr', h'⟩ := hs
   exact ⟨js', ρ', fr', _, _, h'⟩
  ·obtain ⟨js', ρ', fr', h'⟩ := hs
   exact ⟨js', ρ', fr', _, _, h'⟩
  ·exact hs.elim

theorem any (ok : E.Ok) {ρ0 : Nat → Loc} {w0 : World} (T : Lit E ops f H.length ds ks t0 kt vt d0) (hr : ∀ (q : LD) (d : Nat) (v : V), q ∈ ks → q.d = some (d, v) → d < f.m.length)
 (hedge : ∀ j o, ops[j]? = some o → ∀ e ∈ o.after, Region.binds .any e = true → e.on < j) {Q : Exit → Act → World → Prop}
 (hQ : ∀ js ρ fr a w (L : Nat → Bool), Inv E N ρ0 w0 H ks f L js ρ fr a w → (∀ i, i < ops.length → L i = true) → Q .normal a w) :
 ∀ (fuel : Nat) (listed : Array Bool) (js : List Nat) (ρ : Nat → Loc) (fr : Fr) (a : Act) (w : World), listed.size = ops.length → ops.length ≤ listed.toList.count true + fuel → Inv E N ρ0 w0 H ks f (fun j => listed.getD j false) js ρ fr a w →
  wpAny E.P .any ops.toArray Q fuel listed a w := by
 have nothing : ∀ (listed : Array Bool), listed.size = ops.length → Region.ready .any ops.toArray listed = [] → ∀ i, i < ops.length → listed.getD i false = true := by
  intro listed hs hr i
  induction i using Nat.strongRecOn with
  | _ i ih =>
   intro hi
   cases hli : listed.getD i false with
   | true => rfl
   | false =>
    exfalso
    have : i ∈ Region.ready .any ops.toArray listed := by
     rw [mem_ready]
     refine ⟨?_, ops[i], by simp [hi], fun e he hb => ?_⟩
     ·have : i < listed.size := by omega
      simp only [Array.getD_eq_getD_getElem?, Array.getElem?_eq_getElem this, Option.getD_some] at hli ⊢
      exact hli
     ·have := hedge i ops[i] (List.getElem?_eq_getElem hi) e he hb
      exact ih e.on this (by omega)
    rw [hr] at this
    cases this
 intro fuel
 induction fuel with
 | zero =>
  intro listed js ρ fr a w hs hc h
  have hall : ∀ b ∈ listed.toList, true = b := List.count_eq_length.1 (by
   have := List.count_le_length (a := true) (l := listed.toList)
   simp only [Array.length_toList] at this ⊢
   omega)
  have hall' : ∀ i, i < ops.length → listed.getD i false = true := by
   intro i hi
   have hlt : i < listed.size := by omega
   have := hall listed[i] (by simp)
   simp [Array.getD_eq_getD_getElem?, hlt, ← this]
  refine ⟨?_, hQ _ _ _ _ _ _ h hall'⟩
  cases hr : Region.ready .any ops.toArray listed with
  | nil => rfl
  | cons x xs =>
   have hx : x ∈ Region.ready .any ops.toArray listed := by rw [hr]; simp
   obtain ⟨h1, o, ho, _⟩ := mem_ready.1 hx
   have hxl : x < ops.length := by have := (Array.getElem?_eq_some_iff.1 ho).1; simpa using this
   have h2 := hall' x hxl
   have : x < listed.size := by omega
   simp only [Array.getD_eq_getD_getElem?, Array.getElem?_eq_getElem this, Option.getD_some] at h1 h2
   rw [h1] at h2; cases h2
 | succ fuel ih =>
  intro listed js ρ fr a w hs hc h
  refine ⟨fun hr => hQ _ _ _ _ _ _ h (nothing listed hs hr), fun i hi => ?_⟩
  obtain ⟨h1, o, ho, hall⟩ := mem_ready.1 hi
  have ho' : ops[i]? = some o := by simpa using ho
  have hil : i < ops.length := (List.getElem?_eq_some_iff.1 ho').1
  have hsl : i < listed.size := by omega
  have hun : listed.getD i false = false := by
   simp only [Array.getD_eq_getD_getElem?, Array.getElem?_eq_getElem hsl, Option.getD_some] at h1 ⊢
   exact h1
  obtain ⟨hg, hstep⟩ := h.step ok T hr ho' hun hall
  unfold wpOp
  rw [ho]
  simp only
  rw [if_pos (by simp [Region.wanted, hg])]
  left
  refine hstep.outs.upon fun u w' ⟨js', ρ', fr', h'⟩ => ?_
  refine ih _ js' ρ' fr' _ w' (by simpa using hs) ?_ ?_
  ·rw [Array.toList_setIfInBounds, List.count_set (by simpa using hsl)]
   have hb : listed.toList[i]'(by simpa using hsl) = false := by
    simp only [Array.getD_eq_getD_getElem?, Array.getElem?_eq_getElem hsl, Option.getD_some] at hun
    simpa using hun
   simp only [hb]
   have e0 : ((false == true) = true) = False := by simp
   have e1 : ((true == true) = true) = True := by simp
   simp only [e0, e1, if_false, if_true]
   omega
  ·have : (fun j => (listed.setIfInBounds i true).getD j false) = DT.put (fun j => listed.getD j false) i := by
    funext j
    by_cases e : j = i
    ·subst e; simp [DT.put, hsl]
    ·simp only [DT.put, e, if_false]
     exact getD_set_ne false (Ne.symm e)
   rw [this]
   exact h'

end Lit

theorem evLit_run (ok : E.Ok) {id : Nat} {ops : Array Oper} (hB : drawnOk ops.toList = true) {f f' : Fr} {H H' : Hp} {a : Act} (hw : WR E N ρ H.objs w) (hf : FR H.objs.length ρ f a)
 (h : evLit E ops.toList f H = some (f', H')) :
 (Mono H H' ∧ Reach E N ρ H.objs w f' H') ∧ ∀ {Q : Exit → Act → World → Prop}, Ends E N ρ H.objs w (Q .normal) f' H' → (Code.region id ops true).wp E.P Q a w := by
 have hedge : ∀ j o, ops.toList[j]? = some o → ∀ e ∈ o.after, Region.binds .any e = true → e.on < j := fun j o ho => by
  have := (drawnOk_facts ops.toList 0 hB j o ho).2.1
  simpa using this
 unfold evLit at h
 split at h
 ·rename_i o r hops
  split at h
  ·rename_i t0 d0 hop hdst hg
   split at h
   ·rename_i kt vt hu
    split at h
    ·rename_i ks hgo
     split at h
     ·rename_i hrange
      simp only [Option.some.injEq, Prod.mk.injEq] at h
      obtain ⟨rfl, rfl⟩ := h
      obtain ⟨h1, h2, h3⟩ := litGo_spec r _ ks hgo
      simp only [List.length_cons, List.length_nil, Nat.zero_add] at h1 h2 h3
      have T : Lit E ops.toList f H.objs.length (ops.toList.filterMap (·.dst)) ks t0 kt vt d0 := by
       refine ⟨by rw [h1, hops, List.length_cons]; omega, hu, ⟨o, by rw [hops]; rfl, hop, hdst, hg⟩, ?_, by rw [hops, List.filterMap_cons_some hdst]; simp, fun i o' hi ho' => ?_⟩
       ·have := congrArg (·[0]?) h2
        simp only [List.getElem?_take] at this
        simpa using this
       ·rw [hops] at ho'
        obtain ⟨j, rfl⟩ : ∃ j, i = j + 1 := ⟨i - 1, by omega⟩
        obtain ⟨q, h4, h5⟩ := h3 j o' (by simpa using ho')
        rw [Nat.add_comm] at h4 h5
        exact ⟨q, h4, h5⟩
      have hr : ∀ (q : LD) (d : Nat) (v : V), q ∈ ks → q.d = some (d, v) → d < f.m.length := by
       intro q d v hq hd
       have := List.all_eq_true.1 hrange q hq
       rw [hd] at this
       simpa using this
      refine ⟨⟨Mono.new H _, ?_⟩, fun {Q} hQ => ?_⟩
      ·obtain ⟨js, ρ', fr, a', w', hI⟩ := Lit.inText ok T hr hedge hw hf ops.toList.length (Nat.le_refl _)
       obtain ⟨e1, e2, e3⟩ := hI.all T hr (fun i hi => by simpa using hi) rfl
       exact ⟨ρ', a', w', e1, e2, e3⟩
      ·refine wp_region_any ok.mixed ?_
       have hw1 : WR E N ρ H.objs { w with drawn := w.drawn + 1 } := hw.drawn rfl
       refine Lit.any (N := N) (ρ0 := ρ) (w0 := { w with drawn := w.drawn + 1 }) ok T hr hedge (fun js ρ' fr a' w' L hI hL => ?_) _ _ [] ρ f a _ (by simp) (by simp) ?_
       ·obtain ⟨e1, e2, e3⟩ := hI.all T hr hL rfl
        exact hQ ρ' a' w' e1 e2 ⟨e3.os, e3.tape, e3.output, e3.size, e3.same, e3.owned, e3.ext, e3.len⟩
       ·have : (fun j => (Array.replicate ops.toList.toArray.size false).getD j false) = fun _ => false := by
         funext j
         simp [Array.getD_eq_getD_getElem?]
         by_cases h : j < ops.size <;> simp [h]
        rw [this]
        exact Lit.Inv.init hw1 hf
     ·cases h
    ·cases h
   ·cases h
  ·cases h
 ·cases h
end Go.Am
