/-
  Symbolic walks: the evaluator over a list of known temporaries, one lemma a step.
-/
import Derived.Test.YtigfncnlhccaeaaAmWP
namespace Go.Am
open Go

/-! ### What is known of temporaries -/

def look : List (Nat × V) → Nat → Option V
  | [], _ => none
  | (s, v) :: r, t => match Nat.beq s t with
    | true => some v
    | false => look r t

def evS (σ : List (Nat × V)) : Operand → Option V
  | .tmp t => look σ t
  | .const v => ofVal v
  | .global g => some (.gptr g 0)
  | .func g => some (.func g [] [])

def evsS (ev : Operand → Option V) : List Operand → Option (List V)
  | [] => some []
  | x :: r => match ev x, evsS ev r with
    | some v, some vs => some (v :: vs)
    | _, _ => none

def evPartsS (ev : Operand → Option V) : List (Nat × Operand) → Option (List (Nat × V))
  | [] => some []
  | (i, x) :: r => match ev x, evPartsS ev r with
    | some v, some vs => some ((i, v) :: vs)
    | _, _ => none

def evOptS (ev : Operand → Option V) : Option Operand → Option (Option V)
  | none => some none
  | some x => (ev x).map some

def opS (E : Env) (ev : Operand → Option V) (o : Oper) (H : Hp) : Out :=
  match o.op with
  | .move x | .assign x => okO (ev x) H
  | .pick c a b => match ev c with
    | some (.bool c) => okO (ev (if c then a else b)) H
    | _ => none
  | .alloc e => match zeroT E.P e with
    | some z => (newCells H z.cells e .rw).map fun H' => (.val (.ptr H.size 0), H')
    | none => none
  | .box e x => match ev x with
    | some v => (newCells H v.cells e .rw).map fun H' => (.val (.ptr H.size 0), H')
    | none => none
  | .build t parts => match evPartsS ev parts.toList with
    | some ps => okO (buildV E.P t ps) H
    | none => none
  | .buildSlice t len parts => match evPartsS ev parts.toList, E.P.underlying t with
    | some ps, some (.slice e) => match sizeT E.P e, zeroT E.P e with
      | some n, some z =>
        if len * n ≤ 16777216 ∧ z.cells.length = n then match fillV (fun i => some (i * n, n)) (zeros z.cells len) ps with
          | some cs => (newCells H cs e .rw).map fun H' => (.val (.slice H.size 0 len (some len)), H')
          | none => none
        else none
      | _, _ => none
    | _, _ => none
  | .load t a => match ev a with
    | some p => okO (loadV E t H p) H
    | none => none
  | .store t a x => match ev a, ev x with
    | some p, some v => (storeV E t H p v).map fun H' => (.skip, H')
    | _, _ => none
  | .nilCheck x => match ev x with
    | some (.ptr k o) => ok (.ptr k o) H
    | some (.gptr k o) => ok (.gptr k o) H
    | some (.func g a b) => ok (.func g a b) H
    | some (.iface t v) => ok (.iface t v) H
    | _ => none
  | .binOp op t x y _ => match ev x, ev y with
    | some a, some b => okO (binV E.P op t (isConst x) (isConst y) a b) H
    | _, _ => none
  | .unOp op _ x => match ev x with
    | some a => okO (unV op a) H
    | none => none
  | .convert s d x => match ev x with
    | some a => convV E.P s d a H
    | none => none
  | .makeInterface t x => match E.P.underlying t, ev x with
    | some (.interface _), _ => none
    | some _, some v => ok (.iface t v) H
    | _, _ => none
  | .makeFunc (.func g) a b => match evsS ev a.toList, evsS ev b.toList with
    | some a, some b => ok (.func g a b) H
    | _, _ => none
  | .makeMap _ none => ok (.map H.size) (H.new (.map [] 0))
  | .makeSlice t l c => match ev l, ev c with
    | some l, some c => makeSliceV E.P t l c H
    | _, _ => none
  | .slice t x lo hi mx => match ev x, (evOptS ev lo).bind natV, (evOptS ev hi).bind natV, (evOptS ev mx).bind natV with
    | some x, some lo, some hi, some mx => if sliceEnd E.P t x lo hi mx H = true then ok (.slice H.size 0 0 none) (H.new .dead) else okO (sliceV E.P t x lo hi mx H) H
    | _, _, _, _ => none
  | .fieldAddr s x i => match ev x with
    | some v => okO (fieldAddrV E.P s v i) H
    | none => none
  | .field t x i => match ev x with
    | some v => okO (fieldV E.P t v i) H
    | none => none
  | .indexAddr t x i => match ev x, ev i with
    | some x, some i => okO (indexAddrV E.P t x i) H
    | _, _ => none
  | .index t x i => match ev x, ev i with
    | some x, some i => okO (indexV E.P t x i) H
    | _, _ => none
  | .lookup t x i c => match ev x, ev i with
    | some x, some i => okO (lookupV E.P t x i c H) H
    | _, _ => none
  | .mapUpdate t m k v | .insert t m k v => match ev m, ev k, ev v with
    | some m, some k, some v => (mapSetV E.P t m k v H).map fun H' => (.skip, H')
    | _, _, _ => none
  | .mapEntry t m k => match ev m, ev k with
    | some m, some k => mapEntryV E.P t m k H
    | _, _ => none
  | .entryStore _ m s v => match ev m, ev s, ev v with
    | some m, some s, some v => (entryStoreV m s v H).map fun H' => (.skip, H')
    | _, _, _ => none
  | .range t x => match ev x with
    | some v => rangeV E.P t v H
    | none => none
  | .next it s => match ev it with
    | some v => nextV v s H
    | none => none
  | .extract x i => match ev x with
    | some (.tup vs) => okO (vs[i]?) H
    | _ => none
  | .call c => match evsS ev c.args.toList, c.callee with
    | some args, .builtin b => builtinV E b c.argTypes.toList args H
    | some args, .value g => match ev g with
      | some (.func g a b) => callV E g (a ++ args ++ b) H
      | _ => none
    | _, _ => none
  | _ => none

def wantedS (σ : List (Nat × V)) (ops : List Oper) (o : Oper) : Option Bool :=
  match o.guard with
  | none => some true
  | some (j, want) => match (ops[j]?).bind (·.dst) with
    | none => some false
    | some d => match look σ d with
      | some (.bool b) => some (b == want)
      | some _ => some false
      | none => none

def resS (E : Env) (σ : List (Nat × V)) (H : Hp) : List ResultVar → Option (List V)
  | [] => some []
  | .tmp t :: r => match look σ t, resS E σ H r with
    | some v, some vs => some (v :: vs)
    | _, _ => none
  | .cell a t :: r => match (look σ a).bind (loadV E t H), resS E σ H r with
    | some v, some vs => some (v :: vs)
    | _, _ => none

structure Fits (n : Nat) (σ : List (Nat × V)) (f : Fr) : Prop where
  len : f.m.length = n
  has : ∀ t v, look σ t = some v → get f.m t = some v

variable {E : Env} {n : Nat} {σ σ' : List (Nat × V)} {f : Fr} {H H' : Hp}

theorem put_len : ∀ (m : List (Option V)) (t : Nat) (v : V), (put m t v).length = m.length
  | [], _, _ => rfl
  | _ :: _, 0, _ => rfl
  | _ :: r, t + 1, v => by simp [put, put_len r t v]

theorem Fits.put (h : Fits n σ f) {d : Nat} (hd : Nat.blt d n = true) (v : V) : Fits n ((d, v) :: σ) { m := put f.m d v } where
  len := by rw [put_len]; exact h.len
  has t u hu := by
    have hlt : d < n := by simpa [Nat.blt_eq] using hd
    rw [get_put]
    simp only [look] at hu
    by_cases e : t = d
    · subst e
      simp only [Nat.beq_refl] at hu
      simp only [h.len, hlt, and_self, if_true]
      exact hu
    · have hb : Nat.beq d t = false := by
        cases hb : Nat.beq d t with
        | false => rfl
        | true => exact absurd (Nat.eq_of_beq_eq_true hb).symm e
      rw [hb] at hu
      rw [if_neg (by simp [e])]
      exact h.has t u hu

theorem Fits.ev (h : Fits n σ f) : ∀ (x : Operand) (v : V), evS σ x = some v → f.ev x = some v := by
  intro x v hx
  cases x with
  | tmp t => exact h.has t v hx
  | const c => exact hx
  | global g => exact hx
  | func g => exact hx

def Sub (σ : List (Nat × V)) : List (Nat × V) → Prop
  | [] => True
  | (t, v) :: r => look σ t = some v ∧ Sub σ r

theorem Fits.sub (h : Fits n σ f) : ∀ (σ' : List (Nat × V)), Sub σ σ' → Fits n σ' f := by
  intro σ' hs
  refine ⟨h.len, ?_⟩
  induction σ' with
  | nil => intro t v ht; simp [look] at ht
  | cons x r ih =>
    obtain ⟨s, u⟩ := x
    intro t v ht
    simp only [look] at ht
    split at ht
    · rename_i e
      obtain rfl := Nat.eq_of_beq_eq_true e
      exact h.has _ _ (hs.1.trans ht)
    · exact ih hs.2 t v ht

theorem evsS_mono {ev ev' : Operand → Option V} (h : ∀ x v, ev x = some v → ev' x = some v) : ∀ (l : List Operand) (vs : List V), evsS ev l = some vs → evsS ev' l = some vs
  | [], vs, hv => hv
  | x :: r, vs, hv => by
    simp only [evsS] at hv ⊢
    split at hv
    · rename_i v ws h1 h2
      rw [h _ _ h1, evsS_mono h r _ h2]
      exact hv
    · cases hv

theorem evPartsS_mono {ev ev' : Operand → Option V} (h : ∀ x v, ev x = some v → ev' x = some v) : ∀ (l : List (Nat × Operand)) (vs : List (Nat × V)), evPartsS ev l = some vs → evPartsS ev' l = some vs
  | [], vs, hv => hv
  | (i, x) :: r, vs, hv => by
    simp only [evPartsS] at hv ⊢
    split at hv
    · rename_i v ws h1 h2
      rw [h _ _ h1, evPartsS_mono h r _ h2]
      exact hv
    · cases hv

theorem evOptS_mono {ev ev' : Operand → Option V} (h : ∀ x v, ev x = some v → ev' x = some v) (x : Option Operand) (v : Option V) (hv : evOptS ev x = some v) : evOptS ev' x = some v := by
  cases x with
  | none => exact hv
  | some x =>
    simp only [evOptS, Option.map_eq_some_iff] at hv ⊢
    obtain ⟨a, h1, h2⟩ := hv
    exact ⟨a, h _ _ h1, h2⟩

theorem evsS_eq (f : Fr) : ∀ l : List Operand, evsS f.ev l = evs f l
  | [] => rfl
  | x :: r => by simp only [evsS, evs, evsS_eq f r]; rfl

theorem evPartsS_eq (f : Fr) : ∀ l : List (Nat × Operand), evPartsS f.ev l = evParts f l
  | [] => rfl
  | (i, x) :: r => by simp only [evPartsS, evParts, evPartsS_eq f r]; rfl

theorem evOptS_eq (f : Fr) (x : Option Operand) : evOptS f.ev x = evOpt f x := by cases x <;> rfl

theorem opS_eq (f : Fr) (o : Oper) (H : Hp) : opS E f.ev o H = opV E f o H := by
  obtain ⟨dst, op, ty, pos, after, guard⟩ := o
  cases op
  case makeFunc g a b => cases g <;> first | rfl | (simp only [opS, opV, evsS_eq]; rfl)
  case makeMap t r => cases r <;> rfl
  all_goals first
    | rfl
    | (simp only [opS, opV, evsS_eq, evPartsS_eq, evOptS_eq]; done)
    | (simp only [opS, opV, evsS_eq, evPartsS_eq, evOptS_eq]; rfl)

theorem opS_mono {ev ev' : Operand → Option V} (h : ∀ x v, ev x = some v → ev' x = some v) {o : Oper} {r : R} (hr : opS E ev o H = some (r, H')) : opS E ev' o H = some (r, H') := by
  obtain ⟨dst, op, ty, pos, after, guard⟩ := o
  have hk : ∀ {x : Operand} {H0 : Hp}, okO (ev x) H0 = some (r, H') → okO (ev' x) H0 = some (r, H') := by
    intro x H0 hx
    simp only [okO, Option.map_eq_some_iff] at hx ⊢
    obtain ⟨a, h1, h2⟩ := hx
    exact ⟨a, h _ _ h1, h2⟩
  cases op
  case move x => exact hk hr
  case assign x => exact hk hr
  case makeFunc g a b =>
    cases g <;> simp only [opS] at hr ⊢ <;> try exact hr
    split at hr
    · rename_i a b h1 h2
      rw [evsS_mono h _ _ h1, evsS_mono h _ _ h2]; exact hr
    · cases hr
  case makeMap t x => cases x <;> exact hr
  case call c =>
    simp only [opS] at hr ⊢
    split at hr
    · rename_i args b h1 h2
      rw [evsS_mono h _ _ h1, h2]; exact hr
    · rename_i args g h1 h2
      rw [evsS_mono h _ _ h1, h2]
      split at hr
      · rename_i a b c h3
        simp only [h _ _ h3]; exact hr
      · cases hr
    · cases hr
  case slice t x lo hi mx =>
    simp only [opS] at hr ⊢
    split at hr
    · rename_i a b c d h1 h2 h3 h4
      have hb : ∀ {y : Option Operand} {z : Option Nat}, (evOptS ev y).bind natV = some z → (evOptS ev' y).bind natV = some z := by
        intro y z hy
        rw [Option.bind_eq_some_iff] at hy ⊢
        obtain ⟨a, h1, h2⟩ := hy
        exact ⟨a, evOptS_mono h _ _ h1, h2⟩
      rw [h _ _ h1, hb h2, hb h3, hb h4]; exact hr
    · cases hr
  case pick c a b =>
    simp only [opS] at hr ⊢
    split at hr
    · rename_i t h1
      rw [h _ _ h1]; exact hk hr
    · cases hr
  case build t ps =>
    simp only [opS] at hr ⊢
    split at hr
    · rename_i t h1
      rw [evPartsS_mono h _ _ h1]; exact hr
    · cases hr
  case buildSlice t len ps =>
    simp only [opS] at hr ⊢
    split at hr
    · rename_i t e h1 h2
      rw [evPartsS_mono h _ _ h1, h2]; exact hr
    · cases hr
  case makeInterface t x =>
    simp only [opS] at hr ⊢
    split at hr
    · cases hr
    · rename_i d v h0 h1 h2
      rw [h1, h _ _ h2]
      cases d <;> first | exact hr | exact absurd rfl (h0 _)
    · cases hr
  all_goals
    simp only [opS] at hr ⊢
    first
    | (exact hr)
    | (split at hr
       · (first
          | (rename_i a h1; rw [h _ _ h1]; exact hr)
          | (rename_i a b h1 h2; rw [h _ _ h1, h _ _ h2]; exact hr)
          | (rename_i a b c h1 h2 h3; rw [h _ _ h1, h _ _ h2, h _ _ h3]; exact hr)
          | (rename_i a b c d h1; rw [h _ _ h1]; exact hr))
       · cases hr)
    | (split at hr <;> first | (rename_i a b h1; rw [h _ _ h1]; exact hr) | (rename_i a b c h1; rw [h _ _ h1]; exact hr) | cases hr)

theorem Fits.op (hf : Fits n σ f) {o : Oper} {r : R} (h : opS E (evS σ) o H = some (r, H')) : opV E f o H = some (r, H') := by
  rw [← opS_eq]
  exact opS_mono hf.ev h

theorem Fits.wanted (hf : Fits n σ f) {all : List Oper} {o : Oper} {b : Bool} (h : wantedS σ all o = some b) : wantedV f all o = some b := by
  unfold wantedS at h
  unfold wantedV
  split at h
  · rename_i e; simp only [e]; exact h
  · rename_i j w e
    simp only [e]
    split at h
    · rename_i e2; rw [e2]; exact h
    · rename_i d e2
      rw [e2]
      simp only
      split at h
      · rename_i b e3; rw [hf.has _ _ e3]; exact h
      · rename_i v e3 e4; rw [hf.has _ _ e4]; 
        cases v <;> first | exact h | exact absurd rfl (e3 _)
      · cases h

theorem Fits.res (hf : Fits n σ f) : ∀ (l : List ResultVar) (vs : List V), resS E σ H l = some vs → resV E f H l = some vs
  | [], vs, h => h
  | .tmp t :: r, vs, h => by
    simp only [resS] at h
    simp only [resV]
    split at h
    · rename_i v ws h1 h2
      rw [hf.has _ _ h1, hf.res r _ h2]; exact h
    · cases h
  | .cell a t :: r, vs, h => by
    simp only [resS] at h
    simp only [resV]
    split at h
    · rename_i v ws h1 h2
      obtain ⟨p, h3, h4⟩ := Option.bind_eq_some_iff.mp h1
      rw [hf.has _ _ h3, hf.res r _ h2, Option.bind_some, h4]; exact h
    · cases h

end Go.Am
