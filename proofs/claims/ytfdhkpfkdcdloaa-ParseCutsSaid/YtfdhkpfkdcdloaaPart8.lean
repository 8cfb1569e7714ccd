/-
  Texts of this session, one behind the other: AmRow.
-/
import Derived.Test.YtfdhkpfkdcdloaaPart7
import Derived.ProofKit
namespace Go.Am
open Go Go.RowKit Go.ChangeShapes

variable {E : Env} {w : World}

theorem not_owned_nil (ρ : Nat → Loc) (b : Nat) : ¬ Owned [] ρ b := by
 rintro ⟨k, o, h, _⟩
 simp at h

theorem Goes.below0 {ρ ρ' : Nat → Loc} {w w' : World} {H' : List AObj} (h : Goes [] ρ w H' ρ' w') : Below w.heap.size w w' :=
 ⟨h.os, h.tape, h.output, h.size, fun b hb => h.same b hb (not_owned_nil ρ b)⟩

theorem WR.emptyG (hG : Globs E w) (ρ : Nat → Loc) : WR E w.heap.size ρ [] w :=
 ⟨Nat.le_refl _, fun k o h => by simp at h, fun k o h => by simp at h, fun k k' o o' h => by simp at h, fun g cs h => by
  obtain ⟨h1, h2, C, e, z, h3, h5, h4⟩ := hG g cs h
  exact ⟨h1, h2, C, e, z, h3, h5, fun i v hi => h4 i v ρ hi⟩⟩

theorem trodAll_below {H : Type} {enc : TypeId × Value → H} {P : Program} (hl : laidOutB P = true) {W W' : World} (hb : Below W.heap.size W W') :
 ∀ (ts : List TypeId), (∀ t ∈ ts, P.readableRec t = true ∧ t < P.types.size) → ∀ (vs : List Value) (ds : List (DataW H)) (ps : List MemPlace), DataW.TrodAll enc P W 0 (fun _ => true) true ts vs ds ps →
  (∀ x ∈ ps, x.block < W.heap.size) → DataW.TrodAll enc P W' 0 (fun b => decide (b < W.heap.size)) true ts vs ds ps
 | [], _, [], [], ps, h, _ => by simpa [DataW.TrodAll] using h
 | [], _, [], _ :: _, ps, h, _ => by simp [DataW.TrodAll] at h
 | [], _, _ :: _, _, ps, h, _ => by simp [DataW.TrodAll] at h
 | _ :: _, _, [], _, ps, h, _ => by simp [DataW.TrodAll] at h
 | _ :: _, _, _ :: _, [], ps, h, _ => by simp [DataW.TrodAll] at h
 | t :: ts, ht, v :: vs, d :: ds, ps, h, hlt => by
  obtain ⟨p, q, h1, h2, rfl⟩ := h
  exact ⟨p, q, Below.trod hl (ht t (by simp)).1 (ht t (by simp)).2 h1 hb (fun x hx => hlt x (by simp [hx])),
   trodAll_below hl hb ts (fun u hu => ht u (by simp [hu])) vs ds q h2 (fun x hx => hlt x (by simp [hx])), rfl⟩

theorem post_law {H : Type} {enc : TypeId × Value → H} {P : Program} {f : Func} {s : ChangeSpec} {apart fresh handsOn : Bool} {W W' : World} {args : Array Value} {ds : List (DataW H)} {before : List MemPlace} {t : TypeId}
 (hW : DataW.Whole enc P f.params.toList s.vars apart W args.toList ds [] before) (hs : s.fn H ds = { results := [.lit (.bool true)], args := ds }) (hvars : s.vars = [])
 (hr : f.resultTypes = #[t]) (ht : P.underlying t = some .bool) (hl : laidOutB P = true) (hts : ∀ t ∈ f.params.toList, P.readableRec t = true ∧ t < P.types.size)
 (hb : Below W.heap.size W W') : s.post enc P f apart fresh handsOn false W args (.bool true) W' := by
 have hlt := hW.lt
 have hW0 := hW
 obtain ⟨p, q, h1, h2, rfl, h4, h5⟩ := hW
 refine ⟨ds, [], p ++ q, [], p, [], hW0, ?_, ?_, ?_, hb.frame _, fun h => by cases h⟩
 ·rw [List.append_nil, hs, hr]
  exact trodAll_mk1 (shut_bool ht true)
 ·rw [List.append_nil, hs]
  exact trodAll_below hl hb _ hts _ _ _ h1 (fun x hx => hlt x (by simp [hx]))
 ·rw [List.append_nil, hs, hvars]
  rfl

theorem WR.env {E E' : Env} {N : Nat} {ρ : Nat → Loc} {H : List AObj} {w : World} (h : WR E N ρ H w) (hP : E'.P = E.P) (hG : E'.G = E.G) : WR E' N ρ H w :=
 ⟨h.low, h.vals, fun k o hk => hP ▸ h.objs k o hk, h.inj, fun g cs hg => h.globs g cs (hG ▸ hg)⟩
def Env.know (E : Env) (g : FuncId) (S : List V → Option V) : Env := { E with orc := fun f a H => if f = g then S a else E.orc f a H }

def tabS (l : List (List V × V)) (args : List V) : Option V := (l.find? fun p => V.eqBL p.1 args).map (·.2)

theorem Env.Ok.knowTab (ok : E.Ok) {g : FuncId} (l : List (List V × V)) (h : ∀ p ∈ l, (∃ m, evCall E m g p.1 [] = some (.pure p.2)) ∧ (p.2.flat && p.1.all V.flat) = true) : (E.know g (tabS l)).Ok where
 mixed := ok.mixed
 names := ok.names
 ext := ok.ext
 same := ok.same
 made := ok.made
 orc f args H u hu := by
  simp only [Env.know] at hu
  by_cases e : f = g
  ·subst e
   rw [if_pos rfl] at hu
   unfold tabS at hu
   obtain ⟨p, hp, rfl⟩ := Option.map_eq_some_iff.1 hu
   have hq := List.find?_some hp
   have hm := List.mem_of_find?_eq_some hp
   obtain ⟨⟨m, h1⟩, h2⟩ := h p hm
   simp only [Bool.and_eq_true, List.all_eq_true] at h2
   have : p.1 = args := eqBL_eq _ _ hq
   subst this
   refine ⟨h2.1, fun N ρ w hw hlt => ?_⟩
   have hG : Globs E w := hw.globs'
   refine ((evCall_ok ok m f p.1 [] _ h1 (fun v hv => lt_flat (h2.2 v hv) 0) w.heap.size ρ w (WR.emptyG (E := E) hG ρ)).2).mono fun e w' hp => ?_
   obtain ⟨rfl, _, hg⟩ := hp
   exact ⟨rfl, hg.below0⟩
  ·rw [if_neg e] at hu
   exact ⟨(ok.orc f args H u hu).1, fun N ρ w hw hlt => (ok.orc f args H u hu).2 N ρ w (hw.env rfl rfl) hlt⟩

def Env.knowH (E : Env) (g : FuncId) (S : List V → List AObj → Option V) : Env := { E with orc := fun f a H => if f = g then S a H else E.orc f a H }
theorem Env.Ok.knowH (ok : E.Ok) {g : FuncId} {S : List V → List AObj → Option V} (h : ∀ args H v, S args H = some v → v.flat = true ∧ ∀ N ρ w, WR E N ρ H w → ltL H.length args →
 Calls E.P g (args.map (V.emb ρ)).toArray w fun e w' => e = .returned (v.emb ρ) ∧ Below w.heap.size w w') : (E.knowH g S).Ok where
 mixed := ok.mixed
 names := ok.names
 ext := ok.ext
 same := ok.same
 made := ok.made
 orc f args H u hu := by
  simp only [Env.knowH] at hu
  by_cases e : f = g
  ·subst e
   rw [if_pos rfl] at hu
   exact ⟨(h args H u hu).1, fun N ρ w hw hlt => (h args H u hu).2 N ρ w (hw.env rfl rfl) hlt⟩
  ·rw [if_neg e] at hu
   exact ⟨(ok.orc f args H u hu).1, fun N ρ w hw hlt => (ok.orc f args H u hu).2 N ρ w (hw.env rfl rfl) hlt⟩

end Go.Am
