/-
  Texts of this session, one behind the other: AmGlob.
-/
import Derived.Test.YtbbkdhlfgekagaaDoorPart11
import Derived.Lib.LaidU8
namespace Go.Am
open Go

def tabCells (k : IntKind) (zs : List Int) : List V := zs.map fun z => .int k z

theorem tab_globs {P : Program} {laid : List (String × DataW Unit)} {w : World} (hl : laidMet P laid w) {name : String} {k : IntKind} {zs : List Int} {g : Nat} {t e : TypeId} {n : Nat}
    (hm : (name, Lib.tabData k zs) ∈ laid) (hg : P.globalNamed name = some g) (hty : (P.globals[g]?).map (·.type) = some t) (ht : P.underlying t = some (.array n e)) (he : P.underlying e = some (.int k)) (hce : P.cellsOf e = 1) (hct : P.cellsOf t = n) :
    g < w.heap.size ∧ (∀ v ∈ tabCells k zs, v.flat = true ∧ v.one = true) ∧ ∃ C e z, w.heap[g]? = some (.cells C e z) ∧ C.size = (tabCells k zs).length ∧ ∀ (i : Nat) (v : V) (ρ : Nat → Loc), (tabCells k zs)[i]? = some v → C[i]? = some (v.emb ρ) := by
  obtain ⟨g', t', cs, fuel, p, h1, h2, h3, h4⟩ := Lib.laidMet.reads hl hm
  obtain rfl := Option.some.inj (hg.symm.trans h1)
  obtain rfl := Option.some.inj (hty.symm.trans h2)
  have hcs := Lib.cells_of_tab ht he hce hct h4
  unfold World.var? at h3
  rw [hg] at h3
  simp only [Option.bind_some] at h3
  split at h3
  · rename_i C e' z hC
    simp only [Option.some.injEq] at h3
    subst h3
    refine ⟨(Array.getElem?_eq_some_iff.1 hC).1, fun v hv => ?_, C, e', z, hC, by rw [← Array.length_toList, hcs]; simp [tabCells], fun i v ρ hi => ?_⟩
    · obtain ⟨x, _, rfl⟩ := List.mem_map.1 hv
      exact ⟨rfl, rfl⟩
    · rw [← Array.getElem?_toList, hcs]
      simp only [tabCells, List.getElem?_map, Option.map_eq_some_iff] at hi ⊢
      obtain ⟨x, hx, rfl⟩ := hi
      exact ⟨x, hx, rfl⟩
  · cases h3

theorem laid_size {P : Program} {laid : List (String × DataW Unit)} {w : World} (hl : laidMet P laid w) {name : String} {D : DataW Unit} {g : Nat} {t e : TypeId} {n : Nat} (hm : (name, D) ∈ laid) (hg : P.globalNamed name = some g) (hty : (P.globals[g]?).map (·.type) = some t) (ht : P.underlying t = some (.array n e))
    {C : Array Value} {e' : TypeId} {z : Nat × Nat} (hC : w.heap[g]? = some (.cells C e' z)) : C.size = P.cellsOf t := by
  obtain ⟨g', t', cs, fuel, p, h1, h2, h3, h4⟩ := Lib.laidMet.reads hl hm
  obtain rfl := Option.some.inj (hg.symm.trans h1)
  obtain rfl := Option.some.inj (hty.symm.trans h2)
  unfold World.var? at h3
  rw [hg] at h3
  simp only [Option.bind_some, hC, Option.some.injEq] at h3
  subst h3
  cases fuel with
  | zero => simp [DataW.trod] at h4
  | succ m =>
    unfold DataW.trod at h4
    rw [ht] at h4
    simp only at h4
    obtain ⟨h5, _⟩ := Option.ite_none_right_eq_some.1 h4
    simpa using h5
end Go.Am
