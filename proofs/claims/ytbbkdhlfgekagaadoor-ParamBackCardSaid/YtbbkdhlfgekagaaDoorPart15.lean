/-
  Texts of this session, one behind the other: AmMap.
-/
import Derived.Test.YtbbkdhlfgekagaaDoorPart14
import Derived.Shelf.Strings.MapGrows
namespace Go.Am
open Go Go.RowKit

variable {E : Env}

def mapA (g0 : FuncId) (f : Int → Int) : List V → List AObj → Option V
  | [.func g [] [], .str s], _ => if g = g0 ∧ s.length < 35184372088832 then some (.str (Lib.mapD f s)) else none
  | _, _ => none

theorem Env.Ok.withMap (ok : E.Ok) {ρ : Shelf.Ren} (L : Go.Proofs.Lays.n230 E.P ρ) (X : Go.Proofs.Builder.Extra E.P ρ) (h3 : E.G (ρ.g 3) = some firstC) (h4 : E.G (ρ.g 4) = some accC)
    {g0 : FuncId} (eg : ∀ args w, (callFunc g0 args).run E.P w = .ok (.enter g0 args) w) {f : Int → Int} (hg : ∀ x : Nat, x ≤ 1114111 → WPcall E g0 [.int .i32 x] [] (· = .pure (.int .i32 (f x))))
    (hf : ∀ x : Nat, x ≤ 1114111 → -2147483648 ≤ f x ∧ f x ≤ 2147483647) : (E.knowH (ρ.f 230) (mapA g0 f)).Ok :=
  ok.knowH fun args H v h => by
    unfold mapA at h
    split at h
    · rename_i g s
      obtain ⟨⟨rfl, hs⟩, h'⟩ := Option.ite_none_right_eq_some.1 h
      clear h
      cases h'
      refine ⟨rfl, fun N ρ' w hw _ => ?_⟩
      have hglobs := hw.globs'
      have hm : Go.Proofs.MapGrows E.P g #[] f w := fun W x hx hb => by
        have hG : Globs E W := fun q cs hq => by
          obtain ⟨a1, a2, C, e, z, a3, a5, a4⟩ := hglobs q cs hq
          exact ⟨Nat.lt_of_lt_of_le a1 hb.size, a2, C, e, z, (hb.block q a1).trans a3, a5, a4⟩
        obtain ⟨c, h5, rfl⟩ := hg x hx
        refine (h5.calls ok (by intro v hv; rw [List.mem_singleton.1 hv]; rfl) (WR.emptyG (E := E) hG rho0)).mono fun e w' hp => ?_
        obtain ⟨rfl, _, hgo⟩ := hp
        exact ⟨rfl, hgo.below0⟩
      exact (Go.Proofs.Any.strings_Map_grows L X g #[] eg f ⟨⟨s⟩⟩ w (by simpa [ByteArray.size] using hs) hm hf (tabs_of_globs hglobs h3 h4)).mono fun e w' ⟨he, hb⟩ => ⟨by rw [he]; rfl, hb⟩
    · cases h
end Go.Am
