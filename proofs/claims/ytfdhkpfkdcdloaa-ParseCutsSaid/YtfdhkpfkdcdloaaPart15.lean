/-
  Texts of this session, one behind the other: AmRepeat.
-/
import Derived.Test.YtfdhkpfkdcdloaaPart14
import Derived.Shelf.Strings.Repeat
namespace Go.Am
open Go Go.RowKit

variable {E : Env}

def repeatA : List V → List AObj → Option V
 | [.str s, .int .i64 n], _ => if 0 ≤ n ∧ n ≤ 9223372036854775807 ∧ s.length * n.toNat ≤ 140737488355328 then some (.str (Lib.repeatL s n.toNat)) else none
 | _, _ => none
theorem Env.Ok.withRepeat (ok : E.Ok) {ρ : Shelf.Ren} (L : Go.Proofs.Lays.n105 E.P ρ) (X : Go.Proofs.Builder.Extra E.P ρ) : (E.knowH (ρ.f 105) repeatA).Ok :=
 ok.knowH fun args H v h => by
  unfold repeatA at h
  split at h
  ·rename_i s n
   split at h
   ·rename_i hr
    cases h
    refine ⟨rfl, fun N ρ' w hw _ => ?_⟩
    obtain ⟨m, rfl⟩ : ∃ m : Nat, n = (m : Int) := ⟨n.toNat, by omega⟩
    have h3 := hr.2.2
    rw [Int.toNat_natCast] at h3 ⊢
    exact (Go.Proofs.Any.strings_Repeat L X ⟨⟨s⟩⟩ m w (by omega) h3).mono fun e w' ⟨he, hb⟩ => ⟨by rw [he]; rfl, hb⟩
   ·cases h
  ·cases h
end Go.Am
