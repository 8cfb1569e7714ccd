/-
  What was evaluated, as known calls.
-/
import Derived.Test.YthmmpfaghmoenaaDoorAtK0
import Derived.Test.YthmmpfaghmoenaaDoorAtK1
import Derived.Test.YthmmpfaghmoenaaDoorAtK2
import Derived.Test.YthmmpfaghmoenaaDoorAtK3
import Derived.Test.YthmmpfaghmoenaaDoorAtK4
import Derived.Test.YthmmpfaghmoenaaDoorAtK5
import Derived.Test.YthmmpfaghmoenaaDoorAtK6
import Derived.Test.YthmmpfaghmoenaaDoorAtK7
namespace Go.Proofs.YthmmpfaghmoenaaDoor
open Go Go.Am
def attab23 : List (List V × V) := [
  ([(.agg [(.int .u8 1), (.int .u8 7), (.int .u8 0), (.int .u8 0), (.int .u8 1), (.int .u8 16), (.int .u8 0), (.int .u8 0), (.int .u16 511)])], (.str [48, 59, 49, 59, 50, 59, 51, 59, 52, 59, 53, 59, 55, 59, 56, 59, 57, 59, 50, 49, 59, 51, 55, 59, 52, 56, 59, 53, 59, 49, 54])),
  ([(.agg [(.int .u8 0), (.int .u8 0), (.int .u8 0), (.int .u8 0), (.int .u8 0), (.int .u8 0), (.int .u8 0), (.int .u8 0), (.int .u16 0)])], (.str [48])),
  ([(.agg [(.int .u8 0), (.int .u8 0), (.int .u8 0), (.int .u8 0), (.int .u8 1), (.int .u8 15), (.int .u8 0), (.int .u8 0), (.int .u16 0)])], (.str [48, 59, 49, 48, 55])),
  ([(.agg [(.int .u8 1), (.int .u8 9), (.int .u8 0), (.int .u8 0), (.int .u8 2), (.int .u8 1), (.int .u8 2), (.int .u8 3), (.int .u16 257)])], (.str [48, 59, 49, 59, 50, 49, 59, 57, 49, 59, 52, 56, 59, 50, 59, 49, 59, 50, 59, 51]))]
noncomputable def E1At0 : Env := E.know 23 (tabS attab23)
theorem E1At0_base : ∀ p ∈ attab23, (∃ m, evCall E m 23 p.1 [] = some (.pure p.2)) ∧ (p.2.flat && p.1.all V.flat) = true := by
  unfold attab23
  refine List.forall_mem_cons.2 ⟨⟨⟨1000, atk3⟩, rfl⟩, ?_⟩
  refine List.forall_mem_cons.2 ⟨⟨⟨1000, atk9⟩, rfl⟩, ?_⟩
  refine List.forall_mem_cons.2 ⟨⟨⟨1000, atk13⟩, rfl⟩, ?_⟩
  refine List.forall_mem_cons.2 ⟨⟨⟨1000, atk21⟩, rfl⟩, ?_⟩
  exact fun p hp => by cases hp
theorem E1At0_ok : E1At0.Ok := E_ok.knowTab attab23 E1At0_base
def attab27 : List (List V × V) := [
  ([(.str [54, 59, 49, 48, 59, 50, 54, 59, 53, 48, 59, 57, 56, 59, 49, 48, 56])], (.agg [(.int .u8 0), (.int .u8 0), (.int .u8 0), (.int .u8 0), (.int .u8 0), (.int .u8 0), (.int .u8 0), (.int .u8 0), (.int .u16 0)])),
  ([(.str [51, 56, 59, 50, 59, 49, 59, 50, 59, 51, 48, 48, 59, 49])], (.agg [(.int .u8 0), (.int .u8 0), (.int .u8 0), (.int .u8 0), (.int .u8 0), (.int .u8 0), (.int .u8 0), (.int .u8 0), (.int .u16 1)])),
  ([(.str [51, 56, 58, 53])], (.agg [(.int .u8 0), (.int .u8 0), (.int .u8 0), (.int .u8 0), (.int .u8 0), (.int .u8 0), (.int .u8 0), (.int .u8 0), (.int .u16 0)])),
  ([(.str [51, 56, 59, 53, 59, 50, 48, 48, 59, 52])], (.agg [(.int .u8 1), (.int .u8 200), (.int .u8 0), (.int .u8 0), (.int .u8 0), (.int .u8 0), (.int .u8 0), (.int .u8 0), (.int .u16 8)])),
  ([(.str [52, 58, 48])], (.agg [(.int .u8 0), (.int .u8 0), (.int .u8 0), (.int .u8 0), (.int .u8 0), (.int .u8 0), (.int .u8 0), (.int .u8 0), (.int .u16 0)])),
  ([(.str [52, 58, 49])], (.agg [(.int .u8 0), (.int .u8 0), (.int .u8 0), (.int .u8 0), (.int .u8 0), (.int .u8 0), (.int .u8 0), (.int .u8 0), (.int .u16 8)])),
  ([(.str [52, 58, 50])], (.agg [(.int .u8 0), (.int .u8 0), (.int .u8 0), (.int .u8 0), (.int .u8 0), (.int .u8 0), (.int .u8 0), (.int .u8 0), (.int .u16 256)])),
  ([(.str [51, 56, 59, 53, 59, 49, 58, 49, 59, 55])], (.agg [(.int .u8 0), (.int .u8 0), (.int .u8 0), (.int .u8 0), (.int .u8 0), (.int .u8 0), (.int .u8 0), (.int .u8 0), (.int .u16 32)])),
  ([(.str [52, 56, 58, 50, 58, 58, 49, 58, 50, 58, 51])], (.agg [(.int .u8 0), (.int .u8 0), (.int .u8 0), (.int .u8 0), (.int .u8 2), (.int .u8 1), (.int .u8 2), (.int .u8 3), (.int .u16 0)])),
  ([(.str [51, 56, 59, 50, 59, 49, 59, 50])], (.agg [(.int .u8 0), (.int .u8 0), (.int .u8 0), (.int .u8 0), (.int .u8 0), (.int .u8 0), (.int .u8 0), (.int .u8 0), (.int .u16 0)])),
  ([(.str [51, 56, 59, 53, 59, 59, 49])], (.agg [(.int .u8 1), (.int .u8 0), (.int .u8 0), (.int .u8 0), (.int .u8 0), (.int .u8 0), (.int .u8 0), (.int .u8 0), (.int .u16 1)])),
  ([(.str [51, 56, 59, 50, 58, 49, 59, 49])], (.agg [(.int .u8 0), (.int .u8 0), (.int .u8 0), (.int .u8 0), (.int .u8 0), (.int .u8 0), (.int .u8 0), (.int .u8 0), (.int .u16 1)])),
  ([(.str [52, 56, 59, 51, 56, 59, 49])], (.agg [(.int .u8 0), (.int .u8 0), (.int .u8 0), (.int .u8 0), (.int .u8 0), (.int .u8 0), (.int .u8 0), (.int .u8 0), (.int .u16 1)])),
  ([(.str [51, 56, 58, 50, 58, 49, 58, 50])], (.agg [(.int .u8 0), (.int .u8 0), (.int .u8 0), (.int .u8 0), (.int .u8 0), (.int .u8 0), (.int .u8 0), (.int .u8 0), (.int .u16 0)])),
  ([(.str [51, 56, 59, 53])], (.agg [(.int .u8 0), (.int .u8 0), (.int .u8 0), (.int .u8 0), (.int .u8 0), (.int .u8 0), (.int .u8 0), (.int .u8 0), (.int .u16 0)])),
  ([(.str [49, 59, 50, 59, 50, 50])], (.agg [(.int .u8 0), (.int .u8 0), (.int .u8 0), (.int .u8 0), (.int .u8 0), (.int .u8 0), (.int .u8 0), (.int .u8 0), (.int .u16 0)])),
  ([(.str [51, 56, 58, 53, 58, 50, 53, 54])], (.agg [(.int .u8 0), (.int .u8 0), (.int .u8 0), (.int .u8 0), (.int .u8 0), (.int .u8 0), (.int .u8 0), (.int .u8 0), (.int .u16 0)])),
  ([(.str [51, 56, 59, 55, 59, 49])], (.agg [(.int .u8 0), (.int .u8 0), (.int .u8 0), (.int .u8 0), (.int .u8 0), (.int .u8 0), (.int .u8 0), (.int .u8 0), (.int .u16 1)])),
  ([(.str [57, 55, 59, 49, 48, 48])], (.agg [(.int .u8 1), (.int .u8 15), (.int .u8 0), (.int .u8 0), (.int .u8 1), (.int .u8 8), (.int .u8 0), (.int .u8 0), (.int .u16 0)])),
  ([(.str [52, 59, 50, 49])], (.agg [(.int .u8 0), (.int .u8 0), (.int .u8 0), (.int .u8 0), (.int .u8 0), (.int .u8 0), (.int .u8 0), (.int .u8 0), (.int .u16 256)])),
  ([(.str [50, 49, 59, 52])], (.agg [(.int .u8 0), (.int .u8 0), (.int .u8 0), (.int .u8 0), (.int .u8 0), (.int .u8 0), (.int .u8 0), (.int .u8 0), (.int .u16 8)])),
  ([(.str [49, 59, 51, 49])], (.agg [(.int .u8 1), (.int .u8 1), (.int .u8 0), (.int .u8 0), (.int .u8 0), (.int .u8 0), (.int .u8 0), (.int .u8 0), (.int .u16 1)])),
  ([(.str [49, 59])], (.agg [(.int .u8 0), (.int .u8 0), (.int .u8 0), (.int .u8 0), (.int .u8 0), (.int .u8 0), (.int .u8 0), (.int .u8 0), (.int .u16 0)])),
  ([(.str [52, 58, 51])], (.agg [(.int .u8 0), (.int .u8 0), (.int .u8 0), (.int .u8 0), (.int .u8 0), (.int .u8 0), (.int .u8 0), (.int .u8 0), (.int .u16 0)])),
  ([(.str [49, 58, 49])], (.agg [(.int .u8 0), (.int .u8 0), (.int .u8 0), (.int .u8 0), (.int .u8 0), (.int .u8 0), (.int .u8 0), (.int .u8 0), (.int .u16 0)])),
  ([(.str [51, 56])], (.agg [(.int .u8 0), (.int .u8 0), (.int .u8 0), (.int .u8 0), (.int .u8 0), (.int .u8 0), (.int .u8 0), (.int .u8 0), (.int .u16 0)]))]
noncomputable def E1 : Env := E1At0.know 27 (tabS attab27)
theorem E1_base : ∀ p ∈ attab27, (∃ m, evCall E m 27 p.1 [] = some (.pure p.2)) ∧ (p.2.flat && p.1.all V.flat) = true := by
  unfold attab27
  refine List.forall_mem_cons.2 ⟨⟨⟨1000, atk0⟩, rfl⟩, ?_⟩
  refine List.forall_mem_cons.2 ⟨⟨⟨1000, atk1⟩, rfl⟩, ?_⟩
  refine List.forall_mem_cons.2 ⟨⟨⟨1000, atk2⟩, rfl⟩, ?_⟩
  refine List.forall_mem_cons.2 ⟨⟨⟨1000, atk4⟩, rfl⟩, ?_⟩
  refine List.forall_mem_cons.2 ⟨⟨⟨1000, atk5⟩, rfl⟩, ?_⟩
  refine List.forall_mem_cons.2 ⟨⟨⟨1000, atk6⟩, rfl⟩, ?_⟩
  refine List.forall_mem_cons.2 ⟨⟨⟨1000, atk7⟩, rfl⟩, ?_⟩
  refine List.forall_mem_cons.2 ⟨⟨⟨1000, atk8⟩, rfl⟩, ?_⟩
  refine List.forall_mem_cons.2 ⟨⟨⟨1000, atk10⟩, rfl⟩, ?_⟩
  refine List.forall_mem_cons.2 ⟨⟨⟨1000, atk11⟩, rfl⟩, ?_⟩
  refine List.forall_mem_cons.2 ⟨⟨⟨1000, atk12⟩, rfl⟩, ?_⟩
  refine List.forall_mem_cons.2 ⟨⟨⟨1000, atk14⟩, rfl⟩, ?_⟩
  refine List.forall_mem_cons.2 ⟨⟨⟨1000, atk15⟩, rfl⟩, ?_⟩
  refine List.forall_mem_cons.2 ⟨⟨⟨1000, atk16⟩, rfl⟩, ?_⟩
  refine List.forall_mem_cons.2 ⟨⟨⟨1000, atk17⟩, rfl⟩, ?_⟩
  refine List.forall_mem_cons.2 ⟨⟨⟨1000, atk18⟩, rfl⟩, ?_⟩
  refine List.forall_mem_cons.2 ⟨⟨⟨1000, atk19⟩, rfl⟩, ?_⟩
  refine List.forall_mem_cons.2 ⟨⟨⟨1000, atk20⟩, rfl⟩, ?_⟩
  refine List.forall_mem_cons.2 ⟨⟨⟨1000, atk22⟩, rfl⟩, ?_⟩
  refine List.forall_mem_cons.2 ⟨⟨⟨1000, atk23⟩, rfl⟩, ?_⟩
  refine List.forall_mem_cons.2 ⟨⟨⟨1000, atk24⟩, rfl⟩, ?_⟩
  refine List.forall_mem_cons.2 ⟨⟨⟨1000, atk25⟩, rfl⟩, ?_⟩
  refine List.forall_mem_cons.2 ⟨⟨⟨1000, atk26⟩, rfl⟩, ?_⟩
  refine List.forall_mem_cons.2 ⟨⟨⟨1000, atk27⟩, rfl⟩, ?_⟩
  refine List.forall_mem_cons.2 ⟨⟨⟨1000, atk28⟩, rfl⟩, ?_⟩
  refine List.forall_mem_cons.2 ⟨⟨⟨1000, atk29⟩, rfl⟩, ?_⟩
  exact fun p hp => by cases hp
theorem E1_ok : E1.Ok := E1At0_ok.knowTab2 E_ok rfl rfl attab27 E1_base
end Go.Proofs.YthmmpfaghmoenaaDoor
