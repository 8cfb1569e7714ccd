/-
 Proved: however bytes are cut into texts, the same tokens come of them, by one parser, and by copies of it that go on; of all pieces (sixty at most), and cuts
-/
import Derived.Test.YtfdhkpfkdcdloaaPart17
import Derived.Test.YtfdhkpfkdcdloaaRows
import Derived.LaidLaws
import Derived.Handed
import Derived.ChangeVars

namespace Go.Proofs.Ytfdhkpfkdcdloaa
open Go Go.Am Go.ChangeShapes Go.WideShapes Go.ChangeAt Go.RowKit

theorem ownK : ownKnob Try.prog.godebug = none := by kernel_rfl

theorem paramsOk : (Try.f5.params.toList.all fun t => Try.prog.readableRec t && decide (t < Try.prog.types.size) && !false) = true := by kernel_rfl
theorem paramsOk_mem {t : TypeId} (ht : t ∈ Try.f5.params.toList) : Try.prog.readableRec t = true ∧ t < Try.prog.types.size ∧ True := by
 have := List.all_eq_true.1 paramsOk t ht
 simp only [Bool.and_eq_true, decide_eq_true_eq, Bool.not_eq_true'] at this
 exact ⟨this.1.1, this.1.2, this.2⟩

set_option maxRecDepth 100000 in
theorem lifted (os : Os) (started : os.Started) (H : Type) (enc : TypeId × Value → H) :
 ReturnsInHanded {} Try.checked os 5 .any (Rows.parseCutsSpec.pre6 enc Try.prog Try.f5 Rows.parseCutsRow.domain false) (Rows.parseCutsSpec.post enc Try.prog Try.f5 false true false false) := by
 refine returnsInHanded_of_change (C := Try.checked) ownK started (by kernel_rfl) Try.func5
  (ChangeSpec.witness6 (enc := enc) (C := Try.checked) false ⟨#[], #[.slice none 0 0, .slice none 0 0], []⟩ 8 (by kernel_rfl) (by kernel_rfl) (by kernel_rfl) (by kernel_rfl)) ?_
 intro W base args ds gs before hval0 hW hcnd _
 have hval : ∀ (j : Nat) t v, Try.f5.params[j]? = some t → args[j]? = some v → Value.okWide Try.prog W .any base t v := hval0
 have hW' := hW
 obtain ⟨p, q, hA0, hV, rfl, hfz, hnd⟩ := hW
 have hA : DataW.TrodAll enc Try.prog W 0 (fun _ => true) true Try.f5.params.toList args.toList ds p := hA0
 have hlay : layNAll Try.prog 12 Try.f5.params.toList = some tysPC := by kernel_rfl
 obtain ⟨rfl, rfl⟩ := trodVars_none hV
 simp only [List.append_nil] at hW'
 have hcall := law_lists (S := SPC) (S_ok c9_ok m18_ok) EP_ok (g := 5) (fun _ => rfl) rfl (Globs.none (fun _ => rfl) W) (tys := tysPC) hlay cuts_law hA (b0 := base) (fun j t v ht hv => hval j t v (by first | (simp at ht; done) | simpa using ht) (by simpa using hv))
 rw [Array.toArray_toList] at hcall
 have hlen := trodAll_len hA
 rw [Try.params5] at hlen
 match ds, hlen with
 | [v0, v1], _ =>
  refine hcall.mono fun e W' ⟨he, hw⟩ => ?_
  subst he
  exact ⟨_, rfl, post_law (t := 4) hW' rfl rfl (by kernel_rfl) Try.underlying4 (by kernel_rfl) (fun t ht => ⟨(paramsOk_mem ht).1, (paramsOk_mem ht).2.1⟩) hw⟩

theorem row_holds : Rows.ParseCutsSaid :=
 OpenClaim.holds_of_wide 5 Try.f5 rfl rfl rfl rfl rfl rfl rfl ⟨rfl, rfl, rfl, rfl, rfl⟩ rfl rfl rfl rfl rfl (by kernel_rfl) Try.func5 (by kernel_rfl)
  (of_decide_eq_true (by kernel_rfl)) (by unfold Func.isWrapper; first | (rw [if_pos (by decide +kernel)]; kernel_rfl) | (rw [if_neg (by decide +kernel)]; exact ⟨rfl, rfl⟩))
  (fun os started H enc _ => lifted os started H enc)
#print axioms row_holds
end Go.Proofs.Ytfdhkpfkdcdloaa
