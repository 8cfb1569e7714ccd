/-
  Proved: each single byte is encoded as two letters and two pads and decoded again; of letters of three bytes each letter stands for one number (a closed statement).
-/
import Derived.Test.YtfjbcoahjinehaaDoorPart11
import Derived.Test.YtfjbcoahjinehaaDoorRows
import Derived.Test.YtfjbcoahjinehaaDoorTie
import Derived.Test.YtfjbcoahjinehaaDoorCards
import Derived.LaidLaws
import Derived.Handed
import Derived.ChangeVars
namespace Go.Proofs.YtfjbcoahjinehaaDoor
open Go Go.Am Go.ChangeShapes Go.WideShapes Go.ChangeAt Go.RowKit

theorem ownK : ownKnob Tryd.prog.godebug = none := by kernel_rfl

mutual
def flatD : DataW Unit → List Value
  | .lit (.int k n) => [.int k n]
  | .lit (.bool b) => [.bool b]
  | .lit (.string s) => [.string ⟨⟨s⟩⟩]
  | .agg l => flatDs l
  | _ => []
def flatDs : List (DataW Unit) → List Value
  | [] => []
  | d :: r => flatD d ++ flatDs r
end

/-- A world in which the listed variables lie as they are said. -/
noncomputable def laidWorld (os : Os) : World :=
  let w0 := World.holding Tryd.prog os ⟨#[], #[], []⟩
  let w1 := { w0 with heap := w0.heap.modify 2 fun
      | .cells _ t frozen => .cells (flatD Rows.laid_unicode_utf8_acceptRanges).toArray t frozen
      | o => o }
  let w2 := { w1 with heap := w1.heap.modify 1 fun
      | .cells _ t frozen => .cells (flatD Rows.laid_unicode_utf8_first).toArray t frozen
      | o => o }
  w2
theorem laidWorld_met (os : Os) (args : Array Value) : laidMet Tryd.prog Rows.b64EveryRow.laid ((laidWorld os).forCall (fun _ _ => 0) ⟨#[], args, []⟩).memory :=
  laidMet_of_run' 8 (by kernel_rfl) (by kernel_rfl)

theorem paramsOk : (Tryd.f6.params.toList.all fun t => Tryd.prog.readableRec t && decide (t < Tryd.prog.types.size) && !Tryd.prog.wantsStandIn t) = true := by kernel_rfl
theorem paramsOk_mem {t : TypeId} (ht : t ∈ Tryd.f6.params.toList) : Tryd.prog.readableRec t = true ∧ t < Tryd.prog.types.size ∧ Tryd.prog.wantsStandIn t = false := by
  have := List.all_eq_true.1 paramsOk t ht
  simp only [Bool.and_eq_true, decide_eq_true_eq, Bool.not_eq_true'] at this
  exact ⟨this.1.1, this.1.2, this.2⟩

set_option maxRecDepth 100000 in
theorem lifted (os : Os) (started : os.Started) (H : Type) (enc : TypeId × Value → H) :
    ReturnsInHanded {} Tryd.checked os 6 .any (fun w args => (Rows.b64EverySpec.pre enc Tryd.prog Tryd.f6 Rows.b64EveryRow.domain false w args ∧ laidMet Tryd.prog Rows.b64EveryRow.laid w) ∧ sizedMet enc Tryd.prog Tryd.f6 (OpenSpec.ofChange Rows.b64EverySpec) false w args) (Rows.b64EverySpec.post enc Tryd.prog Tryd.f6 false true false false) := by
  refine returnsInHanded_of_change_and (C := Tryd.checked) (X := fun w _ => laidMet Tryd.prog Rows.b64EveryRow.laid w) (fun _ _ _ hh h => h.of_heap hh) ownK started (by kernel_rfl) Tryd.func6
    (ChangeSpec.witness_at (enc := enc) (C := Tryd.checked) (os := os) (X := fun w _ => laidMet Tryd.prog Rows.b64EveryRow.laid w) false (laidWorld os) #[] 8 rfl (by kernel_rfl) (by kernel_rfl) (by kernel_rfl) (by kernel_rfl) (by kernel_rfl) (laidWorld_met os _)) ?_
  intro W base args ds gs before hval0 hW hcnd _ hX _
  have hval : ∀ (j : Nat) t v, Tryd.f6.params[j]? = some t → args[j]? = some v → Value.okWide Tryd.prog W .any base t v := hval0
  have hW' := hW
  obtain ⟨p, q, hA0, hV, rfl, hfz, hnd⟩ := hW
  have hA : DataW.TrodAll enc Tryd.prog W 0 (fun _ => true) true Tryd.f6.params.toList args.toList ds p := hA0
  have hlay : layAll Tryd.prog 12 Tryd.f6.params.toList = some [] := by kernel_rfl
  obtain ⟨rfl, rfl⟩ := trodVars_none hV
  simp only [List.append_nil] at hW'
  have hcall := law_flat (S := SEv) (S_ok ctrs3_ok) E1_ok (g := 6) (fun _ => rfl) rfl (Globs.none (fun _ => rfl) W) (tys := []) hlay every_law hA (b0 := base) (fun j t v ht hv => hval j t v (by first | (simp at ht; done) | simpa using ht) (by simpa using hv))
  rw [Array.toArray_toList] at hcall
  have hlen := trodAll_len hA
  rw [Tryd.params6] at hlen
  match ds, hlen with
  | [], _ =>
    refine hcall.mono fun e W' ⟨he, hw⟩ => ?_
    subst he
    exact ⟨_, rfl, post_law (t := 4) hW' rfl rfl (by kernel_rfl) Tryd.underlying4 (by kernel_rfl) (fun t ht => ⟨(paramsOk_mem ht).1, (paramsOk_mem ht).2.1⟩) hw⟩

theorem row_holds : Rows.B64EverySaid :=
  OpenClaim.holds_of_wide 6 Tryd.f6 rfl rfl rfl rfl rfl rfl rfl ⟨rfl, rfl, rfl, rfl, rfl⟩ rfl rfl rfl rfl rfl (by kernel_rfl) Tryd.func6 (by kernel_rfl)
    (of_decide_eq_true (by kernel_rfl)) (by unfold Func.isWrapper; first | (rw [if_pos (by decide +kernel)]; kernel_rfl) | (rw [if_neg (by decide +kernel)]; exact ⟨rfl, rfl⟩))
    (fun os started H enc _ => lifted os started H enc)
#print axioms row_holds

theorem card_holds : Rows.B64EveryCardSaid :=
  Claim7.holds_tied_plain_at .later [] [.data, .pinned] true (true, "efdc5b29f9cf332612be3019c5d8b886234b0edd74efcb8661402364e1b88c4d") false
    row_holds (fun _ h => by cases h) (by kernel_rfl) (fun _ h => by cases h) b64Every_row_tie rfl ⟨rfl, rfl⟩ (by kernel_rfl) rfl
    (fun f fn hf hfn => by
      obtain rfl : f = 6 := Option.some.inj ((show Tryd.prog.funcNamed "marquee/marqueelaw17.B64Every" = some 6 by kernel_rfl).symm.trans hf) |>.symm
      obtain rfl : fn = Tryd.f6 := (Option.some.inj (Tryd.func6.symm.trans hfn)).symm
      exact ⟨by kernel_rfl, fun j t ht => (paramsOk_mem (Array.mem_toList_iff.2 (Array.mem_of_getElem? ht))).2.2⟩)
    (by kernel_rfl)
#print axioms card_holds
end Go.Proofs.YtfjbcoahjinehaaDoor
