/-
  Proved: Proved: whatever bytes and numbers it is given, marqueelaw06.ParamBack returns true, and they read as they did (no condition; the listed variables are tied to the program's text).
-/
import Derived.Test.YtbbkdhlfgekagaaDoorPart18
import Derived.Test.YtbbkdhlfgekagaaDoorRows
import Derived.Test.YtbbkdhlfgekagaaDoorTie
import Derived.Test.YtbbkdhlfgekagaaDoorCards
import Derived.LaidLaws
import Derived.Handed
import Derived.ChangeVars
namespace Go.Proofs.YtbbkdhlfgekagaaDoor
open Go Go.Am Go.ChangeShapes Go.WideShapes Go.ChangeAt Go.RowKit

theorem ownK : ownKnob Tryd.prog.godebug = none := by kernel_rfl

mutual
def flatD : DataW Unit → List Value
  | .lit (.int k n) => [.int k n]
  | .lit (.bool b) => [.bool b]
  | .lit (.string s) => [.string ⟨⟨s⟩⟩]
  | .agg l => flatDs l
  | _ => []
def flatDs : List (DataW Unit) → List Value
  | [] => []
  | d :: r => flatD d ++ flatDs r
end

noncomputable def laidWorld (os : Os) : World :=
  let w0 := World.holding Tryd.prog os ⟨#[], #[.slice none 0 0, .slice none 0 0], []⟩
  let w1 := { w0 with heap := w0.heap.modify 4 fun
      | .cells _ t frozen => .cells (flatD Rows.laid_math_bits_deBruijn32tab).toArray t frozen
      | o => o }
  let w2 := { w1 with heap := w1.heap.modify 5 fun
      | .cells _ t frozen => .cells (flatD Rows.laid_math_bits_deBruijn64tab).toArray t frozen
      | o => o }
  let w3 := { w2 with heap := w2.heap.modify 3 fun
      | .cells _ t frozen => .cells (flatD Rows.laid_internal_strconv_uint64pow10).toArray t frozen
      | o => o }
  let w4 := { w3 with heap := w3.heap.modify 2 fun
      | .cells _ t frozen => .cells (flatD Rows.laid_unicode_utf8_acceptRanges).toArray t frozen
      | o => o }
  let w5 := { w4 with heap := w4.heap.modify 1 fun
      | .cells _ t frozen => .cells (flatD Rows.laid_unicode_utf8_first).toArray t frozen
      | o => o }
  w5
theorem laidWorld_met (os : Os) (args : Array Value) : laidMet Tryd.prog Rows.paramBackRow.laid ((laidWorld os).forCall (fun _ _ => 0) ⟨#[], args, []⟩).memory :=
  laidMet_of_run' 8 (by kernel_rfl) (by kernel_rfl)

theorem paramsOk : (Tryd.f3.params.toList.all fun t => Tryd.prog.readableRec t && decide (t < Tryd.prog.types.size) && !Tryd.prog.wantsStandIn t) = true := by kernel_rfl
theorem paramsOk_mem {t : TypeId} (ht : t ∈ Tryd.f3.params.toList) : Tryd.prog.readableRec t = true ∧ t < Tryd.prog.types.size ∧ Tryd.prog.wantsStandIn t = false := by
  have := List.all_eq_true.1 paramsOk t ht
  simp only [Bool.and_eq_true, decide_eq_true_eq, Bool.not_eq_true'] at this
  exact ⟨this.1.1, this.1.2, this.2⟩

theorem globs_of {W : World} (hl : laidMet Tryd.prog Rows.paramBackRow.laid W) : Globs EP W := globs_all hl

set_option maxRecDepth 100000 in
theorem lifted (os : Os) (started : os.Started) (H : Type) (enc : TypeId × Value → H) :
    ReturnsInHanded {} Tryd.checked os 3 .any (fun w args => (Rows.paramBackSpec.pre enc Tryd.prog Tryd.f3 Rows.paramBackRow.domain false w args ∧ laidMet Tryd.prog Rows.paramBackRow.laid w) ∧ sizedMet enc Tryd.prog Tryd.f3 (OpenSpec.ofChange Rows.paramBackSpec) false w args) (Rows.paramBackSpec.post enc Tryd.prog Tryd.f3 false true false false) := by
  refine returnsInHanded_of_change_and (C := Tryd.checked) (X := fun w _ => laidMet Tryd.prog Rows.paramBackRow.laid w) (fun _ _ _ hh h => h.of_heap hh) ownK started (by kernel_rfl) Tryd.func3
    (ChangeSpec.witness_at (enc := enc) (C := Tryd.checked) (os := os) (X := fun w _ => laidMet Tryd.prog Rows.paramBackRow.laid w) false (laidWorld os) #[.slice none 0 0, .slice none 0 0] 8 rfl (by kernel_rfl) (by kernel_rfl) (by kernel_rfl) (by kernel_rfl) (by kernel_rfl) (laidWorld_met os _)) ?_
  intro W base args ds gs before hval0 hW hcnd _ hX _
  have hval : ∀ (j : Nat) t v, Tryd.f3.params[j]? = some t → args[j]? = some v → Value.okWide Tryd.prog W .any base t v := hval0
  have hW' := hW
  obtain ⟨p, q, hA0, hV, rfl, hfz, hnd⟩ := hW
  have hA : DataW.TrodAll enc Tryd.prog W 0 (fun _ => true) true Tryd.f3.params.toList args.toList ds p := hA0
  have hlay : layNAll Tryd.prog 12 Tryd.f3.params.toList = some tysBU := by kernel_rfl
  obtain ⟨rfl, rfl⟩ := trodVars_none hV
  simp only [List.append_nil] at hW'
  have hcall := law_lists (S := SPB) (S_ok c3_ok m3_ok) EP_ok (g := 3) (fun _ => rfl) rfl (globs_of hX) (tys := tysBU) hlay back_law hA (b0 := base) (fun j t v ht hv => hval j t v (by first | (simp at ht; done) | simpa using ht) (by simpa using hv))
  rw [Array.toArray_toList] at hcall
  have hlen := trodAll_len hA
  rw [Tryd.params3] at hlen
  match ds, hlen with
  | [v0, v1], _ =>
    refine hcall.mono fun e W' ⟨he, hw⟩ => ?_
    subst he
    exact ⟨_, rfl, post_law (t := 4) hW' rfl rfl (by kernel_rfl) Tryd.underlying4 (by kernel_rfl) (fun t ht => ⟨(paramsOk_mem ht).1, (paramsOk_mem ht).2.1⟩) hw⟩

theorem row_holds : Rows.ParamBackSaid :=
  OpenClaim.holds_of_wide 3 Tryd.f3 rfl rfl rfl rfl rfl rfl rfl ⟨rfl, rfl, rfl, rfl, rfl⟩ rfl rfl rfl rfl rfl (by kernel_rfl) Tryd.func3 (by kernel_rfl)
    (of_decide_eq_true (by kernel_rfl)) (by unfold Func.isWrapper; first | (rw [if_pos (by decide +kernel)]; kernel_rfl) | (rw [if_neg (by decide +kernel)]; exact ⟨rfl, rfl⟩))
    (fun os started H enc _ => lifted os started H enc)
#print axioms row_holds

theorem card_holds : Rows.ParamBackCardSaid :=
  Claim7.holds_tied_plain_at .later [] [.data, .data, .data, .data, .pinned] true (true, "b7e35089685f6c2c58ab0f23005405d01a651fc72fb2174190a85461f25812ef") false
    row_holds (fun _ h => by cases h) (by kernel_rfl) (fun _ h => by cases h) paramBack_row_tie rfl ⟨rfl, rfl⟩ (by kernel_rfl) rfl
    (fun f fn hf hfn => by
      obtain rfl : f = 3 := Option.some.inj ((show Tryd.prog.funcNamed "marquee/marqueelaw06.ParamBack" = some 3 by kernel_rfl).symm.trans hf) |>.symm
      obtain rfl : fn = Tryd.f3 := (Option.some.inj (Tryd.func3.symm.trans hfn)).symm
      exact ⟨by kernel_rfl, fun j t ht => (paramsOk_mem (Array.mem_toList_iff.2 (Array.mem_of_getElem? ht))).2.2⟩)
    (by kernel_rfl)
#print axioms card_holds
end Go.Proofs.YtbbkdhlfgekagaaDoor
