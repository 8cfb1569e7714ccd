/-
  Proved: a number alone changes what the chapter says of it
-/
import Derived.Test.YthmmpfaghmoenaaDoorPart13
import Derived.Test.YthmmpfaghmoenaaDoorRows
import Derived.Test.YthmmpfaghmoenaaDoorTie
import Derived.Test.YthmmpfaghmoenaaDoorCards
import Derived.LaidLaws
import Derived.Handed
import Derived.ChangeVars
namespace Go.Proofs.YthmmpfaghmoenaaDoor
open Go Go.Am Go.ChangeShapes Go.WideShapes Go.ChangeAt Go.RowKit

theorem ownK : ownKnob Tryd.prog.godebug = none := by kernel_rfl

mutual
def flatD : DataW Unit → List Value
  | .lit (.int k n) => [.int k n]
  | .lit (.bool b) => [.bool b]
  | .lit (.string s) => [.string ⟨⟨s⟩⟩]
  | .agg l => flatDs l
  | _ => []
def flatDs : List (DataW Unit) → List Value
  | [] => []
  | d :: r => flatD d ++ flatDs r
end

noncomputable def laidWorld (os : Os) : World :=
  let w0 := World.holding Tryd.prog os ⟨#[], #[.agg #[.int .u16 0, .int .u8 0, .int .u8 0, .int .u8 0, .int .u8 0, .int .u8 0, .int .u8 0, .int .u8 0], .int .u8 0], []⟩
  let w1 := { w0 with heap := w0.heap.modify 2 fun
      | .cells _ t frozen => .cells (flatD Rows.laid_math_bits_deBruijn32tab).toArray t frozen
      | o => o }
  let w2 := { w1 with heap := w1.heap.modify 3 fun
      | .cells _ t frozen => .cells (flatD Rows.laid_math_bits_deBruijn64tab).toArray t frozen
      | o => o }
  let w3 := { w2 with heap := w2.heap.modify 1 fun
      | .cells _ t frozen => .cells (flatD Rows.laid_internal_strconv_uint64pow10).toArray t frozen
      | o => o }
  w3
theorem laidWorld_met (os : Os) (args : Array Value) : laidMet Tryd.prog Rows.attrOneRow.laid ((laidWorld os).forCall (fun _ _ => 0) ⟨#[], args, []⟩).memory :=
  laidMet_of_run' 8 (by kernel_rfl) (by kernel_rfl)

theorem paramsOk : (Tryd.f4.params.toList.all fun t => Tryd.prog.readableRec t && decide (t < Tryd.prog.types.size) && !Tryd.prog.wantsStandIn t) = true := by kernel_rfl
theorem paramsOk_mem {t : TypeId} (ht : t ∈ Tryd.f4.params.toList) : Tryd.prog.readableRec t = true ∧ t < Tryd.prog.types.size ∧ Tryd.prog.wantsStandIn t = false := by
  have := List.all_eq_true.1 paramsOk t ht
  simp only [Bool.and_eq_true, decide_eq_true_eq, Bool.not_eq_true'] at this
  exact ⟨this.1.1, this.1.2, this.2⟩

set_option maxRecDepth 100000 in
theorem globs_of {W : World} (hl : laidMet Tryd.prog Rows.attrOneRow.laid W) : Globs EP W := by
  intro g cs hg
  have hg' : glob g = some cs := hg
  unfold glob at hg'
  split at hg'
  · cases hg'
    exact tab_globs hl (name := "internal/strconv.uint64pow10") (k := .u64) (zs := pow10s) (t := 138) (e := 131) (n := 20) (List.Mem.tail _ (List.Mem.tail _ (List.Mem.head _))) (by kernel_rfl) (by kernel_rfl) (by kernel_rfl) (by kernel_rfl) (by kernel_rfl) (by kernel_rfl)
  · cases hg'

set_option maxRecDepth 100000 in
theorem lifted (os : Os) (started : os.Started) (H : Type) (enc : TypeId × Value → H) :
    ReturnsInHanded {} Tryd.checked os 4 .any (fun w args => (Rows.attrOneSpec.pre enc Tryd.prog Tryd.f4 Rows.attrOneRow.domain false w args ∧ laidMet Tryd.prog Rows.attrOneRow.laid w) ∧ sizedMet enc Tryd.prog Tryd.f4 (OpenSpec.ofChange Rows.attrOneSpec) false w args) (Rows.attrOneSpec.post enc Tryd.prog Tryd.f4 false true false false) := by
  refine returnsInHanded_of_change_and (C := Tryd.checked) (X := fun w _ => laidMet Tryd.prog Rows.attrOneRow.laid w) (fun _ _ _ hh h => h.of_heap hh) ownK started (by kernel_rfl) Tryd.func4
    (ChangeSpec.witness_at (enc := enc) (C := Tryd.checked) (os := os) (X := fun w _ => laidMet Tryd.prog Rows.attrOneRow.laid w) false (laidWorld os) #[.agg #[.int .u16 0, .int .u8 0, .int .u8 0, .int .u8 0, .int .u8 0, .int .u8 0, .int .u8 0, .int .u8 0], .int .u8 0] 8 rfl (by kernel_rfl) (by kernel_rfl) (by kernel_rfl) (by kernel_rfl) (by kernel_rfl) (laidWorld_met os _)) ?_
  intro W base args ds gs before hval0 hW hcnd _ hX _
  have hval : ∀ (j : Nat) t v, Tryd.f4.params[j]? = some t → args[j]? = some v → Value.okWide Tryd.prog W .any base t v := hval0
  have hW' := hW
  obtain ⟨p, q, hA0, hV, rfl, hfz, hnd⟩ := hW
  have hA : DataW.TrodAll enc Tryd.prog W 0 (fun _ => true) true Tryd.f4.params.toList args.toList ds p := hA0
  have hlay : layAll Tryd.prog 12 Tryd.f4.params.toList = some tysOn := by kernel_rfl
  obtain ⟨rfl, rfl⟩ := trodVars_none hV
  simp only [List.append_nil] at hW'
  have hcall := law_flat (S := SOn) (S_ok c8_ok m2_ok) EP_ok (g := 4) (fun _ => rfl) rfl (globs_of hX) (tys := tysOn) hlay on_fn hA (b0 := base) (fun j t v ht hv => hval j t v (by first | (simp at ht; done) | simpa using ht) (by simpa using hv))
  rw [Array.toArray_toList] at hcall
  have hlen := trodAll_len hA
  rw [Tryd.params4] at hlen
  match ds, hlen with
  | [v0, v1], _ =>
    refine hcall.mono fun e W' ⟨he, hw⟩ => ?_
    subst he
    exact ⟨_, rfl, post_law (t := 4) hW' rfl rfl (by kernel_rfl) Tryd.underlying4 (by kernel_rfl) (fun t ht => ⟨(paramsOk_mem ht).1, (paramsOk_mem ht).2.1⟩) hw⟩

theorem row_holds : Rows.AttrOneSaid :=
  OpenClaim.holds_of_wide 4 Tryd.f4 rfl rfl rfl rfl rfl rfl rfl ⟨rfl, rfl, rfl, rfl, rfl⟩ rfl rfl rfl rfl rfl (by kernel_rfl) Tryd.func4 (by kernel_rfl)
    (of_decide_eq_true (by kernel_rfl)) (by unfold Func.isWrapper; first | (rw [if_pos (by decide +kernel)]; kernel_rfl) | (rw [if_neg (by decide +kernel)]; exact ⟨rfl, rfl⟩))
    (fun os started H enc _ => lifted os started H enc)
#print axioms row_holds

theorem card_holds : Rows.AttrOneCardSaid :=
  Claim7.holds_tied_plain_at .later [] [.data, .data, .data] true (true, "942d01ce0c46920e70fa0ffff631809571e453ea591278624c434f0bd6d993c8") false
    row_holds (fun _ h => by cases h) (by kernel_rfl) (fun _ h => by cases h) attrOne_row_tie rfl ⟨rfl, rfl⟩ (by kernel_rfl) rfl
    (fun f fn hf hfn => by
      obtain rfl : f = 4 := Option.some.inj ((show Tryd.prog.funcNamed "marquee/marqueelaw09.AttrOne" = some 4 by kernel_rfl).symm.trans hf) |>.symm
      obtain rfl : fn = Tryd.f4 := (Option.some.inj (Tryd.func4.symm.trans hfn)).symm
      exact ⟨by kernel_rfl, fun j t ht => (paramsOk_mem (Array.mem_toList_iff.2 (Array.mem_of_getElem? ht))).2.2⟩)
    (by kernel_rfl)
#print axioms card_holds
end Go.Proofs.YthmmpfaghmoenaaDoor
