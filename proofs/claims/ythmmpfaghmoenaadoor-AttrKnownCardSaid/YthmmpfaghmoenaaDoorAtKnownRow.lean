/-
  Proved: whatever the memory, marquee law AttrKnown returns true and changes nothing that was there (no argument; no condition; the listed variables are tied to the program's text).
-/
import Derived.Test.YthmmpfaghmoenaaDoorRows
import Derived.Test.YthmmpfaghmoenaaDoorTie
import Derived.Test.YthmmpfaghmoenaaDoorCards
import Derived.Test.YthmmpfaghmoenaaDoorAtKnown
import Derived.LaidLaws
import Derived.Handed
import Derived.ChangeVars
namespace Go.Proofs.YthmmpfaghmoenaaDoor
open Go Go.Am Go.ChangeShapes Go.WideShapes Go.ChangeAt Go.RowKit

theorem ownK : ownKnob Tryd.prog.godebug = none := by kernel_rfl

mutual
def flatD : DataW Unit → List Value
  | .lit (.int k n) => [.int k n]
  | .lit (.bool b) => [.bool b]
  | .lit (.string s) => [.string ⟨⟨s⟩⟩]
  | .agg l => flatDs l
  | _ => []
def flatDs : List (DataW Unit) → List Value
  | [] => []
  | d :: r => flatD d ++ flatDs r
end

/-- A world in which the listed variables lie as they are said. -/
noncomputable def laidWorld (os : Os) : World :=
  let w0 := World.holding Tryd.prog os ⟨#[], #[], []⟩
  let w1 := { w0 with heap := w0.heap.modify 2 fun
      | .cells _ t frozen => .cells (flatD Rows.laid_math_bits_deBruijn32tab).toArray t frozen
      | o => o }
  let w2 := { w1 with heap := w1.heap.modify 3 fun
      | .cells _ t frozen => .cells (flatD Rows.laid_math_bits_deBruijn64tab).toArray t frozen
      | o => o }
  let w3 := { w2 with heap := w2.heap.modify 1 fun
      | .cells _ t frozen => .cells (flatD Rows.laid_internal_strconv_uint64pow10).toArray t frozen
      | o => o }
  w3
theorem laidWorld_met (os : Os) (args : Array Value) : laidMet Tryd.prog Rows.attrKnownRow.laid ((laidWorld os).forCall (fun _ _ => 0) ⟨#[], args, []⟩).memory :=
  laidMet_of_run' 8 (by kernel_rfl) (by kernel_rfl)

set_option maxRecDepth 100000 in
theorem globs_of {W : World} (hl : laidMet Tryd.prog Rows.attrKnownRow.laid W) : Globs E2 W := by
  intro g cs hg
  have hg' : glob g = some cs := hg
  unfold glob at hg'
  split at hg'
  · cases hg'
    exact tab_globs hl (name := "internal/strconv.uint64pow10") (k := .u64) (zs := pow10s) (t := 138) (e := 131) (n := 20) (List.Mem.tail _ (List.Mem.tail _ (List.Mem.head _))) (by kernel_rfl) (by kernel_rfl) (by kernel_rfl) (by kernel_rfl) (by kernel_rfl) (by kernel_rfl)
  · cases hg'

set_option maxRecDepth 100000 in
theorem lifted (os : Os) (started : os.Started) (H : Type) (enc : TypeId × Value → H) :
    ReturnsInHanded {} Tryd.checked os 9 .any (fun w args => (Rows.attrKnownSpec.pre enc Tryd.prog Tryd.f9 Rows.attrKnownRow.domain false w args ∧ laidMet Tryd.prog Rows.attrKnownRow.laid w) ∧ sizedMet enc Tryd.prog Tryd.f9 (OpenSpec.ofChange Rows.attrKnownSpec) false w args) (Rows.attrKnownSpec.post enc Tryd.prog Tryd.f9 false true false false) := by
  refine returnsInHanded_of_change_and (C := Tryd.checked) (X := fun w _ => laidMet Tryd.prog Rows.attrKnownRow.laid w) (fun _ _ _ hh h => h.of_heap hh) ownK started (by kernel_rfl) Tryd.func9
    (ChangeSpec.witness_at (enc := enc) (C := Tryd.checked) (os := os) (X := fun w _ => laidMet Tryd.prog Rows.attrKnownRow.laid w) false (laidWorld os) #[] 8 rfl (by kernel_rfl) (by kernel_rfl) (by kernel_rfl) (by kernel_rfl) (by kernel_rfl) (laidWorld_met os _)) ?_
  intro W base args ds gs before hval0 hW hcnd _ hX _
  have hW' := hW
  obtain ⟨p, q, hA0, hV, rfl, hfz, hnd⟩ := hW
  have hA : DataW.TrodAll enc Tryd.prog W 0 (fun _ => true) true Tryd.f9.params.toList args.toList ds p := hA0
  rw [Tryd.params9] at hA
  obtain ⟨rfl, rfl, rfl⟩ := trodAll_none hA
  obtain ⟨rfl, rfl⟩ := trodVars_none hV
  clear hA0 hval0
  simp only [List.append_nil] at hW'
  refine (eval_lawG known_eval E2_ok (globs_of hX) rfl (by intro v h; cases h)).mono fun e W' ⟨he, hw⟩ => ?_
  subst he
  exact ⟨_, rfl, post_law (t := 4) hW' rfl rfl (by kernel_rfl) Tryd.underlying4 (by kernel_rfl) (by rw [Tryd.params9]; simp) hw⟩

theorem row_holds : Rows.AttrKnownSaid :=
  OpenClaim.holds_of_wide 9 Tryd.f9 rfl rfl rfl rfl rfl rfl rfl ⟨rfl, rfl, rfl, rfl, rfl⟩ rfl rfl rfl rfl rfl (by kernel_rfl) Tryd.func9 (by kernel_rfl)
    (of_decide_eq_true (by kernel_rfl)) (by unfold Func.isWrapper; first | (rw [if_pos (by decide +kernel)]; kernel_rfl) | (rw [if_neg (by decide +kernel)]; exact ⟨rfl, rfl⟩))
    (fun os started H enc _ => lifted os started H enc)
#print axioms row_holds

theorem card_holds : Rows.AttrKnownCardSaid :=
  Claim7.holds_tied_plain_at .later [] [.data, .data, .data] true (true, "942d01ce0c46920e70fa0ffff631809571e453ea591278624c434f0bd6d993c8") false
    row_holds (fun _ h => by cases h) (by kernel_rfl) (fun _ h => by cases h) attrKnown_row_tie rfl ⟨rfl, rfl⟩ (by kernel_rfl) rfl
    (fun f fn hf hfn => by
      obtain rfl : f = 9 := Option.some.inj ((show Tryd.prog.funcNamed "marquee/marqueelaw09.AttrKnown" = some 9 by kernel_rfl).symm.trans hf) |>.symm
      obtain rfl : fn = Tryd.f9 := (Option.some.inj (Tryd.func9.symm.trans hfn)).symm
      exact ⟨by kernel_rfl, fun j t ht => by
        rw [Tryd.params9] at ht
        simp at ht⟩)
    (by kernel_rfl)
#print axioms card_holds
end Go.Proofs.YthmmpfaghmoenaaDoor
