/-
  Proved: whatever the memory, marquee law ColorKnown returns true and changes nothing that was there (no argument; no condition; the listed variables are tied to the program's text).
-/
import Derived.Test.YtdgadbhgcpfajaaDoorRows
import Derived.Test.YtdgadbhgcpfajaaDoorTie
import Derived.Test.YtdgadbhgcpfajaaDoorCards
import Derived.Test.YtdgadbhgcpfajaaDoorCoKnown
import Derived.LaidLaws
import Derived.Handed
import Derived.ChangeVars
namespace Go.Proofs.YtdgadbhgcpfajaaDoor
open Go Go.Am Go.ChangeShapes Go.WideShapes Go.ChangeAt Go.RowKit

theorem ownK : ownKnob Tryd.prog.godebug = none := by kernel_rfl

mutual
def flatD : DataW Unit → List Value
  | .lit (.int k n) => [.int k n]
  | .lit (.bool b) => [.bool b]
  | .lit (.string s) => [.string ⟨⟨s⟩⟩]
  | .agg l => flatDs l
  | _ => []
def flatDs : List (DataW Unit) → List Value
  | [] => []
  | d :: r => flatD d ++ flatDs r
end

/-- A world in which the listed variables lie as they are said. -/
noncomputable def laidWorld (os : Os) : World :=
  let w0 := World.holding Tryd.prog os ⟨#[], #[], []⟩
  let w1 := { w0 with heap := w0.heap.modify 3 fun
      | .cells _ t frozen => .cells (flatD Rows.laid_unicode_utf8_acceptRanges).toArray t frozen
      | o => o }
  let w2 := { w1 with heap := w1.heap.modify 2 fun
      | .cells _ t frozen => .cells (flatD Rows.laid_unicode_utf8_first).toArray t frozen
      | o => o }
  w2
theorem laidWorld_met (os : Os) (args : Array Value) : laidMet Tryd.prog Rows.colorKnownRow.laid ((laidWorld os).forCall (fun _ _ => 0) ⟨#[], args, []⟩).memory :=
  laidMet_of_run' 8 (by kernel_rfl) (by kernel_rfl)

set_option maxRecDepth 100000 in
theorem lifted (os : Os) (started : os.Started) (H : Type) (enc : TypeId × Value → H) :
    ReturnsInHanded {} Tryd.checked os 6 .any (fun w args => (Rows.colorKnownSpec.pre enc Tryd.prog Tryd.f6 Rows.colorKnownRow.domain false w args ∧ laidMet Tryd.prog Rows.colorKnownRow.laid w) ∧ sizedMet enc Tryd.prog Tryd.f6 (OpenSpec.ofChange Rows.colorKnownSpec) false w args) (Rows.colorKnownSpec.post enc Tryd.prog Tryd.f6 false true false false) := by
  refine returnsInHanded_of_change_and (C := Tryd.checked) (X := fun w _ => laidMet Tryd.prog Rows.colorKnownRow.laid w) (fun _ _ _ hh h => h.of_heap hh) ownK started (by kernel_rfl) Tryd.func6
    (ChangeSpec.witness_at (enc := enc) (C := Tryd.checked) (os := os) (X := fun w _ => laidMet Tryd.prog Rows.colorKnownRow.laid w) false (laidWorld os) #[] 8 rfl (by kernel_rfl) (by kernel_rfl) (by kernel_rfl) (by kernel_rfl) (by kernel_rfl) (laidWorld_met os _)) ?_
  intro W base args ds gs before hval0 hW hcnd _ _ _
  have hW' := hW
  obtain ⟨p, q, hA0, hV, rfl, hfz, hnd⟩ := hW
  have hA : DataW.TrodAll enc Tryd.prog W 0 (fun _ => true) true Tryd.f6.params.toList args.toList ds p := hA0
  rw [Tryd.params6] at hA
  obtain ⟨rfl, rfl, rfl⟩ := trodAll_none hA
  obtain ⟨rfl, rfl⟩ := trodVars_none hV
  clear hA0 hval0
  simp only [List.append_nil] at hW'
  refine (eval_law known_eval E1_ok (fun _ => rfl) rfl (by intro v h; cases h) W).mono fun e W' ⟨he, hw⟩ => ?_
  subst he
  exact ⟨_, rfl, post_law (t := 4) hW' rfl rfl (by kernel_rfl) Tryd.underlying4 (by kernel_rfl) (by rw [Tryd.params6]; simp) hw⟩

theorem row_holds : Rows.ColorKnownSaid :=
  OpenClaim.holds_of_wide 6 Tryd.f6 rfl rfl rfl rfl rfl rfl rfl ⟨rfl, rfl, rfl, rfl, rfl⟩ rfl rfl rfl rfl rfl (by kernel_rfl) Tryd.func6 (by kernel_rfl)
    (of_decide_eq_true (by kernel_rfl)) (by unfold Func.isWrapper; first | (rw [if_pos (by decide +kernel)]; kernel_rfl) | (rw [if_neg (by decide +kernel)]; exact ⟨rfl, rfl⟩))
    (fun os started H enc _ => lifted os started H enc)
#print axioms row_holds

theorem card_holds : Rows.ColorKnownCardSaid :=
  Claim7.holds_tied_plain_at .later [] [.data, .pinned] true (true, "bb0e87fd15fad01ce341150b43cb72c3d48df1ca549112691c3650f2f99a8fdb") false
    row_holds (fun _ h => by cases h) (by kernel_rfl) (fun _ h => by cases h) colorKnown_row_tie rfl ⟨rfl, rfl⟩ (by kernel_rfl) rfl
    (fun f fn hf hfn => by
      obtain rfl : f = 6 := Option.some.inj ((show Tryd.prog.funcNamed "marquee/marqueelaw02.ColorKnown" = some 6 by kernel_rfl).symm.trans hf) |>.symm
      obtain rfl : fn = Tryd.f6 := (Option.some.inj (Tryd.func6.symm.trans hfn)).symm
      exact ⟨by kernel_rfl, fun j t ht => by
        rw [Tryd.params6] at ht
        simp at ht⟩)
    (by kernel_rfl)
#print axioms card_holds
end Go.Proofs.YtdgadbhgcpfajaaDoor
