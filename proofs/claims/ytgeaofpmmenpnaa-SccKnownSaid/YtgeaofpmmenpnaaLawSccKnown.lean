/- The statement 'SccKnown' holds: the law that takes nothing returns true, from whatever world, and leaves what was there as it was. No conditions. It is shown by running the law on the small machine, which is proved to come to what the model's machine comes to. -/
import Derived.Test.YtgeaofpmmenpnaaRows
import Derived.Test.YtgeaofpmmenpnaaChecked
import Derived.Test.YtgeaofpmmenpnaaAmEnd
import Derived.WalkKit
import Derived.ProofKit
import Derived.OpenShut
import Derived.ShutString
import Derived.ChangeOld
import Derived.Below
import Derived.SizedLaws
import Derived.KernelRfl
namespace Go.Proofs.Ytgeaofpmmenpnaa.sccKnown
open Go.ChangeShapes Go.WideShapes Go.ChangeAt Go.RowKit
open Go.ChangeMaps (open_string shut_string)
set_option linter.unusedVariables false
theorem own : ownKnob Try.prog.godebug = none := by kernel_rfl
theorem mixed : Try.prog.follows .mixedOrders = true := by kernel_rfl
theorem counted : Am.noCount Try.prog = true := by kernel_rfl
set_option maxRecDepth 100000 in
theorem ran : Am.isTrue (Am.run (Am.tabOf Try.prog fun _ => none) 3000 3 [] Am.Heap.empty) = true := by kernel_rfl
theorem walk (w : World) : Calls Try.prog 3 #[] w fun e w' => e = .returned (.bool true) ∧ Below w.heap.size w w' := Am.known_walk mixed counted ran w
set_option maxRecDepth 100000 in
theorem lifted (os : Os) (started : os.Started) (H : Type) (enc : TypeId × Value → H) :
    ReturnsInHanded {} Try.checked os 3 .any (Rows.sccKnownSpec.pre6 enc Try.prog Try.f3 Rows.sccKnownRow.domain false) (Rows.sccKnownSpec.post enc Try.prog Try.f3 false true false false) := by
  refine returnsInHanded_of_change_sized (C := Try.checked) own started (by kernel_rfl) Try.func3
    (ChangeSpec.witness6 (enc := enc) (C := Try.checked) false ⟨#[], #[], []⟩ 8 (by kernel_rfl) (by kernel_rfl) (by kernel_rfl) (by kernel_rfl)) ?_
  intro W base args ds gs before hval0 hW hcnd hsz0 _
  have hW' := hW
  obtain ⟨p, q, hA0, hV, rfl, hfz, hnd⟩ := hW
  have hA : DataW.TrodAll enc Try.prog W 0 (fun _ => true) true Try.f3.params.toList args.toList ds p := hA0
  rw [Try.params3] at hA
  obtain ⟨rfl, rfl, rfl⟩ := trodAll_none hA
  obtain ⟨rfl, rfl⟩ := trodVars_none hV
  clear hA0 hval0 hsz0
  refine (walk W).mono fun e W' ⟨he, bel⟩ => ?_
  subst he
  exact ⟨_, rfl, _, _, _, [], _, [], hW', trodAll_mk1 (shut_bool Try.underlying4 _), trodAll_mk0, rfl, bel.frame _, fun h => by cases h⟩
theorem over : Rows.sccKnownRow.holds Try.pinned (OpenSpec.ofChange Rows.sccKnownSpec) :=
  OpenClaim.holds_of_wide 3 Try.f3 rfl rfl rfl rfl rfl rfl rfl ⟨rfl, rfl, rfl, rfl, rfl⟩ rfl rfl rfl rfl rfl (by kernel_rfl) Try.func3 (by kernel_rfl)
    (of_decide_eq_true (by kernel_rfl)) (by unfold Func.isWrapper; first | (rw [if_pos (by decide +kernel)]; kernel_rfl) | (rw [if_neg (by decide +kernel)]; exact ⟨rfl, rfl⟩))
    (fun os started H enc _ => lifted os started H enc)
theorem proved : Rows.SccKnownSaid := over
#print axioms proved
end Go.Proofs.Ytgeaofpmmenpnaa.sccKnown
namespace Go.Proofs.Ytgeaofpmmenpnaa
/-- The row, under a short name, for the claim. -/
theorem sccKnown_holds : Rows.SccKnownSaid := sccKnown.proved
end Go.Proofs.Ytgeaofpmmenpnaa
