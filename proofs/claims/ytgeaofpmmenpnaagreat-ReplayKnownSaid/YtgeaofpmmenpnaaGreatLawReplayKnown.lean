/- The statement 'ReplayKnown' holds: the law that takes nothing returns true, from whatever world, and leaves what was there as it was. No conditions. It is shown by running the law on the small machine, which is proved to come to what the model's machine comes to. -/
import Derived.Test.YtgeaofpmmenpnaaGreatRows
import Derived.Test.YtgeaofpmmenpnaaGreatChecked
import Derived.Test.YtgeaofpmmenpnaaGreatAmEnd
import Derived.WalkKit
import Derived.ProofKit
import Derived.OpenShut
import Derived.ShutString
import Derived.ChangeOld
import Derived.Below
import Derived.SizedLaws
import Derived.KernelRfl
import Derived.Test.YtgeaofpmmenpnaaGreatLawReplayKnownC9
namespace Go.Proofs.YtgeaofpmmenpnaaGreat.replayKnown
open Go.ChangeShapes Go.WideShapes Go.ChangeAt Go.RowKit
open Go.ChangeMaps (open_string shut_string)
set_option linter.unusedVariables false
theorem own : ownKnob Tryz.prog.godebug = none := by kernel_rfl
theorem mixed : Tryz.prog.follows .mixedOrders = true := by kernel_rfl
theorem counted : Am.noCount Tryz.prog = true := by kernel_rfl
def prim : FuncId → Option (List Am.V → Am.Heap → Option (Am.V × Am.Heap)) := fun f => cond (Nat.beq f 9) (some Am.closedTrue) (none)
theorem prims : Am.PrimOk Tryz.prog (Am.tabOf Tryz.prog prim) := by
  intro f g hg xs H v H' e μ w us h hr
  simp only [Am.tabOf, prim] at hg
  rw [Am.cond_beq] at hg
  split at hg
  · rename_i hf; subst hf; cases hg; exact Am.closed_prim counted Tryz.func9 rfl walk9 e h hr
  cases hg
set_option maxRecDepth 100000 in
theorem ran : Am.isTrue (Am.runF (Am.tabOf Tryz.prog prim) 3000 3 [] Am.Heap.empty) = true := by kernel_rfl
theorem walk (w : World) : Calls Tryz.prog 3 #[] w fun e w' => e = .returned (.bool true) ∧ Below w.heap.size w w' := Am.known_walk mixed counted prims rfl ran w
set_option maxRecDepth 100000 in
theorem lifted (os : Os) (started : os.Started) (H : Type) (enc : TypeId × Value → H) :
    ReturnsInHanded {} Tryz.checked os 3 .any (Rows.replayKnownSpec.pre6 enc Tryz.prog Tryz.f3 Rows.replayKnownRow.domain false) (Rows.replayKnownSpec.post enc Tryz.prog Tryz.f3 false true false false) := by
  refine returnsInHanded_of_change_sized (C := Tryz.checked) own started (by kernel_rfl) Tryz.func3
    (ChangeSpec.witness6 (enc := enc) (C := Tryz.checked) false ⟨#[], #[], []⟩ 8 (by kernel_rfl) (by kernel_rfl) (by kernel_rfl) (by kernel_rfl)) ?_
  intro W base args ds gs before hval0 hW hcnd hsz0 _
  have hW' := hW
  obtain ⟨p, q, hA0, hV, rfl, hfz, hnd⟩ := hW
  have hA : DataW.TrodAll enc Tryz.prog W 0 (fun _ => true) true Tryz.f3.params.toList args.toList ds p := hA0
  rw [Tryz.params3] at hA
  obtain ⟨rfl, rfl, rfl⟩ := trodAll_none hA
  obtain ⟨rfl, rfl⟩ := trodVars_none hV
  clear hA0 hval0 hsz0
  refine (walk W).mono fun e W' ⟨he, bel⟩ => ?_
  subst he
  exact ⟨_, rfl, _, _, _, [], _, [], hW', trodAll_mk1 (shut_bool Tryz.underlying4 _), trodAll_mk0, rfl, bel.frame _, fun h => by cases h⟩
theorem over : Rows.replayKnownRow.holds Tryz.pinned (OpenSpec.ofChange Rows.replayKnownSpec) :=
  OpenClaim.holds_of_wide 3 Tryz.f3 rfl rfl rfl rfl rfl rfl rfl ⟨rfl, rfl, rfl, rfl, rfl⟩ rfl rfl rfl rfl rfl (by kernel_rfl) Tryz.func3 (by kernel_rfl)
    (of_decide_eq_true (by kernel_rfl)) (by unfold Func.isWrapper; first | (rw [if_pos (by decide +kernel)]; kernel_rfl) | (rw [if_neg (by decide +kernel)]; exact ⟨rfl, rfl⟩))
    (fun os started H enc _ => lifted os started H enc)
theorem proved : Rows.ReplayKnownSaid := over
#print axioms proved
end Go.Proofs.YtgeaofpmmenpnaaGreat.replayKnown
namespace Go.Proofs.YtgeaofpmmenpnaaGreat
/-- The row, under a short name, for the claim. -/
theorem replayKnown_holds : Rows.ReplayKnownSaid := replayKnown.proved
end Go.Proofs.YtgeaofpmmenpnaaGreat
