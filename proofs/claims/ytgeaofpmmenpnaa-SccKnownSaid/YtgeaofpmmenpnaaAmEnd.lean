import Derived.Test.YtgeaofpmmenpnaaAmTab
set_option linter.unusedSimpArgs false
set_option linter.unusedVariables false
/- What the small machine says of a law that takes nothing. -/
namespace Go.Am
open Go

variable {P : Program}

def isTrue : CR → Bool
  | .returned (.bool true) _ => true
  | _ => false

theorem isTrue_eq {r : CR} (h : isTrue r = true) : ∃ H, r = .returned (.bool true) H := by
  unfold isTrue at h
  split at h
  · exact ⟨_, rfl⟩
  · cases h

theorem empty_get (l : Nat) : Heap.empty.get l = none := leaf_get 0 l
theorem sim_none (w : World) : Sim (fun _ => none) Heap.empty w :=
  ⟨fun l o e => by (rw [empty_get] at e; cases e), fun l l' o o' b x y b' x' y' e => by (rw [empty_get] at e; cases e), fun l x e => by cases e⟩

theorem known_walk (hmix : P.follows .mixedOrders = true) (hn : noCount P = true) {n : Nat} {f : FuncId} (h : isTrue (run (tabOf P fun _ => none) n f [] Heap.empty) = true) (w : World) :
    Calls P f #[] w fun e w' => e = .returned (.bool true) ∧ RowKit.Below w.heap.size w w' := by
  obtain ⟨H', hr⟩ := isTrue_eq h
  have hT : TabOk P (tabOf P fun _ => none) := tabOf_ok hn _
  have hP : PrimOk P (tabOf P fun _ => none) := fun f g hg => by cases hg
  have := run_ok (w := w) hmix hT hP (n := n) (f := f) (as := []) (H := Heap.empty) (by rw [hr]; simp) (μ := fun _ => none) (us := []) (sim_none w) .nil
  refine this.mono fun e w' hc => ?_
  rw [hr] at hc
  cases e with
  | panicked ch => exact hc.elim
  | outgrown => exact hc.elim
  | returned u =>
    obtain ⟨μ', hv, hp⟩ := hc
    cases hv
    refine ⟨rfl, hp.os, hp.tape, hp.output, hp.size, fun b hb => hp.kept b hb ?_⟩
    rintro ⟨l, o, x, y, e, _⟩
    rw [empty_get] at e; cases e
end Go.Am
