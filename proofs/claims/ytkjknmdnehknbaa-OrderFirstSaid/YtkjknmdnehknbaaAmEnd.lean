import Derived.Test.YtkjknmdnehknbaaAmTab
import Derived.Test.YtkjknmdnehknbaaAmFast
set_option linter.unusedSimpArgs false
set_option linter.unusedVariables false
/- What the small machine says of a law that takes nothing. -/
namespace Go.Am
open Go

variable {P : Program} {T : Tab} {μ : Mu} {H : Heap} {w w' : World}

def isTrue : CR → Bool
  | .returned (.bool true) _ => true
  | _ => false

theorem isTrue_eq {r : CR} (h : isTrue r = true) : ∃ H, r = .returned (.bool true) H := by
  unfold isTrue at h
  split at h
  · exact ⟨_, rfl⟩
  · cases h

theorem empty_get (l : Nat) : Heap.empty.get l = none := leaf_get 0 l
theorem sim_none (w : World) : Sim (fun _ => none) Heap.empty w :=
  ⟨fun l o e => by (rw [empty_get] at e; cases e), fun l l' o o' b x y b' x' y' e => by (rw [empty_get] at e; cases e), fun l x e => by cases e⟩

/-- What turns nothing that was there. -/
theorem Post.below (h : Sim μ H w) (b : RowKit.Below w.heap.size w w') : Post μ H w μ H w' := by
  refine ⟨⟨fun l o e => (h.obj l o e).mono (fun _ _ q => q) fun bb x y m hl => b.block bb ?_, h.inj, h.dom⟩, b.os, b.tape, b.output, b.size, Nat.le_refl _, fun _ _ => rfl, fun bb hb _ => b.block bb hb, fun _ _ q => q, fun _ _ q => q, fun _ _ q => q⟩
  obtain ⟨b', x', y', m', hlt⟩ := (h.obj l o e).block hl
  rw [m] at m'; cases m'; exact hlt

theorem known_walk (hmix : P.follows .mixedOrders = true) (hn : noCount P = true) {prim : FuncId → Option (List V → Heap → Option (V × Heap))} (hP : PrimOk P (tabOf P prim)) {n : Nat} {f : FuncId} (hpf : prim f = none)
    (h : isTrue (runF (tabOf P prim) n f [] Heap.empty) = true) (w : World) : Calls P f #[] w fun e w' => e = .returned (.bool true) ∧ RowKit.Below w.heap.size w w' := by
  rw [runF_eq] at h
  obtain ⟨H', hr⟩ := isTrue_eq h
  have := run_ok (w := w) hmix (tabOf_ok hn _) hP (n := n) (f := f) (as := []) (H := Heap.empty) hpf (by rw [hr]; simp) (μ := fun _ => none) (us := []) (sim_none w) .nil
  refine this.mono fun e w' hc => ?_
  rw [hr] at hc
  cases e with
  | panicked ch => exact hc.elim
  | outgrown => exact hc.elim
  | returned u =>
    obtain ⟨μ', hv, hp⟩ := hc
    cases hv
    refine ⟨rfl, hp.os, hp.tape, hp.output, hp.size, fun b hb => hp.kept b hb ?_⟩
    rintro ⟨l, o, x, y, e, _⟩
    rw [empty_get] at e; cases e

/-- A function that takes nothing and returns true. -/
def closedTrue : List V → Heap → Option (V × Heap)
  | [], H => some (.bool true, H)
  | _, _ => none

theorem closed_prim (hn : noCount P = true) {f : FuncId} {fn : Func} {c : Code} (hf : P.funcs[f]? = some fn) (hb : fn.body = some c)
    (hw : ∀ w, Calls P f #[] w fun e w' => e = .returned (.bool true) ∧ RowKit.Below w.heap.size w w') {as : List V} {H H' : Heap} {v : V} (e : closedTrue as H = some (v, H')) {us : List Value} (h : Sim μ H w) (hr : RVL μ as us) :
    Entered P μ H w f us (.returned v H') := by
  unfold closedTrue at e
  split at e
  · cases e
    cases hr
    refine .inl ⟨callsIn_wide.2 ((hw w).mono ?_), run_callFunc (tab0_ok hn) (f := f) (fn := fn) hf hb #[]⟩
    rintro e w' ⟨rfl, hbl⟩
    exact ⟨μ, .bool true, Post.below h hbl⟩
  · cases e

theorem noPrim : PrimOk P (tabOf P fun _ => none) := fun f g hg => by cases hg
end Go.Am
