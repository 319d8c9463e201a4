import Derived.Test.YtbhgjikjdblgeaaGkD
import Derived.Test.YtbhgjikjdblgeaaGkA
import Derived.Test.YtbhgjikjdblgeaaVmC
import Derived.Test.YtbhgjikjdblgeaaScs
set_option linter.unusedSimpArgs false
set_option linter.unusedVariables false
set_option maxRecDepth 8000
/- The program's order. No conditions. -/
namespace Go.Proofs.Ytbhgjikjdblgeaa.W
open Go.Am Go.Am.Ord Go.Am.Scc
-- VEX nlR_boolD
/-! ### The heap, as a walk in depth meets it -/
theorem row_get {n : Nat} {E : Es} {i : Nat} (h : i < n) : (gD (graph n E))[i]? = some [.imm 1 ((castL (adj n E i)).map dI)] := by
 simp [gD, graph, h]
def Ready (n : Nat) (E : Es) (out : List Nat) (ns : List Int) : Prop := ns.Nodup ∧ ∀ z : Int, z ∈ ns ↔ ∃ k : Nat, k < n ∧ z = k ∧ out.contains k = false ∧ W n E out k = 0
def cntM (E : Es) (i : Nat) (S : List Nat) (k : Nat) : Nat := cntTo E i k + if k ∈ S then 1 else 0
def decM (n : Nat) (E : Es) (out S : List Nat) (k : Nat) : Nat := W n E out k - if k ∈ S then 1 else 0
end Go.Proofs.Ytbhgjikjdblgeaa.W
