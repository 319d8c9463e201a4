/- The function 4, which takes nothing: it returns true, from whatever world, and leaves what was there as it was. No conditions. -/
import Derived.Test.YtbhgjikjdblgeaaProg
import Derived.Test.YtbhgjikjdblgeaaAmF
import Derived.KernelRfl
namespace Go.Proofs.Ytbhgjikjdblgeaa.Closed
theorem mixed4 : Try.prog.follows .mixedOrders = true := by kernel_rfl
theorem counted4 : Am.noCount Try.prog = true := by kernel_rfl
set_option maxRecDepth 100000 in
theorem ran4 : Am.isTrue (Am.runF (Am.tabOf Try.prog fun _ => none) 3000 4 [] Am.Heap.empty) = true := by kernel_rfl
theorem walk4 (w : World) : Calls Try.prog 4 #[] w fun e w' => e = .returned (.bool true) ∧ RowKit.Below w.heap.size w w' := Am.known_walk mixed4 counted4 Am.noPrim rfl ran4 w
end Go.Proofs.Ytbhgjikjdblgeaa.Closed
