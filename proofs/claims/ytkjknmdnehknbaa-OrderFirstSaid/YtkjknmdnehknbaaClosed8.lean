/- The function 8, which takes nothing: it returns true, from whatever world, and leaves what was there as it was. No conditions. -/
import Derived.Test.YtkjknmdnehknbaaProg
import Derived.Test.YtkjknmdnehknbaaAmEnd
import Derived.KernelRfl
namespace Go.Proofs.Ytkjknmdnehknbaa.Closed
theorem mixed8 : Try.prog.follows .mixedOrders = true := by kernel_rfl
theorem counted8 : Am.noCount Try.prog = true := by kernel_rfl
set_option maxRecDepth 100000 in
theorem ran8 : Am.isTrue (Am.runF (Am.tabOf Try.prog fun _ => none) 3000 8 [] Am.Heap.empty) = true := by kernel_rfl
theorem walk8 (w : World) : Calls Try.prog 8 #[] w fun e w' => e = .returned (.bool true) ∧ RowKit.Below w.heap.size w w' := Am.known_walk mixed8 counted8 Am.noPrim rfl ran8 w
end Go.Proofs.Ytkjknmdnehknbaa.Closed
