/- The function 9, which takes nothing: it returns true, from whatever world, and leaves what was there as it was. No conditions. -/
import Derived.Test.YtphjohoipocpnaaGreatProg
import Derived.Test.YtphjohoipocpnaaGreatAmF
import Derived.KernelRfl
namespace Go.Proofs.YtphjohoipocpnaaGreat.Closed
theorem mixed9 : Tryz.prog.follows .mixedOrders = true := by kernel_rfl
theorem counted9 : Am.noCount Tryz.prog = true := by kernel_rfl
set_option maxRecDepth 100000 in
theorem ran9 : Am.isTrue (Am.runF (Am.tabOf Tryz.prog (fun _ => none)) 3000 9 [] Am.Heap.empty) = true := by kernel_rfl
theorem walk9 (w : World) : Calls Tryz.prog 9 #[] w fun e w' => e = .returned (.bool true) ∧ RowKit.Below w.heap.size w w' := Am.known_walk mixed9 counted9 Am.noPrim rfl ran9 w
end Go.Proofs.YtphjohoipocpnaaGreat.Closed
