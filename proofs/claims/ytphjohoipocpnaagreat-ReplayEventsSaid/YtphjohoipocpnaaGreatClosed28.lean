/- The function 28, which takes nothing: it returns true, from whatever world, and leaves what was there as it was. No conditions. -/
import Derived.Test.YtphjohoipocpnaaGreatProg
import Derived.Test.YtphjohoipocpnaaGreatAmF
import Derived.KernelRfl
import Derived.Test.YtphjohoipocpnaaGreatClosed9
import Derived.Test.YtphjohoipocpnaaGreatAmLay
namespace Go.Proofs.YtphjohoipocpnaaGreat.Closed
theorem mixed28 : Tryz.prog.follows .mixedOrders = true := by kernel_rfl
theorem counted28 : Am.noCount Tryz.prog = true := by kernel_rfl
def prim28 : FuncId → Option (List Am.V → Am.Heap → Option (Am.V × Am.Heap)) := fun f => cond (Nat.beq f 9) (some Am.closedTrue) none
theorem prims28 : Am.PrimOk Tryz.prog (Am.tabOf Tryz.prog prim28) := by
  intro f g hg xs H v H' e μ w us h hr
  simp only [Am.tabOf, prim28] at hg
  rw [Am.cond_beq] at hg
  split at hg
  · rename_i hf; subst hf; cases hg; exact Am.closed_prim counted28 Tryz.func9 rfl walk9 e h hr
  cases hg
set_option maxRecDepth 100000 in
theorem ran28 : Am.isTrue (Am.runF (Am.tabOf Tryz.prog prim28) 3000 28 [] Am.Heap.empty) = true := by kernel_rfl
theorem walk28 (w : World) : Calls Tryz.prog 28 #[] w fun e w' => e = .returned (.bool true) ∧ RowKit.Below w.heap.size w w' := Am.known_walk mixed28 counted28 prims28 rfl ran28 w
end Go.Proofs.YtphjohoipocpnaaGreat.Closed
