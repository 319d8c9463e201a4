import Derived.Test.YtphjohoipocpnaaGreatWpB
set_option linter.unusedSimpArgs false
set_option linter.unusedVariables false
/- Slices of slices, of which their holder alone holds each. No conditions. -/
namespace Go.Am
variable {T:Tab} {H H':Heap}
variable {v:V} {rows:List (List (List V))} {n:Nat}
end Go.Am
