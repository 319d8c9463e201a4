/-
  No cell of these rows narrows 'for every input' (looked for: loops, veiled, ifaces, maps, wideKeys, modest, calm, conditions, laid).
  DERIVED. THE GIVEN ROWS OF THIS SEAT. 5 by the template 'for every input the law returns true; each argument reads behind the call as it read before'; 0 by the template 'total and deterministic' (their statements: YtphjohoipocpnaaGreatTotals.lean).
  GIVEN WITH THE SEED: the statements are not yours to turn. If you find one false, say at which input.
  Laid BY PROGRAM, IN A SANDBOX (cutbox-rows.mjs): the forced cells as the released guide's own fill.sh prints them over the translation ccb5220a467d6cb4… (all of the seat's roots in one cut). By AI agents, Wed Nov 11 2026. No macro, syntax, notation, axiom, sorry.
-/
import Derived.Test.YtphjohoipocpnaaGreatChecked
import GoSem.Claim
import GoSem.ClaimJoined
import GoSem.ClaimMapViews
import Derived.JoinedTies
import Derived.KernelRfl
namespace Go.Proofs.YtphjohoipocpnaaGreat
/- THE CELL 'sum', in the pinned program and in every row, IS THE sha256 OF THE DUMP (.gsa) THAT YtphjohoipocpnaaGreatProg.lean LOADS. Nothing in Lean hashes anything: it is a label: what it is worth is what the hold of that sum in a sandbox is worth. -/
noncomputable def Tryz.pinned : Pinned := { name := "ytphjohoipocpnaagreat", sum := "ccb5220a467d6cb49bb7bdf388369a4bc4649fa3c8a34a1378e8faa21c494311", checked := Tryz.checked }
namespace Rows
def none {H : Type} : Left H := { results := [], args := [] }

/-- 'armisticelaw16.ReplayTrans': WHATEVER THE INPUT: true; the input reads as it did. -/
def replayTransSpec : ChangeSpec := { name := "replayTrans", fn := fun _ => fun
  | [d1, d2] => { results := [.lit (.bool true)], args := [d1, d2] }
  | _ => none }
def replayTransRow : OpenClaim := { program := "ytphjohoipocpnaagreat", sum := "ccb5220a467d6cb49bb7bdf388369a4bc4649fa3c8a34a1378e8faa21c494311", func := "armistice/armisticelaw16.ReplayTrans", spec := "replayTrans", inPlace := ["slices.overlaps[int]"], unfollowed := true, recurses := true, apart := false }
def ReplayTransSaid : Prop := replayTransRow.holds Tryz.pinned (OpenSpec.ofChange replayTransSpec)

/-- ITS FALSE NEIGHBOUR: 'it returns false'. Refute it at one input. -/
def replayTransWrong : ChangeSpec := { name := "replayTrans", fn := fun _ => fun
  | [d1, d2] => { results := [.lit (.bool false)], args := [d1, d2] }
  | _ => none }
def ReplayTransWrongFalsely : Prop := replayTransRow.holds Tryz.pinned (OpenSpec.ofChange replayTransWrong)

/-- 'armisticelaw16.ReplayOrders': WHATEVER THE INPUT: true; the input reads as it did. -/
def replayOrdersSpec : ChangeSpec := { name := "replayOrders", fn := fun _ => fun
  | [d1, d2] => { results := [.lit (.bool true)], args := [d1, d2] }
  | _ => none }
def replayOrdersRow : OpenClaim := { program := "ytphjohoipocpnaagreat", sum := "ccb5220a467d6cb49bb7bdf388369a4bc4649fa3c8a34a1378e8faa21c494311", func := "armistice/armisticelaw16.ReplayOrders", spec := "replayOrders", inPlace := ["slices.overlaps[int]"], unfollowed := true, recurses := true, apart := false }
def ReplayOrdersSaid : Prop := replayOrdersRow.holds Tryz.pinned (OpenSpec.ofChange replayOrdersSpec)

/-- ITS FALSE NEIGHBOUR: 'it returns false'. Refute it at one input. -/
def replayOrdersWrong : ChangeSpec := { name := "replayOrders", fn := fun _ => fun
  | [d1, d2] => { results := [.lit (.bool false)], args := [d1, d2] }
  | _ => none }
def ReplayOrdersWrongFalsely : Prop := replayOrdersRow.holds Tryz.pinned (OpenSpec.ofChange replayOrdersWrong)

/-- 'armisticelaw16.ReplayParts': WHATEVER THE INPUT: true; the input reads as it did. -/
def replayPartsSpec : ChangeSpec := { name := "replayParts", fn := fun _ => fun
  | [d1, d2, d3] => { results := [.lit (.bool true)], args := [d1, d2, d3] }
  | _ => none }
def replayPartsRow : OpenClaim := { program := "ytphjohoipocpnaagreat", sum := "ccb5220a467d6cb49bb7bdf388369a4bc4649fa3c8a34a1378e8faa21c494311", func := "armistice/armisticelaw16.ReplayParts", spec := "replayParts", inPlace := ["slices.overlaps[int]"], unfollowed := true, recurses := true, apart := false }
def ReplayPartsSaid : Prop := replayPartsRow.holds Tryz.pinned (OpenSpec.ofChange replayPartsSpec)

/-- ITS FALSE NEIGHBOUR: 'it returns false'. Refute it at one input. -/
def replayPartsWrong : ChangeSpec := { name := "replayParts", fn := fun _ => fun
  | [d1, d2, d3] => { results := [.lit (.bool false)], args := [d1, d2, d3] }
  | _ => none }
def ReplayPartsWrongFalsely : Prop := replayPartsRow.holds Tryz.pinned (OpenSpec.ofChange replayPartsWrong)

/-- 'armisticelaw16.ReplayStays': WHATEVER THE INPUT: true; the input reads as it did. -/
def replayStaysSpec : ChangeSpec := { name := "replayStays", fn := fun _ => fun
  | [d1, d2] => { results := [.lit (.bool true)], args := [d1, d2] }
  | _ => none }
def replayStaysRow : OpenClaim := { program := "ytphjohoipocpnaagreat", sum := "ccb5220a467d6cb49bb7bdf388369a4bc4649fa3c8a34a1378e8faa21c494311", func := "armistice/armisticelaw16.ReplayStays", spec := "replayStays", inPlace := ["slices.overlaps[int]"], unfollowed := true, recurses := true, apart := false }
def ReplayStaysSaid : Prop := replayStaysRow.holds Tryz.pinned (OpenSpec.ofChange replayStaysSpec)

/-- ITS FALSE NEIGHBOUR: 'it returns false'. Refute it at one input. -/
def replayStaysWrong : ChangeSpec := { name := "replayStays", fn := fun _ => fun
  | [d1, d2] => { results := [.lit (.bool false)], args := [d1, d2] }
  | _ => none }
def ReplayStaysWrongFalsely : Prop := replayStaysRow.holds Tryz.pinned (OpenSpec.ofChange replayStaysWrong)

/-- 'armisticelaw16.ReplayEvents': WHATEVER THE INPUT: true; the input reads as it did. -/
def replayEventsSpec : ChangeSpec := { name := "replayEvents", fn := fun _ => fun
  | [d1, d2] => { results := [.lit (.bool true)], args := [d1, d2] }
  | _ => none }
def replayEventsRow : OpenClaim := { program := "ytphjohoipocpnaagreat", sum := "ccb5220a467d6cb49bb7bdf388369a4bc4649fa3c8a34a1378e8faa21c494311", func := "armistice/armisticelaw16.ReplayEvents", spec := "replayEvents", inPlace := ["slices.overlaps[int]"], unfollowed := true, recurses := true, apart := false }
def ReplayEventsSaid : Prop := replayEventsRow.holds Tryz.pinned (OpenSpec.ofChange replayEventsSpec)

/-- ITS FALSE NEIGHBOUR: 'it returns false'. Refute it at one input. -/
def replayEventsWrong : ChangeSpec := { name := "replayEvents", fn := fun _ => fun
  | [d1, d2] => { results := [.lit (.bool false)], args := [d1, d2] }
  | _ => none }
def ReplayEventsWrongFalsely : Prop := replayEventsRow.holds Tryz.pinned (OpenSpec.ofChange replayEventsWrong)

/- THE SECOND FORM. 'bulk': how many values and letters a reading holds, each counted each time it is reached (what is shared counts as often as it is met; a slice's spare places count too). A statement '..UptoSaid' is the law's where the arguments, and the package variables that the reading takes, are together of bulk at most 1048576: NARROWER than '..Said'. Prove '..Said' where nothing that the law and all that it calls make is longer than what came in: it says more and counts as full. Else prove '..UptoSaid'. A law counts once. -/
mutual
def uptoBulk {H : Type} : DataW H → Nat
  | .lit (.string bytes) => bytes.length + 1
  | .lit _ => 1
  | .nil => 1
  | .ptr d => uptoBulk d + 1
  | .slice elems spare => uptoBulkAll elems + uptoBulkAll spare + 1
  | .agg parts => uptoBulkAll parts + 1
  | .iface _ d => uptoBulk d + 1
  | .map entries => uptoBulkEntries entries + 1
  | .held _ => 1
def uptoBulkAll {H : Type} : List (DataW H) → Nat
  | [] => 0
  | d :: r => uptoBulk d + uptoBulkAll r
def uptoBulkEntries {H : Type} : List (Lit × DataW H) → Nat
  | [] => 0
  | x :: r => uptoBulkEntry x + uptoBulkEntries r
def uptoBulkEntry {H : Type} : Lit × DataW H → Nat
  | (.string bytes, d) => bytes.length + uptoBulk d + 1
  | (_, d) => uptoBulk d + 1
 end
def uptoSmall : (H : Type) → List (DataW H) → Bool := fun _ ds => decide (uptoBulkAll ds ≤ 1048576)
def OpenSpec.upto (s : _root_.Go.ChangeSpec) : _root_.Go.OpenSpec := { _root_.Go.OpenSpec.ofChange s with cond := some uptoSmall }

/-- 'armisticelaw16.ReplayTrans', WHERE WHAT IT READS IS OF BULK AT MOST 1048576: true; the input reads as it did. -/
def replayTransUptoRow : OpenClaim := { program := "ytphjohoipocpnaagreat", sum := "ccb5220a467d6cb49bb7bdf388369a4bc4649fa3c8a34a1378e8faa21c494311", func := "armistice/armisticelaw16.ReplayTrans", spec := "replayTrans", inPlace := ["slices.overlaps[int]"], unfollowed := true, recurses := true, apart := false, narrowed := true }
def ReplayTransUptoSaid : Prop := replayTransUptoRow.holds Tryz.pinned (OpenSpec.upto replayTransSpec)

/-- 'armisticelaw16.ReplayOrders', WHERE WHAT IT READS IS OF BULK AT MOST 1048576: true; the input reads as it did. -/
def replayOrdersUptoRow : OpenClaim := { program := "ytphjohoipocpnaagreat", sum := "ccb5220a467d6cb49bb7bdf388369a4bc4649fa3c8a34a1378e8faa21c494311", func := "armistice/armisticelaw16.ReplayOrders", spec := "replayOrders", inPlace := ["slices.overlaps[int]"], unfollowed := true, recurses := true, apart := false, narrowed := true }
def ReplayOrdersUptoSaid : Prop := replayOrdersUptoRow.holds Tryz.pinned (OpenSpec.upto replayOrdersSpec)

/-- 'armisticelaw16.ReplayParts', WHERE WHAT IT READS IS OF BULK AT MOST 1048576: true; the input reads as it did. -/
def replayPartsUptoRow : OpenClaim := { program := "ytphjohoipocpnaagreat", sum := "ccb5220a467d6cb49bb7bdf388369a4bc4649fa3c8a34a1378e8faa21c494311", func := "armistice/armisticelaw16.ReplayParts", spec := "replayParts", inPlace := ["slices.overlaps[int]"], unfollowed := true, recurses := true, apart := false, narrowed := true }
def ReplayPartsUptoSaid : Prop := replayPartsUptoRow.holds Tryz.pinned (OpenSpec.upto replayPartsSpec)

/-- 'armisticelaw16.ReplayStays', WHERE WHAT IT READS IS OF BULK AT MOST 1048576: true; the input reads as it did. -/
def replayStaysUptoRow : OpenClaim := { program := "ytphjohoipocpnaagreat", sum := "ccb5220a467d6cb49bb7bdf388369a4bc4649fa3c8a34a1378e8faa21c494311", func := "armistice/armisticelaw16.ReplayStays", spec := "replayStays", inPlace := ["slices.overlaps[int]"], unfollowed := true, recurses := true, apart := false, narrowed := true }
def ReplayStaysUptoSaid : Prop := replayStaysUptoRow.holds Tryz.pinned (OpenSpec.upto replayStaysSpec)

/-- 'armisticelaw16.ReplayEvents', WHERE WHAT IT READS IS OF BULK AT MOST 1048576: true; the input reads as it did. -/
def replayEventsUptoRow : OpenClaim := { program := "ytphjohoipocpnaagreat", sum := "ccb5220a467d6cb49bb7bdf388369a4bc4649fa3c8a34a1378e8faa21c494311", func := "armistice/armisticelaw16.ReplayEvents", spec := "replayEvents", inPlace := ["slices.overlaps[int]"], unfollowed := true, recurses := true, apart := false, narrowed := true }
def ReplayEventsUptoSaid : Prop := replayEventsUptoRow.holds Tryz.pinned (OpenSpec.upto replayEventsSpec)

end Rows
end Go.Proofs.YtphjohoipocpnaaGreat
