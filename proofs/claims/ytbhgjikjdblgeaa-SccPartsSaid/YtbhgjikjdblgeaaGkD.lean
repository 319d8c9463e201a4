import Derived.Test.YtbhgjikjdblgeaaGkC
set_option linter.unusedSimpArgs false
set_option linter.unusedVariables false
set_option maxRecDepth 8000
/- The document's order and cycle. No conditions. -/
namespace Go.Proofs.Ytbhgjikjdblgeaa.W
open Go.Am Go.Am.Ord Go.Am.Scc
def boolD (n : Nat) (f : Nat → Bool) : List (List Vm.D) := (List.range n).map fun k => dB (f k)
-- VEX nlR_boolD
theorem nlR_boolD (n : Nat) (f : Nat → Bool) : Vm.nlR (boolD n f) = true := Vm.nlR_map (fun _ => rfl) _
theorem boolD_len (n : Nat) (f : Nat → Bool) : (boolD n f).length = n := by simp [boolD]
theorem boolD_get {n k : Nat} {f : Nat → Bool} (h : k < n) : (boolD n f)[k]? = some (dB (f k)) := by simp [boolD, h]
theorem boolD_im (n : Nat) (f : Nat → Bool) : Vm.imLL (boolD n f) = boolD n f := Vm.imLL_map (fun _ => rfl) _
theorem boolD_set {n x : Nat} {f g : Nat → Bool} (hx : x < n) (h : g x = true) (h2 : ∀ y, y ≠ x → g y = f y) : (boolD n f).set x [.atom (.bool true)] = boolD n g := by
 apply List.ext_getElem
 · simp [boolD]
 · intro j h1 h3
   simp only [boolD, List.getElem_set, List.getElem_map, List.getElem_range, dB]
   by_cases e : x = j
   · subst e; rw [if_pos rfl, h]
   · rw [if_neg e, h2 j (fun h => e h.symm)]
theorem boolD_false (n : Nat) : List.replicate n [Vm.D.atom (.bool false)] = boolD n fun _ => false := by
 apply List.ext_getElem
 · simp [boolD]
 · intro j h1 h2; simp [boolD, dB]
def waitsF (E : Es) (done : Nat → Bool) (to : Nat) : Bool := E.any fun p => decide (p.2 = to) && !done p.1
def stepP (E : Es) (out : List Nat) (i : Nat) : Bool := !out.contains i && !waitsF E (fun k => out.contains k) i
def stepS (n : Nat) (E : Es) (out : List Nat) : Option Nat := (List.range n).find? (stepP E out)
def goS (n : Nat) (E : Es) : Nat → List Nat → Option (List Nat)
 | 0, out => some out
 | k + 1, out => match stepS n E out with
   | none => none
   | some i => goS n E k (out ++ [i])
def ordF (n : Int) (es : List (Int × Int)) : List Int × Int := if checkS n es ≠ 0 then ([], checkS n es) else match goS n.toNat (natE es) n.toNat [] with
 | some o => (castL o, 0)
 | none => ([], 17)
def nxI : Option Nat → Int
 | some k => k
 | none => -1
end Go.Proofs.Ytbhgjikjdblgeaa.W

/- The document's cycle. No conditions. -/
namespace Go.Proofs.Ytbhgjikjdblgeaa.W
open Go.Am Go.Am.Ord Go.Am.Scc
-- VEX nlR_boolD
noncomputable def nextP (E : Es) (x t left i : Nat) : Bool := decide ((x, i) ∈ E) && decide (dist E i t = left)
noncomputable def nextS (n : Nat) (E : Es) (x t left : Nat) : Nat := ((List.range n).find? (nextP E x t left)).getD 0
noncomputable def pathS (n : Nat) (E : Es) (t : Nat) : Nat → Nat → List Nat
 | 0, x => [x]
 | left + 1, x => x :: pathS n E t left (nextS n E x t (left + 1))
noncomputable def firstS (n : Nat) (E : Es) : Option Nat := (List.range n).find? fun s => decide (0 < dist E s s)
noncomputable def cycF (n : Int) (es : List (Int × Int)) : List Int × Int := if checkS n es ≠ 0 then ([], checkS n es) else match firstS n.toNat (natE es) with
 | some s => (castL (pathS n.toNat (natE es) s (dist (natE es) s s - 1) s), 0)
 | none => ([], 14)
theorem castL_get (o : List Nat) (j : Nat) {x : Nat} (h : o[j]? = some x) : ((castL o).map dI)[j]? = some (dI (x : Int)) := by simp [castL, h]
end Go.Proofs.Ytbhgjikjdblgeaa.W
