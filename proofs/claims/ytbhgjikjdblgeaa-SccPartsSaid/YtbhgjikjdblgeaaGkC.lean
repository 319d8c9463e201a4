import Derived.Test.YtbhgjikjdblgeaaGkB
import Derived.Test.YtbhgjikjdblgeaaVmC
set_option linter.unusedSimpArgs false
set_option linter.unusedVariables false
set_option maxRecDepth 8000
/- Going through a graph, by what a variable says. No conditions. -/
namespace Go.Proofs.Ytbhgjikjdblgeaa.W
open Go.Am Go.Am.Ord Go.Am.Scc
def cB (b : Bool) : List V := [.bool b]
def boolL (n : Nat) (f : Nat → Bool) : List (List V) := (List.range n).map fun k => cB (f k)
def wFn (W : Nat) : V := .func (.func 33) [.ptr W 0] []
end Go.Proofs.Ytbhgjikjdblgeaa.W

/- Components, as the document has them. No conditions. -/
namespace Go.Proofs.Ytbhgjikjdblgeaa.W
open Go.Am Go.Am.Ord Go.Am.Scc
noncomputable def compF (n : Int) (es : List (Int × Int)) : List Int × Int := if checkS n es ≠ 0 then ([], checkS n es) else (tabF n.toNat (comp (natE es)), 0)
noncomputable def allTo (m : Nat) (E : Es) (k : Nat) : List (List Int) := (List.range k).map fun i => distL m E i
end Go.Proofs.Ytbhgjikjdblgeaa.W

/- What was shown of graphs, for walks in depth. No conditions. -/
namespace Go.Proofs.Ytbhgjikjdblgeaa.W
open Go.Am Go.Am.Ord Go.Am.Scc
def dI (z : Int) : List Vm.D := [.atom (.int .i64 z)]
def dE (p : Int × Int) : List Vm.D := [.atom (.int .i64 p.1), .atom (.int .i64 p.2)]
def dB (b : Bool) : List Vm.D := [.atom (.bool b)]
def gD (ls : List (List Int)) : List (List Vm.D) := ls.map fun l => [.imm 1 (l.map dI)]
theorem aR_I (xs : List Int) : Vm.aR (xs.map cI) = xs.map dI := by simp [Vm.aR, cI, dI, Function.comp_def]
theorem aR_E (es : List (Int × Int)) : Vm.aR (es.map cE) = es.map dE := by simp [Vm.aR, cE, dE, Function.comp_def]
theorem gR_D (ls : List (List Int)) : Vm.gR (rowsI ls) = gD ls := by simp [Vm.gR, rowsI, gD, Function.comp_def, aR_I]
theorem cI_all (xs : List Int) : (xs.map cI).flatten.all V.one = true := all_flatten (cI_one xs)
theorem three {P : Nat → Prop} {H : Heap} {vs : List V} {a b c : Vm.D} (h : Vm.RL P H [] [a, b, c] vs []) : ∃ u v w, vs = [u, v, w] ∧ Vm.RL P H [] [a] [u] [] ∧ Vm.RL P H [] [b] [v] [] ∧ Vm.RL P H [] [c] [w] [] := by
 obtain ⟨u, us, F1, F2, rfl, hF, h1, h2⟩ := h.uncons
 obtain ⟨v, vs, F3, F4, rfl, rfl, h3, h4⟩ := h2.uncons
 obtain ⟨w, rfl, h5⟩ := h4.one
 have hF' := hF.symm
 rw [List.append_eq_nil_iff, List.append_eq_nil_iff] at hF'
 rw [hF'.1] at h1; rw [hF'.2.1] at h3; rw [hF'.2.2] at h5
 exact ⟨u, v, w, rfl, h1, h3, h5⟩
theorem two {P : Nat → Prop} {H : Heap} {vs : List V} {a b : Vm.D} (h : Vm.RL P H [] [a, b] vs []) : ∃ u v, vs = [u, v] ∧ Vm.RL P H [] [a] [u] [] ∧ Vm.RL P H [] [b] [v] [] := by
 obtain ⟨u, us, F1, F2, rfl, hF, h1, h2⟩ := h.uncons
 obtain ⟨v, rfl, h3⟩ := h2.one
 have hF' := hF.symm
 rw [List.append_eq_nil_iff] at hF'
 rw [hF'.1] at h1; rw [hF'.2] at h3
 exact ⟨u, v, rfl, h1, h3⟩
theorem fresh_I {n : Nat} {H : Heap} {v : V} {xs : List Int} (h : Mine n H v 1 (xs.map cI)) (P : Nat → Prop) (μ : List Vm.Hd) : ∃ K, Vm.RL P H μ [.fresh 1 (xs.map dI)] [v] K ∧ K.Nodup ∧ ∀ l, l ∈ K → n ≤ l ∧ l < H.n := by
 rw [← aR_I]; exact Vm.fresh_of_mine h (cI_all xs)
theorem sccCheck_v {n : Int} {es : List (Int × Int)} (hlen : es.length < 1000000000) : Vm.VC T 19 [.atom (.int .i64 n), .imm 2 (es.map dE)] fun d => d = .atom (.int .i64 (checkS n es)) := by
 refine Vm.vc_am fun P H vs wf r => ?_
 obtain ⟨u, v, rfl, r1, r2⟩ := two r
 rw [r1.atomInv.2]
 rw [← aR_E] at r2
 exact (sccCheck_ok wf (Vm.sl_of_imm r2) hlen).mono fun v H' ⟨h1, h2⟩ => ⟨⟨_, [], rfl, h1 ▸ .atom .nil, by simp, by simp⟩, h2⟩
def two_d (p : List Int × Int) : Vm.D := .tuple [.fresh 1 (p.1.map dI), .atom (.int .i64 p.2)]
theorem two_d_ok {H H' : Heap} {u r : V} {p : List Int × Int} (P : Nat → Prop) (h1 : r = .tuple [u, .int .i64 p.2]) (h2 : Mine H.n H' u 1 (p.1.map cI)) : ∃ d K, d = two_d p ∧ Vm.RL P H' [] [d] [r] K ∧ K.Nodup ∧ ∀ l, l ∈ K → H.n ≤ l ∧ l < H'.n := by
 obtain ⟨K, q, nd, hk⟩ := fresh_I h2 P []
 exact ⟨_, K, rfl, h1 ▸ (by simpa [two_d] using (q.cons (Vm.RL.atom1 (.int .i64 p.2))).tuple1), nd, hk⟩
theorem sccReach_v {n x : Int} {es : List (Int × Int)} (hlen : es.length < 1000000000) : Vm.VC T 10 [.atom (.int .i64 n), .imm 2 (es.map dE), .atom (.int .i64 x)] fun d => d = two_d (reachF n es x) := by
 refine Vm.vc_am fun P H vs wf r => ?_
 obtain ⟨u, v, w, rfl, r1, r2, r3⟩ := three r
 rw [r1.atomInv.2, r3.atomInv.2]
 rw [← aR_E] at r2
 exact (sccReach_ok wf (Vm.sl_of_imm r2) hlen).mono fun v H' ⟨u, h1, h2, h3⟩ => ⟨two_d_ok P h1 h2, h3⟩
theorem rowsI_one (ls : List (List Int)) : ∀ r, r ∈ rowsI ls → r.flatten.all V.one = true := fun r hr => by
 obtain ⟨l, _, rfl⟩ := List.mem_map.1 hr
 exact cI_all l
theorem sccMade_v {n : Nat} {E : Es} (hE : ∀ p, p ∈ E → p.1 < n ∧ p.2 < n) (hn4 : n ≤ 4096) (hlen : E.length < 10000000) : Vm.VC T 29 [.atom (.int .i64 n), .imm 2 ((castE E).map dE)] fun d => d = .imm 1 (gD (graph n E)) := by
 refine Vm.vc_am_imm fun P H vs wf r => ?_
 obtain ⟨u, v, rfl, r1, r2⟩ := two r
 rw [r1.atomInv.2]
 rw [← aR_E] at r2
 refine (sccMade_ok wf (Vm.sl_of_imm r2) hE hn4 hlen).mono fun v H' ⟨h1, h2⟩ => ⟨h2, fun Q hQ => ?_⟩
 rw [← gR_D]
 exact Vm.imm_of_mineG h1 (rowsI_one _) hQ
theorem sccTurned_v {n : Nat} {E : Es} (hn4 : n ≤ 4096) : Vm.VC T 32 [.imm 1 (gD (graph n E))] fun d => d = .imm 1 (gD (graph n (tr E))) := by
 refine Vm.vc_am_imm fun P H vs wf r => ?_
 obtain ⟨u, rfl, r1⟩ := r.one
 rw [← gR_D] at r1
 refine (sccTurned_ok wf (Vm.slG_of_imm r1) hn4).mono fun v H' ⟨h1, h2⟩ => ⟨h2, fun Q hQ => ?_⟩
 rw [← gR_D]
 exact Vm.imm_of_mineG h1 (rowsI_one _) hQ
end Go.Proofs.Ytbhgjikjdblgeaa.W
