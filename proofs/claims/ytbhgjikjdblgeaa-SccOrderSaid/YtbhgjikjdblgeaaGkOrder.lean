import Derived.Test.YtbhgjikjdblgeaaGkF
import Derived.Test.YtbhgjikjdblgeaaVmC
set_option linter.unusedSimpArgs false
set_option linter.unusedVariables false
set_option maxRecDepth 8000
/- Orders and cycles: there is an order just if there is no cycle. No conditions. -/
namespace Go.Proofs.Ytbhgjikjdblgeaa.W
open Go.Am Go.Am.Ord Go.Am.Scc
theorem goS_steps (n : Nat) (E : Es) : ∀ (k : Nat) (out o : List Nat), goS n E k out = some o → ∃ t, o = out ++ t ∧ t.length = k ∧ ∀ j x, t[j]? = some x → stepS n E (out ++ t.take j) = some x
 | 0, out, o, h => by simp only [goS] at h; cases h; exact ⟨[], by simp, rfl, fun j x e => by cases e⟩
 | k + 1, out, o, h => by
   simp only [goS] at h
   split at h
   · cases h
   · rename_i i hi
     obtain ⟨t, rfl, h2, h3⟩ := goS_steps n E k _ o h
     refine ⟨i :: t, by simp, by simp [h2], fun j x e => ?_⟩
     cases j with
     | zero => cases e; simpa using hi
     | succ j => have := h3 j x (by simpa using e); simpa using this
theorem goS_none (n : Nat) (E : Es) : ∀ (k : Nat) (out : List Nat), goS n E k out = none → ∃ out', stepS n E out' = none ∧ out'.length < out.length + k
 | 0, out, h => by simp only [goS] at h; cases h
 | k + 1, out, h => by
   simp only [goS] at h
   split at h
   · rename_i hi; exact ⟨out, hi, by omega⟩
   · rename_i i hi
     obtain ⟨o', h1, h2⟩ := goS_none n E k _ h
     exact ⟨o', h1, by simp at h2; omega⟩
theorem stepS_some {n : Nat} {E : Es} {out : List Nat} {i : Nat} (h : stepS n E out = some i) : i < n ∧ out.contains i = false ∧ waitsF E (fun k => out.contains k) i = false ∧ ∀ k, k < i → out.contains k = false → waitsF E (fun k => out.contains k) k = true := by
 rw [stepS, List.find?_range_eq_some] at h
 obtain ⟨h1, h2, h3⟩ := h
 simp only [stepP, Bool.and_eq_true, Bool.not_eq_true'] at h1
 refine ⟨List.mem_range.1 h2, h1.1, h1.2, fun k hk hc => ?_⟩
 have := h3 k hk
 simp only [stepP, hc, Bool.not_false, Bool.true_and, Bool.not_not] at this
 exact this
theorem waitsF_true {E : Es} {done : Nat → Bool} {k : Nat} (h : waitsF E done k = true) : ∃ x, (x, k) ∈ E ∧ done x = false := by
 rw [waitsF, List.any_eq_true] at h
 obtain ⟨⟨a, b⟩, h1, h2⟩ := h
 simp only [Bool.and_eq_true, decide_eq_true_eq, Bool.not_eq_true'] at h2
 obtain ⟨rfl, h3⟩ := h2
 exact ⟨a, h1, h3⟩
theorem waitsF_false {E : Es} {done : Nat → Bool} {k : Nat} (h : waitsF E done k = false) {x : Nat} (hx : (x, k) ∈ E) : done x = true := by
 rw [waitsF, List.any_eq_false] at h
 have := h _ hx
 simp at this
 exact this
theorem firstS_none {n : Nat} {E : Es} : firstS n E = none ↔ ∀ s, s < n → dist E s s = 0 := by
 rw [firstS, List.find?_eq_none]
 constructor
 · intro h s hs
   have := h s (List.mem_range.2 hs)
   simp at this; omega
 · intro h s hs
   have := h s (List.mem_range.1 hs)
   simp [this]
theorem ord_acyclic {n : Nat} {E : Es} {o : List Nat} (hE : ∀ p, p ∈ E → p.1 < n ∧ p.2 < n) (h : goS n E n [] = some o) : o.length = n ∧ o.Nodup ∧ (∀ j x, o[j]? = some x → stepS n E (o.take j) = some x) ∧ firstS n E = none := by
 obtain ⟨t, ht, hl, hs⟩ := goS_steps n E n [] o h
 rw [List.nil_append] at ht
 subst ht
 simp only [List.nil_append] at hs ⊢
 have nd : o.Nodup := by
  rw [List.nodup_iff_pairwise_ne, List.pairwise_iff_getElem]
  intro i j hi hj hij e
  have := (stepS_some (hs j o[j] (List.getElem?_eq_getElem hj))).2.1
  rw [← e] at this
  have hm : o[i] ∈ o.take j := List.mem_take_iff_getElem.2 ⟨i, by omega, rfl⟩
  simp [hm] at this
 have lt : ∀ x, x ∈ o → x < n := fun x hx => by
  obtain ⟨j, hj, rfl⟩ := List.getElem_of_mem hx
  exact (stepS_some (hs j _ (List.getElem?_eq_getElem hj))).1
 have all : ∀ x, x < n → x ∈ o := fun x hx => by
  rcases Classical.em (x ∈ o) with h1 | h1
  · exact h1
  · exfalso
    have := sub_length (x :: o) (List.range n) (List.nodup_cons.2 ⟨h1, nd⟩) (fun y hy => by
     rcases List.mem_cons.1 hy with rfl | hy
     · exact List.mem_range.2 hx
     · exact List.mem_range.2 (lt y hy))
    simp [hl] at this; omega
 refine ⟨hl, nd, hs, firstS_none.2 fun s hs' => ?_⟩
 have pos : ∀ x y, (x, y) ∈ E → o.idxOf x < o.idxOf y := fun x y hxy => by
  have hy := all y (hE _ hxy).2
  obtain ⟨j, hj, e⟩ := List.getElem_of_mem hy
  have h1 := (stepS_some (hs j _ (List.getElem?_eq_getElem hj))).2.2.1
  rw [e] at h1
  have hx := waitsF_false h1 hxy
  have hm : x ∈ o.take j := by simpa using hx
  obtain ⟨i, hi, e2⟩ := List.mem_take_iff_getElem.1 hm
  have a := nd.idxOf_getElem i (by omega)
  have b := nd.idxOf_getElem j hj
  rw [e2] at a; rw [e] at b
  omega
 have walk : ∀ d x y, wk E d x y → o.idxOf x + d ≤ o.idxOf y := by
  intro d
  induction d with
  | zero => intro x y h; cases h; omega
  | succ d ih => intro x y ⟨z, h1, h2⟩; have := ih x z h1; have := pos z y h2; omega
 rcases Nat.eq_zero_or_pos (dist E s s) with h0 | h0
 · exact h0
 · have := walk _ _ _ (dist_walk h0); omega
theorem none_cyclic {n : Nat} {E : Es} (hE : ∀ p, p ∈ E → p.1 < n ∧ p.2 < n) (h : goS n E n [] = none) : firstS n E ≠ none := by
 obtain ⟨out, h1, h2⟩ := goS_none n E n [] h
 simp only [List.length_nil, Nat.zero_add] at h2
 intro hno
 rw [firstS_none] at hno
 obtain ⟨k0, hk0, hk1⟩ : ∃ k, k < n ∧ out.contains k = false := by
  rcases Classical.em (∃ k, k < n ∧ out.contains k = false) with h | h
  · exact h
  · exfalso
    have := sub_length (List.range n) out List.nodup_range fun k hk => by
     rcases Classical.em (k ∈ out) with h3 | h3
     · exact h3
     · exact absurd ⟨k, List.mem_range.1 hk, by simpa using h3⟩ h
    simp at this; omega
 have prev : ∀ k, ∃ x, k < n → out.contains k = false → x < n ∧ out.contains x = false ∧ (x, k) ∈ E := fun k => by
  rcases Classical.em (k < n ∧ out.contains k = false) with ⟨a, b⟩ | hn
  · have := List.find?_eq_none.1 h1 k (List.mem_range.2 a)
    simp only [stepP, b, Bool.not_false, Bool.true_and, Bool.not_not, Bool.not_eq_true', Bool.not_eq_false] at this
    obtain ⟨x, hx1, hx2⟩ := waitsF_true (E := E) (done := fun k => out.contains k) (k := k) (by simpa using this)
    exact ⟨x, fun _ _ => ⟨(hE _ hx1).1, hx2, hx1⟩⟩
  · exact ⟨0, fun a b => absurd ⟨a, b⟩ hn⟩
 obtain ⟨f, hf⟩ := Classical.axiomOfChoice prev
 let y : Nat → Nat := fun i => Nat.rec k0 (fun _ k => f k) i
 have ok : ∀ i, y i < n ∧ out.contains (y i) = false := by
  intro i
  induction i with
  | zero => exact ⟨hk0, hk1⟩
  | succ i ih => exact ⟨(hf (y i) ih.1 ih.2).1, (hf (y i) ih.1 ih.2).2.1⟩
 have way : ∀ d i, wk E d (y (i + d)) (y i) := by
  intro d
  induction d with
  | zero => intro i; rfl
  | succ d ih =>
    intro i
    have a := wk_add (wk_one.2 (hf (y (i + d)) (ok _).1 (ok _).2).2.2) (ih i)
    rw [Nat.add_comm] at a
    exact a
 have nd : ((List.range (n + 1)).map y).Nodup := by
  rw [List.nodup_iff_pairwise_ne, List.pairwise_map]
  refine List.Pairwise.imp ?_ List.pairwise_lt_range
  intro a b hab e
  have w := way (b - a) a
  rw [show a + (b - a) = b by omega, ← e] at w
  have := hno (y a) (ok a).1
  have := (dist_le (by omega) w).1
  omega
 have := sub_length _ (List.range n) nd fun z hz => by
  obtain ⟨i, _, rfl⟩ := List.mem_map.1 hz
  exact List.mem_range.2 (ok i).1
 simp at this; omega
end Go.Proofs.Ytbhgjikjdblgeaa.W

/- Edges by numbers. No conditions. -/
namespace Go.Proofs.Ytbhgjikjdblgeaa.W
open Go.Am Go.Am.Ord Go.Am.Scc
def madeT (n : Int) (l : List Int) (j : Nat) : List (Int × Int) := (List.range j).map fun i => (pickF (l.getD (2 * i) 0) n, pickF (l.getD (2 * i + 1) 0) n)
def madeG (n : Int) (l : List Int) : List (Int × Int) := if 0 < n then madeT n l (l.length / 2) else []
theorem madeT_len (n : Int) (l : List Int) (j : Nat) : (madeT n l j).length = j := by simp [madeT]
theorem madeT_succ (n : Int) (l : List Int) (j : Nat) : madeT n l (j + 1) = madeT n l j ++ [(pickF (l.getD (2 * j) 0) n, pickF (l.getD (2 * j + 1) 0) n)] := by simp [madeT, List.range_succ]
theorem made_v {n : Int} {l : List Int} (hn : n < 1000000000) (hl : l.length < 100000) : Vm.VC T 27 [.atom (.int .i64 n), .imm 1 (l.map dI)] fun d => d = .fresh 2 ((madeG n l).map dE) := by
 refine Vm.vc_enter (T := T) rfl Try.func27 rfl (by simp only [Try.f27, List.length_cons, List.length_nil]; decide) fun g hB hG0 => ?_
 simp only [Try.f27, Vm.argsTm_cons, Vm.argsTm_nil, Nat.reduceAdd]
 (repeat (first | with_reducible refine Vm.sk_region _ _ ?_ | simp (maxSteps := 10000000) (disch := first | assumption | (simp only [tyfacts, Vm.szO_eq, Am.vd, Nat.reduceEqDiff, Nat.reduceLT, Nat.reduceLeDiff, Nat.reduceMul, Nat.reduceAdd, reduceCtorEq]; try omega; done) | omega | (intro _; exact Vm.byRefl (by with_unfolding_all rfl))) only [Vm.wantedD, Am.va, Nat.reduceAdd, Nat.reduceMul, Nat.reduceSub, Nat.reduceLT, Nat.reduceLeDiff, Nat.reduceEqDiff, Int.reduceAdd, Int.reduceLT, Int.reduceLE, Int.reduceNeg, reduceCtorEq, ↓reduceIte, tyfacts]))
 refine Vm.sk_nil 5 2 (by simp (maxSteps := 10000000) (disch := first | assumption | (simp only [tyfacts, Vm.szO_eq, Am.vd, Nat.reduceEqDiff, Nat.reduceLT, Nat.reduceLeDiff, Nat.reduceMul, Nat.reduceAdd, reduceCtorEq]; try omega; done) | omega | (intro _; exact Vm.byRefl (by with_unfolding_all rfl))) only [Vm.wantedD, Am.va, Nat.reduceAdd, Nat.reduceMul, Nat.reduceSub, Nat.reduceLT, Nat.reduceLeDiff, Nat.reduceEqDiff, Int.reduceAdd, Int.reduceLT, Int.reduceLE, Int.reduceNeg, reduceCtorEq, ↓reduceIte, tyfacts]) ?_
 (repeat (first | with_reducible refine Vm.sk_region _ _ ?_ | simp (maxSteps := 10000000) (disch := first | assumption | (simp only [tyfacts, Vm.szO_eq, Am.vd, Nat.reduceEqDiff, Nat.reduceLT, Nat.reduceLeDiff, Nat.reduceMul, Nat.reduceAdd, reduceCtorEq]; try omega; done) | omega | (intro _; exact Vm.byRefl (by with_unfolding_all rfl))) only [Vm.wantedD, Am.va, Nat.reduceAdd, Nat.reduceMul, Nat.reduceSub, Nat.reduceLT, Nat.reduceLeDiff, Nat.reduceEqDiff, Int.reduceAdd, Int.reduceLT, Int.reduceLE, Int.reduceNeg, reduceCtorEq, ↓reduceIte, tyfacts]))
 refine Vm.sk_loop (fun j : Nat => l.length - 2 * j) (fun j => ⟨[(0, .atom (.int .i64 n)), (1, .imm 1 (l.map dI)), (5, .own 0 j), (6, .atom (.int .i64 (2 * (j : Int))))], [.sl 2 ((madeT n l j).map dE)], 36⟩) (fun j => 2 * j ≤ l.length ∧ (0 < n ∨ j = 0)) 0 ?_ ⟨by omega, .inr rfl⟩ ?_
 · have e : madeT n l 0 = [] := rfl
   exact Vm.le_of2 (by rw [hG0]; exact Nat.zero_le _) rfl (by simp (maxSteps := 10000000) (disch := first | assumption | (simp only [tyfacts, Vm.szO_eq, Am.vd, Nat.reduceEqDiff, Nat.reduceLT, Nat.reduceLeDiff, Nat.reduceMul, Nat.reduceAdd, reduceCtorEq]; try omega; done) | omega | (intro _; exact Vm.byRefl (by with_unfolding_all rfl))) only [Vm.wantedD, Am.va, Nat.reduceAdd, Nat.reduceMul, Nat.reduceSub, Nat.reduceLT, Nat.reduceLeDiff, Nat.reduceEqDiff, Int.reduceAdd, Int.reduceLT, Int.reduceLE, Int.reduceNeg, reduceCtorEq, ↓reduceIte, tyfacts, e, Int.mul_zero])
 rintro j ⟨hj, hj2⟩ ih
 have hlen := madeT_len n l j
 by_cases h0 : n > 0
 · have hG : madeG n l = madeT n l (l.length / 2) := if_pos h0
   (repeat (first | with_reducible refine Vm.sk_region _ _ ?_ | simp (maxSteps := 10000000) (disch := first | assumption | (simp only [tyfacts, Vm.szO_eq, Am.vd, Nat.reduceEqDiff, Nat.reduceLT, Nat.reduceLeDiff, Nat.reduceMul, Nat.reduceAdd, reduceCtorEq]; try omega; done) | omega | (intro _; exact Vm.byRefl (by with_unfolding_all rfl))) only [Vm.wantedD, Am.va, Nat.reduceAdd, Nat.reduceMul, Nat.reduceSub, Nat.reduceLT, Nat.reduceLeDiff, Nat.reduceEqDiff, Int.reduceAdd, Int.reduceLT, Int.reduceLE, Int.reduceNeg, reduceCtorEq, ↓reduceIte, tyfacts, h0]))
   refine Vm.sb_dec (fun hc => ?_) (fun hc => ?_)
   · have h1 : l[2 * j]? = some (l.getD (2 * j) 0) := by rw [List.getD_eq_getElem?_getD, List.getElem?_eq_getElem (by omega)]; rfl
     have h2 : l[2 * j + 1]? = some (l.getD (2 * j + 1) 0) := by rw [List.getD_eq_getElem?_getD, List.getElem?_eq_getElem (by omega)]; rfl
     have e1 : (2 * (j : Int)).toNat = 2 * j := by omega
     have e2 : (2 * (j : Int) + 1).toNat = 2 * j + 1 := by omega
     (repeat (first | with_reducible refine Vm.sk_region _ _ ?_ | simp (maxSteps := 10000000) (disch := first | assumption | (simp only [tyfacts, Vm.szO_eq, Am.vd, Nat.reduceEqDiff, Nat.reduceLT, Nat.reduceLeDiff, Nat.reduceMul, Nat.reduceAdd, reduceCtorEq]; try omega; done) | omega | (intro _; exact Vm.byRefl (by with_unfolding_all rfl))) only [Vm.wantedD, Am.va, Nat.reduceAdd, Nat.reduceMul, Nat.reduceSub, Nat.reduceLT, Nat.reduceLeDiff, Nat.reduceEqDiff, Int.reduceAdd, Int.reduceLT, Int.reduceLE, Int.reduceNeg, reduceCtorEq, ↓reduceIte, tyfacts]))
     refine Vm.sk_draw2 18 [1,2,3,4,5,6,7,8,9,10,11,12,13,0,14,15,16,17] [0,0,0,6,14,0,62,0,0,256,896,1920,0,8190,16382,32766,65535,131071] (by kernel_rfl) (by kernel_rfl) (by decide) ?_
     (repeat (first | with_reducible refine Vm.sk_region _ _ ?_ | simp (maxSteps := 10000000) (disch := first | assumption | (simp only [tyfacts, Vm.szO_eq, Am.vd, Nat.reduceEqDiff, Nat.reduceLT, Nat.reduceLeDiff, Nat.reduceMul, Nat.reduceAdd, reduceCtorEq]; try omega; done) | omega | (intro _; exact Vm.byRefl (by with_unfolding_all rfl))) only [Vm.wantedD, Am.va, Nat.reduceAdd, Nat.reduceMul, Nat.reduceSub, Nat.reduceLT, Nat.reduceLeDiff, Nat.reduceEqDiff, Int.reduceAdd, Int.reduceLT, Int.reduceLE, Int.reduceNeg, reduceCtorEq, ↓reduceIte, tyfacts, Am.vt, Am.reads, Am.quiet, Am.isAlloc, Nat.testBit, Nat.reduceShiftRight, Nat.reduceAnd, Nat.reduceBNe, h1, h2, dI, e1, e2]))
     refine Vm.callQ_eq2 (pick_v (x := l.getD (2 * j) 0) (n := n) hn) ?_ ?_ <;> (repeat (first | with_reducible refine Vm.sk_region _ _ ?_ | simp (maxSteps := 10000000) (disch := first | assumption | (simp only [tyfacts, Vm.szO_eq, Am.vd, Nat.reduceEqDiff, Nat.reduceLT, Nat.reduceLeDiff, Nat.reduceMul, Nat.reduceAdd, reduceCtorEq]; try omega; done) | omega | (intro _; exact Vm.byRefl (by with_unfolding_all rfl))) only [Vm.wantedD, Am.va, Nat.reduceAdd, Nat.reduceMul, Nat.reduceSub, Nat.reduceLT, Nat.reduceLeDiff, Nat.reduceEqDiff, Int.reduceAdd, Int.reduceLT, Int.reduceLE, Int.reduceNeg, reduceCtorEq, ↓reduceIte, tyfacts, Am.vt, Am.reads, Am.quiet, Am.isAlloc, Nat.testBit, Nat.reduceShiftRight, Nat.reduceAnd, Nat.reduceBNe, h1, h2, dI, e1, e2]))
     refine Vm.callQ_eq2 (pick_v (x := l.getD (2 * j + 1) 0) (n := n) hn) ?_ ?_ <;> (repeat (first | with_reducible refine Vm.sk_region _ _ ?_ | simp (maxSteps := 10000000) (disch := first | assumption | (simp only [tyfacts, Vm.szO_eq, Am.vd, Nat.reduceEqDiff, Nat.reduceLT, Nat.reduceLeDiff, Nat.reduceMul, Nat.reduceAdd, reduceCtorEq]; try omega; done) | omega | (intro _; exact Vm.byRefl (by with_unfolding_all rfl))) only [Vm.wantedD, Am.va, Nat.reduceAdd, Nat.reduceMul, Nat.reduceSub, Nat.reduceLT, Nat.reduceLeDiff, Nat.reduceEqDiff, Int.reduceAdd, Int.reduceLT, Int.reduceLE, Int.reduceNeg, reduceCtorEq, ↓reduceIte, tyfacts, Am.vt, Am.reads, Am.quiet, Am.isAlloc, Nat.testBit, Nat.reduceShiftRight, Nat.reduceAnd, Nat.reduceBNe, h1, h2, dI, e1, e2]))
     have e3 : 2 * (j : Int) + 2 = 2 * ((j : Int) + 1) := by omega
     have e4 := madeT_succ n l j
     refine ih (j + 1) _ (by dsimp only; omega) ⟨by omega, .inl h0⟩ ?_
     exact Vm.le_of2 (by rw [hG0]; exact Nat.zero_le _) rfl (by simp (maxSteps := 10000000) (disch := first | assumption | (simp only [tyfacts, Vm.szO_eq, Am.vd, Nat.reduceEqDiff, Nat.reduceLT, Nat.reduceLeDiff, Nat.reduceMul, Nat.reduceAdd, reduceCtorEq]; try omega; done) | omega | (intro _; exact Vm.byRefl (by with_unfolding_all rfl))) only [Vm.wantedD, Am.va, Nat.reduceAdd, Nat.reduceMul, Nat.reduceSub, Nat.reduceLT, Nat.reduceLeDiff, Nat.reduceEqDiff, Int.reduceAdd, Int.reduceLT, Int.reduceLE, Int.reduceNeg, reduceCtorEq, ↓reduceIte, tyfacts, e3, e4, dE, List.map_append])
   · (repeat (first | with_reducible refine Vm.sk_region _ _ ?_ | simp (maxSteps := 10000000) (disch := first | assumption | (simp only [tyfacts, Vm.szO_eq, Am.vd, Nat.reduceEqDiff, Nat.reduceLT, Nat.reduceLeDiff, Nat.reduceMul, Nat.reduceAdd, reduceCtorEq]; try omega; done) | omega | (intro _; exact Vm.byRefl (by with_unfolding_all rfl))) only [Vm.wantedD, Am.va, Nat.reduceAdd, Nat.reduceMul, Nat.reduceSub, Nat.reduceLT, Nat.reduceLeDiff, Nat.reduceEqDiff, Int.reduceAdd, Int.reduceLT, Int.reduceLE, Int.reduceNeg, reduceCtorEq, ↓reduceIte, tyfacts]))
     refine Vm.ret_ok (by first | exact .inl rfl | exact .inr rfl) ?_
     simp (maxSteps := 10000000) (disch := first | assumption | (simp only [tyfacts, Vm.szO_eq, Am.vd, Nat.reduceEqDiff, Nat.reduceLT, Nat.reduceLeDiff, Nat.reduceMul, Nat.reduceAdd, reduceCtorEq]; try omega; done) | omega | (intro _; exact Vm.byRefl (by with_unfolding_all rfl))) only [Vm.wantedD, Am.va, Nat.reduceAdd, Nat.reduceMul, Nat.reduceSub, Nat.reduceLT, Nat.reduceLeDiff, Nat.reduceEqDiff, Int.reduceAdd, Int.reduceLT, Int.reduceLE, Int.reduceNeg, reduceCtorEq, ↓reduceIte, tyfacts]
     rw [hG, show l.length / 2 = j by omega]
 · (repeat (first | with_reducible refine Vm.sk_region _ _ ?_ | simp (maxSteps := 10000000) (disch := first | assumption | (simp only [tyfacts, Vm.szO_eq, Am.vd, Nat.reduceEqDiff, Nat.reduceLT, Nat.reduceLeDiff, Nat.reduceMul, Nat.reduceAdd, reduceCtorEq]; try omega; done) | omega | (intro _; exact Vm.byRefl (by with_unfolding_all rfl))) only [Vm.wantedD, Am.va, Nat.reduceAdd, Nat.reduceMul, Nat.reduceSub, Nat.reduceLT, Nat.reduceLeDiff, Nat.reduceEqDiff, Int.reduceAdd, Int.reduceLT, Int.reduceLE, Int.reduceNeg, reduceCtorEq, ↓reduceIte, tyfacts, h0]))
   refine Vm.ret_ok (by first | exact .inl rfl | exact .inr rfl) ?_
   simp (maxSteps := 10000000) (disch := first | assumption | (simp only [tyfacts, Vm.szO_eq, Am.vd, Nat.reduceEqDiff, Nat.reduceLT, Nat.reduceLeDiff, Nat.reduceMul, Nat.reduceAdd, reduceCtorEq]; try omega; done) | omega | (intro _; exact Vm.byRefl (by with_unfolding_all rfl))) only [Vm.wantedD, Am.va, Nat.reduceAdd, Nat.reduceMul, Nat.reduceSub, Nat.reduceLT, Nat.reduceLeDiff, Nat.reduceEqDiff, Int.reduceAdd, Int.reduceLT, Int.reduceLE, Int.reduceNeg, reduceCtorEq, ↓reduceIte, tyfacts]
   obtain rfl : j = 0 := by omega
   rw [madeG, if_neg h0]; rfl
end Go.Proofs.Ytbhgjikjdblgeaa.W

/- The law of orders. No conditions. -/
namespace Go.Proofs.Ytbhgjikjdblgeaa.W
open Go.Am Go.Am.Ord Go.Am.Scc
theorem madeG_len (n : Int) (l : List Int) : (madeG n l).length ≤ l.length := by
 unfold madeG
 split
 · rw [madeT_len]; omega
 · simp
theorem made_graph {n : Int} (h0 : 0 ≤ n) (h1 : n < 4096) {l : List Int} (hl : l.length ≤ 1000) : ∃ (m : Nat) (E : Es), n = (m : Int) ∧ madeG n l = castE E ∧ (∀ p, p ∈ E → p.1 < m ∧ p.2 < m) ∧ natE (castE E) = E ∧ checkS n (castE E) = 0 ∧ E.length ≤ l.length := by
 have hb : ∀ p, p ∈ madeG n l → 0 ≤ p.1 ∧ p.1 < n ∧ 0 ≤ p.2 ∧ p.2 < n := by
  intro p hp
  unfold madeG at hp
  split at hp
  · rename_i h
    obtain ⟨i, _, rfl⟩ := List.mem_map.1 hp
    have a := pickF_lt (n := l.getD (2 * i) 0) h
    have b := pickF_lt (n := l.getD (2 * i + 1) 0) h
    exact ⟨a.1, a.2, b.1, b.2⟩
  · cases hp
 have hlen := madeG_len n l
 generalize madeG n l = es at hb hlen
 have hc : checkS n es = 0 := by
  unfold checkS
  rw [if_neg (by omega), if_neg (by omega), if_neg]
  rw [List.any_eq_true]
  rintro ⟨p, hp, h⟩
  have := hb p hp
  simp only [badE, Bool.or_eq_true, decide_eq_true_eq] at h
  omega
 obtain ⟨c1, c2, c3, c4, c5⟩ := check_zeroS hc
 refine ⟨n.toNat, natE es, by omega, c4.symm, c5, by rw [c4], by rw [c4]; exact hc, by simp [natE]; exact hlen⟩
def doneF (o : List Nat) (i k : Nat) : Bool := (o.take i).contains k
theorem doneF_zero (o : List Nat) : doneF o 0 = fun _ => false := by funext k; simp [doneF]
theorem waitsF_succ {E : Es} {done : Nat → Bool} {k j : Nat} {p : Nat × Nat} (h : E.take (j + 1) = E.take j ++ [p]) : waitsF (E.take (j + 1)) done k = (waitsF (E.take j) done k || (decide (p.2 = k) && !done p.1)) := by rw [h]; simp [waitsF]
set_option maxHeartbeats 2000000 in
theorem order_v (n : Int) (l : List Int) : Vm.VC T 5 [.atom (.int .i64 n), .imm 1 (l.map dI)] fun d => d = .atom (.bool true) := by
 refine Vm.vc_enter (T := T) rfl Try.func5 rfl (by simp only [Try.f5, List.length_cons, List.length_nil]; decide) fun g hB hG0 => ?_
 simp only [Try.f5, Vm.argsTm_cons, Vm.argsTm_nil, Nat.reduceAdd]
 (repeat (first | with_reducible refine Vm.sk_region _ _ ?_ | simp (maxSteps := 10000000) (disch := first | assumption | (simp only [tyfacts, Vm.szO_eq, Am.vd, Nat.reduceEqDiff, Nat.reduceLT, Nat.reduceLeDiff, Nat.reduceMul, Nat.reduceAdd, reduceCtorEq]; try omega; done) | omega | (intro _; exact Vm.byRefl (by with_unfolding_all rfl))) only [Vm.wantedD, Am.va, Nat.reduceAdd, Nat.reduceMul, Nat.reduceSub, Nat.reduceLT, Nat.reduceLeDiff, Nat.reduceEqDiff, Int.reduceAdd, Int.reduceLT, Int.reduceLE, Int.reduceNeg, reduceCtorEq, ↓reduceIte, tyfacts]))
 refine Vm.call_eq2 (known_v) ?_ ?_ <;> (repeat (first | with_reducible refine Vm.sk_region _ _ ?_ | simp (maxSteps := 10000000) (disch := first | assumption | (simp only [tyfacts, Vm.szO_eq, Am.vd, Nat.reduceEqDiff, Nat.reduceLT, Nat.reduceLeDiff, Nat.reduceMul, Nat.reduceAdd, reduceCtorEq]; try omega; done) | omega | (intro _; exact Vm.byRefl (by with_unfolding_all rfl))) only [Vm.wantedD, Am.va, Nat.reduceAdd, Nat.reduceMul, Nat.reduceSub, Nat.reduceLT, Nat.reduceLeDiff, Nat.reduceEqDiff, Int.reduceAdd, Int.reduceLT, Int.reduceLE, Int.reduceNeg, reduceCtorEq, ↓reduceIte, tyfacts]))
 refine Vm.call_eq2 (pick_v (x := n) (n := 21) (by decide)) ?_ ?_ <;> (repeat (first | with_reducible refine Vm.sk_region _ _ ?_ | simp (maxSteps := 10000000) (disch := first | assumption | (simp only [tyfacts, Vm.szO_eq, Am.vd, Nat.reduceEqDiff, Nat.reduceLT, Nat.reduceLeDiff, Nat.reduceMul, Nat.reduceAdd, reduceCtorEq]; try omega; done) | omega | (intro _; exact Vm.byRefl (by with_unfolding_all rfl))) only [Vm.wantedD, Am.va, Nat.reduceAdd, Nat.reduceMul, Nat.reduceSub, Nat.reduceLT, Nat.reduceLeDiff, Nat.reduceEqDiff, Int.reduceAdd, Int.reduceLT, Int.reduceLE, Int.reduceNeg, reduceCtorEq, ↓reduceIte, tyfacts]))
 obtain ⟨m0, m1⟩ := pickF_lt (n := n) (m := 21) (by decide)
 generalize pickF n 21 = m at m0 m1 ⊢
 refine Vm.sb_dec (fun hc => ?_) (fun hc => ?_)
 · (repeat (first | with_reducible refine Vm.sk_region _ _ ?_ | simp (maxSteps := 10000000) (disch := first | assumption | (simp only [tyfacts, Vm.szO_eq, Am.vd, Nat.reduceEqDiff, Nat.reduceLT, Nat.reduceLeDiff, Nat.reduceMul, Nat.reduceAdd, reduceCtorEq]; try omega; done) | omega | (intro _; exact Vm.byRefl (by with_unfolding_all rfl))) only [Vm.wantedD, Am.va, Nat.reduceAdd, Nat.reduceMul, Nat.reduceSub, Nat.reduceLT, Nat.reduceLeDiff, Nat.reduceEqDiff, Int.reduceAdd, Int.reduceLT, Int.reduceLE, Int.reduceNeg, reduceCtorEq, ↓reduceIte, tyfacts]))
   refine Vm.ret_ok (by first | exact .inl rfl | exact .inr rfl) ?_
   simp (maxSteps := 10000000) (disch := first | assumption | (simp only [tyfacts, Vm.szO_eq, Am.vd, Nat.reduceEqDiff, Nat.reduceLT, Nat.reduceLeDiff, Nat.reduceMul, Nat.reduceAdd, reduceCtorEq]; try omega; done) | omega | (intro _; exact Vm.byRefl (by with_unfolding_all rfl))) only [Vm.wantedD, Am.va, Nat.reduceAdd, Nat.reduceMul, Nat.reduceSub, Nat.reduceLT, Nat.reduceLeDiff, Nat.reduceEqDiff, Int.reduceAdd, Int.reduceLT, Int.reduceLE, Int.reduceNeg, reduceCtorEq, ↓reduceIte, tyfacts]
 have hll : l.length ≤ 120 := by omega
 (repeat (first | with_reducible refine Vm.sk_region _ _ ?_ | simp (maxSteps := 10000000) (disch := first | assumption | (simp only [tyfacts, Vm.szO_eq, Am.vd, Nat.reduceEqDiff, Nat.reduceLT, Nat.reduceLeDiff, Nat.reduceMul, Nat.reduceAdd, reduceCtorEq]; try omega; done) | omega | (intro _; exact Vm.byRefl (by with_unfolding_all rfl))) only [Vm.wantedD, Am.va, Nat.reduceAdd, Nat.reduceMul, Nat.reduceSub, Nat.reduceLT, Nat.reduceLeDiff, Nat.reduceEqDiff, Int.reduceAdd, Int.reduceLT, Int.reduceLE, Int.reduceNeg, reduceCtorEq, ↓reduceIte, tyfacts]))
 refine Vm.call_eq2 (made_v (n := m) (l := l) (by omega) (by omega)) ?_ ?_ <;> (repeat (first | with_reducible refine Vm.sk_region _ _ ?_ | simp (maxSteps := 10000000) (disch := first | assumption | (simp only [tyfacts, Vm.szO_eq, Am.vd, Nat.reduceEqDiff, Nat.reduceLT, Nat.reduceLeDiff, Nat.reduceMul, Nat.reduceAdd, reduceCtorEq]; try omega; done) | omega | (intro _; exact Vm.byRefl (by with_unfolding_all rfl))) only [Vm.wantedD, Am.va, Nat.reduceAdd, Nat.reduceMul, Nat.reduceSub, Nat.reduceLT, Nat.reduceLeDiff, Nat.reduceEqDiff, Int.reduceAdd, Int.reduceLT, Int.reduceLE, Int.reduceNeg, reduceCtorEq, ↓reduceIte, tyfacts]))
 obtain ⟨N, E, rfl, e1, hE, e2, e3, hEl⟩ := made_graph m0 (by omega) (l := l) (by omega)
 rw [e1]
 have hcl := castE_len E
 (repeat (first | with_reducible refine Vm.sk_region _ _ ?_ | simp (maxSteps := 10000000) (disch := first | assumption | (simp only [tyfacts, Vm.szO_eq, Am.vd, Nat.reduceEqDiff, Nat.reduceLT, Nat.reduceLeDiff, Nat.reduceMul, Nat.reduceAdd, reduceCtorEq]; try omega; done) | omega | (intro _; exact Vm.byRefl (by with_unfolding_all rfl))) only [Vm.wantedD, Am.va, Nat.reduceAdd, Nat.reduceMul, Nat.reduceSub, Nat.reduceLT, Nat.reduceLeDiff, Nat.reduceEqDiff, Int.reduceAdd, Int.reduceLT, Int.reduceLE, Int.reduceNeg, reduceCtorEq, ↓reduceIte, tyfacts]))
 refine Vm.call_eq2 (sccOrder_v (n := N) (es := castE E) (by omega)) ?_ ?_ <;> (repeat (first | with_reducible refine Vm.sk_region _ _ ?_ | simp (maxSteps := 10000000) (disch := first | assumption | (simp only [tyfacts, Vm.szO_eq, Am.vd, Nat.reduceEqDiff, Nat.reduceLT, Nat.reduceLeDiff, Nat.reduceMul, Nat.reduceAdd, reduceCtorEq]; try omega; done) | omega | (intro _; exact Vm.byRefl (by with_unfolding_all rfl))) only [Vm.wantedD, Am.va, Nat.reduceAdd, Nat.reduceMul, Nat.reduceSub, Nat.reduceLT, Nat.reduceLeDiff, Nat.reduceEqDiff, Int.reduceAdd, Int.reduceLT, Int.reduceLE, Int.reduceNeg, reduceCtorEq, ↓reduceIte, tyfacts, two_d]))
 refine Vm.call_eq2 (sccCycle_v (n := N) (es := castE E) (by omega)) ?_ ?_ <;> (repeat (first | with_reducible refine Vm.sk_region _ _ ?_ | simp (maxSteps := 10000000) (disch := first | assumption | (simp only [tyfacts, Vm.szO_eq, Am.vd, Nat.reduceEqDiff, Nat.reduceLT, Nat.reduceLeDiff, Nat.reduceMul, Nat.reduceAdd, reduceCtorEq]; try omega; done) | omega | (intro _; exact Vm.byRefl (by with_unfolding_all rfl))) only [Vm.wantedD, Am.va, Nat.reduceAdd, Nat.reduceMul, Nat.reduceSub, Nat.reduceLT, Nat.reduceLeDiff, Nat.reduceEqDiff, Int.reduceAdd, Int.reduceLT, Int.reduceLE, Int.reduceNeg, reduceCtorEq, ↓reduceIte, tyfacts, two_d]))
 have ho : ordF N (castE E) = match goS N E N [] with
   | some o => (castL o, 0)
   | none => ([], 17) := by rw [ordF, if_neg (by rw [e3]; simp), e2]; rfl
 have hy : cycF N (castE E) = match firstS N E with
   | some s => (castL (pathS N E s (dist E s s - 1) s), 0)
   | none => ([], 14) := by rw [cycF, if_neg (by rw [e3]; simp), e2]; rfl
 cases hg : goS N E N [] with
 | none =>
   rw [hg] at ho
   simp only at ho
   cases hf : firstS N E with
   | none => exact absurd hf (none_cyclic hE hg)
   | some s =>
     rw [hf] at hy
     simp only at hy
     generalize castL (pathS N E s (dist E s s - 1) s) = ys at hy
     rw [ho, hy]
     clear ho hy e3 e2 e1 hf hg
     (repeat (first | with_reducible refine Vm.sk_region _ _ ?_ | simp (maxSteps := 10000000) (disch := first | assumption | (simp only [tyfacts, Vm.szO_eq, Am.vd, Nat.reduceEqDiff, Nat.reduceLT, Nat.reduceLeDiff, Nat.reduceMul, Nat.reduceAdd, reduceCtorEq]; try omega; done) | omega | (intro _; exact Vm.byRefl (by with_unfolding_all rfl))) only [Vm.wantedD, Am.va, Nat.reduceAdd, Nat.reduceMul, Nat.reduceSub, Nat.reduceLT, Nat.reduceLeDiff, Nat.reduceEqDiff, Int.reduceAdd, Int.reduceLT, Int.reduceLE, Int.reduceNeg, reduceCtorEq, ↓reduceIte, tyfacts, Int.reduceEq]))
     refine Vm.ret_ok (by first | exact .inl rfl | exact .inr rfl) ?_
     simp (maxSteps := 10000000) (disch := first | assumption | (simp only [tyfacts, Vm.szO_eq, Am.vd, Nat.reduceEqDiff, Nat.reduceLT, Nat.reduceLeDiff, Nat.reduceMul, Nat.reduceAdd, reduceCtorEq]; try omega; done) | omega | (intro _; exact Vm.byRefl (by with_unfolding_all rfl))) only [Vm.wantedD, Am.va, Nat.reduceAdd, Nat.reduceMul, Nat.reduceSub, Nat.reduceLT, Nat.reduceLeDiff, Nat.reduceEqDiff, Int.reduceAdd, Int.reduceLT, Int.reduceLE, Int.reduceNeg, reduceCtorEq, ↓reduceIte, tyfacts]
 | some o =>
   obtain ⟨ol, ond, ost, oac⟩ := ord_acyclic hE hg
   rw [hg] at ho
   rw [oac] at hy
   simp only at ho hy
   rw [ho, hy]
   clear ho hy e3 e2 e1 hg oac
   have hol : (castL o).length = N := by rw [castL_len, ol]
   have hne : ¬ ((N : Int) ≠ N) := fun h => h rfl
   (repeat (first | with_reducible refine Vm.sk_region _ _ ?_ | simp (maxSteps := 10000000) (disch := first | assumption | (simp only [tyfacts, Vm.szO_eq, Am.vd, Nat.reduceEqDiff, Nat.reduceLT, Nat.reduceLeDiff, Nat.reduceMul, Nat.reduceAdd, reduceCtorEq]; try omega; done) | omega | (intro _; exact Vm.byRefl (by with_unfolding_all rfl))) only [Vm.wantedD, Am.va, Nat.reduceAdd, Nat.reduceMul, Nat.reduceSub, Nat.reduceLT, Nat.reduceLeDiff, Nat.reduceEqDiff, Int.reduceAdd, Int.reduceLT, Int.reduceLE, Int.reduceNeg, reduceCtorEq, ↓reduceIte, tyfacts, Int.reduceEq, hol, hcl, boolD_false]))
   refine Vm.sk_loop (fun i : Nat => N - i) (fun i => ⟨[(0, .atom (.int .i64 N)), (5, .atom (.bool true)), (6, .own 0 E.length), (7, .own 1 N), (11, .own 3 N), (12, .atom (.int .i64 i))],
    [.sl 2 ((castE E).map dE), .sl 1 ((castL o).map dI), .sl 1 [], .sl 1 (boolD N (doneF o i))], 148⟩) (fun i => i ≤ N) 0 ?_ (by omega) ?_
   · have e := doneF_zero o
     exact Vm.le_of2 (by rw [hG0]; exact Nat.zero_le _) rfl (by simp (maxSteps := 10000000) (disch := first | assumption | (simp only [tyfacts, Vm.szO_eq, Am.vd, Nat.reduceEqDiff, Nat.reduceLT, Nat.reduceLeDiff, Nat.reduceMul, Nat.reduceAdd, reduceCtorEq]; try omega; done) | omega | (intro _; exact Vm.byRefl (by with_unfolding_all rfl))) only [Vm.wantedD, Am.va, Nat.reduceAdd, Nat.reduceMul, Nat.reduceSub, Nat.reduceLT, Nat.reduceLeDiff, Nat.reduceEqDiff, Int.reduceAdd, Int.reduceLT, Int.reduceLE, Int.reduceNeg, reduceCtorEq, ↓reduceIte, tyfacts, e, hcl, hol])
   intro i hi ih
   (repeat (first | with_reducible refine Vm.sk_region _ _ ?_ | simp (maxSteps := 10000000) (disch := first | assumption | (simp only [tyfacts, Vm.szO_eq, Am.vd, Nat.reduceEqDiff, Nat.reduceLT, Nat.reduceLeDiff, Nat.reduceMul, Nat.reduceAdd, reduceCtorEq]; try omega; done) | omega | (intro _; exact Vm.byRefl (by with_unfolding_all rfl))) only [Vm.wantedD, Am.va, Nat.reduceAdd, Nat.reduceMul, Nat.reduceSub, Nat.reduceLT, Nat.reduceLeDiff, Nat.reduceEqDiff, Int.reduceAdd, Int.reduceLT, Int.reduceLE, Int.reduceNeg, reduceCtorEq, ↓reduceIte, tyfacts]))
   refine Vm.sb_dec (fun hq => ?_) (fun hq => ?_)
   · have hio : i < o.length := by omega
     have hx := List.getElem?_eq_getElem hio
     have hst := ost i o[i] hx
     have htk : o.take (i + 1) = o.take i ++ [o[i]] := by rw [List.take_add_one, hx]; rfl
     generalize o[i] = x at hx hst htk
     obtain ⟨x1, x2, x3, x4⟩ := stepS_some hst
     have hg0 := castL_get o i hx
     change doneF o i x = false at x2
     change waitsF E (doneF o i) x = false at x3
     change ∀ k, k < x → doneF o i k = false → waitsF E (doneF o i) k = true at x4
     have hd := boolD_get (f := doneF o i) x1
     have hbl := boolD_len N (doneF o i)
     have hx0 : ¬ ((x : Int) < 0) := by omega
     have hx1 : ¬ ((x : Int) ≥ N) := by omega
     (repeat (first | with_reducible refine Vm.sk_region _ _ ?_ | simp (maxSteps := 10000000) (disch := first | assumption | (simp only [tyfacts, Vm.szO_eq, Am.vd, Nat.reduceEqDiff, Nat.reduceLT, Nat.reduceLeDiff, Nat.reduceMul, Nat.reduceAdd, reduceCtorEq]; try omega; done) | omega | (intro _; exact Vm.byRefl (by with_unfolding_all rfl))) only [Vm.wantedD, Am.va, Nat.reduceAdd, Nat.reduceMul, Nat.reduceSub, Nat.reduceLT, Nat.reduceLeDiff, Nat.reduceEqDiff, Int.reduceAdd, Int.reduceLT, Int.reduceLE, Int.reduceNeg, reduceCtorEq, ↓reduceIte, tyfacts, hg0, dI, hx0, hx1, hd, dB, x2]))
     refine Vm.sk_loop (fun k : Nat => x + 1 - k) (fun k => ⟨[(0, .atom (.int .i64 N)), (5, .atom (.bool true)), (6, .own 0 E.length), (7, .own 1 N), (11, .own 3 N), (12, .atom (.int .i64 i)), (13, .atom (.int .i64 k))],
      [.sl 2 ((castE E).map dE), .sl 1 ((castL o).map dI), .sl 1 [], .sl 1 (boolD N (doneF o i))], 148⟩) (fun k => k ≤ x + 1) 0 ?_ (by omega) ?_
     · exact Vm.le_of2 (by rw [hG0]; exact Nat.zero_le _) rfl (by simp (maxSteps := 10000000) (disch := first | assumption | (simp only [tyfacts, Vm.szO_eq, Am.vd, Nat.reduceEqDiff, Nat.reduceLT, Nat.reduceLeDiff, Nat.reduceMul, Nat.reduceAdd, reduceCtorEq]; try omega; done) | omega | (intro _; exact Vm.byRefl (by with_unfolding_all rfl))) only [Vm.wantedD, Am.va, Nat.reduceAdd, Nat.reduceMul, Nat.reduceSub, Nat.reduceLT, Nat.reduceLeDiff, Nat.reduceEqDiff, Int.reduceAdd, Int.reduceLT, Int.reduceLE, Int.reduceNeg, reduceCtorEq, ↓reduceIte, tyfacts])
     intro k hk ih2
     (repeat (first | with_reducible refine Vm.sk_region _ _ ?_ | simp (maxSteps := 10000000) (disch := first | assumption | (simp only [tyfacts, Vm.szO_eq, Am.vd, Nat.reduceEqDiff, Nat.reduceLT, Nat.reduceLeDiff, Nat.reduceMul, Nat.reduceAdd, reduceCtorEq]; try omega; done) | omega | (intro _; exact Vm.byRefl (by with_unfolding_all rfl))) only [Vm.wantedD, Am.va, Nat.reduceAdd, Nat.reduceMul, Nat.reduceSub, Nat.reduceLT, Nat.reduceLeDiff, Nat.reduceEqDiff, Int.reduceAdd, Int.reduceLT, Int.reduceLE, Int.reduceNeg, reduceCtorEq, ↓reduceIte, tyfacts, hg0, dI]))
     refine Vm.sb_dec (fun hq2 => ?_) (fun hq2 => ?_)
     · have hkx : k ≤ x := by omega
       (repeat (first | with_reducible refine Vm.sk_region _ _ ?_ | simp (maxSteps := 10000000) (disch := first | assumption | (simp only [tyfacts, Vm.szO_eq, Am.vd, Nat.reduceEqDiff, Nat.reduceLT, Nat.reduceLeDiff, Nat.reduceMul, Nat.reduceAdd, reduceCtorEq]; try omega; done) | omega | (intro _; exact Vm.byRefl (by with_unfolding_all rfl))) only [Vm.wantedD, Am.va, Nat.reduceAdd, Nat.reduceMul, Nat.reduceSub, Nat.reduceLT, Nat.reduceLeDiff, Nat.reduceEqDiff, Int.reduceAdd, Int.reduceLT, Int.reduceLE, Int.reduceNeg, reduceCtorEq, ↓reduceIte, tyfacts]))
       refine Vm.sk_loop (fun j : Nat => E.length - j) (fun j => ⟨[(0, .atom (.int .i64 N)), (5, .atom (.bool true)), (6, .own 0 E.length), (7, .own 1 N), (11, .own 3 N), (12, .atom (.int .i64 i)), (13, .atom (.int .i64 k)), (14, .atom (.bool (waitsF (E.take j) (doneF o i) k))), (15, .atom (.int .i64 j))],
        [.sl 2 ((castE E).map dE), .sl 1 ((castL o).map dI), .sl 1 [], .sl 1 (boolD N (doneF o i))], 148⟩) (fun j => j ≤ E.length) 0 ?_ (by omega) ?_
       · have e : waitsF [] (doneF o i) k = false := rfl
         exact Vm.le_of2 (by rw [hG0]; exact Nat.zero_le _) rfl (by simp (maxSteps := 10000000) (disch := first | assumption | (simp only [tyfacts, Vm.szO_eq, Am.vd, Nat.reduceEqDiff, Nat.reduceLT, Nat.reduceLeDiff, Nat.reduceMul, Nat.reduceAdd, reduceCtorEq]; try omega; done) | omega | (intro _; exact Vm.byRefl (by with_unfolding_all rfl))) only [Vm.wantedD, Am.va, Nat.reduceAdd, Nat.reduceMul, Nat.reduceSub, Nat.reduceLT, Nat.reduceLeDiff, Nat.reduceEqDiff, Int.reduceAdd, Int.reduceLT, Int.reduceLE, Int.reduceNeg, reduceCtorEq, ↓reduceIte, tyfacts, e])
       intro j hj ih3
       (repeat (first | with_reducible refine Vm.sk_region _ _ ?_ | simp (maxSteps := 10000000) (disch := first | assumption | (simp only [tyfacts, Vm.szO_eq, Am.vd, Nat.reduceEqDiff, Nat.reduceLT, Nat.reduceLeDiff, Nat.reduceMul, Nat.reduceAdd, reduceCtorEq]; try omega; done) | omega | (intro _; exact Vm.byRefl (by with_unfolding_all rfl))) only [Vm.wantedD, Am.va, Nat.reduceAdd, Nat.reduceMul, Nat.reduceSub, Nat.reduceLT, Nat.reduceLeDiff, Nat.reduceEqDiff, Int.reduceAdd, Int.reduceLT, Int.reduceLE, Int.reduceNeg, reduceCtorEq, ↓reduceIte, tyfacts]))
       refine Vm.sb_dec (fun hq3 => ?_) (fun hq3 => ?_)
       · have hjl : j < E.length := by omega
         have hxe := E_get hjl
         obtain ⟨y1, y2⟩ := hE _ (List.getElem_mem hjl)
         have htj : E.take (j + 1) = E.take j ++ [E[j]] := by rw [List.take_add_one, List.getElem?_eq_getElem hjl]; rfl
         generalize E[j] = p at hxe y1 y2 htj
         have hr := boolD_get (f := doneF o i) y1
         have hw := waitsF_succ (done := doneF o i) (k := k) htj
         cases hwj : waitsF (E.take j) (doneF o i) k with
         | true =>
           (repeat (first | with_reducible refine Vm.sk_region _ _ ?_ | simp (maxSteps := 10000000) (disch := first | assumption | (simp only [tyfacts, Vm.szO_eq, Am.vd, Nat.reduceEqDiff, Nat.reduceLT, Nat.reduceLeDiff, Nat.reduceMul, Nat.reduceAdd, reduceCtorEq]; try omega; done) | omega | (intro _; exact Vm.byRefl (by with_unfolding_all rfl))) only [Vm.wantedD, Am.va, Nat.reduceAdd, Nat.reduceMul, Nat.reduceSub, Nat.reduceLT, Nat.reduceLeDiff, Nat.reduceEqDiff, Int.reduceAdd, Int.reduceLT, Int.reduceLE, Int.reduceNeg, reduceCtorEq, ↓reduceIte, tyfacts, hwj]))
           refine ih3 (j + 1) _ (by dsimp only; omega) (by omega) ?_
           rw [hwj, Bool.true_or] at hw
           exact Vm.le_of2 (by rw [hG0]; exact Nat.zero_le _) rfl (by simp (maxSteps := 10000000) (disch := first | assumption | (simp only [tyfacts, Vm.szO_eq, Am.vd, Nat.reduceEqDiff, Nat.reduceLT, Nat.reduceLeDiff, Nat.reduceMul, Nat.reduceAdd, reduceCtorEq]; try omega; done) | omega | (intro _; exact Vm.byRefl (by with_unfolding_all rfl))) only [Vm.wantedD, Am.va, Nat.reduceAdd, Nat.reduceMul, Nat.reduceSub, Nat.reduceLT, Nat.reduceLeDiff, Nat.reduceEqDiff, Int.reduceAdd, Int.reduceLT, Int.reduceLE, Int.reduceNeg, reduceCtorEq, ↓reduceIte, tyfacts, hw])
         | false =>
           rw [hwj, Bool.false_or] at hw
           by_cases c1 : (p.2 : Int) = k
           · have c2 : p.2 = k := by omega
             (repeat (first | with_reducible refine Vm.sk_region _ _ ?_ | simp (maxSteps := 10000000) (disch := first | assumption | (simp only [tyfacts, Vm.szO_eq, Am.vd, Nat.reduceEqDiff, Nat.reduceLT, Nat.reduceLeDiff, Nat.reduceMul, Nat.reduceAdd, reduceCtorEq]; try omega; done) | omega | (intro _; exact Vm.byRefl (by with_unfolding_all rfl))) only [Vm.wantedD, Am.va, Nat.reduceAdd, Nat.reduceMul, Nat.reduceSub, Nat.reduceLT, Nat.reduceLeDiff, Nat.reduceEqDiff, Int.reduceAdd, Int.reduceLT, Int.reduceLE, Int.reduceNeg, reduceCtorEq, ↓reduceIte, tyfacts, hwj, hxe, dE, c1, hr, dB]))
             refine ih3 (j + 1) _ (by dsimp only; omega) (by omega) ?_
             rw [decide_eq_true c2, Bool.true_and] at hw
             exact Vm.le_of2 (by rw [hG0]; exact Nat.zero_le _) rfl (by simp (maxSteps := 10000000) (disch := first | assumption | (simp only [tyfacts, Vm.szO_eq, Am.vd, Nat.reduceEqDiff, Nat.reduceLT, Nat.reduceLeDiff, Nat.reduceMul, Nat.reduceAdd, reduceCtorEq]; try omega; done) | omega | (intro _; exact Vm.byRefl (by with_unfolding_all rfl))) only [Vm.wantedD, Am.va, Nat.reduceAdd, Nat.reduceMul, Nat.reduceSub, Nat.reduceLT, Nat.reduceLeDiff, Nat.reduceEqDiff, Int.reduceAdd, Int.reduceLT, Int.reduceLE, Int.reduceNeg, reduceCtorEq, ↓reduceIte, tyfacts, hw])
           · have c2 : ¬ p.2 = k := by omega
             (repeat (first | with_reducible refine Vm.sk_region _ _ ?_ | simp (maxSteps := 10000000) (disch := first | assumption | (simp only [tyfacts, Vm.szO_eq, Am.vd, Nat.reduceEqDiff, Nat.reduceLT, Nat.reduceLeDiff, Nat.reduceMul, Nat.reduceAdd, reduceCtorEq]; try omega; done) | omega | (intro _; exact Vm.byRefl (by with_unfolding_all rfl))) only [Vm.wantedD, Am.va, Nat.reduceAdd, Nat.reduceMul, Nat.reduceSub, Nat.reduceLT, Nat.reduceLeDiff, Nat.reduceEqDiff, Int.reduceAdd, Int.reduceLT, Int.reduceLE, Int.reduceNeg, reduceCtorEq, ↓reduceIte, tyfacts, hwj, hxe, dE, c1]))
             refine ih3 (j + 1) _ (by dsimp only; omega) (by omega) ?_
             rw [decide_eq_false c2, Bool.false_and] at hw
             exact Vm.le_of2 (by rw [hG0]; exact Nat.zero_le _) rfl (by simp (maxSteps := 10000000) (disch := first | assumption | (simp only [tyfacts, Vm.szO_eq, Am.vd, Nat.reduceEqDiff, Nat.reduceLT, Nat.reduceLeDiff, Nat.reduceMul, Nat.reduceAdd, reduceCtorEq]; try omega; done) | omega | (intro _; exact Vm.byRefl (by with_unfolding_all rfl))) only [Vm.wantedD, Am.va, Nat.reduceAdd, Nat.reduceMul, Nat.reduceSub, Nat.reduceLT, Nat.reduceLeDiff, Nat.reduceEqDiff, Int.reduceAdd, Int.reduceLT, Int.reduceLE, Int.reduceNeg, reduceCtorEq, ↓reduceIte, tyfacts, hw])
       · have hje : j = E.length := by omega
         subst hje
         rw [List.take_length]
         have hdk := boolD_get (f := doneF o i) (show k < N by omega)
         cases hdone : doneF o i k with
         | true =>
           (repeat (first | with_reducible refine Vm.sk_region _ _ ?_ | simp (maxSteps := 10000000) (disch := first | assumption | (simp only [tyfacts, Vm.szO_eq, Am.vd, Nat.reduceEqDiff, Nat.reduceLT, Nat.reduceLeDiff, Nat.reduceMul, Nat.reduceAdd, reduceCtorEq]; try omega; done) | omega | (intro _; exact Vm.byRefl (by with_unfolding_all rfl))) only [Vm.wantedD, Am.va, Nat.reduceAdd, Nat.reduceMul, Nat.reduceSub, Nat.reduceLT, Nat.reduceLeDiff, Nat.reduceEqDiff, Int.reduceAdd, Int.reduceLT, Int.reduceLE, Int.reduceNeg, reduceCtorEq, ↓reduceIte, tyfacts, hdk, dB, hdone]))
           refine ih2 (k + 1) _ (by dsimp only; omega) (by omega) ?_
           exact Vm.le_of2 (by rw [hG0]; exact Nat.zero_le _) rfl (by simp (maxSteps := 10000000) (disch := first | assumption | (simp only [tyfacts, Vm.szO_eq, Am.vd, Nat.reduceEqDiff, Nat.reduceLT, Nat.reduceLeDiff, Nat.reduceMul, Nat.reduceAdd, reduceCtorEq]; try omega; done) | omega | (intro _; exact Vm.byRefl (by with_unfolding_all rfl))) only [Vm.wantedD, Am.va, Nat.reduceAdd, Nat.reduceMul, Nat.reduceSub, Nat.reduceLT, Nat.reduceLeDiff, Nat.reduceEqDiff, Int.reduceAdd, Int.reduceLT, Int.reduceLE, Int.reduceNeg, reduceCtorEq, ↓reduceIte, tyfacts])
         | false =>
           have hwk : waitsF E (doneF o i) k = decide (k ≠ x) := by
            by_cases e : k = x
            · subst e; rw [x3]; simp
            · rw [x4 k (by omega) hdone]; simp [e]
           by_cases e : k = x
           · subst e
             (repeat (first | with_reducible refine Vm.sk_region _ _ ?_ | simp (maxSteps := 10000000) (disch := first | assumption | (simp only [tyfacts, Vm.szO_eq, Am.vd, Nat.reduceEqDiff, Nat.reduceLT, Nat.reduceLeDiff, Nat.reduceMul, Nat.reduceAdd, reduceCtorEq]; try omega; done) | omega | (intro _; exact Vm.byRefl (by with_unfolding_all rfl))) only [Vm.wantedD, Am.va, Nat.reduceAdd, Nat.reduceMul, Nat.reduceSub, Nat.reduceLT, Nat.reduceLeDiff, Nat.reduceEqDiff, Int.reduceAdd, Int.reduceLT, Int.reduceLE, Int.reduceNeg, reduceCtorEq, ↓reduceIte, tyfacts, hdk, dB, hdone, hg0, dI, x3]))
             refine ih2 (k + 1) _ (by dsimp only; omega) (by omega) ?_
             exact Vm.le_of2 (by rw [hG0]; exact Nat.zero_le _) rfl (by simp (maxSteps := 10000000) (disch := first | assumption | (simp only [tyfacts, Vm.szO_eq, Am.vd, Nat.reduceEqDiff, Nat.reduceLT, Nat.reduceLeDiff, Nat.reduceMul, Nat.reduceAdd, reduceCtorEq]; try omega; done) | omega | (intro _; exact Vm.byRefl (by with_unfolding_all rfl))) only [Vm.wantedD, Am.va, Nat.reduceAdd, Nat.reduceMul, Nat.reduceSub, Nat.reduceLT, Nat.reduceLeDiff, Nat.reduceEqDiff, Int.reduceAdd, Int.reduceLT, Int.reduceLE, Int.reduceNeg, reduceCtorEq, ↓reduceIte, tyfacts])
           · have e2 : ¬ (k : Int) = x := by omega
             have hwf : waitsF E (doneF o i) k = true := by rw [hwk]; simp; omega
             (repeat (first | with_reducible refine Vm.sk_region _ _ ?_ | simp (maxSteps := 10000000) (disch := first | assumption | (simp only [tyfacts, Vm.szO_eq, Am.vd, Nat.reduceEqDiff, Nat.reduceLT, Nat.reduceLeDiff, Nat.reduceMul, Nat.reduceAdd, reduceCtorEq]; try omega; done) | omega | (intro _; exact Vm.byRefl (by with_unfolding_all rfl))) only [Vm.wantedD, Am.va, Nat.reduceAdd, Nat.reduceMul, Nat.reduceSub, Nat.reduceLT, Nat.reduceLeDiff, Nat.reduceEqDiff, Int.reduceAdd, Int.reduceLT, Int.reduceLE, Int.reduceNeg, reduceCtorEq, ↓reduceIte, tyfacts, hdk, dB, hdone, hg0, dI, e2, hwf]))
             refine ih2 (k + 1) _ (by dsimp only; omega) (by omega) ?_
             exact Vm.le_of2 (by rw [hG0]; exact Nat.zero_le _) rfl (by simp (maxSteps := 10000000) (disch := first | assumption | (simp only [tyfacts, Vm.szO_eq, Am.vd, Nat.reduceEqDiff, Nat.reduceLT, Nat.reduceLeDiff, Nat.reduceMul, Nat.reduceAdd, reduceCtorEq]; try omega; done) | omega | (intro _; exact Vm.byRefl (by with_unfolding_all rfl))) only [Vm.wantedD, Am.va, Nat.reduceAdd, Nat.reduceMul, Nat.reduceSub, Nat.reduceLT, Nat.reduceLeDiff, Nat.reduceEqDiff, Int.reduceAdd, Int.reduceLT, Int.reduceLE, Int.reduceNeg, reduceCtorEq, ↓reduceIte, tyfacts])
     · have hset : (boolD N (doneF o i)).set x [.atom (.bool true)] = boolD N (doneF o (i + 1)) := boolD_set x1 (by simp [doneF, htk]) fun y hy => by simp [doneF, htk, hy]
       (repeat (first | with_reducible refine Vm.sk_region _ _ ?_ | simp (maxSteps := 10000000) (disch := first | assumption | (simp only [tyfacts, Vm.szO_eq, Am.vd, Nat.reduceEqDiff, Nat.reduceLT, Nat.reduceLeDiff, Nat.reduceMul, Nat.reduceAdd, reduceCtorEq]; try omega; done) | omega | (intro _; exact Vm.byRefl (by with_unfolding_all rfl))) only [Vm.wantedD, Am.va, Nat.reduceAdd, Nat.reduceMul, Nat.reduceSub, Nat.reduceLT, Nat.reduceLeDiff, Nat.reduceEqDiff, Int.reduceAdd, Int.reduceLT, Int.reduceLE, Int.reduceNeg, reduceCtorEq, ↓reduceIte, tyfacts, hg0, dI, hd, dB, hset]))
       refine ih (i + 1) _ (by dsimp only; omega) (by omega) ?_
       exact Vm.le_of2 (by rw [hG0]; exact Nat.zero_le _) rfl (by simp (maxSteps := 10000000) (disch := first | assumption | (simp only [tyfacts, Vm.szO_eq, Am.vd, Nat.reduceEqDiff, Nat.reduceLT, Nat.reduceLeDiff, Nat.reduceMul, Nat.reduceAdd, reduceCtorEq]; try omega; done) | omega | (intro _; exact Vm.byRefl (by with_unfolding_all rfl))) only [Vm.wantedD, Am.va, Nat.reduceAdd, Nat.reduceMul, Nat.reduceSub, Nat.reduceLT, Nat.reduceLeDiff, Nat.reduceEqDiff, Int.reduceAdd, Int.reduceLT, Int.reduceLE, Int.reduceNeg, reduceCtorEq, ↓reduceIte, tyfacts])
   · (repeat (first | with_reducible refine Vm.sk_region _ _ ?_ | simp (maxSteps := 10000000) (disch := first | assumption | (simp only [tyfacts, Vm.szO_eq, Am.vd, Nat.reduceEqDiff, Nat.reduceLT, Nat.reduceLeDiff, Nat.reduceMul, Nat.reduceAdd, reduceCtorEq]; try omega; done) | omega | (intro _; exact Vm.byRefl (by with_unfolding_all rfl))) only [Vm.wantedD, Am.va, Nat.reduceAdd, Nat.reduceMul, Nat.reduceSub, Nat.reduceLT, Nat.reduceLeDiff, Nat.reduceEqDiff, Int.reduceAdd, Int.reduceLT, Int.reduceLE, Int.reduceNeg, reduceCtorEq, ↓reduceIte, tyfacts]))
     refine Vm.ret_ok (by first | exact .inl rfl | exact .inr rfl) ?_
     simp (maxSteps := 10000000) (disch := first | assumption | (simp only [tyfacts, Vm.szO_eq, Am.vd, Nat.reduceEqDiff, Nat.reduceLT, Nat.reduceLeDiff, Nat.reduceMul, Nat.reduceAdd, reduceCtorEq]; try omega; done) | omega | (intro _; exact Vm.byRefl (by with_unfolding_all rfl))) only [Vm.wantedD, Am.va, Nat.reduceAdd, Nat.reduceMul, Nat.reduceSub, Nat.reduceLT, Nat.reduceLeDiff, Nat.reduceEqDiff, Int.reduceAdd, Int.reduceLT, Int.reduceLE, Int.reduceNeg, reduceCtorEq, ↓reduceIte, tyfacts]
end Go.Proofs.Ytbhgjikjdblgeaa.W
