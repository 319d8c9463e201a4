import Derived.Test.YtbhgjikjdblgeaaGkF
import Derived.Test.YtbhgjikjdblgeaaVmC
set_option linter.unusedSimpArgs false
set_option linter.unusedVariables false
set_option maxRecDepth 8000
/- Orders and cycles: there is an order just if there is no cycle. No conditions. -/
namespace Go.Proofs.Ytbhgjikjdblgeaa.W
open Go.Am Go.Am.Ord Go.Am.Scc
theorem firstS_none {n : Nat} {E : Es} : firstS n E = none ↔ ∀ s, s < n → dist E s s = 0 := by
 rw [firstS, List.find?_eq_none]
 constructor
 · intro h s hs
   have := h s (List.mem_range.2 hs)
   simp at this; omega
 · intro h s hs
   have := h s (List.mem_range.1 hs)
   simp [this]
end Go.Proofs.Ytbhgjikjdblgeaa.W

/- Edges by numbers. No conditions. -/
namespace Go.Proofs.Ytbhgjikjdblgeaa.W
open Go.Am Go.Am.Ord Go.Am.Scc
def madeT (n : Int) (l : List Int) (j : Nat) : List (Int × Int) := (List.range j).map fun i => (pickF (l.getD (2 * i) 0) n, pickF (l.getD (2 * i + 1) 0) n)
def madeG (n : Int) (l : List Int) : List (Int × Int) := if 0 < n then madeT n l (l.length / 2) else []
theorem madeT_len (n : Int) (l : List Int) (j : Nat) : (madeT n l j).length = j := by simp [madeT]
theorem madeT_succ (n : Int) (l : List Int) (j : Nat) : madeT n l (j + 1) = madeT n l j ++ [(pickF (l.getD (2 * j) 0) n, pickF (l.getD (2 * j + 1) 0) n)] := by simp [madeT, List.range_succ]
theorem made_v {n : Int} {l : List Int} (hn : n < 1000000000) (hl : l.length < 100000) : Vm.VC T 27 [.atom (.int .i64 n), .imm 1 (l.map dI)] fun d => d = .fresh 2 ((madeG n l).map dE) := by
 refine Vm.vc_enter (T := T) rfl Try.func27 rfl (by simp only [Try.f27, List.length_cons, List.length_nil]; decide) fun g hB hG0 => ?_
 simp only [Try.f27, Vm.argsTm_cons, Vm.argsTm_nil, Nat.reduceAdd]
 (repeat (first | with_reducible refine Vm.sk_region _ _ ?_ | simp (maxSteps := 10000000) (disch := first | assumption | (simp only [tyfacts, Vm.szO_eq, Am.vd, Nat.reduceEqDiff, Nat.reduceLT, Nat.reduceLeDiff, Nat.reduceMul, Nat.reduceAdd, reduceCtorEq]; try omega; done) | omega | (intro _; exact Vm.byRefl (by with_unfolding_all rfl))) only [Vm.wantedD, Am.va, Nat.reduceAdd, Nat.reduceMul, Nat.reduceSub, Nat.reduceLT, Nat.reduceLeDiff, Nat.reduceEqDiff, Int.reduceAdd, Int.reduceLT, Int.reduceLE, Int.reduceNeg, reduceCtorEq, ↓reduceIte, tyfacts]))
 refine Vm.sk_nil 5 2 (by simp (maxSteps := 10000000) (disch := first | assumption | (simp only [tyfacts, Vm.szO_eq, Am.vd, Nat.reduceEqDiff, Nat.reduceLT, Nat.reduceLeDiff, Nat.reduceMul, Nat.reduceAdd, reduceCtorEq]; try omega; done) | omega | (intro _; exact Vm.byRefl (by with_unfolding_all rfl))) only [Vm.wantedD, Am.va, Nat.reduceAdd, Nat.reduceMul, Nat.reduceSub, Nat.reduceLT, Nat.reduceLeDiff, Nat.reduceEqDiff, Int.reduceAdd, Int.reduceLT, Int.reduceLE, Int.reduceNeg, reduceCtorEq, ↓reduceIte, tyfacts]) ?_
 (repeat (first | with_reducible refine Vm.sk_region _ _ ?_ | simp (maxSteps := 10000000) (disch := first | assumption | (simp only [tyfacts, Vm.szO_eq, Am.vd, Nat.reduceEqDiff, Nat.reduceLT, Nat.reduceLeDiff, Nat.reduceMul, Nat.reduceAdd, reduceCtorEq]; try omega; done) | omega | (intro _; exact Vm.byRefl (by with_unfolding_all rfl))) only [Vm.wantedD, Am.va, Nat.reduceAdd, Nat.reduceMul, Nat.reduceSub, Nat.reduceLT, Nat.reduceLeDiff, Nat.reduceEqDiff, Int.reduceAdd, Int.reduceLT, Int.reduceLE, Int.reduceNeg, reduceCtorEq, ↓reduceIte, tyfacts]))
 refine Vm.sk_loop (fun j : Nat => l.length - 2 * j) (fun j => ⟨[(0, .atom (.int .i64 n)), (1, .imm 1 (l.map dI)), (5, .own 0 j), (6, .atom (.int .i64 (2 * (j : Int))))], [.sl 2 ((madeT n l j).map dE)], 36⟩) (fun j => 2 * j ≤ l.length ∧ (0 < n ∨ j = 0)) 0 ?_ ⟨by omega, .inr rfl⟩ ?_
 · have e : madeT n l 0 = [] := rfl
   exact Vm.le_of2 (by rw [hG0]; exact Nat.zero_le _) rfl (by simp (maxSteps := 10000000) (disch := first | assumption | (simp only [tyfacts, Vm.szO_eq, Am.vd, Nat.reduceEqDiff, Nat.reduceLT, Nat.reduceLeDiff, Nat.reduceMul, Nat.reduceAdd, reduceCtorEq]; try omega; done) | omega | (intro _; exact Vm.byRefl (by with_unfolding_all rfl))) only [Vm.wantedD, Am.va, Nat.reduceAdd, Nat.reduceMul, Nat.reduceSub, Nat.reduceLT, Nat.reduceLeDiff, Nat.reduceEqDiff, Int.reduceAdd, Int.reduceLT, Int.reduceLE, Int.reduceNeg, reduceCtorEq, ↓reduceIte, tyfacts, e, Int.mul_zero])
 rintro j ⟨hj, hj2⟩ ih
 have hlen := madeT_len n l j
 by_cases h0 : n > 0
 · have hG : madeG n l = madeT n l (l.length / 2) := if_pos h0
   (repeat (first | with_reducible refine Vm.sk_region _ _ ?_ | simp (maxSteps := 10000000) (disch := first | assumption | (simp only [tyfacts, Vm.szO_eq, Am.vd, Nat.reduceEqDiff, Nat.reduceLT, Nat.reduceLeDiff, Nat.reduceMul, Nat.reduceAdd, reduceCtorEq]; try omega; done) | omega | (intro _; exact Vm.byRefl (by with_unfolding_all rfl))) only [Vm.wantedD, Am.va, Nat.reduceAdd, Nat.reduceMul, Nat.reduceSub, Nat.reduceLT, Nat.reduceLeDiff, Nat.reduceEqDiff, Int.reduceAdd, Int.reduceLT, Int.reduceLE, Int.reduceNeg, reduceCtorEq, ↓reduceIte, tyfacts, h0]))
   refine Vm.sb_dec (fun hc => ?_) (fun hc => ?_)
   · have h1 : l[2 * j]? = some (l.getD (2 * j) 0) := by rw [List.getD_eq_getElem?_getD, List.getElem?_eq_getElem (by omega)]; rfl
     have h2 : l[2 * j + 1]? = some (l.getD (2 * j + 1) 0) := by rw [List.getD_eq_getElem?_getD, List.getElem?_eq_getElem (by omega)]; rfl
     have e1 : (2 * (j : Int)).toNat = 2 * j := by omega
     have e2 : (2 * (j : Int) + 1).toNat = 2 * j + 1 := by omega
     (repeat (first | with_reducible refine Vm.sk_region _ _ ?_ | simp (maxSteps := 10000000) (disch := first | assumption | (simp only [tyfacts, Vm.szO_eq, Am.vd, Nat.reduceEqDiff, Nat.reduceLT, Nat.reduceLeDiff, Nat.reduceMul, Nat.reduceAdd, reduceCtorEq]; try omega; done) | omega | (intro _; exact Vm.byRefl (by with_unfolding_all rfl))) only [Vm.wantedD, Am.va, Nat.reduceAdd, Nat.reduceMul, Nat.reduceSub, Nat.reduceLT, Nat.reduceLeDiff, Nat.reduceEqDiff, Int.reduceAdd, Int.reduceLT, Int.reduceLE, Int.reduceNeg, reduceCtorEq, ↓reduceIte, tyfacts]))
     refine Vm.sk_draw2 18 [1,2,3,4,5,6,7,8,9,10,11,12,13,0,14,15,16,17] [0,0,0,6,14,0,62,0,0,256,896,1920,0,8190,16382,32766,65535,131071] (by kernel_rfl) (by kernel_rfl) (by decide) ?_
     (repeat (first | with_reducible refine Vm.sk_region _ _ ?_ | simp (maxSteps := 10000000) (disch := first | assumption | (simp only [tyfacts, Vm.szO_eq, Am.vd, Nat.reduceEqDiff, Nat.reduceLT, Nat.reduceLeDiff, Nat.reduceMul, Nat.reduceAdd, reduceCtorEq]; try omega; done) | omega | (intro _; exact Vm.byRefl (by with_unfolding_all rfl))) only [Vm.wantedD, Am.va, Nat.reduceAdd, Nat.reduceMul, Nat.reduceSub, Nat.reduceLT, Nat.reduceLeDiff, Nat.reduceEqDiff, Int.reduceAdd, Int.reduceLT, Int.reduceLE, Int.reduceNeg, reduceCtorEq, ↓reduceIte, tyfacts, Am.vt, Am.reads, Am.quiet, Am.isAlloc, Nat.testBit, Nat.reduceShiftRight, Nat.reduceAnd, Nat.reduceBNe, h1, h2, dI, e1, e2]))
     refine Vm.callQ_eq2 (pick_v (x := l.getD (2 * j) 0) (n := n) hn) ?_ ?_ <;> (repeat (first | with_reducible refine Vm.sk_region _ _ ?_ | simp (maxSteps := 10000000) (disch := first | assumption | (simp only [tyfacts, Vm.szO_eq, Am.vd, Nat.reduceEqDiff, Nat.reduceLT, Nat.reduceLeDiff, Nat.reduceMul, Nat.reduceAdd, reduceCtorEq]; try omega; done) | omega | (intro _; exact Vm.byRefl (by with_unfolding_all rfl))) only [Vm.wantedD, Am.va, Nat.reduceAdd, Nat.reduceMul, Nat.reduceSub, Nat.reduceLT, Nat.reduceLeDiff, Nat.reduceEqDiff, Int.reduceAdd, Int.reduceLT, Int.reduceLE, Int.reduceNeg, reduceCtorEq, ↓reduceIte, tyfacts, Am.vt, Am.reads, Am.quiet, Am.isAlloc, Nat.testBit, Nat.reduceShiftRight, Nat.reduceAnd, Nat.reduceBNe, h1, h2, dI, e1, e2]))
     refine Vm.callQ_eq2 (pick_v (x := l.getD (2 * j + 1) 0) (n := n) hn) ?_ ?_ <;> (repeat (first | with_reducible refine Vm.sk_region _ _ ?_ | simp (maxSteps := 10000000) (disch := first | assumption | (simp only [tyfacts, Vm.szO_eq, Am.vd, Nat.reduceEqDiff, Nat.reduceLT, Nat.reduceLeDiff, Nat.reduceMul, Nat.reduceAdd, reduceCtorEq]; try omega; done) | omega | (intro _; exact Vm.byRefl (by with_unfolding_all rfl))) only [Vm.wantedD, Am.va, Nat.reduceAdd, Nat.reduceMul, Nat.reduceSub, Nat.reduceLT, Nat.reduceLeDiff, Nat.reduceEqDiff, Int.reduceAdd, Int.reduceLT, Int.reduceLE, Int.reduceNeg, reduceCtorEq, ↓reduceIte, tyfacts, Am.vt, Am.reads, Am.quiet, Am.isAlloc, Nat.testBit, Nat.reduceShiftRight, Nat.reduceAnd, Nat.reduceBNe, h1, h2, dI, e1, e2]))
     have e3 : 2 * (j : Int) + 2 = 2 * ((j : Int) + 1) := by omega
     have e4 := madeT_succ n l j
     refine ih (j + 1) _ (by dsimp only; omega) ⟨by omega, .inl h0⟩ ?_
     exact Vm.le_of2 (by rw [hG0]; exact Nat.zero_le _) rfl (by simp (maxSteps := 10000000) (disch := first | assumption | (simp only [tyfacts, Vm.szO_eq, Am.vd, Nat.reduceEqDiff, Nat.reduceLT, Nat.reduceLeDiff, Nat.reduceMul, Nat.reduceAdd, reduceCtorEq]; try omega; done) | omega | (intro _; exact Vm.byRefl (by with_unfolding_all rfl))) only [Vm.wantedD, Am.va, Nat.reduceAdd, Nat.reduceMul, Nat.reduceSub, Nat.reduceLT, Nat.reduceLeDiff, Nat.reduceEqDiff, Int.reduceAdd, Int.reduceLT, Int.reduceLE, Int.reduceNeg, reduceCtorEq, ↓reduceIte, tyfacts, e3, e4, dE, List.map_append])
   · (repeat (first | with_reducible refine Vm.sk_region _ _ ?_ | simp (maxSteps := 10000000) (disch := first | assumption | (simp only [tyfacts, Vm.szO_eq, Am.vd, Nat.reduceEqDiff, Nat.reduceLT, Nat.reduceLeDiff, Nat.reduceMul, Nat.reduceAdd, reduceCtorEq]; try omega; done) | omega | (intro _; exact Vm.byRefl (by with_unfolding_all rfl))) only [Vm.wantedD, Am.va, Nat.reduceAdd, Nat.reduceMul, Nat.reduceSub, Nat.reduceLT, Nat.reduceLeDiff, Nat.reduceEqDiff, Int.reduceAdd, Int.reduceLT, Int.reduceLE, Int.reduceNeg, reduceCtorEq, ↓reduceIte, tyfacts]))
     refine Vm.ret_ok (by first | exact .inl rfl | exact .inr rfl) ?_
     simp (maxSteps := 10000000) (disch := first | assumption | (simp only [tyfacts, Vm.szO_eq, Am.vd, Nat.reduceEqDiff, Nat.reduceLT, Nat.reduceLeDiff, Nat.reduceMul, Nat.reduceAdd, reduceCtorEq]; try omega; done) | omega | (intro _; exact Vm.byRefl (by with_unfolding_all rfl))) only [Vm.wantedD, Am.va, Nat.reduceAdd, Nat.reduceMul, Nat.reduceSub, Nat.reduceLT, Nat.reduceLeDiff, Nat.reduceEqDiff, Int.reduceAdd, Int.reduceLT, Int.reduceLE, Int.reduceNeg, reduceCtorEq, ↓reduceIte, tyfacts]
     rw [hG, show l.length / 2 = j by omega]
 · (repeat (first | with_reducible refine Vm.sk_region _ _ ?_ | simp (maxSteps := 10000000) (disch := first | assumption | (simp only [tyfacts, Vm.szO_eq, Am.vd, Nat.reduceEqDiff, Nat.reduceLT, Nat.reduceLeDiff, Nat.reduceMul, Nat.reduceAdd, reduceCtorEq]; try omega; done) | omega | (intro _; exact Vm.byRefl (by with_unfolding_all rfl))) only [Vm.wantedD, Am.va, Nat.reduceAdd, Nat.reduceMul, Nat.reduceSub, Nat.reduceLT, Nat.reduceLeDiff, Nat.reduceEqDiff, Int.reduceAdd, Int.reduceLT, Int.reduceLE, Int.reduceNeg, reduceCtorEq, ↓reduceIte, tyfacts, h0]))
   refine Vm.ret_ok (by first | exact .inl rfl | exact .inr rfl) ?_
   simp (maxSteps := 10000000) (disch := first | assumption | (simp only [tyfacts, Vm.szO_eq, Am.vd, Nat.reduceEqDiff, Nat.reduceLT, Nat.reduceLeDiff, Nat.reduceMul, Nat.reduceAdd, reduceCtorEq]; try omega; done) | omega | (intro _; exact Vm.byRefl (by with_unfolding_all rfl))) only [Vm.wantedD, Am.va, Nat.reduceAdd, Nat.reduceMul, Nat.reduceSub, Nat.reduceLT, Nat.reduceLeDiff, Nat.reduceEqDiff, Int.reduceAdd, Int.reduceLT, Int.reduceLE, Int.reduceNeg, reduceCtorEq, ↓reduceIte, tyfacts]
   obtain rfl : j = 0 := by omega
   rw [madeG, if_neg h0]; rfl
end Go.Proofs.Ytbhgjikjdblgeaa.W

/- The law of orders. No conditions. -/
namespace Go.Proofs.Ytbhgjikjdblgeaa.W
open Go.Am Go.Am.Ord Go.Am.Scc
theorem madeG_len (n : Int) (l : List Int) : (madeG n l).length ≤ l.length := by
 unfold madeG
 split
 · rw [madeT_len]; omega
 · simp
theorem made_graph {n : Int} (h0 : 0 ≤ n) (h1 : n < 4096) {l : List Int} (hl : l.length ≤ 1000) : ∃ (m : Nat) (E : Es), n = (m : Int) ∧ madeG n l = castE E ∧ (∀ p, p ∈ E → p.1 < m ∧ p.2 < m) ∧ natE (castE E) = E ∧ checkS n (castE E) = 0 ∧ E.length ≤ l.length := by
 have hb : ∀ p, p ∈ madeG n l → 0 ≤ p.1 ∧ p.1 < n ∧ 0 ≤ p.2 ∧ p.2 < n := by
  intro p hp
  unfold madeG at hp
  split at hp
  · rename_i h
    obtain ⟨i, _, rfl⟩ := List.mem_map.1 hp
    have a := pickF_lt (n := l.getD (2 * i) 0) h
    have b := pickF_lt (n := l.getD (2 * i + 1) 0) h
    exact ⟨a.1, a.2, b.1, b.2⟩
  · cases hp
 have hlen := madeG_len n l
 generalize madeG n l = es at hb hlen
 have hc : checkS n es = 0 := by
  unfold checkS
  rw [if_neg (by omega), if_neg (by omega), if_neg]
  rw [List.any_eq_true]
  rintro ⟨p, hp, h⟩
  have := hb p hp
  simp only [badE, Bool.or_eq_true, decide_eq_true_eq] at h
  omega
 obtain ⟨c1, c2, c3, c4, c5⟩ := check_zeroS hc
 refine ⟨n.toNat, natE es, by omega, c4.symm, c5, by rw [c4], by rw [c4]; exact hc, by simp [natE]; exact hlen⟩
def doneF (o : List Nat) (i k : Nat) : Bool := (o.take i).contains k
end Go.Proofs.Ytbhgjikjdblgeaa.W

/- The law of cycles. No conditions. -/
namespace Go.Proofs.Ytbhgjikjdblgeaa.W
open Go.Am Go.Am.Ord Go.Am.Scc
theorem has_v {E : Es} (hl : E.length < 10000000) (a b : Nat) : Vm.VC T 28 [.imm 2 ((castE E).map dE), .atom (.int .i64 a), .atom (.int .i64 b)] fun d => d = .atom (.bool (decide ((a, b) ∈ E))) := by
 have hcl := castE_len E
 refine Vm.vc_enter (T := T) rfl Try.func28 rfl (by simp only [Try.f28, List.length_cons, List.length_nil]; decide) fun g hB hG0 => ?_
 simp only [Try.f28, Vm.argsTm_cons, Vm.argsTm_nil, Nat.reduceAdd]
 (repeat (first | with_reducible refine Vm.sk_region _ _ ?_ | simp (maxSteps := 10000000) (disch := first | assumption | (simp only [tyfacts, Vm.szO_eq, Am.vd, Nat.reduceEqDiff, Nat.reduceLT, Nat.reduceLeDiff, Nat.reduceMul, Nat.reduceAdd, reduceCtorEq]; try omega; done) | omega | (intro _; exact Vm.byRefl (by with_unfolding_all rfl))) only [Vm.wantedD, Am.va, Nat.reduceAdd, Nat.reduceMul, Nat.reduceSub, Nat.reduceLT, Nat.reduceLeDiff, Nat.reduceEqDiff, Int.reduceAdd, Int.reduceLT, Int.reduceLE, Int.reduceNeg, reduceCtorEq, ↓reduceIte, tyfacts]))
 refine Vm.sk_loop (fun i : Nat => E.length - i) (fun i => ⟨[(0, .imm 2 ((castE E).map dE)), (1, .atom (.int .i64 a)), (2, .atom (.int .i64 b)), (7, .atom (.int .i64 i))], [], 30⟩) (fun i => i ≤ E.length ∧ ¬ (a, b) ∈ E.take i) 0 ?_ ⟨by omega, by simp⟩ ?_
 · exact Vm.le_of2 (by rw [hG0]; exact Nat.zero_le _) rfl (by simp (maxSteps := 10000000) (disch := first | assumption | (simp only [tyfacts, Vm.szO_eq, Am.vd, Nat.reduceEqDiff, Nat.reduceLT, Nat.reduceLeDiff, Nat.reduceMul, Nat.reduceAdd, reduceCtorEq]; try omega; done) | omega | (intro _; exact Vm.byRefl (by with_unfolding_all rfl))) only [Vm.wantedD, Am.va, Nat.reduceAdd, Nat.reduceMul, Nat.reduceSub, Nat.reduceLT, Nat.reduceLeDiff, Nat.reduceEqDiff, Int.reduceAdd, Int.reduceLT, Int.reduceLE, Int.reduceNeg, reduceCtorEq, ↓reduceIte, tyfacts])
 rintro i ⟨hi, hno⟩ ih
 (repeat (first | with_reducible refine Vm.sk_region _ _ ?_ | simp (maxSteps := 10000000) (disch := first | assumption | (simp only [tyfacts, Vm.szO_eq, Am.vd, Nat.reduceEqDiff, Nat.reduceLT, Nat.reduceLeDiff, Nat.reduceMul, Nat.reduceAdd, reduceCtorEq]; try omega; done) | omega | (intro _; exact Vm.byRefl (by with_unfolding_all rfl))) only [Vm.wantedD, Am.va, Nat.reduceAdd, Nat.reduceMul, Nat.reduceSub, Nat.reduceLT, Nat.reduceLeDiff, Nat.reduceEqDiff, Int.reduceAdd, Int.reduceLT, Int.reduceLE, Int.reduceNeg, reduceCtorEq, ↓reduceIte, tyfacts, hcl]))
 refine Vm.sb_dec (fun hc => ?_) (fun hc => ?_)
 · have hj : i < E.length := by omega
   have hx := E_get hj
   have hm := List.getElem_mem hj
   have ht : E.take (i + 1) = E.take i ++ [E[i]] := by rw [List.take_add_one, List.getElem?_eq_getElem hj]; rfl
   generalize E[i] = p at hx hm ht
   have go : ¬ p = (a, b) → ¬ (a, b) ∈ E.take (i + 1) := fun h hm => by
    rw [ht, List.mem_append, List.mem_singleton] at hm
    exact hm.elim hno fun e => h e.symm
   obtain ⟨p1, p2⟩ := p
   simp only at hx
   by_cases c1 : (p1 : Int) = a
   · by_cases c2 : (p2 : Int) = b
     · (repeat (first | with_reducible refine Vm.sk_region _ _ ?_ | simp (maxSteps := 10000000) (disch := first | assumption | (simp only [tyfacts, Vm.szO_eq, Am.vd, Nat.reduceEqDiff, Nat.reduceLT, Nat.reduceLeDiff, Nat.reduceMul, Nat.reduceAdd, reduceCtorEq]; try omega; done) | omega | (intro _; exact Vm.byRefl (by with_unfolding_all rfl))) only [Vm.wantedD, Am.va, Nat.reduceAdd, Nat.reduceMul, Nat.reduceSub, Nat.reduceLT, Nat.reduceLeDiff, Nat.reduceEqDiff, Int.reduceAdd, Int.reduceLT, Int.reduceLE, Int.reduceNeg, reduceCtorEq, ↓reduceIte, tyfacts, hx, dE, c1, c2]))
       refine Vm.ret_ok (by first | exact .inl rfl | exact .inr rfl) ?_
       simp (maxSteps := 10000000) (disch := first | assumption | (simp only [tyfacts, Vm.szO_eq, Am.vd, Nat.reduceEqDiff, Nat.reduceLT, Nat.reduceLeDiff, Nat.reduceMul, Nat.reduceAdd, reduceCtorEq]; try omega; done) | omega | (intro _; exact Vm.byRefl (by with_unfolding_all rfl))) only [Vm.wantedD, Am.va, Nat.reduceAdd, Nat.reduceMul, Nat.reduceSub, Nat.reduceLT, Nat.reduceLeDiff, Nat.reduceEqDiff, Int.reduceAdd, Int.reduceLT, Int.reduceLE, Int.reduceNeg, reduceCtorEq, ↓reduceIte, tyfacts]
       have e1 : p1 = a := by omega
       have e2 : p2 = b := by omega
       subst e1; subst e2
       simp [hm]
     · (repeat (first | with_reducible refine Vm.sk_region _ _ ?_ | simp (maxSteps := 10000000) (disch := first | assumption | (simp only [tyfacts, Vm.szO_eq, Am.vd, Nat.reduceEqDiff, Nat.reduceLT, Nat.reduceLeDiff, Nat.reduceMul, Nat.reduceAdd, reduceCtorEq]; try omega; done) | omega | (intro _; exact Vm.byRefl (by with_unfolding_all rfl))) only [Vm.wantedD, Am.va, Nat.reduceAdd, Nat.reduceMul, Nat.reduceSub, Nat.reduceLT, Nat.reduceLeDiff, Nat.reduceEqDiff, Int.reduceAdd, Int.reduceLT, Int.reduceLE, Int.reduceNeg, reduceCtorEq, ↓reduceIte, tyfacts, hx, dE, c1, c2]))
       refine ih (i + 1) _ (by dsimp only; omega) ⟨by omega, go fun h => c2 (by cases h; rfl)⟩ ?_
       exact Vm.le_of2 (by rw [hG0]; exact Nat.zero_le _) rfl (by simp (maxSteps := 10000000) (disch := first | assumption | (simp only [tyfacts, Vm.szO_eq, Am.vd, Nat.reduceEqDiff, Nat.reduceLT, Nat.reduceLeDiff, Nat.reduceMul, Nat.reduceAdd, reduceCtorEq]; try omega; done) | omega | (intro _; exact Vm.byRefl (by with_unfolding_all rfl))) only [Vm.wantedD, Am.va, Nat.reduceAdd, Nat.reduceMul, Nat.reduceSub, Nat.reduceLT, Nat.reduceLeDiff, Nat.reduceEqDiff, Int.reduceAdd, Int.reduceLT, Int.reduceLE, Int.reduceNeg, reduceCtorEq, ↓reduceIte, tyfacts])
   · (repeat (first | with_reducible refine Vm.sk_region _ _ ?_ | simp (maxSteps := 10000000) (disch := first | assumption | (simp only [tyfacts, Vm.szO_eq, Am.vd, Nat.reduceEqDiff, Nat.reduceLT, Nat.reduceLeDiff, Nat.reduceMul, Nat.reduceAdd, reduceCtorEq]; try omega; done) | omega | (intro _; exact Vm.byRefl (by with_unfolding_all rfl))) only [Vm.wantedD, Am.va, Nat.reduceAdd, Nat.reduceMul, Nat.reduceSub, Nat.reduceLT, Nat.reduceLeDiff, Nat.reduceEqDiff, Int.reduceAdd, Int.reduceLT, Int.reduceLE, Int.reduceNeg, reduceCtorEq, ↓reduceIte, tyfacts, hx, dE, c1]))
     refine ih (i + 1) _ (by dsimp only; omega) ⟨by omega, go fun h => c1 (by cases h; rfl)⟩ ?_
     exact Vm.le_of2 (by rw [hG0]; exact Nat.zero_le _) rfl (by simp (maxSteps := 10000000) (disch := first | assumption | (simp only [tyfacts, Vm.szO_eq, Am.vd, Nat.reduceEqDiff, Nat.reduceLT, Nat.reduceLeDiff, Nat.reduceMul, Nat.reduceAdd, reduceCtorEq]; try omega; done) | omega | (intro _; exact Vm.byRefl (by with_unfolding_all rfl))) only [Vm.wantedD, Am.va, Nat.reduceAdd, Nat.reduceMul, Nat.reduceSub, Nat.reduceLT, Nat.reduceLeDiff, Nat.reduceEqDiff, Int.reduceAdd, Int.reduceLT, Int.reduceLE, Int.reduceNeg, reduceCtorEq, ↓reduceIte, tyfacts])
 · (repeat (first | with_reducible refine Vm.sk_region _ _ ?_ | simp (maxSteps := 10000000) (disch := first | assumption | (simp only [tyfacts, Vm.szO_eq, Am.vd, Nat.reduceEqDiff, Nat.reduceLT, Nat.reduceLeDiff, Nat.reduceMul, Nat.reduceAdd, reduceCtorEq]; try omega; done) | omega | (intro _; exact Vm.byRefl (by with_unfolding_all rfl))) only [Vm.wantedD, Am.va, Nat.reduceAdd, Nat.reduceMul, Nat.reduceSub, Nat.reduceLT, Nat.reduceLeDiff, Nat.reduceEqDiff, Int.reduceAdd, Int.reduceLT, Int.reduceLE, Int.reduceNeg, reduceCtorEq, ↓reduceIte, tyfacts]))
   refine Vm.ret_ok (by first | exact .inl rfl | exact .inr rfl) ?_
   simp (maxSteps := 10000000) (disch := first | assumption | (simp only [tyfacts, Vm.szO_eq, Am.vd, Nat.reduceEqDiff, Nat.reduceLT, Nat.reduceLeDiff, Nat.reduceMul, Nat.reduceAdd, reduceCtorEq]; try omega; done) | omega | (intro _; exact Vm.byRefl (by with_unfolding_all rfl))) only [Vm.wantedD, Am.va, Nat.reduceAdd, Nat.reduceMul, Nat.reduceSub, Nat.reduceLT, Nat.reduceLeDiff, Nat.reduceEqDiff, Int.reduceAdd, Int.reduceLT, Int.reduceLE, Int.reduceNeg, reduceCtorEq, ↓reduceIte, tyfacts]
   have : i = E.length := by omega
   subst this
   rw [List.take_length] at hno
   simp [hno]
theorem path_facts {n : Nat} {E : Es} (hE : ∀ p, p ∈ E → p.1 < n ∧ p.2 < n) {s D : Nat} (hs : s < n) (hd : dist E s s = D) (h0 : 0 < D) :
  (∀ j y, (pathS n E s (D - 1) s)[j]? = some y → y < n ∧ dist E y s = D - j ∧ comp E y = comp E s) ∧
  (∀ j y z, (pathS n E s (D - 1) s)[j]? = some y → (pathS n E s (D - 1) s)[(j + 1) % D]? = some z → (y, z) ∈ E) := by
 have good := pathS_good hE (t := s) (m := D - 1) (x := s) hs (by omega)
 have hpl := pathS_len n E s (D - 1) s
 have step : ∀ j y z, (pathS n E s (D - 1) s)[j]? = some y → (pathS n E s (D - 1) s)[j + 1]? = some z → (y, z) ∈ E := by
  intro j y z h1 h2
  have hj : j < D - 1 := by
   have := (List.getElem?_eq_some_iff.1 h2).1; omega
  have := pathS_next n E s (D - 1) s j hj
  rw [h2, h1, Option.map_some] at this
  cases this
  obtain ⟨g1, g2⟩ := good j y h1
  have nx := (next_adj hE (x := y) (t := s) (left := D - 1 - j) (by omega) (by omega)).1
  exact (mem_adj.1 (List.mem_of_find?_eq_some nx)).2
 have way : ∀ j y, (pathS n E s (D - 1) s)[j]? = some y → wk E j s y := by
  intro j
  induction j with
  | zero => intro y h; rw [pathS_zero] at h; cases h; rfl
  | succ j ih =>
    intro y h
    have hj := (List.getElem?_eq_some_iff.1 h).1
    exact ⟨_, ih _ (List.getElem?_eq_getElem (by omega)), step j _ y (List.getElem?_eq_getElem (by omega)) h⟩
 refine ⟨fun j y h => ?_, fun j y z h1 h2 => ?_⟩
 · obtain ⟨g1, g2⟩ := good j y h
   have hj := (List.getElem?_eq_some_iff.1 h).1
   refine ⟨g1, by omega, comp_eq (mut_dist.2 ?_)⟩
   cases j with
   | zero => rw [pathS_zero] at h; cases h; exact .inl rfl
   | succ j => exact .inr ⟨by omega, (dist_le (by omega) (way _ y h)).1⟩
 · have hj := (List.getElem?_eq_some_iff.1 h1).1
   by_cases e : j + 1 = D
   · rw [e, Nat.mod_self, pathS_zero] at h2
     cases h2
     obtain ⟨g1, g2⟩ := good j y h1
     exact dist_one.1 (by omega)
   · rw [Nat.mod_eq_of_lt (by omega)] at h2
     exact step j y z h1 h2
theorem mem_reach {n : Nat} {E : Es} {x i y : Nat} : y ∈ reach n E x i ↔ y < i ∧ 0 < dist E x y := by simp [reach]
def FirstI (n : Nat) (E : Es) (k : Nat) (f : Nat) : Prop := (f = n ∧ ∀ j, k ≤ j → j < n → dist E j j = 0) ∨ (f < n ∧ k ≤ f ∧ 0 < dist E f f ∧ ∀ j, k ≤ j → j < f → dist E j j = 0)
theorem firstI_is {n : Nat} {E : Es} {f : Nat} (h : FirstI n E 0 f) : firstS n E = if f = n then none else some f := by
 rcases h with ⟨rfl, h⟩ | ⟨h1, _, h2, h3⟩
 · rw [if_pos rfl, firstS_none]; exact fun s hs => h s (Nat.zero_le _) hs
 · rw [if_neg (by omega), firstS, List.find?_range_eq_some]
   exact ⟨by simp [h2], List.mem_range.2 h1, fun j hj => by simp [h3 j (Nat.zero_le _) hj]⟩
set_option maxHeartbeats 2000000 in
theorem cycle_v (n : Int) (l : List Int) : Vm.VC T 6 [.atom (.int .i64 n), .imm 1 (l.map dI)] fun d => d = .atom (.bool true) := by
 refine Vm.vc_enter (T := T) rfl Try.func6 rfl (by simp only [Try.f6, List.length_cons, List.length_nil]; decide) fun g hB hG0 => ?_
 simp only [Try.f6, Vm.argsTm_cons, Vm.argsTm_nil, Nat.reduceAdd]
 (repeat (first | with_reducible refine Vm.sk_region _ _ ?_ | simp (maxSteps := 10000000) (disch := first | assumption | (simp only [tyfacts, Vm.szO_eq, Am.vd, Nat.reduceEqDiff, Nat.reduceLT, Nat.reduceLeDiff, Nat.reduceMul, Nat.reduceAdd, reduceCtorEq]; try omega; done) | omega | (intro _; exact Vm.byRefl (by with_unfolding_all rfl))) only [Vm.wantedD, Am.va, Nat.reduceAdd, Nat.reduceMul, Nat.reduceSub, Nat.reduceLT, Nat.reduceLeDiff, Nat.reduceEqDiff, Int.reduceAdd, Int.reduceLT, Int.reduceLE, Int.reduceNeg, reduceCtorEq, ↓reduceIte, tyfacts]))
 refine Vm.call_eq2 (known_v) ?_ ?_ <;> (repeat (first | with_reducible refine Vm.sk_region _ _ ?_ | simp (maxSteps := 10000000) (disch := first | assumption | (simp only [tyfacts, Vm.szO_eq, Am.vd, Nat.reduceEqDiff, Nat.reduceLT, Nat.reduceLeDiff, Nat.reduceMul, Nat.reduceAdd, reduceCtorEq]; try omega; done) | omega | (intro _; exact Vm.byRefl (by with_unfolding_all rfl))) only [Vm.wantedD, Am.va, Nat.reduceAdd, Nat.reduceMul, Nat.reduceSub, Nat.reduceLT, Nat.reduceLeDiff, Nat.reduceEqDiff, Int.reduceAdd, Int.reduceLT, Int.reduceLE, Int.reduceNeg, reduceCtorEq, ↓reduceIte, tyfacts]))
 refine Vm.call_eq2 (pick_v (x := n) (n := 21) (by decide)) ?_ ?_ <;> (repeat (first | with_reducible refine Vm.sk_region _ _ ?_ | simp (maxSteps := 10000000) (disch := first | assumption | (simp only [tyfacts, Vm.szO_eq, Am.vd, Nat.reduceEqDiff, Nat.reduceLT, Nat.reduceLeDiff, Nat.reduceMul, Nat.reduceAdd, reduceCtorEq]; try omega; done) | omega | (intro _; exact Vm.byRefl (by with_unfolding_all rfl))) only [Vm.wantedD, Am.va, Nat.reduceAdd, Nat.reduceMul, Nat.reduceSub, Nat.reduceLT, Nat.reduceLeDiff, Nat.reduceEqDiff, Int.reduceAdd, Int.reduceLT, Int.reduceLE, Int.reduceNeg, reduceCtorEq, ↓reduceIte, tyfacts]))
 obtain ⟨m0, m1⟩ := pickF_lt (n := n) (m := 21) (by decide)
 generalize pickF n 21 = m at m0 m1 ⊢
 refine Vm.sb_dec (fun hc => ?_) (fun hc => ?_)
 · (repeat (first | with_reducible refine Vm.sk_region _ _ ?_ | simp (maxSteps := 10000000) (disch := first | assumption | (simp only [tyfacts, Vm.szO_eq, Am.vd, Nat.reduceEqDiff, Nat.reduceLT, Nat.reduceLeDiff, Nat.reduceMul, Nat.reduceAdd, reduceCtorEq]; try omega; done) | omega | (intro _; exact Vm.byRefl (by with_unfolding_all rfl))) only [Vm.wantedD, Am.va, Nat.reduceAdd, Nat.reduceMul, Nat.reduceSub, Nat.reduceLT, Nat.reduceLeDiff, Nat.reduceEqDiff, Int.reduceAdd, Int.reduceLT, Int.reduceLE, Int.reduceNeg, reduceCtorEq, ↓reduceIte, tyfacts]))
   refine Vm.ret_ok (by first | exact .inl rfl | exact .inr rfl) ?_
   simp (maxSteps := 10000000) (disch := first | assumption | (simp only [tyfacts, Vm.szO_eq, Am.vd, Nat.reduceEqDiff, Nat.reduceLT, Nat.reduceLeDiff, Nat.reduceMul, Nat.reduceAdd, reduceCtorEq]; try omega; done) | omega | (intro _; exact Vm.byRefl (by with_unfolding_all rfl))) only [Vm.wantedD, Am.va, Nat.reduceAdd, Nat.reduceMul, Nat.reduceSub, Nat.reduceLT, Nat.reduceLeDiff, Nat.reduceEqDiff, Int.reduceAdd, Int.reduceLT, Int.reduceLE, Int.reduceNeg, reduceCtorEq, ↓reduceIte, tyfacts]
 have hll : l.length ≤ 120 := by omega
 (repeat (first | with_reducible refine Vm.sk_region _ _ ?_ | simp (maxSteps := 10000000) (disch := first | assumption | (simp only [tyfacts, Vm.szO_eq, Am.vd, Nat.reduceEqDiff, Nat.reduceLT, Nat.reduceLeDiff, Nat.reduceMul, Nat.reduceAdd, reduceCtorEq]; try omega; done) | omega | (intro _; exact Vm.byRefl (by with_unfolding_all rfl))) only [Vm.wantedD, Am.va, Nat.reduceAdd, Nat.reduceMul, Nat.reduceSub, Nat.reduceLT, Nat.reduceLeDiff, Nat.reduceEqDiff, Int.reduceAdd, Int.reduceLT, Int.reduceLE, Int.reduceNeg, reduceCtorEq, ↓reduceIte, tyfacts]))
 refine Vm.call_eq2 (made_v (n := m) (l := l) (by omega) (by omega)) ?_ ?_ <;> (repeat (first | with_reducible refine Vm.sk_region _ _ ?_ | simp (maxSteps := 10000000) (disch := first | assumption | (simp only [tyfacts, Vm.szO_eq, Am.vd, Nat.reduceEqDiff, Nat.reduceLT, Nat.reduceLeDiff, Nat.reduceMul, Nat.reduceAdd, reduceCtorEq]; try omega; done) | omega | (intro _; exact Vm.byRefl (by with_unfolding_all rfl))) only [Vm.wantedD, Am.va, Nat.reduceAdd, Nat.reduceMul, Nat.reduceSub, Nat.reduceLT, Nat.reduceLeDiff, Nat.reduceEqDiff, Int.reduceAdd, Int.reduceLT, Int.reduceLE, Int.reduceNeg, reduceCtorEq, ↓reduceIte, tyfacts]))
 obtain ⟨N, E, rfl, e1, hE, e2, e3, hEl⟩ := made_graph m0 (by omega) (l := l) (by omega)
 rw [e1]
 have hcl := castE_len E
 (repeat (first | with_reducible refine Vm.sk_region _ _ ?_ | simp (maxSteps := 10000000) (disch := first | assumption | (simp only [tyfacts, Vm.szO_eq, Am.vd, Nat.reduceEqDiff, Nat.reduceLT, Nat.reduceLeDiff, Nat.reduceMul, Nat.reduceAdd, reduceCtorEq]; try omega; done) | omega | (intro _; exact Vm.byRefl (by with_unfolding_all rfl))) only [Vm.wantedD, Am.va, Nat.reduceAdd, Nat.reduceMul, Nat.reduceSub, Nat.reduceLT, Nat.reduceLeDiff, Nat.reduceEqDiff, Int.reduceAdd, Int.reduceLT, Int.reduceLE, Int.reduceNeg, reduceCtorEq, ↓reduceIte, tyfacts]))
 refine Vm.call_eq2 (sccCycle_v (n := N) (es := castE E) (by omega)) ?_ ?_ <;> (repeat (first | with_reducible refine Vm.sk_region _ _ ?_ | simp (maxSteps := 10000000) (disch := first | assumption | (simp only [tyfacts, Vm.szO_eq, Am.vd, Nat.reduceEqDiff, Nat.reduceLT, Nat.reduceLeDiff, Nat.reduceMul, Nat.reduceAdd, reduceCtorEq]; try omega; done) | omega | (intro _; exact Vm.byRefl (by with_unfolding_all rfl))) only [Vm.wantedD, Am.va, Nat.reduceAdd, Nat.reduceMul, Nat.reduceSub, Nat.reduceLT, Nat.reduceLeDiff, Nat.reduceEqDiff, Int.reduceAdd, Int.reduceLT, Int.reduceLE, Int.reduceNeg, reduceCtorEq, ↓reduceIte, tyfacts, two_d]))
 refine Vm.call_eq2 (sccComp_v (n := N) (es := castE E) (by omega)) ?_ ?_ <;> (repeat (first | with_reducible refine Vm.sk_region _ _ ?_ | simp (maxSteps := 10000000) (disch := first | assumption | (simp only [tyfacts, Vm.szO_eq, Am.vd, Nat.reduceEqDiff, Nat.reduceLT, Nat.reduceLeDiff, Nat.reduceMul, Nat.reduceAdd, reduceCtorEq]; try omega; done) | omega | (intro _; exact Vm.byRefl (by with_unfolding_all rfl))) only [Vm.wantedD, Am.va, Nat.reduceAdd, Nat.reduceMul, Nat.reduceSub, Nat.reduceLT, Nat.reduceLeDiff, Nat.reduceEqDiff, Int.reduceAdd, Int.reduceLT, Int.reduceLE, Int.reduceNeg, reduceCtorEq, ↓reduceIte, tyfacts, two_d]))
 have hco : compF N (castE E) = (tabF N (comp E), 0) := by rw [compF, if_neg (by rw [e3]; simp), e2]; rfl
 have hre : ∀ i : Nat, i < N → reachF N (castE E) i = (castL (reach N E i N), 0) := fun i hi => by rw [reachF, if_neg (by rw [e3]; simp), if_neg (by omega), e2]; rfl
 have hy : cycF N (castE E) = match firstS N E with
   | some s => (castL (pathS N E s (dist E s s - 1) s), 0)
   | none => ([], 14) := by rw [cycF, if_neg (by rw [e3]; simp), e2]; rfl
 rw [hco]
 clear hco e1 e2 e3
 have htl := tabF_len N (comp E)
 generalize cycF N (castE E) = cy at hy
 obtain ⟨ys, ce⟩ := cy
 simp only
 (repeat (first | with_reducible refine Vm.sk_region _ _ ?_ | simp (maxSteps := 10000000) (disch := first | assumption | (simp only [tyfacts, Vm.szO_eq, Am.vd, Nat.reduceEqDiff, Nat.reduceLT, Nat.reduceLeDiff, Nat.reduceMul, Nat.reduceAdd, reduceCtorEq]; try omega; done) | omega | (intro _; exact Vm.byRefl (by with_unfolding_all rfl))) only [Vm.wantedD, Am.va, Nat.reduceAdd, Nat.reduceMul, Nat.reduceSub, Nat.reduceLT, Nat.reduceLeDiff, Nat.reduceEqDiff, Int.reduceAdd, Int.reduceLT, Int.reduceLE, Int.reduceNeg, reduceCtorEq, ↓reduceIte, tyfacts, Int.reduceEq, htl, hcl]))
 refine Vm.sk_loop (fun p : Nat × Nat => p.1) (fun p => ⟨[(0, .atom (.int .i64 N)), (5, .atom (.bool true)), (6, .own 0 E.length), (7, .own 1 ys.length), (8, .atom (.int .i64 ce)), (9, .own 2 N), (11, .atom (.int .i64 p.2)), (12, .atom (.int .i64 ((p.1 : Int) - 1)))],
  [.sl 2 ((castE E).map dE), .sl 1 (ys.map dI), .sl 1 ((tabF N (comp E)).map dI)], 171⟩) (fun p => p.1 ≤ N ∧ FirstI N E p.1 p.2) (N, N) ?_ ⟨Nat.le_refl _, .inl ⟨rfl, fun j h1 h2 => by omega⟩⟩ ?_
 · exact Vm.le_of2 (by rw [hG0]; exact Nat.zero_le _) rfl (by simp (maxSteps := 10000000) (disch := first | assumption | (simp only [tyfacts, Vm.szO_eq, Am.vd, Nat.reduceEqDiff, Nat.reduceLT, Nat.reduceLeDiff, Nat.reduceMul, Nat.reduceAdd, reduceCtorEq]; try omega; done) | omega | (intro _; exact Vm.byRefl (by with_unfolding_all rfl))) only [Vm.wantedD, Am.va, Nat.reduceAdd, Nat.reduceMul, Nat.reduceSub, Nat.reduceLT, Nat.reduceLeDiff, Nat.reduceEqDiff, Int.reduceAdd, Int.reduceLT, Int.reduceLE, Int.reduceNeg, reduceCtorEq, ↓reduceIte, tyfacts])
 rintro ⟨c, f⟩ ⟨hcN, hF⟩ ih
 simp only at hcN hF ⊢
 (repeat (first | with_reducible refine Vm.sk_region _ _ ?_ | simp (maxSteps := 10000000) (disch := first | assumption | (simp only [tyfacts, Vm.szO_eq, Am.vd, Nat.reduceEqDiff, Nat.reduceLT, Nat.reduceLeDiff, Nat.reduceMul, Nat.reduceAdd, reduceCtorEq]; try omega; done) | omega | (intro _; exact Vm.byRefl (by with_unfolding_all rfl))) only [Vm.wantedD, Am.va, Nat.reduceAdd, Nat.reduceMul, Nat.reduceSub, Nat.reduceLT, Nat.reduceLeDiff, Nat.reduceEqDiff, Int.reduceAdd, Int.reduceLT, Int.reduceLE, Int.reduceNeg, reduceCtorEq, ↓reduceIte, tyfacts]))
 refine Vm.sb_dec (fun hq => ?_) (fun hq => ?_)
 · obtain ⟨i, rfl⟩ : ∃ i, c = i + 1 := ⟨c - 1, by omega⟩
   have e1 : (i : Int) + 1 - 1 = i := by omega
   have hr := hre i (by omega)
   (repeat (first | with_reducible refine Vm.sk_region _ _ ?_ | simp (maxSteps := 10000000) (disch := first | assumption | (simp only [tyfacts, Vm.szO_eq, Am.vd, Nat.reduceEqDiff, Nat.reduceLT, Nat.reduceLeDiff, Nat.reduceMul, Nat.reduceAdd, reduceCtorEq]; try omega; done) | omega | (intro _; exact Vm.byRefl (by with_unfolding_all rfl))) only [Vm.wantedD, Am.va, Nat.reduceAdd, Nat.reduceMul, Nat.reduceSub, Nat.reduceLT, Nat.reduceLeDiff, Nat.reduceEqDiff, Int.reduceAdd, Int.reduceLT, Int.reduceLE, Int.reduceNeg, reduceCtorEq, ↓reduceIte, tyfacts, e1]))
   refine Vm.call_eq2 (sccReach_v (n := N) (x := i) (es := castE E) (by omega)) ?_ ?_ <;> (repeat (first | with_reducible refine Vm.sk_region _ _ ?_ | simp (maxSteps := 10000000) (disch := first | assumption | (simp only [tyfacts, Vm.szO_eq, Am.vd, Nat.reduceEqDiff, Nat.reduceLT, Nat.reduceLeDiff, Nat.reduceMul, Nat.reduceAdd, reduceCtorEq]; try omega; done) | omega | (intro _; exact Vm.byRefl (by with_unfolding_all rfl))) only [Vm.wantedD, Am.va, Nat.reduceAdd, Nat.reduceMul, Nat.reduceSub, Nat.reduceLT, Nat.reduceLeDiff, Nat.reduceEqDiff, Int.reduceAdd, Int.reduceLT, Int.reduceLE, Int.reduceNeg, reduceCtorEq, ↓reduceIte, tyfacts, two_d, hr, e1]))
   have hrl := castL_len (reach N E i N)
   have hsm : (reach N E i N).length ≤ N := by unfold reach; exact Nat.le_trans (List.length_filter_le _ _) (by simp)
   (repeat (first | with_reducible refine Vm.sk_region _ _ ?_ | simp (maxSteps := 10000000) (disch := first | assumption | (simp only [tyfacts, Vm.szO_eq, Am.vd, Nat.reduceEqDiff, Nat.reduceLT, Nat.reduceLeDiff, Nat.reduceMul, Nat.reduceAdd, reduceCtorEq]; try omega; done) | omega | (intro _; exact Vm.byRefl (by with_unfolding_all rfl))) only [Vm.wantedD, Am.va, Nat.reduceAdd, Nat.reduceMul, Nat.reduceSub, Nat.reduceLT, Nat.reduceLeDiff, Nat.reduceEqDiff, Int.reduceAdd, Int.reduceLT, Int.reduceLE, Int.reduceNeg, reduceCtorEq, ↓reduceIte, tyfacts, Int.reduceEq, hrl, e1]))
   refine Vm.sk_loop (fun k : Nat => (reach N E i N).length - k) (fun k => ⟨[(0, .atom (.int .i64 N)), (5, .atom (.bool true)), (6, .own 0 E.length), (7, .own 1 ys.length), (8, .atom (.int .i64 ce)), (9, .own 2 N), (11, .atom (.int .i64 (if i ∈ (reach N E i N).take k then (i : Int) else f))), (12, .atom (.int .i64 i)), (13, .own 3 (reach N E i N).length), (15, .atom (.int .i64 k))],
    [.sl 2 ((castE E).map dE), .sl 1 (ys.map dI), .sl 1 ((tabF N (comp E)).map dI), .sl 1 ((castL (reach N E i N)).map dI)], 171⟩) (fun k => k ≤ (reach N E i N).length) 0 ?_ (by omega) ?_
   · have e : (if i ∈ ([] : List Nat) then (i : Int) else f) = f := if_neg (by simp)
     exact Vm.le_of2 (by rw [hG0]; exact Nat.zero_le _) rfl (by simp (maxSteps := 10000000) (disch := first | assumption | (simp only [tyfacts, Vm.szO_eq, Am.vd, Nat.reduceEqDiff, Nat.reduceLT, Nat.reduceLeDiff, Nat.reduceMul, Nat.reduceAdd, reduceCtorEq]; try omega; done) | omega | (intro _; exact Vm.byRefl (by with_unfolding_all rfl))) only [Vm.wantedD, Am.va, Nat.reduceAdd, Nat.reduceMul, Nat.reduceSub, Nat.reduceLT, Nat.reduceLeDiff, Nat.reduceEqDiff, Int.reduceAdd, Int.reduceLT, Int.reduceLE, Int.reduceNeg, reduceCtorEq, ↓reduceIte, tyfacts, e, e1])
   intro k hk ih2
   (repeat (first | with_reducible refine Vm.sk_region _ _ ?_ | simp (maxSteps := 10000000) (disch := first | assumption | (simp only [tyfacts, Vm.szO_eq, Am.vd, Nat.reduceEqDiff, Nat.reduceLT, Nat.reduceLeDiff, Nat.reduceMul, Nat.reduceAdd, reduceCtorEq]; try omega; done) | omega | (intro _; exact Vm.byRefl (by with_unfolding_all rfl))) only [Vm.wantedD, Am.va, Nat.reduceAdd, Nat.reduceMul, Nat.reduceSub, Nat.reduceLT, Nat.reduceLeDiff, Nat.reduceEqDiff, Int.reduceAdd, Int.reduceLT, Int.reduceLE, Int.reduceNeg, reduceCtorEq, ↓reduceIte, tyfacts]))
   refine Vm.sb_dec (fun hq2 => ?_) (fun hq2 => ?_)
   · have hkl : k < (reach N E i N).length := by omega
     have hx := List.getElem?_eq_getElem hkl
     have htk : (reach N E i N).take (k + 1) = (reach N E i N).take k ++ [(reach N E i N)[k]] := by rw [List.take_add_one, hx]; rfl
     generalize (reach N E i N)[k] = y at hx htk
     have hg0 := castL_get _ k hx
     by_cases c1 : y = i
     · subst c1
       have e : (if y ∈ (reach N E y N).take (k + 1) then (y : Int) else f) = y := if_pos (by rw [htk]; simp)
       (repeat (first | with_reducible refine Vm.sk_region _ _ ?_ | simp (maxSteps := 10000000) (disch := first | assumption | (simp only [tyfacts, Vm.szO_eq, Am.vd, Nat.reduceEqDiff, Nat.reduceLT, Nat.reduceLeDiff, Nat.reduceMul, Nat.reduceAdd, reduceCtorEq]; try omega; done) | omega | (intro _; exact Vm.byRefl (by with_unfolding_all rfl))) only [Vm.wantedD, Am.va, Nat.reduceAdd, Nat.reduceMul, Nat.reduceSub, Nat.reduceLT, Nat.reduceLeDiff, Nat.reduceEqDiff, Int.reduceAdd, Int.reduceLT, Int.reduceLE, Int.reduceNeg, reduceCtorEq, ↓reduceIte, tyfacts, hg0, dI]))
       refine ih2 (k + 1) _ (by dsimp only; omega) (by omega) ?_
       exact Vm.le_of2 (by rw [hG0]; exact Nat.zero_le _) rfl (by simp (maxSteps := 10000000) (disch := first | assumption | (simp only [tyfacts, Vm.szO_eq, Am.vd, Nat.reduceEqDiff, Nat.reduceLT, Nat.reduceLeDiff, Nat.reduceMul, Nat.reduceAdd, reduceCtorEq]; try omega; done) | omega | (intro _; exact Vm.byRefl (by with_unfolding_all rfl))) only [Vm.wantedD, Am.va, Nat.reduceAdd, Nat.reduceMul, Nat.reduceSub, Nat.reduceLT, Nat.reduceLeDiff, Nat.reduceEqDiff, Int.reduceAdd, Int.reduceLT, Int.reduceLE, Int.reduceNeg, reduceCtorEq, ↓reduceIte, tyfacts, e])
     · have c2 : ¬ (y : Int) = i := by omega
       have e : (if i ∈ (reach N E i N).take (k + 1) then (i : Int) else f) = if i ∈ (reach N E i N).take k then (i : Int) else f := by
        rw [htk]; simp only [List.mem_append, List.mem_singleton]
        have : ¬ i = y := fun h => c1 h.symm
        simp only [this, or_false]
       (repeat (first | with_reducible refine Vm.sk_region _ _ ?_ | simp (maxSteps := 10000000) (disch := first | assumption | (simp only [tyfacts, Vm.szO_eq, Am.vd, Nat.reduceEqDiff, Nat.reduceLT, Nat.reduceLeDiff, Nat.reduceMul, Nat.reduceAdd, reduceCtorEq]; try omega; done) | omega | (intro _; exact Vm.byRefl (by with_unfolding_all rfl))) only [Vm.wantedD, Am.va, Nat.reduceAdd, Nat.reduceMul, Nat.reduceSub, Nat.reduceLT, Nat.reduceLeDiff, Nat.reduceEqDiff, Int.reduceAdd, Int.reduceLT, Int.reduceLE, Int.reduceNeg, reduceCtorEq, ↓reduceIte, tyfacts, hg0, dI, c2]))
       refine ih2 (k + 1) _ (by dsimp only; omega) (by omega) ?_
       exact Vm.le_of2 (by rw [hG0]; exact Nat.zero_le _) rfl (by simp (maxSteps := 10000000) (disch := first | assumption | (simp only [tyfacts, Vm.szO_eq, Am.vd, Nat.reduceEqDiff, Nat.reduceLT, Nat.reduceLeDiff, Nat.reduceMul, Nat.reduceAdd, reduceCtorEq]; try omega; done) | omega | (intro _; exact Vm.byRefl (by with_unfolding_all rfl))) only [Vm.wantedD, Am.va, Nat.reduceAdd, Nat.reduceMul, Nat.reduceSub, Nat.reduceLT, Nat.reduceLeDiff, Nat.reduceEqDiff, Int.reduceAdd, Int.reduceLT, Int.reduceLE, Int.reduceNeg, reduceCtorEq, ↓reduceIte, tyfacts, e])
   · have hke : k = (reach N E i N).length := by omega
     rw [hke, List.take_length]
     have e2 : (if i ∈ reach N E i N then (i : Int) else f) = ((if 0 < dist E i i then i else f : Nat) : Int) := by
      by_cases h : 0 < dist E i i
      · rw [if_pos h, if_pos (mem_reach.2 ⟨by omega, h⟩)]
      · rw [if_neg h, if_neg fun hm => h (mem_reach.1 hm).2]
     have hF2 : FirstI N E i (if 0 < dist E i i then i else f) := by
      by_cases h : 0 < dist E i i
      · rw [if_pos h]; exact .inr ⟨by omega, Nat.le_refl _, h, fun j h1 h2 => by omega⟩
      · rw [if_neg h]
        rcases hF with ⟨h1, h2⟩ | ⟨h1, h2, h3, h4⟩
        · refine .inl ⟨h1, fun j h3 h4 => ?_⟩
          by_cases e : j = i
          · subst e; omega
          · exact h2 j (by omega) h4
        · refine .inr ⟨h1, by omega, h3, fun j h5 h6 => ?_⟩
          by_cases e : j = i
          · subst e; omega
          · exact h4 j (by omega) h6
     generalize (if 0 < dist E i i then i else f) = f' at e2 hF2
     rw [e2]
     (repeat (first | with_reducible refine Vm.sk_region _ _ ?_ | simp (maxSteps := 10000000) (disch := first | assumption | (simp only [tyfacts, Vm.szO_eq, Am.vd, Nat.reduceEqDiff, Nat.reduceLT, Nat.reduceLeDiff, Nat.reduceMul, Nat.reduceAdd, reduceCtorEq]; try omega; done) | omega | (intro _; exact Vm.byRefl (by with_unfolding_all rfl))) only [Vm.wantedD, Am.va, Nat.reduceAdd, Nat.reduceMul, Nat.reduceSub, Nat.reduceLT, Nat.reduceLeDiff, Nat.reduceEqDiff, Int.reduceAdd, Int.reduceLT, Int.reduceLE, Int.reduceNeg, reduceCtorEq, ↓reduceIte, tyfacts]))
     refine ih (i, f') _ (by dsimp only; omega) ⟨by dsimp only; omega, hF2⟩ ?_
     exact Vm.le_of2 (by rw [hG0]; exact Nat.zero_le _) rfl (by simp (maxSteps := 10000000) (disch := first | assumption | (simp only [tyfacts, Vm.szO_eq, Am.vd, Nat.reduceEqDiff, Nat.reduceLT, Nat.reduceLeDiff, Nat.reduceMul, Nat.reduceAdd, reduceCtorEq]; try omega; done) | omega | (intro _; exact Vm.byRefl (by with_unfolding_all rfl))) only [Vm.wantedD, Am.va, Nat.reduceAdd, Nat.reduceMul, Nat.reduceSub, Nat.reduceLT, Nat.reduceLeDiff, Nat.reduceEqDiff, Int.reduceAdd, Int.reduceLT, Int.reduceLE, Int.reduceNeg, reduceCtorEq, ↓reduceIte, tyfacts])
 · have hc0 : c = 0 := by omega
   subst hc0
   rw [firstI_is hF] at hy
   by_cases hfN : f = N
   · subst hfN
     rw [if_pos rfl] at hy
     cases hy
     (repeat (first | with_reducible refine Vm.sk_region _ _ ?_ | simp (maxSteps := 10000000) (disch := first | assumption | (simp only [tyfacts, Vm.szO_eq, Am.vd, Nat.reduceEqDiff, Nat.reduceLT, Nat.reduceLeDiff, Nat.reduceMul, Nat.reduceAdd, reduceCtorEq]; try omega; done) | omega | (intro _; exact Vm.byRefl (by with_unfolding_all rfl))) only [Vm.wantedD, Am.va, Nat.reduceAdd, Nat.reduceMul, Nat.reduceSub, Nat.reduceLT, Nat.reduceLeDiff, Nat.reduceEqDiff, Int.reduceAdd, Int.reduceLT, Int.reduceLE, Int.reduceNeg, reduceCtorEq, ↓reduceIte, tyfacts, Int.reduceEq]))
     refine Vm.ret_ok (by first | exact .inl rfl | exact .inr rfl) ?_
     simp (maxSteps := 10000000) (disch := first | assumption | (simp only [tyfacts, Vm.szO_eq, Am.vd, Nat.reduceEqDiff, Nat.reduceLT, Nat.reduceLeDiff, Nat.reduceMul, Nat.reduceAdd, reduceCtorEq]; try omega; done) | omega | (intro _; exact Vm.byRefl (by with_unfolding_all rfl))) only [Vm.wantedD, Am.va, Nat.reduceAdd, Nat.reduceMul, Nat.reduceSub, Nat.reduceLT, Nat.reduceLeDiff, Nat.reduceEqDiff, Int.reduceAdd, Int.reduceLT, Int.reduceLE, Int.reduceNeg, reduceCtorEq, ↓reduceIte, tyfacts]
   · have hfl : f < N := by rcases hF with ⟨h1, _⟩ | ⟨h1, _⟩ <;> omega
     have hD0 : 0 < dist E f f := by rcases hF with ⟨h1, _⟩ | ⟨_, _, h1, _⟩; exact absurd h1 hfN; exact h1
     rw [if_neg hfN] at hy
     simp only [Prod.mk.injEq] at hy
     obtain ⟨rfl, rfl⟩ := hy
     obtain ⟨p1, p2⟩ := path_facts hE hfl rfl hD0
     have hpl := pathS_len N E f (dist E f f - 1) f
     have hb := dist_bound hE f f
     have hz := pathS_zero N E f (dist E f f - 1) f
     generalize dist E f f = D at hD0 p1 p2 hpl hb hz
     generalize pathS N E f (D - 1) f = ps at p1 p2 hpl hz
     have hcp := castL_len ps
     have hlen : (castL ps).length = D := by omega
     have hDn : ¬ ((D : Int) = 0) := by omega
     have hz2 := castL_get ps 0 hz
     have hz3 : (castL ps)[0]? = some (f : Int) := by simp [castL, hz]
     have htf := tabD_get (f := comp E) hfl
     (repeat (first | with_reducible refine Vm.sk_region _ _ ?_ | simp (maxSteps := 10000000) (disch := first | assumption | (simp only [tyfacts, Vm.szO_eq, Am.vd, Nat.reduceEqDiff, Nat.reduceLT, Nat.reduceLeDiff, Nat.reduceMul, Nat.reduceAdd, reduceCtorEq]; try omega; done) | omega | (intro _; exact Vm.byRefl (by with_unfolding_all rfl))) only [Vm.wantedD, Am.va, Nat.reduceAdd, Nat.reduceMul, Nat.reduceSub, Nat.reduceLT, Nat.reduceLeDiff, Nat.reduceEqDiff, Int.reduceAdd, Int.reduceLT, Int.reduceLE, Int.reduceNeg, reduceCtorEq, ↓reduceIte, tyfacts, Int.reduceEq, hlen, hDn, hz3, dI, Int.toNat_zero]))
     refine Vm.sk_loop (fun i : Nat => D - i) (fun i => ⟨[(0, .atom (.int .i64 N)), (5, .atom (.bool true)), (6, .own 0 E.length), (7, .own 1 D), (9, .own 2 N), (16, .atom (.int .i64 i))],
      [.sl 2 ((castE E).map dE), .sl 1 ((castL ps).map dI), .sl 1 ((tabF N (comp E)).map dI)], 171⟩) (fun i => i ≤ D) 0 ?_ (by omega) ?_
     · exact Vm.le_of2 (by rw [hG0]; exact Nat.zero_le _) rfl (by simp (maxSteps := 10000000) (disch := first | assumption | (simp only [tyfacts, Vm.szO_eq, Am.vd, Nat.reduceEqDiff, Nat.reduceLT, Nat.reduceLeDiff, Nat.reduceMul, Nat.reduceAdd, reduceCtorEq]; try omega; done) | omega | (intro _; exact Vm.byRefl (by with_unfolding_all rfl))) only [Vm.wantedD, Am.va, Nat.reduceAdd, Nat.reduceMul, Nat.reduceSub, Nat.reduceLT, Nat.reduceLeDiff, Nat.reduceEqDiff, Int.reduceAdd, Int.reduceLT, Int.reduceLE, Int.reduceNeg, reduceCtorEq, ↓reduceIte, tyfacts])
     clear ih
     intro i hi ih
     (repeat (first | with_reducible refine Vm.sk_region _ _ ?_ | simp (maxSteps := 10000000) (disch := first | assumption | (simp only [tyfacts, Vm.szO_eq, Am.vd, Nat.reduceEqDiff, Nat.reduceLT, Nat.reduceLeDiff, Nat.reduceMul, Nat.reduceAdd, reduceCtorEq]; try omega; done) | omega | (intro _; exact Vm.byRefl (by with_unfolding_all rfl))) only [Vm.wantedD, Am.va, Nat.reduceAdd, Nat.reduceMul, Nat.reduceSub, Nat.reduceLT, Nat.reduceLeDiff, Nat.reduceEqDiff, Int.reduceAdd, Int.reduceLT, Int.reduceLE, Int.reduceNeg, reduceCtorEq, ↓reduceIte, tyfacts]))
     refine Vm.sb_dec (fun hq2 => ?_) (fun hq2 => ?_)
     · have hil : i < ps.length := by omega
       have hm : (i + 1) % D < ps.length := by have := Nat.mod_lt (i + 1) hD0; omega
       have hx := List.getElem?_eq_getElem hil
       have hy := List.getElem?_eq_getElem hm
       generalize ps[i] = y at hx
       generalize ps[(i + 1) % D] = z at hy
       obtain ⟨y1, y2, y3⟩ := p1 i y hx
       have hyz := p2 i y z hx hy
       have g0 : (castL ps)[i]? = some (y : Int) := by simp [castL, hx]
       have g1 : (castL ps)[(i + 1) % D]? = some (z : Int) := by simp [castL, hy]
       have hty := tabD_get (f := comp E) y1
       have hx0 : ¬ ((y : Int) < 0) := by omega
       have hx1 : ¬ ((y : Int) ≥ N) := by omega
       have e1 : ((i : Int) + 1).tmod D = (((i + 1) % D : Nat) : Int) := by
        rw [Int.tmod_eq_emod_of_nonneg (by omega)]; simp
       have hdd : decide ((y, z) ∈ E) = true := decide_eq_true hyz
       have y4 : (comp E y : Int) = comp E f := by omega
       generalize (i + 1) % D = w at hm g1 e1
       (repeat (first | with_reducible refine Vm.sk_region _ _ ?_ | simp (maxSteps := 10000000) (disch := first | assumption | (simp only [tyfacts, Vm.szO_eq, Am.vd, Nat.reduceEqDiff, Nat.reduceLT, Nat.reduceLeDiff, Nat.reduceMul, Nat.reduceAdd, reduceCtorEq]; try omega; done) | omega | (intro _; exact Vm.byRefl (by with_unfolding_all rfl))) only [Vm.wantedD, Am.va, Nat.reduceAdd, Nat.reduceMul, Nat.reduceSub, Nat.reduceLT, Nat.reduceLeDiff, Nat.reduceEqDiff, Int.reduceAdd, Int.reduceLT, Int.reduceLE, Int.reduceNeg, reduceCtorEq, ↓reduceIte, tyfacts]))
       refine Vm.sk_draw 46 [0, 1, 2, 3, 4, 5, 6, 7, 8, 9, 10, 11, 12, 13, 14, 15, 16, 17, 18, 19, 20, 21, 22, 23, 24, 25, 26, 27, 28, 29, 30, 31, 32, 33, 34, 35, 36, 37, 38, 39, 40, 41, 42, 43, 44, 45] (by kernel_rfl) (by kernel_rfl) (by decide) ?_
       (repeat (first | with_reducible refine Vm.sk_region _ _ ?_ | simp (maxSteps := 10000000) (disch := first | assumption | (simp only [tyfacts, Vm.szO_eq, Am.vd, Nat.reduceEqDiff, Nat.reduceLT, Nat.reduceLeDiff, Nat.reduceMul, Nat.reduceAdd, reduceCtorEq]; try omega; done) | omega | (intro _; exact Vm.byRefl (by with_unfolding_all rfl))) only [Vm.wantedD, Am.va, Nat.reduceAdd, Nat.reduceMul, Nat.reduceSub, Nat.reduceLT, Nat.reduceLeDiff, Nat.reduceEqDiff, Int.reduceAdd, Int.reduceLT, Int.reduceLE, Int.reduceNeg, reduceCtorEq, ↓reduceIte, tyfacts, g0, g1, dI, hx0, hx1, e1, hlen]))
       refine Vm.call_eq2 (has_v (E := E) (by omega) y z) ?_ ?_ <;> (repeat (first | with_reducible refine Vm.sk_region _ _ ?_ | simp (maxSteps := 10000000) (disch := first | assumption | (simp only [tyfacts, Vm.szO_eq, Am.vd, Nat.reduceEqDiff, Nat.reduceLT, Nat.reduceLeDiff, Nat.reduceMul, Nat.reduceAdd, reduceCtorEq]; try omega; done) | omega | (intro _; exact Vm.byRefl (by with_unfolding_all rfl))) only [Vm.wantedD, Am.va, Nat.reduceAdd, Nat.reduceMul, Nat.reduceSub, Nat.reduceLT, Nat.reduceLeDiff, Nat.reduceEqDiff, Int.reduceAdd, Int.reduceLT, Int.reduceLE, Int.reduceNeg, reduceCtorEq, ↓reduceIte, tyfacts, g0, g1, dI, hx0, hx1, e1, hlen, hdd, hz3, hty, htf, y4, Int.toNat_zero]))
       refine Vm.sk_loop (fun k : Nat => i - k) (fun k => ⟨[(0, .atom (.int .i64 N)), (5, .atom (.bool true)), (6, .own 0 E.length), (7, .own 1 D), (9, .own 2 N), (16, .atom (.int .i64 i)), (17, .atom (.int .i64 k))],
        [.sl 2 ((castE E).map dE), .sl 1 ((castL ps).map dI), .sl 1 ((tabF N (comp E)).map dI)], 171⟩) (fun k => k ≤ i) 0 ?_ (by omega) ?_
       · exact Vm.le_of2 (by rw [hG0]; exact Nat.zero_le _) rfl (by simp (maxSteps := 10000000) (disch := first | assumption | (simp only [tyfacts, Vm.szO_eq, Am.vd, Nat.reduceEqDiff, Nat.reduceLT, Nat.reduceLeDiff, Nat.reduceMul, Nat.reduceAdd, reduceCtorEq]; try omega; done) | omega | (intro _; exact Vm.byRefl (by with_unfolding_all rfl))) only [Vm.wantedD, Am.va, Nat.reduceAdd, Nat.reduceMul, Nat.reduceSub, Nat.reduceLT, Nat.reduceLeDiff, Nat.reduceEqDiff, Int.reduceAdd, Int.reduceLT, Int.reduceLE, Int.reduceNeg, reduceCtorEq, ↓reduceIte, tyfacts])
       intro k hk ih3
       (repeat (first | with_reducible refine Vm.sk_region _ _ ?_ | simp (maxSteps := 10000000) (disch := first | assumption | (simp only [tyfacts, Vm.szO_eq, Am.vd, Nat.reduceEqDiff, Nat.reduceLT, Nat.reduceLeDiff, Nat.reduceMul, Nat.reduceAdd, reduceCtorEq]; try omega; done) | omega | (intro _; exact Vm.byRefl (by with_unfolding_all rfl))) only [Vm.wantedD, Am.va, Nat.reduceAdd, Nat.reduceMul, Nat.reduceSub, Nat.reduceLT, Nat.reduceLeDiff, Nat.reduceEqDiff, Int.reduceAdd, Int.reduceLT, Int.reduceLE, Int.reduceNeg, reduceCtorEq, ↓reduceIte, tyfacts]))
       refine Vm.sb_dec (fun hq3 => ?_) (fun hq3 => ?_)
       · have hkl : k < ps.length := by omega
         have hv := List.getElem?_eq_getElem hkl
         generalize ps[k] = v at hv
         obtain ⟨v1, v2, v3⟩ := p1 k v hv
         have g2 : (castL ps)[k]? = some (v : Int) := by simp [castL, hv]
         have hne : ¬ (v : Int) = y := fun e => by
          have : v = y := by omega
          subst this; omega
         (repeat (first | with_reducible refine Vm.sk_region _ _ ?_ | simp (maxSteps := 10000000) (disch := first | assumption | (simp only [tyfacts, Vm.szO_eq, Am.vd, Nat.reduceEqDiff, Nat.reduceLT, Nat.reduceLeDiff, Nat.reduceMul, Nat.reduceAdd, reduceCtorEq]; try omega; done) | omega | (intro _; exact Vm.byRefl (by with_unfolding_all rfl))) only [Vm.wantedD, Am.va, Nat.reduceAdd, Nat.reduceMul, Nat.reduceSub, Nat.reduceLT, Nat.reduceLeDiff, Nat.reduceEqDiff, Int.reduceAdd, Int.reduceLT, Int.reduceLE, Int.reduceNeg, reduceCtorEq, ↓reduceIte, tyfacts]))
         refine Vm.sk_draw 9 [0, 1, 2, 3, 4, 5, 6, 7, 8] (by kernel_rfl) (by kernel_rfl) (by decide) ?_
         (repeat (first | with_reducible refine Vm.sk_region _ _ ?_ | simp (maxSteps := 10000000) (disch := first | assumption | (simp only [tyfacts, Vm.szO_eq, Am.vd, Nat.reduceEqDiff, Nat.reduceLT, Nat.reduceLeDiff, Nat.reduceMul, Nat.reduceAdd, reduceCtorEq]; try omega; done) | omega | (intro _; exact Vm.byRefl (by with_unfolding_all rfl))) only [Vm.wantedD, Am.va, Nat.reduceAdd, Nat.reduceMul, Nat.reduceSub, Nat.reduceLT, Nat.reduceLeDiff, Nat.reduceEqDiff, Int.reduceAdd, Int.reduceLT, Int.reduceLE, Int.reduceNeg, reduceCtorEq, ↓reduceIte, tyfacts, g0, g2, dI, hne, hlen]))
         refine ih3 (k + 1) _ (by dsimp only; omega) (by omega) ?_
         exact Vm.le_of2 (by rw [hG0]; exact Nat.zero_le _) rfl (by simp (maxSteps := 10000000) (disch := first | assumption | (simp only [tyfacts, Vm.szO_eq, Am.vd, Nat.reduceEqDiff, Nat.reduceLT, Nat.reduceLeDiff, Nat.reduceMul, Nat.reduceAdd, reduceCtorEq]; try omega; done) | omega | (intro _; exact Vm.byRefl (by with_unfolding_all rfl))) only [Vm.wantedD, Am.va, Nat.reduceAdd, Nat.reduceMul, Nat.reduceSub, Nat.reduceLT, Nat.reduceLeDiff, Nat.reduceEqDiff, Int.reduceAdd, Int.reduceLT, Int.reduceLE, Int.reduceNeg, reduceCtorEq, ↓reduceIte, tyfacts])
       · (repeat (first | with_reducible refine Vm.sk_region _ _ ?_ | simp (maxSteps := 10000000) (disch := first | assumption | (simp only [tyfacts, Vm.szO_eq, Am.vd, Nat.reduceEqDiff, Nat.reduceLT, Nat.reduceLeDiff, Nat.reduceMul, Nat.reduceAdd, reduceCtorEq]; try omega; done) | omega | (intro _; exact Vm.byRefl (by with_unfolding_all rfl))) only [Vm.wantedD, Am.va, Nat.reduceAdd, Nat.reduceMul, Nat.reduceSub, Nat.reduceLT, Nat.reduceLeDiff, Nat.reduceEqDiff, Int.reduceAdd, Int.reduceLT, Int.reduceLE, Int.reduceNeg, reduceCtorEq, ↓reduceIte, tyfacts]))
         refine ih (i + 1) _ (by dsimp only; omega) (by omega) ?_
         exact Vm.le_of2 (by rw [hG0]; exact Nat.zero_le _) rfl (by simp (maxSteps := 10000000) (disch := first | assumption | (simp only [tyfacts, Vm.szO_eq, Am.vd, Nat.reduceEqDiff, Nat.reduceLT, Nat.reduceLeDiff, Nat.reduceMul, Nat.reduceAdd, reduceCtorEq]; try omega; done) | omega | (intro _; exact Vm.byRefl (by with_unfolding_all rfl))) only [Vm.wantedD, Am.va, Nat.reduceAdd, Nat.reduceMul, Nat.reduceSub, Nat.reduceLT, Nat.reduceLeDiff, Nat.reduceEqDiff, Int.reduceAdd, Int.reduceLT, Int.reduceLE, Int.reduceNeg, reduceCtorEq, ↓reduceIte, tyfacts])
     · (repeat (first | with_reducible refine Vm.sk_region _ _ ?_ | simp (maxSteps := 10000000) (disch := first | assumption | (simp only [tyfacts, Vm.szO_eq, Am.vd, Nat.reduceEqDiff, Nat.reduceLT, Nat.reduceLeDiff, Nat.reduceMul, Nat.reduceAdd, reduceCtorEq]; try omega; done) | omega | (intro _; exact Vm.byRefl (by with_unfolding_all rfl))) only [Vm.wantedD, Am.va, Nat.reduceAdd, Nat.reduceMul, Nat.reduceSub, Nat.reduceLT, Nat.reduceLeDiff, Nat.reduceEqDiff, Int.reduceAdd, Int.reduceLT, Int.reduceLE, Int.reduceNeg, reduceCtorEq, ↓reduceIte, tyfacts]))
       refine Vm.ret_ok (by first | exact .inl rfl | exact .inr rfl) ?_
       simp (maxSteps := 10000000) (disch := first | assumption | (simp only [tyfacts, Vm.szO_eq, Am.vd, Nat.reduceEqDiff, Nat.reduceLT, Nat.reduceLeDiff, Nat.reduceMul, Nat.reduceAdd, reduceCtorEq]; try omega; done) | omega | (intro _; exact Vm.byRefl (by with_unfolding_all rfl))) only [Vm.wantedD, Am.va, Nat.reduceAdd, Nat.reduceMul, Nat.reduceSub, Nat.reduceLT, Nat.reduceLeDiff, Nat.reduceEqDiff, Int.reduceAdd, Int.reduceLT, Int.reduceLE, Int.reduceNeg, reduceCtorEq, ↓reduceIte, tyfacts]
end Go.Proofs.Ytbhgjikjdblgeaa.W
