import Derived.Test.YtbhgjikjdblgeaaGkF
import Derived.Test.YtbhgjikjdblgeaaVmC
import Derived.Test.YtbhgjikjdblgeaaVmD
set_option linter.unusedSimpArgs false
set_option linter.unusedVariables false
set_option maxRecDepth 8000
/- Orders and cycles: there is an order just if there is no cycle. No conditions. -/
namespace Go.Proofs.Ytbhgjikjdblgeaa.W
open Go.Am Go.Am.Ord Go.Am.Scc
-- VEX nlR_boolD
end Go.Proofs.Ytbhgjikjdblgeaa.W

/- Edges by numbers. No conditions. -/
namespace Go.Proofs.Ytbhgjikjdblgeaa.W
open Go.Am Go.Am.Ord Go.Am.Scc
-- VEX nlR_boolD
def madeT (n : Int) (l : List Int) (j : Nat) : List (Int × Int) := (List.range j).map fun i => (pickF (l.getD (2 * i) 0) n, pickF (l.getD (2 * i + 1) 0) n)
def madeG (n : Int) (l : List Int) : List (Int × Int) := if 0 < n then madeT n l (l.length / 2) else []
theorem madeT_len (n : Int) (l : List Int) (j : Nat) : (madeT n l j).length = j := by simp [madeT]
theorem madeT_succ (n : Int) (l : List Int) (j : Nat) : madeT n l (j + 1) = madeT n l j ++ [(pickF (l.getD (2 * j) 0) n, pickF (l.getD (2 * j + 1) 0) n)] := by simp [madeT, List.range_succ]
theorem made_v {n : Int} {l : List Int} (hn : n < 1000000000) (hl : l.length < 100000) : Vm.VC T 27 [.atom (.int .i64 n), .imm 1 (l.map dI)] fun d => d = .fresh 2 ((madeG n l).map dE) := by
 refine Vm.vc_enter (T := T) rfl Try.func27 rfl (by simp only [Try.f27, List.length_cons, List.length_nil]; decide) fun g hB hG0 hU => ?_
 simp only [Try.f27, Vm.argsTm_cons, Vm.argsTm_nil, Nat.reduceAdd]
 (repeat (first | with_reducible refine Vm.sk_region _ _ ?_ | simp (maxSteps := 10000000) (disch := first | assumption | (simp (disch := (intro _; exact Vm.byRefl (by with_unfolding_all rfl))) only [tyfacts, Vm.szO_eq, Am.vd, Nat.reduceEqDiff, Nat.reduceLT, Nat.reduceLeDiff, Nat.reduceMul, Nat.reduceAdd, reduceCtorEq, nlR_boolD]; try omega; done) | omega | (intro _; exact Vm.byRefl (by with_unfolding_all rfl))) only [Vm.wantedD, Am.va, Nat.reduceAdd, Nat.reduceMul, Nat.reduceSub, Nat.reduceLT, Nat.reduceLeDiff, Nat.reduceEqDiff, Int.reduceAdd, Int.reduceLT, Int.reduceLE, Int.reduceNeg, reduceCtorEq, ↓reduceIte, tyfacts, nlR_boolD]))
 refine Vm.sk_nil 5 2 (by simp (maxSteps := 10000000) (disch := first | assumption | (simp (disch := (intro _; exact Vm.byRefl (by with_unfolding_all rfl))) only [tyfacts, Vm.szO_eq, Am.vd, Nat.reduceEqDiff, Nat.reduceLT, Nat.reduceLeDiff, Nat.reduceMul, Nat.reduceAdd, reduceCtorEq, nlR_boolD]; try omega; done) | omega | (intro _; exact Vm.byRefl (by with_unfolding_all rfl))) only [Vm.wantedD, Am.va, Nat.reduceAdd, Nat.reduceMul, Nat.reduceSub, Nat.reduceLT, Nat.reduceLeDiff, Nat.reduceEqDiff, Int.reduceAdd, Int.reduceLT, Int.reduceLE, Int.reduceNeg, reduceCtorEq, ↓reduceIte, tyfacts, nlR_boolD]) ?_
 (repeat (first | with_reducible refine Vm.sk_region _ _ ?_ | simp (maxSteps := 10000000) (disch := first | assumption | (simp (disch := (intro _; exact Vm.byRefl (by with_unfolding_all rfl))) only [tyfacts, Vm.szO_eq, Am.vd, Nat.reduceEqDiff, Nat.reduceLT, Nat.reduceLeDiff, Nat.reduceMul, Nat.reduceAdd, reduceCtorEq, nlR_boolD]; try omega; done) | omega | (intro _; exact Vm.byRefl (by with_unfolding_all rfl))) only [Vm.wantedD, Am.va, Nat.reduceAdd, Nat.reduceMul, Nat.reduceSub, Nat.reduceLT, Nat.reduceLeDiff, Nat.reduceEqDiff, Int.reduceAdd, Int.reduceLT, Int.reduceLE, Int.reduceNeg, reduceCtorEq, ↓reduceIte, tyfacts, nlR_boolD]))
 refine Vm.sk_loop (fun j : Nat => l.length - 2 * j) (fun j => ⟨[(0, .atom (.int .i64 n)), (1, .imm 1 (l.map dI)), (5, .own 0 j), (6, .atom (.int .i64 (2 * (j : Int))))], [.sl 2 ((madeT n l j).map dE)], 36⟩) (fun j => 2 * j ≤ l.length ∧ (0 < n ∨ j = 0)) 0 ?_ ⟨by omega, .inr rfl⟩ ?_
 · have e : madeT n l 0 = [] := rfl
   exact Vm.le_of2 (by rw [hG0]; exact Nat.zero_le _) rfl (by simp (maxSteps := 10000000) (disch := first | assumption | (simp (disch := (intro _; exact Vm.byRefl (by with_unfolding_all rfl))) only [tyfacts, Vm.szO_eq, Am.vd, Nat.reduceEqDiff, Nat.reduceLT, Nat.reduceLeDiff, Nat.reduceMul, Nat.reduceAdd, reduceCtorEq, nlR_boolD]; try omega; done) | omega | (intro _; exact Vm.byRefl (by with_unfolding_all rfl))) only [Vm.wantedD, Am.va, Nat.reduceAdd, Nat.reduceMul, Nat.reduceSub, Nat.reduceLT, Nat.reduceLeDiff, Nat.reduceEqDiff, Int.reduceAdd, Int.reduceLT, Int.reduceLE, Int.reduceNeg, reduceCtorEq, ↓reduceIte, tyfacts, nlR_boolD, e, Int.mul_zero])
 rintro j ⟨hj, hj2⟩ ih
 have hlen := madeT_len n l j
 by_cases h0 : n > 0
 · have hG : madeG n l = madeT n l (l.length / 2) := if_pos h0
   (repeat (first | with_reducible refine Vm.sk_region _ _ ?_ | simp (maxSteps := 10000000) (disch := first | assumption | (simp (disch := (intro _; exact Vm.byRefl (by with_unfolding_all rfl))) only [tyfacts, Vm.szO_eq, Am.vd, Nat.reduceEqDiff, Nat.reduceLT, Nat.reduceLeDiff, Nat.reduceMul, Nat.reduceAdd, reduceCtorEq, nlR_boolD]; try omega; done) | omega | (intro _; exact Vm.byRefl (by with_unfolding_all rfl))) only [Vm.wantedD, Am.va, Nat.reduceAdd, Nat.reduceMul, Nat.reduceSub, Nat.reduceLT, Nat.reduceLeDiff, Nat.reduceEqDiff, Int.reduceAdd, Int.reduceLT, Int.reduceLE, Int.reduceNeg, reduceCtorEq, ↓reduceIte, tyfacts, nlR_boolD, h0]))
   refine Vm.sb_dec (fun hc => ?_) (fun hc => ?_)
   · have h1 : l[2 * j]? = some (l.getD (2 * j) 0) := by rw [List.getD_eq_getElem?_getD, List.getElem?_eq_getElem (by omega)]; rfl
     have h2 : l[2 * j + 1]? = some (l.getD (2 * j + 1) 0) := by rw [List.getD_eq_getElem?_getD, List.getElem?_eq_getElem (by omega)]; rfl
     have e1 : (2 * (j : Int)).toNat = 2 * j := by omega
     have e2 : (2 * (j : Int) + 1).toNat = 2 * j + 1 := by omega
     (repeat (first | with_reducible refine Vm.sk_region _ _ ?_ | simp (maxSteps := 10000000) (disch := first | assumption | (simp (disch := (intro _; exact Vm.byRefl (by with_unfolding_all rfl))) only [tyfacts, Vm.szO_eq, Am.vd, Nat.reduceEqDiff, Nat.reduceLT, Nat.reduceLeDiff, Nat.reduceMul, Nat.reduceAdd, reduceCtorEq, nlR_boolD]; try omega; done) | omega | (intro _; exact Vm.byRefl (by with_unfolding_all rfl))) only [Vm.wantedD, Am.va, Nat.reduceAdd, Nat.reduceMul, Nat.reduceSub, Nat.reduceLT, Nat.reduceLeDiff, Nat.reduceEqDiff, Int.reduceAdd, Int.reduceLT, Int.reduceLE, Int.reduceNeg, reduceCtorEq, ↓reduceIte, tyfacts, nlR_boolD]))
     refine Vm.sk_draw2 18 [1,2,3,4,5,6,7,8,9,10,11,12,13,0,14,15,16,17] [0,0,0,6,14,0,62,0,0,256,896,1920,0,8190,16382,32766,65535,131071] (by kernel_rfl) (by kernel_rfl) (by decide) ?_
     (repeat (first | with_reducible refine Vm.sk_region _ _ ?_ | simp (maxSteps := 10000000) (disch := first | assumption | (simp (disch := (intro _; exact Vm.byRefl (by with_unfolding_all rfl))) only [tyfacts, Vm.szO_eq, Am.vd, Nat.reduceEqDiff, Nat.reduceLT, Nat.reduceLeDiff, Nat.reduceMul, Nat.reduceAdd, reduceCtorEq, nlR_boolD]; try omega; done) | omega | (intro _; exact Vm.byRefl (by with_unfolding_all rfl))) only [Vm.wantedD, Am.va, Nat.reduceAdd, Nat.reduceMul, Nat.reduceSub, Nat.reduceLT, Nat.reduceLeDiff, Nat.reduceEqDiff, Int.reduceAdd, Int.reduceLT, Int.reduceLE, Int.reduceNeg, reduceCtorEq, ↓reduceIte, tyfacts, nlR_boolD, Am.vt, Am.reads, Am.quiet, Am.isAlloc, Nat.testBit, Nat.reduceShiftRight, Nat.reduceAnd, Nat.reduceBNe, h1, h2, dI, e1, e2]))
     refine Vm.callQ_eq2 (pick_v (x := l.getD (2 * j) 0) (n := n) hn) ?_ ?_ <;> (repeat (first | with_reducible refine Vm.sk_region _ _ ?_ | simp (maxSteps := 10000000) (disch := first | assumption | (simp (disch := (intro _; exact Vm.byRefl (by with_unfolding_all rfl))) only [tyfacts, Vm.szO_eq, Am.vd, Nat.reduceEqDiff, Nat.reduceLT, Nat.reduceLeDiff, Nat.reduceMul, Nat.reduceAdd, reduceCtorEq, nlR_boolD]; try omega; done) | omega | (intro _; exact Vm.byRefl (by with_unfolding_all rfl))) only [Vm.wantedD, Am.va, Nat.reduceAdd, Nat.reduceMul, Nat.reduceSub, Nat.reduceLT, Nat.reduceLeDiff, Nat.reduceEqDiff, Int.reduceAdd, Int.reduceLT, Int.reduceLE, Int.reduceNeg, reduceCtorEq, ↓reduceIte, tyfacts, nlR_boolD, Am.vt, Am.reads, Am.quiet, Am.isAlloc, Nat.testBit, Nat.reduceShiftRight, Nat.reduceAnd, Nat.reduceBNe, h1, h2, dI, e1, e2]))
     refine Vm.callQ_eq2 (pick_v (x := l.getD (2 * j + 1) 0) (n := n) hn) ?_ ?_ <;> (repeat (first | with_reducible refine Vm.sk_region _ _ ?_ | simp (maxSteps := 10000000) (disch := first | assumption | (simp (disch := (intro _; exact Vm.byRefl (by with_unfolding_all rfl))) only [tyfacts, Vm.szO_eq, Am.vd, Nat.reduceEqDiff, Nat.reduceLT, Nat.reduceLeDiff, Nat.reduceMul, Nat.reduceAdd, reduceCtorEq, nlR_boolD]; try omega; done) | omega | (intro _; exact Vm.byRefl (by with_unfolding_all rfl))) only [Vm.wantedD, Am.va, Nat.reduceAdd, Nat.reduceMul, Nat.reduceSub, Nat.reduceLT, Nat.reduceLeDiff, Nat.reduceEqDiff, Int.reduceAdd, Int.reduceLT, Int.reduceLE, Int.reduceNeg, reduceCtorEq, ↓reduceIte, tyfacts, nlR_boolD, Am.vt, Am.reads, Am.quiet, Am.isAlloc, Nat.testBit, Nat.reduceShiftRight, Nat.reduceAnd, Nat.reduceBNe, h1, h2, dI, e1, e2]))
     have e3 : 2 * (j : Int) + 2 = 2 * ((j : Int) + 1) := by omega
     have e4 := madeT_succ n l j
     refine ih (j + 1) _ (by dsimp only; omega) ⟨by omega, .inl h0⟩ ?_
     exact Vm.le_of2 (by rw [hG0]; exact Nat.zero_le _) rfl (by simp (maxSteps := 10000000) (disch := first | assumption | (simp (disch := (intro _; exact Vm.byRefl (by with_unfolding_all rfl))) only [tyfacts, Vm.szO_eq, Am.vd, Nat.reduceEqDiff, Nat.reduceLT, Nat.reduceLeDiff, Nat.reduceMul, Nat.reduceAdd, reduceCtorEq, nlR_boolD]; try omega; done) | omega | (intro _; exact Vm.byRefl (by with_unfolding_all rfl))) only [Vm.wantedD, Am.va, Nat.reduceAdd, Nat.reduceMul, Nat.reduceSub, Nat.reduceLT, Nat.reduceLeDiff, Nat.reduceEqDiff, Int.reduceAdd, Int.reduceLT, Int.reduceLE, Int.reduceNeg, reduceCtorEq, ↓reduceIte, tyfacts, nlR_boolD, e3, e4, dE, List.map_append])
   · (repeat (first | with_reducible refine Vm.sk_region _ _ ?_ | simp (maxSteps := 10000000) (disch := first | assumption | (simp (disch := (intro _; exact Vm.byRefl (by with_unfolding_all rfl))) only [tyfacts, Vm.szO_eq, Am.vd, Nat.reduceEqDiff, Nat.reduceLT, Nat.reduceLeDiff, Nat.reduceMul, Nat.reduceAdd, reduceCtorEq, nlR_boolD]; try omega; done) | omega | (intro _; exact Vm.byRefl (by with_unfolding_all rfl))) only [Vm.wantedD, Am.va, Nat.reduceAdd, Nat.reduceMul, Nat.reduceSub, Nat.reduceLT, Nat.reduceLeDiff, Nat.reduceEqDiff, Int.reduceAdd, Int.reduceLT, Int.reduceLE, Int.reduceNeg, reduceCtorEq, ↓reduceIte, tyfacts, nlR_boolD]))
     refine Vm.ret_ok (by first | exact .inl rfl | exact .inr rfl) hU ?_
     simp (maxSteps := 10000000) (disch := first | assumption | (simp (disch := (intro _; exact Vm.byRefl (by with_unfolding_all rfl))) only [tyfacts, Vm.szO_eq, Am.vd, Nat.reduceEqDiff, Nat.reduceLT, Nat.reduceLeDiff, Nat.reduceMul, Nat.reduceAdd, reduceCtorEq, nlR_boolD]; try omega; done) | omega | (intro _; exact Vm.byRefl (by with_unfolding_all rfl))) only [Vm.wantedD, Am.va, Nat.reduceAdd, Nat.reduceMul, Nat.reduceSub, Nat.reduceLT, Nat.reduceLeDiff, Nat.reduceEqDiff, Int.reduceAdd, Int.reduceLT, Int.reduceLE, Int.reduceNeg, reduceCtorEq, ↓reduceIte, tyfacts, nlR_boolD]
     rw [hG, show l.length / 2 = j by omega]
 · (repeat (first | with_reducible refine Vm.sk_region _ _ ?_ | simp (maxSteps := 10000000) (disch := first | assumption | (simp (disch := (intro _; exact Vm.byRefl (by with_unfolding_all rfl))) only [tyfacts, Vm.szO_eq, Am.vd, Nat.reduceEqDiff, Nat.reduceLT, Nat.reduceLeDiff, Nat.reduceMul, Nat.reduceAdd, reduceCtorEq, nlR_boolD]; try omega; done) | omega | (intro _; exact Vm.byRefl (by with_unfolding_all rfl))) only [Vm.wantedD, Am.va, Nat.reduceAdd, Nat.reduceMul, Nat.reduceSub, Nat.reduceLT, Nat.reduceLeDiff, Nat.reduceEqDiff, Int.reduceAdd, Int.reduceLT, Int.reduceLE, Int.reduceNeg, reduceCtorEq, ↓reduceIte, tyfacts, nlR_boolD, h0]))
   refine Vm.ret_ok (by first | exact .inl rfl | exact .inr rfl) hU ?_
   simp (maxSteps := 10000000) (disch := first | assumption | (simp (disch := (intro _; exact Vm.byRefl (by with_unfolding_all rfl))) only [tyfacts, Vm.szO_eq, Am.vd, Nat.reduceEqDiff, Nat.reduceLT, Nat.reduceLeDiff, Nat.reduceMul, Nat.reduceAdd, reduceCtorEq, nlR_boolD]; try omega; done) | omega | (intro _; exact Vm.byRefl (by with_unfolding_all rfl))) only [Vm.wantedD, Am.va, Nat.reduceAdd, Nat.reduceMul, Nat.reduceSub, Nat.reduceLT, Nat.reduceLeDiff, Nat.reduceEqDiff, Int.reduceAdd, Int.reduceLT, Int.reduceLE, Int.reduceNeg, reduceCtorEq, ↓reduceIte, tyfacts, nlR_boolD]
   obtain rfl : j = 0 := by omega
   rw [madeG, if_neg h0]; rfl
end Go.Proofs.Ytbhgjikjdblgeaa.W

/- The law of components. No conditions. -/
namespace Go.Proofs.Ytbhgjikjdblgeaa.W
open Go.Am Go.Am.Ord Go.Am.Scc
-- VEX nlR_boolD, nlR_LR
theorem madeG_len (n : Int) (l : List Int) : (madeG n l).length ≤ l.length := by
 unfold madeG
 split
 · rw [madeT_len]; omega
 · simp
theorem made_graph {n : Int} (h0 : 0 ≤ n) (h1 : n < 4096) {l : List Int} (hl : l.length ≤ 1000) : ∃ (m : Nat) (E : Es), n = (m : Int) ∧ madeG n l = castE E ∧ (∀ p, p ∈ E → p.1 < m ∧ p.2 < m) ∧ natE (castE E) = E ∧ checkS n (castE E) = 0 ∧ E.length ≤ l.length := by
 have hb : ∀ p, p ∈ madeG n l → 0 ≤ p.1 ∧ p.1 < n ∧ 0 ≤ p.2 ∧ p.2 < n := by
  intro p hp
  unfold madeG at hp
  split at hp
  · rename_i h
    obtain ⟨i, _, rfl⟩ := List.mem_map.1 hp
    have a := pickF_lt (n := l.getD (2 * i) 0) h
    have b := pickF_lt (n := l.getD (2 * i + 1) 0) h
    exact ⟨a.1, a.2, b.1, b.2⟩
  · cases hp
 have hlen := madeG_len n l
 generalize madeG n l = es at hb hlen
 have hc : checkS n es = 0 := by
  unfold checkS
  rw [if_neg (by omega), if_neg (by omega), if_neg]
  rw [List.any_eq_true]
  rintro ⟨p, hp, h⟩
  have := hb p hp
  simp only [badE, Bool.or_eq_true, decide_eq_true_eq] at h
  omega
 obtain ⟨c1, c2, c3, c4, c5⟩ := check_zeroS hc
 refine ⟨n.toNat, natE es, by omega, c4.symm, c5, by rw [c4], by rw [c4]; exact hc, by simp [natE]; exact hlen⟩
def doneF (o : List Nat) (i k : Nat) : Bool := (o.take i).contains k
noncomputable def leadsF (E : Es) (x y : Nat) : Bool := decide (0 < dist E x y)
theorem comp_leads {E : Es} {x y : Nat} : decide ((comp E x : Int) = comp E y) = (decide ((x : Int) = y) || (leadsF E x y && leadsF E y x)) := by
 have h : ((comp E x : Int) = comp E y) ↔ comp E x = comp E y := by omega
 rw [Bool.eq_iff_iff]
 simp only [decide_eq_true_eq, Bool.or_eq_true, Bool.and_eq_true, leadsF]
 rw [h, comp_iff, mut_dist]
 constructor
 · rintro (rfl | h)
   · exact .inl rfl
   · exact .inr h
 · rintro (h | h)
   · exact .inl (by omega)
   · exact .inr h
theorem reach_strict (n : Nat) (E : Es) (x i : Nat) : (reach n E x i).Pairwise (· < ·) := List.pairwise_lt_range.sublist List.filter_sublist
theorem mem_reach {n : Nat} {E : Es} {x i y : Nat} : y ∈ reach n E x i ↔ y < i ∧ 0 < dist E x y := by simp [reach]
noncomputable def LR (n : Nat) (E : Es) (i : Nat) : List (List Vm.D) := (List.range n).map fun j => if j < i then [.fresh 1 (boolD n (leadsF E j))] else [.atom .nilSlice]
theorem LR_len (n : Nat) (E : Es) (i : Nat) : (LR n E i).length = n := by simp [LR]
theorem nlR_LR (n : Nat) (E : Es) (i : Nat) : Vm.nlR (LR n E i) = true := Vm.nlR_map (fun j => by by_cases h : j < i <;> simp [h, Vm.nlL, Vm.D.nl]) _
theorem LR_zero (n : Nat) (E : Es) : List.replicate n [Vm.D.atom .nilSlice] = LR n E 0 := by
 apply List.ext_getElem
 · simp [LR]
 · intro j h1 h2; simp [LR]
theorem LR_get {n : Nat} {E : Es} {i j : Nat} (h : j < n) (hi : i ≤ j) : (LR n E i)[j]? = some [.atom .nilSlice] := by
 have : ¬ j < i := by omega
 simp [LR, h, this]
theorem LR_set {n : Nat} {E : Es} {i : Nat} (h : i < n) : (LR n E i).set i [.fresh 1 (boolD n (leadsF E i))] = LR n E (i + 1) := by
 apply List.ext_getElem
 · simp [LR]
 · intro j h1 h2
   simp only [LR, List.getElem_set, List.getElem_map, List.getElem_range]
   by_cases e : i = j
   · subst e; simp
   · rw [if_neg e]
     by_cases h3 : j < i
     · rw [if_pos h3, if_pos (by omega)]
     · rw [if_neg h3, if_neg (by omega)]
theorem boolD_congr {n : Nat} {f g : Nat → Bool} (h : ∀ k, k < n → f k = g k) : boolD n f = boolD n g := by
 simp only [boolD]
 apply List.map_congr_left
 intro k hk
 rw [h k (by simpa using hk)]
set_option maxHeartbeats 2000000 in
theorem parts_v (n : Int) (l : List Int) : Vm.VC T 7 [.atom (.int .i64 n), .imm 1 (l.map dI)] fun d => d = .atom (.bool true) := by
 refine Vm.vc_enter (T := T) rfl Try.func7 rfl (by simp only [Try.f7, List.length_cons, List.length_nil]; decide) fun g hB hG0 hU => ?_
 simp only [Try.f7, Vm.argsTm_cons, Vm.argsTm_nil, Nat.reduceAdd]
 (repeat (first | with_reducible refine Vm.sk_region _ _ ?_ | simp (maxSteps := 10000000) (disch := first | assumption | (simp (disch := (intro _; exact Vm.byRefl (by with_unfolding_all rfl))) only [tyfacts, Vm.szO_eq, Am.vd, Nat.reduceEqDiff, Nat.reduceLT, Nat.reduceLeDiff, Nat.reduceMul, Nat.reduceAdd, reduceCtorEq, nlR_boolD, nlR_LR]; try omega; done) | omega | (intro _; exact Vm.byRefl (by with_unfolding_all rfl))) only [Vm.wantedD, Am.va, Nat.reduceAdd, Nat.reduceMul, Nat.reduceSub, Nat.reduceLT, Nat.reduceLeDiff, Nat.reduceEqDiff, Int.reduceAdd, Int.reduceLT, Int.reduceLE, Int.reduceNeg, reduceCtorEq, ↓reduceIte, tyfacts, nlR_boolD, nlR_LR]))
 refine Vm.call_eq2 (known_v) ?_ ?_ <;> (repeat (first | with_reducible refine Vm.sk_region _ _ ?_ | simp (maxSteps := 10000000) (disch := first | assumption | (simp (disch := (intro _; exact Vm.byRefl (by with_unfolding_all rfl))) only [tyfacts, Vm.szO_eq, Am.vd, Nat.reduceEqDiff, Nat.reduceLT, Nat.reduceLeDiff, Nat.reduceMul, Nat.reduceAdd, reduceCtorEq, nlR_boolD, nlR_LR]; try omega; done) | omega | (intro _; exact Vm.byRefl (by with_unfolding_all rfl))) only [Vm.wantedD, Am.va, Nat.reduceAdd, Nat.reduceMul, Nat.reduceSub, Nat.reduceLT, Nat.reduceLeDiff, Nat.reduceEqDiff, Int.reduceAdd, Int.reduceLT, Int.reduceLE, Int.reduceNeg, reduceCtorEq, ↓reduceIte, tyfacts, nlR_boolD, nlR_LR]))
 refine Vm.call_eq2 (pick_v (x := n) (n := 13) (by decide)) ?_ ?_ <;> (repeat (first | with_reducible refine Vm.sk_region _ _ ?_ | simp (maxSteps := 10000000) (disch := first | assumption | (simp (disch := (intro _; exact Vm.byRefl (by with_unfolding_all rfl))) only [tyfacts, Vm.szO_eq, Am.vd, Nat.reduceEqDiff, Nat.reduceLT, Nat.reduceLeDiff, Nat.reduceMul, Nat.reduceAdd, reduceCtorEq, nlR_boolD, nlR_LR]; try omega; done) | omega | (intro _; exact Vm.byRefl (by with_unfolding_all rfl))) only [Vm.wantedD, Am.va, Nat.reduceAdd, Nat.reduceMul, Nat.reduceSub, Nat.reduceLT, Nat.reduceLeDiff, Nat.reduceEqDiff, Int.reduceAdd, Int.reduceLT, Int.reduceLE, Int.reduceNeg, reduceCtorEq, ↓reduceIte, tyfacts, nlR_boolD, nlR_LR]))
 obtain ⟨m0, m1⟩ := pickF_lt (n := n) (m := 13) (by decide)
 generalize pickF n 13 = m at m0 m1 ⊢
 refine Vm.sb_dec (fun hc => ?_) (fun hc => ?_)
 · (repeat (first | with_reducible refine Vm.sk_region _ _ ?_ | simp (maxSteps := 10000000) (disch := first | assumption | (simp (disch := (intro _; exact Vm.byRefl (by with_unfolding_all rfl))) only [tyfacts, Vm.szO_eq, Am.vd, Nat.reduceEqDiff, Nat.reduceLT, Nat.reduceLeDiff, Nat.reduceMul, Nat.reduceAdd, reduceCtorEq, nlR_boolD, nlR_LR]; try omega; done) | omega | (intro _; exact Vm.byRefl (by with_unfolding_all rfl))) only [Vm.wantedD, Am.va, Nat.reduceAdd, Nat.reduceMul, Nat.reduceSub, Nat.reduceLT, Nat.reduceLeDiff, Nat.reduceEqDiff, Int.reduceAdd, Int.reduceLT, Int.reduceLE, Int.reduceNeg, reduceCtorEq, ↓reduceIte, tyfacts, nlR_boolD, nlR_LR]))
   refine Vm.ret_ok (by first | exact .inl rfl | exact .inr rfl) hU ?_
   simp (maxSteps := 10000000) (disch := first | assumption | (simp (disch := (intro _; exact Vm.byRefl (by with_unfolding_all rfl))) only [tyfacts, Vm.szO_eq, Am.vd, Nat.reduceEqDiff, Nat.reduceLT, Nat.reduceLeDiff, Nat.reduceMul, Nat.reduceAdd, reduceCtorEq, nlR_boolD, nlR_LR]; try omega; done) | omega | (intro _; exact Vm.byRefl (by with_unfolding_all rfl))) only [Vm.wantedD, Am.va, Nat.reduceAdd, Nat.reduceMul, Nat.reduceSub, Nat.reduceLT, Nat.reduceLeDiff, Nat.reduceEqDiff, Int.reduceAdd, Int.reduceLT, Int.reduceLE, Int.reduceNeg, reduceCtorEq, ↓reduceIte, tyfacts, nlR_boolD, nlR_LR]
 have hll : l.length ≤ 80 := by omega
 (repeat (first | with_reducible refine Vm.sk_region _ _ ?_ | simp (maxSteps := 10000000) (disch := first | assumption | (simp (disch := (intro _; exact Vm.byRefl (by with_unfolding_all rfl))) only [tyfacts, Vm.szO_eq, Am.vd, Nat.reduceEqDiff, Nat.reduceLT, Nat.reduceLeDiff, Nat.reduceMul, Nat.reduceAdd, reduceCtorEq, nlR_boolD, nlR_LR]; try omega; done) | omega | (intro _; exact Vm.byRefl (by with_unfolding_all rfl))) only [Vm.wantedD, Am.va, Nat.reduceAdd, Nat.reduceMul, Nat.reduceSub, Nat.reduceLT, Nat.reduceLeDiff, Nat.reduceEqDiff, Int.reduceAdd, Int.reduceLT, Int.reduceLE, Int.reduceNeg, reduceCtorEq, ↓reduceIte, tyfacts, nlR_boolD, nlR_LR]))
 refine Vm.call_eq2 (made_v (n := m) (l := l) (by omega) (by omega)) ?_ ?_ <;> (repeat (first | with_reducible refine Vm.sk_region _ _ ?_ | simp (maxSteps := 10000000) (disch := first | assumption | (simp (disch := (intro _; exact Vm.byRefl (by with_unfolding_all rfl))) only [tyfacts, Vm.szO_eq, Am.vd, Nat.reduceEqDiff, Nat.reduceLT, Nat.reduceLeDiff, Nat.reduceMul, Nat.reduceAdd, reduceCtorEq, nlR_boolD, nlR_LR]; try omega; done) | omega | (intro _; exact Vm.byRefl (by with_unfolding_all rfl))) only [Vm.wantedD, Am.va, Nat.reduceAdd, Nat.reduceMul, Nat.reduceSub, Nat.reduceLT, Nat.reduceLeDiff, Nat.reduceEqDiff, Int.reduceAdd, Int.reduceLT, Int.reduceLE, Int.reduceNeg, reduceCtorEq, ↓reduceIte, tyfacts, nlR_boolD, nlR_LR]))
 obtain ⟨N, E, rfl, e1, hE, e2, e3, hEl⟩ := made_graph m0 (by omega) (l := l) (by omega)
 rw [e1]
 have hcl := castE_len E
 (repeat (first | with_reducible refine Vm.sk_region _ _ ?_ | simp (maxSteps := 10000000) (disch := first | assumption | (simp (disch := (intro _; exact Vm.byRefl (by with_unfolding_all rfl))) only [tyfacts, Vm.szO_eq, Am.vd, Nat.reduceEqDiff, Nat.reduceLT, Nat.reduceLeDiff, Nat.reduceMul, Nat.reduceAdd, reduceCtorEq, nlR_boolD, nlR_LR]; try omega; done) | omega | (intro _; exact Vm.byRefl (by with_unfolding_all rfl))) only [Vm.wantedD, Am.va, Nat.reduceAdd, Nat.reduceMul, Nat.reduceSub, Nat.reduceLT, Nat.reduceLeDiff, Nat.reduceEqDiff, Int.reduceAdd, Int.reduceLT, Int.reduceLE, Int.reduceNeg, reduceCtorEq, ↓reduceIte, tyfacts, nlR_boolD, nlR_LR]))
 refine Vm.call_eq2 (sccComp_v (n := N) (es := castE E) (by omega)) ?_ ?_ <;> (repeat (first | with_reducible refine Vm.sk_region _ _ ?_ | simp (maxSteps := 10000000) (disch := first | assumption | (simp (disch := (intro _; exact Vm.byRefl (by with_unfolding_all rfl))) only [tyfacts, Vm.szO_eq, Am.vd, Nat.reduceEqDiff, Nat.reduceLT, Nat.reduceLeDiff, Nat.reduceMul, Nat.reduceAdd, reduceCtorEq, nlR_boolD, nlR_LR]; try omega; done) | omega | (intro _; exact Vm.byRefl (by with_unfolding_all rfl))) only [Vm.wantedD, Am.va, Nat.reduceAdd, Nat.reduceMul, Nat.reduceSub, Nat.reduceLT, Nat.reduceLeDiff, Nat.reduceEqDiff, Int.reduceAdd, Int.reduceLT, Int.reduceLE, Int.reduceNeg, reduceCtorEq, ↓reduceIte, tyfacts, nlR_boolD, nlR_LR, two_d]))
 have hco : compF N (castE E) = (tabF N (comp E), 0) := by rw [compF, if_neg (by rw [e3]; simp), e2]; rfl
 have hre : ∀ i : Nat, i < N → reachF N (castE E) i = (castL (reach N E i N), 0) := fun i hi => by rw [reachF, if_neg (by rw [e3]; simp), if_neg (by omega), e2]; rfl
 rw [hco]
 clear hco e1 e2 e3
 have htl := tabF_len N (comp E)
 (repeat (first | with_reducible refine Vm.sk_region _ _ ?_ | simp (maxSteps := 10000000) (disch := first | assumption | (simp (disch := (intro _; exact Vm.byRefl (by with_unfolding_all rfl))) only [tyfacts, Vm.szO_eq, Am.vd, Nat.reduceEqDiff, Nat.reduceLT, Nat.reduceLeDiff, Nat.reduceMul, Nat.reduceAdd, reduceCtorEq, nlR_boolD, nlR_LR]; try omega; done) | omega | (intro _; exact Vm.byRefl (by with_unfolding_all rfl))) only [Vm.wantedD, Am.va, Nat.reduceAdd, Nat.reduceMul, Nat.reduceSub, Nat.reduceLT, Nat.reduceLeDiff, Nat.reduceEqDiff, Int.reduceAdd, Int.reduceLT, Int.reduceLE, Int.reduceNeg, reduceCtorEq, ↓reduceIte, tyfacts, nlR_boolD, nlR_LR, Int.reduceEq, htl, hcl]))
 have hLl : ∀ i, (LR N E i).length = N := LR_len N E
 have hLz := LR_zero N E
 refine Vm.sk_loop (fun i : Nat => N - i) (fun i => ⟨[(0, .atom (.int .i64 N)), (5, .atom (.bool true)), (6, .own 0 E.length), (7, .own 1 N), (9, .own 2 N), (10, .atom (.int .i64 i))], [.sl 2 ((castE E).map dE), .sl 1 ((tabF N (comp E)).map dI), .sl 1 (LR N E i)], 174⟩) (fun i => i ≤ N) 0 ?_ (by omega) ?_
 · exact Vm.le_of2 (by rw [hG0]; exact Nat.zero_le _) rfl (by simp (maxSteps := 10000000) (disch := first | assumption | (simp (disch := (intro _; exact Vm.byRefl (by with_unfolding_all rfl))) only [tyfacts, Vm.szO_eq, Am.vd, Nat.reduceEqDiff, Nat.reduceLT, Nat.reduceLeDiff, Nat.reduceMul, Nat.reduceAdd, reduceCtorEq, nlR_boolD, nlR_LR]; try omega; done) | omega | (intro _; exact Vm.byRefl (by with_unfolding_all rfl))) only [Vm.wantedD, Am.va, Nat.reduceAdd, Nat.reduceMul, Nat.reduceSub, Nat.reduceLT, Nat.reduceLeDiff, Nat.reduceEqDiff, Int.reduceAdd, Int.reduceLT, Int.reduceLE, Int.reduceNeg, reduceCtorEq, ↓reduceIte, tyfacts, nlR_boolD, nlR_LR, hLz])
 intro i hi ih
 have hLi := hLl i
 (repeat (first | with_reducible refine Vm.sk_region _ _ ?_ | simp (maxSteps := 10000000) (disch := first | assumption | (simp (disch := (intro _; exact Vm.byRefl (by with_unfolding_all rfl))) only [tyfacts, Vm.szO_eq, Am.vd, Nat.reduceEqDiff, Nat.reduceLT, Nat.reduceLeDiff, Nat.reduceMul, Nat.reduceAdd, reduceCtorEq, nlR_boolD, nlR_LR]; try omega; done) | omega | (intro _; exact Vm.byRefl (by with_unfolding_all rfl))) only [Vm.wantedD, Am.va, Nat.reduceAdd, Nat.reduceMul, Nat.reduceSub, Nat.reduceLT, Nat.reduceLeDiff, Nat.reduceEqDiff, Int.reduceAdd, Int.reduceLT, Int.reduceLE, Int.reduceNeg, reduceCtorEq, ↓reduceIte, tyfacts, nlR_boolD, nlR_LR]))
 refine Vm.sb_dec (fun hq => ?_) (fun hq => ?_)
 · have hiN : i < N := by omega
   have hrow := LR_get (E := E) hiN (Nat.le_refl i)
   have hset : ((LR N E i).set i [Vm.D.fresh 1 (boolD N fun _ => false)])[i]? = some [.fresh 1 (boolD N fun _ => false)] := by simp [hLi, hiN]
   have hf0 := boolD_false N
   have hbl : ∀ f, (boolD N f).length = N := boolD_len N
   have hbl0 := hbl fun _ => false
   (repeat (first | with_reducible refine Vm.sk_region _ _ ?_ | simp (maxSteps := 10000000) (disch := first | assumption | (simp (disch := (intro _; exact Vm.byRefl (by with_unfolding_all rfl))) only [tyfacts, Vm.szO_eq, Am.vd, Nat.reduceEqDiff, Nat.reduceLT, Nat.reduceLeDiff, Nat.reduceMul, Nat.reduceAdd, reduceCtorEq, nlR_boolD, nlR_LR]; try omega; done) | omega | (intro _; exact Vm.byRefl (by with_unfolding_all rfl))) only [Vm.wantedD, Am.va, Nat.reduceAdd, Nat.reduceMul, Nat.reduceSub, Nat.reduceLT, Nat.reduceLeDiff, Nat.reduceEqDiff, Int.reduceAdd, Int.reduceLT, Int.reduceLE, Int.reduceNeg, reduceCtorEq, ↓reduceIte, tyfacts, nlR_boolD, nlR_LR, hLi, hrow, hf0]))
   refine Vm.call_eq2 (sccReach_v (n := N) (x := i) (es := castE E) (by omega)) ?_ ?_ <;> (repeat (first | with_reducible refine Vm.sk_region _ _ ?_ | simp (maxSteps := 10000000) (disch := first | assumption | (simp (disch := (intro _; exact Vm.byRefl (by with_unfolding_all rfl))) only [tyfacts, Vm.szO_eq, Am.vd, Nat.reduceEqDiff, Nat.reduceLT, Nat.reduceLeDiff, Nat.reduceMul, Nat.reduceAdd, reduceCtorEq, nlR_boolD, nlR_LR]; try omega; done) | omega | (intro _; exact Vm.byRefl (by with_unfolding_all rfl))) only [Vm.wantedD, Am.va, Nat.reduceAdd, Nat.reduceMul, Nat.reduceSub, Nat.reduceLT, Nat.reduceLeDiff, Nat.reduceEqDiff, Int.reduceAdd, Int.reduceLT, Int.reduceLE, Int.reduceNeg, reduceCtorEq, ↓reduceIte, tyfacts, nlR_boolD, nlR_LR, two_d]))
   rw [hre i hiN]
   have hrl := castL_len (reach N E i N)
   (repeat (first | with_reducible refine Vm.sk_region _ _ ?_ | simp (maxSteps := 10000000) (disch := first | assumption | (simp (disch := (intro _; exact Vm.byRefl (by with_unfolding_all rfl))) only [tyfacts, Vm.szO_eq, Am.vd, Nat.reduceEqDiff, Nat.reduceLT, Nat.reduceLeDiff, Nat.reduceMul, Nat.reduceAdd, reduceCtorEq, nlR_boolD, nlR_LR]; try omega; done) | omega | (intro _; exact Vm.byRefl (by with_unfolding_all rfl))) only [Vm.wantedD, Am.va, Nat.reduceAdd, Nat.reduceMul, Nat.reduceSub, Nat.reduceLT, Nat.reduceLeDiff, Nat.reduceEqDiff, Int.reduceAdd, Int.reduceLT, Int.reduceLE, Int.reduceNeg, reduceCtorEq, ↓reduceIte, tyfacts, nlR_boolD, nlR_LR, Int.reduceEq, hrl]))
   have hstr := reach_strict N E i N
   have hmr : ∀ y, y ∈ reach N E i N ↔ y < N ∧ 0 < dist E i y := fun y => mem_reach
   have hrN : (reach N E i N).length ≤ N := by
    have := List.length_filter_le (fun y => decide (0 < dist E i y)) (List.range N)
    simpa [reach] using this
   generalize hr : reach N E i N = r at hstr hmr hrl hrN
   have hset0 : ((LR N E i).set i [Vm.D.fresh 1 (boolD N fun x => false)])[i]? = some [.fresh 1 (boolD N fun x => false)] := hset
   refine Vm.sk_promote 2 i 0 ⟨rfl, rfl, rfl⟩ (by exact rfl) hset0 rfl ?_
   simp only [List.set_set, List.set_cons_zero, List.set_cons_succ, List.length_cons, List.length_nil, List.cons_append, List.nil_append, hbl, Nat.reduceAdd]
   refine Vm.sk_loop (fun j : Nat => r.length - j) (fun j => ⟨[(0, .atom (.int .i64 N)), (5, .atom (.bool true)), (6, .own 0 E.length), (7, .own 1 N), (9, .own 2 N), (10, .atom (.int .i64 i)), (11, .own 4 r.length), (13, .atom (.int .i64 j))],
    [.sl 2 ((castE E).map dE), .sl 1 ((tabF N (comp E)).map dI), .sl 1 ((LR N E i).set i [.own 5 N]), .dead, .sl 1 ((castL r).map dI), .sl 1 (boolD N fun y => decide (y ∈ r.take j))], 174⟩) (fun j => j ≤ r.length) 0 ?_ (by omega) ?_
   · have e0 : (fun y => decide (y ∈ r.take 0)) = fun _ => false := by funext y; simp
     rw [e0]
     exact Vm.le_tm2 rfl (by simp (maxSteps := 10000000) (disch := first | assumption | (simp (disch := (intro _; exact Vm.byRefl (by with_unfolding_all rfl))) only [tyfacts, Vm.szO_eq, Am.vd, Nat.reduceEqDiff, Nat.reduceLT, Nat.reduceLeDiff, Nat.reduceMul, Nat.reduceAdd, reduceCtorEq, nlR_boolD, nlR_LR]; try omega; done) | omega | (intro _; exact Vm.byRefl (by with_unfolding_all rfl))) only [Vm.wantedD, Am.va, Nat.reduceAdd, Nat.reduceMul, Nat.reduceSub, Nat.reduceLT, Nat.reduceLeDiff, Nat.reduceEqDiff, Int.reduceAdd, Int.reduceLT, Int.reduceLE, Int.reduceNeg, reduceCtorEq, ↓reduceIte, tyfacts, nlR_boolD, nlR_LR])
   intro j hj ih2
   have hbj := hbl fun y => decide (y ∈ r.take j)
   have hLs : ((LR N E i).set i [Vm.D.own 5 N]).length = N := by rw [List.length_set]; exact hLl i
   have hLg : ((LR N E i).set i [Vm.D.own 5 N])[i]? = some [Vm.D.own 5 N] := by simp [hLi, hiN]
   (repeat (first | with_reducible refine Vm.sk_region _ _ ?_ | simp (maxSteps := 10000000) (disch := first | assumption | (simp (disch := (intro _; exact Vm.byRefl (by with_unfolding_all rfl))) only [tyfacts, Vm.szO_eq, Am.vd, Nat.reduceEqDiff, Nat.reduceLT, Nat.reduceLeDiff, Nat.reduceMul, Nat.reduceAdd, reduceCtorEq, nlR_boolD, nlR_LR]; try omega; done) | omega | (intro _; exact Vm.byRefl (by with_unfolding_all rfl))) only [Vm.wantedD, Am.va, Nat.reduceAdd, Nat.reduceMul, Nat.reduceSub, Nat.reduceLT, Nat.reduceLeDiff, Nat.reduceEqDiff, Int.reduceAdd, Int.reduceLT, Int.reduceLE, Int.reduceNeg, reduceCtorEq, ↓reduceIte, tyfacts, nlR_boolD, nlR_LR, hrl]))
   refine Vm.sb_dec (fun hq2 => ?_) (fun hq2 => ?_)
   · have hjr : j < r.length := by omega
     have hx := List.getElem?_eq_getElem hjr
     have htk : r.take (j + 1) = r.take j ++ [r[j]] := by rw [List.take_add_one, hx]; rfl
     have hyN := (hmr r[j]).1 (List.getElem_mem hjr)
     have hprev : ∀ j', j = j' + 1 → ∃ y', r[j']? = some y' ∧ y' < r[j] := fun j' e => by
      have h1 : j' < r.length := by omega
      exact ⟨r[j'], List.getElem?_eq_getElem h1, List.pairwise_iff_getElem.1 hstr j' j h1 hjr (by omega)⟩
     generalize r[j] = y at hx htk hyN hprev
     have hg0 := castL_get _ j hx
     have c1 : ¬ (y : Int) < 0 := by omega
     have c2 : ¬ ((N : Int) ≤ y) := by omega
     have hst : (boolD N fun z => decide (z ∈ r.take j)).set y [.atom (.bool true)] = boolD N fun z => decide (z ∈ r.take (j + 1)) := boolD_set hyN.1 (by simp [htk]) fun z hz => by simp [htk, hz]
     have hbg := boolD_get (f := fun z => decide (z ∈ r.take j)) hyN.1
     rcases Nat.eq_zero_or_pos j with h0 | h0
     · have c3 : ¬ (0 : Int) < ↑j := by omega
       (repeat (first | with_reducible refine Vm.sk_region _ _ ?_ | simp (maxSteps := 10000000) (disch := first | assumption | (simp (disch := (intro _; exact Vm.byRefl (by with_unfolding_all rfl))) only [tyfacts, Vm.szO_eq, Am.vd, Nat.reduceEqDiff, Nat.reduceLT, Nat.reduceLeDiff, Nat.reduceMul, Nat.reduceAdd, reduceCtorEq, nlR_boolD, nlR_LR]; try omega; done) | omega | (intro _; exact Vm.byRefl (by with_unfolding_all rfl))) only [Vm.wantedD, Am.va, Nat.reduceAdd, Nat.reduceMul, Nat.reduceSub, Nat.reduceLT, Nat.reduceLeDiff, Nat.reduceEqDiff, Int.reduceAdd, Int.reduceLT, Int.reduceLE, Int.reduceNeg, reduceCtorEq, ↓reduceIte, tyfacts, nlR_boolD, nlR_LR]))
       refine Vm.sk_draw 29 [0, 1, 2, 3, 4, 5, 6, 7, 8, 9, 10, 11, 12, 13, 14, 15, 16, 17, 18, 19, 20, 21, 22, 23, 24, 25, 26, 27, 28] (by kernel_rfl) (by kernel_rfl) (by decide) ?_
       (repeat (first | with_reducible refine Vm.sk_region _ _ ?_ | simp (maxSteps := 10000000) (disch := first | assumption | (simp (disch := (intro _; exact Vm.byRefl (by with_unfolding_all rfl))) only [tyfacts, Vm.szO_eq, Am.vd, Nat.reduceEqDiff, Nat.reduceLT, Nat.reduceLeDiff, Nat.reduceMul, Nat.reduceAdd, reduceCtorEq, nlR_boolD, nlR_LR]; try omega; done) | omega | (intro _; exact Vm.byRefl (by with_unfolding_all rfl))) only [Vm.wantedD, Am.va, Nat.reduceAdd, Nat.reduceMul, Nat.reduceSub, Nat.reduceLT, Nat.reduceLeDiff, Nat.reduceEqDiff, Int.reduceAdd, Int.reduceLT, Int.reduceLE, Int.reduceNeg, reduceCtorEq, ↓reduceIte, tyfacts, nlR_boolD, nlR_LR, hg0, dI, c1, c2, c3, hrl]))
       refine Vm.sk_draw 10 [0, 1, 2, 3, 4, 5, 6, 7, 8, 9] (by kernel_rfl) (by kernel_rfl) (by decide) ?_
       (repeat (first | with_reducible refine Vm.sk_region _ _ ?_ | simp (maxSteps := 10000000) (disch := first | assumption | (simp (disch := (intro _; exact Vm.byRefl (by with_unfolding_all rfl))) only [tyfacts, Vm.szO_eq, Am.vd, Nat.reduceEqDiff, Nat.reduceLT, Nat.reduceLeDiff, Nat.reduceMul, Nat.reduceAdd, reduceCtorEq, nlR_boolD, nlR_LR]; try omega; done) | omega | (intro _; exact Vm.byRefl (by with_unfolding_all rfl))) only [Vm.wantedD, Am.va, Nat.reduceAdd, Nat.reduceMul, Nat.reduceSub, Nat.reduceLT, Nat.reduceLeDiff, Nat.reduceEqDiff, Int.reduceAdd, Int.reduceLT, Int.reduceLE, Int.reduceNeg, reduceCtorEq, ↓reduceIte, tyfacts, nlR_boolD, nlR_LR, hg0, dI, hrl, hLg, hLs, hbj, hbg, dB, hyN.1, hst]))
       refine ih2 (j + 1) _ (by dsimp only; omega) (by omega) ?_
       exact Vm.le_tm2 rfl (by simp (maxSteps := 10000000) (disch := first | assumption | (simp (disch := (intro _; exact Vm.byRefl (by with_unfolding_all rfl))) only [tyfacts, Vm.szO_eq, Am.vd, Nat.reduceEqDiff, Nat.reduceLT, Nat.reduceLeDiff, Nat.reduceMul, Nat.reduceAdd, reduceCtorEq, nlR_boolD, nlR_LR]; try omega; done) | omega | (intro _; exact Vm.byRefl (by with_unfolding_all rfl))) only [Vm.wantedD, Am.va, Nat.reduceAdd, Nat.reduceMul, Nat.reduceSub, Nat.reduceLT, Nat.reduceLeDiff, Nat.reduceEqDiff, Int.reduceAdd, Int.reduceLT, Int.reduceLE, Int.reduceNeg, reduceCtorEq, ↓reduceIte, tyfacts, nlR_boolD, nlR_LR, hst])
     · obtain ⟨j', hj'⟩ : ∃ j', j = j' + 1 := ⟨j - 1, by omega⟩
       obtain ⟨y', hx', hlt⟩ := hprev j' hj'
       have hg1 := castL_get _ j' hx'
       have c3 : ¬ (y : Int) ≤ y' := by omega
       have e1 : ((j : Int) - 1) = (j' : Int) := by omega
       have c4 : (0 : Int) < ↑j := by omega
       have c5 : j' < r.length := by omega
       (repeat (first | with_reducible refine Vm.sk_region _ _ ?_ | simp (maxSteps := 10000000) (disch := first | assumption | (simp (disch := (intro _; exact Vm.byRefl (by with_unfolding_all rfl))) only [tyfacts, Vm.szO_eq, Am.vd, Nat.reduceEqDiff, Nat.reduceLT, Nat.reduceLeDiff, Nat.reduceMul, Nat.reduceAdd, reduceCtorEq, nlR_boolD, nlR_LR]; try omega; done) | omega | (intro _; exact Vm.byRefl (by with_unfolding_all rfl))) only [Vm.wantedD, Am.va, Nat.reduceAdd, Nat.reduceMul, Nat.reduceSub, Nat.reduceLT, Nat.reduceLeDiff, Nat.reduceEqDiff, Int.reduceAdd, Int.reduceLT, Int.reduceLE, Int.reduceNeg, reduceCtorEq, ↓reduceIte, tyfacts, nlR_boolD, nlR_LR]))
       refine Vm.sk_draw 29 [0, 1, 2, 3, 4, 5, 6, 7, 8, 9, 10, 11, 12, 13, 14, 15, 16, 17, 18, 19, 20, 21, 22, 23, 24, 25, 26, 27, 28] (by kernel_rfl) (by kernel_rfl) (by decide) ?_
       (repeat (first | with_reducible refine Vm.sk_region _ _ ?_ | simp (maxSteps := 10000000) (disch := first | assumption | (simp (disch := (intro _; exact Vm.byRefl (by with_unfolding_all rfl))) only [tyfacts, Vm.szO_eq, Am.vd, Nat.reduceEqDiff, Nat.reduceLT, Nat.reduceLeDiff, Nat.reduceMul, Nat.reduceAdd, reduceCtorEq, nlR_boolD, nlR_LR]; try omega; done) | omega | (intro _; exact Vm.byRefl (by with_unfolding_all rfl))) only [Vm.wantedD, Am.va, Nat.reduceAdd, Nat.reduceMul, Nat.reduceSub, Nat.reduceLT, Nat.reduceLeDiff, Nat.reduceEqDiff, Int.reduceAdd, Int.reduceLT, Int.reduceLE, Int.reduceNeg, reduceCtorEq, ↓reduceIte, tyfacts, nlR_boolD, nlR_LR, hg0, hg1, dI, c1, c2, c3, c4, e1, hrl]))
       refine Vm.sk_draw 10 [0, 1, 2, 3, 4, 5, 6, 7, 8, 9] (by kernel_rfl) (by kernel_rfl) (by decide) ?_
       (repeat (first | with_reducible refine Vm.sk_region _ _ ?_ | simp (maxSteps := 10000000) (disch := first | assumption | (simp (disch := (intro _; exact Vm.byRefl (by with_unfolding_all rfl))) only [tyfacts, Vm.szO_eq, Am.vd, Nat.reduceEqDiff, Nat.reduceLT, Nat.reduceLeDiff, Nat.reduceMul, Nat.reduceAdd, reduceCtorEq, nlR_boolD, nlR_LR]; try omega; done) | omega | (intro _; exact Vm.byRefl (by with_unfolding_all rfl))) only [Vm.wantedD, Am.va, Nat.reduceAdd, Nat.reduceMul, Nat.reduceSub, Nat.reduceLT, Nat.reduceLeDiff, Nat.reduceEqDiff, Int.reduceAdd, Int.reduceLT, Int.reduceLE, Int.reduceNeg, reduceCtorEq, ↓reduceIte, tyfacts, nlR_boolD, nlR_LR, hg0, dI, hrl, hLg, hLs, hbj, hbg, dB, hyN.1, hst]))
       refine ih2 (j + 1) _ (by dsimp only; omega) (by omega) ?_
       exact Vm.le_tm2 rfl (by simp (maxSteps := 10000000) (disch := first | assumption | (simp (disch := (intro _; exact Vm.byRefl (by with_unfolding_all rfl))) only [tyfacts, Vm.szO_eq, Am.vd, Nat.reduceEqDiff, Nat.reduceLT, Nat.reduceLeDiff, Nat.reduceMul, Nat.reduceAdd, reduceCtorEq, nlR_boolD, nlR_LR]; try omega; done) | omega | (intro _; exact Vm.byRefl (by with_unfolding_all rfl))) only [Vm.wantedD, Am.va, Nat.reduceAdd, Nat.reduceMul, Nat.reduceSub, Nat.reduceLT, Nat.reduceLeDiff, Nat.reduceEqDiff, Int.reduceAdd, Int.reduceLT, Int.reduceLE, Int.reduceNeg, reduceCtorEq, ↓reduceIte, tyfacts, nlR_boolD, nlR_LR, hst])
   · have hje : j = r.length := by omega
     subst hje
     rw [List.take_length]
     have ef : (boolD N fun y => decide (y ∈ r)) = boolD N (leadsF E i) := boolD_congr fun y hy => by
      simp only [leadsF]; congr 1; rw [hmr]; simp [hy]
     rw [ef]
     (repeat (first | with_reducible refine Vm.sk_region _ _ ?_ | simp (maxSteps := 10000000) (disch := first | assumption | (simp (disch := (intro _; exact Vm.byRefl (by with_unfolding_all rfl))) only [tyfacts, Vm.szO_eq, Am.vd, Nat.reduceEqDiff, Nat.reduceLT, Nat.reduceLeDiff, Nat.reduceMul, Nat.reduceAdd, reduceCtorEq, nlR_boolD, nlR_LR]; try omega; done) | omega | (intro _; exact Vm.byRefl (by with_unfolding_all rfl))) only [Vm.wantedD, Am.va, Nat.reduceAdd, Nat.reduceMul, Nat.reduceSub, Nat.reduceLT, Nat.reduceLeDiff, Nat.reduceEqDiff, Int.reduceAdd, Int.reduceLT, Int.reduceLE, Int.reduceNeg, reduceCtorEq, ↓reduceIte, tyfacts, nlR_boolD, nlR_LR]))
     refine Vm.sk_le (Vm.le_demote (k := 2) (j := i) (c := 0) (K := 5) (by exact rfl) hLg rfl (by exact rfl) (hbl _) (nlR_boolD _ _)) ?_
     simp only [List.set_set, List.set_cons_zero, List.set_cons_succ, LR_set hiN]
     (repeat (first | with_reducible refine Vm.sk_region _ _ ?_ | simp (maxSteps := 10000000) (disch := first | assumption | (simp (disch := (intro _; exact Vm.byRefl (by with_unfolding_all rfl))) only [tyfacts, Vm.szO_eq, Am.vd, Nat.reduceEqDiff, Nat.reduceLT, Nat.reduceLeDiff, Nat.reduceMul, Nat.reduceAdd, reduceCtorEq, nlR_boolD, nlR_LR]; try omega; done) | omega | (intro _; exact Vm.byRefl (by with_unfolding_all rfl))) only [Vm.wantedD, Am.va, Nat.reduceAdd, Nat.reduceMul, Nat.reduceSub, Nat.reduceLT, Nat.reduceLeDiff, Nat.reduceEqDiff, Int.reduceAdd, Int.reduceLT, Int.reduceLE, Int.reduceNeg, reduceCtorEq, ↓reduceIte, tyfacts, nlR_boolD, nlR_LR]))
     refine ih (i + 1) _ (by dsimp only; omega) (by omega) ?_
     exact Vm.le_of2 (by rw [hG0]; exact Nat.zero_le _) rfl (by simp (maxSteps := 10000000) (disch := first | assumption | (simp (disch := (intro _; exact Vm.byRefl (by with_unfolding_all rfl))) only [tyfacts, Vm.szO_eq, Am.vd, Nat.reduceEqDiff, Nat.reduceLT, Nat.reduceLeDiff, Nat.reduceMul, Nat.reduceAdd, reduceCtorEq, nlR_boolD, nlR_LR]; try omega; done) | omega | (intro _; exact Vm.byRefl (by with_unfolding_all rfl))) only [Vm.wantedD, Am.va, Nat.reduceAdd, Nat.reduceMul, Nat.reduceSub, Nat.reduceLT, Nat.reduceLeDiff, Nat.reduceEqDiff, Int.reduceAdd, Int.reduceLT, Int.reduceLE, Int.reduceNeg, reduceCtorEq, ↓reduceIte, tyfacts, nlR_boolD, nlR_LR])
 · have hiN : N = i := by omega
   subst hiN
   (repeat (first | with_reducible refine Vm.sk_region _ _ ?_ | simp (maxSteps := 10000000) (disch := first | assumption | (simp (disch := (intro _; exact Vm.byRefl (by with_unfolding_all rfl))) only [tyfacts, Vm.szO_eq, Am.vd, Nat.reduceEqDiff, Nat.reduceLT, Nat.reduceLeDiff, Nat.reduceMul, Nat.reduceAdd, reduceCtorEq, nlR_boolD, nlR_LR]; try omega; done) | omega | (intro _; exact Vm.byRefl (by with_unfolding_all rfl))) only [Vm.wantedD, Am.va, Nat.reduceAdd, Nat.reduceMul, Nat.reduceSub, Nat.reduceLT, Nat.reduceLeDiff, Nat.reduceEqDiff, Int.reduceAdd, Int.reduceLT, Int.reduceLE, Int.reduceNeg, reduceCtorEq, ↓reduceIte, tyfacts, nlR_boolD, nlR_LR]))
   refine Vm.sk_frz 2 hB (by exact rfl) ?_
   have him : Vm.imLL (LR N E N) = (List.range N).map fun j => [.imm 1 (boolD N (leadsF E j))] := by
    simp only [LR]
    have : ∀ l : List Nat, (∀ j, j ∈ l → j < N) → Vm.imLL (l.map fun j => if j < N then [Vm.D.fresh 1 (boolD N (leadsF E j))] else [.atom .nilSlice]) = l.map fun j => [.imm 1 (boolD N (leadsF E j))] := by
     intro l
     induction l with
     | nil => intro _; rfl
     | cons j l ih =>
       intro h
       rw [List.map_cons, List.map_cons, if_pos (h j (by simp)), Vm.imLL, ih fun k hk => h k (by simp [hk])]
       simp only [Vm.imL, Vm.D.im, boolD_im]
    exact this _ fun j hj => by simpa using hj
   have e9 : ∀ so : List Vm.Ob, so[2]? = some (.sl 1 (LR N E N)) → Vm.imQ so (.own 2 N) = .imm 1 ((List.range N).map fun j => [.imm 1 (boolD N (leadsF E j))]) := fun so h => by
    simp only [Vm.imQ, h, hLi, if_true, him]
   have hLg2 : ∀ k, k < N → ((List.range N).map fun j => [Vm.D.imm 1 (boolD N (leadsF E j))])[k]? = some [.imm 1 (boolD N (leadsF E k))] := fun k hk => by simp [hk]
   have hLl2 : ((List.range N).map fun j => [Vm.D.imm 1 (boolD N (leadsF E j))]).length = N := by simp
   generalize hLM : ((List.range N).map fun j => [Vm.D.imm 1 (boolD N (leadsF E j))]) = LM at him e9 hLg2 hLl2
   have htg : ∀ k, k < N → ((tabF N (comp E)).map dI)[k]? = some (dI (comp E k : Int)) := fun k hk => by simp [tabF, hk]
   refine Vm.sk_loop (fun i : Nat => N - i) (fun i => ⟨[(0, .atom (.int .i64 N)), (5, .atom (.bool true)), (7, .own 1 N), (9, .imm 1 LM), (14, .atom (.int .i64 i))], [.sl 2 ((castE E).map dE), .sl 1 ((tabF N (comp E)).map dI), .dead], 174⟩) (fun i => i ≤ N) 0 ?_ (by omega) ?_
   · simp only [Vm.frzT, Vm.frz, Vm.frz0, if_true, Nat.reduceEqDiff, if_false]
     rw [e9 _ rfl]
     exact Vm.le_of2 (by rw [hG0]; exact Nat.zero_le _) rfl (by simp (maxSteps := 10000000) (disch := first | assumption | (simp (disch := (intro _; exact Vm.byRefl (by with_unfolding_all rfl))) only [tyfacts, Vm.szO_eq, Am.vd, Nat.reduceEqDiff, Nat.reduceLT, Nat.reduceLeDiff, Nat.reduceMul, Nat.reduceAdd, reduceCtorEq, nlR_boolD, nlR_LR]; try omega; done) | omega | (intro _; exact Vm.byRefl (by with_unfolding_all rfl))) only [Vm.wantedD, Am.va, Nat.reduceAdd, Nat.reduceMul, Nat.reduceSub, Nat.reduceLT, Nat.reduceLeDiff, Nat.reduceEqDiff, Int.reduceAdd, Int.reduceLT, Int.reduceLE, Int.reduceNeg, reduceCtorEq, ↓reduceIte, tyfacts, nlR_boolD, nlR_LR])
   intro i hi ih
   (repeat (first | with_reducible refine Vm.sk_region _ _ ?_ | simp (maxSteps := 10000000) (disch := first | assumption | (simp (disch := (intro _; exact Vm.byRefl (by with_unfolding_all rfl))) only [tyfacts, Vm.szO_eq, Am.vd, Nat.reduceEqDiff, Nat.reduceLT, Nat.reduceLeDiff, Nat.reduceMul, Nat.reduceAdd, reduceCtorEq, nlR_boolD, nlR_LR]; try omega; done) | omega | (intro _; exact Vm.byRefl (by with_unfolding_all rfl))) only [Vm.wantedD, Am.va, Nat.reduceAdd, Nat.reduceMul, Nat.reduceSub, Nat.reduceLT, Nat.reduceLeDiff, Nat.reduceEqDiff, Int.reduceAdd, Int.reduceLT, Int.reduceLE, Int.reduceNeg, reduceCtorEq, ↓reduceIte, tyfacts, nlR_boolD, nlR_LR]))
   refine Vm.sb_dec (fun hq => ?_) (fun hq => ?_)
   · have hiN : i < N := by omega
     have g1 := htg i hiN
     have hc1 := comp_self E i
     have g2 := htg (comp E i) (by omega)
     have hc2 := comp_comp E i
     have c1 : ¬ (comp E i : Int) < 0 := by omega
     have c2 : ¬ (i : Int) < comp E i := by omega
     rw [hc2] at g2
     (repeat (first | with_reducible refine Vm.sk_region _ _ ?_ | simp (maxSteps := 10000000) (disch := first | assumption | (simp (disch := (intro _; exact Vm.byRefl (by with_unfolding_all rfl))) only [tyfacts, Vm.szO_eq, Am.vd, Nat.reduceEqDiff, Nat.reduceLT, Nat.reduceLeDiff, Nat.reduceMul, Nat.reduceAdd, reduceCtorEq, nlR_boolD, nlR_LR]; try omega; done) | omega | (intro _; exact Vm.byRefl (by with_unfolding_all rfl))) only [Vm.wantedD, Am.va, Nat.reduceAdd, Nat.reduceMul, Nat.reduceSub, Nat.reduceLT, Nat.reduceLeDiff, Nat.reduceEqDiff, Int.reduceAdd, Int.reduceLT, Int.reduceLE, Int.reduceNeg, reduceCtorEq, ↓reduceIte, tyfacts, nlR_boolD, nlR_LR]))
     refine Vm.sk_draw 27 [0, 1, 2, 3, 4, 5, 6, 7, 8, 9, 10, 11, 12, 13, 14, 15, 16, 17, 18, 19, 20, 21, 22, 23, 24, 25, 26] (by kernel_rfl) (by kernel_rfl) (by decide) ?_
     (repeat (first | with_reducible refine Vm.sk_region _ _ ?_ | simp (maxSteps := 10000000) (disch := first | assumption | (simp (disch := (intro _; exact Vm.byRefl (by with_unfolding_all rfl))) only [tyfacts, Vm.szO_eq, Am.vd, Nat.reduceEqDiff, Nat.reduceLT, Nat.reduceLeDiff, Nat.reduceMul, Nat.reduceAdd, reduceCtorEq, nlR_boolD, nlR_LR]; try omega; done) | omega | (intro _; exact Vm.byRefl (by with_unfolding_all rfl))) only [Vm.wantedD, Am.va, Nat.reduceAdd, Nat.reduceMul, Nat.reduceSub, Nat.reduceLT, Nat.reduceLeDiff, Nat.reduceEqDiff, Int.reduceAdd, Int.reduceLT, Int.reduceLE, Int.reduceNeg, reduceCtorEq, ↓reduceIte, tyfacts, nlR_boolD, nlR_LR, g1, g2, dI, c1, c2, htl]))
     refine Vm.sk_loop (fun k : Nat => N - k) (fun k => ⟨[(0, .atom (.int .i64 N)), (5, .atom (.bool true)), (7, .own 1 N), (9, .imm 1 LM), (14, .atom (.int .i64 i)), (15, .atom (.int .i64 k))], [.sl 2 ((castE E).map dE), .sl 1 ((tabF N (comp E)).map dI), .dead], 174⟩) (fun k => k ≤ N) 0 ?_ (by omega) ?_
     · exact Vm.le_of2 (by rw [hG0]; exact Nat.zero_le _) rfl (by simp (maxSteps := 10000000) (disch := first | assumption | (simp (disch := (intro _; exact Vm.byRefl (by with_unfolding_all rfl))) only [tyfacts, Vm.szO_eq, Am.vd, Nat.reduceEqDiff, Nat.reduceLT, Nat.reduceLeDiff, Nat.reduceMul, Nat.reduceAdd, reduceCtorEq, nlR_boolD, nlR_LR]; try omega; done) | omega | (intro _; exact Vm.byRefl (by with_unfolding_all rfl))) only [Vm.wantedD, Am.va, Nat.reduceAdd, Nat.reduceMul, Nat.reduceSub, Nat.reduceLT, Nat.reduceLeDiff, Nat.reduceEqDiff, Int.reduceAdd, Int.reduceLT, Int.reduceLE, Int.reduceNeg, reduceCtorEq, ↓reduceIte, tyfacts, nlR_boolD, nlR_LR])
     intro k hk ih2
     (repeat (first | with_reducible refine Vm.sk_region _ _ ?_ | simp (maxSteps := 10000000) (disch := first | assumption | (simp (disch := (intro _; exact Vm.byRefl (by with_unfolding_all rfl))) only [tyfacts, Vm.szO_eq, Am.vd, Nat.reduceEqDiff, Nat.reduceLT, Nat.reduceLeDiff, Nat.reduceMul, Nat.reduceAdd, reduceCtorEq, nlR_boolD, nlR_LR]; try omega; done) | omega | (intro _; exact Vm.byRefl (by with_unfolding_all rfl))) only [Vm.wantedD, Am.va, Nat.reduceAdd, Nat.reduceMul, Nat.reduceSub, Nat.reduceLT, Nat.reduceLeDiff, Nat.reduceEqDiff, Int.reduceAdd, Int.reduceLT, Int.reduceLE, Int.reduceNeg, reduceCtorEq, ↓reduceIte, tyfacts, nlR_boolD, nlR_LR]))
     refine Vm.sb_dec (fun hq2 => ?_) (fun hq2 => ?_)
     · have hkN : k < N := by omega
       have g3 := htg k hkN
       have g4 := hLg2 i hiN
       have g5 := hLg2 k hkN
       have b1 := boolD_get (f := leadsF E i) hkN
       have b2 := boolD_get (f := leadsF E k) hiN
       have hbl1 := boolD_len N (leadsF E i)
       have hbl2 := boolD_len N (leadsF E k)
       have hcm := comp_leads (E := E) (x := i) (y := k)
       (repeat (first | with_reducible refine Vm.sk_region _ _ ?_ | simp (maxSteps := 10000000) (disch := first | assumption | (simp (disch := (intro _; exact Vm.byRefl (by with_unfolding_all rfl))) only [tyfacts, Vm.szO_eq, Am.vd, Nat.reduceEqDiff, Nat.reduceLT, Nat.reduceLeDiff, Nat.reduceMul, Nat.reduceAdd, reduceCtorEq, nlR_boolD, nlR_LR]; try omega; done) | omega | (intro _; exact Vm.byRefl (by with_unfolding_all rfl))) only [Vm.wantedD, Am.va, Nat.reduceAdd, Nat.reduceMul, Nat.reduceSub, Nat.reduceLT, Nat.reduceLeDiff, Nat.reduceEqDiff, Int.reduceAdd, Int.reduceLT, Int.reduceLE, Int.reduceNeg, reduceCtorEq, ↓reduceIte, tyfacts, nlR_boolD, nlR_LR]))
       by_cases e : (i : Int) = k
       · have e0 : decide ((i : Int) = k) = true := decide_eq_true e
         rw [e0, Bool.true_or] at hcm
         refine Vm.sk_draw 31 [0, 1, 2, 3, 4, 5, 6, 7, 8, 9, 10, 11, 12, 13, 14, 15, 16, 17, 18, 19, 20, 21, 22, 23, 24, 25, 26, 27, 28, 29, 30] (by kernel_rfl) (by kernel_rfl) (by decide) ?_
         (repeat (first | with_reducible refine Vm.sk_region _ _ ?_ | simp (maxSteps := 10000000) (disch := first | assumption | (simp (disch := (intro _; exact Vm.byRefl (by with_unfolding_all rfl))) only [tyfacts, Vm.szO_eq, Am.vd, Nat.reduceEqDiff, Nat.reduceLT, Nat.reduceLeDiff, Nat.reduceMul, Nat.reduceAdd, reduceCtorEq, nlR_boolD, nlR_LR]; try omega; done) | omega | (intro _; exact Vm.byRefl (by with_unfolding_all rfl))) only [Vm.wantedD, Am.va, Nat.reduceAdd, Nat.reduceMul, Nat.reduceSub, Nat.reduceLT, Nat.reduceLeDiff, Nat.reduceEqDiff, Int.reduceAdd, Int.reduceLT, Int.reduceLE, Int.reduceNeg, reduceCtorEq, ↓reduceIte, tyfacts, nlR_boolD, nlR_LR, g1, g3, g4, g5, b1, b2, dI, dB, e0, hcm, htl, hLl2]))
         refine ih2 (k + 1) _ (by dsimp only; omega) (by omega) ?_
         exact Vm.le_of2 (by rw [hG0]; exact Nat.zero_le _) rfl (by simp (maxSteps := 10000000) (disch := first | assumption | (simp (disch := (intro _; exact Vm.byRefl (by with_unfolding_all rfl))) only [tyfacts, Vm.szO_eq, Am.vd, Nat.reduceEqDiff, Nat.reduceLT, Nat.reduceLeDiff, Nat.reduceMul, Nat.reduceAdd, reduceCtorEq, nlR_boolD, nlR_LR]; try omega; done) | omega | (intro _; exact Vm.byRefl (by with_unfolding_all rfl))) only [Vm.wantedD, Am.va, Nat.reduceAdd, Nat.reduceMul, Nat.reduceSub, Nat.reduceLT, Nat.reduceLeDiff, Nat.reduceEqDiff, Int.reduceAdd, Int.reduceLT, Int.reduceLE, Int.reduceNeg, reduceCtorEq, ↓reduceIte, tyfacts, nlR_boolD, nlR_LR])
       · have e0 : decide ((i : Int) = k) = false := decide_eq_false e
         rw [e0, Bool.false_or] at hcm
         cases h1 : leadsF E i k with
         | false =>
           rw [h1, Bool.false_and] at hcm
           refine Vm.sk_draw 31 [0, 1, 2, 3, 4, 5, 6, 7, 8, 9, 10, 11, 12, 13, 14, 15, 16, 17, 18, 19, 20, 21, 22, 23, 24, 25, 26, 27, 28, 29, 30] (by kernel_rfl) (by kernel_rfl) (by decide) ?_
           (repeat (first | with_reducible refine Vm.sk_region _ _ ?_ | simp (maxSteps := 10000000) (disch := first | assumption | (simp (disch := (intro _; exact Vm.byRefl (by with_unfolding_all rfl))) only [tyfacts, Vm.szO_eq, Am.vd, Nat.reduceEqDiff, Nat.reduceLT, Nat.reduceLeDiff, Nat.reduceMul, Nat.reduceAdd, reduceCtorEq, nlR_boolD, nlR_LR]; try omega; done) | omega | (intro _; exact Vm.byRefl (by with_unfolding_all rfl))) only [Vm.wantedD, Am.va, Nat.reduceAdd, Nat.reduceMul, Nat.reduceSub, Nat.reduceLT, Nat.reduceLeDiff, Nat.reduceEqDiff, Int.reduceAdd, Int.reduceLT, Int.reduceLE, Int.reduceNeg, reduceCtorEq, ↓reduceIte, tyfacts, nlR_boolD, nlR_LR, g1, g3, g4, g5, b1, b2, dI, dB, e0, hcm, h1, htl, hLl2]))
           refine ih2 (k + 1) _ (by dsimp only; omega) (by omega) ?_
           exact Vm.le_of2 (by rw [hG0]; exact Nat.zero_le _) rfl (by simp (maxSteps := 10000000) (disch := first | assumption | (simp (disch := (intro _; exact Vm.byRefl (by with_unfolding_all rfl))) only [tyfacts, Vm.szO_eq, Am.vd, Nat.reduceEqDiff, Nat.reduceLT, Nat.reduceLeDiff, Nat.reduceMul, Nat.reduceAdd, reduceCtorEq, nlR_boolD, nlR_LR]; try omega; done) | omega | (intro _; exact Vm.byRefl (by with_unfolding_all rfl))) only [Vm.wantedD, Am.va, Nat.reduceAdd, Nat.reduceMul, Nat.reduceSub, Nat.reduceLT, Nat.reduceLeDiff, Nat.reduceEqDiff, Int.reduceAdd, Int.reduceLT, Int.reduceLE, Int.reduceNeg, reduceCtorEq, ↓reduceIte, tyfacts, nlR_boolD, nlR_LR])
         | true =>
           rw [h1, Bool.true_and] at hcm
           cases h2 : leadsF E k i with
           | false =>
             rw [h2] at hcm
             refine Vm.sk_draw 31 [0, 1, 2, 3, 4, 5, 6, 7, 8, 9, 10, 11, 12, 13, 14, 15, 16, 17, 18, 19, 20, 21, 22, 23, 24, 25, 26, 27, 28, 29, 30] (by kernel_rfl) (by kernel_rfl) (by decide) ?_
             (repeat (first | with_reducible refine Vm.sk_region _ _ ?_ | simp (maxSteps := 10000000) (disch := first | assumption | (simp (disch := (intro _; exact Vm.byRefl (by with_unfolding_all rfl))) only [tyfacts, Vm.szO_eq, Am.vd, Nat.reduceEqDiff, Nat.reduceLT, Nat.reduceLeDiff, Nat.reduceMul, Nat.reduceAdd, reduceCtorEq, nlR_boolD, nlR_LR]; try omega; done) | omega | (intro _; exact Vm.byRefl (by with_unfolding_all rfl))) only [Vm.wantedD, Am.va, Nat.reduceAdd, Nat.reduceMul, Nat.reduceSub, Nat.reduceLT, Nat.reduceLeDiff, Nat.reduceEqDiff, Int.reduceAdd, Int.reduceLT, Int.reduceLE, Int.reduceNeg, reduceCtorEq, ↓reduceIte, tyfacts, nlR_boolD, nlR_LR, g1, g3, g4, g5, b1, b2, dI, dB, e0, hcm, h1, h2, htl, hLl2]))
             refine ih2 (k + 1) _ (by dsimp only; omega) (by omega) ?_
             exact Vm.le_of2 (by rw [hG0]; exact Nat.zero_le _) rfl (by simp (maxSteps := 10000000) (disch := first | assumption | (simp (disch := (intro _; exact Vm.byRefl (by with_unfolding_all rfl))) only [tyfacts, Vm.szO_eq, Am.vd, Nat.reduceEqDiff, Nat.reduceLT, Nat.reduceLeDiff, Nat.reduceMul, Nat.reduceAdd, reduceCtorEq, nlR_boolD, nlR_LR]; try omega; done) | omega | (intro _; exact Vm.byRefl (by with_unfolding_all rfl))) only [Vm.wantedD, Am.va, Nat.reduceAdd, Nat.reduceMul, Nat.reduceSub, Nat.reduceLT, Nat.reduceLeDiff, Nat.reduceEqDiff, Int.reduceAdd, Int.reduceLT, Int.reduceLE, Int.reduceNeg, reduceCtorEq, ↓reduceIte, tyfacts, nlR_boolD, nlR_LR])
           | true =>
             rw [h2] at hcm
             refine Vm.sk_draw 31 [0, 1, 2, 3, 4, 5, 6, 7, 8, 9, 10, 11, 12, 13, 14, 15, 16, 17, 18, 19, 20, 21, 22, 23, 24, 25, 26, 27, 28, 29, 30] (by kernel_rfl) (by kernel_rfl) (by decide) ?_
             (repeat (first | with_reducible refine Vm.sk_region _ _ ?_ | simp (maxSteps := 10000000) (disch := first | assumption | (simp (disch := (intro _; exact Vm.byRefl (by with_unfolding_all rfl))) only [tyfacts, Vm.szO_eq, Am.vd, Nat.reduceEqDiff, Nat.reduceLT, Nat.reduceLeDiff, Nat.reduceMul, Nat.reduceAdd, reduceCtorEq, nlR_boolD, nlR_LR]; try omega; done) | omega | (intro _; exact Vm.byRefl (by with_unfolding_all rfl))) only [Vm.wantedD, Am.va, Nat.reduceAdd, Nat.reduceMul, Nat.reduceSub, Nat.reduceLT, Nat.reduceLeDiff, Nat.reduceEqDiff, Int.reduceAdd, Int.reduceLT, Int.reduceLE, Int.reduceNeg, reduceCtorEq, ↓reduceIte, tyfacts, nlR_boolD, nlR_LR, g1, g3, g4, g5, b1, b2, dI, dB, e0, hcm, h1, h2, htl, hLl2]))
             refine ih2 (k + 1) _ (by dsimp only; omega) (by omega) ?_
             exact Vm.le_of2 (by rw [hG0]; exact Nat.zero_le _) rfl (by simp (maxSteps := 10000000) (disch := first | assumption | (simp (disch := (intro _; exact Vm.byRefl (by with_unfolding_all rfl))) only [tyfacts, Vm.szO_eq, Am.vd, Nat.reduceEqDiff, Nat.reduceLT, Nat.reduceLeDiff, Nat.reduceMul, Nat.reduceAdd, reduceCtorEq, nlR_boolD, nlR_LR]; try omega; done) | omega | (intro _; exact Vm.byRefl (by with_unfolding_all rfl))) only [Vm.wantedD, Am.va, Nat.reduceAdd, Nat.reduceMul, Nat.reduceSub, Nat.reduceLT, Nat.reduceLeDiff, Nat.reduceEqDiff, Int.reduceAdd, Int.reduceLT, Int.reduceLE, Int.reduceNeg, reduceCtorEq, ↓reduceIte, tyfacts, nlR_boolD, nlR_LR])
     · (repeat (first | with_reducible refine Vm.sk_region _ _ ?_ | simp (maxSteps := 10000000) (disch := first | assumption | (simp (disch := (intro _; exact Vm.byRefl (by with_unfolding_all rfl))) only [tyfacts, Vm.szO_eq, Am.vd, Nat.reduceEqDiff, Nat.reduceLT, Nat.reduceLeDiff, Nat.reduceMul, Nat.reduceAdd, reduceCtorEq, nlR_boolD, nlR_LR]; try omega; done) | omega | (intro _; exact Vm.byRefl (by with_unfolding_all rfl))) only [Vm.wantedD, Am.va, Nat.reduceAdd, Nat.reduceMul, Nat.reduceSub, Nat.reduceLT, Nat.reduceLeDiff, Nat.reduceEqDiff, Int.reduceAdd, Int.reduceLT, Int.reduceLE, Int.reduceNeg, reduceCtorEq, ↓reduceIte, tyfacts, nlR_boolD, nlR_LR]))
       refine ih (i + 1) _ (by dsimp only; omega) (by omega) ?_
       exact Vm.le_of2 (by rw [hG0]; exact Nat.zero_le _) rfl (by simp (maxSteps := 10000000) (disch := first | assumption | (simp (disch := (intro _; exact Vm.byRefl (by with_unfolding_all rfl))) only [tyfacts, Vm.szO_eq, Am.vd, Nat.reduceEqDiff, Nat.reduceLT, Nat.reduceLeDiff, Nat.reduceMul, Nat.reduceAdd, reduceCtorEq, nlR_boolD, nlR_LR]; try omega; done) | omega | (intro _; exact Vm.byRefl (by with_unfolding_all rfl))) only [Vm.wantedD, Am.va, Nat.reduceAdd, Nat.reduceMul, Nat.reduceSub, Nat.reduceLT, Nat.reduceLeDiff, Nat.reduceEqDiff, Int.reduceAdd, Int.reduceLT, Int.reduceLE, Int.reduceNeg, reduceCtorEq, ↓reduceIte, tyfacts, nlR_boolD, nlR_LR])
   · (repeat (first | with_reducible refine Vm.sk_region _ _ ?_ | simp (maxSteps := 10000000) (disch := first | assumption | (simp (disch := (intro _; exact Vm.byRefl (by with_unfolding_all rfl))) only [tyfacts, Vm.szO_eq, Am.vd, Nat.reduceEqDiff, Nat.reduceLT, Nat.reduceLeDiff, Nat.reduceMul, Nat.reduceAdd, reduceCtorEq, nlR_boolD, nlR_LR]; try omega; done) | omega | (intro _; exact Vm.byRefl (by with_unfolding_all rfl))) only [Vm.wantedD, Am.va, Nat.reduceAdd, Nat.reduceMul, Nat.reduceSub, Nat.reduceLT, Nat.reduceLeDiff, Nat.reduceEqDiff, Int.reduceAdd, Int.reduceLT, Int.reduceLE, Int.reduceNeg, reduceCtorEq, ↓reduceIte, tyfacts, nlR_boolD, nlR_LR]))
     refine Vm.ret_ok (by first | exact .inl rfl | exact .inr rfl) hU ?_
     simp (maxSteps := 10000000) (disch := first | assumption | (simp (disch := (intro _; exact Vm.byRefl (by with_unfolding_all rfl))) only [tyfacts, Vm.szO_eq, Am.vd, Nat.reduceEqDiff, Nat.reduceLT, Nat.reduceLeDiff, Nat.reduceMul, Nat.reduceAdd, reduceCtorEq, nlR_boolD, nlR_LR]; try omega; done) | omega | (intro _; exact Vm.byRefl (by with_unfolding_all rfl))) only [Vm.wantedD, Am.va, Nat.reduceAdd, Nat.reduceMul, Nat.reduceSub, Nat.reduceLT, Nat.reduceLeDiff, Nat.reduceEqDiff, Int.reduceAdd, Int.reduceLT, Int.reduceLE, Int.reduceNeg, reduceCtorEq, ↓reduceIte, tyfacts, nlR_boolD, nlR_LR]
end Go.Proofs.Ytbhgjikjdblgeaa.W
