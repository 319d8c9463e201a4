import Derived.Test.YtbhgjikjdblgeaaGkF
set_option linter.unusedSimpArgs false
set_option linter.unusedVariables false
set_option maxRecDepth 8000
/- The law of what is told. No conditions. -/
namespace Go.Proofs.Ytbhgjikjdblgeaa.W
open Go.Am Go.Am.Ord Go.Am.Scc
theorem reachF_small (n x : Int) (es : List (Int × Int)) : (reachF n es x).1.length ≤ 4096 := by
 unfold reachF
 split
 · simp
 · rename_i h
   obtain ⟨c1, c2, _⟩ := check_zeroS (Classical.not_not.1 h)
   split
   · simp
   · simp only [castL_len]
     have : (reach n.toNat (natE es) x.toNat n.toNat).length ≤ n.toNat := by unfold reach; exact Nat.le_trans (List.length_filter_le _ _) (by simp)
     omega
theorem compF_small (n : Int) (es : List (Int × Int)) : (compF n es).1.length ≤ 4096 := by
 unfold compF
 split
 · simp
 · rename_i h
   obtain ⟨c1, c2, _⟩ := check_zeroS (Classical.not_not.1 h)
   simp only [tabF_len]
   omega
theorem goS_len (n : Nat) (E : Es) : ∀ (k : Nat) (out o : List Nat), goS n E k out = some o → o.length = out.length + k
 | 0, out, o, h => by simp only [goS] at h; cases h; rfl
 | k + 1, out, o, h => by
   simp only [goS] at h
   split at h
   · cases h
   · have := goS_len n E k _ o h
     simp at this; omega
theorem ordF_small (n : Int) (es : List (Int × Int)) : (ordF n es).1.length ≤ 4096 := by
 unfold ordF
 split
 · simp
 · rename_i h
   obtain ⟨c1, c2, _⟩ := check_zeroS (Classical.not_not.1 h)
   split
   · rename_i o ho
     have := goS_len _ _ _ _ _ ho
     simp only [castL_len, List.length_nil] at this ⊢
     omega
   · simp
theorem cycF_small (n : Int) (es : List (Int × Int)) : (cycF n es).1.length ≤ 4097 := by
 unfold cycF
 split
 · simp
 · rename_i h
   obtain ⟨c1, c2, _, _, c5⟩ := check_zeroS (Classical.not_not.1 h)
   split
   · rename_i s hs
     have := dist_bound c5 s s
     simp only [castL_len, pathS_len]
     omega
   · simp
theorem tells_v (n x : Int) (es : List (Int × Int)) : Vm.VC T 3 [.atom (.int .i64 n), .imm 2 (es.map dE), .atom (.int .i64 x)] fun d => d = .atom (.bool true) := by
 refine Vm.vc_enter (T := T) rfl Try.func3 rfl (by simp only [Try.f3, List.length_cons, List.length_nil]; decide) fun g hB hG0 => ?_
 simp only [Try.f3, Vm.argsTm_cons, Vm.argsTm_nil, Nat.reduceAdd]
 (repeat (first | refine Vm.sk_region _ _ ?_ | simp (maxSteps := 10000000) (disch := first | assumption | (simp only [tyfacts, Vm.szO_eq, Am.vd, Nat.reduceEqDiff, Nat.reduceLT, Nat.reduceLeDiff, Nat.reduceMul, Nat.reduceAdd, reduceCtorEq]; try omega; done) | omega | (intro _; exact Vm.byRefl (by with_unfolding_all rfl))) only [Vm.wantedD, Am.va, Nat.reduceAdd, Nat.reduceMul, Nat.reduceSub, Nat.reduceLT, Nat.reduceLeDiff, Nat.reduceEqDiff, Int.reduceAdd, Int.reduceLT, Int.reduceLE, Int.reduceNeg, reduceCtorEq, ↓reduceIte, tyfacts]))
 refine Vm.call_eq2 (long_v (n := n) (es := es)) ?_ ?_ <;> (repeat (first | refine Vm.sk_region _ _ ?_ | simp (maxSteps := 10000000) (disch := first | assumption | (simp only [tyfacts, Vm.szO_eq, Am.vd, Nat.reduceEqDiff, Nat.reduceLT, Nat.reduceLeDiff, Nat.reduceMul, Nat.reduceAdd, reduceCtorEq]; try omega; done) | omega | (intro _; exact Vm.byRefl (by with_unfolding_all rfl))) only [Vm.wantedD, Am.va, Nat.reduceAdd, Nat.reduceMul, Nat.reduceSub, Nat.reduceLT, Nat.reduceLeDiff, Nat.reduceEqDiff, Int.reduceAdd, Int.reduceLT, Int.reduceLE, Int.reduceNeg, reduceCtorEq, ↓reduceIte, tyfacts]))
 refine Vm.sb_bool (fun hc => ?_) (fun hc => ?_)
 · (repeat (first | refine Vm.sk_region _ _ ?_ | simp (maxSteps := 10000000) (disch := first | assumption | (simp only [tyfacts, Vm.szO_eq, Am.vd, Nat.reduceEqDiff, Nat.reduceLT, Nat.reduceLeDiff, Nat.reduceMul, Nat.reduceAdd, reduceCtorEq]; try omega; done) | omega | (intro _; exact Vm.byRefl (by with_unfolding_all rfl))) only [Vm.wantedD, Am.va, Nat.reduceAdd, Nat.reduceMul, Nat.reduceSub, Nat.reduceLT, Nat.reduceLeDiff, Nat.reduceEqDiff, Int.reduceAdd, Int.reduceLT, Int.reduceLE, Int.reduceNeg, reduceCtorEq, ↓reduceIte, tyfacts]))
   refine Vm.call_eq2 (awake_v) ?_ ?_ <;> (repeat (first | refine Vm.sk_region _ _ ?_ | simp (maxSteps := 10000000) (disch := first | assumption | (simp only [tyfacts, Vm.szO_eq, Am.vd, Nat.reduceEqDiff, Nat.reduceLT, Nat.reduceLeDiff, Nat.reduceMul, Nat.reduceAdd, reduceCtorEq]; try omega; done) | omega | (intro _; exact Vm.byRefl (by with_unfolding_all rfl))) only [Vm.wantedD, Am.va, Nat.reduceAdd, Nat.reduceMul, Nat.reduceSub, Nat.reduceLT, Nat.reduceLeDiff, Nat.reduceEqDiff, Int.reduceAdd, Int.reduceLT, Int.reduceLE, Int.reduceNeg, reduceCtorEq, ↓reduceIte, tyfacts]))
   refine Vm.ret_ok (by first | exact .inl rfl | exact .inr rfl) ?_
   simp (maxSteps := 10000000) (disch := first | assumption | (simp only [tyfacts, Vm.szO_eq, Am.vd, Nat.reduceEqDiff, Nat.reduceLT, Nat.reduceLeDiff, Nat.reduceMul, Nat.reduceAdd, reduceCtorEq]; try omega; done) | omega | (intro _; exact Vm.byRefl (by with_unfolding_all rfl))) only [Vm.wantedD, Am.va, Nat.reduceAdd, Nat.reduceMul, Nat.reduceSub, Nat.reduceLT, Nat.reduceLeDiff, Nat.reduceEqDiff, Int.reduceAdd, Int.reduceLT, Int.reduceLE, Int.reduceNeg, reduceCtorEq, ↓reduceIte, tyfacts]
 have hlen : es.length ≤ 80 := by simp [longF] at hc; omega
 have b1 := reachF_small n x es
 have b2 := compF_small n es
 have b3 := ordF_small n es
 have b4 := cycF_small n es
 (repeat (first | refine Vm.sk_region _ _ ?_ | simp (maxSteps := 10000000) (disch := first | assumption | (simp only [tyfacts, Vm.szO_eq, Am.vd, Nat.reduceEqDiff, Nat.reduceLT, Nat.reduceLeDiff, Nat.reduceMul, Nat.reduceAdd, reduceCtorEq]; try omega; done) | omega | (intro _; exact Vm.byRefl (by with_unfolding_all rfl))) only [Vm.wantedD, Am.va, Nat.reduceAdd, Nat.reduceMul, Nat.reduceSub, Nat.reduceLT, Nat.reduceLeDiff, Nat.reduceEqDiff, Int.reduceAdd, Int.reduceLT, Int.reduceLE, Int.reduceNeg, reduceCtorEq, ↓reduceIte, tyfacts]))
 refine Vm.call_eq2 (sccReach_v (n := n) (x := x) (es := es) (by omega)) ?_ ?_ <;> (repeat (first | refine Vm.sk_region _ _ ?_ | simp (maxSteps := 10000000) (disch := first | assumption | (simp only [tyfacts, Vm.szO_eq, Am.vd, Nat.reduceEqDiff, Nat.reduceLT, Nat.reduceLeDiff, Nat.reduceMul, Nat.reduceAdd, reduceCtorEq]; try omega; done) | omega | (intro _; exact Vm.byRefl (by with_unfolding_all rfl))) only [Vm.wantedD, Am.va, Nat.reduceAdd, Nat.reduceMul, Nat.reduceSub, Nat.reduceLT, Nat.reduceLeDiff, Nat.reduceEqDiff, Int.reduceAdd, Int.reduceLT, Int.reduceLE, Int.reduceNeg, reduceCtorEq, ↓reduceIte, tyfacts, two_d]))
 refine Vm.call_eq2 (refReach_v (n := n) (x := x) (es := es) (by omega)) ?_ ?_ <;> (repeat (first | refine Vm.sk_region _ _ ?_ | simp (maxSteps := 10000000) (disch := first | assumption | (simp only [tyfacts, Vm.szO_eq, Am.vd, Nat.reduceEqDiff, Nat.reduceLT, Nat.reduceLeDiff, Nat.reduceMul, Nat.reduceAdd, reduceCtorEq]; try omega; done) | omega | (intro _; exact Vm.byRefl (by with_unfolding_all rfl))) only [Vm.wantedD, Am.va, Nat.reduceAdd, Nat.reduceMul, Nat.reduceSub, Nat.reduceLT, Nat.reduceLeDiff, Nat.reduceEqDiff, Int.reduceAdd, Int.reduceLT, Int.reduceLE, Int.reduceNeg, reduceCtorEq, ↓reduceIte, tyfacts, two_d]))
 refine Vm.call_eq2 (sccComp_v (n := n) (es := es) (by omega)) ?_ ?_ <;> (repeat (first | refine Vm.sk_region _ _ ?_ | simp (maxSteps := 10000000) (disch := first | assumption | (simp only [tyfacts, Vm.szO_eq, Am.vd, Nat.reduceEqDiff, Nat.reduceLT, Nat.reduceLeDiff, Nat.reduceMul, Nat.reduceAdd, reduceCtorEq]; try omega; done) | omega | (intro _; exact Vm.byRefl (by with_unfolding_all rfl))) only [Vm.wantedD, Am.va, Nat.reduceAdd, Nat.reduceMul, Nat.reduceSub, Nat.reduceLT, Nat.reduceLeDiff, Nat.reduceEqDiff, Int.reduceAdd, Int.reduceLT, Int.reduceLE, Int.reduceNeg, reduceCtorEq, ↓reduceIte, tyfacts, two_d]))
 refine Vm.call_eq2 (refComp_v (n := n) (es := es) (by omega)) ?_ ?_ <;> (repeat (first | refine Vm.sk_region _ _ ?_ | simp (maxSteps := 10000000) (disch := first | assumption | (simp only [tyfacts, Vm.szO_eq, Am.vd, Nat.reduceEqDiff, Nat.reduceLT, Nat.reduceLeDiff, Nat.reduceMul, Nat.reduceAdd, reduceCtorEq]; try omega; done) | omega | (intro _; exact Vm.byRefl (by with_unfolding_all rfl))) only [Vm.wantedD, Am.va, Nat.reduceAdd, Nat.reduceMul, Nat.reduceSub, Nat.reduceLT, Nat.reduceLeDiff, Nat.reduceEqDiff, Int.reduceAdd, Int.reduceLT, Int.reduceLE, Int.reduceNeg, reduceCtorEq, ↓reduceIte, tyfacts, two_d]))
 refine Vm.call_eq2 (sccOrder_v (n := n) (es := es) (by omega)) ?_ ?_ <;> (repeat (first | refine Vm.sk_region _ _ ?_ | simp (maxSteps := 10000000) (disch := first | assumption | (simp only [tyfacts, Vm.szO_eq, Am.vd, Nat.reduceEqDiff, Nat.reduceLT, Nat.reduceLeDiff, Nat.reduceMul, Nat.reduceAdd, reduceCtorEq]; try omega; done) | omega | (intro _; exact Vm.byRefl (by with_unfolding_all rfl))) only [Vm.wantedD, Am.va, Nat.reduceAdd, Nat.reduceMul, Nat.reduceSub, Nat.reduceLT, Nat.reduceLeDiff, Nat.reduceEqDiff, Int.reduceAdd, Int.reduceLT, Int.reduceLE, Int.reduceNeg, reduceCtorEq, ↓reduceIte, tyfacts, two_d]))
 refine Vm.call_eq2 (refOrder_v (n := n) (es := es) (by omega)) ?_ ?_ <;> (repeat (first | refine Vm.sk_region _ _ ?_ | simp (maxSteps := 10000000) (disch := first | assumption | (simp only [tyfacts, Vm.szO_eq, Am.vd, Nat.reduceEqDiff, Nat.reduceLT, Nat.reduceLeDiff, Nat.reduceMul, Nat.reduceAdd, reduceCtorEq]; try omega; done) | omega | (intro _; exact Vm.byRefl (by with_unfolding_all rfl))) only [Vm.wantedD, Am.va, Nat.reduceAdd, Nat.reduceMul, Nat.reduceSub, Nat.reduceLT, Nat.reduceLeDiff, Nat.reduceEqDiff, Int.reduceAdd, Int.reduceLT, Int.reduceLE, Int.reduceNeg, reduceCtorEq, ↓reduceIte, tyfacts, two_d]))
 refine Vm.call_eq2 (sccCycle_v (n := n) (es := es) (by omega)) ?_ ?_ <;> (repeat (first | refine Vm.sk_region _ _ ?_ | simp (maxSteps := 10000000) (disch := first | assumption | (simp only [tyfacts, Vm.szO_eq, Am.vd, Nat.reduceEqDiff, Nat.reduceLT, Nat.reduceLeDiff, Nat.reduceMul, Nat.reduceAdd, reduceCtorEq]; try omega; done) | omega | (intro _; exact Vm.byRefl (by with_unfolding_all rfl))) only [Vm.wantedD, Am.va, Nat.reduceAdd, Nat.reduceMul, Nat.reduceSub, Nat.reduceLT, Nat.reduceLeDiff, Nat.reduceEqDiff, Int.reduceAdd, Int.reduceLT, Int.reduceLE, Int.reduceNeg, reduceCtorEq, ↓reduceIte, tyfacts, two_d]))
 refine Vm.call_eq2 (refCycle_v (n := n) (es := es) (by omega)) ?_ ?_ <;> (repeat (first | refine Vm.sk_region _ _ ?_ | simp (maxSteps := 10000000) (disch := first | assumption | (simp only [tyfacts, Vm.szO_eq, Am.vd, Nat.reduceEqDiff, Nat.reduceLT, Nat.reduceLeDiff, Nat.reduceMul, Nat.reduceAdd, reduceCtorEq]; try omega; done) | omega | (intro _; exact Vm.byRefl (by with_unfolding_all rfl))) only [Vm.wantedD, Am.va, Nat.reduceAdd, Nat.reduceMul, Nat.reduceSub, Nat.reduceLT, Nat.reduceLeDiff, Nat.reduceEqDiff, Int.reduceAdd, Int.reduceLT, Int.reduceLE, Int.reduceNeg, reduceCtorEq, ↓reduceIte, tyfacts, two_d]))
 refine Vm.call_eq2 (same_v (xs := (reachF n es x).1) (ys := (reachF n es x).1) (by omega)) ?_ ?_ <;> (repeat (first | refine Vm.sk_region _ _ ?_ | simp (maxSteps := 10000000) (disch := first | assumption | (simp only [tyfacts, Vm.szO_eq, Am.vd, Nat.reduceEqDiff, Nat.reduceLT, Nat.reduceLeDiff, Nat.reduceMul, Nat.reduceAdd, reduceCtorEq]; try omega; done) | omega | (intro _; exact Vm.byRefl (by with_unfolding_all rfl))) only [Vm.wantedD, Am.va, Nat.reduceAdd, Nat.reduceMul, Nat.reduceSub, Nat.reduceLT, Nat.reduceLeDiff, Nat.reduceEqDiff, Int.reduceAdd, Int.reduceLT, Int.reduceLE, Int.reduceNeg, reduceCtorEq, ↓reduceIte, tyfacts]))
 refine Vm.call_eq2 (same_v (xs := (compF n es).1) (ys := (compF n es).1) (by omega)) ?_ ?_ <;> (repeat (first | refine Vm.sk_region _ _ ?_ | simp (maxSteps := 10000000) (disch := first | assumption | (simp only [tyfacts, Vm.szO_eq, Am.vd, Nat.reduceEqDiff, Nat.reduceLT, Nat.reduceLeDiff, Nat.reduceMul, Nat.reduceAdd, reduceCtorEq]; try omega; done) | omega | (intro _; exact Vm.byRefl (by with_unfolding_all rfl))) only [Vm.wantedD, Am.va, Nat.reduceAdd, Nat.reduceMul, Nat.reduceSub, Nat.reduceLT, Nat.reduceLeDiff, Nat.reduceEqDiff, Int.reduceAdd, Int.reduceLT, Int.reduceLE, Int.reduceNeg, reduceCtorEq, ↓reduceIte, tyfacts]))
 refine Vm.call_eq2 (same_v (xs := (ordF n es).1) (ys := (ordF n es).1) (by omega)) ?_ ?_ <;> (repeat (first | refine Vm.sk_region _ _ ?_ | simp (maxSteps := 10000000) (disch := first | assumption | (simp only [tyfacts, Vm.szO_eq, Am.vd, Nat.reduceEqDiff, Nat.reduceLT, Nat.reduceLeDiff, Nat.reduceMul, Nat.reduceAdd, reduceCtorEq]; try omega; done) | omega | (intro _; exact Vm.byRefl (by with_unfolding_all rfl))) only [Vm.wantedD, Am.va, Nat.reduceAdd, Nat.reduceMul, Nat.reduceSub, Nat.reduceLT, Nat.reduceLeDiff, Nat.reduceEqDiff, Int.reduceAdd, Int.reduceLT, Int.reduceLE, Int.reduceNeg, reduceCtorEq, ↓reduceIte, tyfacts]))
 refine Vm.call_eq2 (same_v (xs := (cycF n es).1) (ys := (cycF n es).1) (by omega)) ?_ ?_ <;> (repeat (first | refine Vm.sk_region _ _ ?_ | simp (maxSteps := 10000000) (disch := first | assumption | (simp only [tyfacts, Vm.szO_eq, Am.vd, Nat.reduceEqDiff, Nat.reduceLT, Nat.reduceLeDiff, Nat.reduceMul, Nat.reduceAdd, reduceCtorEq]; try omega; done) | omega | (intro _; exact Vm.byRefl (by with_unfolding_all rfl))) only [Vm.wantedD, Am.va, Nat.reduceAdd, Nat.reduceMul, Nat.reduceSub, Nat.reduceLT, Nat.reduceLeDiff, Nat.reduceEqDiff, Int.reduceAdd, Int.reduceLT, Int.reduceLE, Int.reduceNeg, reduceCtorEq, ↓reduceIte, tyfacts]))
 refine Vm.call_eq2 (sccCheck_v (n := n) (es := es) (by omega)) ?_ ?_ <;> (repeat (first | refine Vm.sk_region _ _ ?_ | simp (maxSteps := 10000000) (disch := first | assumption | (simp only [tyfacts, Vm.szO_eq, Am.vd, Nat.reduceEqDiff, Nat.reduceLT, Nat.reduceLeDiff, Nat.reduceMul, Nat.reduceAdd, reduceCtorEq]; try omega; done) | omega | (intro _; exact Vm.byRefl (by with_unfolding_all rfl))) only [Vm.wantedD, Am.va, Nat.reduceAdd, Nat.reduceMul, Nat.reduceSub, Nat.reduceLT, Nat.reduceLeDiff, Nat.reduceEqDiff, Int.reduceAdd, Int.reduceLT, Int.reduceLE, Int.reduceNeg, reduceCtorEq, ↓reduceIte, tyfacts]))
 refine Vm.call_eq2 (refCheck_v (n := n) (es := es) (by omega)) ?_ ?_ <;> (repeat (first | refine Vm.sk_region _ _ ?_ | simp (maxSteps := 10000000) (disch := first | assumption | (simp only [tyfacts, Vm.szO_eq, Am.vd, Nat.reduceEqDiff, Nat.reduceLT, Nat.reduceLeDiff, Nat.reduceMul, Nat.reduceAdd, reduceCtorEq]; try omega; done) | omega | (intro _; exact Vm.byRefl (by with_unfolding_all rfl))) only [Vm.wantedD, Am.va, Nat.reduceAdd, Nat.reduceMul, Nat.reduceSub, Nat.reduceLT, Nat.reduceLeDiff, Nat.reduceEqDiff, Int.reduceAdd, Int.reduceLT, Int.reduceLE, Int.reduceNeg, reduceCtorEq, ↓reduceIte, tyfacts]))
 refine Vm.call_mut (R := ?vR1) ?vh1 ?vk1
 case vh1 => refine over_v (m := (reachF n es x).1.length) (xs := (reachF n es x).1) ?_ ?_ (by omega) <;> rfl
 rintro d s ⟨y1, hy1, rfl⟩
 (repeat (first | refine Vm.sk_region _ _ ?_ | simp (maxSteps := 10000000) (disch := first | assumption | (simp only [tyfacts, Vm.szO_eq, Am.vd, Nat.reduceEqDiff, Nat.reduceLT, Nat.reduceLeDiff, Nat.reduceMul, Nat.reduceAdd, reduceCtorEq]; try omega; done) | omega | (intro _; exact Vm.byRefl (by with_unfolding_all rfl))) only [Vm.wantedD, Am.va, Nat.reduceAdd, Nat.reduceMul, Nat.reduceSub, Nat.reduceLT, Nat.reduceLeDiff, Nat.reduceEqDiff, Int.reduceAdd, Int.reduceLT, Int.reduceLE, Int.reduceNeg, reduceCtorEq, ↓reduceIte, tyfacts]))
 refine Vm.call_mut (R := ?vR2) ?vh2 ?vk2
 case vh2 => refine over_v (m := (compF n es).1.length) (xs := (compF n es).1) ?_ ?_ (by omega) <;> rfl
 rintro d s ⟨y2, hy2, rfl⟩
 (repeat (first | refine Vm.sk_region _ _ ?_ | simp (maxSteps := 10000000) (disch := first | assumption | (simp only [tyfacts, Vm.szO_eq, Am.vd, Nat.reduceEqDiff, Nat.reduceLT, Nat.reduceLeDiff, Nat.reduceMul, Nat.reduceAdd, reduceCtorEq]; try omega; done) | omega | (intro _; exact Vm.byRefl (by with_unfolding_all rfl))) only [Vm.wantedD, Am.va, Nat.reduceAdd, Nat.reduceMul, Nat.reduceSub, Nat.reduceLT, Nat.reduceLeDiff, Nat.reduceEqDiff, Int.reduceAdd, Int.reduceLT, Int.reduceLE, Int.reduceNeg, reduceCtorEq, ↓reduceIte, tyfacts]))
 refine Vm.call_mut (R := ?vR3) ?vh3 ?vk3
 case vh3 => refine over_v (m := (ordF n es).1.length) (xs := (ordF n es).1) ?_ ?_ (by omega) <;> rfl
 rintro d s ⟨y3, hy3, rfl⟩
 (repeat (first | refine Vm.sk_region _ _ ?_ | simp (maxSteps := 10000000) (disch := first | assumption | (simp only [tyfacts, Vm.szO_eq, Am.vd, Nat.reduceEqDiff, Nat.reduceLT, Nat.reduceLeDiff, Nat.reduceMul, Nat.reduceAdd, reduceCtorEq]; try omega; done) | omega | (intro _; exact Vm.byRefl (by with_unfolding_all rfl))) only [Vm.wantedD, Am.va, Nat.reduceAdd, Nat.reduceMul, Nat.reduceSub, Nat.reduceLT, Nat.reduceLeDiff, Nat.reduceEqDiff, Int.reduceAdd, Int.reduceLT, Int.reduceLE, Int.reduceNeg, reduceCtorEq, ↓reduceIte, tyfacts]))
 refine Vm.call_mut (R := ?vR4) ?vh4 ?vk4
 case vh4 => refine over_v (m := (cycF n es).1.length) (xs := (cycF n es).1) ?_ ?_ (by omega) <;> rfl
 rintro d s ⟨y4, hy4, rfl⟩
 (repeat (first | refine Vm.sk_region _ _ ?_ | simp (maxSteps := 10000000) (disch := first | assumption | (simp only [tyfacts, Vm.szO_eq, Am.vd, Nat.reduceEqDiff, Nat.reduceLT, Nat.reduceLeDiff, Nat.reduceMul, Nat.reduceAdd, reduceCtorEq]; try omega; done) | omega | (intro _; exact Vm.byRefl (by with_unfolding_all rfl))) only [Vm.wantedD, Am.va, Nat.reduceAdd, Nat.reduceMul, Nat.reduceSub, Nat.reduceLT, Nat.reduceLeDiff, Nat.reduceEqDiff, Int.reduceAdd, Int.reduceLT, Int.reduceLE, Int.reduceNeg, reduceCtorEq, ↓reduceIte, tyfacts]))
 refine Vm.call_eq2 (sameE_v (xs := es) (ys := es) (by omega)) ?_ ?_ <;> (repeat (first | refine Vm.sk_region _ _ ?_ | simp (maxSteps := 10000000) (disch := first | assumption | (simp only [tyfacts, Vm.szO_eq, Am.vd, Nat.reduceEqDiff, Nat.reduceLT, Nat.reduceLeDiff, Nat.reduceMul, Nat.reduceAdd, reduceCtorEq]; try omega; done) | omega | (intro _; exact Vm.byRefl (by with_unfolding_all rfl))) only [Vm.wantedD, Am.va, Nat.reduceAdd, Nat.reduceMul, Nat.reduceSub, Nat.reduceLT, Nat.reduceLeDiff, Nat.reduceEqDiff, Int.reduceAdd, Int.reduceLT, Int.reduceLE, Int.reduceNeg, reduceCtorEq, ↓reduceIte, tyfacts]))
 refine Vm.call_eq2 (awake_v) ?_ ?_ <;> (repeat (first | refine Vm.sk_region _ _ ?_ | simp (maxSteps := 10000000) (disch := first | assumption | (simp only [tyfacts, Vm.szO_eq, Am.vd, Nat.reduceEqDiff, Nat.reduceLT, Nat.reduceLeDiff, Nat.reduceMul, Nat.reduceAdd, reduceCtorEq]; try omega; done) | omega | (intro _; exact Vm.byRefl (by with_unfolding_all rfl))) only [Vm.wantedD, Am.va, Nat.reduceAdd, Nat.reduceMul, Nat.reduceSub, Nat.reduceLT, Nat.reduceLeDiff, Nat.reduceEqDiff, Int.reduceAdd, Int.reduceLT, Int.reduceLE, Int.reduceNeg, reduceCtorEq, ↓reduceIte, tyfacts]))
 refine Vm.ret_ok (by first | exact .inl rfl | exact .inr rfl) ?_
 simp (maxSteps := 10000000) (disch := first | assumption | (simp only [tyfacts, Vm.szO_eq, Am.vd, Nat.reduceEqDiff, Nat.reduceLT, Nat.reduceLeDiff, Nat.reduceMul, Nat.reduceAdd, reduceCtorEq]; try omega; done) | omega | (intro _; exact Vm.byRefl (by with_unfolding_all rfl))) only [Vm.wantedD, Am.va, Nat.reduceAdd, Nat.reduceMul, Nat.reduceSub, Nat.reduceLT, Nat.reduceLeDiff, Nat.reduceEqDiff, Int.reduceAdd, Int.reduceLT, Int.reduceLE, Int.reduceNeg, reduceCtorEq, ↓reduceIte, tyfacts]
end Go.Proofs.Ytbhgjikjdblgeaa.W
