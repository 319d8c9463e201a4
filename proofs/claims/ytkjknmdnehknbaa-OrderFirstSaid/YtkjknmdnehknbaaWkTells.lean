import Derived.Test.YtkjknmdnehknbaaWkE
set_option linter.unusedSimpArgs false
set_option linter.unusedVariables false
set_option maxRecDepth 8000
/- OrderTells: the program and the document tell the same. No conditions. -/
namespace Go.Proofs.Ytkjknmdnehknbaa.W
open Go.Am Go.Am.Ord

theorem calls_prim {T : Tab} {f : FuncId} {p : List V → Heap → Option (V × Heap)} {args : List V} {H H' : Heap} {r : V} {R : V → Heap → Prop} (hp : T.prim f = some p) (h : p args H = some (r, H')) (hq : R r H') : CallsTo T f args H R :=
  ⟨0, r, H', by simp [run, calls, hp, h], hq⟩
theorem awake_ok (H : Heap) : CallsTo T 8 [] H fun r H' => r = .bool true ∧ H' = H := calls_prim (p := closedTrue) rfl rfl ⟨rfl, rfl⟩
theorem known_ok (H : Heap) : CallsTo T 4 [] H fun r H' => r = .bool true ∧ H' = H := calls_prim (p := closedTrue) rfl rfl ⟨rfl, rfl⟩

theorem edges_short (ts : List Tr5) : (edgesF ts).1.length ≤ ts.length * ts.length := by
  rw [edgesF]; split
  · simp
  · exact pairs_length ts
theorem next_short (ts : List Tr5) (xs : List Int) : (nextF ts xs).1.length ≤ ts.length := by
  rw [nextF]; split
  · simp
  · exact nxt_len ts xs ts.length
theorem goOn_len (ts : List Tr5) : ∀ n o, (goOn ts n o).length = n + o.length
  | 0, o => by simp [goOn]
  | n + 1, o => by rw [goOn, goOn_len ts n]; simp; omega
theorem first_short (ts : List Tr5) : (firstF ts).1.length ≤ ts.length := by
  rw [firstF]; split
  · simp
  · simp [goOn_len]

theorem tells_ok {H : Heap} (wf : H.WF) {v o : V} {xs ys : List Int} (hv : Sl H v 1 (xs.map cI)) (ho : Sl H o 1 (ys.map cI)) (i k : Int) :
    CallsTo T 3 [v, o, .int .i64 i, .int .i64 k] H fun r H' => r = .bool true ∧ Ext H H' := by
  refine Am.calls_enter (T := T) rfl Try.func3 rfl (by simp only [Try.f3, List.length_cons, List.length_nil]; decide) ?_
  simp only [Try.f3]
  have L := hv.len
  have LO := ho.len
  by_cases g1 : 32 < (xs.length : Int)
  · simp (maxSteps := 10000000) (disch := first | assumption | (simp only [tyfacts, Am.wd, Nat.reduceEqDiff, Nat.reduceLT, reduceCtorEq]; try omega; done) | omega) only [Am.wanted, Am.isAlloc, Am.wb0, Am.wb1, Am.wb2, Am.wb3, Am.wb4, Am.wb5, Am.wb6, Am.wb7, Am.wb8, Am.wb9, Am.reads, Am.quiet, Am.over, Nat.testBit, Nat.reduceShiftRight, Nat.reduceAnd, Nat.reduceBNe, Nat.reduceLeDiff, Nat.reduceAdd, Nat.reduceMul, Nat.reduceLT, Nat.reduceEqDiff, Nat.reduceSub, reduceCtorEq, ↓reduceIte, tyfacts, L, LO, g1]
    refine wpX_call (awake_ok H) fun r H1 ⟨hr, hH⟩ => ?_
    subst hr
    subst hH
    simp (maxSteps := 10000000) (disch := first | assumption | (simp only [tyfacts, Am.wd, Nat.reduceEqDiff, Nat.reduceLT, reduceCtorEq]; try omega; done) | omega) only [Am.wanted, Am.isAlloc, Am.wb0, Am.wb1, Am.wb2, Am.wb3, Am.wb4, Am.wb5, Am.wb6, Am.wb7, Am.wb8, Am.wb9, Am.reads, Am.quiet, Am.over, Nat.testBit, Nat.reduceShiftRight, Nat.reduceAnd, Nat.reduceBNe, Nat.reduceLeDiff, Nat.reduceAdd, Nat.reduceMul, Nat.reduceLT, Nat.reduceEqDiff, Nat.reduceSub, reduceCtorEq, ↓reduceIte, tyfacts]
    exact Ext.refl wf
  by_cases g2 : 20 < (ys.length : Int)
  · simp (maxSteps := 10000000) (disch := first | assumption | (simp only [tyfacts, Am.wd, Nat.reduceEqDiff, Nat.reduceLT, reduceCtorEq]; try omega; done) | omega) only [Am.wanted, Am.isAlloc, Am.wb0, Am.wb1, Am.wb2, Am.wb3, Am.wb4, Am.wb5, Am.wb6, Am.wb7, Am.wb8, Am.wb9, Am.reads, Am.quiet, Am.over, Nat.testBit, Nat.reduceShiftRight, Nat.reduceAnd, Nat.reduceBNe, Nat.reduceLeDiff, Nat.reduceAdd, Nat.reduceMul, Nat.reduceLT, Nat.reduceEqDiff, Nat.reduceSub, reduceCtorEq, ↓reduceIte, tyfacts, L, LO, g1, g2]
    refine wpX_call (awake_ok H) fun r H1 ⟨hr, hH⟩ => ?_
    subst hr
    subst hH
    simp (maxSteps := 10000000) (disch := first | assumption | (simp only [tyfacts, Am.wd, Nat.reduceEqDiff, Nat.reduceLT, reduceCtorEq]; try omega; done) | omega) only [Am.wanted, Am.isAlloc, Am.wb0, Am.wb1, Am.wb2, Am.wb3, Am.wb4, Am.wb5, Am.wb6, Am.wb7, Am.wb8, Am.wb9, Am.reads, Am.quiet, Am.over, Nat.testBit, Nat.reduceShiftRight, Nat.reduceAnd, Nat.reduceBNe, Nat.reduceLeDiff, Nat.reduceAdd, Nat.reduceMul, Nat.reduceLT, Nat.reduceEqDiff, Nat.reduceSub, reduceCtorEq, ↓reduceIte, tyfacts]
    exact Ext.refl wf
  simp (maxSteps := 10000000) (disch := first | assumption | (simp only [tyfacts, Am.wd, Nat.reduceEqDiff, Nat.reduceLT, reduceCtorEq]; try omega; done) | omega) only [Am.wanted, Am.isAlloc, Am.wb0, Am.wb1, Am.wb2, Am.wb3, Am.wb4, Am.wb5, Am.wb6, Am.wb7, Am.wb8, Am.wb9, Am.reads, Am.quiet, Am.over, Nat.testBit, Nat.reduceShiftRight, Nat.reduceAnd, Nat.reduceBNe, Nat.reduceLeDiff, Nat.reduceAdd, Nat.reduceMul, Nat.reduceLT, Nat.reduceEqDiff, Nat.reduceSub, reduceCtorEq, ↓reduceIte, tyfacts, L, LO, g1, g2]
  refine wpX_call (spans_ok wf hv (by omega)) fun l H1 ⟨ml, hx1⟩ => ?_
  simp (maxSteps := 10000000) (disch := first | assumption | (simp only [tyfacts, Am.wd, Nat.reduceEqDiff, Nat.reduceLT, reduceCtorEq]; try omega; done) | omega) only [Am.wanted, Am.isAlloc, Am.wb0, Am.wb1, Am.wb2, Am.wb3, Am.wb4, Am.wb5, Am.wb6, Am.wb7, Am.wb8, Am.wb9, Am.reads, Am.quiet, Am.over, Nat.testBit, Nat.reduceShiftRight, Nat.reduceAnd, Nat.reduceBNe, Nat.reduceLeDiff, Nat.reduceAdd, Nat.reduceMul, Nat.reduceLT, Nat.reduceEqDiff, Nat.reduceSub, reduceCtorEq, ↓reduceIte, tyfacts]
  refine wpX_call (copyInts_ok hx1.wf (ho.mono hx1) (by omega)) fun c H2 ⟨mc, hy⟩ => ?_
  have hx2 := hx1.trans hy
  have sl2 := ml.sl.mono hy
  have sc2 := mc.sl
  have so2 := ho.mono hx2
  have hlen : (spansF xs).length ≤ 16 := by rw [spansF_len]; omega
  have hg := spansF_good xs
  have hyl : ys.length ≤ 20 := by omega
  clear hy hx1 ml mc
  generalize spansF xs = ts at hlen hg sl2
  simp (maxSteps := 10000000) (disch := first | assumption | (simp only [tyfacts, Am.wd, Nat.reduceEqDiff, Nat.reduceLT, reduceCtorEq]; try omega; done) | omega) only [Am.wanted, Am.isAlloc, Am.wb0, Am.wb1, Am.wb2, Am.wb3, Am.wb4, Am.wb5, Am.wb6, Am.wb7, Am.wb8, Am.wb9, Am.reads, Am.quiet, Am.over, Nat.testBit, Nat.reduceShiftRight, Nat.reduceAnd, Nat.reduceBNe, Nat.reduceLeDiff, Nat.reduceAdd, Nat.reduceMul, Nat.reduceLT, Nat.reduceEqDiff, Nat.reduceSub, reduceCtorEq, ↓reduceIte, tyfacts]
  refine wpX_call (precedes_ok hx2.wf sl2 (by omega) i k) fun r H3 ⟨hr, hy⟩ => ?_
  subst hr
  have hx3 := hx2.trans hy
  have sl3 := sl2.mono hy
  have sc3 := sc2.mono hy
  have so3 := so2.mono hy
  simp (maxSteps := 10000000) (disch := first | assumption | (simp only [tyfacts, Am.wd, Nat.reduceEqDiff, Nat.reduceLT, reduceCtorEq]; try omega; done) | omega) only [Am.wanted, Am.isAlloc, Am.wb0, Am.wb1, Am.wb2, Am.wb3, Am.wb4, Am.wb5, Am.wb6, Am.wb7, Am.wb8, Am.wb9, Am.reads, Am.quiet, Am.over, Nat.testBit, Nat.reduceShiftRight, Nat.reduceAnd, Nat.reduceBNe, Nat.reduceLeDiff, Nat.reduceAdd, Nat.reduceMul, Nat.reduceLT, Nat.reduceEqDiff, Nat.reduceSub, reduceCtorEq, ↓reduceIte, tyfacts]
  refine wpX_call (refPrecedes_ok hx3.wf sl3 (by omega) i k) fun r H4 ⟨hr, hy⟩ => ?_
  subst hr
  have hx4 := hx3.trans hy
  have sl4 := sl3.mono hy
  have sc4 := sc3.mono hy
  have so4 := so3.mono hy
  simp (maxSteps := 10000000) (disch := first | assumption | (simp only [tyfacts, Am.wd, Nat.reduceEqDiff, Nat.reduceLT, reduceCtorEq]; try omega; done) | omega) only [Am.wanted, Am.isAlloc, Am.wb0, Am.wb1, Am.wb2, Am.wb3, Am.wb4, Am.wb5, Am.wb6, Am.wb7, Am.wb8, Am.wb9, Am.reads, Am.quiet, Am.over, Nat.testBit, Nat.reduceShiftRight, Nat.reduceAnd, Nat.reduceBNe, Nat.reduceLeDiff, Nat.reduceAdd, Nat.reduceMul, Nat.reduceLT, Nat.reduceEqDiff, Nat.reduceSub, reduceCtorEq, ↓reduceIte, tyfacts]
  refine wpX_call (edges_ok hx4.wf sl4 hg (by omega)) fun r H5 ⟨e1, hr, me1, hy⟩ => ?_
  subst hr
  have hx5 := hx4.trans hy
  have sl5 := sl4.mono hy
  have sc5 := sc4.mono hy
  have so5 := so4.mono hy
  simp (maxSteps := 10000000) (disch := first | assumption | (simp only [tyfacts, Am.wd, Nat.reduceEqDiff, Nat.reduceLT, reduceCtorEq]; try omega; done) | omega) only [Am.wanted, Am.isAlloc, Am.wb0, Am.wb1, Am.wb2, Am.wb3, Am.wb4, Am.wb5, Am.wb6, Am.wb7, Am.wb8, Am.wb9, Am.reads, Am.quiet, Am.over, Nat.testBit, Nat.reduceShiftRight, Nat.reduceAnd, Nat.reduceBNe, Nat.reduceLeDiff, Nat.reduceAdd, Nat.reduceMul, Nat.reduceLT, Nat.reduceEqDiff, Nat.reduceSub, reduceCtorEq, ↓reduceIte, tyfacts]
  refine wpX_call (refEdges_ok hx5.wf sl5 (by omega)) fun r H6 ⟨e2, hr, me2, hy⟩ => ?_
  subst hr
  have hx6 := hx5.trans hy
  have sl6 := sl5.mono hy
  have sc6 := sc5.mono hy
  have so6 := so5.mono hy
  have se1 := me1.sl.mono hy
  have se2 := me2.sl
  simp (maxSteps := 10000000) (disch := first | assumption | (simp only [tyfacts, Am.wd, Nat.reduceEqDiff, Nat.reduceLT, reduceCtorEq]; try omega; done) | omega) only [Am.wanted, Am.isAlloc, Am.wb0, Am.wb1, Am.wb2, Am.wb3, Am.wb4, Am.wb5, Am.wb6, Am.wb7, Am.wb8, Am.wb9, Am.reads, Am.quiet, Am.over, Nat.testBit, Nat.reduceShiftRight, Nat.reduceAnd, Nat.reduceBNe, Nat.reduceLeDiff, Nat.reduceAdd, Nat.reduceMul, Nat.reduceLT, Nat.reduceEqDiff, Nat.reduceSub, reduceCtorEq, ↓reduceIte, tyfacts]
  refine wpX_call (next_ok hx6.wf sl6 hg sc6 (by omega) (by omega)) fun r H7 ⟨n1, hr, mn1, hy⟩ => ?_
  subst hr
  have hx7 := hx6.trans hy
  have hy67 := hy
  have sl7 := sl6.mono hy
  have sc7 := sc6.mono hy
  have so7 := so6.mono hy
  have se1 := se1.mono hy
  have se2 := se2.mono hy
  simp (maxSteps := 10000000) (disch := first | assumption | (simp only [tyfacts, Am.wd, Nat.reduceEqDiff, Nat.reduceLT, reduceCtorEq]; try omega; done) | omega) only [Am.wanted, Am.isAlloc, Am.wb0, Am.wb1, Am.wb2, Am.wb3, Am.wb4, Am.wb5, Am.wb6, Am.wb7, Am.wb8, Am.wb9, Am.reads, Am.quiet, Am.over, Nat.testBit, Nat.reduceShiftRight, Nat.reduceAnd, Nat.reduceBNe, Nat.reduceLeDiff, Nat.reduceAdd, Nat.reduceMul, Nat.reduceLT, Nat.reduceEqDiff, Nat.reduceSub, reduceCtorEq, ↓reduceIte, tyfacts]
  refine wpX_call (refNext_ok hx7.wf sl7 so7 (by omega) (by omega)) fun r H8 ⟨n2, hr, mn2, hy⟩ => ?_
  subst hr
  have hx8 := hx7.trans hy
  have n1lt : ∀ m, Of n1 m → m < H8.n := fun m h => Nat.lt_of_lt_of_le (mn1.lt h) hy.n
  have z8 := hy67.trans hy
  have sl8 := sl7.mono hy
  have sc8 := sc7.mono hy
  have so8 := so7.mono hy
  have se1 := se1.mono hy
  have se2 := se2.mono hy
  have mn1 := mn1.mono hy
  simp (maxSteps := 10000000) (disch := first | assumption | (simp only [tyfacts, Am.wd, Nat.reduceEqDiff, Nat.reduceLT, reduceCtorEq]; try omega; done) | omega) only [Am.wanted, Am.isAlloc, Am.wb0, Am.wb1, Am.wb2, Am.wb3, Am.wb4, Am.wb5, Am.wb6, Am.wb7, Am.wb8, Am.wb9, Am.reads, Am.quiet, Am.over, Nat.testBit, Nat.reduceShiftRight, Nat.reduceAnd, Nat.reduceBNe, Nat.reduceLeDiff, Nat.reduceAdd, Nat.reduceMul, Nat.reduceLT, Nat.reduceEqDiff, Nat.reduceSub, reduceCtorEq, ↓reduceIte, tyfacts]
  refine wpX_call (first_ok hx8.wf sl8 hg (by omega)) fun r H9 ⟨p1, hr, mp1, hy⟩ => ?_
  subst hr
  have hx9 := hx8.trans hy
  have z9 := z8.trans hy
  have sl9 := sl8.mono hy
  have sc9 := sc8.mono hy
  have so9 := so8.mono hy
  have se1 := se1.mono hy
  have se2 := se2.mono hy
  have mn1 := mn1.mono hy
  have mn2 := mn2.mono hy
  simp (maxSteps := 10000000) (disch := first | assumption | (simp only [tyfacts, Am.wd, Nat.reduceEqDiff, Nat.reduceLT, reduceCtorEq]; try omega; done) | omega) only [Am.wanted, Am.isAlloc, Am.wb0, Am.wb1, Am.wb2, Am.wb3, Am.wb4, Am.wb5, Am.wb6, Am.wb7, Am.wb8, Am.wb9, Am.reads, Am.quiet, Am.over, Nat.testBit, Nat.reduceShiftRight, Nat.reduceAnd, Nat.reduceBNe, Nat.reduceLeDiff, Nat.reduceAdd, Nat.reduceMul, Nat.reduceLT, Nat.reduceEqDiff, Nat.reduceSub, reduceCtorEq, ↓reduceIte, tyfacts]
  refine wpX_call (refFirst_ok hx9.wf sl9 (by omega)) fun r HA ⟨p2, hr, mp2, hy⟩ => ?_
  subst hr
  have hxA := hx9.trans hy
  have zA := z9.trans hy
  have slA := sl9.mono hy
  have scA := sc9.mono hy
  have soA := so9.mono hy
  have se1 := se1.mono hy
  have se2 := se2.mono hy
  have mn1 := mn1.mono hy
  have mn2 := mn2.mono hy
  have mp1 := mp1.mono hy
  simp (maxSteps := 10000000) (disch := first | assumption | (simp only [tyfacts, Am.wd, Nat.reduceEqDiff, Nat.reduceLT, reduceCtorEq]; try omega; done) | omega) only [Am.wanted, Am.isAlloc, Am.wb0, Am.wb1, Am.wb2, Am.wb3, Am.wb4, Am.wb5, Am.wb6, Am.wb7, Am.wb8, Am.wb9, Am.reads, Am.quiet, Am.over, Nat.testBit, Nat.reduceShiftRight, Nat.reduceAnd, Nat.reduceBNe, Nat.reduceLeDiff, Nat.reduceAdd, Nat.reduceMul, Nat.reduceLT, Nat.reduceEqDiff, Nat.reduceSub, reduceCtorEq, ↓reduceIte, tyfacts]
  refine wpX_call (sameEdges_ok hxA.wf se1 se2 (by have := edges_short ts; have : ts.length * ts.length ≤ 16 * 16 := Nat.mul_le_mul hlen hlen; omega)) fun r HB ⟨hr, hy⟩ => ?_
  rw [decide_eq_true rfl] at hr
  subst hr
  have hxB := hxA.trans hy
  have zB := zA.trans hy
  have slB := slA.mono hy
  have scB := scA.mono hy
  have soB := soA.mono hy
  have mn1 := mn1.mono hy
  have mn2 := mn2.mono hy
  have mp1 := mp1.mono hy
  have mp2 := mp2.mono hy
  clear hy
  simp (maxSteps := 10000000) (disch := first | assumption | (simp only [tyfacts, Am.wd, Nat.reduceEqDiff, Nat.reduceLT, reduceCtorEq]; try omega; done) | omega) only [Am.wanted, Am.isAlloc, Am.wb0, Am.wb1, Am.wb2, Am.wb3, Am.wb4, Am.wb5, Am.wb6, Am.wb7, Am.wb8, Am.wb9, Am.reads, Am.quiet, Am.over, Nat.testBit, Nat.reduceShiftRight, Nat.reduceAnd, Nat.reduceBNe, Nat.reduceLeDiff, Nat.reduceAdd, Nat.reduceMul, Nat.reduceLT, Nat.reduceEqDiff, Nat.reduceSub, reduceCtorEq, ↓reduceIte, tyfacts]
  refine wpX_call (sameInts_ok hxB.wf mn1.sl mn2.sl (by have := next_short ts ys; omega)) fun r HC ⟨hr, hy⟩ => ?_
  rw [decide_eq_true rfl] at hr
  subst hr
  have hxC := hxB.trans hy
  have zC := zB.trans hy
  have slC := slB.mono hy
  have scC := scB.mono hy
  have soC := soB.mono hy
  have mn1 := mn1.mono hy
  have mp1 := mp1.mono hy
  have mp2 := mp2.mono hy
  clear hy
  simp (maxSteps := 10000000) (disch := first | assumption | (simp only [tyfacts, Am.wd, Nat.reduceEqDiff, Nat.reduceLT, reduceCtorEq]; try omega; done) | omega) only [Am.wanted, Am.isAlloc, Am.wb0, Am.wb1, Am.wb2, Am.wb3, Am.wb4, Am.wb5, Am.wb6, Am.wb7, Am.wb8, Am.wb9, Am.reads, Am.quiet, Am.over, Nat.testBit, Nat.reduceShiftRight, Nat.reduceAnd, Nat.reduceBNe, Nat.reduceLeDiff, Nat.reduceAdd, Nat.reduceMul, Nat.reduceLT, Nat.reduceEqDiff, Nat.reduceSub, reduceCtorEq, ↓reduceIte, tyfacts]
  refine wpX_call (sameInts_ok hxC.wf mp1.sl mp2.sl (by have := first_short ts; omega)) fun r HD ⟨hr, hy⟩ => ?_
  rw [decide_eq_true rfl] at hr
  subst hr
  have hxD := hxC.trans hy
  have zD := zC.trans hy
  have slD := slC.mono hy
  have scD := scC.mono hy
  have soD := soC.mono hy
  have mn1 := mn1.mono hy
  have mp1 := mp1.mono hy
  clear hy
  simp (maxSteps := 10000000) (disch := first | assumption | (simp only [tyfacts, Am.wd, Nat.reduceEqDiff, Nat.reduceLT, reduceCtorEq]; try omega; done) | omega) only [Am.wanted, Am.isAlloc, Am.wb0, Am.wb1, Am.wb2, Am.wb3, Am.wb4, Am.wb5, Am.wb6, Am.wb7, Am.wb8, Am.wb9, Am.reads, Am.quiet, Am.over, Nat.testBit, Nat.reduceShiftRight, Nat.reduceAnd, Nat.reduceBNe, Nat.reduceLeDiff, Nat.reduceAdd, Nat.reduceMul, Nat.reduceLT, Nat.reduceEqDiff, Nat.reduceSub, reduceCtorEq, ↓reduceIte, tyfacts]
  refine wpX_call (overInts_ok hxD.wf mn1 (by have := next_short ts ys; omega)) fun r HE hy => ?_
  have zE := zD.thenB hy fun m h => mn1.ge h
  have mp1 := mp1.ext hy fun m h h2 => by have := mp1.ge h; have := n1lt m h2; omega
  clear hy
  simp (maxSteps := 10000000) (disch := first | assumption | (simp only [tyfacts, Am.wd, Nat.reduceEqDiff, Nat.reduceLT, reduceCtorEq]; try omega; done) | omega) only [Am.wanted, Am.isAlloc, Am.wb0, Am.wb1, Am.wb2, Am.wb3, Am.wb4, Am.wb5, Am.wb6, Am.wb7, Am.wb8, Am.wb9, Am.reads, Am.quiet, Am.over, Nat.testBit, Nat.reduceShiftRight, Nat.reduceAnd, Nat.reduceBNe, Nat.reduceLeDiff, Nat.reduceAdd, Nat.reduceMul, Nat.reduceLT, Nat.reduceEqDiff, Nat.reduceSub, reduceCtorEq, ↓reduceIte, tyfacts]
  refine wpX_call (overInts_ok zE.wf mp1 (by have := first_short ts; omega)) fun r HF hy => ?_
  have zF := zE.thenB hy fun m h => by have := mp1.ge h; have := z8.n; omega
  clear hy
  have hxF := hx6.trans zF
  have slF := sl6.mono zF
  have scF := sc6.mono zF
  have soF := so6.mono zF
  clear mn1 mn2 mp1 mp2 se1 se2 z8 z9 zA zB zC zD zE zF slA slB slC slD scA scB scC scD soA soB soC soD
  simp (maxSteps := 10000000) (disch := first | assumption | (simp only [tyfacts, Am.wd, Nat.reduceEqDiff, Nat.reduceLT, reduceCtorEq]; try omega; done) | omega) only [Am.wanted, Am.isAlloc, Am.wb0, Am.wb1, Am.wb2, Am.wb3, Am.wb4, Am.wb5, Am.wb6, Am.wb7, Am.wb8, Am.wb9, Am.reads, Am.quiet, Am.over, Nat.testBit, Nat.reduceShiftRight, Nat.reduceAnd, Nat.reduceBNe, Nat.reduceLeDiff, Nat.reduceAdd, Nat.reduceMul, Nat.reduceLT, Nat.reduceEqDiff, Nat.reduceSub, reduceCtorEq, ↓reduceIte, tyfacts]
  refine wpX_call (check_ok hxF.wf slF (by omega)) fun r HG ⟨hr, hy⟩ => ?_
  subst hr
  have hxG := hxF.trans hy
  have slG := slF.mono hy
  have scG := scF.mono hy
  have soG := soF.mono hy
  simp (maxSteps := 10000000) (disch := first | assumption | (simp only [tyfacts, Am.wd, Nat.reduceEqDiff, Nat.reduceLT, reduceCtorEq]; try omega; done) | omega) only [Am.wanted, Am.isAlloc, Am.wb0, Am.wb1, Am.wb2, Am.wb3, Am.wb4, Am.wb5, Am.wb6, Am.wb7, Am.wb8, Am.wb9, Am.reads, Am.quiet, Am.over, Nat.testBit, Nat.reduceShiftRight, Nat.reduceAnd, Nat.reduceBNe, Nat.reduceLeDiff, Nat.reduceAdd, Nat.reduceMul, Nat.reduceLT, Nat.reduceEqDiff, Nat.reduceSub, reduceCtorEq, ↓reduceIte, tyfacts]
  refine wpX_call (refCheck_ok hxG.wf slG (by omega)) fun r HH ⟨hr, hy⟩ => ?_
  subst hr
  have hxH := hxG.trans hy
  have slH := slG.mono hy
  have scH := scG.mono hy
  have soH := soG.mono hy
  simp (maxSteps := 10000000) (disch := first | assumption | (simp only [tyfacts, Am.wd, Nat.reduceEqDiff, Nat.reduceLT, reduceCtorEq]; try omega; done) | omega) only [Am.wanted, Am.isAlloc, Am.wb0, Am.wb1, Am.wb2, Am.wb3, Am.wb4, Am.wb5, Am.wb6, Am.wb7, Am.wb8, Am.wb9, Am.reads, Am.quiet, Am.over, Nat.testBit, Nat.reduceShiftRight, Nat.reduceAnd, Nat.reduceBNe, Nat.reduceLeDiff, Nat.reduceAdd, Nat.reduceMul, Nat.reduceLT, Nat.reduceEqDiff, Nat.reduceSub, reduceCtorEq, ↓reduceIte, tyfacts]
  refine wpX_call (keeps_ok hxH.wf slH hg scH (by omega) (by omega)) fun r HI ⟨hr, hy⟩ => ?_
  subst hr
  have hxI := hxH.trans hy
  have slI := slH.mono hy
  have scI := scH.mono hy
  have soI := soH.mono hy
  simp (maxSteps := 10000000) (disch := first | assumption | (simp only [tyfacts, Am.wd, Nat.reduceEqDiff, Nat.reduceLT, reduceCtorEq]; try omega; done) | omega) only [Am.wanted, Am.isAlloc, Am.wb0, Am.wb1, Am.wb2, Am.wb3, Am.wb4, Am.wb5, Am.wb6, Am.wb7, Am.wb8, Am.wb9, Am.reads, Am.quiet, Am.over, Nat.testBit, Nat.reduceShiftRight, Nat.reduceAnd, Nat.reduceBNe, Nat.reduceLeDiff, Nat.reduceAdd, Nat.reduceMul, Nat.reduceLT, Nat.reduceEqDiff, Nat.reduceSub, reduceCtorEq, ↓reduceIte, tyfacts]
  refine wpX_call (refKeeps_ok hxI.wf slI soI (by omega) (by omega)) fun r HJ ⟨hr, hy⟩ => ?_
  subst hr
  have hxJ := hxI.trans hy
  have scJ := scI.mono hy
  have soJ := soI.mono hy
  simp (maxSteps := 10000000) (disch := first | assumption | (simp only [tyfacts, Am.wd, Nat.reduceEqDiff, Nat.reduceLT, reduceCtorEq]; try omega; done) | omega) only [Am.wanted, Am.isAlloc, Am.wb0, Am.wb1, Am.wb2, Am.wb3, Am.wb4, Am.wb5, Am.wb6, Am.wb7, Am.wb8, Am.wb9, Am.reads, Am.quiet, Am.over, Nat.testBit, Nat.reduceShiftRight, Nat.reduceAnd, Nat.reduceBNe, Nat.reduceLeDiff, Nat.reduceAdd, Nat.reduceMul, Nat.reduceLT, Nat.reduceEqDiff, Nat.reduceSub, reduceCtorEq, ↓reduceIte, tyfacts]
  refine wpX_call (sameInts_ok hxJ.wf scJ soJ (by omega)) fun r HK ⟨hr, hy⟩ => ?_
  rw [decide_eq_true rfl] at hr
  subst hr
  have hxK := hxJ.trans hy
  simp (maxSteps := 10000000) (disch := first | assumption | (simp only [tyfacts, Am.wd, Nat.reduceEqDiff, Nat.reduceLT, reduceCtorEq]; try omega; done) | omega) only [Am.wanted, Am.isAlloc, Am.wb0, Am.wb1, Am.wb2, Am.wb3, Am.wb4, Am.wb5, Am.wb6, Am.wb7, Am.wb8, Am.wb9, Am.reads, Am.quiet, Am.over, Nat.testBit, Nat.reduceShiftRight, Nat.reduceAnd, Nat.reduceBNe, Nat.reduceLeDiff, Nat.reduceAdd, Nat.reduceMul, Nat.reduceLT, Nat.reduceEqDiff, Nat.reduceSub, reduceCtorEq, ↓reduceIte, tyfacts]
  refine wpX_call (awake_ok HK) fun r H' ⟨hr, hH⟩ => ?_
  subst hr
  subst hH
  simp (maxSteps := 10000000) (disch := first | assumption | (simp only [tyfacts, Am.wd, Nat.reduceEqDiff, Nat.reduceLT, reduceCtorEq]; try omega; done) | omega) only [Am.wanted, Am.isAlloc, Am.wb0, Am.wb1, Am.wb2, Am.wb3, Am.wb4, Am.wb5, Am.wb6, Am.wb7, Am.wb8, Am.wb9, Am.reads, Am.quiet, Am.over, Nat.testBit, Nat.reduceShiftRight, Nat.reduceAnd, Nat.reduceBNe, Nat.reduceLeDiff, Nat.reduceAdd, Nat.reduceMul, Nat.reduceLT, Nat.reduceEqDiff, Nat.reduceSub, reduceCtorEq, ↓reduceIte, tyfacts]
  exact hxK
end Go.Proofs.Ytkjknmdnehknbaa.W
