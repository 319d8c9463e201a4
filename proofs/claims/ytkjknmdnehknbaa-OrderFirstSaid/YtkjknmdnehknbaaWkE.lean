import Derived.Test.YtkjknmdnehknbaaWkD
import Derived.Test.YtkjknmdnehknbaaOrd
set_option linter.unusedSimpArgs false
set_option linter.unusedVariables false
set_option maxRecDepth 8000
/- The document's answer for the order of transactions. No conditions. -/
namespace Go.Proofs.Ytkjknmdnehknbaa.W
open Go.Am Go.Am.Ord

theorem refCheck_ok {H : Heap} (wf : H.WF) {l : V} {ts : List Tr5} (hl : Sl H l 5 (ts.map Tr5.cells)) (hlen : ts.length < 1000000) :
    CallsTo T 23 [l] H fun v H' => v = .int .i64 (checkF ts) ∧ Ext H H' := by
  refine Am.calls_enter (T := T) rfl Try.func23 rfl (by simp only [Try.f23, List.length_cons, List.length_nil]; decide) ?_
  simp only [Try.f23]
  have L1 := hl.len
  simp (maxSteps := 10000000) (disch := first | assumption | (simp only [tyfacts, Am.wd, Nat.reduceEqDiff, Nat.reduceLT, reduceCtorEq]; try omega; done) | omega) only [Am.wanted, Am.isAlloc, Am.wb0, Am.wb1, Am.wb2, Am.wb3, Am.wb4, Am.wb5, Am.wb6, Am.wb7, Am.wb8, Am.wb9, Am.reads, Am.quiet, Am.over, Nat.testBit, Nat.reduceShiftRight, Nat.reduceAnd, Nat.reduceBNe, Nat.reduceLeDiff, Nat.reduceAdd, Nat.reduceMul, Nat.reduceLT, Nat.reduceEqDiff, Nat.reduceSub, reduceCtorEq, ↓reduceIte, tyfacts, L1]
  refine wpB_dec (fun h1 => ?_) (fun h1 => ?_)
  · simp (maxSteps := 10000000) (disch := first | assumption | (simp only [tyfacts, Am.wd, Nat.reduceEqDiff, Nat.reduceLT, reduceCtorEq]; try omega; done) | omega) only [Am.wanted, Am.isAlloc, Am.wb0, Am.wb1, Am.wb2, Am.wb3, Am.wb4, Am.wb5, Am.wb6, Am.wb7, Am.wb8, Am.wb9, Am.reads, Am.quiet, Am.over, Nat.testBit, Nat.reduceShiftRight, Nat.reduceAnd, Nat.reduceBNe, Nat.reduceLeDiff, Nat.reduceAdd, Nat.reduceMul, Nat.reduceLT, Nat.reduceEqDiff, Nat.reduceSub, reduceCtorEq, ↓reduceIte, tyfacts]
    exact ⟨by simp only [checkF]; rw [if_pos (by omega)], Ext.refl wf⟩
  simp (maxSteps := 10000000) (disch := first | assumption | (simp only [tyfacts, Am.wd, Nat.reduceEqDiff, Nat.reduceLT, reduceCtorEq]; try omega; done) | omega) only [Am.wanted, Am.isAlloc, Am.wb0, Am.wb1, Am.wb2, Am.wb3, Am.wb4, Am.wb5, Am.wb6, Am.wb7, Am.wb8, Am.wb9, Am.reads, Am.quiet, Am.over, Nat.testBit, Nat.reduceShiftRight, Nat.reduceAnd, Nat.reduceBNe, Nat.reduceLeDiff, Nat.reduceAdd, Nat.reduceMul, Nat.reduceLT, Nat.reduceEqDiff, Nat.reduceSub, reduceCtorEq, ↓reduceIte, tyfacts]
  have hnot : ¬ 4096 < ts.length := by omega
  refine wpK_loop_ind _ (fun i : Nat => ts.length - i) (fun i a H' => a.tmps.n = 32 ∧ a.defers = [] ∧ a.tmp 0 = l ∧ a.tmp 3 = .int .i64 i ∧ Ext H H' ∧ i ≤ ts.length ∧ ∀ j, (hj : j < ts.length) → j < i → ¬ (ts[j].b < 0 ∨ ts[j].c < ts[j].b)) 0 ?_ ?_
  · simp (maxSteps := 10000000) (disch := first | assumption | (simp only [tyfacts, Am.wd, Nat.reduceEqDiff, Nat.reduceLT, reduceCtorEq]; try omega; done) | omega) only [Am.wanted, Am.isAlloc, Am.wb0, Am.wb1, Am.wb2, Am.wb3, Am.wb4, Am.wb5, Am.wb6, Am.wb7, Am.wb8, Am.wb9, Am.reads, Am.quiet, Am.over, Nat.testBit, Nat.reduceShiftRight, Nat.reduceAnd, Nat.reduceBNe, Nat.reduceLeDiff, Nat.reduceAdd, Nat.reduceMul, Nat.reduceLT, Nat.reduceEqDiff, Nat.reduceSub, reduceCtorEq, ↓reduceIte, tyfacts]
    exact ⟨rfl, Ext.refl wf, by omega, fun j _ h => by omega⟩
  intro i a H1 ⟨hn, hd, h0, h3, hx, hi, hno⟩ ih
  have hl1 := hl.mono hx
  simp (maxSteps := 10000000) (disch := first | assumption | (simp only [tyfacts, Am.wd, Nat.reduceEqDiff, Nat.reduceLT, reduceCtorEq]; try omega; done) | omega) only [Am.wanted, Am.isAlloc, Am.wb0, Am.wb1, Am.wb2, Am.wb3, Am.wb4, Am.wb5, Am.wb6, Am.wb7, Am.wb8, Am.wb9, Am.reads, Am.quiet, Am.over, Nat.testBit, Nat.reduceShiftRight, Nat.reduceAnd, Nat.reduceBNe, Nat.reduceLeDiff, Nat.reduceAdd, Nat.reduceMul, Nat.reduceLT, Nat.reduceEqDiff, Nat.reduceSub, reduceCtorEq, ↓reduceIte, tyfacts, L1, h0, h3, hn]
  refine wpB_dec (fun h1 => ?_) (fun h1 => ?_)
  · have hj : i < ts.length := by omega
    simp (maxSteps := 10000000) (disch := first | assumption | (simp only [tyfacts, Am.wd, Nat.reduceEqDiff, Nat.reduceLT, reduceCtorEq]; try omega; done) | omega) only [Am.wanted, Am.isAlloc, Am.wb0, Am.wb1, Am.wb2, Am.wb3, Am.wb4, Am.wb5, Am.wb6, Am.wb7, Am.wb8, Am.wb9, Am.reads, Am.quiet, Am.over, Nat.testBit, Nat.reduceShiftRight, Nat.reduceAnd, Nat.reduceBNe, Nat.reduceLeDiff, Nat.reduceAdd, Nat.reduceMul, Nat.reduceLT, Nat.reduceEqDiff, Nat.reduceSub, reduceCtorEq, ↓reduceIte, tyfacts]
    refine Am.wpK_draw 19 [0, 1, 2, 3, 4, 5, 6, 7, 8, 9, 10, 11, 12, 13, 14, 15, 16, 17, 18] (hx).wf (by kernel_rfl) ?_
    have hx2 := (hx).keep 19
    generalize hH2 : Am.Heap.keep _ _ = H2
    replace hx2 : Am.Ext _ H2 := hH2 ▸ hx2
    have hl1 := hl.mono hx2
    simp (maxSteps := 10000000) (disch := first | assumption | (simp only [tyfacts, Am.wd, Nat.reduceEqDiff, Nat.reduceLT, reduceCtorEq]; try omega; done) | omega) only [Am.wanted, Am.isAlloc, Am.wb0, Am.wb1, Am.wb2, Am.wb3, Am.wb4, Am.wb5, Am.wb6, Am.wb7, Am.wb8, Am.wb9, Am.reads, Am.quiet, Am.over, Nat.testBit, Nat.reduceShiftRight, Nat.reduceAnd, Nat.reduceBNe, Nat.reduceLeDiff, Nat.reduceAdd, Nat.reduceMul, Nat.reduceLT, Nat.reduceEqDiff, Nat.reduceSub, reduceCtorEq, ↓reduceIte, tyfacts, h0, h3, hn, hl1.idx, hl1.isPtr, hl1.loadF, Tr5.cells]
    by_cases hb : ts[i].b < 0
    · simp (maxSteps := 10000000) (disch := first | assumption | (simp only [tyfacts, Am.wd, Nat.reduceEqDiff, Nat.reduceLT, reduceCtorEq]; try omega; done) | omega) only [Am.wanted, Am.isAlloc, Am.wb0, Am.wb1, Am.wb2, Am.wb3, Am.wb4, Am.wb5, Am.wb6, Am.wb7, Am.wb8, Am.wb9, Am.reads, Am.quiet, Am.over, Nat.testBit, Nat.reduceShiftRight, Nat.reduceAnd, Nat.reduceBNe, Nat.reduceLeDiff, Nat.reduceAdd, Nat.reduceMul, Nat.reduceLT, Nat.reduceEqDiff, Nat.reduceSub, reduceCtorEq, ↓reduceIte, tyfacts, h0, h3, hn, hd, hl1.idx, hl1.isPtr, hl1.loadF, Tr5.cells, hb]
      refine ⟨?_, hx2⟩
      rw [checkF, if_neg hnot, if_pos]
      exact List.any_eq_true.2 ⟨ts[i], List.getElem_mem hj, by simp [Tr5.bad, hb]⟩
    · simp (maxSteps := 10000000) (disch := first | assumption | (simp only [tyfacts, Am.wd, Nat.reduceEqDiff, Nat.reduceLT, reduceCtorEq]; try omega; done) | omega) only [Am.wanted, Am.isAlloc, Am.wb0, Am.wb1, Am.wb2, Am.wb3, Am.wb4, Am.wb5, Am.wb6, Am.wb7, Am.wb8, Am.wb9, Am.reads, Am.quiet, Am.over, Nat.testBit, Nat.reduceShiftRight, Nat.reduceAnd, Nat.reduceBNe, Nat.reduceLeDiff, Nat.reduceAdd, Nat.reduceMul, Nat.reduceLT, Nat.reduceEqDiff, Nat.reduceSub, reduceCtorEq, ↓reduceIte, tyfacts, h0, h3, hn, hd, hl1.idx, hl1.isPtr, hl1.loadF, Tr5.cells, hb]
      refine wpB_dec (fun hc => ?_) (fun hc => ?_)
      · simp (maxSteps := 10000000) (disch := first | assumption | (simp only [tyfacts, Am.wd, Nat.reduceEqDiff, Nat.reduceLT, reduceCtorEq]; try omega; done) | omega) only [Am.wanted, Am.isAlloc, Am.wb0, Am.wb1, Am.wb2, Am.wb3, Am.wb4, Am.wb5, Am.wb6, Am.wb7, Am.wb8, Am.wb9, Am.reads, Am.quiet, Am.over, Nat.testBit, Nat.reduceShiftRight, Nat.reduceAnd, Nat.reduceBNe, Nat.reduceLeDiff, Nat.reduceAdd, Nat.reduceMul, Nat.reduceLT, Nat.reduceEqDiff, Nat.reduceSub, reduceCtorEq, ↓reduceIte, tyfacts, h0, h3, hn, hd]
        refine ⟨?_, hx2⟩
        rw [checkF, if_neg hnot, if_pos]
        exact List.any_eq_true.2 ⟨ts[i], List.getElem_mem hj, by simp [Tr5.bad, hc]⟩
      · simp (maxSteps := 10000000) (disch := first | assumption | (simp only [tyfacts, Am.wd, Nat.reduceEqDiff, Nat.reduceLT, reduceCtorEq]; try omega; done) | omega) only [Am.wanted, Am.isAlloc, Am.wb0, Am.wb1, Am.wb2, Am.wb3, Am.wb4, Am.wb5, Am.wb6, Am.wb7, Am.wb8, Am.wb9, Am.reads, Am.quiet, Am.over, Nat.testBit, Nat.reduceShiftRight, Nat.reduceAnd, Nat.reduceBNe, Nat.reduceLeDiff, Nat.reduceAdd, Nat.reduceMul, Nat.reduceLT, Nat.reduceEqDiff, Nat.reduceSub, reduceCtorEq, ↓reduceIte, tyfacts, h0, h3, hn, hd]
        refine ih (i + 1) _ _ (by omega) ?_
        simp (maxSteps := 10000000) (disch := first | assumption | (simp only [tyfacts, Am.wd, Nat.reduceEqDiff, Nat.reduceLT, reduceCtorEq]; try omega; done) | omega) only [Am.wanted, Am.isAlloc, Am.wb0, Am.wb1, Am.wb2, Am.wb3, Am.wb4, Am.wb5, Am.wb6, Am.wb7, Am.wb8, Am.wb9, Am.reads, Am.quiet, Am.over, Nat.testBit, Nat.reduceShiftRight, Nat.reduceAnd, Nat.reduceBNe, Nat.reduceLeDiff, Nat.reduceAdd, Nat.reduceMul, Nat.reduceLT, Nat.reduceEqDiff, Nat.reduceSub, reduceCtorEq, ↓reduceIte, tyfacts, h0, hn, hd]
        refine ⟨?_, hx2, by omega, fun j hj' hlt => ?_⟩
        · simp
        · by_cases e : j = i
          · subst e; omega
          · exact hno j hj' (by omega)
  · simp (maxSteps := 10000000) (disch := first | assumption | (simp only [tyfacts, Am.wd, Nat.reduceEqDiff, Nat.reduceLT, reduceCtorEq]; try omega; done) | omega) only [Am.wanted, Am.isAlloc, Am.wb0, Am.wb1, Am.wb2, Am.wb3, Am.wb4, Am.wb5, Am.wb6, Am.wb7, Am.wb8, Am.wb9, Am.reads, Am.quiet, Am.over, Nat.testBit, Nat.reduceShiftRight, Nat.reduceAnd, Nat.reduceBNe, Nat.reduceLeDiff, Nat.reduceAdd, Nat.reduceMul, Nat.reduceLT, Nat.reduceEqDiff, Nat.reduceSub, reduceCtorEq, ↓reduceIte, tyfacts, hd, hn]
    refine ⟨?_, hx⟩
    rw [checkF, if_neg hnot, if_neg]
    simp only [List.any_eq_true, Tr5.bad, decide_eq_true_eq, not_exists, not_and]
    intro t ht
    obtain ⟨j, hj, rfl⟩ := List.mem_iff_getElem.1 ht
    exact hno j hj (by omega)

theorem refIn_ok {H : Heap} (wf : H.WF) {v : V} {xs : List Int} (hv : Sl H v 1 (xs.map cI)) (hlen : xs.length < 1000000000) (n : Int) :
    CallsTo T 35 [v, .int .i64 n] H fun r H' => r = .bool (decide (n ∈ xs)) ∧ Ext H H' := by
  refine Am.calls_enter (T := T) rfl Try.func35 rfl (by simp only [Try.f35, List.length_cons, List.length_nil]; decide) ?_
  simp only [Try.f35]
  have L := hv.len
  simp (maxSteps := 10000000) (disch := first | assumption | (simp only [tyfacts, Am.wd, Nat.reduceEqDiff, Nat.reduceLT, reduceCtorEq]; try omega; done) | omega) only [Am.wanted, Am.isAlloc, Am.wb0, Am.wb1, Am.wb2, Am.wb3, Am.wb4, Am.wb5, Am.wb6, Am.wb7, Am.wb8, Am.wb9, Am.reads, Am.quiet, Am.over, Nat.testBit, Nat.reduceShiftRight, Nat.reduceAnd, Nat.reduceBNe, Nat.reduceLeDiff, Nat.reduceAdd, Nat.reduceMul, Nat.reduceLT, Nat.reduceEqDiff, Nat.reduceSub, reduceCtorEq, ↓reduceIte, tyfacts]
  refine wpK_loop_ind _ (fun i : Nat => xs.length - i) (fun i a H' => a.tmps.n = 18 ∧ a.defers = [] ∧ a.tmp 0 = v ∧ a.tmp 1 = .int .i64 n ∧ a.tmp 5 = .int .i64 i ∧ Ext H H' ∧ i ≤ xs.length ∧ ∀ j, (hj : j < xs.length) → j < i → ¬ xs[j] = n) 0 ?_ ?_
  · simp (maxSteps := 10000000) (disch := first | assumption | (simp only [tyfacts, Am.wd, Nat.reduceEqDiff, Nat.reduceLT, reduceCtorEq]; try omega; done) | omega) only [Am.wanted, Am.isAlloc, Am.wb0, Am.wb1, Am.wb2, Am.wb3, Am.wb4, Am.wb5, Am.wb6, Am.wb7, Am.wb8, Am.wb9, Am.reads, Am.quiet, Am.over, Nat.testBit, Nat.reduceShiftRight, Nat.reduceAnd, Nat.reduceBNe, Nat.reduceLeDiff, Nat.reduceAdd, Nat.reduceMul, Nat.reduceLT, Nat.reduceEqDiff, Nat.reduceSub, reduceCtorEq, ↓reduceIte, tyfacts]
    exact ⟨rfl, Ext.refl wf, by omega, fun j _ h => by omega⟩
  intro i a H1 ⟨hn, hd, h0, h1, h5, hx, hi, hno⟩ ih
  have hv2 := hv.mono hx
  simp (maxSteps := 10000000) (disch := first | assumption | (simp only [tyfacts, Am.wd, Nat.reduceEqDiff, Nat.reduceLT, reduceCtorEq]; try omega; done) | omega) only [Am.wanted, Am.isAlloc, Am.wb0, Am.wb1, Am.wb2, Am.wb3, Am.wb4, Am.wb5, Am.wb6, Am.wb7, Am.wb8, Am.wb9, Am.reads, Am.quiet, Am.over, Nat.testBit, Nat.reduceShiftRight, Nat.reduceAnd, Nat.reduceBNe, Nat.reduceLeDiff, Nat.reduceAdd, Nat.reduceMul, Nat.reduceLT, Nat.reduceEqDiff, Nat.reduceSub, reduceCtorEq, ↓reduceIte, tyfacts, h0, h1, h5, hn, L]
  refine wpB_dec (fun hc => ?_) (fun hc => ?_)
  · have hj : i < xs.length := by omega
    simp (maxSteps := 10000000) (disch := first | assumption | (simp only [tyfacts, Am.wd, Nat.reduceEqDiff, Nat.reduceLT, reduceCtorEq]; try omega; done) | omega) only [Am.wanted, Am.isAlloc, Am.wb0, Am.wb1, Am.wb2, Am.wb3, Am.wb4, Am.wb5, Am.wb6, Am.wb7, Am.wb8, Am.wb9, Am.reads, Am.quiet, Am.over, Nat.testBit, Nat.reduceShiftRight, Nat.reduceAnd, Nat.reduceBNe, Nat.reduceLeDiff, Nat.reduceAdd, Nat.reduceMul, Nat.reduceLT, Nat.reduceEqDiff, Nat.reduceSub, reduceCtorEq, ↓reduceIte, tyfacts, h0, h1, h5, hn, hv2.idx, hv2.load1, cI]
    refine wpB_dec (fun he => ?_) (fun he => ?_)
    · simp (maxSteps := 10000000) (disch := first | assumption | (simp only [tyfacts, Am.wd, Nat.reduceEqDiff, Nat.reduceLT, reduceCtorEq]; try omega; done) | omega) only [Am.wanted, Am.isAlloc, Am.wb0, Am.wb1, Am.wb2, Am.wb3, Am.wb4, Am.wb5, Am.wb6, Am.wb7, Am.wb8, Am.wb9, Am.reads, Am.quiet, Am.over, Nat.testBit, Nat.reduceShiftRight, Nat.reduceAnd, Nat.reduceBNe, Nat.reduceLeDiff, Nat.reduceAdd, Nat.reduceMul, Nat.reduceLT, Nat.reduceEqDiff, Nat.reduceSub, reduceCtorEq, ↓reduceIte, tyfacts, hn, hd, h5]
      refine ⟨?_, hx⟩
      have hm : n ∈ xs := by rw [← he]; exact List.getElem_mem hj
      rw [decide_eq_true hm]
    · simp (maxSteps := 10000000) (disch := first | assumption | (simp only [tyfacts, Am.wd, Nat.reduceEqDiff, Nat.reduceLT, reduceCtorEq]; try omega; done) | omega) only [Am.wanted, Am.isAlloc, Am.wb0, Am.wb1, Am.wb2, Am.wb3, Am.wb4, Am.wb5, Am.wb6, Am.wb7, Am.wb8, Am.wb9, Am.reads, Am.quiet, Am.over, Nat.testBit, Nat.reduceShiftRight, Nat.reduceAnd, Nat.reduceBNe, Nat.reduceLeDiff, Nat.reduceAdd, Nat.reduceMul, Nat.reduceLT, Nat.reduceEqDiff, Nat.reduceSub, reduceCtorEq, ↓reduceIte, tyfacts, hn, hd, h5]
      refine ih (i + 1) _ _ (by omega) ?_
      simp (maxSteps := 10000000) (disch := first | assumption | (simp only [tyfacts, Am.wd, Nat.reduceEqDiff, Nat.reduceLT, reduceCtorEq]; try omega; done) | omega) only [Am.wanted, Am.isAlloc, Am.wb0, Am.wb1, Am.wb2, Am.wb3, Am.wb4, Am.wb5, Am.wb6, Am.wb7, Am.wb8, Am.wb9, Am.reads, Am.quiet, Am.over, Nat.testBit, Nat.reduceShiftRight, Nat.reduceAnd, Nat.reduceBNe, Nat.reduceLeDiff, Nat.reduceAdd, Nat.reduceMul, Nat.reduceLT, Nat.reduceEqDiff, Nat.reduceSub, reduceCtorEq, ↓reduceIte, tyfacts, hn, hd, h0, h1]
      refine ⟨by simp, hx, by omega, fun j hj' hlt => ?_⟩
      by_cases e : j = i
      · subst e; exact he
      · exact hno j hj' (by omega)
  · simp (maxSteps := 10000000) (disch := first | assumption | (simp only [tyfacts, Am.wd, Nat.reduceEqDiff, Nat.reduceLT, reduceCtorEq]; try omega; done) | omega) only [Am.wanted, Am.isAlloc, Am.wb0, Am.wb1, Am.wb2, Am.wb3, Am.wb4, Am.wb5, Am.wb6, Am.wb7, Am.wb8, Am.wb9, Am.reads, Am.quiet, Am.over, Nat.testBit, Nat.reduceShiftRight, Nat.reduceAnd, Nat.reduceBNe, Nat.reduceLeDiff, Nat.reduceAdd, Nat.reduceMul, Nat.reduceLT, Nat.reduceEqDiff, Nat.reduceSub, reduceCtorEq, ↓reduceIte, tyfacts, hn, hd]
    refine ⟨?_, hx⟩
    rw [decide_eq_false]
    intro hm
    obtain ⟨j, hj, e⟩ := List.mem_iff_getElem.1 hm
    exact hno j hj (by omega) e

theorem refPrecedes_ok {H : Heap} (wf : H.WF) {l : V} {ts : List Tr5} (hl : Sl H l 5 (ts.map Tr5.cells)) (hlen : ts.length < 1000000) (i k : Int) :
    CallsTo T 12 [l, .int .i64 i, .int .i64 k] H fun v H' => v = .tuple [.bool (precF ts i k).1, .int .i64 (precF ts i k).2] ∧ Ext H H' := by
  refine Am.calls_enter (T := T) rfl Try.func12 rfl (by simp only [Try.f12, List.length_cons, List.length_nil]; decide) ?_
  simp only [Try.f12]
  have L := hl.len
  simp (maxSteps := 10000000) (disch := first | assumption | (simp only [tyfacts, Am.wd, Nat.reduceEqDiff, Nat.reduceLT, reduceCtorEq]; try omega; done) | omega) only [Am.wanted, Am.isAlloc, Am.wb0, Am.wb1, Am.wb2, Am.wb3, Am.wb4, Am.wb5, Am.wb6, Am.wb7, Am.wb8, Am.wb9, Am.reads, Am.quiet, Am.over, Nat.testBit, Nat.reduceShiftRight, Nat.reduceAnd, Nat.reduceBNe, Nat.reduceLeDiff, Nat.reduceAdd, Nat.reduceMul, Nat.reduceLT, Nat.reduceEqDiff, Nat.reduceSub, reduceCtorEq, ↓reduceIte, tyfacts]
  refine wpX_call (refCheck_ok wf hl hlen) fun r H1 ⟨hr, hx⟩ => ?_
  subst hr
  simp (maxSteps := 10000000) (disch := first | assumption | (simp only [tyfacts, Am.wd, Nat.reduceEqDiff, Nat.reduceLT, reduceCtorEq]; try omega; done) | omega) only [Am.wanted, Am.isAlloc, Am.wb0, Am.wb1, Am.wb2, Am.wb3, Am.wb4, Am.wb5, Am.wb6, Am.wb7, Am.wb8, Am.wb9, Am.reads, Am.quiet, Am.over, Nat.testBit, Nat.reduceShiftRight, Nat.reduceAnd, Nat.reduceBNe, Nat.reduceLeDiff, Nat.reduceAdd, Nat.reduceMul, Nat.reduceLT, Nat.reduceEqDiff, Nat.reduceSub, reduceCtorEq, ↓reduceIte, tyfacts]
  refine wpB_dec (fun h1 => ?_) (fun h1 => ?_)
  · simp (maxSteps := 10000000) (disch := first | assumption | (simp only [tyfacts, Am.wd, Nat.reduceEqDiff, Nat.reduceLT, reduceCtorEq]; try omega; done) | omega) only [Am.wanted, Am.isAlloc, Am.wb0, Am.wb1, Am.wb2, Am.wb3, Am.wb4, Am.wb5, Am.wb6, Am.wb7, Am.wb8, Am.wb9, Am.reads, Am.quiet, Am.over, Nat.testBit, Nat.reduceShiftRight, Nat.reduceAnd, Nat.reduceBNe, Nat.reduceLeDiff, Nat.reduceAdd, Nat.reduceMul, Nat.reduceLT, Nat.reduceEqDiff, Nat.reduceSub, reduceCtorEq, ↓reduceIte, tyfacts]
    exact ⟨by rw [precF, if_pos h1], hx⟩
  have outR : ¬ (inR ts i && inR ts k) = true → precF ts i k = (false, 3) := fun h => by rw [precF, if_neg h1, if_neg h]
  by_cases a1 : i < 0
  · simp (maxSteps := 10000000) (disch := first | assumption | (simp only [tyfacts, Am.wd, Nat.reduceEqDiff, Nat.reduceLT, reduceCtorEq]; try omega; done) | omega) only [Am.wanted, Am.isAlloc, Am.wb0, Am.wb1, Am.wb2, Am.wb3, Am.wb4, Am.wb5, Am.wb6, Am.wb7, Am.wb8, Am.wb9, Am.reads, Am.quiet, Am.over, Nat.testBit, Nat.reduceShiftRight, Nat.reduceAnd, Nat.reduceBNe, Nat.reduceLeDiff, Nat.reduceAdd, Nat.reduceMul, Nat.reduceLT, Nat.reduceEqDiff, Nat.reduceSub, reduceCtorEq, ↓reduceIte, tyfacts, L, a1]
    exact ⟨by rw [outR (by simp [inR]; omega)], hx⟩
  by_cases a2 : (ts.length : Int) ≤ i
  · simp (maxSteps := 10000000) (disch := first | assumption | (simp only [tyfacts, Am.wd, Nat.reduceEqDiff, Nat.reduceLT, reduceCtorEq]; try omega; done) | omega) only [Am.wanted, Am.isAlloc, Am.wb0, Am.wb1, Am.wb2, Am.wb3, Am.wb4, Am.wb5, Am.wb6, Am.wb7, Am.wb8, Am.wb9, Am.reads, Am.quiet, Am.over, Nat.testBit, Nat.reduceShiftRight, Nat.reduceAnd, Nat.reduceBNe, Nat.reduceLeDiff, Nat.reduceAdd, Nat.reduceMul, Nat.reduceLT, Nat.reduceEqDiff, Nat.reduceSub, reduceCtorEq, ↓reduceIte, tyfacts, L, a1, a2]
    exact ⟨by rw [outR (by simp [inR]; omega)], hx⟩
  by_cases a3 : k < 0
  · simp (maxSteps := 10000000) (disch := first | assumption | (simp only [tyfacts, Am.wd, Nat.reduceEqDiff, Nat.reduceLT, reduceCtorEq]; try omega; done) | omega) only [Am.wanted, Am.isAlloc, Am.wb0, Am.wb1, Am.wb2, Am.wb3, Am.wb4, Am.wb5, Am.wb6, Am.wb7, Am.wb8, Am.wb9, Am.reads, Am.quiet, Am.over, Nat.testBit, Nat.reduceShiftRight, Nat.reduceAnd, Nat.reduceBNe, Nat.reduceLeDiff, Nat.reduceAdd, Nat.reduceMul, Nat.reduceLT, Nat.reduceEqDiff, Nat.reduceSub, reduceCtorEq, ↓reduceIte, tyfacts, L, a1, a2, a3]
    exact ⟨by rw [outR (by simp [inR]; omega)], hx⟩
  by_cases a4 : (ts.length : Int) ≤ k
  · simp (maxSteps := 10000000) (disch := first | assumption | (simp only [tyfacts, Am.wd, Nat.reduceEqDiff, Nat.reduceLT, reduceCtorEq]; try omega; done) | omega) only [Am.wanted, Am.isAlloc, Am.wb0, Am.wb1, Am.wb2, Am.wb3, Am.wb4, Am.wb5, Am.wb6, Am.wb7, Am.wb8, Am.wb9, Am.reads, Am.quiet, Am.over, Nat.testBit, Nat.reduceShiftRight, Nat.reduceAnd, Nat.reduceBNe, Nat.reduceLeDiff, Nat.reduceAdd, Nat.reduceMul, Nat.reduceLT, Nat.reduceEqDiff, Nat.reduceSub, reduceCtorEq, ↓reduceIte, tyfacts, L, a1, a2, a3, a4]
    exact ⟨by rw [outR (by simp [inR]; omega)], hx⟩
  simp (maxSteps := 10000000) (disch := first | assumption | (simp only [tyfacts, Am.wd, Nat.reduceEqDiff, Nat.reduceLT, reduceCtorEq]; try omega; done) | omega) only [Am.wanted, Am.isAlloc, Am.wb0, Am.wb1, Am.wb2, Am.wb3, Am.wb4, Am.wb5, Am.wb6, Am.wb7, Am.wb8, Am.wb9, Am.reads, Am.quiet, Am.over, Nat.testBit, Nat.reduceShiftRight, Nat.reduceAnd, Nat.reduceBNe, Nat.reduceLeDiff, Nat.reduceAdd, Nat.reduceMul, Nat.reduceLT, Nat.reduceEqDiff, Nat.reduceSub, reduceCtorEq, ↓reduceIte, tyfacts, L, a1, a2, a3, a4]
  refine Am.wpK_draw 13 [0, 1, 2, 3, 4, 5, 6, 7, 8, 9, 10, 11, 12] (hx).wf (by kernel_rfl) ?_
  have hx4 := (hx).keep 13
  generalize hH4 : Am.Heap.keep _ _ = H4
  replace hx4 : Am.Ext _ H4 := hH4 ▸ hx4
  have hl4 := hl.mono hx4
  have b1 : i.toNat < ts.length := by omega
  have b2 : k.toNat < ts.length := by omega
  simp (maxSteps := 10000000) (disch := first | assumption | (simp only [tyfacts, Am.wd, Nat.reduceEqDiff, Nat.reduceLT, reduceCtorEq]; try omega; done) | omega) only [Am.wanted, Am.isAlloc, Am.wb0, Am.wb1, Am.wb2, Am.wb3, Am.wb4, Am.wb5, Am.wb6, Am.wb7, Am.wb8, Am.wb9, Am.reads, Am.quiet, Am.over, Nat.testBit, Nat.reduceShiftRight, Nat.reduceAnd, Nat.reduceBNe, Nat.reduceLeDiff, Nat.reduceAdd, Nat.reduceMul, Nat.reduceLT, Nat.reduceEqDiff, Nat.reduceSub, reduceCtorEq, ↓reduceIte, tyfacts, hl4.idxI, hl4.isPtr, hl4.loadF, Tr5.cells]
  refine ⟨?_, hx4⟩
  rw [precF, if_neg h1, if_pos (by simp [inR]; omega), prec_eq b1 b2]

theorem pre_len_le {ts : List Tr5} {i k : Nat} (hi : i < ts.length) (hk : k ≤ ts.length) : (pre ts i k).length ≤ ts.length * ts.length :=
  Nat.le_trans (pre_prefix ts (ts.length - i) i k (by omega) hk (by omega)).length_le (pairs_length ts)

theorem refEdges_ok {H : Heap} (wf : H.WF) {l : V} {ts : List Tr5} (hl : Sl H l 5 (ts.map Tr5.cells)) (hlen : ts.length ≤ 1000) :
    CallsTo T 14 [l] H fun r H' => ∃ v, r = .tuple [v, .int .i64 (edgesF ts).2] ∧ Mine H.n H' v 2 ((edgesF ts).1.map cP) ∧ Ext H H' := by
  refine Am.calls_enter (T := T) rfl Try.func14 rfl (by simp only [Try.f14, List.length_cons, List.length_nil]; decide) ?_
  simp only [Try.f14]
  have L := hl.len
  simp (maxSteps := 10000000) (disch := first | assumption | (simp only [tyfacts, Am.wd, Nat.reduceEqDiff, Nat.reduceLT, reduceCtorEq]; try omega; done) | omega) only [Am.wanted, Am.isAlloc, Am.wb0, Am.wb1, Am.wb2, Am.wb3, Am.wb4, Am.wb5, Am.wb6, Am.wb7, Am.wb8, Am.wb9, Am.reads, Am.quiet, Am.over, Nat.testBit, Nat.reduceShiftRight, Nat.reduceAnd, Nat.reduceBNe, Nat.reduceLeDiff, Nat.reduceAdd, Nat.reduceMul, Nat.reduceLT, Nat.reduceEqDiff, Nat.reduceSub, reduceCtorEq, ↓reduceIte, tyfacts]
  refine wpX_call (refCheck_ok wf hl (by omega)) fun r H1 ⟨hr, hx⟩ => ?_
  subst hr
  simp (maxSteps := 10000000) (disch := first | assumption | (simp only [tyfacts, Am.wd, Nat.reduceEqDiff, Nat.reduceLT, reduceCtorEq]; try omega; done) | omega) only [Am.wanted, Am.isAlloc, Am.wb0, Am.wb1, Am.wb2, Am.wb3, Am.wb4, Am.wb5, Am.wb6, Am.wb7, Am.wb8, Am.wb9, Am.reads, Am.quiet, Am.over, Nat.testBit, Nat.reduceShiftRight, Nat.reduceAnd, Nat.reduceBNe, Nat.reduceLeDiff, Nat.reduceAdd, Nat.reduceMul, Nat.reduceLT, Nat.reduceEqDiff, Nat.reduceSub, reduceCtorEq, ↓reduceIte, tyfacts]
  refine wpB_dec (fun hc => ?_) (fun hc => ?_)
  · simp (maxSteps := 10000000) (disch := first | assumption | (simp only [tyfacts, Am.wd, Nat.reduceEqDiff, Nat.reduceLT, reduceCtorEq]; try omega; done) | omega) only [Am.wanted, Am.isAlloc, Am.wb0, Am.wb1, Am.wb2, Am.wb3, Am.wb4, Am.wb5, Am.wb6, Am.wb7, Am.wb8, Am.wb9, Am.reads, Am.quiet, Am.over, Nat.testBit, Nat.reduceShiftRight, Nat.reduceAnd, Nat.reduceBNe, Nat.reduceLeDiff, Nat.reduceAdd, Nat.reduceMul, Nat.reduceLT, Nat.reduceEqDiff, Nat.reduceSub, reduceCtorEq, ↓reduceIte, tyfacts]
    refine ⟨.nilSlice, by rw [edgesF, if_pos hc], ?_, hx⟩
    rw [edgesF, if_pos hc]; exact Mine.nil _ _ _
  have hc0 : checkF ts = 0 := by omega
  have hnn : ts.length * ts.length ≤ 1000 * 1000 := Nat.mul_le_mul hlen hlen
  simp (maxSteps := 10000000) (disch := first | assumption | (simp only [tyfacts, Am.wd, Nat.reduceEqDiff, Nat.reduceLT, reduceCtorEq]; try omega; done) | omega) only [Am.wanted, Am.isAlloc, Am.wb0, Am.wb1, Am.wb2, Am.wb3, Am.wb4, Am.wb5, Am.wb6, Am.wb7, Am.wb8, Am.wb9, Am.reads, Am.quiet, Am.over, Nat.testBit, Nat.reduceShiftRight, Nat.reduceAnd, Nat.reduceBNe, Nat.reduceLeDiff, Nat.reduceAdd, Nat.reduceMul, Nat.reduceLT, Nat.reduceEqDiff, Nat.reduceSub, reduceCtorEq, ↓reduceIte, tyfacts]
  refine wpK_loop_ind _ (fun i : Nat => ts.length - i) (fun i a H' => a.tmps.n = 46 ∧ a.defers = [] ∧ a.tmp 0 = l ∧ a.tmp 6 = .int .i64 i ∧ Mine H.n H' (a.tmp 5) 2 ((pre ts i 0).map cP) ∧ Ext H H' ∧ i ≤ ts.length) 0 ?_ ?_
  · simp (maxSteps := 10000000) (disch := first | assumption | (simp only [tyfacts, Am.wd, Nat.reduceEqDiff, Nat.reduceLT, reduceCtorEq]; try omega; done) | omega) only [Am.wanted, Am.isAlloc, Am.wb0, Am.wb1, Am.wb2, Am.wb3, Am.wb4, Am.wb5, Am.wb6, Am.wb7, Am.wb8, Am.wb9, Am.reads, Am.quiet, Am.over, Nat.testBit, Nat.reduceShiftRight, Nat.reduceAnd, Nat.reduceBNe, Nat.reduceLeDiff, Nat.reduceAdd, Nat.reduceMul, Nat.reduceLT, Nat.reduceEqDiff, Nat.reduceSub, reduceCtorEq, ↓reduceIte, tyfacts]
    exact ⟨rfl, Mine.nil _ _ _, hx, by omega⟩
  clear hx
  intro i a H2 ⟨hn, hd, h0, h6, hm, hx, hi⟩ ih
  generalize h5 : a.tmp 5 = v at hm
  simp (maxSteps := 10000000) (disch := first | assumption | (simp only [tyfacts, Am.wd, Nat.reduceEqDiff, Nat.reduceLT, reduceCtorEq]; try omega; done) | omega) only [Am.wanted, Am.isAlloc, Am.wb0, Am.wb1, Am.wb2, Am.wb3, Am.wb4, Am.wb5, Am.wb6, Am.wb7, Am.wb8, Am.wb9, Am.reads, Am.quiet, Am.over, Nat.testBit, Nat.reduceShiftRight, Nat.reduceAnd, Nat.reduceBNe, Nat.reduceLeDiff, Nat.reduceAdd, Nat.reduceMul, Nat.reduceLT, Nat.reduceEqDiff, Nat.reduceSub, reduceCtorEq, ↓reduceIte, tyfacts, h0, h6, hn, L]
  refine wpB_dec (fun hq => ?_) (fun hq => ?_)
  · have hj : i < ts.length := by omega
    simp (maxSteps := 10000000) (disch := first | assumption | (simp only [tyfacts, Am.wd, Nat.reduceEqDiff, Nat.reduceLT, reduceCtorEq]; try omega; done) | omega) only [Am.wanted, Am.isAlloc, Am.wb0, Am.wb1, Am.wb2, Am.wb3, Am.wb4, Am.wb5, Am.wb6, Am.wb7, Am.wb8, Am.wb9, Am.reads, Am.quiet, Am.over, Nat.testBit, Nat.reduceShiftRight, Nat.reduceAnd, Nat.reduceBNe, Nat.reduceLeDiff, Nat.reduceAdd, Nat.reduceMul, Nat.reduceLT, Nat.reduceEqDiff, Nat.reduceSub, reduceCtorEq, ↓reduceIte, tyfacts]
    refine wpK_loop_ind _ (fun k : Nat => ts.length - k) (fun k a H' => a.tmps.n = 46 ∧ a.defers = [] ∧ a.tmp 0 = l ∧ a.tmp 6 = .int .i64 i ∧ a.tmp 7 = .int .i64 k ∧ Mine H.n H' (a.tmp 5) 2 ((pre ts i k).map cP) ∧ Ext H H' ∧ k ≤ ts.length) 0 ?_ ?_
    · simp (maxSteps := 10000000) (disch := first | assumption | (simp only [tyfacts, Am.wd, Nat.reduceEqDiff, Nat.reduceLT, reduceCtorEq]; try omega; done) | omega) only [Am.wanted, Am.isAlloc, Am.wb0, Am.wb1, Am.wb2, Am.wb3, Am.wb4, Am.wb5, Am.wb6, Am.wb7, Am.wb8, Am.wb9, Am.reads, Am.quiet, Am.over, Nat.testBit, Nat.reduceShiftRight, Nat.reduceAnd, Nat.reduceBNe, Nat.reduceLeDiff, Nat.reduceAdd, Nat.reduceMul, Nat.reduceLT, Nat.reduceEqDiff, Nat.reduceSub, reduceCtorEq, ↓reduceIte, tyfacts, hn, hd, h0, h6, h5]
      exact ⟨rfl, hm, hx, by omega⟩
    clear hx hm hn hd h0 h6 h5
    intro k a H2 ⟨hn, hd, h0, h6, h7, hm, hx, hk⟩ ih2
    generalize h5 : a.tmp 5 = v at hm
    simp (maxSteps := 10000000) (disch := first | assumption | (simp only [tyfacts, Am.wd, Nat.reduceEqDiff, Nat.reduceLT, reduceCtorEq]; try omega; done) | omega) only [Am.wanted, Am.isAlloc, Am.wb0, Am.wb1, Am.wb2, Am.wb3, Am.wb4, Am.wb5, Am.wb6, Am.wb7, Am.wb8, Am.wb9, Am.reads, Am.quiet, Am.over, Nat.testBit, Nat.reduceShiftRight, Nat.reduceAnd, Nat.reduceBNe, Nat.reduceLeDiff, Nat.reduceAdd, Nat.reduceMul, Nat.reduceLT, Nat.reduceEqDiff, Nat.reduceSub, reduceCtorEq, ↓reduceIte, tyfacts, h0, h7, hn, L]
    refine wpB_dec (fun hq2 => ?_) (fun hq2 => ?_)
    · have hk2 : k < ts.length := by omega
      simp (maxSteps := 10000000) (disch := first | assumption | (simp only [tyfacts, Am.wd, Nat.reduceEqDiff, Nat.reduceLT, reduceCtorEq]; try omega; done) | omega) only [Am.wanted, Am.isAlloc, Am.wb0, Am.wb1, Am.wb2, Am.wb3, Am.wb4, Am.wb5, Am.wb6, Am.wb7, Am.wb8, Am.wb9, Am.reads, Am.quiet, Am.over, Nat.testBit, Nat.reduceShiftRight, Nat.reduceAnd, Nat.reduceBNe, Nat.reduceLeDiff, Nat.reduceAdd, Nat.reduceMul, Nat.reduceLT, Nat.reduceEqDiff, Nat.reduceSub, reduceCtorEq, ↓reduceIte, tyfacts]
      refine Am.wpK_draw 11 [0, 1, 2, 3, 4, 5, 6, 7, 8, 9, 10] (hx).wf (by kernel_rfl) ?_
      have hx3 := (hx).keep 11
      generalize hH3 : Am.Heap.keep _ _ = H3
      replace hx3 : Am.Ext _ H3 := hH3 ▸ hx3
      have z3 : Ext H2 H3 := by rw [← hH3]; exact (Ext.refl hx.wf).keep 11
      have hl3 := hl.mono hx3
      have hm3 := hm.mono z3
      have pe := prec_eq hj hk2
      simp (maxSteps := 10000000) (disch := first | assumption | (simp only [tyfacts, Am.wd, Nat.reduceEqDiff, Nat.reduceLT, reduceCtorEq]; try omega; done) | omega) only [Am.wanted, Am.isAlloc, Am.wb0, Am.wb1, Am.wb2, Am.wb3, Am.wb4, Am.wb5, Am.wb6, Am.wb7, Am.wb8, Am.wb9, Am.reads, Am.quiet, Am.over, Nat.testBit, Nat.reduceShiftRight, Nat.reduceAnd, Nat.reduceBNe, Nat.reduceLeDiff, Nat.reduceAdd, Nat.reduceMul, Nat.reduceLT, Nat.reduceEqDiff, Nat.reduceSub, reduceCtorEq, ↓reduceIte, tyfacts, h0, h6, h7, hn, hl3.idx, hl3.isPtr, hl3.loadF, Tr5.cells]
      refine wpB_dec (fun he => ?_) (fun he => ?_)
      · have ha : appOk T 30 30 = some (2, 16) := by simp only [tyfacts]
        have pl := pre_len_le hj hk
        have hap := append_one hm3 hx3.wf hx3.n (k := H3.n) rfl ha (f := cP (i, k)) rfl rfl (by simp; omega) (by simp; omega)
        obtain ⟨v', H4, p1, p2, p3, p4⟩ := hap
        simp only [cP] at p1
        simp (maxSteps := 10000000) (disch := first | assumption | (simp only [tyfacts, Am.wd, Nat.reduceEqDiff, Nat.reduceLT, reduceCtorEq]; try omega; done) | omega) only [Am.wanted, Am.isAlloc, Am.wb0, Am.wb1, Am.wb2, Am.wb3, Am.wb4, Am.wb5, Am.wb6, Am.wb7, Am.wb8, Am.wb9, Am.reads, Am.quiet, Am.over, Nat.testBit, Nat.reduceShiftRight, Nat.reduceAnd, Nat.reduceBNe, Nat.reduceLeDiff, Nat.reduceAdd, Nat.reduceMul, Nat.reduceLT, Nat.reduceEqDiff, Nat.reduceSub, reduceCtorEq, ↓reduceIte, tyfacts, h5, h6, h7, hn, p1]
        refine ih2 (k + 1) _ _ (by omega) ?_
        simp (maxSteps := 10000000) (disch := first | assumption | (simp only [tyfacts, Am.wd, Nat.reduceEqDiff, Nat.reduceLT, reduceCtorEq]; try omega; done) | omega) only [Am.wanted, Am.isAlloc, Am.wb0, Am.wb1, Am.wb2, Am.wb3, Am.wb4, Am.wb5, Am.wb6, Am.wb7, Am.wb8, Am.wb9, Am.reads, Am.quiet, Am.over, Nat.testBit, Nat.reduceShiftRight, Nat.reduceAnd, Nat.reduceBNe, Nat.reduceLeDiff, Nat.reduceAdd, Nat.reduceMul, Nat.reduceLT, Nat.reduceEqDiff, Nat.reduceSub, reduceCtorEq, ↓reduceIte, tyfacts, hn, hd, h0, h6]
        refine ⟨by simp, ?_, hx3.thenB p3 fun m h => hm3.ge h, by omega⟩
        rw [pre_succ, if_pos (by rw [pe]; simpa using he), List.map_append]; exact p2
      · simp (maxSteps := 10000000) (disch := first | assumption | (simp only [tyfacts, Am.wd, Nat.reduceEqDiff, Nat.reduceLT, reduceCtorEq]; try omega; done) | omega) only [Am.wanted, Am.isAlloc, Am.wb0, Am.wb1, Am.wb2, Am.wb3, Am.wb4, Am.wb5, Am.wb6, Am.wb7, Am.wb8, Am.wb9, Am.reads, Am.quiet, Am.over, Nat.testBit, Nat.reduceShiftRight, Nat.reduceAnd, Nat.reduceBNe, Nat.reduceLeDiff, Nat.reduceAdd, Nat.reduceMul, Nat.reduceLT, Nat.reduceEqDiff, Nat.reduceSub, reduceCtorEq, ↓reduceIte, tyfacts, h5, h6, h7, hn]
        refine ih2 (k + 1) _ _ (by omega) ?_
        simp (maxSteps := 10000000) (disch := first | assumption | (simp only [tyfacts, Am.wd, Nat.reduceEqDiff, Nat.reduceLT, reduceCtorEq]; try omega; done) | omega) only [Am.wanted, Am.isAlloc, Am.wb0, Am.wb1, Am.wb2, Am.wb3, Am.wb4, Am.wb5, Am.wb6, Am.wb7, Am.wb8, Am.wb9, Am.reads, Am.quiet, Am.over, Nat.testBit, Nat.reduceShiftRight, Nat.reduceAnd, Nat.reduceBNe, Nat.reduceLeDiff, Nat.reduceAdd, Nat.reduceMul, Nat.reduceLT, Nat.reduceEqDiff, Nat.reduceSub, reduceCtorEq, ↓reduceIte, tyfacts, hn, hd, h0, h6, h5]
        refine ⟨by simp, ?_, hx3, by omega⟩
        rw [pre_succ, if_neg (by rw [pe]; simpa using he), List.append_nil]; exact hm3
    · have hke : k = ts.length := by omega
      subst hke
      have pl := pre_len_le hj hk
      have Lv := hm.len
      simp (maxSteps := 10000000) (disch := first | assumption | (simp only [tyfacts, Am.wd, Nat.reduceEqDiff, Nat.reduceLT, reduceCtorEq]; try omega; done) | omega) only [Am.wanted, Am.isAlloc, Am.wb0, Am.wb1, Am.wb2, Am.wb3, Am.wb4, Am.wb5, Am.wb6, Am.wb7, Am.wb8, Am.wb9, Am.reads, Am.quiet, Am.over, Nat.testBit, Nat.reduceShiftRight, Nat.reduceAnd, Nat.reduceBNe, Nat.reduceLeDiff, Nat.reduceAdd, Nat.reduceMul, Nat.reduceLT, Nat.reduceEqDiff, Nat.reduceSub, reduceCtorEq, ↓reduceIte, tyfacts, h5, hn, Lv]
      refine wpB_dec (fun hbig => by omega) (fun hbig => ?_)
      simp (maxSteps := 10000000) (disch := first | assumption | (simp only [tyfacts, Am.wd, Nat.reduceEqDiff, Nat.reduceLT, reduceCtorEq]; try omega; done) | omega) only [Am.wanted, Am.isAlloc, Am.wb0, Am.wb1, Am.wb2, Am.wb3, Am.wb4, Am.wb5, Am.wb6, Am.wb7, Am.wb8, Am.wb9, Am.reads, Am.quiet, Am.over, Nat.testBit, Nat.reduceShiftRight, Nat.reduceAnd, Nat.reduceBNe, Nat.reduceLeDiff, Nat.reduceAdd, Nat.reduceMul, Nat.reduceLT, Nat.reduceEqDiff, Nat.reduceSub, reduceCtorEq, ↓reduceIte, tyfacts, h6, hn]
      refine ih (i + 1) _ _ (by omega) ?_
      simp (maxSteps := 10000000) (disch := first | assumption | (simp only [tyfacts, Am.wd, Nat.reduceEqDiff, Nat.reduceLT, reduceCtorEq]; try omega; done) | omega) only [Am.wanted, Am.isAlloc, Am.wb0, Am.wb1, Am.wb2, Am.wb3, Am.wb4, Am.wb5, Am.wb6, Am.wb7, Am.wb8, Am.wb9, Am.reads, Am.quiet, Am.over, Nat.testBit, Nat.reduceShiftRight, Nat.reduceAnd, Nat.reduceBNe, Nat.reduceLeDiff, Nat.reduceAdd, Nat.reduceMul, Nat.reduceLT, Nat.reduceEqDiff, Nat.reduceSub, reduceCtorEq, ↓reduceIte, tyfacts, hn, hd, h0, h5]
      refine ⟨by simp, ?_, hx, by omega⟩
      rw [← pre_row]; exact hm
  · have : i = ts.length := by omega
    subst this
    simp (maxSteps := 10000000) (disch := first | assumption | (simp only [tyfacts, Am.wd, Nat.reduceEqDiff, Nat.reduceLT, reduceCtorEq]; try omega; done) | omega) only [Am.wanted, Am.isAlloc, Am.wb0, Am.wb1, Am.wb2, Am.wb3, Am.wb4, Am.wb5, Am.wb6, Am.wb7, Am.wb8, Am.wb9, Am.reads, Am.quiet, Am.over, Nat.testBit, Nat.reduceShiftRight, Nat.reduceAnd, Nat.reduceBNe, Nat.reduceLeDiff, Nat.reduceAdd, Nat.reduceMul, Nat.reduceLT, Nat.reduceEqDiff, Nat.reduceSub, reduceCtorEq, ↓reduceIte, tyfacts, hn, hd, h5]
    refine ⟨v, by rw [edgesF, if_neg (by omega)], ?_, hx⟩
    rw [edgesF, if_neg (by omega), ← pre_all]; exact hm
end Go.Proofs.Ytkjknmdnehknbaa.W

/- The document's answer: which beginnings keep time. No conditions. -/
namespace Go.Proofs.Ytkjknmdnehknbaa.W
open Go.Am Go.Am.Ord

theorem nodup_take {xs : List Int} (h : ∀ j, (hj : j < xs.length) → ¬ xs[j] ∈ xs.take j) : xs.Nodup := by
  rw [List.nodup_iff_pairwise_ne, List.pairwise_iff_getElem]
  intro i j hi hj hij e
  exact h j hj (by rw [← e, List.mem_take_iff_getElem]; exact ⟨i, by omega, rfl⟩)
theorem not_nodup_take {xs : List Int} {j : Nat} (hj : j < xs.length) (h : xs[j] ∈ xs.take j) : ¬ xs.Nodup := by
  intro hn
  rw [List.nodup_iff_pairwise_ne, List.pairwise_iff_getElem] at hn
  rw [List.mem_take_iff_getElem] at h
  obtain ⟨i, hi, e⟩ := h
  exact hn i j (by omega) hj (by omega) e

theorem refKeeps_ok {H : Heap} (wf : H.WF) {l o : V} {ts : List Tr5} {xs : List Int} (hl : Sl H l 5 (ts.map Tr5.cells)) (ho : Sl H o 1 (xs.map cI)) (hlen : ts.length < 1000000) (hxs : xs.length < 1000000) :
    CallsTo T 25 [l, o] H fun r H' => r = .int .i64 (keepsF ts xs) ∧ Ext H H' := by
  refine Am.calls_enter (T := T) rfl Try.func25 rfl (by simp only [Try.f25, List.length_cons, List.length_nil]; decide) ?_
  simp only [Try.f25]
  have L := hl.len
  have LO := ho.len
  simp (maxSteps := 10000000) (disch := first | assumption | (simp only [tyfacts, Am.wd, Nat.reduceEqDiff, Nat.reduceLT, reduceCtorEq]; try omega; done) | omega) only [Am.wanted, Am.isAlloc, Am.wb0, Am.wb1, Am.wb2, Am.wb3, Am.wb4, Am.wb5, Am.wb6, Am.wb7, Am.wb8, Am.wb9, Am.reads, Am.quiet, Am.over, Nat.testBit, Nat.reduceShiftRight, Nat.reduceAnd, Nat.reduceBNe, Nat.reduceLeDiff, Nat.reduceAdd, Nat.reduceMul, Nat.reduceLT, Nat.reduceEqDiff, Nat.reduceSub, reduceCtorEq, ↓reduceIte, tyfacts]
  refine wpX_call (refCheck_ok wf hl (by omega)) fun r H1 ⟨hr, hx⟩ => ?_
  subst hr
  simp (maxSteps := 10000000) (disch := first | assumption | (simp only [tyfacts, Am.wd, Nat.reduceEqDiff, Nat.reduceLT, reduceCtorEq]; try omega; done) | omega) only [Am.wanted, Am.isAlloc, Am.wb0, Am.wb1, Am.wb2, Am.wb3, Am.wb4, Am.wb5, Am.wb6, Am.wb7, Am.wb8, Am.wb9, Am.reads, Am.quiet, Am.over, Nat.testBit, Nat.reduceShiftRight, Nat.reduceAnd, Nat.reduceBNe, Nat.reduceLeDiff, Nat.reduceAdd, Nat.reduceMul, Nat.reduceLT, Nat.reduceEqDiff, Nat.reduceSub, reduceCtorEq, ↓reduceIte, tyfacts]
  refine wpB_dec (fun hc => ?_) (fun hc => ?_)
  · simp (maxSteps := 10000000) (disch := first | assumption | (simp only [tyfacts, Am.wd, Nat.reduceEqDiff, Nat.reduceLT, reduceCtorEq]; try omega; done) | omega) only [Am.wanted, Am.isAlloc, Am.wb0, Am.wb1, Am.wb2, Am.wb3, Am.wb4, Am.wb5, Am.wb6, Am.wb7, Am.wb8, Am.wb9, Am.reads, Am.quiet, Am.over, Nat.testBit, Nat.reduceShiftRight, Nat.reduceAnd, Nat.reduceBNe, Nat.reduceLeDiff, Nat.reduceAdd, Nat.reduceMul, Nat.reduceLT, Nat.reduceEqDiff, Nat.reduceSub, reduceCtorEq, ↓reduceIte, tyfacts]
    exact ⟨by rw [keepsF, if_pos hc], hx⟩
  have hc0 : checkF ts = 0 := by omega
  simp (maxSteps := 10000000) (disch := first | assumption | (simp only [tyfacts, Am.wd, Nat.reduceEqDiff, Nat.reduceLT, reduceCtorEq]; try omega; done) | omega) only [Am.wanted, Am.isAlloc, Am.wb0, Am.wb1, Am.wb2, Am.wb3, Am.wb4, Am.wb5, Am.wb6, Am.wb7, Am.wb8, Am.wb9, Am.reads, Am.quiet, Am.over, Nat.testBit, Nat.reduceShiftRight, Nat.reduceAnd, Nat.reduceBNe, Nat.reduceLeDiff, Nat.reduceAdd, Nat.reduceMul, Nat.reduceLT, Nat.reduceEqDiff, Nat.reduceSub, reduceCtorEq, ↓reduceIte, tyfacts]
  refine wpK_loop_ind _ (fun i : Nat => xs.length - i) (fun i a H' => a.tmps.n = 83 ∧ a.defers = [] ∧ a.tmp 0 = l ∧ a.tmp 1 = o ∧ a.tmp 6 = .int .i64 i ∧ Ext H H' ∧ i ≤ xs.length ∧ ∀ j, (hj : j < xs.length) → j < i → inR ts xs[j] = true) 0 ?_ ?_
  · simp (maxSteps := 10000000) (disch := first | assumption | (simp only [tyfacts, Am.wd, Nat.reduceEqDiff, Nat.reduceLT, reduceCtorEq]; try omega; done) | omega) only [Am.wanted, Am.isAlloc, Am.wb0, Am.wb1, Am.wb2, Am.wb3, Am.wb4, Am.wb5, Am.wb6, Am.wb7, Am.wb8, Am.wb9, Am.reads, Am.quiet, Am.over, Nat.testBit, Nat.reduceShiftRight, Nat.reduceAnd, Nat.reduceBNe, Nat.reduceLeDiff, Nat.reduceAdd, Nat.reduceMul, Nat.reduceLT, Nat.reduceEqDiff, Nat.reduceSub, reduceCtorEq, ↓reduceIte, tyfacts]
    exact ⟨rfl, hx, by omega, fun j _ h => by omega⟩
  clear hx
  intro i a H1 ⟨hn, hd, h0, h1, h6, hx, hi, hno⟩ ih
  have ho2 := ho.mono hx
  simp (maxSteps := 10000000) (disch := first | assumption | (simp only [tyfacts, Am.wd, Nat.reduceEqDiff, Nat.reduceLT, reduceCtorEq]; try omega; done) | omega) only [Am.wanted, Am.isAlloc, Am.wb0, Am.wb1, Am.wb2, Am.wb3, Am.wb4, Am.wb5, Am.wb6, Am.wb7, Am.wb8, Am.wb9, Am.reads, Am.quiet, Am.over, Nat.testBit, Nat.reduceShiftRight, Nat.reduceAnd, Nat.reduceBNe, Nat.reduceLeDiff, Nat.reduceAdd, Nat.reduceMul, Nat.reduceLT, Nat.reduceEqDiff, Nat.reduceSub, reduceCtorEq, ↓reduceIte, tyfacts, h1, h6, hn, LO]
  refine wpB_dec (fun hq => ?_) (fun hq => ?_)
  · have hj : i < xs.length := by omega
    have bad : inR ts xs[i] = false → keepsF ts xs = 3 := fun h => by
      rw [keepsF, if_neg (by omega), if_pos]
      exact List.any_eq_true.2 ⟨_, List.getElem_mem hj, by simp [h]⟩
    by_cases a1 : xs[i] < 0
    · simp (maxSteps := 10000000) (disch := first | assumption | (simp only [tyfacts, Am.wd, Nat.reduceEqDiff, Nat.reduceLT, reduceCtorEq]; try omega; done) | omega) only [Am.wanted, Am.isAlloc, Am.wb0, Am.wb1, Am.wb2, Am.wb3, Am.wb4, Am.wb5, Am.wb6, Am.wb7, Am.wb8, Am.wb9, Am.reads, Am.quiet, Am.over, Nat.testBit, Nat.reduceShiftRight, Nat.reduceAnd, Nat.reduceBNe, Nat.reduceLeDiff, Nat.reduceAdd, Nat.reduceMul, Nat.reduceLT, Nat.reduceEqDiff, Nat.reduceSub, reduceCtorEq, ↓reduceIte, tyfacts, h0, h1, h6, hn, hd, LO, L, ho2.idx, ho2.load1, cI, a1]
      exact ⟨by rw [bad (by simp [inR]; omega)], hx⟩
    by_cases a2 : (ts.length : Int) ≤ xs[i]
    · simp (maxSteps := 10000000) (disch := first | assumption | (simp only [tyfacts, Am.wd, Nat.reduceEqDiff, Nat.reduceLT, reduceCtorEq]; try omega; done) | omega) only [Am.wanted, Am.isAlloc, Am.wb0, Am.wb1, Am.wb2, Am.wb3, Am.wb4, Am.wb5, Am.wb6, Am.wb7, Am.wb8, Am.wb9, Am.reads, Am.quiet, Am.over, Nat.testBit, Nat.reduceShiftRight, Nat.reduceAnd, Nat.reduceBNe, Nat.reduceLeDiff, Nat.reduceAdd, Nat.reduceMul, Nat.reduceLT, Nat.reduceEqDiff, Nat.reduceSub, reduceCtorEq, ↓reduceIte, tyfacts, h0, h1, h6, hn, hd, LO, L, ho2.idx, ho2.load1, cI, a1, a2]
      exact ⟨by rw [bad (by simp [inR]; omega)], hx⟩
    simp (maxSteps := 10000000) (disch := first | assumption | (simp only [tyfacts, Am.wd, Nat.reduceEqDiff, Nat.reduceLT, reduceCtorEq]; try omega; done) | omega) only [Am.wanted, Am.isAlloc, Am.wb0, Am.wb1, Am.wb2, Am.wb3, Am.wb4, Am.wb5, Am.wb6, Am.wb7, Am.wb8, Am.wb9, Am.reads, Am.quiet, Am.over, Nat.testBit, Nat.reduceShiftRight, Nat.reduceAnd, Nat.reduceBNe, Nat.reduceLeDiff, Nat.reduceAdd, Nat.reduceMul, Nat.reduceLT, Nat.reduceEqDiff, Nat.reduceSub, reduceCtorEq, ↓reduceIte, tyfacts, h0, h1, h6, hn, hd, LO, L, ho2.idx, ho2.load1, cI, a1, a2]
    refine ih (i + 1) _ _ (by omega) ?_
    simp (maxSteps := 10000000) (disch := first | assumption | (simp only [tyfacts, Am.wd, Nat.reduceEqDiff, Nat.reduceLT, reduceCtorEq]; try omega; done) | omega) only [Am.wanted, Am.isAlloc, Am.wb0, Am.wb1, Am.wb2, Am.wb3, Am.wb4, Am.wb5, Am.wb6, Am.wb7, Am.wb8, Am.wb9, Am.reads, Am.quiet, Am.over, Nat.testBit, Nat.reduceShiftRight, Nat.reduceAnd, Nat.reduceBNe, Nat.reduceLeDiff, Nat.reduceAdd, Nat.reduceMul, Nat.reduceLT, Nat.reduceEqDiff, Nat.reduceSub, reduceCtorEq, ↓reduceIte, tyfacts, hn, hd, h0, h1]
    refine ⟨by simp, hx, by omega, fun j hj' hlt => ?_⟩
    by_cases e : j = i
    · subst e; simp [inR]; omega
    · exact hno j hj' (by omega)
  have hall : ∀ j, (hj : j < xs.length) → inR ts xs[j] = true := fun j hj => hno j hj (by omega)
  have hany : ¬ (xs.any fun i => !inR ts i) = true := by
    intro h
    obtain ⟨x, hx, h2⟩ := List.any_eq_true.1 h
    obtain ⟨j, hj, rfl⟩ := List.mem_iff_getElem.1 hx
    rw [hall j hj] at h2; cases h2
  clear hno hq hi
  simp (maxSteps := 10000000) (disch := first | assumption | (simp only [tyfacts, Am.wd, Nat.reduceEqDiff, Nat.reduceLT, reduceCtorEq]; try omega; done) | omega) only [Am.wanted, Am.isAlloc, Am.wb0, Am.wb1, Am.wb2, Am.wb3, Am.wb4, Am.wb5, Am.wb6, Am.wb7, Am.wb8, Am.wb9, Am.reads, Am.quiet, Am.over, Nat.testBit, Nat.reduceShiftRight, Nat.reduceAnd, Nat.reduceBNe, Nat.reduceLeDiff, Nat.reduceAdd, Nat.reduceMul, Nat.reduceLT, Nat.reduceEqDiff, Nat.reduceSub, reduceCtorEq, ↓reduceIte, tyfacts, hn]
  refine wpK_loop_ind _ (fun i : Nat => xs.length - i) (fun i a H' => a.tmps.n = 83 ∧ a.defers = [] ∧ a.tmp 0 = l ∧ a.tmp 1 = o ∧ a.tmp 7 = .int .i64 i ∧ Ext H H' ∧ i ≤ xs.length ∧ ∀ j, (hj : j < xs.length) → j < i → ¬ xs[j] ∈ xs.take j) 0 ?_ ?_
  · simp (maxSteps := 10000000) (disch := first | assumption | (simp only [tyfacts, Am.wd, Nat.reduceEqDiff, Nat.reduceLT, reduceCtorEq]; try omega; done) | omega) only [Am.wanted, Am.isAlloc, Am.wb0, Am.wb1, Am.wb2, Am.wb3, Am.wb4, Am.wb5, Am.wb6, Am.wb7, Am.wb8, Am.wb9, Am.reads, Am.quiet, Am.over, Nat.testBit, Nat.reduceShiftRight, Nat.reduceAnd, Nat.reduceBNe, Nat.reduceLeDiff, Nat.reduceAdd, Nat.reduceMul, Nat.reduceLT, Nat.reduceEqDiff, Nat.reduceSub, reduceCtorEq, ↓reduceIte, tyfacts, hn, hd, h0, h1]
    exact ⟨rfl, hx, by omega, fun j _ h => by omega⟩
  clear hx hn hd h0 h1 h6 ho2 ih i a H1
  intro i a H1 ⟨hn, hd, h0, h1, h7, hx, hi, hno⟩ ih
  simp (maxSteps := 10000000) (disch := first | assumption | (simp only [tyfacts, Am.wd, Nat.reduceEqDiff, Nat.reduceLT, reduceCtorEq]; try omega; done) | omega) only [Am.wanted, Am.isAlloc, Am.wb0, Am.wb1, Am.wb2, Am.wb3, Am.wb4, Am.wb5, Am.wb6, Am.wb7, Am.wb8, Am.wb9, Am.reads, Am.quiet, Am.over, Nat.testBit, Nat.reduceShiftRight, Nat.reduceAnd, Nat.reduceBNe, Nat.reduceLeDiff, Nat.reduceAdd, Nat.reduceMul, Nat.reduceLT, Nat.reduceEqDiff, Nat.reduceSub, reduceCtorEq, ↓reduceIte, tyfacts, h1, h7, hn, LO]
  refine wpB_dec (fun hq => ?_) (fun hq => ?_)
  · have hj : i < xs.length := by omega
    simp (maxSteps := 10000000) (disch := first | assumption | (simp only [tyfacts, Am.wd, Nat.reduceEqDiff, Nat.reduceLT, reduceCtorEq]; try omega; done) | omega) only [Am.wanted, Am.isAlloc, Am.wb0, Am.wb1, Am.wb2, Am.wb3, Am.wb4, Am.wb5, Am.wb6, Am.wb7, Am.wb8, Am.wb9, Am.reads, Am.quiet, Am.over, Nat.testBit, Nat.reduceShiftRight, Nat.reduceAnd, Nat.reduceBNe, Nat.reduceLeDiff, Nat.reduceAdd, Nat.reduceMul, Nat.reduceLT, Nat.reduceEqDiff, Nat.reduceSub, reduceCtorEq, ↓reduceIte, tyfacts]
    refine Am.wpK_draw 8 [0, 1, 2, 3, 4, 5, 6, 7] (hx).wf (by kernel_rfl) ?_
    have hx2 := (hx).keep 8
    generalize hH2 : Am.Heap.keep _ _ = H2
    replace hx2 : Am.Ext _ H2 := hH2 ▸ hx2
    have ho2 := ho.mono hx2
    obtain ⟨u, s1, s2⟩ := ho2.slice (T := T) (t := 22) (by simp only [tyfacts]) (lo := none) (hi := some (.int .i64 i)) (m := 0) (n := i) (optNat_none _) (optNat_int _ _ _) (by omega) (by simp; omega)
    rw [List.drop_zero, ← List.map_take] at s2
    simp (maxSteps := 10000000) (disch := first | assumption | (simp only [tyfacts, Am.wd, Nat.reduceEqDiff, Nat.reduceLT, reduceCtorEq]; try omega; done) | omega) only [Am.wanted, Am.isAlloc, Am.wb0, Am.wb1, Am.wb2, Am.wb3, Am.wb4, Am.wb5, Am.wb6, Am.wb7, Am.wb8, Am.wb9, Am.reads, Am.quiet, Am.over, Nat.testBit, Nat.reduceShiftRight, Nat.reduceAnd, Nat.reduceBNe, Nat.reduceLeDiff, Nat.reduceAdd, Nat.reduceMul, Nat.reduceLT, Nat.reduceEqDiff, Nat.reduceSub, reduceCtorEq, ↓reduceIte, tyfacts, h0, h1, h7, hn, s1, ho2.idx, ho2.load1, cI]
    refine wpSX_call (refIn_ok hx2.wf s2 (by simp; omega) xs[i]) fun r H3 ⟨hr, hx3⟩ => ?_
    subst hr
    have hx3 := hx2.trans hx3
    simp (maxSteps := 10000000) (disch := first | assumption | (simp only [tyfacts, Am.wd, Nat.reduceEqDiff, Nat.reduceLT, reduceCtorEq]; try omega; done) | omega) only [Am.wanted, Am.isAlloc, Am.wb0, Am.wb1, Am.wb2, Am.wb3, Am.wb4, Am.wb5, Am.wb6, Am.wb7, Am.wb8, Am.wb9, Am.reads, Am.quiet, Am.over, Nat.testBit, Nat.reduceShiftRight, Nat.reduceAnd, Nat.reduceBNe, Nat.reduceLeDiff, Nat.reduceAdd, Nat.reduceMul, Nat.reduceLT, Nat.reduceEqDiff, Nat.reduceSub, reduceCtorEq, ↓reduceIte, tyfacts, hn]
    refine wpB_dec (fun he => ?_) (fun he => ?_)
    · simp (maxSteps := 10000000) (disch := first | assumption | (simp only [tyfacts, Am.wd, Nat.reduceEqDiff, Nat.reduceLT, reduceCtorEq]; try omega; done) | omega) only [Am.wanted, Am.isAlloc, Am.wb0, Am.wb1, Am.wb2, Am.wb3, Am.wb4, Am.wb5, Am.wb6, Am.wb7, Am.wb8, Am.wb9, Am.reads, Am.quiet, Am.over, Nat.testBit, Nat.reduceShiftRight, Nat.reduceAnd, Nat.reduceBNe, Nat.reduceLeDiff, Nat.reduceAdd, Nat.reduceMul, Nat.reduceLT, Nat.reduceEqDiff, Nat.reduceSub, reduceCtorEq, ↓reduceIte, tyfacts, hn, hd]
      exact ⟨by rw [keepsF, if_neg (by omega), if_neg hany, if_pos (not_nodup_take hj he)], hx3⟩
    simp (maxSteps := 10000000) (disch := first | assumption | (simp only [tyfacts, Am.wd, Nat.reduceEqDiff, Nat.reduceLT, reduceCtorEq]; try omega; done) | omega) only [Am.wanted, Am.isAlloc, Am.wb0, Am.wb1, Am.wb2, Am.wb3, Am.wb4, Am.wb5, Am.wb6, Am.wb7, Am.wb8, Am.wb9, Am.reads, Am.quiet, Am.over, Nat.testBit, Nat.reduceShiftRight, Nat.reduceAnd, Nat.reduceBNe, Nat.reduceLeDiff, Nat.reduceAdd, Nat.reduceMul, Nat.reduceLT, Nat.reduceEqDiff, Nat.reduceSub, reduceCtorEq, ↓reduceIte, tyfacts, hn, hd, h7]
    refine ih (i + 1) _ _ (by omega) ?_
    simp (maxSteps := 10000000) (disch := first | assumption | (simp only [tyfacts, Am.wd, Nat.reduceEqDiff, Nat.reduceLT, reduceCtorEq]; try omega; done) | omega) only [Am.wanted, Am.isAlloc, Am.wb0, Am.wb1, Am.wb2, Am.wb3, Am.wb4, Am.wb5, Am.wb6, Am.wb7, Am.wb8, Am.wb9, Am.reads, Am.quiet, Am.over, Nat.testBit, Nat.reduceShiftRight, Nat.reduceAnd, Nat.reduceBNe, Nat.reduceLeDiff, Nat.reduceAdd, Nat.reduceMul, Nat.reduceLT, Nat.reduceEqDiff, Nat.reduceSub, reduceCtorEq, ↓reduceIte, tyfacts, hn, hd, h0, h1]
    refine ⟨by simp, hx3, by omega, fun j hj' hlt => ?_⟩
    by_cases e : j = i
    · subst e; exact he
    · exact hno j hj' (by omega)
  have hnd : xs.Nodup := nodup_take fun j hj => hno j hj (by omega)
  have hkl : ∀ b, late ts xs = b → keepsF ts xs = if b then 13 else 0 := fun b h => by rw [keepsF, if_neg (by omega), if_neg hany, if_neg (by simpa using hnd), h]
  clear hno hq hi
  simp (maxSteps := 10000000) (disch := first | assumption | (simp only [tyfacts, Am.wd, Nat.reduceEqDiff, Nat.reduceLT, reduceCtorEq]; try omega; done) | omega) only [Am.wanted, Am.isAlloc, Am.wb0, Am.wb1, Am.wb2, Am.wb3, Am.wb4, Am.wb5, Am.wb6, Am.wb7, Am.wb8, Am.wb9, Am.reads, Am.quiet, Am.over, Nat.testBit, Nat.reduceShiftRight, Nat.reduceAnd, Nat.reduceBNe, Nat.reduceLeDiff, Nat.reduceAdd, Nat.reduceMul, Nat.reduceLT, Nat.reduceEqDiff, Nat.reduceSub, reduceCtorEq, ↓reduceIte, tyfacts, hn]
  refine wpK_loop_ind _ (fun i : Nat => xs.length - i) (fun i a H' => a.tmps.n = 83 ∧ a.defers = [] ∧ a.tmp 0 = l ∧ a.tmp 1 = o ∧ a.tmp 8 = .int .i64 i ∧ Ext H H' ∧ i ≤ xs.length ∧
    ∀ j, j < i → ((List.range ts.length).any fun k => prec ts k (xs.getD j 0).toNat && !decide ((k : Int) ∈ xs.take j)) = false) 0 ?_ ?_
  · simp (maxSteps := 10000000) (disch := first | assumption | (simp only [tyfacts, Am.wd, Nat.reduceEqDiff, Nat.reduceLT, reduceCtorEq]; try omega; done) | omega) only [Am.wanted, Am.isAlloc, Am.wb0, Am.wb1, Am.wb2, Am.wb3, Am.wb4, Am.wb5, Am.wb6, Am.wb7, Am.wb8, Am.wb9, Am.reads, Am.quiet, Am.over, Nat.testBit, Nat.reduceShiftRight, Nat.reduceAnd, Nat.reduceBNe, Nat.reduceLeDiff, Nat.reduceAdd, Nat.reduceMul, Nat.reduceLT, Nat.reduceEqDiff, Nat.reduceSub, reduceCtorEq, ↓reduceIte, tyfacts, hn, hd, h0, h1]
    exact ⟨rfl, hx, by omega, fun j h => by omega⟩
  clear hx hn hd h0 h1 h7 ih i a H1
  intro i a H1 ⟨hn, hd, h0, h1, h8, hx, hi, hno⟩ ih
  simp (maxSteps := 10000000) (disch := first | assumption | (simp only [tyfacts, Am.wd, Nat.reduceEqDiff, Nat.reduceLT, reduceCtorEq]; try omega; done) | omega) only [Am.wanted, Am.isAlloc, Am.wb0, Am.wb1, Am.wb2, Am.wb3, Am.wb4, Am.wb5, Am.wb6, Am.wb7, Am.wb8, Am.wb9, Am.reads, Am.quiet, Am.over, Nat.testBit, Nat.reduceShiftRight, Nat.reduceAnd, Nat.reduceBNe, Nat.reduceLeDiff, Nat.reduceAdd, Nat.reduceMul, Nat.reduceLT, Nat.reduceEqDiff, Nat.reduceSub, reduceCtorEq, ↓reduceIte, tyfacts, h1, h8, hn, LO]
  refine wpB_dec (fun hq => ?_) (fun hq => ?_)
  · have hj : i < xs.length := by omega
    have hin := hall i hj
    simp only [inR, Bool.and_eq_true, decide_eq_true_eq] at hin
    have hgd : xs.getD i 0 = xs[i] := by simp [List.getD_eq_getElem?_getD, hj]
    simp (maxSteps := 10000000) (disch := first | assumption | (simp only [tyfacts, Am.wd, Nat.reduceEqDiff, Nat.reduceLT, reduceCtorEq]; try omega; done) | omega) only [Am.wanted, Am.isAlloc, Am.wb0, Am.wb1, Am.wb2, Am.wb3, Am.wb4, Am.wb5, Am.wb6, Am.wb7, Am.wb8, Am.wb9, Am.reads, Am.quiet, Am.over, Nat.testBit, Nat.reduceShiftRight, Nat.reduceAnd, Nat.reduceBNe, Nat.reduceLeDiff, Nat.reduceAdd, Nat.reduceMul, Nat.reduceLT, Nat.reduceEqDiff, Nat.reduceSub, reduceCtorEq, ↓reduceIte, tyfacts]
    refine wpK_loop_ind _ (fun k : Nat => ts.length - k) (fun k a H' => a.tmps.n = 83 ∧ a.defers = [] ∧ a.tmp 0 = l ∧ a.tmp 1 = o ∧ a.tmp 8 = .int .i64 i ∧ a.tmp 9 = .int .i64 k ∧ Ext H H' ∧ k ≤ ts.length ∧
      ∀ k', k' < k → (prec ts k' (xs.getD i 0).toNat && !decide ((k' : Int) ∈ xs.take i)) = false) 0 ?_ ?_
    · simp (maxSteps := 10000000) (disch := first | assumption | (simp only [tyfacts, Am.wd, Nat.reduceEqDiff, Nat.reduceLT, reduceCtorEq]; try omega; done) | omega) only [Am.wanted, Am.isAlloc, Am.wb0, Am.wb1, Am.wb2, Am.wb3, Am.wb4, Am.wb5, Am.wb6, Am.wb7, Am.wb8, Am.wb9, Am.reads, Am.quiet, Am.over, Nat.testBit, Nat.reduceShiftRight, Nat.reduceAnd, Nat.reduceBNe, Nat.reduceLeDiff, Nat.reduceAdd, Nat.reduceMul, Nat.reduceLT, Nat.reduceEqDiff, Nat.reduceSub, reduceCtorEq, ↓reduceIte, tyfacts, hn, hd, h0, h1, h8]
      exact ⟨rfl, hx, by omega, fun j h => by omega⟩
    clear hx hn hd h0 h1 h8 a H1
    intro k a H1 ⟨hn, hd, h0, h1, h8, h9, hx, hk, hno2⟩ ih2
    simp (maxSteps := 10000000) (disch := first | assumption | (simp only [tyfacts, Am.wd, Nat.reduceEqDiff, Nat.reduceLT, reduceCtorEq]; try omega; done) | omega) only [Am.wanted, Am.isAlloc, Am.wb0, Am.wb1, Am.wb2, Am.wb3, Am.wb4, Am.wb5, Am.wb6, Am.wb7, Am.wb8, Am.wb9, Am.reads, Am.quiet, Am.over, Nat.testBit, Nat.reduceShiftRight, Nat.reduceAnd, Nat.reduceBNe, Nat.reduceLeDiff, Nat.reduceAdd, Nat.reduceMul, Nat.reduceLT, Nat.reduceEqDiff, Nat.reduceSub, reduceCtorEq, ↓reduceIte, tyfacts, h0, h9, hn, L]
    refine wpB_dec (fun hq2 => ?_) (fun hq2 => ?_)
    · have hk2 : k < ts.length := by omega
      simp (maxSteps := 10000000) (disch := first | assumption | (simp only [tyfacts, Am.wd, Nat.reduceEqDiff, Nat.reduceLT, reduceCtorEq]; try omega; done) | omega) only [Am.wanted, Am.isAlloc, Am.wb0, Am.wb1, Am.wb2, Am.wb3, Am.wb4, Am.wb5, Am.wb6, Am.wb7, Am.wb8, Am.wb9, Am.reads, Am.quiet, Am.over, Nat.testBit, Nat.reduceShiftRight, Nat.reduceAnd, Nat.reduceBNe, Nat.reduceLeDiff, Nat.reduceAdd, Nat.reduceMul, Nat.reduceLT, Nat.reduceEqDiff, Nat.reduceSub, reduceCtorEq, ↓reduceIte, tyfacts]
      refine Am.wpK_draw 22 [0, 1, 2, 3, 4, 5, 6, 7, 8, 9, 10, 11, 12, 13, 14, 15, 16, 17, 18, 19, 20, 21] (hx).wf (by kernel_rfl) ?_
      have hx2 := (hx).keep 22
      generalize hH2 : Am.Heap.keep _ _ = H2
      replace hx2 : Am.Ext _ H2 := hH2 ▸ hx2
      have ho2 := ho.mono hx2
      have hl2 := hl.mono hx2
      have b2 : xs[i].toNat < ts.length := by omega
      have pe := prec_eq hk2 b2
      obtain ⟨u, s1, s2⟩ := ho2.slice (T := T) (t := 22) (by simp only [tyfacts]) (lo := none) (hi := some (.int .i64 i)) (m := 0) (n := i) (optNat_none _) (optNat_int _ _ _) (by omega) (by simp; omega)
      rw [List.drop_zero, ← List.map_take] at s2
      have h20 := hin.1
      by_cases hp : ts[k].c < ts[xs[i].toNat].b
      · simp (maxSteps := 10000000) (disch := first | assumption | (simp only [tyfacts, Am.wd, Nat.reduceEqDiff, Nat.reduceLT, reduceCtorEq]; try omega; done) | omega) only [Am.wanted, Am.isAlloc, Am.wb0, Am.wb1, Am.wb2, Am.wb3, Am.wb4, Am.wb5, Am.wb6, Am.wb7, Am.wb8, Am.wb9, Am.reads, Am.quiet, Am.over, Nat.testBit, Nat.reduceShiftRight, Nat.reduceAnd, Nat.reduceBNe, Nat.reduceLeDiff, Nat.reduceAdd, Nat.reduceMul, Nat.reduceLT, Nat.reduceEqDiff, Nat.reduceSub, reduceCtorEq, ↓reduceIte, tyfacts, h0, h1, h8, h9, hn, s1, ho2.idx, ho2.load1, cI, hl2.idx, hl2.idxI, hl2.isPtr, hl2.loadF, Tr5.cells, hp]
        refine wpSX_call (refIn_ok hx2.wf s2 (by simp; omega) k) fun r H3 ⟨hr, hx3⟩ => ?_
        subst hr
        have hx3 := hx2.trans hx3
        by_cases hm : (k : Int) ∈ xs.take i
        · simp (maxSteps := 10000000) (disch := first | assumption | (simp only [tyfacts, Am.wd, Nat.reduceEqDiff, Nat.reduceLT, reduceCtorEq]; try omega; done) | omega) only [Am.wanted, Am.isAlloc, Am.wb0, Am.wb1, Am.wb2, Am.wb3, Am.wb4, Am.wb5, Am.wb6, Am.wb7, Am.wb8, Am.wb9, Am.reads, Am.quiet, Am.over, Nat.testBit, Nat.reduceShiftRight, Nat.reduceAnd, Nat.reduceBNe, Nat.reduceLeDiff, Nat.reduceAdd, Nat.reduceMul, Nat.reduceLT, Nat.reduceEqDiff, Nat.reduceSub, reduceCtorEq, ↓reduceIte, tyfacts, hn, hd, h9, hm]
          refine ih2 (k + 1) _ _ (by omega) ?_
          simp (maxSteps := 10000000) (disch := first | assumption | (simp only [tyfacts, Am.wd, Nat.reduceEqDiff, Nat.reduceLT, reduceCtorEq]; try omega; done) | omega) only [Am.wanted, Am.isAlloc, Am.wb0, Am.wb1, Am.wb2, Am.wb3, Am.wb4, Am.wb5, Am.wb6, Am.wb7, Am.wb8, Am.wb9, Am.reads, Am.quiet, Am.over, Nat.testBit, Nat.reduceShiftRight, Nat.reduceAnd, Nat.reduceBNe, Nat.reduceLeDiff, Nat.reduceAdd, Nat.reduceMul, Nat.reduceLT, Nat.reduceEqDiff, Nat.reduceSub, reduceCtorEq, ↓reduceIte, tyfacts, hn, hd, h0, h1, h8]
          refine ⟨by simp, hx3, by omega, fun j hlt => ?_⟩
          by_cases e : j = k
          · subst e; simp [hm]
          · simpa using hno2 j (by omega)
        · simp (maxSteps := 10000000) (disch := first | assumption | (simp only [tyfacts, Am.wd, Nat.reduceEqDiff, Nat.reduceLT, reduceCtorEq]; try omega; done) | omega) only [Am.wanted, Am.isAlloc, Am.wb0, Am.wb1, Am.wb2, Am.wb3, Am.wb4, Am.wb5, Am.wb6, Am.wb7, Am.wb8, Am.wb9, Am.reads, Am.quiet, Am.over, Nat.testBit, Nat.reduceShiftRight, Nat.reduceAnd, Nat.reduceBNe, Nat.reduceLeDiff, Nat.reduceAdd, Nat.reduceMul, Nat.reduceLT, Nat.reduceEqDiff, Nat.reduceSub, reduceCtorEq, ↓reduceIte, tyfacts, hn, hd, h9, hm]
          refine ⟨?_, hx3⟩
          rw [hkl true]; · rfl
          simp only [late, List.any_eq_true, List.mem_range, Bool.and_eq_true, Bool.not_eq_true', decide_eq_false_iff_not]
          exact ⟨i, hj, k, hk2, by rw [hgd, pe]; simpa using hp, hm⟩
      · simp (maxSteps := 10000000) (disch := first | assumption | (simp only [tyfacts, Am.wd, Nat.reduceEqDiff, Nat.reduceLT, reduceCtorEq]; try omega; done) | omega) only [Am.wanted, Am.isAlloc, Am.wb0, Am.wb1, Am.wb2, Am.wb3, Am.wb4, Am.wb5, Am.wb6, Am.wb7, Am.wb8, Am.wb9, Am.reads, Am.quiet, Am.over, Nat.testBit, Nat.reduceShiftRight, Nat.reduceAnd, Nat.reduceBNe, Nat.reduceLeDiff, Nat.reduceAdd, Nat.reduceMul, Nat.reduceLT, Nat.reduceEqDiff, Nat.reduceSub, reduceCtorEq, ↓reduceIte, tyfacts, h0, h1, h8, h9, hn, s1, ho2.idx, ho2.load1, cI, hl2.idx, hl2.idxI, hl2.isPtr, hl2.loadF, Tr5.cells, hp]
        refine ih2 (k + 1) _ _ (by omega) ?_
        simp (maxSteps := 10000000) (disch := first | assumption | (simp only [tyfacts, Am.wd, Nat.reduceEqDiff, Nat.reduceLT, reduceCtorEq]; try omega; done) | omega) only [Am.wanted, Am.isAlloc, Am.wb0, Am.wb1, Am.wb2, Am.wb3, Am.wb4, Am.wb5, Am.wb6, Am.wb7, Am.wb8, Am.wb9, Am.reads, Am.quiet, Am.over, Nat.testBit, Nat.reduceShiftRight, Nat.reduceAnd, Nat.reduceBNe, Nat.reduceLeDiff, Nat.reduceAdd, Nat.reduceMul, Nat.reduceLT, Nat.reduceEqDiff, Nat.reduceSub, reduceCtorEq, ↓reduceIte, tyfacts, hn, hd, h0, h1, h8]
        refine ⟨by simp, hx2, by omega, fun j hlt => ?_⟩
        by_cases e : j = k
        · subst e; rw [hgd, pe]; simp [hp]
        · simpa using hno2 j (by omega)
    · simp (maxSteps := 10000000) (disch := first | assumption | (simp only [tyfacts, Am.wd, Nat.reduceEqDiff, Nat.reduceLT, reduceCtorEq]; try omega; done) | omega) only [Am.wanted, Am.isAlloc, Am.wb0, Am.wb1, Am.wb2, Am.wb3, Am.wb4, Am.wb5, Am.wb6, Am.wb7, Am.wb8, Am.wb9, Am.reads, Am.quiet, Am.over, Nat.testBit, Nat.reduceShiftRight, Nat.reduceAnd, Nat.reduceBNe, Nat.reduceLeDiff, Nat.reduceAdd, Nat.reduceMul, Nat.reduceLT, Nat.reduceEqDiff, Nat.reduceSub, reduceCtorEq, ↓reduceIte, tyfacts, h8, hn]
      refine ih (i + 1) _ _ (by omega) ?_
      simp (maxSteps := 10000000) (disch := first | assumption | (simp only [tyfacts, Am.wd, Nat.reduceEqDiff, Nat.reduceLT, reduceCtorEq]; try omega; done) | omega) only [Am.wanted, Am.isAlloc, Am.wb0, Am.wb1, Am.wb2, Am.wb3, Am.wb4, Am.wb5, Am.wb6, Am.wb7, Am.wb8, Am.wb9, Am.reads, Am.quiet, Am.over, Nat.testBit, Nat.reduceShiftRight, Nat.reduceAnd, Nat.reduceBNe, Nat.reduceLeDiff, Nat.reduceAdd, Nat.reduceMul, Nat.reduceLT, Nat.reduceEqDiff, Nat.reduceSub, reduceCtorEq, ↓reduceIte, tyfacts, hn, hd, h0, h1]
      refine ⟨by simp, hx, by omega, fun j hlt => ?_⟩
      by_cases e : j = i
      · subst e
        rw [List.any_eq_false]
        intro k' hk'
        have := hno2 k' (by have := List.mem_range.1 hk'; omega)
        simpa using this
      · simpa using hno j (by omega)
  · simp (maxSteps := 10000000) (disch := first | assumption | (simp only [tyfacts, Am.wd, Nat.reduceEqDiff, Nat.reduceLT, reduceCtorEq]; try omega; done) | omega) only [Am.wanted, Am.isAlloc, Am.wb0, Am.wb1, Am.wb2, Am.wb3, Am.wb4, Am.wb5, Am.wb6, Am.wb7, Am.wb8, Am.wb9, Am.reads, Am.quiet, Am.over, Nat.testBit, Nat.reduceShiftRight, Nat.reduceAnd, Nat.reduceBNe, Nat.reduceLeDiff, Nat.reduceAdd, Nat.reduceMul, Nat.reduceLT, Nat.reduceEqDiff, Nat.reduceSub, reduceCtorEq, ↓reduceIte, tyfacts, hn, hd]
    refine ⟨?_, hx⟩
    rw [hkl false]; · rfl
    rw [late, List.any_eq_false]
    intro j hj
    rw [hno j (by have := List.mem_range.1 hj; omega)]; simp
end Go.Proofs.Ytkjknmdnehknbaa.W

/- The document's answer: who may be next, and the least order. No conditions. -/
namespace Go.Proofs.Ytkjknmdnehknbaa.W
open Go.Am Go.Am.Ord

theorem refNext_ok {H : Heap} (wf : H.WF) {l o : V} {ts : List Tr5} {xs : List Int} (hl : Sl H l 5 (ts.map Tr5.cells)) (ho : Sl H o 1 (xs.map cI)) (hlen : ts.length < 100000) (hxs : xs.length < 100000) :
    CallsTo T 16 [l, o] H fun r H' => ∃ v, r = .tuple [v, .int .i64 (nextF ts xs).2] ∧ Mine H.n H' v 1 ((nextF ts xs).1.map cI) ∧ Ext H H' := by
  refine Am.calls_enter (T := T) rfl Try.func16 rfl (by simp only [Try.f16, List.length_cons, List.length_nil]; decide) ?_
  simp only [Try.f16]
  have L := hl.len
  simp (maxSteps := 10000000) (disch := first | assumption | (simp only [tyfacts, Am.wd, Nat.reduceEqDiff, Nat.reduceLT, reduceCtorEq]; try omega; done) | omega) only [Am.wanted, Am.isAlloc, Am.wb0, Am.wb1, Am.wb2, Am.wb3, Am.wb4, Am.wb5, Am.wb6, Am.wb7, Am.wb8, Am.wb9, Am.reads, Am.quiet, Am.over, Nat.testBit, Nat.reduceShiftRight, Nat.reduceAnd, Nat.reduceBNe, Nat.reduceLeDiff, Nat.reduceAdd, Nat.reduceMul, Nat.reduceLT, Nat.reduceEqDiff, Nat.reduceSub, reduceCtorEq, ↓reduceIte, tyfacts]
  refine wpX_call (refKeeps_ok wf hl ho (by omega) (by omega)) fun r H1 ⟨hr, hx⟩ => ?_
  subst hr
  simp (maxSteps := 10000000) (disch := first | assumption | (simp only [tyfacts, Am.wd, Nat.reduceEqDiff, Nat.reduceLT, reduceCtorEq]; try omega; done) | omega) only [Am.wanted, Am.isAlloc, Am.wb0, Am.wb1, Am.wb2, Am.wb3, Am.wb4, Am.wb5, Am.wb6, Am.wb7, Am.wb8, Am.wb9, Am.reads, Am.quiet, Am.over, Nat.testBit, Nat.reduceShiftRight, Nat.reduceAnd, Nat.reduceBNe, Nat.reduceLeDiff, Nat.reduceAdd, Nat.reduceMul, Nat.reduceLT, Nat.reduceEqDiff, Nat.reduceSub, reduceCtorEq, ↓reduceIte, tyfacts]
  refine wpB_dec (fun hc => ?_) (fun hc => ?_)
  · simp (maxSteps := 10000000) (disch := first | assumption | (simp only [tyfacts, Am.wd, Nat.reduceEqDiff, Nat.reduceLT, reduceCtorEq]; try omega; done) | omega) only [Am.wanted, Am.isAlloc, Am.wb0, Am.wb1, Am.wb2, Am.wb3, Am.wb4, Am.wb5, Am.wb6, Am.wb7, Am.wb8, Am.wb9, Am.reads, Am.quiet, Am.over, Nat.testBit, Nat.reduceShiftRight, Nat.reduceAnd, Nat.reduceBNe, Nat.reduceLeDiff, Nat.reduceAdd, Nat.reduceMul, Nat.reduceLT, Nat.reduceEqDiff, Nat.reduceSub, reduceCtorEq, ↓reduceIte, tyfacts]
    refine ⟨.nilSlice, by rw [nextF, if_pos hc], ?_, hx⟩
    rw [nextF, if_pos hc]; exact Mine.nil _ _ _
  have hc0 : keepsF ts xs = 0 := by omega
  simp (maxSteps := 10000000) (disch := first | assumption | (simp only [tyfacts, Am.wd, Nat.reduceEqDiff, Nat.reduceLT, reduceCtorEq]; try omega; done) | omega) only [Am.wanted, Am.isAlloc, Am.wb0, Am.wb1, Am.wb2, Am.wb3, Am.wb4, Am.wb5, Am.wb6, Am.wb7, Am.wb8, Am.wb9, Am.reads, Am.quiet, Am.over, Nat.testBit, Nat.reduceShiftRight, Nat.reduceAnd, Nat.reduceBNe, Nat.reduceLeDiff, Nat.reduceAdd, Nat.reduceMul, Nat.reduceLT, Nat.reduceEqDiff, Nat.reduceSub, reduceCtorEq, ↓reduceIte, tyfacts]
  refine wpK_loop_ind _ (fun i : Nat => ts.length - i) (fun i a H' => a.tmps.n = 41 ∧ a.defers = [] ∧ a.tmp 0 = l ∧ a.tmp 1 = o ∧ a.tmp 8 = .int .i64 i ∧
    Mine H.n H' (a.tmp 7) 1 ((nxt ts xs i).map cI) ∧ Ext H H' ∧ i ≤ ts.length) 0 ?_ ?_
  · simp (maxSteps := 10000000) (disch := first | assumption | (simp only [tyfacts, Am.wd, Nat.reduceEqDiff, Nat.reduceLT, reduceCtorEq]; try omega; done) | omega) only [Am.wanted, Am.isAlloc, Am.wb0, Am.wb1, Am.wb2, Am.wb3, Am.wb4, Am.wb5, Am.wb6, Am.wb7, Am.wb8, Am.wb9, Am.reads, Am.quiet, Am.over, Nat.testBit, Nat.reduceShiftRight, Nat.reduceAnd, Nat.reduceBNe, Nat.reduceLeDiff, Nat.reduceAdd, Nat.reduceMul, Nat.reduceLT, Nat.reduceEqDiff, Nat.reduceSub, reduceCtorEq, ↓reduceIte, tyfacts]
    exact ⟨rfl, Mine.nil _ _ _, hx, by omega⟩
  clear hx
  intro i a H2 ⟨hn, hd, h0, h1, h8, hm, hx, hi⟩ ih
  generalize h7 : a.tmp 7 = v at hm
  have ha : appOk T 22 22 = some (1, 8) := by simp only [tyfacts]
  simp (maxSteps := 10000000) (disch := first | assumption | (simp only [tyfacts, Am.wd, Nat.reduceEqDiff, Nat.reduceLT, reduceCtorEq]; try omega; done) | omega) only [Am.wanted, Am.isAlloc, Am.wb0, Am.wb1, Am.wb2, Am.wb3, Am.wb4, Am.wb5, Am.wb6, Am.wb7, Am.wb8, Am.wb9, Am.reads, Am.quiet, Am.over, Nat.testBit, Nat.reduceShiftRight, Nat.reduceAnd, Nat.reduceBNe, Nat.reduceLeDiff, Nat.reduceAdd, Nat.reduceMul, Nat.reduceLT, Nat.reduceEqDiff, Nat.reduceSub, reduceCtorEq, ↓reduceIte, tyfacts, h0, h8, hn, L]
  have hnl := nxt_len ts xs i
  refine wpB_dec (fun hq => ?_) (fun hq => ?_)
  · have hj : i < ts.length := by omega
    simp (maxSteps := 10000000) (disch := first | assumption | (simp only [tyfacts, Am.wd, Nat.reduceEqDiff, Nat.reduceLT, reduceCtorEq]; try omega; done) | omega) only [Am.wanted, Am.isAlloc, Am.wb0, Am.wb1, Am.wb2, Am.wb3, Am.wb4, Am.wb5, Am.wb6, Am.wb7, Am.wb8, Am.wb9, Am.reads, Am.quiet, Am.over, Nat.testBit, Nat.reduceShiftRight, Nat.reduceAnd, Nat.reduceBNe, Nat.reduceLeDiff, Nat.reduceAdd, Nat.reduceMul, Nat.reduceLT, Nat.reduceEqDiff, Nat.reduceSub, reduceCtorEq, ↓reduceIte, tyfacts, h0, h1, h8, hn]
    refine wpX_call (refIn_ok hx.wf (ho.mono hx) (by omega) i) fun r H3 ⟨hr, hx3⟩ => ?_
    subst hr
    have hm3 := hm.mono hx3
    have hx3 := hx.trans hx3
    by_cases hmem : (i : Int) ∈ xs
    · simp (maxSteps := 10000000) (disch := first | assumption | (simp only [tyfacts, Am.wd, Nat.reduceEqDiff, Nat.reduceLT, reduceCtorEq]; try omega; done) | omega) only [Am.wanted, Am.isAlloc, Am.wb0, Am.wb1, Am.wb2, Am.wb3, Am.wb4, Am.wb5, Am.wb6, Am.wb7, Am.wb8, Am.wb9, Am.reads, Am.quiet, Am.over, Nat.testBit, Nat.reduceShiftRight, Nat.reduceAnd, Nat.reduceBNe, Nat.reduceLeDiff, Nat.reduceAdd, Nat.reduceMul, Nat.reduceLT, Nat.reduceEqDiff, Nat.reduceSub, reduceCtorEq, ↓reduceIte, tyfacts, hn, hmem, h0, h1, h8]
      refine ih (i + 1) _ _ (by omega) ?_
      simp (maxSteps := 10000000) (disch := first | assumption | (simp only [tyfacts, Am.wd, Nat.reduceEqDiff, Nat.reduceLT, reduceCtorEq]; try omega; done) | omega) only [Am.wanted, Am.isAlloc, Am.wb0, Am.wb1, Am.wb2, Am.wb3, Am.wb4, Am.wb5, Am.wb6, Am.wb7, Am.wb8, Am.wb9, Am.reads, Am.quiet, Am.over, Nat.testBit, Nat.reduceShiftRight, Nat.reduceAnd, Nat.reduceBNe, Nat.reduceLeDiff, Nat.reduceAdd, Nat.reduceMul, Nat.reduceLT, Nat.reduceEqDiff, Nat.reduceSub, reduceCtorEq, ↓reduceIte, tyfacts, hn, hd, h0, h1, h7]
      refine ⟨by simp, ?_, hx3, by omega⟩
      rw [nxt_succ, if_neg (by simp [hmem]), List.append_nil]; exact hm3
    · have hx4 : Ext H3 (H3.push (.cells false [])) := (Ext.refl hx3.wf).push _
      have hap := append_own (Mine.empty hx3.wf (Nat.le_refl _) 1) hx4.wf hx4.n ha ((ho.mono hx3).mono hx4) (cI_one xs) (by simp only [List.length_nil, List.length_map]; omega) (by simp only [List.length_nil, List.length_map]; omega)
      obtain ⟨u, H4, p1, p2, p3, p4⟩ := hap
      have hx4 : Ext H3 H4 := hx4.thenB p3 fun m hm => by have := of_slice.1 hm; omega
      rw [List.nil_append] at p2
      have hap := append_one p2 hx4.wf hx4.n (k := H4.n) rfl ha (f := cI (i : Int)) rfl rfl (by simp; omega) (by simp; omega)
      obtain ⟨u', H5, q1, q2, q3, q4⟩ := hap
      have hx5 : Ext H3 H5 := hx4.thenB q3 fun m hm => p2.ge hm
      have hm5 := hm3.mono hx5
      have hx5 := hx3.trans hx5
      have q2' : Sl H5 u' 1 ((xs ++ [(i : Int)]).map cI) := by simpa using q2.sl
      simp only [cI] at q1
      simp (maxSteps := 10000000) (disch := first | assumption | (simp only [tyfacts, Am.wd, Nat.reduceEqDiff, Nat.reduceLT, reduceCtorEq]; try omega; done) | omega) only [Am.wanted, Am.isAlloc, Am.wb0, Am.wb1, Am.wb2, Am.wb3, Am.wb4, Am.wb5, Am.wb6, Am.wb7, Am.wb8, Am.wb9, Am.reads, Am.quiet, Am.over, Nat.testBit, Nat.reduceShiftRight, Nat.reduceAnd, Nat.reduceBNe, Nat.reduceLeDiff, Nat.reduceAdd, Nat.reduceMul, Nat.reduceLT, Nat.reduceEqDiff, Nat.reduceSub, reduceCtorEq, ↓reduceIte, tyfacts, hn, hmem, h0, h1, h8, p1, q1]
      refine wpX_call (refKeeps_ok hx5.wf (hl.mono hx5) q2' (by omega) (by simp; omega)) fun r H6 ⟨hr, hx6⟩ => ?_
      subst hr
      have hm6 := hm5.mono hx6
      have hx6 := hx5.trans hx6
      simp (maxSteps := 10000000) (disch := first | assumption | (simp only [tyfacts, Am.wd, Nat.reduceEqDiff, Nat.reduceLT, reduceCtorEq]; try omega; done) | omega) only [Am.wanted, Am.isAlloc, Am.wb0, Am.wb1, Am.wb2, Am.wb3, Am.wb4, Am.wb5, Am.wb6, Am.wb7, Am.wb8, Am.wb9, Am.reads, Am.quiet, Am.over, Nat.testBit, Nat.reduceShiftRight, Nat.reduceAnd, Nat.reduceBNe, Nat.reduceLeDiff, Nat.reduceAdd, Nat.reduceMul, Nat.reduceLT, Nat.reduceEqDiff, Nat.reduceSub, reduceCtorEq, ↓reduceIte, tyfacts, hn, hmem]
      refine wpB_dec (fun hk => ?_) (fun hk => ?_)
      · have hap := append_one hm6 hx6.wf hx6.n (k := H6.n) rfl ha (f := cI (i : Int)) rfl rfl (by simp; omega) (by simp; omega)
        obtain ⟨v', H7, q1, q2, q3, q4⟩ := hap
        simp only [cI] at q1
        simp (maxSteps := 10000000) (disch := first | assumption | (simp only [tyfacts, Am.wd, Nat.reduceEqDiff, Nat.reduceLT, reduceCtorEq]; try omega; done) | omega) only [Am.wanted, Am.isAlloc, Am.wb0, Am.wb1, Am.wb2, Am.wb3, Am.wb4, Am.wb5, Am.wb6, Am.wb7, Am.wb8, Am.wb9, Am.reads, Am.quiet, Am.over, Nat.testBit, Nat.reduceShiftRight, Nat.reduceAnd, Nat.reduceBNe, Nat.reduceLeDiff, Nat.reduceAdd, Nat.reduceMul, Nat.reduceLT, Nat.reduceEqDiff, Nat.reduceSub, reduceCtorEq, ↓reduceIte, tyfacts, hn, h7, h8, q1]
        refine ih (i + 1) _ _ (by omega) ?_
        simp (maxSteps := 10000000) (disch := first | assumption | (simp only [tyfacts, Am.wd, Nat.reduceEqDiff, Nat.reduceLT, reduceCtorEq]; try omega; done) | omega) only [Am.wanted, Am.isAlloc, Am.wb0, Am.wb1, Am.wb2, Am.wb3, Am.wb4, Am.wb5, Am.wb6, Am.wb7, Am.wb8, Am.wb9, Am.reads, Am.quiet, Am.over, Nat.testBit, Nat.reduceShiftRight, Nat.reduceAnd, Nat.reduceBNe, Nat.reduceLeDiff, Nat.reduceAdd, Nat.reduceMul, Nat.reduceLT, Nat.reduceEqDiff, Nat.reduceSub, reduceCtorEq, ↓reduceIte, tyfacts, hn, hd, h0, h1]
        refine ⟨by simp, ?_, hx6.thenB q3 fun m hm => hm6.ge hm, by omega⟩
        rw [nxt_succ, if_pos (by simp [hmem, hk]), List.map_append]; exact q2
      · simp (maxSteps := 10000000) (disch := first | assumption | (simp only [tyfacts, Am.wd, Nat.reduceEqDiff, Nat.reduceLT, reduceCtorEq]; try omega; done) | omega) only [Am.wanted, Am.isAlloc, Am.wb0, Am.wb1, Am.wb2, Am.wb3, Am.wb4, Am.wb5, Am.wb6, Am.wb7, Am.wb8, Am.wb9, Am.reads, Am.quiet, Am.over, Nat.testBit, Nat.reduceShiftRight, Nat.reduceAnd, Nat.reduceBNe, Nat.reduceLeDiff, Nat.reduceAdd, Nat.reduceMul, Nat.reduceLT, Nat.reduceEqDiff, Nat.reduceSub, reduceCtorEq, ↓reduceIte, tyfacts, hn, h8]
        refine ih (i + 1) _ _ (by omega) ?_
        simp (maxSteps := 10000000) (disch := first | assumption | (simp only [tyfacts, Am.wd, Nat.reduceEqDiff, Nat.reduceLT, reduceCtorEq]; try omega; done) | omega) only [Am.wanted, Am.isAlloc, Am.wb0, Am.wb1, Am.wb2, Am.wb3, Am.wb4, Am.wb5, Am.wb6, Am.wb7, Am.wb8, Am.wb9, Am.reads, Am.quiet, Am.over, Nat.testBit, Nat.reduceShiftRight, Nat.reduceAnd, Nat.reduceBNe, Nat.reduceLeDiff, Nat.reduceAdd, Nat.reduceMul, Nat.reduceLT, Nat.reduceEqDiff, Nat.reduceSub, reduceCtorEq, ↓reduceIte, tyfacts, hn, hd, h0, h1, h7]
        refine ⟨by simp, ?_, hx6, by omega⟩
        rw [nxt_succ, if_neg (by simp [hmem, hk]), List.append_nil]; exact hm6
  · have : i = ts.length := by omega
    subst this
    simp (maxSteps := 10000000) (disch := first | assumption | (simp only [tyfacts, Am.wd, Nat.reduceEqDiff, Nat.reduceLT, reduceCtorEq]; try omega; done) | omega) only [Am.wanted, Am.isAlloc, Am.wb0, Am.wb1, Am.wb2, Am.wb3, Am.wb4, Am.wb5, Am.wb6, Am.wb7, Am.wb8, Am.wb9, Am.reads, Am.quiet, Am.over, Nat.testBit, Nat.reduceShiftRight, Nat.reduceAnd, Nat.reduceBNe, Nat.reduceLeDiff, Nat.reduceAdd, Nat.reduceMul, Nat.reduceLT, Nat.reduceEqDiff, Nat.reduceSub, reduceCtorEq, ↓reduceIte, tyfacts, hn, hd, h7]
    refine ⟨v, by rw [nextF, if_neg hc], ?_, hx⟩
    rw [nextF, if_neg hc]; exact hm

/-- The first of who may be next. -/
theorem R_head {ts : List Tr5} {o : List Nat} (hr : R ts o ≠ []) : ∃ m, m ∈ R ts o ∧ (∀ y, y ∈ R ts o → m ≤ y) ∧ ∃ h : 0 < (R ts o).length, (R ts o)[0] = m := by
  have hs := R_sorted ts o
  generalize R ts o = l at hr hs
  cases l with
  | nil => exact absurd rfl hr
  | cons x l =>
    refine ⟨x, by simp, fun y hy => ?_, by simp, rfl⟩
    rcases List.mem_cons.1 hy with h | h
    · omega
    · have := (List.pairwise_cons.1 hs).1 y h; omega
theorem cI_len (xs : List Int) : (xs.map cI).length = xs.length := by simp

theorem refFirst_ok {H : Heap} (wf : H.WF) {l : V} {ts : List Tr5} (hl : Sl H l 5 (ts.map Tr5.cells)) (hlen : ts.length < 100000) :
    CallsTo T 18 [l] H fun r H' => ∃ v, r = .tuple [v, .int .i64 (firstF ts).2] ∧ Mine H.n H' v 1 ((firstF ts).1.map cI) ∧ Ext H H' := by
  refine Am.calls_enter (T := T) rfl Try.func18 rfl (by simp only [Try.f18, List.length_cons, List.length_nil]; decide) ?_
  simp only [Try.f18]
  have L := hl.len
  simp (maxSteps := 10000000) (disch := first | assumption | (simp only [tyfacts, Am.wd, Nat.reduceEqDiff, Nat.reduceLT, reduceCtorEq]; try omega; done) | omega) only [Am.wanted, Am.isAlloc, Am.wb0, Am.wb1, Am.wb2, Am.wb3, Am.wb4, Am.wb5, Am.wb6, Am.wb7, Am.wb8, Am.wb9, Am.reads, Am.quiet, Am.over, Nat.testBit, Nat.reduceShiftRight, Nat.reduceAnd, Nat.reduceBNe, Nat.reduceLeDiff, Nat.reduceAdd, Nat.reduceMul, Nat.reduceLT, Nat.reduceEqDiff, Nat.reduceSub, reduceCtorEq, ↓reduceIte, tyfacts]
  refine wpX_call (refCheck_ok wf hl (by omega)) fun r H1 ⟨hr, hx⟩ => ?_
  subst hr
  simp (maxSteps := 10000000) (disch := first | assumption | (simp only [tyfacts, Am.wd, Nat.reduceEqDiff, Nat.reduceLT, reduceCtorEq]; try omega; done) | omega) only [Am.wanted, Am.isAlloc, Am.wb0, Am.wb1, Am.wb2, Am.wb3, Am.wb4, Am.wb5, Am.wb6, Am.wb7, Am.wb8, Am.wb9, Am.reads, Am.quiet, Am.over, Nat.testBit, Nat.reduceShiftRight, Nat.reduceAnd, Nat.reduceBNe, Nat.reduceLeDiff, Nat.reduceAdd, Nat.reduceMul, Nat.reduceLT, Nat.reduceEqDiff, Nat.reduceSub, reduceCtorEq, ↓reduceIte, tyfacts]
  refine wpB_dec (fun hc => ?_) (fun hc => ?_)
  · simp (maxSteps := 10000000) (disch := first | assumption | (simp only [tyfacts, Am.wd, Nat.reduceEqDiff, Nat.reduceLT, reduceCtorEq]; try omega; done) | omega) only [Am.wanted, Am.isAlloc, Am.wb0, Am.wb1, Am.wb2, Am.wb3, Am.wb4, Am.wb5, Am.wb6, Am.wb7, Am.wb8, Am.wb9, Am.reads, Am.quiet, Am.over, Nat.testBit, Nat.reduceShiftRight, Nat.reduceAnd, Nat.reduceBNe, Nat.reduceLeDiff, Nat.reduceAdd, Nat.reduceMul, Nat.reduceLT, Nat.reduceEqDiff, Nat.reduceSub, reduceCtorEq, ↓reduceIte, tyfacts]
    refine ⟨.nilSlice, by rw [firstF, if_pos hc], ?_, hx⟩
    rw [firstF, if_pos hc]; exact Mine.nil _ _ _
  have hc0 : checkF ts = 0 := by omega
  simp (maxSteps := 10000000) (disch := first | assumption | (simp only [tyfacts, Am.wd, Nat.reduceEqDiff, Nat.reduceLT, reduceCtorEq]; try omega; done) | omega) only [Am.wanted, Am.isAlloc, Am.wb0, Am.wb1, Am.wb2, Am.wb3, Am.wb4, Am.wb5, Am.wb6, Am.wb7, Am.wb8, Am.wb9, Am.reads, Am.quiet, Am.over, Nat.testBit, Nat.reduceShiftRight, Nat.reduceAnd, Nat.reduceBNe, Nat.reduceLeDiff, Nat.reduceAdd, Nat.reduceMul, Nat.reduceLT, Nat.reduceEqDiff, Nat.reduceSub, reduceCtorEq, ↓reduceIte, tyfacts]
  refine wpK_loop_ind _ (fun o : List Nat => ts.length - o.length) (fun o a H' => a.tmps.n = 31 ∧ a.defers = [] ∧ a.tmp 0 = l ∧
    Mine H.n H' (a.tmp 5) 1 ((castL o).map cI) ∧ Ext H H' ∧ Inv ts o) [] ?_ ?_
  · simp (maxSteps := 10000000) (disch := first | assumption | (simp only [tyfacts, Am.wd, Nat.reduceEqDiff, Nat.reduceLT, reduceCtorEq]; try omega; done) | omega) only [Am.wanted, Am.isAlloc, Am.wb0, Am.wb1, Am.wb2, Am.wb3, Am.wb4, Am.wb5, Am.wb6, Am.wb7, Am.wb8, Am.wb9, Am.reads, Am.quiet, Am.over, Nat.testBit, Nat.reduceShiftRight, Nat.reduceAnd, Nat.reduceBNe, Nat.reduceLeDiff, Nat.reduceAdd, Nat.reduceMul, Nat.reduceLT, Nat.reduceEqDiff, Nat.reduceSub, reduceCtorEq, ↓reduceIte, tyfacts]
    exact ⟨Mine.nil _ _ _, hx, Inv.nil hc0⟩
  clear hx
  intro o a H2 ⟨hn, hd, h0, hm, hx, hi⟩ ih
  generalize h5 : a.tmp 5 = v at hm
  have Lv := hm.len
  have lo := castL_len o
  rw [List.length_map, lo] at Lv
  simp (maxSteps := 10000000) (disch := first | assumption | (simp only [tyfacts, Am.wd, Nat.reduceEqDiff, Nat.reduceLT, reduceCtorEq]; try omega; done) | omega) only [Am.wanted, Am.isAlloc, Am.wb0, Am.wb1, Am.wb2, Am.wb3, Am.wb4, Am.wb5, Am.wb6, Am.wb7, Am.wb8, Am.wb9, Am.reads, Am.quiet, Am.over, Nat.testBit, Nat.reduceShiftRight, Nat.reduceAnd, Nat.reduceBNe, Nat.reduceLeDiff, Nat.reduceAdd, Nat.reduceMul, Nat.reduceLT, Nat.reduceEqDiff, Nat.reduceSub, reduceCtorEq, ↓reduceIte, tyfacts, h0, h5, hn, L, Lv]
  have hol := hi.goes.1
  refine wpB_dec (fun hq => ?_) (fun hq => ?_)
  · have hr := exists_ready hi.check (o := o) (by omega)
    obtain ⟨m, m1, m2, m3, m4⟩ := R_head hr
    simp (maxSteps := 10000000) (disch := first | assumption | (simp only [tyfacts, Am.wd, Nat.reduceEqDiff, Nat.reduceLT, reduceCtorEq]; try omega; done) | omega) only [Am.wanted, Am.isAlloc, Am.wb0, Am.wb1, Am.wb2, Am.wb3, Am.wb4, Am.wb5, Am.wb6, Am.wb7, Am.wb8, Am.wb9, Am.reads, Am.quiet, Am.over, Nat.testBit, Nat.reduceShiftRight, Nat.reduceAnd, Nat.reduceBNe, Nat.reduceLeDiff, Nat.reduceAdd, Nat.reduceMul, Nat.reduceLT, Nat.reduceEqDiff, Nat.reduceSub, reduceCtorEq, ↓reduceIte, tyfacts, h0, h5, hn]
    refine wpX_call (refNext_ok hx.wf (hl.mono hx) (hm.sl) (by omega) (by omega)) fun r H3 ⟨u, hr, p1, p2⟩ => ?_
    subst hr
    have hm3 := hm.mono p2
    have hx3 := hx.trans p2
    rw [next_eq hi.keeps] at p1
    have e0 : 0 < ((castL (R ts o)).map cI).length := by simp only [List.length_map, castL_len]; exact m3
    have g0 : ((castL (R ts o)).map cI)[0] = [.int .i64 (m : Int)] := by simp [castL, m4, cI]
    have i0 : idxP T 22 u (.int .i64 0) = some (ptrAt u 0) := p1.sl.idx (T := T) 22 (by simp only [tyfacts]) .i64 0 e0
    have l0 := p1.sl.load1 (T := T) 3 (by simp only [tyfacts]) 0 e0
    rw [g0] at l0
    replace l0 : loadP T H3 3 (ptrAt u 0) = some (.int .i64 (m : Int)) := l0
    have ha : appOk T 22 22 = some (1, 8) := by simp only [tyfacts]
    have hap := append_one hm3 hx3.wf hx3.n (k := H3.n) rfl ha (f := cI (m : Int)) rfl rfl (by simp [castL]; omega) (by simp [castL]; omega)
    obtain ⟨v', H4, q1, q2, q3, q4⟩ := hap
    simp only [cI] at q1
    simp (maxSteps := 10000000) (disch := first | assumption | (simp only [tyfacts, Am.wd, Nat.reduceEqDiff, Nat.reduceLT, reduceCtorEq]; try omega; done) | omega) only [Am.wanted, Am.isAlloc, Am.wb0, Am.wb1, Am.wb2, Am.wb3, Am.wb4, Am.wb5, Am.wb6, Am.wb7, Am.wb8, Am.wb9, Am.reads, Am.quiet, Am.over, Nat.testBit, Nat.reduceShiftRight, Nat.reduceAnd, Nat.reduceBNe, Nat.reduceLeDiff, Nat.reduceAdd, Nat.reduceMul, Nat.reduceLT, Nat.reduceEqDiff, Nat.reduceSub, reduceCtorEq, ↓reduceIte, tyfacts, h5, hn, i0, l0, q1]
    have hi' := hi.step m1 m2
    refine ih (o ++ [m]) _ _ (by have := hi'.goes.1; simp only [List.length_append, List.length_cons, List.length_nil] at this ⊢; omega) ?_
    simp (maxSteps := 10000000) (disch := first | assumption | (simp only [tyfacts, Am.wd, Nat.reduceEqDiff, Nat.reduceLT, reduceCtorEq]; try omega; done) | omega) only [Am.wanted, Am.isAlloc, Am.wb0, Am.wb1, Am.wb2, Am.wb3, Am.wb4, Am.wb5, Am.wb6, Am.wb7, Am.wb8, Am.wb9, Am.reads, Am.quiet, Am.over, Nat.testBit, Nat.reduceShiftRight, Nat.reduceAnd, Nat.reduceBNe, Nat.reduceLeDiff, Nat.reduceAdd, Nat.reduceMul, Nat.reduceLT, Nat.reduceEqDiff, Nat.reduceSub, reduceCtorEq, ↓reduceIte, tyfacts, hn, hd, h0]
    refine ⟨?_, hx3.thenB q3 fun m h => hm3.ge h, hi'⟩
    rw [castL_append, List.map_append]; exact q2
  · simp (maxSteps := 10000000) (disch := first | assumption | (simp only [tyfacts, Am.wd, Nat.reduceEqDiff, Nat.reduceLT, reduceCtorEq]; try omega; done) | omega) only [Am.wanted, Am.isAlloc, Am.wb0, Am.wb1, Am.wb2, Am.wb3, Am.wb4, Am.wb5, Am.wb6, Am.wb7, Am.wb8, Am.wb9, Am.reads, Am.quiet, Am.over, Nat.testBit, Nat.reduceShiftRight, Nat.reduceAnd, Nat.reduceBNe, Nat.reduceLeDiff, Nat.reduceAdd, Nat.reduceMul, Nat.reduceLT, Nat.reduceEqDiff, Nat.reduceSub, reduceCtorEq, ↓reduceIte, tyfacts, hn, hd, h5]
    have hr : R ts o = [] := by
      rcases List.eq_nil_or_concat (R ts o) with h | ⟨l', x, h⟩
      · exact h
      · have hx' : x ∈ R ts o := by rw [h]; simp
        obtain ⟨x1, x2, _⟩ := mem_R.1 hx'
        have := sub_length (x :: o) (List.range ts.length) (List.nodup_cons.2 ⟨x2, hi.nodup⟩) fun y hy => List.mem_range.2 (by
          rcases List.mem_cons.1 hy with h | h
          · omega
          · exact hi.low y h)
        rw [List.length_range] at this
        simp only [List.length_cons] at this
        omega
    have hf := hi.done hr
    refine ⟨v, by rw [hf], ?_, hx⟩
    rw [hf]; exact hm
end Go.Proofs.Ytkjknmdnehknbaa.W
