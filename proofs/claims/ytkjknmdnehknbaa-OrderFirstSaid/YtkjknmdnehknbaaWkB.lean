import Derived.Test.YtkjknmdnehknbaaWkA
import Derived.Test.YtkjknmdnehknbaaOrd
set_option linter.unusedSimpArgs false
set_option linter.unusedVariables false
set_option maxRecDepth 8000
/- The order of transactions: the program's own functions. No conditions. -/
namespace Go.Proofs.Ytkjknmdnehknbaa.W
open Go.Am Go.Am.Ord

theorem indexFunc_tr {H : Heap} (wf : H.WF) {v f : V} {xs : List Tr5} (hl : Sl H v 5 (xs.map (Tr5.cells))) (p : Tr5 → Bool) (hlen : xs.length < 1000000000)
    (hp : ∀ x, x ∈ xs → ∀ H', Ext H H' → CallV T f [(fun x : Tr5 => V.agg x.cells) x] H' fun r H'' => r = .bool (p x) ∧ Ext H' H'') :
    CallsTo T 46 [v, f] H fun r H' => r = .int .i64 (idxI (xs.findIdx? p)) ∧ Ext H H' := by
  refine Am.calls_enter (T := T) rfl Try.func46 rfl (by simp only [Try.f46, List.length_cons, List.length_nil]; decide) ?_
  simp only [Try.f46]
  have L := hl.len
  simp (maxSteps := 10000000) (disch := first | assumption | (simp only [tyfacts, Am.wd, Nat.reduceEqDiff, Nat.reduceLT, reduceCtorEq]; try omega; done) | omega) only [Am.wanted, Am.isAlloc, Am.wb0, Am.wb1, Am.wb2, Am.wb3, Am.wb4, Am.wb5, Am.wb6, Am.wb7, Am.wb8, Am.wb9, Am.reads, Am.quiet, Am.over, Nat.testBit, Nat.reduceShiftRight, Nat.reduceAnd, Nat.reduceBNe, Nat.reduceLeDiff, Nat.reduceAdd, Nat.reduceMul, Nat.reduceLT, Nat.reduceEqDiff, Nat.reduceSub, reduceCtorEq, ↓reduceIte, tyfacts, L]
  refine wpK_loop_ind _ (fun i : Nat => xs.length - i) (fun i a H' => a.tmps.n = 19 ∧ a.defers = [] ∧ a.tmp 0 = v ∧ a.tmp 1 = f ∧ a.tmp 7 = .int .i64 xs.length ∧ a.tmp 8 = .int .i64 i ∧ Ext H H' ∧ i ≤ xs.length ∧ ∀ j, (hj : j < xs.length) → j < i → p xs[j] = false) 0 ?_ ?_
  · simp (maxSteps := 10000000) (disch := first | assumption | (simp only [tyfacts, Am.wd, Nat.reduceEqDiff, Nat.reduceLT, reduceCtorEq]; try omega; done) | omega) only [Am.wanted, Am.isAlloc, Am.wb0, Am.wb1, Am.wb2, Am.wb3, Am.wb4, Am.wb5, Am.wb6, Am.wb7, Am.wb8, Am.wb9, Am.reads, Am.quiet, Am.over, Nat.testBit, Nat.reduceShiftRight, Nat.reduceAnd, Nat.reduceBNe, Nat.reduceLeDiff, Nat.reduceAdd, Nat.reduceMul, Nat.reduceLT, Nat.reduceEqDiff, Nat.reduceSub, reduceCtorEq, ↓reduceIte, tyfacts]
    exact ⟨rfl, Ext.refl wf, by omega, fun j _ h => by omega⟩
  intro i a H1 ⟨hn, hd, h0, h1, h7, h8, hx, hi, hno⟩ ih
  have hl1 := hl.mono hx
  simp (maxSteps := 10000000) (disch := first | assumption | (simp only [tyfacts, Am.wd, Nat.reduceEqDiff, Nat.reduceLT, reduceCtorEq]; try omega; done) | omega) only [Am.wanted, Am.isAlloc, Am.wb0, Am.wb1, Am.wb2, Am.wb3, Am.wb4, Am.wb5, Am.wb6, Am.wb7, Am.wb8, Am.wb9, Am.reads, Am.quiet, Am.over, Nat.testBit, Nat.reduceShiftRight, Nat.reduceAnd, Nat.reduceBNe, Nat.reduceLeDiff, Nat.reduceAdd, Nat.reduceMul, Nat.reduceLT, Nat.reduceEqDiff, Nat.reduceSub, reduceCtorEq, ↓reduceIte, tyfacts, h7, h8, hn]
  refine wpB_dec (fun hc => ?_) (fun hc => ?_)
  · have hj : i < xs.length := by omega
    simp (maxSteps := 10000000) (disch := first | assumption | (simp only [tyfacts, Am.wd, Nat.reduceEqDiff, Nat.reduceLT, reduceCtorEq]; try omega; done) | omega) only [Am.wanted, Am.isAlloc, Am.wb0, Am.wb1, Am.wb2, Am.wb3, Am.wb4, Am.wb5, Am.wb6, Am.wb7, Am.wb8, Am.wb9, Am.reads, Am.quiet, Am.over, Nat.testBit, Nat.reduceShiftRight, Nat.reduceAnd, Nat.reduceBNe, Nat.reduceLeDiff, Nat.reduceAdd, Nat.reduceMul, Nat.reduceLT, Nat.reduceEqDiff, Nat.reduceSub, reduceCtorEq, ↓reduceIte, tyfacts, h0, h1, h8, hn, hl1.idx, hl1.loadG]
    refine wpX_callV (hp xs[i] (List.getElem_mem hj) H1 hx) fun r H2 ⟨hr, hx2⟩ => ?_
    subst hr
    simp (maxSteps := 10000000) (disch := first | assumption | (simp only [tyfacts, Am.wd, Nat.reduceEqDiff, Nat.reduceLT, reduceCtorEq]; try omega; done) | omega) only [Am.wanted, Am.isAlloc, Am.wb0, Am.wb1, Am.wb2, Am.wb3, Am.wb4, Am.wb5, Am.wb6, Am.wb7, Am.wb8, Am.wb9, Am.reads, Am.quiet, Am.over, Nat.testBit, Nat.reduceShiftRight, Nat.reduceAnd, Nat.reduceBNe, Nat.reduceLeDiff, Nat.reduceAdd, Nat.reduceMul, Nat.reduceLT, Nat.reduceEqDiff, Nat.reduceSub, reduceCtorEq, ↓reduceIte, tyfacts, hn]
    refine wpB_bool (fun he => ?_) (fun he => ?_)
    · simp (maxSteps := 10000000) (disch := first | assumption | (simp only [tyfacts, Am.wd, Nat.reduceEqDiff, Nat.reduceLT, reduceCtorEq]; try omega; done) | omega) only [Am.wanted, Am.isAlloc, Am.wb0, Am.wb1, Am.wb2, Am.wb3, Am.wb4, Am.wb5, Am.wb6, Am.wb7, Am.wb8, Am.wb9, Am.reads, Am.quiet, Am.over, Nat.testBit, Nat.reduceShiftRight, Nat.reduceAnd, Nat.reduceBNe, Nat.reduceLeDiff, Nat.reduceAdd, Nat.reduceMul, Nat.reduceLT, Nat.reduceEqDiff, Nat.reduceSub, reduceCtorEq, ↓reduceIte, tyfacts, hn, hd]
      refine ⟨?_, hx.trans hx2⟩
      rw [show xs.findIdx? p = some i from List.findIdx?_eq_some_iff_getElem.2 ⟨hj, he, fun j hji => by simpa using hno j (by omega) hji⟩]; rfl
    · simp (maxSteps := 10000000) (disch := first | assumption | (simp only [tyfacts, Am.wd, Nat.reduceEqDiff, Nat.reduceLT, reduceCtorEq]; try omega; done) | omega) only [Am.wanted, Am.isAlloc, Am.wb0, Am.wb1, Am.wb2, Am.wb3, Am.wb4, Am.wb5, Am.wb6, Am.wb7, Am.wb8, Am.wb9, Am.reads, Am.quiet, Am.over, Nat.testBit, Nat.reduceShiftRight, Nat.reduceAnd, Nat.reduceBNe, Nat.reduceLeDiff, Nat.reduceAdd, Nat.reduceMul, Nat.reduceLT, Nat.reduceEqDiff, Nat.reduceSub, reduceCtorEq, ↓reduceIte, tyfacts, h8, hn, hd]
      refine ih (i + 1) _ _ (by omega) ?_
      simp (maxSteps := 10000000) (disch := first | assumption | (simp only [tyfacts, Am.wd, Nat.reduceEqDiff, Nat.reduceLT, reduceCtorEq]; try omega; done) | omega) only [Am.wanted, Am.isAlloc, Am.wb0, Am.wb1, Am.wb2, Am.wb3, Am.wb4, Am.wb5, Am.wb6, Am.wb7, Am.wb8, Am.wb9, Am.reads, Am.quiet, Am.over, Nat.testBit, Nat.reduceShiftRight, Nat.reduceAnd, Nat.reduceBNe, Nat.reduceLeDiff, Nat.reduceAdd, Nat.reduceMul, Nat.reduceLT, Nat.reduceEqDiff, Nat.reduceSub, reduceCtorEq, ↓reduceIte, tyfacts, h0, h1, h7, hn, hd]
      refine ⟨?_, hx.trans hx2, by omega, fun j hj' hlt => ?_⟩
      · simp
      · by_cases e : j = i
        · subst e; exact he
        · exact hno j hj' (by omega)
  · simp (maxSteps := 10000000) (disch := first | assumption | (simp only [tyfacts, Am.wd, Nat.reduceEqDiff, Nat.reduceLT, reduceCtorEq]; try omega; done) | omega) only [Am.wanted, Am.isAlloc, Am.wb0, Am.wb1, Am.wb2, Am.wb3, Am.wb4, Am.wb5, Am.wb6, Am.wb7, Am.wb8, Am.wb9, Am.reads, Am.quiet, Am.over, Nat.testBit, Nat.reduceShiftRight, Nat.reduceAnd, Nat.reduceBNe, Nat.reduceLeDiff, Nat.reduceAdd, Nat.reduceMul, Nat.reduceLT, Nat.reduceEqDiff, Nat.reduceSub, reduceCtorEq, ↓reduceIte, tyfacts, hd, hn]
    refine ⟨?_, hx⟩
    rw [show xs.findIdx? p = none from List.findIdx?_eq_none_iff.2 fun y hy => by
      obtain ⟨j, hj, rfl⟩ := List.mem_iff_getElem.1 hy
      exact hno j hj (by omega)]; rfl
theorem containsFunc_tr {H : Heap} (wf : H.WF) {v f : V} {xs : List Tr5} (hl : Sl H v 5 (xs.map (Tr5.cells))) (p : Tr5 → Bool) (hlen : xs.length < 1000000000)
    (hp : ∀ x, x ∈ xs → ∀ H', Ext H H' → CallV T f [(fun x : Tr5 => V.agg x.cells) x] H' fun r H'' => r = .bool (p x) ∧ Ext H' H'') :
    CallsTo T 39 [v, f] H fun r H' => r = .bool (xs.any p) ∧ Ext H H' := by
  refine Am.calls_enter (T := T) rfl Try.func39 rfl (by simp only [Try.f39, List.length_cons, List.length_nil]; decide) ?_
  simp only [Try.f39]
  simp (maxSteps := 10000000) (disch := first | assumption | (simp only [tyfacts, Am.wd, Nat.reduceEqDiff, Nat.reduceLT, reduceCtorEq]; try omega; done) | omega) only [Am.wanted, Am.isAlloc, Am.wb0, Am.wb1, Am.wb2, Am.wb3, Am.wb4, Am.wb5, Am.wb6, Am.wb7, Am.wb8, Am.wb9, Am.reads, Am.quiet, Am.over, Nat.testBit, Nat.reduceShiftRight, Nat.reduceAnd, Nat.reduceBNe, Nat.reduceLeDiff, Nat.reduceAdd, Nat.reduceMul, Nat.reduceLT, Nat.reduceEqDiff, Nat.reduceSub, reduceCtorEq, ↓reduceIte, tyfacts]
  refine wpX_call (indexFunc_tr wf hl p hlen hp) fun r H' ⟨hr, hx⟩ => ?_
  subst hr
  simp (maxSteps := 10000000) (disch := first | assumption | (simp only [tyfacts, Am.wd, Nat.reduceEqDiff, Nat.reduceLT, reduceCtorEq]; try omega; done) | omega) only [Am.wanted, Am.isAlloc, Am.wb0, Am.wb1, Am.wb2, Am.wb3, Am.wb4, Am.wb5, Am.wb6, Am.wb7, Am.wb8, Am.wb9, Am.reads, Am.quiet, Am.over, Nat.testBit, Nat.reduceShiftRight, Nat.reduceAnd, Nat.reduceBNe, Nat.reduceLeDiff, Nat.reduceAdd, Nat.reduceMul, Nat.reduceLT, Nat.reduceEqDiff, Nat.reduceSub, reduceCtorEq, ↓reduceIte, tyfacts]
  refine ⟨?_, hx⟩
  congr 1
  rw [Bool.eq_iff_iff, decide_eq_true_eq, idxI_ge, List.findIdx?_isSome]

theorem check1 {H : Heap} (wf : H.WF) (t : Tr5) : CallsTo T 40 [.agg t.cells] H fun r H' => r = .bool t.bad ∧ Ext H H' := by
  refine Am.calls_enter (T := T) rfl Try.func40 rfl (by simp only [Try.f40, List.length_cons, List.length_nil]; decide) ?_
  simp only [Try.f40]
  have hx : Ext H (H.push (.cells false t.cells)) := (Ext.refl wf).push _
  by_cases hb : t.b < 0
  · simp (maxSteps := 10000000) (disch := first | assumption | (simp only [tyfacts, Am.wd, Nat.reduceEqDiff, Nat.reduceLT, reduceCtorEq]; try omega; done) | omega) only [Am.wanted, Am.isAlloc, Am.wb0, Am.wb1, Am.wb2, Am.wb3, Am.wb4, Am.wb5, Am.wb6, Am.wb7, Am.wb8, Am.wb9, Am.reads, Am.quiet, Am.over, Nat.testBit, Nat.reduceShiftRight, Nat.reduceAnd, Nat.reduceBNe, Nat.reduceLeDiff, Nat.reduceAdd, Nat.reduceMul, Nat.reduceLT, Nat.reduceEqDiff, Nat.reduceSub, reduceCtorEq, ↓reduceIte, tyfacts, Tr5.cells, hb]
    exact ⟨by simp [Tr5.bad, hb], hx⟩
  · simp (maxSteps := 10000000) (disch := first | assumption | (simp only [tyfacts, Am.wd, Nat.reduceEqDiff, Nat.reduceLT, reduceCtorEq]; try omega; done) | omega) only [Am.wanted, Am.isAlloc, Am.wb0, Am.wb1, Am.wb2, Am.wb3, Am.wb4, Am.wb5, Am.wb6, Am.wb7, Am.wb8, Am.wb9, Am.reads, Am.quiet, Am.over, Nat.testBit, Nat.reduceShiftRight, Nat.reduceAnd, Nat.reduceBNe, Nat.reduceLeDiff, Nat.reduceAdd, Nat.reduceMul, Nat.reduceLT, Nat.reduceEqDiff, Nat.reduceSub, reduceCtorEq, ↓reduceIte, tyfacts, Tr5.cells, hb]
    exact ⟨by simp [Tr5.bad, hb], hx⟩

theorem check_ok {H : Heap} (wf : H.WF) {l : V} {ts : List Tr5} (hl : Sl H l 5 (ts.map Tr5.cells)) (hlen : ts.length < 1000000) :
    CallsTo T 22 [l] H fun v H' => v = .int .i64 (checkF ts) ∧ Ext H H' := by
  refine Am.calls_enter (T := T) rfl Try.func22 rfl (by simp only [Try.f22, List.length_cons, List.length_nil]; decide) ?_
  simp only [Try.f22]
  have L := hl.len
  simp (maxSteps := 10000000) (disch := first | assumption | (simp only [tyfacts, Am.wd, Nat.reduceEqDiff, Nat.reduceLT, reduceCtorEq]; try omega; done) | omega) only [Am.wanted, Am.isAlloc, Am.wb0, Am.wb1, Am.wb2, Am.wb3, Am.wb4, Am.wb5, Am.wb6, Am.wb7, Am.wb8, Am.wb9, Am.reads, Am.quiet, Am.over, Nat.testBit, Nat.reduceShiftRight, Nat.reduceAnd, Nat.reduceBNe, Nat.reduceLeDiff, Nat.reduceAdd, Nat.reduceMul, Nat.reduceLT, Nat.reduceEqDiff, Nat.reduceSub, reduceCtorEq, ↓reduceIte, tyfacts, L]
  refine wpB_dec (fun h1 => ?_) (fun h1 => ?_)
  · simp (maxSteps := 10000000) (disch := first | assumption | (simp only [tyfacts, Am.wd, Nat.reduceEqDiff, Nat.reduceLT, reduceCtorEq]; try omega; done) | omega) only [Am.wanted, Am.isAlloc, Am.wb0, Am.wb1, Am.wb2, Am.wb3, Am.wb4, Am.wb5, Am.wb6, Am.wb7, Am.wb8, Am.wb9, Am.reads, Am.quiet, Am.over, Nat.testBit, Nat.reduceShiftRight, Nat.reduceAnd, Nat.reduceBNe, Nat.reduceLeDiff, Nat.reduceAdd, Nat.reduceMul, Nat.reduceLT, Nat.reduceEqDiff, Nat.reduceSub, reduceCtorEq, ↓reduceIte, tyfacts]
    exact ⟨by rw [checkF, if_pos (by omega)], Ext.refl wf⟩
  · simp (maxSteps := 10000000) (disch := first | assumption | (simp only [tyfacts, Am.wd, Nat.reduceEqDiff, Nat.reduceLT, reduceCtorEq]; try omega; done) | omega) only [Am.wanted, Am.isAlloc, Am.wb0, Am.wb1, Am.wb2, Am.wb3, Am.wb4, Am.wb5, Am.wb6, Am.wb7, Am.wb8, Am.wb9, Am.reads, Am.quiet, Am.over, Nat.testBit, Nat.reduceShiftRight, Nat.reduceAnd, Nat.reduceBNe, Nat.reduceLeDiff, Nat.reduceAdd, Nat.reduceMul, Nat.reduceLT, Nat.reduceEqDiff, Nat.reduceSub, reduceCtorEq, ↓reduceIte, tyfacts]
    refine wpX_call (containsFunc_tr wf hl Tr5.bad (by omega) fun t _ H' hx => check1 hx.wf t) fun r H1 ⟨hr, hx⟩ => ?_
    subst hr
    simp (maxSteps := 10000000) (disch := first | assumption | (simp only [tyfacts, Am.wd, Nat.reduceEqDiff, Nat.reduceLT, reduceCtorEq]; try omega; done) | omega) only [Am.wanted, Am.isAlloc, Am.wb0, Am.wb1, Am.wb2, Am.wb3, Am.wb4, Am.wb5, Am.wb6, Am.wb7, Am.wb8, Am.wb9, Am.reads, Am.quiet, Am.over, Nat.testBit, Nat.reduceShiftRight, Nat.reduceAnd, Nat.reduceBNe, Nat.reduceLeDiff, Nat.reduceAdd, Nat.reduceMul, Nat.reduceLT, Nat.reduceEqDiff, Nat.reduceSub, reduceCtorEq, ↓reduceIte, tyfacts]
    refine wpB_bool (fun he => ?_) (fun he => ?_)
    · simp (maxSteps := 10000000) (disch := first | assumption | (simp only [tyfacts, Am.wd, Nat.reduceEqDiff, Nat.reduceLT, reduceCtorEq]; try omega; done) | omega) only [Am.wanted, Am.isAlloc, Am.wb0, Am.wb1, Am.wb2, Am.wb3, Am.wb4, Am.wb5, Am.wb6, Am.wb7, Am.wb8, Am.wb9, Am.reads, Am.quiet, Am.over, Nat.testBit, Nat.reduceShiftRight, Nat.reduceAnd, Nat.reduceBNe, Nat.reduceLeDiff, Nat.reduceAdd, Nat.reduceMul, Nat.reduceLT, Nat.reduceEqDiff, Nat.reduceSub, reduceCtorEq, ↓reduceIte, tyfacts]
      exact ⟨by rw [checkF, if_neg (by omega), if_pos he], hx⟩
    · simp (maxSteps := 10000000) (disch := first | assumption | (simp only [tyfacts, Am.wd, Nat.reduceEqDiff, Nat.reduceLT, reduceCtorEq]; try omega; done) | omega) only [Am.wanted, Am.isAlloc, Am.wb0, Am.wb1, Am.wb2, Am.wb3, Am.wb4, Am.wb5, Am.wb6, Am.wb7, Am.wb8, Am.wb9, Am.reads, Am.quiet, Am.over, Nat.testBit, Nat.reduceShiftRight, Nat.reduceAnd, Nat.reduceBNe, Nat.reduceLeDiff, Nat.reduceAdd, Nat.reduceMul, Nat.reduceLT, Nat.reduceEqDiff, Nat.reduceSub, reduceCtorEq, ↓reduceIte, tyfacts]
      exact ⟨by rw [checkF, if_neg (by omega), if_neg (by simp [he])], hx⟩

theorem there_ok {H : Heap} (wf : H.WF) {l : V} {ts : List Tr5} (hl : Sl H l 5 (ts.map Tr5.cells)) (i : Int) :
    CallsTo T 31 [l, .int .i64 i] H fun v H' => v = .bool (inR ts i) ∧ Ext H H' := by
  refine Am.calls_enter (T := T) rfl Try.func31 rfl (by simp only [Try.f31, List.length_cons, List.length_nil]; decide) ?_
  simp only [Try.f31]
  have L := hl.len
  by_cases h : 0 ≤ i
  · simp (maxSteps := 10000000) (disch := first | assumption | (simp only [tyfacts, Am.wd, Nat.reduceEqDiff, Nat.reduceLT, reduceCtorEq]; try omega; done) | omega) only [Am.wanted, Am.isAlloc, Am.wb0, Am.wb1, Am.wb2, Am.wb3, Am.wb4, Am.wb5, Am.wb6, Am.wb7, Am.wb8, Am.wb9, Am.reads, Am.quiet, Am.over, Nat.testBit, Nat.reduceShiftRight, Nat.reduceAnd, Nat.reduceBNe, Nat.reduceLeDiff, Nat.reduceAdd, Nat.reduceMul, Nat.reduceLT, Nat.reduceEqDiff, Nat.reduceSub, reduceCtorEq, ↓reduceIte, tyfacts, L, h]
    exact ⟨by simp [inR, h], Ext.refl wf⟩
  · simp (maxSteps := 10000000) (disch := first | assumption | (simp only [tyfacts, Am.wd, Nat.reduceEqDiff, Nat.reduceLT, reduceCtorEq]; try omega; done) | omega) only [Am.wanted, Am.isAlloc, Am.wb0, Am.wb1, Am.wb2, Am.wb3, Am.wb4, Am.wb5, Am.wb6, Am.wb7, Am.wb8, Am.wb9, Am.reads, Am.quiet, Am.over, Nat.testBit, Nat.reduceShiftRight, Nat.reduceAnd, Nat.reduceBNe, Nat.reduceLeDiff, Nat.reduceAdd, Nat.reduceMul, Nat.reduceLT, Nat.reduceEqDiff, Nat.reduceSub, reduceCtorEq, ↓reduceIte, tyfacts, L, h]
    exact ⟨by simp [inR, h], Ext.refl wf⟩

theorem prec_eq {ts : List Tr5} {i k : Nat} (hi : i < ts.length) (hk : k < ts.length) : prec ts i k = decide (ts[i].c < ts[k].b) := by
  simp [prec, hi, hk]

theorem precedes_ok {H : Heap} (wf : H.WF) {l : V} {ts : List Tr5} (hl : Sl H l 5 (ts.map Tr5.cells)) (hlen : ts.length < 1000000) (i k : Int) :
    CallsTo T 11 [l, .int .i64 i, .int .i64 k] H fun v H' => v = .tuple [.bool (precF ts i k).1, .int .i64 (precF ts i k).2] ∧ Ext H H' := by
  refine Am.calls_enter (T := T) rfl Try.func11 rfl (by simp only [Try.f11, List.length_cons, List.length_nil]; decide) ?_
  simp only [Try.f11]
  simp (maxSteps := 10000000) (disch := first | assumption | (simp only [tyfacts, Am.wd, Nat.reduceEqDiff, Nat.reduceLT, reduceCtorEq]; try omega; done) | omega) only [Am.wanted, Am.isAlloc, Am.wb0, Am.wb1, Am.wb2, Am.wb3, Am.wb4, Am.wb5, Am.wb6, Am.wb7, Am.wb8, Am.wb9, Am.reads, Am.quiet, Am.over, Nat.testBit, Nat.reduceShiftRight, Nat.reduceAnd, Nat.reduceBNe, Nat.reduceLeDiff, Nat.reduceAdd, Nat.reduceMul, Nat.reduceLT, Nat.reduceEqDiff, Nat.reduceSub, reduceCtorEq, ↓reduceIte, tyfacts]
  refine wpX_call (check_ok wf hl hlen) fun r H1 ⟨hr, hx⟩ => ?_
  subst hr
  simp (maxSteps := 10000000) (disch := first | assumption | (simp only [tyfacts, Am.wd, Nat.reduceEqDiff, Nat.reduceLT, reduceCtorEq]; try omega; done) | omega) only [Am.wanted, Am.isAlloc, Am.wb0, Am.wb1, Am.wb2, Am.wb3, Am.wb4, Am.wb5, Am.wb6, Am.wb7, Am.wb8, Am.wb9, Am.reads, Am.quiet, Am.over, Nat.testBit, Nat.reduceShiftRight, Nat.reduceAnd, Nat.reduceBNe, Nat.reduceLeDiff, Nat.reduceAdd, Nat.reduceMul, Nat.reduceLT, Nat.reduceEqDiff, Nat.reduceSub, reduceCtorEq, ↓reduceIte, tyfacts]
  refine wpB_dec (fun h1 => ?_) (fun h1 => ?_)
  · simp (maxSteps := 10000000) (disch := first | assumption | (simp only [tyfacts, Am.wd, Nat.reduceEqDiff, Nat.reduceLT, reduceCtorEq]; try omega; done) | omega) only [Am.wanted, Am.isAlloc, Am.wb0, Am.wb1, Am.wb2, Am.wb3, Am.wb4, Am.wb5, Am.wb6, Am.wb7, Am.wb8, Am.wb9, Am.reads, Am.quiet, Am.over, Nat.testBit, Nat.reduceShiftRight, Nat.reduceAnd, Nat.reduceBNe, Nat.reduceLeDiff, Nat.reduceAdd, Nat.reduceMul, Nat.reduceLT, Nat.reduceEqDiff, Nat.reduceSub, reduceCtorEq, ↓reduceIte, tyfacts]
    exact ⟨by rw [precF, if_pos h1], hx⟩
  simp (maxSteps := 10000000) (disch := first | assumption | (simp only [tyfacts, Am.wd, Nat.reduceEqDiff, Nat.reduceLT, reduceCtorEq]; try omega; done) | omega) only [Am.wanted, Am.isAlloc, Am.wb0, Am.wb1, Am.wb2, Am.wb3, Am.wb4, Am.wb5, Am.wb6, Am.wb7, Am.wb8, Am.wb9, Am.reads, Am.quiet, Am.over, Nat.testBit, Nat.reduceShiftRight, Nat.reduceAnd, Nat.reduceBNe, Nat.reduceLeDiff, Nat.reduceAdd, Nat.reduceMul, Nat.reduceLT, Nat.reduceEqDiff, Nat.reduceSub, reduceCtorEq, ↓reduceIte, tyfacts]
  refine wpX_call (there_ok hx.wf (hl.mono hx) i) fun r H2 ⟨hr, hx2⟩ => ?_
  subst hr
  have hx2 := hx.trans hx2
  cases hi : inR ts i with
  | false =>
    simp (maxSteps := 10000000) (disch := first | assumption | (simp only [tyfacts, Am.wd, Nat.reduceEqDiff, Nat.reduceLT, reduceCtorEq]; try omega; done) | omega) only [Am.wanted, Am.isAlloc, Am.wb0, Am.wb1, Am.wb2, Am.wb3, Am.wb4, Am.wb5, Am.wb6, Am.wb7, Am.wb8, Am.wb9, Am.reads, Am.quiet, Am.over, Nat.testBit, Nat.reduceShiftRight, Nat.reduceAnd, Nat.reduceBNe, Nat.reduceLeDiff, Nat.reduceAdd, Nat.reduceMul, Nat.reduceLT, Nat.reduceEqDiff, Nat.reduceSub, reduceCtorEq, ↓reduceIte, tyfacts]
    exact ⟨by rw [precF, if_neg h1, if_neg (by simp [hi])], hx2⟩
  | true =>
    simp (maxSteps := 10000000) (disch := first | assumption | (simp only [tyfacts, Am.wd, Nat.reduceEqDiff, Nat.reduceLT, reduceCtorEq]; try omega; done) | omega) only [Am.wanted, Am.isAlloc, Am.wb0, Am.wb1, Am.wb2, Am.wb3, Am.wb4, Am.wb5, Am.wb6, Am.wb7, Am.wb8, Am.wb9, Am.reads, Am.quiet, Am.over, Nat.testBit, Nat.reduceShiftRight, Nat.reduceAnd, Nat.reduceBNe, Nat.reduceLeDiff, Nat.reduceAdd, Nat.reduceMul, Nat.reduceLT, Nat.reduceEqDiff, Nat.reduceSub, reduceCtorEq, ↓reduceIte, tyfacts]
    refine wpX_call (there_ok hx2.wf (hl.mono hx2) k) fun r H3 ⟨hr, hx3⟩ => ?_
    subst hr
    have hx3 := hx2.trans hx3
    simp (maxSteps := 10000000) (disch := first | assumption | (simp only [tyfacts, Am.wd, Nat.reduceEqDiff, Nat.reduceLT, reduceCtorEq]; try omega; done) | omega) only [Am.wanted, Am.isAlloc, Am.wb0, Am.wb1, Am.wb2, Am.wb3, Am.wb4, Am.wb5, Am.wb6, Am.wb7, Am.wb8, Am.wb9, Am.reads, Am.quiet, Am.over, Nat.testBit, Nat.reduceShiftRight, Nat.reduceAnd, Nat.reduceBNe, Nat.reduceLeDiff, Nat.reduceAdd, Nat.reduceMul, Nat.reduceLT, Nat.reduceEqDiff, Nat.reduceSub, reduceCtorEq, ↓reduceIte, tyfacts]
    cases hk : inR ts k with
    | false =>
      simp (maxSteps := 10000000) (disch := first | assumption | (simp only [tyfacts, Am.wd, Nat.reduceEqDiff, Nat.reduceLT, reduceCtorEq]; try omega; done) | omega) only [Am.wanted, Am.isAlloc, Am.wb0, Am.wb1, Am.wb2, Am.wb3, Am.wb4, Am.wb5, Am.wb6, Am.wb7, Am.wb8, Am.wb9, Am.reads, Am.quiet, Am.over, Nat.testBit, Nat.reduceShiftRight, Nat.reduceAnd, Nat.reduceBNe, Nat.reduceLeDiff, Nat.reduceAdd, Nat.reduceMul, Nat.reduceLT, Nat.reduceEqDiff, Nat.reduceSub, reduceCtorEq, ↓reduceIte, tyfacts]
      exact ⟨by rw [precF, if_neg h1, if_neg (by simp [hk])], hx3⟩
    | true =>
      have hi' : 0 ≤ i ∧ i < ts.length := by simpa [inR] using hi
      have hk' : 0 ≤ k ∧ k < ts.length := by simpa [inR] using hk
      simp (maxSteps := 10000000) (disch := first | assumption | (simp only [tyfacts, Am.wd, Nat.reduceEqDiff, Nat.reduceLT, reduceCtorEq]; try omega; done) | omega) only [Am.wanted, Am.isAlloc, Am.wb0, Am.wb1, Am.wb2, Am.wb3, Am.wb4, Am.wb5, Am.wb6, Am.wb7, Am.wb8, Am.wb9, Am.reads, Am.quiet, Am.over, Nat.testBit, Nat.reduceShiftRight, Nat.reduceAnd, Nat.reduceBNe, Nat.reduceLeDiff, Nat.reduceAdd, Nat.reduceMul, Nat.reduceLT, Nat.reduceEqDiff, Nat.reduceSub, reduceCtorEq, ↓reduceIte, tyfacts]
      refine Am.wpK_draw 13 [0, 1, 2, 3, 4, 5, 6, 7, 8, 9, 10, 11, 12] (hx3).wf (by kernel_rfl) ?_
      have hx4 := (hx3).keep 13
      generalize hH4 : Am.Heap.keep _ _ = H4
      replace hx4 : Am.Ext _ H4 := hH4 ▸ hx4
      have hl4 := hl.mono hx4
      have b1 : i.toNat < ts.length := by omega
      have b2 : k.toNat < ts.length := by omega
      simp (maxSteps := 10000000) (disch := first | assumption | (simp only [tyfacts, Am.wd, Nat.reduceEqDiff, Nat.reduceLT, reduceCtorEq]; try omega; done) | omega) only [Am.wanted, Am.isAlloc, Am.wb0, Am.wb1, Am.wb2, Am.wb3, Am.wb4, Am.wb5, Am.wb6, Am.wb7, Am.wb8, Am.wb9, Am.reads, Am.quiet, Am.over, Nat.testBit, Nat.reduceShiftRight, Nat.reduceAnd, Nat.reduceBNe, Nat.reduceLeDiff, Nat.reduceAdd, Nat.reduceMul, Nat.reduceLT, Nat.reduceEqDiff, Nat.reduceSub, reduceCtorEq, ↓reduceIte, tyfacts, hl4.idxI, hl4.isPtr, hl4.loadF, Tr5.cells]
      refine ⟨?_, hx4⟩
      rw [precF, if_neg h1, if_pos (by simp [hi, hk]), prec_eq b1 b2]
end Go.Proofs.Ytkjknmdnehknbaa.W

/- Who precedes whom, handed on pair by pair. No conditions. -/
namespace Go.Proofs.Ytkjknmdnehknbaa.W
open Go.Am Go.Am.Ord

def cP (p : Nat × Nat) : List V := [.int .i64 p.1, .int .i64 p.2]
theorem pairs_ok {H : Heap} (wf : H.WF) {v : V} (hv : v.cells = [v]) :
    CallsTo T 32 [v] H fun r H' => r = .func (.func 42) [] [.ptr H.n 0] ∧ H' = H.push (.cells false [v]) := by
  refine Am.calls_enter (T := T) rfl Try.func32 rfl (by simp only [Try.f32, List.length_cons, List.length_nil]; decide) ?_
  simp only [Try.f32]
  simp (maxSteps := 10000000) (disch := first | assumption | (simp only [tyfacts, Am.wd, Nat.reduceEqDiff, Nat.reduceLT, reduceCtorEq]; try omega; done) | omega) only [Am.wanted, Am.isAlloc, Am.wb0, Am.wb1, Am.wb2, Am.wb3, Am.wb4, Am.wb5, Am.wb6, Am.wb7, Am.wb8, Am.wb9, Am.reads, Am.quiet, Am.over, Nat.testBit, Nat.reduceShiftRight, Nat.reduceAnd, Nat.reduceBNe, Nat.reduceLeDiff, Nat.reduceAdd, Nat.reduceMul, Nat.reduceLT, Nat.reduceEqDiff, Nat.reduceSub, reduceCtorEq, ↓reduceIte, tyfacts, hv]

/-- What the pairs are handed on from. -/
def PK (v : V) (ts : List Tr5) (p : Nat) (H : Heap) : Prop := H.WF ∧ Sl H v 5 (ts.map Tr5.cells) ∧ H.get p = some (.cells false [v])
theorem pairs1 {v : V} {ts : List Tr5} (hg : ∀ t, t ∈ ts → t.Good) {p : Nat} (hlen : ts.length < 1000000) :
    Gives T (.func (.func 42) [] [.ptr p 0]) ((pairsF ts).map cP) (PK v ts p) := by
  intro y J D hJx hJl hJs hDs hstep M0 H1 hJ0
  show CallsTo T 42 [y, .ptr p 0] H1 _
  obtain ⟨w1, hl1, hp⟩ := hJx 0 M0 H1 hJ0
  have hp1 := cellsAt_of_get hp
  have L := hl1.len
  refine Am.calls_enter (T := T) rfl Try.func42 rfl (by simp only [Try.f42, List.length_cons, List.length_nil]; decide) ?_
  simp only [Try.f42]
  simp (maxSteps := 10000000) (disch := first | assumption | (simp only [tyfacts, Am.wd, Nat.reduceEqDiff, Nat.reduceLT, reduceCtorEq]; try omega; done) | omega) only [Am.wanted, Am.isAlloc, Am.wb0, Am.wb1, Am.wb2, Am.wb3, Am.wb4, Am.wb5, Am.wb6, Am.wb7, Am.wb8, Am.wb9, Am.reads, Am.quiet, Am.over, Nat.testBit, Nat.reduceShiftRight, Nat.reduceAnd, Nat.reduceBNe, Nat.reduceLeDiff, Nat.reduceAdd, Nat.reduceMul, Nat.reduceLT, Nat.reduceEqDiff, Nat.reduceSub, reduceCtorEq, ↓reduceIte, tyfacts, hp1, L]
  refine wpK_loop_ind _ (fun i : Nat => ts.length - i) (fun i a H' => a.tmps.n = 35 ∧ a.defers = [] ∧ a.tmp 0 = y ∧ a.tmp 1 = .ptr p 0 ∧ a.tmp 7 = v ∧ a.tmp 8 = .int .i64 ts.length ∧ a.tmp 9 = .int .i64 i ∧ (∃ M, J (pre ts i 0).length M H') ∧ i ≤ ts.length) 0 ?_ ?_
  · simp (maxSteps := 10000000) (disch := first | assumption | (simp only [tyfacts, Am.wd, Nat.reduceEqDiff, Nat.reduceLT, reduceCtorEq]; try omega; done) | omega) only [Am.wanted, Am.isAlloc, Am.wb0, Am.wb1, Am.wb2, Am.wb3, Am.wb4, Am.wb5, Am.wb6, Am.wb7, Am.wb8, Am.wb9, Am.reads, Am.quiet, Am.over, Nat.testBit, Nat.reduceShiftRight, Nat.reduceAnd, Nat.reduceBNe, Nat.reduceLeDiff, Nat.reduceAdd, Nat.reduceMul, Nat.reduceLT, Nat.reduceEqDiff, Nat.reduceSub, reduceCtorEq, ↓reduceIte, tyfacts]
    exact ⟨rfl, ⟨M0, hJ0⟩, by omega⟩
  intro i a H2 ⟨hn, hd, h0, h1, h7, h8, h9, ⟨M, hJ⟩, hi⟩ ih
  obtain ⟨w2, hl2, hpp⟩ := hJx _ M H2 hJ
  simp (maxSteps := 10000000) (disch := first | assumption | (simp only [tyfacts, Am.wd, Nat.reduceEqDiff, Nat.reduceLT, reduceCtorEq]; try omega; done) | omega) only [Am.wanted, Am.isAlloc, Am.wb0, Am.wb1, Am.wb2, Am.wb3, Am.wb4, Am.wb5, Am.wb6, Am.wb7, Am.wb8, Am.wb9, Am.reads, Am.quiet, Am.over, Nat.testBit, Nat.reduceShiftRight, Nat.reduceAnd, Nat.reduceBNe, Nat.reduceLeDiff, Nat.reduceAdd, Nat.reduceMul, Nat.reduceLT, Nat.reduceEqDiff, Nat.reduceSub, reduceCtorEq, ↓reduceIte, tyfacts, h8, h9, hn]
  refine wpB_dec (fun hc => ?_) (fun hc => ?_)
  · have hj : i < ts.length := by omega
    have gi := hg ts[i] (List.getElem_mem hj)
    have hp2 := cellsAt_of_get hpp
    have plt := Heap.lt hpp
    simp (maxSteps := 10000000) (disch := first | assumption | (simp only [tyfacts, Am.wd, Nat.reduceEqDiff, Nat.reduceLT, reduceCtorEq]; try omega; done) | omega) only [Am.wanted, Am.isAlloc, Am.wb0, Am.wb1, Am.wb2, Am.wb3, Am.wb4, Am.wb5, Am.wb6, Am.wb7, Am.wb8, Am.wb9, Am.reads, Am.quiet, Am.over, Nat.testBit, Nat.reduceShiftRight, Nat.reduceAnd, Nat.reduceBNe, Nat.reduceLeDiff, Nat.reduceAdd, Nat.reduceMul, Nat.reduceLT, Nat.reduceEqDiff, Nat.reduceSub, reduceCtorEq, ↓reduceIte, tyfacts, h0, h1, h7, h9, hn, hl2.idx, hl2.loadG, Tr5.cells, gi.1, gi.2.1, gi.2.2, hp2, L]
    have q1 : Ext H2 (H2.push (.cells false [ts[i].nm, .int .i64 ts[i].b, .int .i64 ts[i].c, ts[i].acts, ts[i].at_])) := (Ext.refl w2).push _
    have mlt := hJl _ M H2 hJ
    refine wpK_loop_ind _ (fun k : Nat => ts.length - k) (fun k a H' => a.tmps.n = 35 ∧ a.defers = [] ∧ a.tmp 0 = y ∧ a.tmp 1 = .ptr p 0 ∧ a.tmp 7 = v ∧ a.tmp 8 = .int .i64 ts.length ∧ a.tmp 9 = .int .i64 i ∧
      a.tmp 3 = .int .i64 i ∧ a.tmp 4 = .ptr H2.n 0 ∧ a.tmp 14 = v ∧ a.tmp 15 = .int .i64 ts.length ∧ a.tmp 16 = .int .i64 k ∧
      (∃ M, J (pre ts i k).length M H' ∧ ¬ M H2.n ∧ H'.get H2.n = some (.cells false [ts[i].nm, .int .i64 ts[i].b, .int .i64 ts[i].c, ts[i].acts, ts[i].at_])) ∧ k ≤ ts.length) 0 ?_ ?_
    · simp (maxSteps := 10000000) (disch := first | assumption | (simp only [tyfacts, Am.wd, Nat.reduceEqDiff, Nat.reduceLT, reduceCtorEq]; try omega; done) | omega) only [Am.wanted, Am.isAlloc, Am.wb0, Am.wb1, Am.wb2, Am.wb3, Am.wb4, Am.wb5, Am.wb6, Am.wb7, Am.wb8, Am.wb9, Am.reads, Am.quiet, Am.over, Nat.testBit, Nat.reduceShiftRight, Nat.reduceAnd, Nat.reduceBNe, Nat.reduceLeDiff, Nat.reduceAdd, Nat.reduceMul, Nat.reduceLT, Nat.reduceEqDiff, Nat.reduceSub, reduceCtorEq, ↓reduceIte, tyfacts, hn, hd, h0, h1, h7, h8, h9]
      exact ⟨by simp, ⟨M, hJs _ _ _ _ hJ q1, fun h => by have := mlt _ h; omega⟩, by omega⟩
    intro k a H3 ⟨hn, hd, h0, h1, h7, h8, h9, h3, h4, h14, h15, h16, ⟨M3, hJ3, hM3, hq⟩, hk⟩ ih2
    obtain ⟨w3, hl3, _⟩ := hJx _ M3 H3 hJ3
    have hq3 := cellsAt_of_get hq
    have qlt := Heap.lt hq
    simp (maxSteps := 10000000) (disch := first | assumption | (simp only [tyfacts, Am.wd, Nat.reduceEqDiff, Nat.reduceLT, reduceCtorEq]; try omega; done) | omega) only [Am.wanted, Am.isAlloc, Am.wb0, Am.wb1, Am.wb2, Am.wb3, Am.wb4, Am.wb5, Am.wb6, Am.wb7, Am.wb8, Am.wb9, Am.reads, Am.quiet, Am.over, Nat.testBit, Nat.reduceShiftRight, Nat.reduceAnd, Nat.reduceBNe, Nat.reduceLeDiff, Nat.reduceAdd, Nat.reduceMul, Nat.reduceLT, Nat.reduceEqDiff, Nat.reduceSub, reduceCtorEq, ↓reduceIte, tyfacts, h15, h16, hn]
    refine wpB_dec (fun hc => ?_) (fun hc => ?_)
    · have hj2 : k < ts.length := by omega
      have gk := hg ts[k] (List.getElem_mem hj2)
      have q2 : Ext H3 (H3.push (.cells false [ts[k].nm, .int .i64 ts[k].b, .int .i64 ts[k].c, ts[k].acts, ts[k].at_])) := (Ext.refl w3).push _
      by_cases hpr : ts[i].c < ts[k].b
      · have hpe : prec ts i k = true := by rw [prec_eq hj hj2]; simpa using hpr
        simp (maxSteps := 10000000) (disch := first | assumption | (simp only [tyfacts, Am.wd, Nat.reduceEqDiff, Nat.reduceLT, reduceCtorEq]; try omega; done) | omega) only [Am.wanted, Am.isAlloc, Am.wb0, Am.wb1, Am.wb2, Am.wb3, Am.wb4, Am.wb5, Am.wb6, Am.wb7, Am.wb8, Am.wb9, Am.reads, Am.quiet, Am.over, Nat.testBit, Nat.reduceShiftRight, Nat.reduceAnd, Nat.reduceBNe, Nat.reduceLeDiff, Nat.reduceAdd, Nat.reduceMul, Nat.reduceLT, Nat.reduceEqDiff, Nat.reduceSub, reduceCtorEq, ↓reduceIte, tyfacts, h0, h1, h3, h4, h7, h9, h14, h16, hn, hl3.idx, hl3.loadG, Tr5.cells, gk.1, gk.2.1, gk.2.2, hq3, hpr]
        have hge := pre_get hj hj2 hpe
        have hlt : (pre ts i k).length < (pairsF ts).length := by
          rcases Nat.lt_or_ge (pre ts i k).length (pairsF ts).length with h | h
          · exact h
          · rw [List.getElem?_eq_none h] at hge; cases hge
        have hst := hstep (pre ts i k).length (by simpa using hlt) M3 _ (hJs _ _ _ _ hJ3 q2)
        rw [show ((pairsF ts).map cP)[(pre ts i k).length]'(by simpa using hlt) = [V.int .i64 i, V.int .i64 k] from by
          rw [List.getElem?_eq_getElem hlt] at hge
          simp [Option.some.inj hge, cP]] at hst
        refine wpX_callV hst fun r H4 hr => ?_
        rcases hr with ⟨rfl, M4, hJ4, hb4, hM4⟩ | ⟨rfl, hD⟩
        · simp (maxSteps := 10000000) (disch := first | assumption | (simp only [tyfacts, Am.wd, Nat.reduceEqDiff, Nat.reduceLT, reduceCtorEq]; try omega; done) | omega) only [Am.wanted, Am.isAlloc, Am.wb0, Am.wb1, Am.wb2, Am.wb3, Am.wb4, Am.wb5, Am.wb6, Am.wb7, Am.wb8, Am.wb9, Am.reads, Am.quiet, Am.over, Nat.testBit, Nat.reduceShiftRight, Nat.reduceAnd, Nat.reduceBNe, Nat.reduceLeDiff, Nat.reduceAdd, Nat.reduceMul, Nat.reduceLT, Nat.reduceEqDiff, Nat.reduceSub, reduceCtorEq, ↓reduceIte, tyfacts, h16, hn]
          refine ih2 (k + 1) _ _ (by omega) ?_
          simp (maxSteps := 10000000) (disch := first | assumption | (simp only [tyfacts, Am.wd, Nat.reduceEqDiff, Nat.reduceLT, reduceCtorEq]; try omega; done) | omega) only [Am.wanted, Am.isAlloc, Am.wb0, Am.wb1, Am.wb2, Am.wb3, Am.wb4, Am.wb5, Am.wb6, Am.wb7, Am.wb8, Am.wb9, Am.reads, Am.quiet, Am.over, Nat.testBit, Nat.reduceShiftRight, Nat.reduceAnd, Nat.reduceBNe, Nat.reduceLeDiff, Nat.reduceAdd, Nat.reduceMul, Nat.reduceLT, Nat.reduceEqDiff, Nat.reduceSub, reduceCtorEq, ↓reduceIte, tyfacts, hn, hd, h0, h1, h3, h4, h7, h8, h9, h14, h15]
          refine ⟨by simp, ⟨M4, ?_, fun h => ?_, hb4.get _ _ hM3 (q2.get _ _ hq)⟩, by omega⟩
          · rw [pre_succ, if_pos hpe]; simpa using hJ4
          · rcases hM4 _ h with h | h
            · exact hM3 h
            · have := q2.n; simp at h; omega
        · simp (maxSteps := 10000000) (disch := first | assumption | (simp only [tyfacts, Am.wd, Nat.reduceEqDiff, Nat.reduceLT, reduceCtorEq]; try omega; done) | omega) only [Am.wanted, Am.isAlloc, Am.wb0, Am.wb1, Am.wb2, Am.wb3, Am.wb4, Am.wb5, Am.wb6, Am.wb7, Am.wb8, Am.wb9, Am.reads, Am.quiet, Am.over, Nat.testBit, Nat.reduceShiftRight, Nat.reduceAnd, Nat.reduceBNe, Nat.reduceLeDiff, Nat.reduceAdd, Nat.reduceMul, Nat.reduceLT, Nat.reduceEqDiff, Nat.reduceSub, reduceCtorEq, ↓reduceIte, tyfacts, hn, hd]
          exact .inr hD
      · have hpe : prec ts i k = false := by rw [prec_eq hj hj2]; simpa using hpr
        simp (maxSteps := 10000000) (disch := first | assumption | (simp only [tyfacts, Am.wd, Nat.reduceEqDiff, Nat.reduceLT, reduceCtorEq]; try omega; done) | omega) only [Am.wanted, Am.isAlloc, Am.wb0, Am.wb1, Am.wb2, Am.wb3, Am.wb4, Am.wb5, Am.wb6, Am.wb7, Am.wb8, Am.wb9, Am.reads, Am.quiet, Am.over, Nat.testBit, Nat.reduceShiftRight, Nat.reduceAnd, Nat.reduceBNe, Nat.reduceLeDiff, Nat.reduceAdd, Nat.reduceMul, Nat.reduceLT, Nat.reduceEqDiff, Nat.reduceSub, reduceCtorEq, ↓reduceIte, tyfacts, h0, h1, h3, h4, h7, h9, h14, h16, hn, hl3.idx, hl3.loadG, Tr5.cells, gk.1, gk.2.1, gk.2.2, hq3, hpr]
        refine ih2 (k + 1) _ _ (by omega) ?_
        simp (maxSteps := 10000000) (disch := first | assumption | (simp only [tyfacts, Am.wd, Nat.reduceEqDiff, Nat.reduceLT, reduceCtorEq]; try omega; done) | omega) only [Am.wanted, Am.isAlloc, Am.wb0, Am.wb1, Am.wb2, Am.wb3, Am.wb4, Am.wb5, Am.wb6, Am.wb7, Am.wb8, Am.wb9, Am.reads, Am.quiet, Am.over, Nat.testBit, Nat.reduceShiftRight, Nat.reduceAnd, Nat.reduceBNe, Nat.reduceLeDiff, Nat.reduceAdd, Nat.reduceMul, Nat.reduceLT, Nat.reduceEqDiff, Nat.reduceSub, reduceCtorEq, ↓reduceIte, tyfacts, hn, hd, h0, h1, h3, h4, h7, h8, h9, h14, h15]
        refine ⟨by simp, ⟨M3, ?_, hM3, hq⟩, by omega⟩
        rw [pre_succ, hpe]; simpa using hJs _ _ _ _ hJ3 q2
    · have : k = ts.length := by omega
      subst this
      simp (maxSteps := 10000000) (disch := first | assumption | (simp only [tyfacts, Am.wd, Nat.reduceEqDiff, Nat.reduceLT, reduceCtorEq]; try omega; done) | omega) only [Am.wanted, Am.isAlloc, Am.wb0, Am.wb1, Am.wb2, Am.wb3, Am.wb4, Am.wb5, Am.wb6, Am.wb7, Am.wb8, Am.wb9, Am.reads, Am.quiet, Am.over, Nat.testBit, Nat.reduceShiftRight, Nat.reduceAnd, Nat.reduceBNe, Nat.reduceLeDiff, Nat.reduceAdd, Nat.reduceMul, Nat.reduceLT, Nat.reduceEqDiff, Nat.reduceSub, reduceCtorEq, ↓reduceIte, tyfacts, hn, hd, h9]
      refine ih (i + 1) _ _ (by omega) ?_
      simp (maxSteps := 10000000) (disch := first | assumption | (simp only [tyfacts, Am.wd, Nat.reduceEqDiff, Nat.reduceLT, reduceCtorEq]; try omega; done) | omega) only [Am.wanted, Am.isAlloc, Am.wb0, Am.wb1, Am.wb2, Am.wb3, Am.wb4, Am.wb5, Am.wb6, Am.wb7, Am.wb8, Am.wb9, Am.reads, Am.quiet, Am.over, Nat.testBit, Nat.reduceShiftRight, Nat.reduceAnd, Nat.reduceBNe, Nat.reduceLeDiff, Nat.reduceAdd, Nat.reduceMul, Nat.reduceLT, Nat.reduceEqDiff, Nat.reduceSub, reduceCtorEq, ↓reduceIte, tyfacts, hn, hd, h0, h1, h7, h8]
      exact ⟨by simp, ⟨M3, by rw [← pre_row]; exact hJ3⟩, by omega⟩
  · have : i = ts.length := by omega
    subst this
    simp (maxSteps := 10000000) (disch := first | assumption | (simp only [tyfacts, Am.wd, Nat.reduceEqDiff, Nat.reduceLT, reduceCtorEq]; try omega; done) | omega) only [Am.wanted, Am.isAlloc, Am.wb0, Am.wb1, Am.wb2, Am.wb3, Am.wb4, Am.wb5, Am.wb6, Am.wb7, Am.wb8, Am.wb9, Am.reads, Am.quiet, Am.over, Nat.testBit, Nat.reduceShiftRight, Nat.reduceAnd, Nat.reduceBNe, Nat.reduceLeDiff, Nat.reduceAdd, Nat.reduceMul, Nat.reduceLT, Nat.reduceEqDiff, Nat.reduceSub, reduceCtorEq, ↓reduceIte, tyfacts, hd, hn]
    refine .inl ⟨M, ?_⟩
    rw [← pre_all]; exact hJ
end Go.Proofs.Ytkjknmdnehknbaa.W

/- All who precede whom, as edges. No conditions. -/
namespace Go.Proofs.Ytkjknmdnehknbaa.W
open Go.Am Go.Am.Ord

theorem edges_ok {H : Heap} (wf : H.WF) {l : V} {ts : List Tr5} (hl : Sl H l 5 (ts.map Tr5.cells)) (hg : ∀ t, t ∈ ts → t.Good) (hlen : ts.length ≤ 1000) :
    CallsTo T 13 [l] H fun r H' => ∃ v, r = .tuple [v, .int .i64 (edgesF ts).2] ∧ Mine H.n H' v 2 ((edgesF ts).1.map cP) ∧ Ext H H' := by
  refine Am.calls_enter (T := T) rfl Try.func13 rfl (by simp only [Try.f13, List.length_cons, List.length_nil]; decide) ?_
  simp only [Try.f13]
  simp (maxSteps := 10000000) (disch := first | assumption | (simp only [tyfacts, Am.wd, Nat.reduceEqDiff, Nat.reduceLT, reduceCtorEq]; try omega; done) | omega) only [Am.wanted, Am.isAlloc, Am.wb0, Am.wb1, Am.wb2, Am.wb3, Am.wb4, Am.wb5, Am.wb6, Am.wb7, Am.wb8, Am.wb9, Am.reads, Am.quiet, Am.over, Nat.testBit, Nat.reduceShiftRight, Nat.reduceAnd, Nat.reduceBNe, Nat.reduceLeDiff, Nat.reduceAdd, Nat.reduceMul, Nat.reduceLT, Nat.reduceEqDiff, Nat.reduceSub, reduceCtorEq, ↓reduceIte, tyfacts]
  have hx1 : Ext H ((H.push (.cells false [.nilSlice])).push (.cells false [.int .i64 0])) := ((Ext.refl wf).push _).push _
  refine wpX_call (check_ok hx1.wf (hl.mono hx1) (by omega)) fun r H1 ⟨hr, hx⟩ => ?_
  subst hr
  have g1 : H1.get (H.n + 1) = some (.cells false [.int .i64 0]) := hx.get _ _ (by simp [Heap.get_push])
  have g2 : H1.get H.n = some (.cells false [.nilSlice]) := hx.get _ _ (by simp [Heap.get_push])
  have hxx := hx1.trans hx
  have e1 := Heap.lt g1
  have e2 := Heap.lt g2
  simp (maxSteps := 10000000) (disch := first | assumption | (simp only [tyfacts, Am.wd, Nat.reduceEqDiff, Nat.reduceLT, reduceCtorEq]; try omega; done) | omega) only [Am.wanted, Am.isAlloc, Am.wb0, Am.wb1, Am.wb2, Am.wb3, Am.wb4, Am.wb5, Am.wb6, Am.wb7, Am.wb8, Am.wb9, Am.reads, Am.quiet, Am.over, Nat.testBit, Nat.reduceShiftRight, Nat.reduceAnd, Nat.reduceBNe, Nat.reduceLeDiff, Nat.reduceAdd, Nat.reduceMul, Nat.reduceLT, Nat.reduceEqDiff, Nat.reduceSub, reduceCtorEq, ↓reduceIte, tyfacts, g1]

  refine wpB_dec (fun hc => ?_) (fun hc => ?_)
  · simp (maxSteps := 10000000) (disch := first | assumption | (simp only [tyfacts, Am.wd, Nat.reduceEqDiff, Nat.reduceLT, reduceCtorEq]; try omega; done) | omega) only [Am.wanted, Am.isAlloc, Am.wb0, Am.wb1, Am.wb2, Am.wb3, Am.wb4, Am.wb5, Am.wb6, Am.wb7, Am.wb8, Am.wb9, Am.reads, Am.quiet, Am.over, Nat.testBit, Nat.reduceShiftRight, Nat.reduceAnd, Nat.reduceBNe, Nat.reduceLeDiff, Nat.reduceAdd, Nat.reduceMul, Nat.reduceLT, Nat.reduceEqDiff, Nat.reduceSub, reduceCtorEq, ↓reduceIte, tyfacts]
    have hx3 : Ext H (H1.put (H.n + 1) (.cells false [.int .i64 (checkF ts)])) := hxx.put (by omega) e1 _
    refine Am.wpK_draw2 3 [1,0,2] [0,0,3] (hx3).wf (by kernel_rfl) ?_
    have hx4 := (hx3).keep 3
    generalize hH4 : Am.Heap.keep _ _ = H4
    replace hx4 : Am.Ext _ H4 := hH4 ▸ hx4
    have k1 : H4.get (H.n + 1) = some (.cells false [.int .i64 (checkF ts)]) := by rw [← hH4, Heap.get_keep hx3.wf, get_put_same e1]
    have k2 : H4.get H.n = some (.cells false [.nilSlice]) := by rw [← hH4, Heap.get_keep hx3.wf, Heap.get_put_ne (by omega)]; exact g2
    have f1 := Heap.lt k1
    have f2 := Heap.lt k2
    have k1' := cellsAt_of_get k1
    simp (maxSteps := 10000000) (disch := first | assumption | (simp only [tyfacts, Am.wd, Nat.reduceEqDiff, Nat.reduceLT, reduceCtorEq]; try omega; done) | omega) only [Am.wanted, Am.isAlloc, Am.wb0, Am.wb1, Am.wb2, Am.wb3, Am.wb4, Am.wb5, Am.wb6, Am.wb7, Am.wb8, Am.wb9, Am.reads, Am.quiet, Am.over, Nat.testBit, Nat.reduceShiftRight, Nat.reduceAnd, Nat.reduceBNe, Nat.reduceLeDiff, Nat.reduceAdd, Nat.reduceMul, Nat.reduceLT, Nat.reduceEqDiff, Nat.reduceSub, reduceCtorEq, ↓reduceIte, tyfacts, k1, k2, k1']
    refine ⟨.nilSlice, by rw [edgesF, if_pos hc], ?_, (hx4.put (Nat.le_refl _) f2 _).put (by omega) (by simpa using f1) _⟩
    rw [edgesF, if_pos hc]
    exact Mine.nil _ _ _
  · simp (maxSteps := 10000000) (disch := first | assumption | (simp only [tyfacts, Am.wd, Nat.reduceEqDiff, Nat.reduceLT, reduceCtorEq]; try omega; done) | omega) only [Am.wanted, Am.isAlloc, Am.wb0, Am.wb1, Am.wb2, Am.wb3, Am.wb4, Am.wb5, Am.wb6, Am.wb7, Am.wb8, Am.wb9, Am.reads, Am.quiet, Am.over, Nat.testBit, Nat.reduceShiftRight, Nat.reduceAnd, Nat.reduceBNe, Nat.reduceLeDiff, Nat.reduceAdd, Nat.reduceMul, Nat.reduceLT, Nat.reduceEqDiff, Nat.reduceSub, reduceCtorEq, ↓reduceIte, tyfacts]
    have hc0 : checkF ts = 0 := by omega
    have hx3 : Ext H (H1.put (H.n + 1) (.cells false [.int .i64 (checkF ts)])) := hxx.put (by omega) e1 _
    refine wpX_call (pairs_ok hx3.wf hl.cells) fun r H4 ⟨hr, hH4⟩ => ?_
    subst hr
    simp (maxSteps := 10000000) (disch := first | assumption | (simp only [tyfacts, Am.wd, Nat.reduceEqDiff, Nat.reduceLT, reduceCtorEq]; try omega; done) | omega) only [Am.wanted, Am.isAlloc, Am.wb0, Am.wb1, Am.wb2, Am.wb3, Am.wb4, Am.wb5, Am.wb6, Am.wb7, Am.wb8, Am.wb9, Am.reads, Am.quiet, Am.over, Nat.testBit, Nat.reduceShiftRight, Nat.reduceAnd, Nat.reduceBNe, Nat.reduceLeDiff, Nat.reduceAdd, Nat.reduceMul, Nat.reduceLT, Nat.reduceEqDiff, Nat.reduceSub, reduceCtorEq, ↓reduceIte, tyfacts]
    refine Am.wpF_range (rfl) ?_
    generalize hC : Am.LC.mk 0 _ _ _ _ _ = C
    have hCt := (congrArg Am.LC.tmps hC).symm
    have hCp := (congrArg Am.LC.params hC).symm
    have hCa := (congrArg Am.LC.assign hC).symm
    have hCb := (congrArg Am.LC.body hC).symm
    simp only [] at hCt hCp hCa hCb
    clear hC
    have hx4 : Ext H H4 := by rw [hH4]; exact hx3.push _
    have hx5 : Ext H4 ((H4.push (.deferred (some []))).push (loopO .ready none C)) := ((Ext.refl hx4.wf).push _).push _
    have p4 : H4.get H1.n = some (.cells false [l]) := by rw [hH4]; exact get_push_same (H1.put (H.n + 1) _) _
    have q2 : H4.get H.n = some (.cells false [.nilSlice]) := by rw [hH4, get_push_ne (by simp; omega), Heap.get_put_ne (by omega)]; exact g2
    have q3 : H4.get (H.n + 1) = some (.cells false [.int .i64 0]) := by rw [hH4, get_push_ne (by simp; omega), get_put_same e1, hc0]
    have n4 : H1.n + 1 = H4.n := by rw [hH4]; simp
    have hpl := pairs_length ts
    have hnn : ts.length * ts.length ≤ 1000 * 1000 := Nat.mul_le_mul hlen hlen
    have main := pairs1 (v := l) (p := H1.n) hg (by omega) (.func (.yield (H4.n + 1)) [] [])
      (fun i M H' => H'.get (H4.n + 1) = some (loopO .ready none C) ∧ H'.get H4.n = some (.deferred (some [])) ∧ H'.get (H.n + 1) = some (.cells false [.int .i64 0]) ∧ H'.get H1.n = some (.cells false [l]) ∧ ∃ v, H'.get H.n = some (.cells false [v]) ∧ Mine (H4.n + 2) H' v 2 (((pairsF ts).take i).map cP) ∧
        Ext H H' ∧ H4.n + 2 ≤ H'.n ∧ M = fun l => l = H4.n + 1 ∨ l = H.n ∨ Of v l) (fun _ => False)
      ?_ ?_ ?_ (fun _ _ h _ => h) ?_ (fun l => l = H4.n + 1 ∨ l = H.n ∨ Of .nilSlice l) ((H4.push (.deferred (some []))).push (loopO .ready none C)) ?_
    · refine main.mono fun r H' h => ?_
      rcases h with ⟨M, g1, g2, g3, g4, v, g5, g6, g7, g8, g9⟩ | h
      · rw [List.take_of_length_le (by simp)] at g6
        have e1 := Heap.lt g1
        have e2 := Heap.lt g2
        have e3 := Heap.lt g3
        have e5 := Heap.lt g5
        have g5' := cellsAt_of_get g5
        refine ⟨.ready, none, C, g1, by simp, ?_⟩
        have o1 := g6.sl.one
        simp (maxSteps := 10000000) (disch := first | assumption | (simp only [tyfacts, Am.wd, Nat.reduceEqDiff, Nat.reduceLT, reduceCtorEq]; try omega; done) | omega) only [Am.wanted, Am.isAlloc, Am.wb0, Am.wb1, Am.wb2, Am.wb3, Am.wb4, Am.wb5, Am.wb6, Am.wb7, Am.wb8, Am.wb9, Am.reads, Am.quiet, Am.over, Nat.testBit, Nat.reduceShiftRight, Nat.reduceAnd, Nat.reduceBNe, Nat.reduceLeDiff, Nat.reduceAdd, Nat.reduceMul, Nat.reduceLT, Nat.reduceEqDiff, Nat.reduceSub, reduceCtorEq, ↓reduceIte, tyfacts, g5', g5, g3, g2, g6.sl.cells, o1]
        refine ⟨v, by rw [edgesF, if_neg (by omega)], ?_, ((((g7.put (by omega) e1 _).put (Nat.le_refl _) (by simpa using e5) _).put (by omega) (by simpa using e3) _).put (by omega) (by simpa using e2) _)⟩
        rw [edgesF, if_neg (by omega)]
        refine (g6.ext (P := fun l => l < H4.n + 2) (((((ExtB.refl _ g7.wf).put (.inl (by omega)) e1 _).put (.inl (by omega)) (by simpa using e5) _).put (.inl (by omega)) (by simpa using e3) _).put (.inl (by omega)) (by simpa using e2) _) fun l hl h => ?_).lower (by omega)
        have := g6.ge hl; omega
      · exact h.elim
    · exact fun i M H' ⟨_, _, _, h4, v, _, _, h, _⟩ => ⟨h.wf, hl.mono h, h4⟩
    · rintro i M H' ⟨g1, g2, g3, g4, v, g5, g6, g7, g8, rfl⟩ l (rfl | rfl | hl)
      · exact Heap.lt g1
      · exact Heap.lt g5
      · exact g6.lt hl
    · intro i M K1 K2 ⟨g1, g2, g3, g4, v, g5, g6, g7, g8, g9⟩ hx
      exact ⟨hx.get _ _ g1, hx.get _ _ g2, hx.get _ _ g3, hx.get _ _ g4, v, hx.get _ _ g5, g6.mono hx, g7.trans hx, Nat.le_trans g8 hx.n, g9⟩
    · rintro i hi M K1 ⟨g1, g2, g3, g4, v, g5, g6, g7, g8, rfl⟩
      have hj : i < (pairsF ts).length := by simpa using hi
      show RoundTo T _ _ _ _
      refine round_to g1 (by simp [hCp, cP]) ?_
      have e1 := Heap.lt g1
      have e5 := Heap.lt g5
      have g5' := cellsAt_of_get g5
      simp (maxSteps := 10000000) (disch := first | assumption | (simp only [tyfacts, Am.wd, Nat.reduceEqDiff, Nat.reduceLT, reduceCtorEq]; try omega; done) | omega) only [Am.wanted, Am.isAlloc, Am.wb0, Am.wb1, Am.wb2, Am.wb3, Am.wb4, Am.wb5, Am.wb6, Am.wb7, Am.wb8, Am.wb9, Am.reads, Am.quiet, Am.over, Nat.testBit, Nat.reduceShiftRight, Nat.reduceAnd, Nat.reduceBNe, Nat.reduceLeDiff, Nat.reduceAdd, Nat.reduceMul, Nat.reduceLT, Nat.reduceEqDiff, Nat.reduceSub, reduceCtorEq, ↓reduceIte, tyfacts, g1, g5', hCa, hCb, hCt, hCp, cP, List.getElem_map]
      have b1 : ExtB (fun x => x = H4.n + 1) K1 (K1.put (H4.n + 1) (loopO .busy none C)) := (ExtB.refl (fun x => x = H4.n + 1) g7.wf).put (.inl rfl) e1 _
      have m1 : Mine (H4.n + 2) (K1.put (H4.n + 1) (loopO .busy none C)) v 2 (((pairsF ts).take i).map cP) := g6.ext b1 fun l hl e => g6.not g1 (by simp [loopO]) (e ▸ hl)
      have ha : appOk T 30 30 = some (2, 16) := by simp only [tyfacts]
      have hap := append_one m1 b1.wf (Nat.le_trans g8 b1.n) (k := K1.n) rfl ha (f := cP (pairsF ts)[i]) rfl rfl (by simp; omega) (by simp; omega)
      obtain ⟨v', K2, h1, h2, h3, h4⟩ := hap
      simp only [cP] at h1
      have nv : ∀ m, m < H4.n + 2 → ¬ Of v' m := fun m hm h => by have := h2.ge h; omega
      have nv0 : ∀ m, m < H4.n + 2 → ¬ Of v m := fun m hm h => by have := g6.ge h; omega
      have k1 : K2.get (H4.n + 1) = some (loopO .busy none C) := h3.get _ _ (nv0 _ (by omega)) (get_put_same e1 _)
      have k2 : K2.get H4.n = some (.deferred (some [])) := h3.get _ _ (nv0 _ (by omega)) (b1.get _ _ (by omega) g2)
      have k3 : K2.get (H.n + 1) = some (.cells false [.int .i64 0]) := h3.get _ _ (nv0 _ (by omega)) (b1.get _ _ (by omega) g3)
      have k4 : K2.get H1.n = some (.cells false [l]) := h3.get _ _ (nv0 _ (by omega)) (b1.get _ _ (by omega) g4)
      have k5 : K2.get H.n = some (.cells false [v]) := h3.get _ _ (nv0 _ (by omega)) (b1.get _ _ (by omega) g5)
      have o1 := h2.sl.one
      have f1 := Heap.lt k1
      have f5 := Heap.lt k5
      have hL : lenS v' = some (i + 1) := by rw [h2.len]; simp; omega
      simp (maxSteps := 10000000) (disch := first | assumption | (simp only [tyfacts, Am.wd, Nat.reduceEqDiff, Nat.reduceLT, reduceCtorEq]; try omega; done) | omega) only [Am.wanted, Am.isAlloc, Am.wb0, Am.wb1, Am.wb2, Am.wb3, Am.wb4, Am.wb5, Am.wb6, Am.wb7, Am.wb8, Am.wb9, Am.reads, Am.quiet, Am.over, Nat.testBit, Nat.reduceShiftRight, Nat.reduceAnd, Nat.reduceBNe, Nat.reduceLeDiff, Nat.reduceAdd, Nat.reduceMul, Nat.reduceLT, Nat.reduceEqDiff, Nat.reduceSub, reduceCtorEq, ↓reduceIte, tyfacts, h1, k5, k1, h2.sl.cells, hL, o1]
      refine wpB_dec (fun hc => by omega) (fun hc => ?_)
      simp (maxSteps := 10000000) (disch := first | assumption | (simp only [tyfacts, Am.wd, Nat.reduceEqDiff, Nat.reduceLT, reduceCtorEq]; try omega; done) | omega) only [Am.wanted, Am.isAlloc, Am.wb0, Am.wb1, Am.wb2, Am.wb3, Am.wb4, Am.wb5, Am.wb6, Am.wb7, Am.wb8, Am.wb9, Am.reads, Am.quiet, Am.over, Nat.testBit, Nat.reduceShiftRight, Nat.reduceAnd, Nat.reduceBNe, Nat.reduceLeDiff, Nat.reduceAdd, Nat.reduceMul, Nat.reduceLT, Nat.reduceEqDiff, Nat.reduceSub, reduceCtorEq, ↓reduceIte, tyfacts, k1, k2, k3, k4]
      refine .inl ⟨_, ⟨v', rfl, ?_, ?_, Nat.le_trans g8 (Nat.le_trans b1.n h3.n), rfl⟩, ?_, ?_⟩
      · rw [map_take_succ cP _ hj]
        refine h2.ext (P := fun l => l < H4.n + 2) (((ExtB.refl _ h3.wf).put (.inl (by omega)) f5 _).put (.inl (by omega)) (by simpa using f1) _) fun l hl h => ?_
        have := h2.ge hl; omega
      · exact ((((g7.put (by omega) e1 _).thenB h3 fun l hl => by have := m1.ge hl; omega).put (by omega) f5 _).put (by omega) (by simpa using f1) _)
      · exact (((b1.weaken fun l h => .inl h).trans (h3.weaken fun l h => .inr (.inr h))).put (.inl (.inr (.inl rfl))) f5 _).put (.inl (.inl rfl)) (by simpa using f1) _
      · rintro l (h | h | h)
        · exact .inl (.inl h)
        · exact .inl (.inr (.inl h))
        · exact (h4 l h).imp (fun h => .inr (.inr h)) fun h => by simpa using h
    · refine ⟨?_, ?_, ?_, ?_, .nilSlice, ?_, ?_, hx4.trans hx5, by simp, rfl⟩
      · simp [Heap.get_push]
      · simp [Heap.get_push]
      · exact hx5.get _ _ q3
      · exact hx5.get _ _ p4
      · exact hx5.get _ _ q2
      · simpa using Mine.nil _ _ 2
end Go.Proofs.Ytkjknmdnehknbaa.W

/- Which lists are beginnings of transactions. No conditions. -/
namespace Go.Proofs.Ytkjknmdnehknbaa.W
open Go.Am Go.Am.Ord

theorem dd_sub : ∀ l : List Int, (dd l).Sublist l
  | [] => List.Sublist.refl _
  | [x] => List.Sublist.refl _
  | x :: y :: l => by
    simp only [dd]
    split
    · exact (dd_sub (y :: l)).cons x
    · exact (dd_sub (y :: l)).cons_cons x
theorem dd_eq_nodup : ∀ l : List Int, l.Pairwise (· ≤ ·) → (dd l = l ↔ l.Nodup)
  | [], _ => by simp [dd]
  | [x], _ => by simp [dd]
  | x :: y :: l, h => by
    have ih := dd_eq_nodup (y :: l) (List.pairwise_cons.1 h).2
    have hlen := dd_length (y :: l)
    simp only [dd]
    split
    · rename_i e
      subst e
      constructor
      · intro he
        have := congrArg List.length he
        simp only [List.length_cons] at this hlen; omega
      · intro hn; simp at hn
    · rename_i e
      rw [List.cons.injEq, List.nodup_cons]
      simp only [true_and]
      rw [ih]
      constructor
      · intro hn
        refine ⟨?_, hn⟩
        intro hm
        have h1 := List.pairwise_cons.1 h
        have h2 := List.pairwise_cons.1 h1.2
        have h3 := h1.1 y (by simp)
        rcases List.mem_cons.1 hm with rfl | hm
        · exact e rfl
        · have := h2.1 x hm; omega
      · exact fun hn => hn.2
theorem sorted_pairwise (l : List Int) : (sorted l).Pairwise (· ≤ ·) := by
  have := List.pairwise_mergeSort (le := fun x y : Int => decide (x ≤ y)) (fun a b c h1 h2 => by simp at *; omega) (fun a b => by simp; omega) l
  exact this.imp fun h => by simpa using h
theorem dd_len (l : List Int) : ((dd (sorted l)).length = l.length) ↔ l.Nodup := by
  have hp : (sorted l).Perm l := List.mergeSort_perm l _
  rw [← hp.nodup_iff, ← dd_eq_nodup _ (sorted_pairwise l), ← hp.length_eq]
  exact ⟨fun h => (dd_sub _).eq_of_length h, fun h => by rw [h]⟩

theorem fits1 {H : Heap} {l : V} {ts : List Tr5} (wf : H.WF) (hl : Sl H l 5 (ts.map Tr5.cells)) {p : Nat} (hp : H.get p = some (.cells false [l])) (i : Int) :
    CallsTo T 48 [.int .i64 i, .ptr p 0] H fun r H' => r = .bool (!inR ts i) ∧ Ext H H' := by
  have hp1 := cellsAt_of_get hp
  refine Am.calls_enter (T := T) rfl Try.func48 rfl (by simp only [Try.f48, List.length_cons, List.length_nil]; decide) ?_
  simp only [Try.f48]
  simp (maxSteps := 10000000) (disch := first | assumption | (simp only [tyfacts, Am.wd, Nat.reduceEqDiff, Nat.reduceLT, reduceCtorEq]; try omega; done) | omega) only [Am.wanted, Am.isAlloc, Am.wb0, Am.wb1, Am.wb2, Am.wb3, Am.wb4, Am.wb5, Am.wb6, Am.wb7, Am.wb8, Am.wb9, Am.reads, Am.quiet, Am.over, Nat.testBit, Nat.reduceShiftRight, Nat.reduceAnd, Nat.reduceBNe, Nat.reduceLeDiff, Nat.reduceAdd, Nat.reduceMul, Nat.reduceLT, Nat.reduceEqDiff, Nat.reduceSub, reduceCtorEq, ↓reduceIte, tyfacts, hp1]
  refine wpX_call (there_ok wf hl i) fun r H' ⟨hr, hx⟩ => ?_
  subst hr
  simp (maxSteps := 10000000) (disch := first | assumption | (simp only [tyfacts, Am.wd, Nat.reduceEqDiff, Nat.reduceLT, reduceCtorEq]; try omega; done) | omega) only [Am.wanted, Am.isAlloc, Am.wb0, Am.wb1, Am.wb2, Am.wb3, Am.wb4, Am.wb5, Am.wb6, Am.wb7, Am.wb8, Am.wb9, Am.reads, Am.quiet, Am.over, Nat.testBit, Nat.reduceShiftRight, Nat.reduceAnd, Nat.reduceBNe, Nat.reduceLeDiff, Nat.reduceAdd, Nat.reduceMul, Nat.reduceLT, Nat.reduceEqDiff, Nat.reduceSub, reduceCtorEq, ↓reduceIte, tyfacts]
  exact hx

theorem fits_ok {H : Heap} (wf : H.WF) {l o : V} {ts : List Tr5} {xs : List Int} (hl : Sl H l 5 (ts.map Tr5.cells)) (ho : Sl H o 1 (xs.map cI)) (hlen : ts.length < 1000000) (hxs : xs.length < 1000000) :
    CallsTo T 41 [l, o] H fun r H' => r = .int .i64 (fitsF ts xs) ∧ Ext H H' := by
  refine Am.calls_enter (T := T) rfl Try.func41 rfl (by simp only [Try.f41, List.length_cons, List.length_nil]; decide) ?_
  simp only [Try.f41]
  have hx1 : Ext H (H.push (.cells false [l])) := (Ext.refl wf).push _
  simp (maxSteps := 10000000) (disch := first | assumption | (simp only [tyfacts, Am.wd, Nat.reduceEqDiff, Nat.reduceLT, reduceCtorEq]; try omega; done) | omega) only [Am.wanted, Am.isAlloc, Am.wb0, Am.wb1, Am.wb2, Am.wb3, Am.wb4, Am.wb5, Am.wb6, Am.wb7, Am.wb8, Am.wb9, Am.reads, Am.quiet, Am.over, Nat.testBit, Nat.reduceShiftRight, Nat.reduceAnd, Nat.reduceBNe, Nat.reduceLeDiff, Nat.reduceAdd, Nat.reduceMul, Nat.reduceLT, Nat.reduceEqDiff, Nat.reduceSub, reduceCtorEq, ↓reduceIte, tyfacts, hl.cells]
  refine wpX_call (check_ok hx1.wf (hl.mono hx1) hlen) fun r H1 ⟨hr, hx2⟩ => ?_
  subst hr
  have g1 : H1.get H.n = some (.cells false [l]) := hx2.get _ _ (by simp [Heap.get_push])
  have hxx := hx1.trans hx2
  simp (maxSteps := 10000000) (disch := first | assumption | (simp only [tyfacts, Am.wd, Nat.reduceEqDiff, Nat.reduceLT, reduceCtorEq]; try omega; done) | omega) only [Am.wanted, Am.isAlloc, Am.wb0, Am.wb1, Am.wb2, Am.wb3, Am.wb4, Am.wb5, Am.wb6, Am.wb7, Am.wb8, Am.wb9, Am.reads, Am.quiet, Am.over, Nat.testBit, Nat.reduceShiftRight, Nat.reduceAnd, Nat.reduceBNe, Nat.reduceLeDiff, Nat.reduceAdd, Nat.reduceMul, Nat.reduceLT, Nat.reduceEqDiff, Nat.reduceSub, reduceCtorEq, ↓reduceIte, tyfacts]
  refine wpB_dec (fun hc => ?_) (fun hc => ?_)
  · simp (maxSteps := 10000000) (disch := first | assumption | (simp only [tyfacts, Am.wd, Nat.reduceEqDiff, Nat.reduceLT, reduceCtorEq]; try omega; done) | omega) only [Am.wanted, Am.isAlloc, Am.wb0, Am.wb1, Am.wb2, Am.wb3, Am.wb4, Am.wb5, Am.wb6, Am.wb7, Am.wb8, Am.wb9, Am.reads, Am.quiet, Am.over, Nat.testBit, Nat.reduceShiftRight, Nat.reduceAnd, Nat.reduceBNe, Nat.reduceLeDiff, Nat.reduceAdd, Nat.reduceMul, Nat.reduceLT, Nat.reduceEqDiff, Nat.reduceSub, reduceCtorEq, ↓reduceIte, tyfacts]
    exact ⟨by rw [fitsF, if_pos hc], hxx⟩
  simp (maxSteps := 10000000) (disch := first | assumption | (simp only [tyfacts, Am.wd, Nat.reduceEqDiff, Nat.reduceLT, reduceCtorEq]; try omega; done) | omega) only [Am.wanted, Am.isAlloc, Am.wb0, Am.wb1, Am.wb2, Am.wb3, Am.wb4, Am.wb5, Am.wb6, Am.wb7, Am.wb8, Am.wb9, Am.reads, Am.quiet, Am.over, Nat.testBit, Nat.reduceShiftRight, Nat.reduceAnd, Nat.reduceBNe, Nat.reduceLeDiff, Nat.reduceAdd, Nat.reduceMul, Nat.reduceLT, Nat.reduceEqDiff, Nat.reduceSub, reduceCtorEq, ↓reduceIte, tyfacts]
  refine wpX_call (containsFunc_int hxx.wf (ho.mono hxx) (fun i => !inR ts i) (by omega) fun i _ H' hx' => fits1 hx'.wf (hl.mono (hxx.trans hx')) (hx'.get _ _ g1) i) fun r H2 ⟨hr, hx3⟩ => ?_
  subst hr
  have hx3 := hxx.trans hx3
  simp (maxSteps := 10000000) (disch := first | assumption | (simp only [tyfacts, Am.wd, Nat.reduceEqDiff, Nat.reduceLT, reduceCtorEq]; try omega; done) | omega) only [Am.wanted, Am.isAlloc, Am.wb0, Am.wb1, Am.wb2, Am.wb3, Am.wb4, Am.wb5, Am.wb6, Am.wb7, Am.wb8, Am.wb9, Am.reads, Am.quiet, Am.over, Nat.testBit, Nat.reduceShiftRight, Nat.reduceAnd, Nat.reduceBNe, Nat.reduceLeDiff, Nat.reduceAdd, Nat.reduceMul, Nat.reduceLT, Nat.reduceEqDiff, Nat.reduceSub, reduceCtorEq, ↓reduceIte, tyfacts]
  refine wpB_bool (fun he => ?_) (fun he => ?_)
  · simp (maxSteps := 10000000) (disch := first | assumption | (simp only [tyfacts, Am.wd, Nat.reduceEqDiff, Nat.reduceLT, reduceCtorEq]; try omega; done) | omega) only [Am.wanted, Am.isAlloc, Am.wb0, Am.wb1, Am.wb2, Am.wb3, Am.wb4, Am.wb5, Am.wb6, Am.wb7, Am.wb8, Am.wb9, Am.reads, Am.quiet, Am.over, Nat.testBit, Nat.reduceShiftRight, Nat.reduceAnd, Nat.reduceBNe, Nat.reduceLeDiff, Nat.reduceAdd, Nat.reduceMul, Nat.reduceLT, Nat.reduceEqDiff, Nat.reduceSub, reduceCtorEq, ↓reduceIte, tyfacts]
    exact ⟨by rw [fitsF, if_neg hc, if_pos he], hx3⟩
  simp (maxSteps := 10000000) (disch := first | assumption | (simp only [tyfacts, Am.wd, Nat.reduceEqDiff, Nat.reduceLT, reduceCtorEq]; try omega; done) | omega) only [Am.wanted, Am.isAlloc, Am.wb0, Am.wb1, Am.wb2, Am.wb3, Am.wb4, Am.wb5, Am.wb6, Am.wb7, Am.wb8, Am.wb9, Am.reads, Am.quiet, Am.over, Nat.testBit, Nat.reduceShiftRight, Nat.reduceAnd, Nat.reduceBNe, Nat.reduceLeDiff, Nat.reduceAdd, Nat.reduceMul, Nat.reduceLT, Nat.reduceEqDiff, Nat.reduceSub, reduceCtorEq, ↓reduceIte, tyfacts]
  refine wpX_call (values_int hx3.wf ho.cells) fun r H3 ⟨hr, hH3⟩ => ?_
  subst hr
  have hx4 : Ext H2 H3 := by rw [hH3]; exact (Ext.refl hx3.wf).push _
  have g3 : H3.get H2.n = some (.cells false [o]) := by rw [hH3]; exact get_push_same _ _
  simp (maxSteps := 10000000) (disch := first | assumption | (simp only [tyfacts, Am.wd, Nat.reduceEqDiff, Nat.reduceLT, reduceCtorEq]; try omega; done) | omega) only [Am.wanted, Am.isAlloc, Am.wb0, Am.wb1, Am.wb2, Am.wb3, Am.wb4, Am.wb5, Am.wb6, Am.wb7, Am.wb8, Am.wb9, Am.reads, Am.quiet, Am.over, Nat.testBit, Nat.reduceShiftRight, Nat.reduceAnd, Nat.reduceBNe, Nat.reduceLeDiff, Nat.reduceAdd, Nat.reduceMul, Nat.reduceLT, Nat.reduceEqDiff, Nat.reduceSub, reduceCtorEq, ↓reduceIte, tyfacts]
  refine wpX_call (sorted_int (xs := xs) (hx3.trans hx4).wf rfl (fun H' hx => (show VK o xs H2.n H' from ⟨hx.wf, ho.mono ((hx3.trans hx4).trans hx), hx.get _ _ g3⟩)) (values1_int (by omega)) (by omega)) fun r H4 ⟨h5, h6⟩ => ?_
  simp (maxSteps := 10000000) (disch := first | assumption | (simp only [tyfacts, Am.wd, Nat.reduceEqDiff, Nat.reduceLT, reduceCtorEq]; try omega; done) | omega) only [Am.wanted, Am.isAlloc, Am.wb0, Am.wb1, Am.wb2, Am.wb3, Am.wb4, Am.wb5, Am.wb6, Am.wb7, Am.wb8, Am.wb9, Am.reads, Am.quiet, Am.over, Nat.testBit, Nat.reduceShiftRight, Nat.reduceAnd, Nat.reduceBNe, Nat.reduceLeDiff, Nat.reduceAdd, Nat.reduceMul, Nat.reduceLT, Nat.reduceEqDiff, Nat.reduceSub, reduceCtorEq, ↓reduceIte, tyfacts]
  refine wpX_call (compact_int h6.wf h5 (by rw [sorted, List.length_mergeSort]; omega)) fun r2 H5 ⟨h7, h8, h9⟩ => ?_
  have hx5 : Ext H H5 := ((hx3.trans hx4).trans h6).thenB h8 fun m hm => by
    have := h5.ge hm
    have := (hx3.trans hx4).n
    omega
  simp (maxSteps := 10000000) (disch := first | assumption | (simp only [tyfacts, Am.wd, Nat.reduceEqDiff, Nat.reduceLT, reduceCtorEq]; try omega; done) | omega) only [Am.wanted, Am.isAlloc, Am.wb0, Am.wb1, Am.wb2, Am.wb3, Am.wb4, Am.wb5, Am.wb6, Am.wb7, Am.wb8, Am.wb9, Am.reads, Am.quiet, Am.over, Nat.testBit, Nat.reduceShiftRight, Nat.reduceAnd, Nat.reduceBNe, Nat.reduceLeDiff, Nat.reduceAdd, Nat.reduceMul, Nat.reduceLT, Nat.reduceEqDiff, Nat.reduceSub, reduceCtorEq, ↓reduceIte, tyfacts, h7.len, ho.len]
  refine wpB_dec (fun hq => ?_) (fun hq => ?_)
  · simp (maxSteps := 10000000) (disch := first | assumption | (simp only [tyfacts, Am.wd, Nat.reduceEqDiff, Nat.reduceLT, reduceCtorEq]; try omega; done) | omega) only [Am.wanted, Am.isAlloc, Am.wb0, Am.wb1, Am.wb2, Am.wb3, Am.wb4, Am.wb5, Am.wb6, Am.wb7, Am.wb8, Am.wb9, Am.reads, Am.quiet, Am.over, Nat.testBit, Nat.reduceShiftRight, Nat.reduceAnd, Nat.reduceBNe, Nat.reduceLeDiff, Nat.reduceAdd, Nat.reduceMul, Nat.reduceLT, Nat.reduceEqDiff, Nat.reduceSub, reduceCtorEq, ↓reduceIte, tyfacts]
    refine ⟨?_, hx5⟩
    have : ¬ xs.Nodup := fun hn => hq (by rw [(dd_len xs).2 hn])
    rw [fitsF, if_neg hc, if_neg (by simp [he]), if_pos this]
  · simp (maxSteps := 10000000) (disch := first | assumption | (simp only [tyfacts, Am.wd, Nat.reduceEqDiff, Nat.reduceLT, reduceCtorEq]; try omega; done) | omega) only [Am.wanted, Am.isAlloc, Am.wb0, Am.wb1, Am.wb2, Am.wb3, Am.wb4, Am.wb5, Am.wb6, Am.wb7, Am.wb8, Am.wb9, Am.reads, Am.quiet, Am.over, Nat.testBit, Nat.reduceShiftRight, Nat.reduceAnd, Nat.reduceBNe, Nat.reduceLeDiff, Nat.reduceAdd, Nat.reduceMul, Nat.reduceLT, Nat.reduceEqDiff, Nat.reduceSub, reduceCtorEq, ↓reduceIte, tyfacts]
    refine ⟨?_, hx5⟩
    have : xs.Nodup := (dd_len xs).1 (by omega)
    rw [fitsF, if_neg hc, if_neg (by simp [he]), if_neg (by simpa using this)]
end Go.Proofs.Ytkjknmdnehknbaa.W
