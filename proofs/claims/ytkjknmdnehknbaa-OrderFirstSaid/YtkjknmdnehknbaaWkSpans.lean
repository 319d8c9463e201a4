import Derived.Test.YtkjknmdnehknbaaWkTells
set_option linter.unusedSimpArgs false
set_option linter.unusedVariables false
set_option maxRecDepth 8000
/- OrderSpans: what precedes goes on. No conditions. -/
namespace Go.Proofs.Ytkjknmdnehknbaa.W
open Go.Am Go.Am.Ord

theorem precF_in {ts : List Tr5} (hc : checkF ts = 0) {i k : Int} (hi : 0 ≤ i ∧ i < ts.length) (hk : 0 ≤ k ∧ k < ts.length) : ((precF ts i k).1 && decide ((precF ts i k).2 = 0)) = prec ts i.toNat k.toNat := by
  rw [precF, if_neg (by omega), if_pos (by simp [inR]; omega)]; simp
theorem prec_trans {ts : List Tr5} (hc : checkF ts = 0) {i k m : Nat} (hi : i < ts.length) (hk : k < ts.length) (hm : m < ts.length) (h1 : prec ts i k = true) (h2 : prec ts k m = true) : prec ts i m = true := by
  rw [prec_eq hi hk] at h1
  rw [prec_eq hk hm] at h2
  rw [prec_eq hi hm]
  have := (check_zero hc).2 ts[k] (List.getElem_mem hk)
  simp at *; omega
theorem prec_asym {ts : List Tr5} (hc : checkF ts = 0) {i k : Nat} (hi : i < ts.length) (hk : k < ts.length) (h1 : prec ts i k = true) : prec ts k i = false := by
  cases h : prec ts k i with
  | false => rfl
  | true => rw [← prec_irrefl hc i]; exact (prec_trans hc hi hk hi h1 h).symm
theorem prec_cross {ts : List Tr5} {i k m n : Nat} (hi : i < ts.length) (hk : k < ts.length) (hm : m < ts.length) (hn : n < ts.length) (h1 : prec ts i k = true) (h2 : prec ts m n = true) (h3 : prec ts i n = false) : prec ts m k = true := by
  rw [prec_eq hi hk] at h1
  rw [prec_eq hm hn] at h2
  rw [prec_eq hi hn] at h3
  rw [prec_eq hm hk]
  simp at *; omega

theorem spansLaw_ok {H : Heap} (wf : H.WF) {v : V} {xs : List Int} (hv : Sl H v 1 (xs.map cI)) (i k m n : Int) :
    CallsTo T 5 [v, .int .i64 i, .int .i64 k, .int .i64 m, .int .i64 n] H fun r H' => r = .bool true ∧ Ext H H' := by
  refine Am.calls_enter (T := T) rfl Try.func5 rfl (by simp only [Try.f5, List.length_cons, List.length_nil]; decide) ?_
  simp only [Try.f5]
  have L := hv.len
  simp (maxSteps := 10000000) (disch := first | assumption | (simp only [tyfacts, Am.wd, Nat.reduceEqDiff, Nat.reduceLT, reduceCtorEq]; try omega; done) | omega) only [Am.wanted, Am.isAlloc, Am.wb0, Am.wb1, Am.wb2, Am.wb3, Am.wb4, Am.wb5, Am.wb6, Am.wb7, Am.wb8, Am.wb9, Am.reads, Am.quiet, Am.over, Nat.testBit, Nat.reduceShiftRight, Nat.reduceAnd, Nat.reduceBNe, Nat.reduceLeDiff, Nat.reduceAdd, Nat.reduceMul, Nat.reduceLT, Nat.reduceEqDiff, Nat.reduceSub, reduceCtorEq, ↓reduceIte, tyfacts]
  refine wpX_call (known_ok H) fun r H1 ⟨hr, hH⟩ => ?_
  subst hr
  subst hH
  simp (maxSteps := 10000000) (disch := first | assumption | (simp only [tyfacts, Am.wd, Nat.reduceEqDiff, Nat.reduceLT, reduceCtorEq]; try omega; done) | omega) only [Am.wanted, Am.isAlloc, Am.wb0, Am.wb1, Am.wb2, Am.wb3, Am.wb4, Am.wb5, Am.wb6, Am.wb7, Am.wb8, Am.wb9, Am.reads, Am.quiet, Am.over, Nat.testBit, Nat.reduceShiftRight, Nat.reduceAnd, Nat.reduceBNe, Nat.reduceLeDiff, Nat.reduceAdd, Nat.reduceMul, Nat.reduceLT, Nat.reduceEqDiff, Nat.reduceSub, reduceCtorEq, ↓reduceIte, tyfacts, L]
  refine wpB_dec (fun hb => ?_) (fun hb => ?_)
  · simp (maxSteps := 10000000) (disch := first | assumption | (simp only [tyfacts, Am.wd, Nat.reduceEqDiff, Nat.reduceLT, reduceCtorEq]; try omega; done) | omega) only [Am.wanted, Am.isAlloc, Am.wb0, Am.wb1, Am.wb2, Am.wb3, Am.wb4, Am.wb5, Am.wb6, Am.wb7, Am.wb8, Am.wb9, Am.reads, Am.quiet, Am.over, Nat.testBit, Nat.reduceShiftRight, Nat.reduceAnd, Nat.reduceBNe, Nat.reduceLeDiff, Nat.reduceAdd, Nat.reduceMul, Nat.reduceLT, Nat.reduceEqDiff, Nat.reduceSub, reduceCtorEq, ↓reduceIte, tyfacts]
    exact Ext.refl wf
  simp (maxSteps := 10000000) (disch := first | assumption | (simp only [tyfacts, Am.wd, Nat.reduceEqDiff, Nat.reduceLT, reduceCtorEq]; try omega; done) | omega) only [Am.wanted, Am.isAlloc, Am.wb0, Am.wb1, Am.wb2, Am.wb3, Am.wb4, Am.wb5, Am.wb6, Am.wb7, Am.wb8, Am.wb9, Am.reads, Am.quiet, Am.over, Nat.testBit, Nat.reduceShiftRight, Nat.reduceAnd, Nat.reduceBNe, Nat.reduceLeDiff, Nat.reduceAdd, Nat.reduceMul, Nat.reduceLT, Nat.reduceEqDiff, Nat.reduceSub, reduceCtorEq, ↓reduceIte, tyfacts]
  refine wpX_call (spans_ok wf hv (by omega)) fun l H1 ⟨ml, hx1⟩ => ?_
  have sl1 := ml.sl
  have Ll := ml.len
  have hlen : (spansF xs).length ≤ 20 := by rw [spansF_len]; omega
  clear ml
  generalize spansF xs = ts at hlen sl1 Ll
  simp (maxSteps := 10000000) (disch := first | assumption | (simp only [tyfacts, Am.wd, Nat.reduceEqDiff, Nat.reduceLT, reduceCtorEq]; try omega; done) | omega) only [Am.wanted, Am.isAlloc, Am.wb0, Am.wb1, Am.wb2, Am.wb3, Am.wb4, Am.wb5, Am.wb6, Am.wb7, Am.wb8, Am.wb9, Am.reads, Am.quiet, Am.over, Nat.testBit, Nat.reduceShiftRight, Nat.reduceAnd, Nat.reduceBNe, Nat.reduceLeDiff, Nat.reduceAdd, Nat.reduceMul, Nat.reduceLT, Nat.reduceEqDiff, Nat.reduceSub, reduceCtorEq, ↓reduceIte, tyfacts]
  refine wpX_call (check_ok hx1.wf sl1 (by omega)) fun r H2 ⟨hr, hy⟩ => ?_
  subst hr
  have hx2 := hx1.trans hy
  have sl2 := sl1.mono hy
  by_cases hc : ¬ checkF ts = 0
  · simp (maxSteps := 10000000) (disch := first | assumption | (simp only [tyfacts, Am.wd, Nat.reduceEqDiff, Nat.reduceLT, reduceCtorEq]; try omega; done) | omega) only [Am.wanted, Am.isAlloc, Am.wb0, Am.wb1, Am.wb2, Am.wb3, Am.wb4, Am.wb5, Am.wb6, Am.wb7, Am.wb8, Am.wb9, Am.reads, Am.quiet, Am.over, Nat.testBit, Nat.reduceShiftRight, Nat.reduceAnd, Nat.reduceBNe, Nat.reduceLeDiff, Nat.reduceAdd, Nat.reduceMul, Nat.reduceLT, Nat.reduceEqDiff, Nat.reduceSub, reduceCtorEq, ↓reduceIte, tyfacts, hc]
    exact hx2
  replace hc := Classical.not_not.1 hc
  by_cases h0 : (ts.length : Int) = 0
  · simp (maxSteps := 10000000) (disch := first | assumption | (simp only [tyfacts, Am.wd, Nat.reduceEqDiff, Nat.reduceLT, reduceCtorEq]; try omega; done) | omega) only [Am.wanted, Am.isAlloc, Am.wb0, Am.wb1, Am.wb2, Am.wb3, Am.wb4, Am.wb5, Am.wb6, Am.wb7, Am.wb8, Am.wb9, Am.reads, Am.quiet, Am.over, Nat.testBit, Nat.reduceShiftRight, Nat.reduceAnd, Nat.reduceBNe, Nat.reduceLeDiff, Nat.reduceAdd, Nat.reduceMul, Nat.reduceLT, Nat.reduceEqDiff, Nat.reduceSub, reduceCtorEq, ↓reduceIte, tyfacts, hc, Ll, h0]
    exact hx2
  simp (maxSteps := 10000000) (disch := first | assumption | (simp only [tyfacts, Am.wd, Nat.reduceEqDiff, Nat.reduceLT, reduceCtorEq]; try omega; done) | omega) only [Am.wanted, Am.isAlloc, Am.wb0, Am.wb1, Am.wb2, Am.wb3, Am.wb4, Am.wb5, Am.wb6, Am.wb7, Am.wb8, Am.wb9, Am.reads, Am.quiet, Am.over, Nat.testBit, Nat.reduceShiftRight, Nat.reduceAnd, Nat.reduceBNe, Nat.reduceLeDiff, Nat.reduceAdd, Nat.reduceMul, Nat.reduceLT, Nat.reduceEqDiff, Nat.reduceSub, reduceCtorEq, ↓reduceIte, tyfacts, hc, Ll, h0]
  have hpos : 0 < (ts.length : Int) := by omega
  refine wpX_call (pick_ok hx2.wf i ts.length (by omega)) fun r H3 ⟨hr, hy⟩ => ?_
  subst hr
  have hx3 := hx2.trans hy
  have sl3 := sl2.mono hy
  simp (maxSteps := 10000000) (disch := first | assumption | (simp only [tyfacts, Am.wd, Nat.reduceEqDiff, Nat.reduceLT, reduceCtorEq]; try omega; done) | omega) only [Am.wanted, Am.isAlloc, Am.wb0, Am.wb1, Am.wb2, Am.wb3, Am.wb4, Am.wb5, Am.wb6, Am.wb7, Am.wb8, Am.wb9, Am.reads, Am.quiet, Am.over, Nat.testBit, Nat.reduceShiftRight, Nat.reduceAnd, Nat.reduceBNe, Nat.reduceLeDiff, Nat.reduceAdd, Nat.reduceMul, Nat.reduceLT, Nat.reduceEqDiff, Nat.reduceSub, reduceCtorEq, ↓reduceIte, tyfacts, Ll]
  refine wpX_call (pick_ok hx3.wf k ts.length (by omega)) fun r H4 ⟨hr, hy⟩ => ?_
  subst hr
  have hx4 := hx3.trans hy
  have sl4 := sl3.mono hy
  simp (maxSteps := 10000000) (disch := first | assumption | (simp only [tyfacts, Am.wd, Nat.reduceEqDiff, Nat.reduceLT, reduceCtorEq]; try omega; done) | omega) only [Am.wanted, Am.isAlloc, Am.wb0, Am.wb1, Am.wb2, Am.wb3, Am.wb4, Am.wb5, Am.wb6, Am.wb7, Am.wb8, Am.wb9, Am.reads, Am.quiet, Am.over, Nat.testBit, Nat.reduceShiftRight, Nat.reduceAnd, Nat.reduceBNe, Nat.reduceLeDiff, Nat.reduceAdd, Nat.reduceMul, Nat.reduceLT, Nat.reduceEqDiff, Nat.reduceSub, reduceCtorEq, ↓reduceIte, tyfacts, Ll]
  refine wpX_call (pick_ok hx4.wf m ts.length (by omega)) fun r H5 ⟨hr, hy⟩ => ?_
  subst hr
  have hx5 := hx4.trans hy
  have sl5 := sl4.mono hy
  simp (maxSteps := 10000000) (disch := first | assumption | (simp only [tyfacts, Am.wd, Nat.reduceEqDiff, Nat.reduceLT, reduceCtorEq]; try omega; done) | omega) only [Am.wanted, Am.isAlloc, Am.wb0, Am.wb1, Am.wb2, Am.wb3, Am.wb4, Am.wb5, Am.wb6, Am.wb7, Am.wb8, Am.wb9, Am.reads, Am.quiet, Am.over, Nat.testBit, Nat.reduceShiftRight, Nat.reduceAnd, Nat.reduceBNe, Nat.reduceLeDiff, Nat.reduceAdd, Nat.reduceMul, Nat.reduceLT, Nat.reduceEqDiff, Nat.reduceSub, reduceCtorEq, ↓reduceIte, tyfacts, Ll]
  refine wpX_call (pick_ok hx5.wf n ts.length (by omega)) fun r H6 ⟨hr, hy⟩ => ?_
  subst hr
  have hx6 := hx5.trans hy
  have sl6 := sl5.mono hy
  have bi := pickF_lt (n := i) hpos
  have bk := pickF_lt (n := k) hpos
  have bm := pickF_lt (n := m) hpos
  have bn := pickF_lt (n := n) hpos
  clear hx1 hx2 hx3 hx4 hx5 sl1 sl2 sl3 sl4 sl5
  generalize pickF i ts.length = i at bi
  generalize pickF k ts.length = k at bk
  generalize pickF m ts.length = m at bm
  generalize pickF n ts.length = n at bn
  have ki := bi.1; have kk := bk.1; have km := bm.1; have kn := bn.1
  have P : ∀ {x y : Int} {H' : Heap}, (0 ≤ x ∧ x < (ts.length : Int)) → (0 ≤ y ∧ y < (ts.length : Int)) → H'.WF → Sl H' l 5 (ts.map Tr5.cells) →
      CallsTo T 26 [l, .int .i64 x, .int .i64 y] H' fun v H'' => v = .bool (prec ts x.toNat y.toNat) ∧ Ext H' H'' := fun hx hy wf' sl => by
    rw [← precF_in hc hx hy]; exact lawPrecedes_ok wf' sl (by omega) _ _
  simp (maxSteps := 10000000) (disch := first | assumption | (simp only [tyfacts, Am.wd, Nat.reduceEqDiff, Nat.reduceLT, reduceCtorEq]; try omega; done) | omega) only [Am.wanted, Am.isAlloc, Am.wb0, Am.wb1, Am.wb2, Am.wb3, Am.wb4, Am.wb5, Am.wb6, Am.wb7, Am.wb8, Am.wb9, Am.reads, Am.quiet, Am.over, Nat.testBit, Nat.reduceShiftRight, Nat.reduceAnd, Nat.reduceBNe, Nat.reduceLeDiff, Nat.reduceAdd, Nat.reduceMul, Nat.reduceLT, Nat.reduceEqDiff, Nat.reduceSub, reduceCtorEq, ↓reduceIte, tyfacts]
  refine wpX_call (P bi bi hx6.wf sl6) fun r H7 ⟨hr, hy⟩ => ?_
  rw [prec_irrefl hc] at hr
  subst hr
  have hx7 := hx6.trans hy
  have sl7 := sl6.mono hy
  have ti : i.toNat < ts.length := by omega
  have tk : k.toNat < ts.length := by omega
  have tm : m.toNat < ts.length := by omega
  have tn : n.toNat < ts.length := by omega
  clear hx6 sl6 hy
  simp (maxSteps := 10000000) (disch := first | assumption | (simp only [tyfacts, Am.wd, Nat.reduceEqDiff, Nat.reduceLT, reduceCtorEq]; try omega; done) | omega) only [Am.wanted, Am.isAlloc, Am.wb0, Am.wb1, Am.wb2, Am.wb3, Am.wb4, Am.wb5, Am.wb6, Am.wb7, Am.wb8, Am.wb9, Am.reads, Am.quiet, Am.over, Nat.testBit, Nat.reduceShiftRight, Nat.reduceAnd, Nat.reduceBNe, Nat.reduceLeDiff, Nat.reduceAdd, Nat.reduceMul, Nat.reduceLT, Nat.reduceEqDiff, Nat.reduceSub, reduceCtorEq, ↓reduceIte, tyfacts]
  refine wpX_call (P bi bk hx7.wf sl7) fun r H8 ⟨hr, hy⟩ => ?_
  have hx8 := hx7.trans hy
  have sl8 := sl7.mono hy
  clear hx7 sl7 hy
  subst hr
  -- behind the three questions
  cases hik : prec ts i.toNat k.toNat with
  | false =>
    simp (maxSteps := 10000000) (disch := first | assumption | (simp only [tyfacts, Am.wd, Nat.reduceEqDiff, Nat.reduceLT, reduceCtorEq]; try omega; done) | omega) only [Am.wanted, Am.isAlloc, Am.wb0, Am.wb1, Am.wb2, Am.wb3, Am.wb4, Am.wb5, Am.wb6, Am.wb7, Am.wb8, Am.wb9, Am.reads, Am.quiet, Am.over, Nat.testBit, Nat.reduceShiftRight, Nat.reduceAnd, Nat.reduceBNe, Nat.reduceLeDiff, Nat.reduceAdd, Nat.reduceMul, Nat.reduceLT, Nat.reduceEqDiff, Nat.reduceSub, reduceCtorEq, ↓reduceIte, tyfacts]
    refine wpX_call (P bi bk hx8.wf sl8) fun r H9 ⟨hr, hy⟩ => ?_
    rw [hik] at hr
    subst hr
    have hx9 := hx8.trans hy
    have sl9 := sl8.mono hy
    simp (maxSteps := 10000000) (disch := first | assumption | (simp only [tyfacts, Am.wd, Nat.reduceEqDiff, Nat.reduceLT, reduceCtorEq]; try omega; done) | omega) only [Am.wanted, Am.isAlloc, Am.wb0, Am.wb1, Am.wb2, Am.wb3, Am.wb4, Am.wb5, Am.wb6, Am.wb7, Am.wb8, Am.wb9, Am.reads, Am.quiet, Am.over, Nat.testBit, Nat.reduceShiftRight, Nat.reduceAnd, Nat.reduceBNe, Nat.reduceLeDiff, Nat.reduceAdd, Nat.reduceMul, Nat.reduceLT, Nat.reduceEqDiff, Nat.reduceSub, reduceCtorEq, ↓reduceIte, tyfacts]
    refine wpX_call (P bi bk hx9.wf sl9) fun r HA ⟨hr, hy⟩ => ?_
    rw [hik] at hr
    subst hr
    simp (maxSteps := 10000000) (disch := first | assumption | (simp only [tyfacts, Am.wd, Nat.reduceEqDiff, Nat.reduceLT, reduceCtorEq]; try omega; done) | omega) only [Am.wanted, Am.isAlloc, Am.wb0, Am.wb1, Am.wb2, Am.wb3, Am.wb4, Am.wb5, Am.wb6, Am.wb7, Am.wb8, Am.wb9, Am.reads, Am.quiet, Am.over, Nat.testBit, Nat.reduceShiftRight, Nat.reduceAnd, Nat.reduceBNe, Nat.reduceLeDiff, Nat.reduceAdd, Nat.reduceMul, Nat.reduceLT, Nat.reduceEqDiff, Nat.reduceSub, reduceCtorEq, ↓reduceIte, tyfacts]
    exact hx9.trans hy
  | true =>
    simp (maxSteps := 10000000) (disch := first | assumption | (simp only [tyfacts, Am.wd, Nat.reduceEqDiff, Nat.reduceLT, reduceCtorEq]; try omega; done) | omega) only [Am.wanted, Am.isAlloc, Am.wb0, Am.wb1, Am.wb2, Am.wb3, Am.wb4, Am.wb5, Am.wb6, Am.wb7, Am.wb8, Am.wb9, Am.reads, Am.quiet, Am.over, Nat.testBit, Nat.reduceShiftRight, Nat.reduceAnd, Nat.reduceBNe, Nat.reduceLeDiff, Nat.reduceAdd, Nat.reduceMul, Nat.reduceLT, Nat.reduceEqDiff, Nat.reduceSub, reduceCtorEq, ↓reduceIte, tyfacts]
    have hki := prec_asym hc ti tk hik
    cases hkm : prec ts k.toNat m.toNat with
    | false =>
      refine wpX_call (P bk bm hx8.wf sl8) fun r HQ1 ⟨hr, hy⟩ => ?_
      rw [hkm] at hr
      subst hr
      have hxq1 := hx8.trans hy
      have slq1 := sl8.mono hy
      clear hy
      simp (maxSteps := 10000000) (disch := first | assumption | (simp only [tyfacts, Am.wd, Nat.reduceEqDiff, Nat.reduceLT, reduceCtorEq]; try omega; done) | omega) only [Am.wanted, Am.isAlloc, Am.wb0, Am.wb1, Am.wb2, Am.wb3, Am.wb4, Am.wb5, Am.wb6, Am.wb7, Am.wb8, Am.wb9, Am.reads, Am.quiet, Am.over, Nat.testBit, Nat.reduceShiftRight, Nat.reduceAnd, Nat.reduceBNe, Nat.reduceLeDiff, Nat.reduceAdd, Nat.reduceMul, Nat.reduceLT, Nat.reduceEqDiff, Nat.reduceSub, reduceCtorEq, ↓reduceIte, tyfacts]
      refine wpX_call (P bi bk hxq1.wf slq1) fun r HQ2 ⟨hr, hy⟩ => ?_
      rw [hik] at hr
      subst hr
      have hxq2 := hxq1.trans hy
      have slq2 := slq1.mono hy
      clear hy
      simp (maxSteps := 10000000) (disch := first | assumption | (simp only [tyfacts, Am.wd, Nat.reduceEqDiff, Nat.reduceLT, reduceCtorEq]; try omega; done) | omega) only [Am.wanted, Am.isAlloc, Am.wb0, Am.wb1, Am.wb2, Am.wb3, Am.wb4, Am.wb5, Am.wb6, Am.wb7, Am.wb8, Am.wb9, Am.reads, Am.quiet, Am.over, Nat.testBit, Nat.reduceShiftRight, Nat.reduceAnd, Nat.reduceBNe, Nat.reduceLeDiff, Nat.reduceAdd, Nat.reduceMul, Nat.reduceLT, Nat.reduceEqDiff, Nat.reduceSub, reduceCtorEq, ↓reduceIte, tyfacts]
      refine wpX_call (P bk bi hxq2.wf slq2) fun r HQ3 ⟨hr, hy⟩ => ?_
      rw [hki] at hr
      subst hr
      have hxq3 := hxq2.trans hy
      have slq3 := slq2.mono hy
      clear hy
      simp (maxSteps := 10000000) (disch := first | assumption | (simp only [tyfacts, Am.wd, Nat.reduceEqDiff, Nat.reduceLT, reduceCtorEq]; try omega; done) | omega) only [Am.wanted, Am.isAlloc, Am.wb0, Am.wb1, Am.wb2, Am.wb3, Am.wb4, Am.wb5, Am.wb6, Am.wb7, Am.wb8, Am.wb9, Am.reads, Am.quiet, Am.over, Nat.testBit, Nat.reduceShiftRight, Nat.reduceAnd, Nat.reduceBNe, Nat.reduceLeDiff, Nat.reduceAdd, Nat.reduceMul, Nat.reduceLT, Nat.reduceEqDiff, Nat.reduceSub, reduceCtorEq, ↓reduceIte, tyfacts]
      refine wpX_call (P bi bk hxq3.wf slq3) fun r HQ4 ⟨hr, hy⟩ => ?_
      rw [hik] at hr
      subst hr
      have hxq4 := hxq3.trans hy
      have slq4 := slq3.mono hy
      clear hy
      simp (maxSteps := 10000000) (disch := first | assumption | (simp only [tyfacts, Am.wd, Nat.reduceEqDiff, Nat.reduceLT, reduceCtorEq]; try omega; done) | omega) only [Am.wanted, Am.isAlloc, Am.wb0, Am.wb1, Am.wb2, Am.wb3, Am.wb4, Am.wb5, Am.wb6, Am.wb7, Am.wb8, Am.wb9, Am.reads, Am.quiet, Am.over, Nat.testBit, Nat.reduceShiftRight, Nat.reduceAnd, Nat.reduceBNe, Nat.reduceLeDiff, Nat.reduceAdd, Nat.reduceMul, Nat.reduceLT, Nat.reduceEqDiff, Nat.reduceSub, reduceCtorEq, ↓reduceIte, tyfacts]
      cases hmn : prec ts m.toNat n.toNat with
      | false =>
        refine wpX_call (P bm bn hxq4.wf slq4) fun r HQ5 ⟨hr, hy⟩ => ?_
        rw [hmn] at hr
        subst hr
        have hxq5 := hxq4.trans hy
        have slq5 := slq4.mono hy
        clear hy
        simp (maxSteps := 10000000) (disch := first | assumption | (simp only [tyfacts, Am.wd, Nat.reduceEqDiff, Nat.reduceLT, reduceCtorEq]; try omega; done) | omega) only [Am.wanted, Am.isAlloc, Am.wb0, Am.wb1, Am.wb2, Am.wb3, Am.wb4, Am.wb5, Am.wb6, Am.wb7, Am.wb8, Am.wb9, Am.reads, Am.quiet, Am.over, Nat.testBit, Nat.reduceShiftRight, Nat.reduceAnd, Nat.reduceBNe, Nat.reduceLeDiff, Nat.reduceAdd, Nat.reduceMul, Nat.reduceLT, Nat.reduceEqDiff, Nat.reduceSub, reduceCtorEq, ↓reduceIte, tyfacts]
        exact hxq5
      | true =>
        refine wpX_call (P bm bn hxq4.wf slq4) fun r HQ5 ⟨hr, hy⟩ => ?_
        rw [hmn] at hr
        subst hr
        have hxq5 := hxq4.trans hy
        have slq5 := slq4.mono hy
        clear hy
        simp (maxSteps := 10000000) (disch := first | assumption | (simp only [tyfacts, Am.wd, Nat.reduceEqDiff, Nat.reduceLT, reduceCtorEq]; try omega; done) | omega) only [Am.wanted, Am.isAlloc, Am.wb0, Am.wb1, Am.wb2, Am.wb3, Am.wb4, Am.wb5, Am.wb6, Am.wb7, Am.wb8, Am.wb9, Am.reads, Am.quiet, Am.over, Nat.testBit, Nat.reduceShiftRight, Nat.reduceAnd, Nat.reduceBNe, Nat.reduceLeDiff, Nat.reduceAdd, Nat.reduceMul, Nat.reduceLT, Nat.reduceEqDiff, Nat.reduceSub, reduceCtorEq, ↓reduceIte, tyfacts]
        cases hin : prec ts i.toNat n.toNat with
        | true =>
          refine wpX_call (P bi bn hxq5.wf slq5) fun r HQ6 ⟨hr, hy⟩ => ?_
          rw [hin] at hr
          subst hr
          have hxq6 := hxq5.trans hy
          have slq6 := slq5.mono hy
          clear hy
          simp (maxSteps := 10000000) (disch := first | assumption | (simp only [tyfacts, Am.wd, Nat.reduceEqDiff, Nat.reduceLT, reduceCtorEq]; try omega; done) | omega) only [Am.wanted, Am.isAlloc, Am.wb0, Am.wb1, Am.wb2, Am.wb3, Am.wb4, Am.wb5, Am.wb6, Am.wb7, Am.wb8, Am.wb9, Am.reads, Am.quiet, Am.over, Nat.testBit, Nat.reduceShiftRight, Nat.reduceAnd, Nat.reduceBNe, Nat.reduceLeDiff, Nat.reduceAdd, Nat.reduceMul, Nat.reduceLT, Nat.reduceEqDiff, Nat.reduceSub, reduceCtorEq, ↓reduceIte, tyfacts]
          exact hxq6
        | false =>
          have hmk := prec_cross ti tk tm tn hik hmn hin
          refine wpX_call (P bi bn hxq5.wf slq5) fun r HQ6 ⟨hr, hy⟩ => ?_
          rw [hin] at hr
          subst hr
          have hxq6 := hxq5.trans hy
          have slq6 := slq5.mono hy
          clear hy
          simp (maxSteps := 10000000) (disch := first | assumption | (simp only [tyfacts, Am.wd, Nat.reduceEqDiff, Nat.reduceLT, reduceCtorEq]; try omega; done) | omega) only [Am.wanted, Am.isAlloc, Am.wb0, Am.wb1, Am.wb2, Am.wb3, Am.wb4, Am.wb5, Am.wb6, Am.wb7, Am.wb8, Am.wb9, Am.reads, Am.quiet, Am.over, Nat.testBit, Nat.reduceShiftRight, Nat.reduceAnd, Nat.reduceBNe, Nat.reduceLeDiff, Nat.reduceAdd, Nat.reduceMul, Nat.reduceLT, Nat.reduceEqDiff, Nat.reduceSub, reduceCtorEq, ↓reduceIte, tyfacts]
          refine wpX_call (P bm bk hxq6.wf slq6) fun r HQ7 ⟨hr, hy⟩ => ?_
          rw [hmk] at hr
          subst hr
          have hxq7 := hxq6.trans hy
          have slq7 := slq6.mono hy
          clear hy
          simp (maxSteps := 10000000) (disch := first | assumption | (simp only [tyfacts, Am.wd, Nat.reduceEqDiff, Nat.reduceLT, reduceCtorEq]; try omega; done) | omega) only [Am.wanted, Am.isAlloc, Am.wb0, Am.wb1, Am.wb2, Am.wb3, Am.wb4, Am.wb5, Am.wb6, Am.wb7, Am.wb8, Am.wb9, Am.reads, Am.quiet, Am.over, Nat.testBit, Nat.reduceShiftRight, Nat.reduceAnd, Nat.reduceBNe, Nat.reduceLeDiff, Nat.reduceAdd, Nat.reduceMul, Nat.reduceLT, Nat.reduceEqDiff, Nat.reduceSub, reduceCtorEq, ↓reduceIte, tyfacts]
          exact hxq7
    | true =>
      have him := prec_trans hc ti tk tm hik hkm
      refine wpX_call (P bk bm hx8.wf sl8) fun r HQ1 ⟨hr, hy⟩ => ?_
      rw [hkm] at hr
      subst hr
      have hxq1 := hx8.trans hy
      have slq1 := sl8.mono hy
      clear hy
      simp (maxSteps := 10000000) (disch := first | assumption | (simp only [tyfacts, Am.wd, Nat.reduceEqDiff, Nat.reduceLT, reduceCtorEq]; try omega; done) | omega) only [Am.wanted, Am.isAlloc, Am.wb0, Am.wb1, Am.wb2, Am.wb3, Am.wb4, Am.wb5, Am.wb6, Am.wb7, Am.wb8, Am.wb9, Am.reads, Am.quiet, Am.over, Nat.testBit, Nat.reduceShiftRight, Nat.reduceAnd, Nat.reduceBNe, Nat.reduceLeDiff, Nat.reduceAdd, Nat.reduceMul, Nat.reduceLT, Nat.reduceEqDiff, Nat.reduceSub, reduceCtorEq, ↓reduceIte, tyfacts]
      refine wpX_call (P bi bm hxq1.wf slq1) fun r HQ2 ⟨hr, hy⟩ => ?_
      rw [him] at hr
      subst hr
      have hxq2 := hxq1.trans hy
      have slq2 := slq1.mono hy
      clear hy
      simp (maxSteps := 10000000) (disch := first | assumption | (simp only [tyfacts, Am.wd, Nat.reduceEqDiff, Nat.reduceLT, reduceCtorEq]; try omega; done) | omega) only [Am.wanted, Am.isAlloc, Am.wb0, Am.wb1, Am.wb2, Am.wb3, Am.wb4, Am.wb5, Am.wb6, Am.wb7, Am.wb8, Am.wb9, Am.reads, Am.quiet, Am.over, Nat.testBit, Nat.reduceShiftRight, Nat.reduceAnd, Nat.reduceBNe, Nat.reduceLeDiff, Nat.reduceAdd, Nat.reduceMul, Nat.reduceLT, Nat.reduceEqDiff, Nat.reduceSub, reduceCtorEq, ↓reduceIte, tyfacts]
      refine wpX_call (P bi bk hxq2.wf slq2) fun r HQ3 ⟨hr, hy⟩ => ?_
      rw [hik] at hr
      subst hr
      have hxq3 := hxq2.trans hy
      have slq3 := slq2.mono hy
      clear hy
      simp (maxSteps := 10000000) (disch := first | assumption | (simp only [tyfacts, Am.wd, Nat.reduceEqDiff, Nat.reduceLT, reduceCtorEq]; try omega; done) | omega) only [Am.wanted, Am.isAlloc, Am.wb0, Am.wb1, Am.wb2, Am.wb3, Am.wb4, Am.wb5, Am.wb6, Am.wb7, Am.wb8, Am.wb9, Am.reads, Am.quiet, Am.over, Nat.testBit, Nat.reduceShiftRight, Nat.reduceAnd, Nat.reduceBNe, Nat.reduceLeDiff, Nat.reduceAdd, Nat.reduceMul, Nat.reduceLT, Nat.reduceEqDiff, Nat.reduceSub, reduceCtorEq, ↓reduceIte, tyfacts]
      refine wpX_call (P bk bi hxq3.wf slq3) fun r HQ4 ⟨hr, hy⟩ => ?_
      rw [hki] at hr
      subst hr
      have hxq4 := hxq3.trans hy
      have slq4 := slq3.mono hy
      clear hy
      simp (maxSteps := 10000000) (disch := first | assumption | (simp only [tyfacts, Am.wd, Nat.reduceEqDiff, Nat.reduceLT, reduceCtorEq]; try omega; done) | omega) only [Am.wanted, Am.isAlloc, Am.wb0, Am.wb1, Am.wb2, Am.wb3, Am.wb4, Am.wb5, Am.wb6, Am.wb7, Am.wb8, Am.wb9, Am.reads, Am.quiet, Am.over, Nat.testBit, Nat.reduceShiftRight, Nat.reduceAnd, Nat.reduceBNe, Nat.reduceLeDiff, Nat.reduceAdd, Nat.reduceMul, Nat.reduceLT, Nat.reduceEqDiff, Nat.reduceSub, reduceCtorEq, ↓reduceIte, tyfacts]
      refine wpX_call (P bi bk hxq4.wf slq4) fun r HQ5 ⟨hr, hy⟩ => ?_
      rw [hik] at hr
      subst hr
      have hxq5 := hxq4.trans hy
      have slq5 := slq4.mono hy
      clear hy
      simp (maxSteps := 10000000) (disch := first | assumption | (simp only [tyfacts, Am.wd, Nat.reduceEqDiff, Nat.reduceLT, reduceCtorEq]; try omega; done) | omega) only [Am.wanted, Am.isAlloc, Am.wb0, Am.wb1, Am.wb2, Am.wb3, Am.wb4, Am.wb5, Am.wb6, Am.wb7, Am.wb8, Am.wb9, Am.reads, Am.quiet, Am.over, Nat.testBit, Nat.reduceShiftRight, Nat.reduceAnd, Nat.reduceBNe, Nat.reduceLeDiff, Nat.reduceAdd, Nat.reduceMul, Nat.reduceLT, Nat.reduceEqDiff, Nat.reduceSub, reduceCtorEq, ↓reduceIte, tyfacts]
      cases hmn : prec ts m.toNat n.toNat with
      | false =>
        refine wpX_call (P bm bn hxq5.wf slq5) fun r HQ6 ⟨hr, hy⟩ => ?_
        rw [hmn] at hr
        subst hr
        have hxq6 := hxq5.trans hy
        have slq6 := slq5.mono hy
        clear hy
        simp (maxSteps := 10000000) (disch := first | assumption | (simp only [tyfacts, Am.wd, Nat.reduceEqDiff, Nat.reduceLT, reduceCtorEq]; try omega; done) | omega) only [Am.wanted, Am.isAlloc, Am.wb0, Am.wb1, Am.wb2, Am.wb3, Am.wb4, Am.wb5, Am.wb6, Am.wb7, Am.wb8, Am.wb9, Am.reads, Am.quiet, Am.over, Nat.testBit, Nat.reduceShiftRight, Nat.reduceAnd, Nat.reduceBNe, Nat.reduceLeDiff, Nat.reduceAdd, Nat.reduceMul, Nat.reduceLT, Nat.reduceEqDiff, Nat.reduceSub, reduceCtorEq, ↓reduceIte, tyfacts]
        exact hxq6
      | true =>
        refine wpX_call (P bm bn hxq5.wf slq5) fun r HQ6 ⟨hr, hy⟩ => ?_
        rw [hmn] at hr
        subst hr
        have hxq6 := hxq5.trans hy
        have slq6 := slq5.mono hy
        clear hy
        simp (maxSteps := 10000000) (disch := first | assumption | (simp only [tyfacts, Am.wd, Nat.reduceEqDiff, Nat.reduceLT, reduceCtorEq]; try omega; done) | omega) only [Am.wanted, Am.isAlloc, Am.wb0, Am.wb1, Am.wb2, Am.wb3, Am.wb4, Am.wb5, Am.wb6, Am.wb7, Am.wb8, Am.wb9, Am.reads, Am.quiet, Am.over, Nat.testBit, Nat.reduceShiftRight, Nat.reduceAnd, Nat.reduceBNe, Nat.reduceLeDiff, Nat.reduceAdd, Nat.reduceMul, Nat.reduceLT, Nat.reduceEqDiff, Nat.reduceSub, reduceCtorEq, ↓reduceIte, tyfacts]
        cases hin : prec ts i.toNat n.toNat with
        | true =>
          refine wpX_call (P bi bn hxq6.wf slq6) fun r HQ7 ⟨hr, hy⟩ => ?_
          rw [hin] at hr
          subst hr
          have hxq7 := hxq6.trans hy
          have slq7 := slq6.mono hy
          clear hy
          simp (maxSteps := 10000000) (disch := first | assumption | (simp only [tyfacts, Am.wd, Nat.reduceEqDiff, Nat.reduceLT, reduceCtorEq]; try omega; done) | omega) only [Am.wanted, Am.isAlloc, Am.wb0, Am.wb1, Am.wb2, Am.wb3, Am.wb4, Am.wb5, Am.wb6, Am.wb7, Am.wb8, Am.wb9, Am.reads, Am.quiet, Am.over, Nat.testBit, Nat.reduceShiftRight, Nat.reduceAnd, Nat.reduceBNe, Nat.reduceLeDiff, Nat.reduceAdd, Nat.reduceMul, Nat.reduceLT, Nat.reduceEqDiff, Nat.reduceSub, reduceCtorEq, ↓reduceIte, tyfacts]
          exact hxq7
        | false =>
          have hmk := prec_cross ti tk tm tn hik hmn hin
          refine wpX_call (P bi bn hxq6.wf slq6) fun r HQ7 ⟨hr, hy⟩ => ?_
          rw [hin] at hr
          subst hr
          have hxq7 := hxq6.trans hy
          have slq7 := slq6.mono hy
          clear hy
          simp (maxSteps := 10000000) (disch := first | assumption | (simp only [tyfacts, Am.wd, Nat.reduceEqDiff, Nat.reduceLT, reduceCtorEq]; try omega; done) | omega) only [Am.wanted, Am.isAlloc, Am.wb0, Am.wb1, Am.wb2, Am.wb3, Am.wb4, Am.wb5, Am.wb6, Am.wb7, Am.wb8, Am.wb9, Am.reads, Am.quiet, Am.over, Nat.testBit, Nat.reduceShiftRight, Nat.reduceAnd, Nat.reduceBNe, Nat.reduceLeDiff, Nat.reduceAdd, Nat.reduceMul, Nat.reduceLT, Nat.reduceEqDiff, Nat.reduceSub, reduceCtorEq, ↓reduceIte, tyfacts]
          refine wpX_call (P bm bk hxq7.wf slq7) fun r HQ8 ⟨hr, hy⟩ => ?_
          rw [hmk] at hr
          subst hr
          have hxq8 := hxq7.trans hy
          have slq8 := slq7.mono hy
          clear hy
          simp (maxSteps := 10000000) (disch := first | assumption | (simp only [tyfacts, Am.wd, Nat.reduceEqDiff, Nat.reduceLT, reduceCtorEq]; try omega; done) | omega) only [Am.wanted, Am.isAlloc, Am.wb0, Am.wb1, Am.wb2, Am.wb3, Am.wb4, Am.wb5, Am.wb6, Am.wb7, Am.wb8, Am.wb9, Am.reads, Am.quiet, Am.over, Nat.testBit, Nat.reduceShiftRight, Nat.reduceAnd, Nat.reduceBNe, Nat.reduceLeDiff, Nat.reduceAdd, Nat.reduceMul, Nat.reduceLT, Nat.reduceEqDiff, Nat.reduceSub, reduceCtorEq, ↓reduceIte, tyfacts]
          exact hxq8
end Go.Proofs.Ytkjknmdnehknbaa.W
