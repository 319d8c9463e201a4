import Derived.Test.YtkjknmdnehknbaaWkSpans
set_option linter.unusedSimpArgs false
set_option linter.unusedVariables false
set_option maxRecDepth 8000
/- OrderNext: there is always one that may be next. No conditions. -/
namespace Go.Proofs.Ytkjknmdnehknbaa.W
open Go.Am Go.Am.Ord

/-- Of those that may be next, how many are below i. -/
def upTo (ts : List Tr5) (o : List Nat) (i : Nat) : Nat := ((List.range i).filter (rdy ts o)).length
theorem upTo_succ (ts : List Tr5) (o : List Nat) (i : Nat) : upTo ts o (i + 1) = upTo ts o i + if rdy ts o i then 1 else 0 := by
  simp only [upTo, List.range_succ, List.filter_append, List.length_append]
  cases h : rdy ts o i <;> simp [h]
theorem R_at {ts : List Tr5} {o : List Nat} {i : Nat} (hi : i < ts.length) : (R ts o)[upTo ts o i]? = some i ↔ rdy ts o i = true := by
  have e : List.range ts.length = List.range i ++ i :: List.range' (i + 1) (ts.length - i - 1) := by
    rw [List.range_eq_range', List.range_eq_range', show ts.length = i + ((ts.length - i - 1) + 1) by omega, ← List.range'_append_1, Nat.zero_add, List.range'_succ]
    congr 3; omega
  have e2 : R ts o = (List.range i).filter (rdy ts o) ++ (i :: List.range' (i + 1) (ts.length - i - 1)).filter (rdy ts o) := by rw [R, e, List.filter_append]
  rw [e2, upTo, List.getElem?_append_right (Nat.le_refl _), Nat.sub_self, List.filter_cons]
  cases h : rdy ts o i with
  | true => simp
  | false =>
    simp only [Bool.false_eq_true, if_false, iff_false]
    intro h2
    have := (List.mem_filter.1 (List.mem_of_getElem? h2)).1
    rw [List.mem_range'_1] at this; omega
theorem R_full {ts : List Tr5} {o : List Nat} (hn : o.Nodup) (hlow : ∀ x, x ∈ o → x < ts.length) (hl : ts.length ≤ o.length) : R ts o = [] := by
  rcases List.eq_nil_or_concat (R ts o) with h | ⟨l', x, h⟩
  · exact h
  · have hx' : x ∈ R ts o := by rw [h]; simp
    obtain ⟨x1, x2, _⟩ := mem_R.1 hx'
    have := sub_length (x :: o) (List.range ts.length) (List.nodup_cons.2 ⟨x2, hn⟩) fun y hy => List.mem_range.2 (by
      rcases List.mem_cons.1 hy with h | h
      · omega
      · exact hlow y h)
    rw [List.length_range] at this
    simp only [List.length_cons] at this
    omega
theorem keeps_low {ts : List Tr5} {o : List Nat} (h : keepsF ts (castL o) = 0) : o.Nodup ∧ (∀ x, x ∈ o → x < ts.length) ∧ o.length ≤ ts.length := by
  obtain ⟨h1, h2, h3, h4⟩ := keeps_zero.1 h
  have n := castL_nodup.1 h3
  have l : ∀ x, x ∈ o → x < ts.length := fun x hx => inR_cast.1 (h2 x (mem_castL.2 hx))
  refine ⟨n, l, ?_⟩
  have := sub_length o (List.range ts.length) n fun x hx => List.mem_range.2 (l x hx)
  rwa [List.length_range] at this
theorem keeps_ready {ts : List Tr5} {o : List Nat} {i : Nat} (h : keepsF ts (castL o) = 0) (hi : i < ts.length) : decide (keepsF ts (castL o ++ [(i : Int)]) = 0) = rdy ts o i := by
  rw [Bool.eq_iff_iff, decide_eq_true_eq]
  by_cases hm : i ∈ o
  · constructor
    · intro h2
      have := (keeps_zero.1 h2).2.2.1
      rw [List.nodup_append] at this
      exact absurd rfl (this.2.2 _ (mem_castL.2 hm) (i : Int) (by simp))
    · intro h2; exact absurd hm (rdy_iff.1 h2).1
  · exact keeps_snoc h hi hm
theorem next_zero {ts : List Tr5} {xs : List Int} (h : keepsF ts xs = 0) : (nextF ts xs).2 = 0 := by rw [nextF, if_neg (by omega)]

theorem nextLaw_ok {H : Heap} (wf : H.WF) {v w : V} {xs ys : List Int} (hv : Sl H v 1 (xs.map cI)) (hw : Sl H w 1 (ys.map cI)) :
    CallsTo T 6 [v, w] H fun r H' => r = .bool true ∧ Ext H H' := by
  refine Am.calls_enter (T := T) rfl Try.func6 rfl (by simp only [Try.f6, List.length_cons, List.length_nil]; decide) ?_
  simp only [Try.f6]
  have L := hv.len
  have LW := hw.len
  simp (maxSteps := 10000000) (disch := first | assumption | (simp only [tyfacts, Am.wd, Nat.reduceEqDiff, Nat.reduceLT, reduceCtorEq]; try omega; done) | omega) only [Am.wanted, Am.isAlloc, Am.wb0, Am.wb1, Am.wb2, Am.wb3, Am.wb4, Am.wb5, Am.wb6, Am.wb7, Am.wb8, Am.wb9, Am.reads, Am.quiet, Am.over, Nat.testBit, Nat.reduceShiftRight, Nat.reduceAnd, Nat.reduceBNe, Nat.reduceLeDiff, Nat.reduceAdd, Nat.reduceMul, Nat.reduceLT, Nat.reduceEqDiff, Nat.reduceSub, reduceCtorEq, ↓reduceIte, tyfacts]
  refine wpX_call (known_ok H) fun r H1 ⟨hr, hH⟩ => ?_
  subst hr
  subst hH
  by_cases b1 : 24 < (xs.length : Int)
  · simp (maxSteps := 10000000) (disch := first | assumption | (simp only [tyfacts, Am.wd, Nat.reduceEqDiff, Nat.reduceLT, reduceCtorEq]; try omega; done) | omega) only [Am.wanted, Am.isAlloc, Am.wb0, Am.wb1, Am.wb2, Am.wb3, Am.wb4, Am.wb5, Am.wb6, Am.wb7, Am.wb8, Am.wb9, Am.reads, Am.quiet, Am.over, Nat.testBit, Nat.reduceShiftRight, Nat.reduceAnd, Nat.reduceBNe, Nat.reduceLeDiff, Nat.reduceAdd, Nat.reduceMul, Nat.reduceLT, Nat.reduceEqDiff, Nat.reduceSub, reduceCtorEq, ↓reduceIte, tyfacts, L, LW, b1]
    exact Ext.refl wf
  by_cases b2 : 12 < (ys.length : Int)
  · simp (maxSteps := 10000000) (disch := first | assumption | (simp only [tyfacts, Am.wd, Nat.reduceEqDiff, Nat.reduceLT, reduceCtorEq]; try omega; done) | omega) only [Am.wanted, Am.isAlloc, Am.wb0, Am.wb1, Am.wb2, Am.wb3, Am.wb4, Am.wb5, Am.wb6, Am.wb7, Am.wb8, Am.wb9, Am.reads, Am.quiet, Am.over, Nat.testBit, Nat.reduceShiftRight, Nat.reduceAnd, Nat.reduceBNe, Nat.reduceLeDiff, Nat.reduceAdd, Nat.reduceMul, Nat.reduceLT, Nat.reduceEqDiff, Nat.reduceSub, reduceCtorEq, ↓reduceIte, tyfacts, L, LW, b1, b2]
    exact Ext.refl wf
  simp (maxSteps := 10000000) (disch := first | assumption | (simp only [tyfacts, Am.wd, Nat.reduceEqDiff, Nat.reduceLT, reduceCtorEq]; try omega; done) | omega) only [Am.wanted, Am.isAlloc, Am.wb0, Am.wb1, Am.wb2, Am.wb3, Am.wb4, Am.wb5, Am.wb6, Am.wb7, Am.wb8, Am.wb9, Am.reads, Am.quiet, Am.over, Nat.testBit, Nat.reduceShiftRight, Nat.reduceAnd, Nat.reduceBNe, Nat.reduceLeDiff, Nat.reduceAdd, Nat.reduceMul, Nat.reduceLT, Nat.reduceEqDiff, Nat.reduceSub, reduceCtorEq, ↓reduceIte, tyfacts, L, LW, b1, b2]
  refine wpX_call (spans_ok wf hv (by omega)) fun l H1 ⟨ml, hx1⟩ => ?_
  have sl1 := ml.sl
  have Ll := ml.len
  have hlen : (spansF xs).length ≤ 12 := by rw [spansF_len]; omega
  have hg := spansF_good xs
  clear ml
  generalize spansF xs = ts at hlen sl1 Ll hg
  simp (maxSteps := 10000000) (disch := first | assumption | (simp only [tyfacts, Am.wd, Nat.reduceEqDiff, Nat.reduceLT, reduceCtorEq]; try omega; done) | omega) only [Am.wanted, Am.isAlloc, Am.wb0, Am.wb1, Am.wb2, Am.wb3, Am.wb4, Am.wb5, Am.wb6, Am.wb7, Am.wb8, Am.wb9, Am.reads, Am.quiet, Am.over, Nat.testBit, Nat.reduceShiftRight, Nat.reduceAnd, Nat.reduceBNe, Nat.reduceLeDiff, Nat.reduceAdd, Nat.reduceMul, Nat.reduceLT, Nat.reduceEqDiff, Nat.reduceSub, reduceCtorEq, ↓reduceIte, tyfacts]
  refine wpX_call (check_ok hx1.wf sl1 (by omega)) fun r H2 ⟨hr, hy⟩ => ?_
  subst hr
  have hx2 := hx1.trans hy
  have sl2 := sl1.mono hy
  simp (maxSteps := 10000000) (disch := first | assumption | (simp only [tyfacts, Am.wd, Nat.reduceEqDiff, Nat.reduceLT, reduceCtorEq]; try omega; done) | omega) only [Am.wanted, Am.isAlloc, Am.wb0, Am.wb1, Am.wb2, Am.wb3, Am.wb4, Am.wb5, Am.wb6, Am.wb7, Am.wb8, Am.wb9, Am.reads, Am.quiet, Am.over, Nat.testBit, Nat.reduceShiftRight, Nat.reduceAnd, Nat.reduceBNe, Nat.reduceLeDiff, Nat.reduceAdd, Nat.reduceMul, Nat.reduceLT, Nat.reduceEqDiff, Nat.reduceSub, reduceCtorEq, ↓reduceIte, tyfacts]
  refine wpB_dec (fun hc => ?_) (fun hc => ?_)
  · simp (maxSteps := 10000000) (disch := first | assumption | (simp only [tyfacts, Am.wd, Nat.reduceEqDiff, Nat.reduceLT, reduceCtorEq]; try omega; done) | omega) only [Am.wanted, Am.isAlloc, Am.wb0, Am.wb1, Am.wb2, Am.wb3, Am.wb4, Am.wb5, Am.wb6, Am.wb7, Am.wb8, Am.wb9, Am.reads, Am.quiet, Am.over, Nat.testBit, Nat.reduceShiftRight, Nat.reduceAnd, Nat.reduceBNe, Nat.reduceLeDiff, Nat.reduceAdd, Nat.reduceMul, Nat.reduceLT, Nat.reduceEqDiff, Nat.reduceSub, reduceCtorEq, ↓reduceIte, tyfacts]
    exact hx2
  replace hc := Classical.not_not.1 hc
  clear hx1 sl1 hy
  simp (maxSteps := 10000000) (disch := first | assumption | (simp only [tyfacts, Am.wd, Nat.reduceEqDiff, Nat.reduceLT, reduceCtorEq]; try omega; done) | omega) only [Am.wanted, Am.isAlloc, Am.wb0, Am.wb1, Am.wb2, Am.wb3, Am.wb4, Am.wb5, Am.wb6, Am.wb7, Am.wb8, Am.wb9, Am.reads, Am.quiet, Am.over, Nat.testBit, Nat.reduceShiftRight, Nat.reduceAnd, Nat.reduceBNe, Nat.reduceLeDiff, Nat.reduceAdd, Nat.reduceMul, Nat.reduceLT, Nat.reduceEqDiff, Nat.reduceSub, reduceCtorEq, ↓reduceIte, tyfacts]
  have ha : appOk T 22 22 = some (1, 8) := by simp only [tyfacts]
  refine wpK_loop_ind _ (fun o : List Nat => ts.length - o.length) (fun o a H' => a.tmps.n = 126 ∧ a.defers = [] ∧ a.tmp 1 = w ∧ a.tmp 5 = .bool true ∧ a.tmp 6 = l ∧
    Mine H2.n H' (a.tmp 7) 1 ((castL o).map cI) ∧ Ext H2 H' ∧ keepsF ts (castL o) = 0) [] ?_ ?_
  · simp (maxSteps := 10000000) (disch := first | assumption | (simp only [tyfacts, Am.wd, Nat.reduceEqDiff, Nat.reduceLT, reduceCtorEq]; try omega; done) | omega) only [Am.wanted, Am.isAlloc, Am.wb0, Am.wb1, Am.wb2, Am.wb3, Am.wb4, Am.wb5, Am.wb6, Am.wb7, Am.wb8, Am.wb9, Am.reads, Am.quiet, Am.over, Nat.testBit, Nat.reduceShiftRight, Nat.reduceAnd, Nat.reduceBNe, Nat.reduceLeDiff, Nat.reduceAdd, Nat.reduceMul, Nat.reduceLT, Nat.reduceEqDiff, Nat.reduceSub, reduceCtorEq, ↓reduceIte, tyfacts]
    exact ⟨Mine.nil _ _ _, Ext.refl hx2.wf, keeps_zero.2 ⟨hc, by simp [castL], by simp [castL], rfl⟩⟩
  intro o a H3 ⟨hn, hd, t1, t5, t6, hm, hx, hk⟩ ih
  generalize t7 : a.tmp 7 = u at hm
  have Lu := hm.len
  have lo := castL_len o
  rw [List.length_map, lo] at Lu
  obtain ⟨k1, k2, k3⟩ := keeps_low hk
  have sl3 := sl2.mono hx
  have hw3 := hw.mono (hx2.trans hx)
  simp (maxSteps := 10000000) (disch := first | assumption | (simp only [tyfacts, Am.wd, Nat.reduceEqDiff, Nat.reduceLT, reduceCtorEq]; try omega; done) | omega) only [Am.wanted, Am.isAlloc, Am.wb0, Am.wb1, Am.wb2, Am.wb3, Am.wb4, Am.wb5, Am.wb6, Am.wb7, Am.wb8, Am.wb9, Am.reads, Am.quiet, Am.over, Nat.testBit, Nat.reduceShiftRight, Nat.reduceAnd, Nat.reduceBNe, Nat.reduceLeDiff, Nat.reduceAdd, Nat.reduceMul, Nat.reduceLT, Nat.reduceEqDiff, Nat.reduceSub, reduceCtorEq, ↓reduceIte, tyfacts, t6, t7, hn, Ll, Lu]
  refine wpB_dec (fun hq => ?_) (fun hq => ?_)
  · have hr := exists_ready hc (o := o) (by omega)
    have hrl : 0 < (R ts o).length := List.length_pos_iff.2 hr
    have hrl2 : (R ts o).length ≤ 12 := by
      have : (R ts o).length ≤ ts.length := by rw [R]; exact Nat.le_trans (List.length_filter_le _ _) (by simp)
      omega
    simp (maxSteps := 10000000) (disch := first | assumption | (simp only [tyfacts, Am.wd, Nat.reduceEqDiff, Nat.reduceLT, reduceCtorEq]; try omega; done) | omega) only [Am.wanted, Am.isAlloc, Am.wb0, Am.wb1, Am.wb2, Am.wb3, Am.wb4, Am.wb5, Am.wb6, Am.wb7, Am.wb8, Am.wb9, Am.reads, Am.quiet, Am.over, Nat.testBit, Nat.reduceShiftRight, Nat.reduceAnd, Nat.reduceBNe, Nat.reduceLeDiff, Nat.reduceAdd, Nat.reduceMul, Nat.reduceLT, Nat.reduceEqDiff, Nat.reduceSub, reduceCtorEq, ↓reduceIte, tyfacts, t6, t7, hn]
    refine wpX_call (next_ok hx.wf sl3 hg hm.sl (by omega) (by omega)) fun r H4 ⟨n, hr, mn, hy⟩ => ?_
    subst hr
    have z4 := hx.trans hy
    have hm4 := hm.mono hy
    rw [next_zero hk]
    rw [next_eq hk] at mn
    have Ln := mn.len
    rw [List.length_map, castL_len] at Ln
    have hne : ¬ ((R ts o).length : Int) = 0 := by omega
    simp (maxSteps := 10000000) (disch := first | assumption | (simp only [tyfacts, Am.wd, Nat.reduceEqDiff, Nat.reduceLT, reduceCtorEq]; try omega; done) | omega) only [Am.wanted, Am.isAlloc, Am.wb0, Am.wb1, Am.wb2, Am.wb3, Am.wb4, Am.wb5, Am.wb6, Am.wb7, Am.wb8, Am.wb9, Am.reads, Am.quiet, Am.over, Nat.testBit, Nat.reduceShiftRight, Nat.reduceAnd, Nat.reduceBNe, Nat.reduceLeDiff, Nat.reduceAdd, Nat.reduceMul, Nat.reduceLT, Nat.reduceEqDiff, Nat.reduceSub, reduceCtorEq, ↓reduceIte, tyfacts, hn, Ln, hne]
    refine wpK_loop_ind _ (fun i : Nat => ts.length - i) (fun i a H' => a.tmps.n = 126 ∧ a.defers = [] ∧ a.tmp 1 = w ∧ a.tmp 5 = .bool true ∧ a.tmp 6 = l ∧ a.tmp 7 = u ∧ a.tmp 8 = n ∧ a.tmp 10 = .int .i64 (upTo ts o i) ∧ a.tmp 11 = .int .i64 i ∧ Ext H4 H' ∧ i ≤ ts.length) 0 ?_ ?_
    · simp (maxSteps := 10000000) (disch := first | assumption | (simp only [tyfacts, Am.wd, Nat.reduceEqDiff, Nat.reduceLT, reduceCtorEq]; try omega; done) | omega) only [Am.wanted, Am.isAlloc, Am.wb0, Am.wb1, Am.wb2, Am.wb3, Am.wb4, Am.wb5, Am.wb6, Am.wb7, Am.wb8, Am.wb9, Am.reads, Am.quiet, Am.over, Nat.testBit, Nat.reduceShiftRight, Nat.reduceAnd, Nat.reduceBNe, Nat.reduceLeDiff, Nat.reduceAdd, Nat.reduceMul, Nat.reduceLT, Nat.reduceEqDiff, Nat.reduceSub, reduceCtorEq, ↓reduceIte, tyfacts, hn, hd, t1, t5, t6, t7]
      exact ⟨rfl, rfl, Ext.refl z4.wf, by omega⟩
    clear hn hd t1 t5 t6 t7 a
    intro i a H5 ⟨hn, hd, t1, t5, t6, t7, t8, t10, t11, hy5, hi⟩ ih2
    have z5 := z4.trans hy5
    have mn5 := mn.mono hy5
    have hm5 := hm4.mono hy5
    simp (maxSteps := 10000000) (disch := first | assumption | (simp only [tyfacts, Am.wd, Nat.reduceEqDiff, Nat.reduceLT, reduceCtorEq]; try omega; done) | omega) only [Am.wanted, Am.isAlloc, Am.wb0, Am.wb1, Am.wb2, Am.wb3, Am.wb4, Am.wb5, Am.wb6, Am.wb7, Am.wb8, Am.wb9, Am.reads, Am.quiet, Am.over, Nat.testBit, Nat.reduceShiftRight, Nat.reduceAnd, Nat.reduceBNe, Nat.reduceLeDiff, Nat.reduceAdd, Nat.reduceMul, Nat.reduceLT, Nat.reduceEqDiff, Nat.reduceSub, reduceCtorEq, ↓reduceIte, tyfacts, t6, t11, hn, Ll]
    refine wpB_dec (fun hq2 => ?_) (fun hq2 => ?_)
    · have hj : i < ts.length := by omega
      have kr := keeps_ready hk hj
      have ra := R_at (o := o) hj
      have us := upTo_succ ts o i
      have hcall : ∀ H', Ext H5 H' → CallsTo T 10 [u] H' fun r H'' => Mine H'.n H'' r 1 ((castL o).map cI) ∧ Ext H' H'' := fun H' hx' => copyInts_ok hx'.wf (hm5.sl.mono hx') (by omega)
      cases hrd : rdy ts o i with
      | true =>
        have r1 := ra.2 hrd
        obtain ⟨r2, r3⟩ := List.getElem?_eq_some_iff.1 r1
        have e0 : upTo ts o i < ((castL (R ts o)).map cI).length := by simp only [List.length_map, castL_len]; exact r2
        have g0 : ((castL (R ts o)).map cI)[upTo ts o i] = [.int .i64 (i : Int)] := by simp [castL, r3, cI]
        have l0 := mn5.sl.load1 (T := T) 3 (by simp only [tyfacts]) _ e0
        rw [g0] at l0
        replace l0 : loadP T H5 3 (ptrAt n (upTo ts o i)) = some (.int .i64 (i : Int)) := l0
        have r2' : (upTo ts o i : Int) < ((R ts o).length : Int) := by omega
        have i0 := mn5.sl.idx (T := T) 22 (by simp only [tyfacts]) .i64 _ e0
        simp (maxSteps := 10000000) (disch := first | assumption | (simp only [tyfacts, Am.wd, Nat.reduceEqDiff, Nat.reduceLT, reduceCtorEq]; try omega; done) | omega) only [Am.wanted, Am.isAlloc, Am.wb0, Am.wb1, Am.wb2, Am.wb3, Am.wb4, Am.wb5, Am.wb6, Am.wb7, Am.wb8, Am.wb9, Am.reads, Am.quiet, Am.over, Nat.testBit, Nat.reduceShiftRight, Nat.reduceAnd, Nat.reduceBNe, Nat.reduceLeDiff, Nat.reduceAdd, Nat.reduceMul, Nat.reduceLT, Nat.reduceEqDiff, Nat.reduceSub, reduceCtorEq, ↓reduceIte, tyfacts, t6, t7, t8, t10, t11, hn, Ln, r2', l0, i0, eq_self]
        refine wpX_call (hcall H5 (Ext.refl z5.wf)) fun c H6 ⟨mc, hy6⟩ => ?_
        have z6 := z5.trans hy6
        have hap := append_one mc z6.wf hy6.n (k := H6.n) rfl ha (f := cI (i : Int)) rfl rfl (by simp [castL]; omega) (by simp [castL]; omega)
        obtain ⟨q, H7, p1, p2, p3, p4⟩ := hap
        have hy7 : Ext H5 H7 := hy6.thenB p3 fun m hm => mc.ge hm
        have z7 := z5.trans hy7
        have p2' : Sl H7 q 1 ((castL o ++ [(i : Int)]).map cI) := by simpa using p2.sl
        simp only [cI] at p1
        simp (maxSteps := 10000000) (disch := first | assumption | (simp only [tyfacts, Am.wd, Nat.reduceEqDiff, Nat.reduceLT, reduceCtorEq]; try omega; done) | omega) only [Am.wanted, Am.isAlloc, Am.wb0, Am.wb1, Am.wb2, Am.wb3, Am.wb4, Am.wb5, Am.wb6, Am.wb7, Am.wb8, Am.wb9, Am.reads, Am.quiet, Am.over, Nat.testBit, Nat.reduceShiftRight, Nat.reduceAnd, Nat.reduceBNe, Nat.reduceLeDiff, Nat.reduceAdd, Nat.reduceMul, Nat.reduceLT, Nat.reduceEqDiff, Nat.reduceSub, reduceCtorEq, ↓reduceIte, tyfacts, t11, hn, p1]
        refine wpX_call (keeps_ok z7.wf (sl2.mono z7) hg p2' (by omega) (by simp [castL]; omega)) fun r H8 ⟨hr, hy8⟩ => ?_
        subst hr
        have hy8 := hy7.trans hy8
        simp (maxSteps := 10000000) (disch := first | assumption | (simp only [tyfacts, Am.wd, Nat.reduceEqDiff, Nat.reduceLT, reduceCtorEq]; try omega; done) | omega) only [Am.wanted, Am.isAlloc, Am.wb0, Am.wb1, Am.wb2, Am.wb3, Am.wb4, Am.wb5, Am.wb6, Am.wb7, Am.wb8, Am.wb9, Am.reads, Am.quiet, Am.over, Nat.testBit, Nat.reduceShiftRight, Nat.reduceAnd, Nat.reduceBNe, Nat.reduceLeDiff, Nat.reduceAdd, Nat.reduceMul, Nat.reduceLT, Nat.reduceEqDiff, Nat.reduceSub, reduceCtorEq, ↓reduceIte, tyfacts, kr, hrd, hn, hd, t11]
        refine ih2 (i + 1) _ _ (by omega) ?_
        simp (maxSteps := 10000000) (disch := first | assumption | (simp only [tyfacts, Am.wd, Nat.reduceEqDiff, Nat.reduceLT, reduceCtorEq]; try omega; done) | omega) only [Am.wanted, Am.isAlloc, Am.wb0, Am.wb1, Am.wb2, Am.wb3, Am.wb4, Am.wb5, Am.wb6, Am.wb7, Am.wb8, Am.wb9, Am.reads, Am.quiet, Am.over, Nat.testBit, Nat.reduceShiftRight, Nat.reduceAnd, Nat.reduceBNe, Nat.reduceLeDiff, Nat.reduceAdd, Nat.reduceMul, Nat.reduceLT, Nat.reduceEqDiff, Nat.reduceSub, reduceCtorEq, ↓reduceIte, tyfacts, hn, hd, t1, t5, t6, t7, t8]
        refine ⟨by rw [us, hrd]; simp, by simp, hy5.trans hy8, by omega⟩
      | false =>
        have r1 : ¬ (R ts o)[upTo ts o i]? = some i := fun h => by rw [ra.1 h] at hrd; cases hrd
        by_cases r2 : (upTo ts o i : Int) < ((R ts o).length : Int)
        · have e0 : upTo ts o i < ((castL (R ts o)).map cI).length := by simp only [List.length_map, castL_len]; omega
          have r3 : ¬ ((R ts o)[upTo ts o i]'(by omega) : Int) = (i : Int) := fun h => r1 (by rw [List.getElem?_eq_getElem (by omega)]; congr 1; omega)
          have g0 : ((castL (R ts o)).map cI)[upTo ts o i] = [.int .i64 ((R ts o)[upTo ts o i]'(by omega) : Int)] := by simp [castL, cI]
          have l0 := mn5.sl.load1 (T := T) 3 (by simp only [tyfacts]) _ e0
          rw [g0] at l0
          replace l0 : loadP T H5 3 (ptrAt n (upTo ts o i)) = some (.int .i64 ((R ts o)[upTo ts o i]'(by omega) : Int)) := l0
          have i0 := mn5.sl.idx (T := T) 22 (by simp only [tyfacts]) .i64 _ e0
          simp (maxSteps := 10000000) (disch := first | assumption | (simp only [tyfacts, Am.wd, Nat.reduceEqDiff, Nat.reduceLT, reduceCtorEq]; try omega; done) | omega) only [Am.wanted, Am.isAlloc, Am.wb0, Am.wb1, Am.wb2, Am.wb3, Am.wb4, Am.wb5, Am.wb6, Am.wb7, Am.wb8, Am.wb9, Am.reads, Am.quiet, Am.over, Nat.testBit, Nat.reduceShiftRight, Nat.reduceAnd, Nat.reduceBNe, Nat.reduceLeDiff, Nat.reduceAdd, Nat.reduceMul, Nat.reduceLT, Nat.reduceEqDiff, Nat.reduceSub, reduceCtorEq, ↓reduceIte, tyfacts, t6, t7, t8, t10, t11, hn, Ln, r2, l0, i0, r3]
          refine wpX_call (hcall H5 (Ext.refl z5.wf)) fun c H6 ⟨mc, hy6⟩ => ?_
          have z6 := z5.trans hy6
          have hap := append_one mc z6.wf hy6.n (k := H6.n) rfl ha (f := cI (i : Int)) rfl rfl (by simp [castL]; omega) (by simp [castL]; omega)
          obtain ⟨q, H7, p1, p2, p3, p4⟩ := hap
          have hy7 : Ext H5 H7 := hy6.thenB p3 fun m hm => mc.ge hm
          have z7 := z5.trans hy7
          have p2' : Sl H7 q 1 ((castL o ++ [(i : Int)]).map cI) := by simpa using p2.sl
          simp only [cI] at p1
          simp (maxSteps := 10000000) (disch := first | assumption | (simp only [tyfacts, Am.wd, Nat.reduceEqDiff, Nat.reduceLT, reduceCtorEq]; try omega; done) | omega) only [Am.wanted, Am.isAlloc, Am.wb0, Am.wb1, Am.wb2, Am.wb3, Am.wb4, Am.wb5, Am.wb6, Am.wb7, Am.wb8, Am.wb9, Am.reads, Am.quiet, Am.over, Nat.testBit, Nat.reduceShiftRight, Nat.reduceAnd, Nat.reduceBNe, Nat.reduceLeDiff, Nat.reduceAdd, Nat.reduceMul, Nat.reduceLT, Nat.reduceEqDiff, Nat.reduceSub, reduceCtorEq, ↓reduceIte, tyfacts, t11, hn, p1]
          refine wpX_call (keeps_ok z7.wf (sl2.mono z7) hg p2' (by omega) (by simp [castL]; omega)) fun r H8 ⟨hr, hy8⟩ => ?_
          subst hr
          have hy8 := hy7.trans hy8
          simp (maxSteps := 10000000) (disch := first | assumption | (simp only [tyfacts, Am.wd, Nat.reduceEqDiff, Nat.reduceLT, reduceCtorEq]; try omega; done) | omega) only [Am.wanted, Am.isAlloc, Am.wb0, Am.wb1, Am.wb2, Am.wb3, Am.wb4, Am.wb5, Am.wb6, Am.wb7, Am.wb8, Am.wb9, Am.reads, Am.quiet, Am.over, Nat.testBit, Nat.reduceShiftRight, Nat.reduceAnd, Nat.reduceBNe, Nat.reduceLeDiff, Nat.reduceAdd, Nat.reduceMul, Nat.reduceLT, Nat.reduceEqDiff, Nat.reduceSub, reduceCtorEq, ↓reduceIte, tyfacts, kr, hrd, hn, hd, t11]
          refine ih2 (i + 1) _ _ (by omega) ?_
          simp (maxSteps := 10000000) (disch := first | assumption | (simp only [tyfacts, Am.wd, Nat.reduceEqDiff, Nat.reduceLT, reduceCtorEq]; try omega; done) | omega) only [Am.wanted, Am.isAlloc, Am.wb0, Am.wb1, Am.wb2, Am.wb3, Am.wb4, Am.wb5, Am.wb6, Am.wb7, Am.wb8, Am.wb9, Am.reads, Am.quiet, Am.over, Nat.testBit, Nat.reduceShiftRight, Nat.reduceAnd, Nat.reduceBNe, Nat.reduceLeDiff, Nat.reduceAdd, Nat.reduceMul, Nat.reduceLT, Nat.reduceEqDiff, Nat.reduceSub, reduceCtorEq, ↓reduceIte, tyfacts, hn, hd, t1, t5, t6, t7, t8, t10]
          refine ⟨by rw [us, hrd]; simp, by simp, hy5.trans hy8, by omega⟩
        · simp (maxSteps := 10000000) (disch := first | assumption | (simp only [tyfacts, Am.wd, Nat.reduceEqDiff, Nat.reduceLT, reduceCtorEq]; try omega; done) | omega) only [Am.wanted, Am.isAlloc, Am.wb0, Am.wb1, Am.wb2, Am.wb3, Am.wb4, Am.wb5, Am.wb6, Am.wb7, Am.wb8, Am.wb9, Am.reads, Am.quiet, Am.over, Nat.testBit, Nat.reduceShiftRight, Nat.reduceAnd, Nat.reduceBNe, Nat.reduceLeDiff, Nat.reduceAdd, Nat.reduceMul, Nat.reduceLT, Nat.reduceEqDiff, Nat.reduceSub, reduceCtorEq, ↓reduceIte, tyfacts, t6, t7, t8, t10, t11, hn, Ln, r2]
          refine wpX_call (hcall H5 (Ext.refl z5.wf)) fun c H6 ⟨mc, hy6⟩ => ?_
          have z6 := z5.trans hy6
          have hap := append_one mc z6.wf hy6.n (k := H6.n) rfl ha (f := cI (i : Int)) rfl rfl (by simp [castL]; omega) (by simp [castL]; omega)
          obtain ⟨q, H7, p1, p2, p3, p4⟩ := hap
          have hy7 : Ext H5 H7 := hy6.thenB p3 fun m hm => mc.ge hm
          have z7 := z5.trans hy7
          have p2' : Sl H7 q 1 ((castL o ++ [(i : Int)]).map cI) := by simpa using p2.sl
          simp only [cI] at p1
          simp (maxSteps := 10000000) (disch := first | assumption | (simp only [tyfacts, Am.wd, Nat.reduceEqDiff, Nat.reduceLT, reduceCtorEq]; try omega; done) | omega) only [Am.wanted, Am.isAlloc, Am.wb0, Am.wb1, Am.wb2, Am.wb3, Am.wb4, Am.wb5, Am.wb6, Am.wb7, Am.wb8, Am.wb9, Am.reads, Am.quiet, Am.over, Nat.testBit, Nat.reduceShiftRight, Nat.reduceAnd, Nat.reduceBNe, Nat.reduceLeDiff, Nat.reduceAdd, Nat.reduceMul, Nat.reduceLT, Nat.reduceEqDiff, Nat.reduceSub, reduceCtorEq, ↓reduceIte, tyfacts, t11, hn, p1]
          refine wpX_call (keeps_ok z7.wf (sl2.mono z7) hg p2' (by omega) (by simp [castL]; omega)) fun r H8 ⟨hr, hy8⟩ => ?_
          subst hr
          have hy8 := hy7.trans hy8
          simp (maxSteps := 10000000) (disch := first | assumption | (simp only [tyfacts, Am.wd, Nat.reduceEqDiff, Nat.reduceLT, reduceCtorEq]; try omega; done) | omega) only [Am.wanted, Am.isAlloc, Am.wb0, Am.wb1, Am.wb2, Am.wb3, Am.wb4, Am.wb5, Am.wb6, Am.wb7, Am.wb8, Am.wb9, Am.reads, Am.quiet, Am.over, Nat.testBit, Nat.reduceShiftRight, Nat.reduceAnd, Nat.reduceBNe, Nat.reduceLeDiff, Nat.reduceAdd, Nat.reduceMul, Nat.reduceLT, Nat.reduceEqDiff, Nat.reduceSub, reduceCtorEq, ↓reduceIte, tyfacts, kr, hrd, hn, hd, t11]
          refine ih2 (i + 1) _ _ (by omega) ?_
          simp (maxSteps := 10000000) (disch := first | assumption | (simp only [tyfacts, Am.wd, Nat.reduceEqDiff, Nat.reduceLT, reduceCtorEq]; try omega; done) | omega) only [Am.wanted, Am.isAlloc, Am.wb0, Am.wb1, Am.wb2, Am.wb3, Am.wb4, Am.wb5, Am.wb6, Am.wb7, Am.wb8, Am.wb9, Am.reads, Am.quiet, Am.over, Nat.testBit, Nat.reduceShiftRight, Nat.reduceAnd, Nat.reduceBNe, Nat.reduceLeDiff, Nat.reduceAdd, Nat.reduceMul, Nat.reduceLT, Nat.reduceEqDiff, Nat.reduceSub, reduceCtorEq, ↓reduceIte, tyfacts, hn, hd, t1, t5, t6, t7, t8, t10]
          refine ⟨by rw [us, hrd]; simp, by simp, hy5.trans hy8, by omega⟩
    · have hie : i = ts.length := by omega
      subst hie
      have hall : upTo ts o ts.length = (R ts o).length := rfl
      have hlw' := hw.mono (hx2.trans z5)
      by_cases hlw : (o.length : Int) < (ys.length : Int)
      · have e9 : o.length < (ys.map cI).length := by simp; omega
        have e9' : o.length < ys.length := by omega
        generalize htk : ys[o.length] = tk
        have l9 := hlw'.load1 (T := T) 3 (by simp only [tyfacts]) _ e9
        have g9 : (ys.map cI)[o.length] = [.int .i64 tk] := by rw [← htk]; simp [cI]
        rw [g9] at l9
        replace l9 : loadP T H5 3 (ptrAt w o.length) = some (.int .i64 tk) := l9
        have i9 := hlw'.idx (T := T) 22 (by simp only [tyfacts]) .i64 _ e9
        simp (maxSteps := 10000000) (disch := first | assumption | (simp only [tyfacts, Am.wd, Nat.reduceEqDiff, Nat.reduceLT, reduceCtorEq]; try omega; done) | omega) only [Am.wanted, Am.isAlloc, Am.wb0, Am.wb1, Am.wb2, Am.wb3, Am.wb4, Am.wb5, Am.wb6, Am.wb7, Am.wb8, Am.wb9, Am.reads, Am.quiet, Am.over, Nat.testBit, Nat.reduceShiftRight, Nat.reduceAnd, Nat.reduceBNe, Nat.reduceLeDiff, Nat.reduceAdd, Nat.reduceMul, Nat.reduceLT, Nat.reduceEqDiff, Nat.reduceSub, reduceCtorEq, ↓reduceIte, tyfacts, t1, t7, t8, t10, hn, Ln, Lu, LW, hall, eq_self, hlw, i9, l9]
        refine wpX_call (pick_ok z5.wf tk (R ts o).length (by omega)) fun r H6 ⟨hr, hy6⟩ => ?_
        subst hr
        have b := pickF_lt (n := tk) (m := ((R ts o).length : Int)) (by omega)
        generalize pickF tk (R ts o).length = pk at b
        have e1 : pk.toNat < (R ts o).length := by omega
        have e0 : pk.toNat < ((castL (R ts o)).map cI).length := by simp only [List.length_map, castL_len]; exact e1
        have g0 : ((castL (R ts o)).map cI)[pk.toNat] = [.int .i64 ((R ts o)[pk.toNat] : Int)] := by simp [castL, cI]
        have z6 := z5.trans hy6
        have mn6 := mn5.mono hy6
        have hm6 := hm5.mono hy6
        have l0 := mn6.sl.load1 (T := T) 3 (by simp only [tyfacts]) _ e0
        rw [g0] at l0
        have i0 := mn6.sl.idxI (T := T) 22 (by simp only [tyfacts]) .i64 pk b.1 (by simp only [List.length_map, castL_len]; omega)
        have hm9 : (R ts o)[pk.toNat] ∈ R ts o := List.getElem_mem e1
        generalize (R ts o)[pk.toNat] = m at l0 hm9
        replace l0 : loadP T H6 3 (ptrAt n pk.toNat) = some (.int .i64 (m : Int)) := l0
        have hap := append_one hm6 z6.wf z6.n (k := H6.n) rfl ha (f := cI (m : Int)) rfl rfl (by simp [castL]; omega) (by simp [castL]; omega)
        obtain ⟨q, H7, p1, p2, p3, p4⟩ := hap
        simp only [cI] at p1
        simp (maxSteps := 10000000) (disch := first | assumption | (simp only [tyfacts, Am.wd, Nat.reduceEqDiff, Nat.reduceLT, reduceCtorEq]; try omega; done) | omega) only [Am.wanted, Am.isAlloc, Am.wb0, Am.wb1, Am.wb2, Am.wb3, Am.wb4, Am.wb5, Am.wb6, Am.wb7, Am.wb8, Am.wb9, Am.reads, Am.quiet, Am.over, Nat.testBit, Nat.reduceShiftRight, Nat.reduceAnd, Nat.reduceBNe, Nat.reduceLeDiff, Nat.reduceAdd, Nat.reduceMul, Nat.reduceLT, Nat.reduceEqDiff, Nat.reduceSub, reduceCtorEq, ↓reduceIte, tyfacts, t7, t8, hn, i0, l0, p1]
        obtain ⟨m1, m2, m3⟩ := mem_R.1 hm9
        refine ih (o ++ [m]) _ _ (by simp; omega) ?_
        simp (maxSteps := 10000000) (disch := first | assumption | (simp only [tyfacts, Am.wd, Nat.reduceEqDiff, Nat.reduceLT, reduceCtorEq]; try omega; done) | omega) only [Am.wanted, Am.isAlloc, Am.wb0, Am.wb1, Am.wb2, Am.wb3, Am.wb4, Am.wb5, Am.wb6, Am.wb7, Am.wb8, Am.wb9, Am.reads, Am.quiet, Am.over, Nat.testBit, Nat.reduceShiftRight, Nat.reduceAnd, Nat.reduceBNe, Nat.reduceLeDiff, Nat.reduceAdd, Nat.reduceMul, Nat.reduceLT, Nat.reduceEqDiff, Nat.reduceSub, reduceCtorEq, ↓reduceIte, tyfacts, hn, hd, t1, t5, t6]
        refine ⟨by rw [castL_append, List.map_append]; exact p2, z6.thenB p3 fun m hm => hm6.ge hm, ?_⟩
        rw [castL_append]
        exact (keeps_snoc hk m1 m2).2 (rdy_iff.2 ⟨m2, m3⟩)
      · simp (maxSteps := 10000000) (disch := first | assumption | (simp only [tyfacts, Am.wd, Nat.reduceEqDiff, Nat.reduceLT, reduceCtorEq]; try omega; done) | omega) only [Am.wanted, Am.isAlloc, Am.wb0, Am.wb1, Am.wb2, Am.wb3, Am.wb4, Am.wb5, Am.wb6, Am.wb7, Am.wb8, Am.wb9, Am.reads, Am.quiet, Am.over, Nat.testBit, Nat.reduceShiftRight, Nat.reduceAnd, Nat.reduceBNe, Nat.reduceLeDiff, Nat.reduceAdd, Nat.reduceMul, Nat.reduceLT, Nat.reduceEqDiff, Nat.reduceSub, reduceCtorEq, ↓reduceIte, tyfacts, t1, t7, t8, t10, hn, Ln, Lu, LW, hall, eq_self, hlw]
        refine wpX_call (pick_ok z5.wf 0 (R ts o).length (by omega)) fun r H6 ⟨hr, hy6⟩ => ?_
        subst hr
        have b := pickF_lt (n := 0) (m := ((R ts o).length : Int)) (by omega)
        generalize pickF 0 (R ts o).length = pk at b
        have e1 : pk.toNat < (R ts o).length := by omega
        have e0 : pk.toNat < ((castL (R ts o)).map cI).length := by simp only [List.length_map, castL_len]; exact e1
        have g0 : ((castL (R ts o)).map cI)[pk.toNat] = [.int .i64 ((R ts o)[pk.toNat] : Int)] := by simp [castL, cI]
        have z6 := z5.trans hy6
        have mn6 := mn5.mono hy6
        have hm6 := hm5.mono hy6
        have l0 := mn6.sl.load1 (T := T) 3 (by simp only [tyfacts]) _ e0
        rw [g0] at l0
        have i0 := mn6.sl.idxI (T := T) 22 (by simp only [tyfacts]) .i64 pk b.1 (by simp only [List.length_map, castL_len]; omega)
        have hm9 : (R ts o)[pk.toNat] ∈ R ts o := List.getElem_mem e1
        generalize (R ts o)[pk.toNat] = m at l0 hm9
        replace l0 : loadP T H6 3 (ptrAt n pk.toNat) = some (.int .i64 (m : Int)) := l0
        have hap := append_one hm6 z6.wf z6.n (k := H6.n) rfl ha (f := cI (m : Int)) rfl rfl (by simp [castL]; omega) (by simp [castL]; omega)
        obtain ⟨q, H7, p1, p2, p3, p4⟩ := hap
        simp only [cI] at p1
        simp (maxSteps := 10000000) (disch := first | assumption | (simp only [tyfacts, Am.wd, Nat.reduceEqDiff, Nat.reduceLT, reduceCtorEq]; try omega; done) | omega) only [Am.wanted, Am.isAlloc, Am.wb0, Am.wb1, Am.wb2, Am.wb3, Am.wb4, Am.wb5, Am.wb6, Am.wb7, Am.wb8, Am.wb9, Am.reads, Am.quiet, Am.over, Nat.testBit, Nat.reduceShiftRight, Nat.reduceAnd, Nat.reduceBNe, Nat.reduceLeDiff, Nat.reduceAdd, Nat.reduceMul, Nat.reduceLT, Nat.reduceEqDiff, Nat.reduceSub, reduceCtorEq, ↓reduceIte, tyfacts, t7, t8, hn, i0, l0, p1]
        obtain ⟨m1, m2, m3⟩ := mem_R.1 hm9
        refine ih (o ++ [m]) _ _ (by simp; omega) ?_
        simp (maxSteps := 10000000) (disch := first | assumption | (simp only [tyfacts, Am.wd, Nat.reduceEqDiff, Nat.reduceLT, reduceCtorEq]; try omega; done) | omega) only [Am.wanted, Am.isAlloc, Am.wb0, Am.wb1, Am.wb2, Am.wb3, Am.wb4, Am.wb5, Am.wb6, Am.wb7, Am.wb8, Am.wb9, Am.reads, Am.quiet, Am.over, Nat.testBit, Nat.reduceShiftRight, Nat.reduceAnd, Nat.reduceBNe, Nat.reduceLeDiff, Nat.reduceAdd, Nat.reduceMul, Nat.reduceLT, Nat.reduceEqDiff, Nat.reduceSub, reduceCtorEq, ↓reduceIte, tyfacts, hn, hd, t1, t5, t6]
        refine ⟨by rw [castL_append, List.map_append]; exact p2, z6.thenB p3 fun m hm => hm6.ge hm, ?_⟩
        rw [castL_append]
        exact (keeps_snoc hk m1 m2).2 (rdy_iff.2 ⟨m2, m3⟩)
  · have hr := R_full k1 k2 (by omega)
    simp (maxSteps := 10000000) (disch := first | assumption | (simp only [tyfacts, Am.wd, Nat.reduceEqDiff, Nat.reduceLT, reduceCtorEq]; try omega; done) | omega) only [Am.wanted, Am.isAlloc, Am.wb0, Am.wb1, Am.wb2, Am.wb3, Am.wb4, Am.wb5, Am.wb6, Am.wb7, Am.wb8, Am.wb9, Am.reads, Am.quiet, Am.over, Nat.testBit, Nat.reduceShiftRight, Nat.reduceAnd, Nat.reduceBNe, Nat.reduceLeDiff, Nat.reduceAdd, Nat.reduceMul, Nat.reduceLT, Nat.reduceEqDiff, Nat.reduceSub, reduceCtorEq, ↓reduceIte, tyfacts, t6, t7, hn]
    refine wpX_call (next_ok hx.wf sl3 hg hm.sl (by omega) (by omega)) fun r H4 ⟨n, hr2, mn, hy⟩ => ?_
    subst hr2
    have z4 := hx.trans hy
    have hm4 := hm.mono hy
    rw [next_zero hk]
    rw [next_eq hk, hr] at mn
    have Ln := mn.len
    replace Ln : lenS n = some 0 := Ln
    simp (maxSteps := 10000000) (disch := first | assumption | (simp only [tyfacts, Am.wd, Nat.reduceEqDiff, Nat.reduceLT, reduceCtorEq]; try omega; done) | omega) only [Am.wanted, Am.isAlloc, Am.wb0, Am.wb1, Am.wb2, Am.wb3, Am.wb4, Am.wb5, Am.wb6, Am.wb7, Am.wb8, Am.wb9, Am.reads, Am.quiet, Am.over, Nat.testBit, Nat.reduceShiftRight, Nat.reduceAnd, Nat.reduceBNe, Nat.reduceLeDiff, Nat.reduceAdd, Nat.reduceMul, Nat.reduceLT, Nat.reduceEqDiff, Nat.reduceSub, reduceCtorEq, ↓reduceIte, tyfacts, t5, t6, t7, hn]
    refine wpX_call (lawKeeps_ok z4.wf (sl2.mono z4) hg hm4.sl (by omega) (by omega) 0) fun r H5 ⟨hr3, hy5⟩ => ?_
    rw [decide_eq_true hk] at hr3
    subst hr3
    simp (maxSteps := 10000000) (disch := first | assumption | (simp only [tyfacts, Am.wd, Nat.reduceEqDiff, Nat.reduceLT, reduceCtorEq]; try omega; done) | omega) only [Am.wanted, Am.isAlloc, Am.wb0, Am.wb1, Am.wb2, Am.wb3, Am.wb4, Am.wb5, Am.wb6, Am.wb7, Am.wb8, Am.wb9, Am.reads, Am.quiet, Am.over, Nat.testBit, Nat.reduceShiftRight, Nat.reduceAnd, Nat.reduceBNe, Nat.reduceLeDiff, Nat.reduceAdd, Nat.reduceMul, Nat.reduceLT, Nat.reduceEqDiff, Nat.reduceSub, reduceCtorEq, ↓reduceIte, tyfacts, Ln, hn, hd, eq_self]
    exact ⟨by simp, hx2.trans (z4.trans hy5)⟩
end Go.Proofs.Ytkjknmdnehknbaa.W
