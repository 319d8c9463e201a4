import Derived.Test.YtkjknmdnehknbaaWkNext
set_option linter.unusedSimpArgs false
set_option linter.unusedVariables false
set_option maxRecDepth 8000
/- OrderFirst: the least order takes the least that may be next; and who is sorted by commits keeps time. No conditions. -/
namespace Go.Proofs.Ytkjknmdnehknbaa.W
open Go.Am Go.Am.Ord

/-- The least order, place by place. -/
theorem first_chain {ts : List Tr5} (hc : checkF ts = 0) : ∀ k, k ≤ ts.length → ∃ o : List Nat, o.length = k ∧ Inv ts o ∧ ∀ i, i < k → Inv ts (o.take i) ∧ (R ts (o.take i))[0]? = o[i]?
  | 0, _ => ⟨[], rfl, Inv.nil hc, fun i h => by omega⟩
  | k + 1, h => by
    obtain ⟨o, h1, h2, h3⟩ := first_chain hc k (by omega)
    obtain ⟨m, m1, m2, m3, m4⟩ := R_head (exists_ready hc (o := o) (by omega))
    refine ⟨o ++ [m], by simp [h1], h2.step m1 m2, fun i hi => ?_⟩
    by_cases e : i < k
    · rw [List.take_append_of_le_length (by omega), List.getElem?_append_left (by omega)]
      exact h3 i e
    · have : i = o.length := by omega
      subst this
      rw [List.take_left, List.getElem?_append_right (Nat.le_refl _), Nat.sub_self, List.getElem?_eq_getElem m3, m4]
      exact ⟨h2, rfl⟩
theorem full_mem {n : Nat} {o : List Nat} (hn : o.Nodup) (hlow : ∀ x, x ∈ o → x < n) (hl : n ≤ o.length) {x : Nat} (hx : x < n) : x ∈ o := by
  rcases Classical.em (x ∈ o) with h | h
  · exact h
  · have := sub_length (x :: o) (List.range n) (List.nodup_cons.2 ⟨h, hn⟩) fun y hy => List.mem_range.2 (by
      rcases List.mem_cons.1 hy with h' | h'
      · omega
      · exact hlow y h')
    rw [List.length_range] at this
    simp only [List.length_cons] at this; omega
/-- In an order of all that keeps time each edge goes on. -/
theorem edge_on {ts : List Tr5} {o : List Nat} (hc : checkF ts = 0) (hk : keepsF ts (castL o) = 0) (hl : ts.length ≤ o.length) {p : Nat × Nat} (hp : p ∈ pairsF ts) :
    (p.1 : Int) ∈ castL o ∧ (p.2 : Int) ∈ castL o ∧ (castL o).idxOf (p.1 : Int) < (castL o).idxOf (p.2 : Int) := by
  obtain ⟨h1, h2, h3, h4⟩ := keeps_zero.1 hk
  obtain ⟨k1, k2, k3⟩ := keeps_low hk
  obtain ⟨p1, p2, p3⟩ := mem_pairsF.1 hp
  have m1 : (p.1 : Int) ∈ castL o := mem_castL.2 (full_mem k1 k2 hl p1)
  have m2 : (p.2 : Int) ∈ castL o := mem_castL.2 (full_mem k1 k2 hl p2)
  refine ⟨m1, m2, ?_⟩
  rw [late_eq hc h2 h3, List.any_eq_false] at h4
  have := h4 p hp
  have i2 := List.idxOf_lt_length_of_mem m2
  simp only [i2, decide_true, Bool.true_and, decide_eq_true_eq] at this
  rcases Nat.lt_or_ge ((castL o).idxOf (p.1 : Int)) ((castL o).idxOf (p.2 : Int)) with h | h
  · exact h
  · have e : (castL o).idxOf (p.1 : Int) = (castL o).idxOf (p.2 : Int) := by omega
    have g1 : (castL o)[(castL o).idxOf (p.1 : Int)]'(List.idxOf_lt_length_of_mem m1) = (p.1 : Int) := List.getElem_idxOf _
    have g2 : (castL o)[(castL o).idxOf (p.2 : Int)]'(List.idxOf_lt_length_of_mem m2) = (p.2 : Int) := List.getElem_idxOf _
    have : (p.1 : Int) = (p.2 : Int) := by rw [← g1, ← g2]; congr 1
    have e2 : p.1 = p.2 := by omega
    rw [e2, prec_irrefl hc] at p3; cases p3

/-- Sorted by commits. -/
structure ByC (ts : List Tr5) (n : Nat) (s : List Nat) : Prop where
  len : s.length = n
  nodup : s.Nodup
  low : ∀ x, x ∈ s → x < n
  sorted : s.Pairwise fun x y => ∀ (hx : x < ts.length) (hy : y < ts.length), ts[x].c ≤ ts[y].c
theorem ByC.ins {ts : List Tr5} {n at_ : Nat} {s : List Nat} (h : ByC ts n s) (hn : n < ts.length) (ha : at_ ≤ s.length) (h1 : ∀ k (hk : k < s.length), k < at_ → ∀ hx : s[k] < ts.length, ts[s[k]].c ≤ ts[n].c)
    (h2 : ∀ (hk : at_ < s.length) (hx : s[at_] < ts.length), ts[n].c < ts[s[at_]].c) : ByC ts (n + 1) (s.take at_ ++ n :: s.drop at_) := by
  have hp : (s.take at_ ++ n :: s.drop at_).Perm (n :: s) := by
    refine List.perm_middle.trans ?_
    rw [List.take_append_drop]
  have lt : ∀ x, x ∈ s → x < ts.length := fun x hx => by have := h.low x hx; omega
  refine ⟨by rw [hp.length_eq]; simp [h.len], hp.nodup_iff.2 (List.nodup_cons.2 ⟨fun hm => by have := h.low n hm; omega, h.nodup⟩), fun x hx => ?_, ?_⟩
  · rcases List.mem_cons.1 (hp.mem_iff.1 hx) with e | e
    · omega
    · have := h.low x e; omega
  · have hs := h.sorted
    rw [← List.take_append_drop at_ s, List.pairwise_append] at hs
    obtain ⟨s1, s2, s3⟩ := hs
    have low1 : ∀ x, x ∈ s.take at_ → ∀ hx : x < ts.length, ts[x].c ≤ ts[n].c := by
      intro x hx
      obtain ⟨k, hk, rfl⟩ := List.mem_take_iff_getElem.1 hx
      exact h1 k (by omega) (by omega)
    have high : ∀ x, x ∈ s.drop at_ → ∀ hx : x < ts.length, ts[n].c ≤ ts[x].c := by
      intro x hx hxl
      have hlt : at_ < s.length := by
        rcases Nat.lt_or_ge at_ s.length with h' | h'
        · exact h'
        · rw [List.drop_of_length_le h'] at hx; cases hx
      have hc := h2 hlt (lt _ (List.getElem_mem hlt))
      rw [List.drop_eq_getElem_cons hlt] at hx s2
      rcases List.mem_cons.1 hx with e | e
      · subst e; omega
      · have := (List.pairwise_cons.1 s2).1 x e (lt _ (List.getElem_mem hlt)) hxl
        omega
    rw [List.pairwise_append, List.pairwise_cons]
    refine ⟨s1, ⟨fun y hy hx hy' => high y hy hy', s2⟩, fun x hx y hy hx' hy' => ?_⟩
    rcases List.mem_cons.1 hy with e | e
    · subst e; exact low1 x hx hx'
    · exact s3 x hx y e hx' hy'
theorem ByC.keeps {ts : List Tr5} {s : List Nat} (hc : checkF ts = 0) (h : ByC ts ts.length s) : keepsF ts (castL s) = 0 := by
  refine keeps_zero.2 ⟨hc, fun i hi => ?_, castL_nodup.2 h.nodup, ?_⟩
  · simp only [castL, List.mem_map] at hi
    obtain ⟨x, hx, rfl⟩ := hi
    exact inR_cast.2 (h.low x hx)
  · rw [late, List.any_eq_false]
    intro j hj
    have hj' : j < s.length := by have := List.mem_range.1 hj; rwa [castL_len] at this
    rw [Bool.not_eq_true, List.any_eq_false]
    intro i hi
    have hi' := List.mem_range.1 hi
    have hg : (castL s).getD j 0 = (s[j] : Int) := by simp [castL, List.getD_eq_getElem?_getD, hj']
    rw [hg, show ((s[j] : Int)).toNat = s[j] by omega]
    intro hh
    simp only [Bool.and_eq_true, Bool.not_eq_true', decide_eq_false_iff_not] at hh
    obtain ⟨hp, hm⟩ := hh
    have hsj : s[j] < ts.length := h.low _ (List.getElem_mem hj')
    rw [prec_eq hi' hsj] at hp
    have hp' := of_decide_eq_true hp
    have hb := (check_zero hc).2 ts[s[j]] (List.getElem_mem hsj)
    obtain ⟨p, hp1, hp2⟩ := List.mem_iff_getElem.1 (full_mem h.nodup h.low (by rw [h.len]; exact Nat.le_refl _) hi')
    rcases Nat.lt_trichotomy p j with e | e | e
    · refine hm ?_
      have : (castL s).take j = castL (s.take j) := by simp [castL, List.map_take]
      rw [this, mem_castL, List.mem_take_iff_getElem]
      exact ⟨p, by omega, hp2⟩
    · subst e
      subst hp2
      omega
    · have := List.pairwise_iff_getElem.1 h.sorted j p hj' hp1 e hsj (by rw [hp2]; exact hi')
      subst hp2
      omega
end Go.Proofs.Ytkjknmdnehknbaa.W

/- OrderFirst, walked. No conditions. -/
namespace Go.Proofs.Ytkjknmdnehknbaa.W
open Go.Am Go.Am.Ord

theorem firstLaw_ok {H : Heap} (wf : H.WF) {v : V} {xs : List Int} (hv : Sl H v 1 (xs.map cI)) :
    CallsTo T 7 [v] H fun r H' => r = .bool true ∧ Ext H H' := by
  refine Am.calls_enter (T := T) rfl Try.func7 rfl (by simp only [Try.f7, List.length_cons, List.length_nil]; decide) ?_
  simp only [Try.f7]
  have L := hv.len
  simp (maxSteps := 10000000) (disch := first | assumption | (simp only [tyfacts, Am.wd, Nat.reduceEqDiff, Nat.reduceLT, reduceCtorEq]; try omega; done) | omega) only [Am.wanted, Am.isAlloc, Am.wb0, Am.wb1, Am.wb2, Am.wb3, Am.wb4, Am.wb5, Am.wb6, Am.wb7, Am.wb8, Am.wb9, Am.reads, Am.quiet, Am.over, Nat.testBit, Nat.reduceShiftRight, Nat.reduceAnd, Nat.reduceBNe, Nat.reduceLeDiff, Nat.reduceAdd, Nat.reduceMul, Nat.reduceLT, Nat.reduceEqDiff, Nat.reduceSub, reduceCtorEq, ↓reduceIte, tyfacts]
  refine wpX_call (known_ok H) fun r H1 ⟨hr, hH⟩ => ?_
  subst hr
  subst hH
  by_cases b1 : 32 < (xs.length : Int)
  · simp (maxSteps := 10000000) (disch := first | assumption | (simp only [tyfacts, Am.wd, Nat.reduceEqDiff, Nat.reduceLT, reduceCtorEq]; try omega; done) | omega) only [Am.wanted, Am.isAlloc, Am.wb0, Am.wb1, Am.wb2, Am.wb3, Am.wb4, Am.wb5, Am.wb6, Am.wb7, Am.wb8, Am.wb9, Am.reads, Am.quiet, Am.over, Nat.testBit, Nat.reduceShiftRight, Nat.reduceAnd, Nat.reduceBNe, Nat.reduceLeDiff, Nat.reduceAdd, Nat.reduceMul, Nat.reduceLT, Nat.reduceEqDiff, Nat.reduceSub, reduceCtorEq, ↓reduceIte, tyfacts, L, b1]
    exact Ext.refl wf
  simp (maxSteps := 10000000) (disch := first | assumption | (simp only [tyfacts, Am.wd, Nat.reduceEqDiff, Nat.reduceLT, reduceCtorEq]; try omega; done) | omega) only [Am.wanted, Am.isAlloc, Am.wb0, Am.wb1, Am.wb2, Am.wb3, Am.wb4, Am.wb5, Am.wb6, Am.wb7, Am.wb8, Am.wb9, Am.reads, Am.quiet, Am.over, Nat.testBit, Nat.reduceShiftRight, Nat.reduceAnd, Nat.reduceBNe, Nat.reduceLeDiff, Nat.reduceAdd, Nat.reduceMul, Nat.reduceLT, Nat.reduceEqDiff, Nat.reduceSub, reduceCtorEq, ↓reduceIte, tyfacts, L, b1]
  refine wpX_call (spans_ok wf hv (by omega)) fun l H1 ⟨ml, hx1⟩ => ?_
  have sl1 := ml.sl
  have Ll := ml.len
  have hlen : (spansF xs).length ≤ 16 := by rw [spansF_len]; omega
  have hg := spansF_good xs
  clear ml
  generalize spansF xs = ts at hlen sl1 Ll hg
  simp (maxSteps := 10000000) (disch := first | assumption | (simp only [tyfacts, Am.wd, Nat.reduceEqDiff, Nat.reduceLT, reduceCtorEq]; try omega; done) | omega) only [Am.wanted, Am.isAlloc, Am.wb0, Am.wb1, Am.wb2, Am.wb3, Am.wb4, Am.wb5, Am.wb6, Am.wb7, Am.wb8, Am.wb9, Am.reads, Am.quiet, Am.over, Nat.testBit, Nat.reduceShiftRight, Nat.reduceAnd, Nat.reduceBNe, Nat.reduceLeDiff, Nat.reduceAdd, Nat.reduceMul, Nat.reduceLT, Nat.reduceEqDiff, Nat.reduceSub, reduceCtorEq, ↓reduceIte, tyfacts]
  refine wpX_call (check_ok hx1.wf sl1 (by omega)) fun r H2 ⟨hr, hy⟩ => ?_
  subst hr
  have hx2 := hx1.trans hy
  have sl2 := sl1.mono hy
  simp (maxSteps := 10000000) (disch := first | assumption | (simp only [tyfacts, Am.wd, Nat.reduceEqDiff, Nat.reduceLT, reduceCtorEq]; try omega; done) | omega) only [Am.wanted, Am.isAlloc, Am.wb0, Am.wb1, Am.wb2, Am.wb3, Am.wb4, Am.wb5, Am.wb6, Am.wb7, Am.wb8, Am.wb9, Am.reads, Am.quiet, Am.over, Nat.testBit, Nat.reduceShiftRight, Nat.reduceAnd, Nat.reduceBNe, Nat.reduceLeDiff, Nat.reduceAdd, Nat.reduceMul, Nat.reduceLT, Nat.reduceEqDiff, Nat.reduceSub, reduceCtorEq, ↓reduceIte, tyfacts]
  refine wpB_dec (fun hc => ?_) (fun hc => ?_)
  · simp (maxSteps := 10000000) (disch := first | assumption | (simp only [tyfacts, Am.wd, Nat.reduceEqDiff, Nat.reduceLT, reduceCtorEq]; try omega; done) | omega) only [Am.wanted, Am.isAlloc, Am.wb0, Am.wb1, Am.wb2, Am.wb3, Am.wb4, Am.wb5, Am.wb6, Am.wb7, Am.wb8, Am.wb9, Am.reads, Am.quiet, Am.over, Nat.testBit, Nat.reduceShiftRight, Nat.reduceAnd, Nat.reduceBNe, Nat.reduceLeDiff, Nat.reduceAdd, Nat.reduceMul, Nat.reduceLT, Nat.reduceEqDiff, Nat.reduceSub, reduceCtorEq, ↓reduceIte, tyfacts]
    exact hx2
  replace hc := Classical.not_not.1 hc
  clear hx1 sl1 hy
  have he2 : edgesF ts = (pairsF ts, 0) := by rw [edgesF, if_neg (by omega)]
  obtain ⟨o, ho1, ho2, ho3⟩ := first_chain hc ts.length (Nat.le_refl _)
  have hf2 : firstF ts = (castL o, 0) := ho2.done (R_full ho2.nodup ho2.low (by omega))
  simp (maxSteps := 10000000) (disch := first | assumption | (simp only [tyfacts, Am.wd, Nat.reduceEqDiff, Nat.reduceLT, reduceCtorEq]; try omega; done) | omega) only [Am.wanted, Am.isAlloc, Am.wb0, Am.wb1, Am.wb2, Am.wb3, Am.wb4, Am.wb5, Am.wb6, Am.wb7, Am.wb8, Am.wb9, Am.reads, Am.quiet, Am.over, Nat.testBit, Nat.reduceShiftRight, Nat.reduceAnd, Nat.reduceBNe, Nat.reduceLeDiff, Nat.reduceAdd, Nat.reduceMul, Nat.reduceLT, Nat.reduceEqDiff, Nat.reduceSub, reduceCtorEq, ↓reduceIte, tyfacts]
  refine wpX_call (edges_ok hx2.wf sl2 hg (by omega)) fun r H3 ⟨g, hr, mg, hy⟩ => ?_
  subst hr
  simp only [he2] at mg ⊢
  have hx3 := hx2.trans hy
  have sl3 := sl2.mono hy
  clear hx2 sl2 hy
  simp (maxSteps := 10000000) (disch := first | assumption | (simp only [tyfacts, Am.wd, Nat.reduceEqDiff, Nat.reduceLT, reduceCtorEq]; try omega; done) | omega) only [Am.wanted, Am.isAlloc, Am.wb0, Am.wb1, Am.wb2, Am.wb3, Am.wb4, Am.wb5, Am.wb6, Am.wb7, Am.wb8, Am.wb9, Am.reads, Am.quiet, Am.over, Nat.testBit, Nat.reduceShiftRight, Nat.reduceAnd, Nat.reduceBNe, Nat.reduceLeDiff, Nat.reduceAdd, Nat.reduceMul, Nat.reduceLT, Nat.reduceEqDiff, Nat.reduceSub, reduceCtorEq, ↓reduceIte, tyfacts]
  refine wpX_call (first_ok hx3.wf sl3 hg (by omega)) fun r H4 ⟨av, hr, ma, hy⟩ => ?_
  subst hr
  simp only [hf2] at ma ⊢
  have hx4 := hx3.trans hy
  have sl4 := sl3.mono hy
  have sg4 := mg.sl.mono hy
  have sa4 := ma.sl
  clear hx3 sl3 hy mg ma
  have La := sa4.len
  rw [List.length_map, castL_len, ho1] at La
  have hpl := pairs_length ts
  have hpl2 : ts.length * ts.length ≤ 16 * 16 := Nat.mul_le_mul hlen hlen
  simp (maxSteps := 10000000) (disch := first | assumption | (simp only [tyfacts, Am.wd, Nat.reduceEqDiff, Nat.reduceLT, reduceCtorEq]; try omega; done) | omega) only [Am.wanted, Am.isAlloc, Am.wb0, Am.wb1, Am.wb2, Am.wb3, Am.wb4, Am.wb5, Am.wb6, Am.wb7, Am.wb8, Am.wb9, Am.reads, Am.quiet, Am.over, Nat.testBit, Nat.reduceShiftRight, Nat.reduceAnd, Nat.reduceBNe, Nat.reduceLeDiff, Nat.reduceAdd, Nat.reduceMul, Nat.reduceLT, Nat.reduceEqDiff, Nat.reduceSub, reduceCtorEq, ↓reduceIte, tyfacts, La, Ll, eq_self]
  refine wpK_loop_ind _ (fun i : Nat => ts.length - i) (fun i a H' => a.tmps.n = 154 ∧ a.defers = [] ∧ a.tmp 3 = .bool true ∧ a.tmp 4 = l ∧ a.tmp 5 = g ∧ a.tmp 7 = av ∧ a.tmp 9 = .int .i64 i ∧ Ext H4 H' ∧ i ≤ ts.length) 0 ?_ ?_
  · simp (maxSteps := 10000000) (disch := first | assumption | (simp only [tyfacts, Am.wd, Nat.reduceEqDiff, Nat.reduceLT, reduceCtorEq]; try omega; done) | omega) only [Am.wanted, Am.isAlloc, Am.wb0, Am.wb1, Am.wb2, Am.wb3, Am.wb4, Am.wb5, Am.wb6, Am.wb7, Am.wb8, Am.wb9, Am.reads, Am.quiet, Am.over, Nat.testBit, Nat.reduceShiftRight, Nat.reduceAnd, Nat.reduceBNe, Nat.reduceLeDiff, Nat.reduceAdd, Nat.reduceMul, Nat.reduceLT, Nat.reduceEqDiff, Nat.reduceSub, reduceCtorEq, ↓reduceIte, tyfacts]
    exact ⟨rfl, Ext.refl hx4.wf, by omega⟩
  intro i a H5 ⟨hn, hd, t3, t4, t5, t7, t9, hy, hi⟩ ih
  simp (maxSteps := 10000000) (disch := first | assumption | (simp only [tyfacts, Am.wd, Nat.reduceEqDiff, Nat.reduceLT, reduceCtorEq]; try omega; done) | omega) only [Am.wanted, Am.isAlloc, Am.wb0, Am.wb1, Am.wb2, Am.wb3, Am.wb4, Am.wb5, Am.wb6, Am.wb7, Am.wb8, Am.wb9, Am.reads, Am.quiet, Am.over, Nat.testBit, Nat.reduceShiftRight, Nat.reduceAnd, Nat.reduceBNe, Nat.reduceLeDiff, Nat.reduceAdd, Nat.reduceMul, Nat.reduceLT, Nat.reduceEqDiff, Nat.reduceSub, reduceCtorEq, ↓reduceIte, tyfacts, t7, t9, hn, La]
  refine wpB_dec (fun hq => ?_) (fun hq => ?_)
  · have hj : i < ts.length := by omega
    have sa5 := sa4.mono hy
    have hlc := castL_len o
    obtain ⟨iv, ir⟩ := ho3 i hj
    have hjo : i < o.length := by omega
    obtain ⟨u, s1, s2⟩ := sa5.slice (T := T) (t := 22) (by simp only [tyfacts]) (lo := none) (hi := some (.int .i64 i)) (m := 0) (n := i) (optNat_none _) (optNat_int _ _ _) (by omega) (by simp [castL_len]; omega)
    have hct : (castL o).take i = castL (o.take i) := by simp [castL, List.map_take]
    rw [List.drop_zero, ← List.map_take, hct] at s2
    simp (maxSteps := 10000000) (disch := first | assumption | (simp only [tyfacts, Am.wd, Nat.reduceEqDiff, Nat.reduceLT, reduceCtorEq]; try omega; done) | omega) only [Am.wanted, Am.isAlloc, Am.wb0, Am.wb1, Am.wb2, Am.wb3, Am.wb4, Am.wb5, Am.wb6, Am.wb7, Am.wb8, Am.wb9, Am.reads, Am.quiet, Am.over, Nat.testBit, Nat.reduceShiftRight, Nat.reduceAnd, Nat.reduceBNe, Nat.reduceLeDiff, Nat.reduceAdd, Nat.reduceMul, Nat.reduceLT, Nat.reduceEqDiff, Nat.reduceSub, reduceCtorEq, ↓reduceIte, tyfacts, t4, t7, t9, hn, s1]
    refine wpX_call (next_ok hy.wf (sl4.mono hy) hg s2 (by omega) (by simp [castL]; omega)) fun r H6 ⟨n, hr, mn, hy6⟩ => ?_
    subst hr
    have z6 := hy.trans hy6
    rw [next_zero iv.keeps]
    rw [next_eq iv.keeps] at mn
    have Ln := mn.len
    rw [List.length_map, castL_len] at Ln
    rw [List.getElem?_eq_getElem hjo] at ir
    obtain ⟨r1, r2⟩ := List.getElem?_eq_some_iff.1 ir
    have hne : ¬ ((R ts (o.take i)).length : Int) = 0 := by omega
    simp (maxSteps := 10000000) (disch := first | assumption | (simp only [tyfacts, Am.wd, Nat.reduceEqDiff, Nat.reduceLT, reduceCtorEq]; try omega; done) | omega) only [Am.wanted, Am.isAlloc, Am.wb0, Am.wb1, Am.wb2, Am.wb3, Am.wb4, Am.wb5, Am.wb6, Am.wb7, Am.wb8, Am.wb9, Am.reads, Am.quiet, Am.over, Nat.testBit, Nat.reduceShiftRight, Nat.reduceAnd, Nat.reduceBNe, Nat.reduceLeDiff, Nat.reduceAdd, Nat.reduceMul, Nat.reduceLT, Nat.reduceEqDiff, Nat.reduceSub, reduceCtorEq, ↓reduceIte, tyfacts, hn]
    refine Am.wpK_draw 17 [0, 1, 2, 3, 4, 5, 6, 7, 8, 9, 10, 11, 12, 13, 14, 15, 16] (hx4.trans z6).wf (by kernel_rfl) ?_
    have hx7 := (hx4.trans z6).keep 17
    generalize hH7 : Am.Heap.keep _ _ = H7
    replace hx7 : Am.Ext _ H7 := hH7 ▸ hx7
    have z7 : Ext H6 H7 := by rw [← hH7]; exact (Ext.refl z6.wf).keep 17
    have mn7 := mn.mono z7
    have sa7 := (sa4.mono z6).mono z7
    have e0 : 0 < ((castL (R ts (o.take i))).map cI).length := by simp only [List.length_map, castL_len]; exact r1
    have g0 : ((castL (R ts (o.take i))).map cI)[0] = [.int .i64 (o[i] : Int)] := by simp [castL, r2, cI]
    have l0 := mn7.sl.load1 (T := T) 3 (by simp only [tyfacts]) 0 e0
    rw [g0] at l0
    replace l0 : loadP T H7 3 (ptrAt n 0) = some (.int .i64 (o[i] : Int)) := l0
    have i0 : idxP T 22 n (.int .i64 0) = some (ptrAt n 0) := mn7.sl.idx (T := T) 22 (by simp only [tyfacts]) .i64 0 e0
    have e1 : i < ((castL o).map cI).length := by simp only [List.length_map, castL_len]; exact hjo
    have g1 : ((castL o).map cI)[i] = [.int .i64 (o[i] : Int)] := by simp [castL, cI]
    have l1 := sa7.load1 (T := T) 3 (by simp only [tyfacts]) i e1
    rw [g1] at l1
    replace l1 : loadP T H7 3 (ptrAt av i) = some (.int .i64 (o[i] : Int)) := l1
    have i1 := sa7.idx (T := T) 22 (by simp only [tyfacts]) .i64 i e1
    simp (maxSteps := 10000000) (disch := first | assumption | (simp only [tyfacts, Am.wd, Nat.reduceEqDiff, Nat.reduceLT, reduceCtorEq]; try omega; done) | omega) only [Am.wanted, Am.isAlloc, Am.wb0, Am.wb1, Am.wb2, Am.wb3, Am.wb4, Am.wb5, Am.wb6, Am.wb7, Am.wb8, Am.wb9, Am.reads, Am.quiet, Am.over, Nat.testBit, Nat.reduceShiftRight, Nat.reduceAnd, Nat.reduceBNe, Nat.reduceLeDiff, Nat.reduceAdd, Nat.reduceMul, Nat.reduceLT, Nat.reduceEqDiff, Nat.reduceSub, reduceCtorEq, ↓reduceIte, tyfacts, t7, t9, hn, hd, Ln, hne, i0, l0, i1, l1, eq_self]
    refine ih (i + 1) _ _ (by omega) ?_
    simp (maxSteps := 10000000) (disch := first | assumption | (simp only [tyfacts, Am.wd, Nat.reduceEqDiff, Nat.reduceLT, reduceCtorEq]; try omega; done) | omega) only [Am.wanted, Am.isAlloc, Am.wb0, Am.wb1, Am.wb2, Am.wb3, Am.wb4, Am.wb5, Am.wb6, Am.wb7, Am.wb8, Am.wb9, Am.reads, Am.quiet, Am.over, Nat.testBit, Nat.reduceShiftRight, Nat.reduceAnd, Nat.reduceBNe, Nat.reduceLeDiff, Nat.reduceAdd, Nat.reduceMul, Nat.reduceLT, Nat.reduceEqDiff, Nat.reduceSub, reduceCtorEq, ↓reduceIte, tyfacts, hn, hd, t3, t4, t5, t7]
    exact ⟨by simp, z6.trans z7, by omega⟩
  clear hq hi ih
  have hx5 := hx4.trans hy
  have sl5 := sl4.mono hy
  have sg5 := sg4.mono hy
  have sa5 := sa4.mono hy
  clear hx4 sl4 sg4 sa4 hy t9
  have Lg := sg5.len
  simp (maxSteps := 10000000) (disch := first | assumption | (simp only [tyfacts, Am.wd, Nat.reduceEqDiff, Nat.reduceLT, reduceCtorEq]; try omega; done) | omega) only [Am.wanted, Am.isAlloc, Am.wb0, Am.wb1, Am.wb2, Am.wb3, Am.wb4, Am.wb5, Am.wb6, Am.wb7, Am.wb8, Am.wb9, Am.reads, Am.quiet, Am.over, Nat.testBit, Nat.reduceShiftRight, Nat.reduceAnd, Nat.reduceBNe, Nat.reduceLeDiff, Nat.reduceAdd, Nat.reduceMul, Nat.reduceLT, Nat.reduceEqDiff, Nat.reduceSub, reduceCtorEq, ↓reduceIte, tyfacts, hn]
  refine wpK_loop_ind _ (fun i : Nat => (pairsF ts).length - i) (fun i a H' => a.tmps.n = 154 ∧ a.defers = [] ∧ a.tmp 3 = .bool true ∧ a.tmp 4 = l ∧ a.tmp 5 = g ∧ a.tmp 7 = av ∧ a.tmp 12 = .int .i64 i ∧ Ext H5 H' ∧ i ≤ (pairsF ts).length) 0 ?_ ?_
  · simp (maxSteps := 10000000) (disch := first | assumption | (simp only [tyfacts, Am.wd, Nat.reduceEqDiff, Nat.reduceLT, reduceCtorEq]; try omega; done) | omega) only [Am.wanted, Am.isAlloc, Am.wb0, Am.wb1, Am.wb2, Am.wb3, Am.wb4, Am.wb5, Am.wb6, Am.wb7, Am.wb8, Am.wb9, Am.reads, Am.quiet, Am.over, Nat.testBit, Nat.reduceShiftRight, Nat.reduceAnd, Nat.reduceBNe, Nat.reduceLeDiff, Nat.reduceAdd, Nat.reduceMul, Nat.reduceLT, Nat.reduceEqDiff, Nat.reduceSub, reduceCtorEq, ↓reduceIte, tyfacts, hn, hd, t3, t4, t5, t7]
    exact ⟨rfl, Ext.refl hx5.wf, by omega⟩
  clear hn hd t3 t4 t5 t7 a
  intro i a H6 ⟨hn, hd, t3, t4, t5, t7, t12, hy, hi⟩ ih
  simp (maxSteps := 10000000) (disch := first | assumption | (simp only [tyfacts, Am.wd, Nat.reduceEqDiff, Nat.reduceLT, reduceCtorEq]; try omega; done) | omega) only [Am.wanted, Am.isAlloc, Am.wb0, Am.wb1, Am.wb2, Am.wb3, Am.wb4, Am.wb5, Am.wb6, Am.wb7, Am.wb8, Am.wb9, Am.reads, Am.quiet, Am.over, Nat.testBit, Nat.reduceShiftRight, Nat.reduceAnd, Nat.reduceBNe, Nat.reduceLeDiff, Nat.reduceAdd, Nat.reduceMul, Nat.reduceLT, Nat.reduceEqDiff, Nat.reduceSub, reduceCtorEq, ↓reduceIte, tyfacts, t5, t12, hn, Lg]
  refine wpB_dec (fun hq => ?_) (fun hq => ?_)
  · have hj : i < (pairsF ts).length := by omega
    obtain ⟨m1, m2, m3⟩ := edge_on hc ho2.keeps (by omega) (List.getElem_mem hj)
    simp (maxSteps := 10000000) (disch := first | assumption | (simp only [tyfacts, Am.wd, Nat.reduceEqDiff, Nat.reduceLT, reduceCtorEq]; try omega; done) | omega) only [Am.wanted, Am.isAlloc, Am.wb0, Am.wb1, Am.wb2, Am.wb3, Am.wb4, Am.wb5, Am.wb6, Am.wb7, Am.wb8, Am.wb9, Am.reads, Am.quiet, Am.over, Nat.testBit, Nat.reduceShiftRight, Nat.reduceAnd, Nat.reduceBNe, Nat.reduceLeDiff, Nat.reduceAdd, Nat.reduceMul, Nat.reduceLT, Nat.reduceEqDiff, Nat.reduceSub, reduceCtorEq, ↓reduceIte, tyfacts]
    refine Am.wpK_draw2 15 [0, 1, 2, 3, 4, 5, 6, 7, 8, 9, 10, 11, 12, 13, 14] [0,0,0,6,14,30,63,0,0,0,768,1792,3840,8191,16383] (hx5.trans hy).wf (by kernel_rfl) ?_
    have hx7 := (hx5.trans hy).keep 15
    generalize hH7 : Am.Heap.keep _ _ = H7
    replace hx7 : Am.Ext _ H7 := hH7 ▸ hx7
    have z7 : Ext H6 H7 := by rw [← hH7]; exact (Ext.refl hy.wf).keep 15
    have sg7 := (sg5.mono hy).mono z7
    have sa7 := (sa5.mono hy).mono z7
    have hlc := castL_len o
    simp (maxSteps := 10000000) (disch := first | assumption | (simp only [tyfacts, Am.wd, Nat.reduceEqDiff, Nat.reduceLT, reduceCtorEq]; try omega; done) | omega) only [Am.wanted, Am.isAlloc, Am.wb0, Am.wb1, Am.wb2, Am.wb3, Am.wb4, Am.wb5, Am.wb6, Am.wb7, Am.wb8, Am.wb9, Am.reads, Am.quiet, Am.over, Nat.testBit, Nat.reduceShiftRight, Nat.reduceAnd, Nat.reduceBNe, Nat.reduceLeDiff, Nat.reduceAdd, Nat.reduceMul, Nat.reduceLT, Nat.reduceEqDiff, Nat.reduceSub, reduceCtorEq, ↓reduceIte, tyfacts, t5, t7, t12, hn, sg7.idx, sg7.isPtr, sg7.loadF, cP]
    refine wpTX_call (place_ok hx7.wf sa7 (by omega) _) fun r H8 ⟨hr, hy8⟩ => ?_
    rw [if_pos m1] at hr
    subst hr
    have sg8 := sg7.mono hy8
    have sa8 := sa7.mono hy8
    simp (maxSteps := 10000000) (disch := first | assumption | (simp only [tyfacts, Am.wd, Nat.reduceEqDiff, Nat.reduceLT, reduceCtorEq]; try omega; done) | omega) only [Am.wanted, Am.isAlloc, Am.wb0, Am.wb1, Am.wb2, Am.wb3, Am.wb4, Am.wb5, Am.wb6, Am.wb7, Am.wb8, Am.wb9, Am.reads, Am.quiet, Am.over, Nat.testBit, Nat.reduceShiftRight, Nat.reduceAnd, Nat.reduceBNe, Nat.reduceLeDiff, Nat.reduceAdd, Nat.reduceMul, Nat.reduceLT, Nat.reduceEqDiff, Nat.reduceSub, reduceCtorEq, ↓reduceIte, tyfacts, t5, t7, t12, hn, sg7.idx, sg7.isPtr, sg7.loadF, sg8.idx, sg8.isPtr, sg8.loadF, cP]
    refine wpTX_call (place_ok hy8.wf sa8 (by omega) _) fun r H9 ⟨hr, hy9⟩ => ?_
    rw [if_pos m2] at hr
    subst hr
    have hng : ¬ ((castL o).idxOf ((pairsF ts)[i].2 : Int) : Int) ≤ ((castL o).idxOf ((pairsF ts)[i].1 : Int) : Int) := by omega
    simp (maxSteps := 10000000) (disch := first | assumption | (simp only [tyfacts, Am.wd, Nat.reduceEqDiff, Nat.reduceLT, reduceCtorEq]; try omega; done) | omega) only [Am.wanted, Am.isAlloc, Am.wb0, Am.wb1, Am.wb2, Am.wb3, Am.wb4, Am.wb5, Am.wb6, Am.wb7, Am.wb8, Am.wb9, Am.reads, Am.quiet, Am.over, Nat.testBit, Nat.reduceShiftRight, Nat.reduceAnd, Nat.reduceBNe, Nat.reduceLeDiff, Nat.reduceAdd, Nat.reduceMul, Nat.reduceLT, Nat.reduceEqDiff, Nat.reduceSub, reduceCtorEq, ↓reduceIte, tyfacts, hn, hd, t12, hng]
    refine ih (i + 1) _ _ (by omega) ?_
    simp (maxSteps := 10000000) (disch := first | assumption | (simp only [tyfacts, Am.wd, Nat.reduceEqDiff, Nat.reduceLT, reduceCtorEq]; try omega; done) | omega) only [Am.wanted, Am.isAlloc, Am.wb0, Am.wb1, Am.wb2, Am.wb3, Am.wb4, Am.wb5, Am.wb6, Am.wb7, Am.wb8, Am.wb9, Am.reads, Am.quiet, Am.over, Nat.testBit, Nat.reduceShiftRight, Nat.reduceAnd, Nat.reduceBNe, Nat.reduceLeDiff, Nat.reduceAdd, Nat.reduceMul, Nat.reduceLT, Nat.reduceEqDiff, Nat.reduceSub, reduceCtorEq, ↓reduceIte, tyfacts, hn, hd, t3, t4, t5, t7]
    exact ⟨by simp, ((hy.trans z7).trans hy8).trans hy9, by omega⟩
  clear hq hi ih
  have hx6 := hx5.trans hy
  have sl6 := sl5.mono hy
  have sa6 := sa5.mono hy
  clear hx5 sl5 sg5 sa5 hy t12 t5
  have ha : appOk T 22 22 = some (1, 8) := by simp only [tyfacts]
  simp (maxSteps := 10000000) (disch := first | assumption | (simp only [tyfacts, Am.wd, Nat.reduceEqDiff, Nat.reduceLT, reduceCtorEq]; try omega; done) | omega) only [Am.wanted, Am.isAlloc, Am.wb0, Am.wb1, Am.wb2, Am.wb3, Am.wb4, Am.wb5, Am.wb6, Am.wb7, Am.wb8, Am.wb9, Am.reads, Am.quiet, Am.over, Nat.testBit, Nat.reduceShiftRight, Nat.reduceAnd, Nat.reduceBNe, Nat.reduceLeDiff, Nat.reduceAdd, Nat.reduceMul, Nat.reduceLT, Nat.reduceEqDiff, Nat.reduceSub, reduceCtorEq, ↓reduceIte, tyfacts, hn]
  refine wpK_loop_ind _ (fun p : Nat × List Nat => ts.length - p.1) (fun p a H' => a.tmps.n = 154 ∧ a.defers = [] ∧ a.tmp 3 = .bool true ∧ a.tmp 4 = l ∧ a.tmp 7 = av ∧ a.tmp 14 = .int .i64 p.1 ∧ Mine H6.n H' (a.tmp 13) 1 ((castL p.2).map cI) ∧ Ext H6 H' ∧ ByC ts p.1 p.2 ∧ p.1 ≤ ts.length) (0, []) ?_ ?_
  · simp (maxSteps := 10000000) (disch := first | assumption | (simp only [tyfacts, Am.wd, Nat.reduceEqDiff, Nat.reduceLT, reduceCtorEq]; try omega; done) | omega) only [Am.wanted, Am.isAlloc, Am.wb0, Am.wb1, Am.wb2, Am.wb3, Am.wb4, Am.wb5, Am.wb6, Am.wb7, Am.wb8, Am.wb9, Am.reads, Am.quiet, Am.over, Nat.testBit, Nat.reduceShiftRight, Nat.reduceAnd, Nat.reduceBNe, Nat.reduceLeDiff, Nat.reduceAdd, Nat.reduceMul, Nat.reduceLT, Nat.reduceEqDiff, Nat.reduceSub, reduceCtorEq, ↓reduceIte, tyfacts, hn, hd, t3, t4, t7]
    exact ⟨rfl, Mine.nil _ _ _, Ext.refl hx6.wf, ⟨rfl, by simp, by simp, by simp⟩, by omega⟩
  clear hn hd t3 t4 t7 a
  rintro ⟨i, s⟩ a H7 ⟨hn, hd, t3, t4, t7, t14, hm, hy, hb, hi⟩ ih
  simp only at t14 hm hb hi ih ⊢
  generalize t13 : a.tmp 13 = q at hm
  have Lq := hm.len
  rw [List.length_map, castL_len, hb.len] at Lq
  simp (maxSteps := 10000000) (disch := first | assumption | (simp only [tyfacts, Am.wd, Nat.reduceEqDiff, Nat.reduceLT, reduceCtorEq]; try omega; done) | omega) only [Am.wanted, Am.isAlloc, Am.wb0, Am.wb1, Am.wb2, Am.wb3, Am.wb4, Am.wb5, Am.wb6, Am.wb7, Am.wb8, Am.wb9, Am.reads, Am.quiet, Am.over, Nat.testBit, Nat.reduceShiftRight, Nat.reduceAnd, Nat.reduceBNe, Nat.reduceLeDiff, Nat.reduceAdd, Nat.reduceMul, Nat.reduceLT, Nat.reduceEqDiff, Nat.reduceSub, reduceCtorEq, ↓reduceIte, tyfacts, t4, t14, hn, Ll]
  refine wpB_dec (fun hq => ?_) (fun hq => ?_)
  · have hj : i < ts.length := by omega
    have hsl := hb.len
    simp (maxSteps := 10000000) (disch := first | assumption | (simp only [tyfacts, Am.wd, Nat.reduceEqDiff, Nat.reduceLT, reduceCtorEq]; try omega; done) | omega) only [Am.wanted, Am.isAlloc, Am.wb0, Am.wb1, Am.wb2, Am.wb3, Am.wb4, Am.wb5, Am.wb6, Am.wb7, Am.wb8, Am.wb9, Am.reads, Am.quiet, Am.over, Nat.testBit, Nat.reduceShiftRight, Nat.reduceAnd, Nat.reduceBNe, Nat.reduceLeDiff, Nat.reduceAdd, Nat.reduceMul, Nat.reduceLT, Nat.reduceEqDiff, Nat.reduceSub, reduceCtorEq, ↓reduceIte, tyfacts]
    refine wpK_loop_ind _ (fun k : Nat => i - k) (fun k a H' => a.tmps.n = 154 ∧ a.defers = [] ∧ a.tmp 3 = .bool true ∧ a.tmp 4 = l ∧ a.tmp 7 = av ∧ a.tmp 14 = .int .i64 i ∧ a.tmp 13 = q ∧ a.tmp 15 = .int .i64 k ∧ a.tmp 16 = .int .i64 k ∧ Ext H7 H' ∧ k ≤ i ∧
      ∀ j (hj : j < s.length), j < k → ∀ hx : s[j] < ts.length, ts[s[j]].c ≤ ts[i].c) 0 ?_ ?_
    · simp (maxSteps := 10000000) (disch := first | assumption | (simp only [tyfacts, Am.wd, Nat.reduceEqDiff, Nat.reduceLT, reduceCtorEq]; try omega; done) | omega) only [Am.wanted, Am.isAlloc, Am.wb0, Am.wb1, Am.wb2, Am.wb3, Am.wb4, Am.wb5, Am.wb6, Am.wb7, Am.wb8, Am.wb9, Am.reads, Am.quiet, Am.over, Nat.testBit, Nat.reduceShiftRight, Nat.reduceAnd, Nat.reduceBNe, Nat.reduceLeDiff, Nat.reduceAdd, Nat.reduceMul, Nat.reduceLT, Nat.reduceEqDiff, Nat.reduceSub, reduceCtorEq, ↓reduceIte, tyfacts, hn, hd, t3, t4, t7, t14, t13]
      exact ⟨rfl, rfl, Ext.refl hy.wf, by omega, fun j _ h => by omega⟩
    clear hn hd t3 t4 t7 t14 t13 a
    intro k a H8 ⟨hn, hd, t3, t4, t7, t14, t13, t15, t16, hy8, hk, hno⟩ ih2
    simp (maxSteps := 10000000) (disch := first | assumption | (simp only [tyfacts, Am.wd, Nat.reduceEqDiff, Nat.reduceLT, reduceCtorEq]; try omega; done) | omega) only [Am.wanted, Am.isAlloc, Am.wb0, Am.wb1, Am.wb2, Am.wb3, Am.wb4, Am.wb5, Am.wb6, Am.wb7, Am.wb8, Am.wb9, Am.reads, Am.quiet, Am.over, Nat.testBit, Nat.reduceShiftRight, Nat.reduceAnd, Nat.reduceBNe, Nat.reduceLeDiff, Nat.reduceAdd, Nat.reduceMul, Nat.reduceLT, Nat.reduceEqDiff, Nat.reduceSub, reduceCtorEq, ↓reduceIte, tyfacts, hn]
    refine Am.wpK_draw 20 [0, 1, 2, 3, 4, 5, 6, 7, 8, 9, 10, 11, 12, 13, 14, 15, 16, 17, 18, 19] ((hx6.trans hy).trans hy8).wf (by kernel_rfl) ?_
    have hx9 := ((hx6.trans hy).trans hy8).keep 20
    generalize hH9 : Am.Heap.keep _ _ = H9
    replace hx9 : Am.Ext _ H9 := hH9 ▸ hx9
    have z9 : Ext H7 H9 := by rw [← hH9]; exact hy8.keep 20
    have hm9 := hm.mono z9
    have sl9 := (sl6.mono hy).mono z9
    by_cases hq2 : (k : Int) < (i : Int)
    · have hks : k < s.length := by omega
      have hsk : s[k] < ts.length := by have := hb.low _ (List.getElem_mem hks); omega
      have e0 : k < ((castL s).map cI).length := by simp only [List.length_map, castL_len]; exact hks
      have g0 : ((castL s).map cI)[k] = [.int .i64 (s[k] : Int)] := by simp [castL, cI]
      have l0 := hm9.sl.load1 (T := T) 3 (by simp only [tyfacts]) k e0
      rw [g0] at l0
      replace l0 : loadP T H9 3 (ptrAt q k) = some (.int .i64 (s[k] : Int)) := l0
      have i0 := hm9.sl.idx (T := T) 22 (by simp only [tyfacts]) .i64 k e0
      simp (maxSteps := 10000000) (disch := first | assumption | (simp only [tyfacts, Am.wd, Nat.reduceEqDiff, Nat.reduceLT, reduceCtorEq]; try omega; done) | omega) only [Am.wanted, Am.isAlloc, Am.wb0, Am.wb1, Am.wb2, Am.wb3, Am.wb4, Am.wb5, Am.wb6, Am.wb7, Am.wb8, Am.wb9, Am.reads, Am.quiet, Am.over, Nat.testBit, Nat.reduceShiftRight, Nat.reduceAnd, Nat.reduceBNe, Nat.reduceLeDiff, Nat.reduceAdd, Nat.reduceMul, Nat.reduceLT, Nat.reduceEqDiff, Nat.reduceSub, reduceCtorEq, ↓reduceIte, tyfacts, t4, t13, t14, t16, hn, Lq, hq2, i0, l0, sl9.idx, sl9.isPtr, sl9.loadF, Tr5.cells]
      refine wpB_dec (fun hle => ?_) (fun hle => ?_)
      · simp (maxSteps := 10000000) (disch := first | assumption | (simp only [tyfacts, Am.wd, Nat.reduceEqDiff, Nat.reduceLT, reduceCtorEq]; try omega; done) | omega) only [Am.wanted, Am.isAlloc, Am.wb0, Am.wb1, Am.wb2, Am.wb3, Am.wb4, Am.wb5, Am.wb6, Am.wb7, Am.wb8, Am.wb9, Am.reads, Am.quiet, Am.over, Nat.testBit, Nat.reduceShiftRight, Nat.reduceAnd, Nat.reduceBNe, Nat.reduceLeDiff, Nat.reduceAdd, Nat.reduceMul, Nat.reduceLT, Nat.reduceEqDiff, Nat.reduceSub, reduceCtorEq, ↓reduceIte, tyfacts, t15, t16, hn]
        refine ih2 (k + 1) _ _ (by omega) ?_
        simp (maxSteps := 10000000) (disch := first | assumption | (simp only [tyfacts, Am.wd, Nat.reduceEqDiff, Nat.reduceLT, reduceCtorEq]; try omega; done) | omega) only [Am.wanted, Am.isAlloc, Am.wb0, Am.wb1, Am.wb2, Am.wb3, Am.wb4, Am.wb5, Am.wb6, Am.wb7, Am.wb8, Am.wb9, Am.reads, Am.quiet, Am.over, Nat.testBit, Nat.reduceShiftRight, Nat.reduceAnd, Nat.reduceBNe, Nat.reduceLeDiff, Nat.reduceAdd, Nat.reduceMul, Nat.reduceLT, Nat.reduceEqDiff, Nat.reduceSub, reduceCtorEq, ↓reduceIte, tyfacts, hn, hd, t3, t4, t7, t13, t14]
        refine ⟨by simp, by simp, z9, by omega, fun j hj' hlt => ?_⟩
        by_cases e : j = k
        · subst e; exact fun _ => hle
        · exact hno j hj' (by omega)
      · have hby : ByC ts (i + 1) (s.take k ++ i :: s.drop k) := hb.ins hj (by omega) hno fun _ _ => by omega
        simp (maxSteps := 10000000) (disch := first | assumption | (simp only [tyfacts, Am.wd, Nat.reduceEqDiff, Nat.reduceLT, reduceCtorEq]; try omega; done) | omega) only [Am.wanted, Am.isAlloc, Am.wb0, Am.wb1, Am.wb2, Am.wb3, Am.wb4, Am.wb5, Am.wb6, Am.wb7, Am.wb8, Am.wb9, Am.reads, Am.quiet, Am.over, Nat.testBit, Nat.reduceShiftRight, Nat.reduceAnd, Nat.reduceBNe, Nat.reduceLeDiff, Nat.reduceAdd, Nat.reduceMul, Nat.reduceLT, Nat.reduceEqDiff, Nat.reduceSub, reduceCtorEq, ↓reduceIte, tyfacts, t13, t14, hn]
        refine Am.wpK_draw 11 [3,4,5,6,7,8,0,1,2,9,10] ((hx6.trans hy).trans z9).wf (by kernel_rfl) ?_
        have hxA := ((hx6.trans hy).trans z9).keep 11
        generalize hHA : Am.Heap.keep _ _ = HA
        replace hxA : Am.Ext _ HA := hHA ▸ hxA
        have zA : Ext H9 HA := by rw [← hHA]; exact (Ext.refl z9.wf).keep 11
        have e4 : H9.n + 4 < HA.n := by rw [← hHA]; simp
        have zB : Ext H9 (HA.put (H9.n + 4) (.cells false [.int .i64 (i : Int)])) := zA.put (by omega) e4 _
        have gB : (HA.put (H9.n + 4) (.cells false [.int .i64 (i : Int)])).get (H9.n + 4) = some (.cells false [.int .i64 (i : Int)]) := get_put_same e4 _
        generalize hHB : HA.put (H9.n + 4) (.cells false [.int .i64 (i : Int)]) = HB at zB gB
        have my0 : Mine H9.n HB (.slice (H9.n + 4) 0 1 1 (some 1)) 1 [[.int .i64 (i : Int)]] := ⟨fun e he => by rw [List.mem_singleton.1 he]; rfl, .inr ⟨H9.n + 4, some 1, [], rfl, by omega, gB, fun m hm => by cases hm; simp⟩⟩
        have hmB := hm9.mono zB
        have hcl : ((castL s).map cI).length = i := by rw [List.length_map, castL_len, hsl]
        obtain ⟨u1, s1, s2⟩ := hmB.sl.slice (T := T) (t := 22) (by simp only [tyfacts]) (lo := some (.int .i64 k)) (hi := none) (m := k) (n := i) (optNat_int _ _ _) (by rw [hcl]; exact optNat_none _) hk (by rw [hcl]; exact Nat.le_refl _)
        rw [List.take_of_length_le (by rw [hcl]; exact Nat.le_refl _), ← List.map_drop] at s2
        obtain ⟨v1, HC, p1, p2, p3, p4⟩ := append_own my0 zB.wf zB.n ha s2 (cI_one _) (by simp [castL]; omega) (by simp [castL]; omega)
        have hmC : Mine H6.n HC q 1 ((castL s).map cI) := hmB.ext p3 fun m h1 h2 => by have := hm9.lt h1; have := of_slice.1 h2; omega
        obtain ⟨u2, w1, w2, w3⟩ := hmC.take (T := T) (t := 22) (by simp only [tyfacts]) (hi := some (.int .i64 k)) (n := k) (optNat_int _ _ _) (by rw [hcl]; exact hk)
        have nC : H6.n ≤ HC.n := Nat.le_trans ((hy.trans z9).trans zB).n p3.n
        obtain ⟨v2, HD, r1, r2, r3, r4⟩ := append_own w2 p3.wf nC ha p2.sl (fun f hf => by
          rcases List.mem_append.1 hf with h | h
          · rw [List.mem_singleton.1 h]; rfl
          · exact cI_one _ f h) (by simp [castL]; omega) (by simp [castL]; omega)
        simp (maxSteps := 10000000) (disch := first | assumption | (simp only [tyfacts, Am.wd, Nat.reduceEqDiff, Nat.reduceLT, reduceCtorEq]; try omega; done) | omega) only [Am.wanted, Am.isAlloc, Am.wb0, Am.wb1, Am.wb2, Am.wb3, Am.wb4, Am.wb5, Am.wb6, Am.wb7, Am.wb8, Am.wb9, Am.reads, Am.quiet, Am.over, Nat.testBit, Nat.reduceShiftRight, Nat.reduceAnd, Nat.reduceBNe, Nat.reduceLeDiff, Nat.reduceAdd, Nat.reduceMul, Nat.reduceLT, Nat.reduceEqDiff, Nat.reduceSub, reduceCtorEq, ↓reduceIte, tyfacts, t13, t14, t15, hn, hHB, s1, p1, w1, r1]
        refine ih (i + 1, s.take k ++ i :: s.drop k) _ _ (by simp only; omega) ?_
        simp (maxSteps := 10000000) (disch := first | assumption | (simp only [tyfacts, Am.wd, Nat.reduceEqDiff, Nat.reduceLT, reduceCtorEq]; try omega; done) | omega) only [Am.wanted, Am.isAlloc, Am.wb0, Am.wb1, Am.wb2, Am.wb3, Am.wb4, Am.wb5, Am.wb6, Am.wb7, Am.wb8, Am.wb9, Am.reads, Am.quiet, Am.over, Nat.testBit, Nat.reduceShiftRight, Nat.reduceAnd, Nat.reduceBNe, Nat.reduceLeDiff, Nat.reduceAdd, Nat.reduceMul, Nat.reduceLT, Nat.reduceEqDiff, Nat.reduceSub, reduceCtorEq, ↓reduceIte, tyfacts, hn, hd, t3, t4, t7, t14]
        refine ⟨by simp, ?_, (((hy.trans z9).trans zB).thenB p3 fun m h => by have := of_slice.1 h; have := (hy.trans z9).n; omega).thenB r3 fun m h => w2.ge h, ?_, by omega⟩
        · have : (castL (s.take k ++ i :: s.drop k)).map cI = ((castL s).map cI).take k ++ ([[.int .i64 (i : Int)]] ++ ((castL s).drop k).map cI) := by simp [castL, cI, List.map_take, List.map_drop]
          rw [this]; exact r2
        · exact hby
    · have hby : ByC ts (i + 1) (s.take k ++ i :: s.drop k) := hb.ins hj (by omega) hno fun _ _ => by omega
      simp (maxSteps := 10000000) (disch := first | assumption | (simp only [tyfacts, Am.wd, Nat.reduceEqDiff, Nat.reduceLT, reduceCtorEq]; try omega; done) | omega) only [Am.wanted, Am.isAlloc, Am.wb0, Am.wb1, Am.wb2, Am.wb3, Am.wb4, Am.wb5, Am.wb6, Am.wb7, Am.wb8, Am.wb9, Am.reads, Am.quiet, Am.over, Nat.testBit, Nat.reduceShiftRight, Nat.reduceAnd, Nat.reduceBNe, Nat.reduceLeDiff, Nat.reduceAdd, Nat.reduceMul, Nat.reduceLT, Nat.reduceEqDiff, Nat.reduceSub, reduceCtorEq, ↓reduceIte, tyfacts, t4, t13, t14, t16, hn, Lq, hq2]
      refine Am.wpK_draw 11 [3,4,5,6,7,8,0,1,2,9,10] ((hx6.trans hy).trans z9).wf (by kernel_rfl) ?_
      have hxA := ((hx6.trans hy).trans z9).keep 11
      generalize hHA : Am.Heap.keep _ _ = HA
      replace hxA : Am.Ext _ HA := hHA ▸ hxA
      have zA : Ext H9 HA := by rw [← hHA]; exact (Ext.refl z9.wf).keep 11
      have e4 : H9.n + 4 < HA.n := by rw [← hHA]; simp
      have zB : Ext H9 (HA.put (H9.n + 4) (.cells false [.int .i64 (i : Int)])) := zA.put (by omega) e4 _
      have gB : (HA.put (H9.n + 4) (.cells false [.int .i64 (i : Int)])).get (H9.n + 4) = some (.cells false [.int .i64 (i : Int)]) := get_put_same e4 _
      generalize hHB : HA.put (H9.n + 4) (.cells false [.int .i64 (i : Int)]) = HB at zB gB
      have my0 : Mine H9.n HB (.slice (H9.n + 4) 0 1 1 (some 1)) 1 [[.int .i64 (i : Int)]] := ⟨fun e he => by rw [List.mem_singleton.1 he]; rfl, .inr ⟨H9.n + 4, some 1, [], rfl, by omega, gB, fun m hm => by cases hm; simp⟩⟩
      have hmB := hm9.mono zB
      have hcl : ((castL s).map cI).length = i := by rw [List.length_map, castL_len, hsl]
      obtain ⟨u1, s1, s2⟩ := hmB.sl.slice (T := T) (t := 22) (by simp only [tyfacts]) (lo := some (.int .i64 k)) (hi := none) (m := k) (n := i) (optNat_int _ _ _) (by rw [hcl]; exact optNat_none _) hk (by rw [hcl]; exact Nat.le_refl _)
      rw [List.take_of_length_le (by rw [hcl]; exact Nat.le_refl _), ← List.map_drop] at s2
      obtain ⟨v1, HC, p1, p2, p3, p4⟩ := append_own my0 zB.wf zB.n ha s2 (cI_one _) (by simp [castL]; omega) (by simp [castL]; omega)
      have hmC : Mine H6.n HC q 1 ((castL s).map cI) := hmB.ext p3 fun m h1 h2 => by have := hm9.lt h1; have := of_slice.1 h2; omega
      obtain ⟨u2, w1, w2, w3⟩ := hmC.take (T := T) (t := 22) (by simp only [tyfacts]) (hi := some (.int .i64 k)) (n := k) (optNat_int _ _ _) (by rw [hcl]; exact hk)
      have nC : H6.n ≤ HC.n := Nat.le_trans ((hy.trans z9).trans zB).n p3.n
      obtain ⟨v2, HD, r1, r2, r3, r4⟩ := append_own w2 p3.wf nC ha p2.sl (fun f hf => by
        rcases List.mem_append.1 hf with h | h
        · rw [List.mem_singleton.1 h]; rfl
        · exact cI_one _ f h) (by simp [castL]; omega) (by simp [castL]; omega)
      simp (maxSteps := 10000000) (disch := first | assumption | (simp only [tyfacts, Am.wd, Nat.reduceEqDiff, Nat.reduceLT, reduceCtorEq]; try omega; done) | omega) only [Am.wanted, Am.isAlloc, Am.wb0, Am.wb1, Am.wb2, Am.wb3, Am.wb4, Am.wb5, Am.wb6, Am.wb7, Am.wb8, Am.wb9, Am.reads, Am.quiet, Am.over, Nat.testBit, Nat.reduceShiftRight, Nat.reduceAnd, Nat.reduceBNe, Nat.reduceLeDiff, Nat.reduceAdd, Nat.reduceMul, Nat.reduceLT, Nat.reduceEqDiff, Nat.reduceSub, reduceCtorEq, ↓reduceIte, tyfacts, t13, t14, t15, hn, hHB, s1, p1, w1, r1]
      refine ih (i + 1, s.take k ++ i :: s.drop k) _ _ (by simp only; omega) ?_
      simp (maxSteps := 10000000) (disch := first | assumption | (simp only [tyfacts, Am.wd, Nat.reduceEqDiff, Nat.reduceLT, reduceCtorEq]; try omega; done) | omega) only [Am.wanted, Am.isAlloc, Am.wb0, Am.wb1, Am.wb2, Am.wb3, Am.wb4, Am.wb5, Am.wb6, Am.wb7, Am.wb8, Am.wb9, Am.reads, Am.quiet, Am.over, Nat.testBit, Nat.reduceShiftRight, Nat.reduceAnd, Nat.reduceBNe, Nat.reduceLeDiff, Nat.reduceAdd, Nat.reduceMul, Nat.reduceLT, Nat.reduceEqDiff, Nat.reduceSub, reduceCtorEq, ↓reduceIte, tyfacts, hn, hd, t3, t4, t7, t14]
      refine ⟨by simp, ?_, (((hy.trans z9).trans zB).thenB p3 fun m h => by have := of_slice.1 h; have := (hy.trans z9).n; omega).thenB r3 fun m h => w2.ge h, ?_, by omega⟩
      · have : (castL (s.take k ++ i :: s.drop k)).map cI = ((castL s).map cI).take k ++ ([[.int .i64 (i : Int)]] ++ ((castL s).drop k).map cI) := by simp [castL, cI, List.map_take, List.map_drop]
        rw [this]; exact r2
      · exact hby
  · have hie : i = ts.length := by omega
    subst hie
    have kS := hb.keeps hc
    have hsl := hb.len
    have sl7 := sl6.mono hy
    simp (maxSteps := 10000000) (disch := first | assumption | (simp only [tyfacts, Am.wd, Nat.reduceEqDiff, Nat.reduceLT, reduceCtorEq]; try omega; done) | omega) only [Am.wanted, Am.isAlloc, Am.wb0, Am.wb1, Am.wb2, Am.wb3, Am.wb4, Am.wb5, Am.wb6, Am.wb7, Am.wb8, Am.wb9, Am.reads, Am.quiet, Am.over, Nat.testBit, Nat.reduceShiftRight, Nat.reduceAnd, Nat.reduceBNe, Nat.reduceLeDiff, Nat.reduceAdd, Nat.reduceMul, Nat.reduceLT, Nat.reduceEqDiff, Nat.reduceSub, reduceCtorEq, ↓reduceIte, tyfacts, t3, t4, t7, t13, hn]
    refine wpX_call (lawKeeps_ok hy.wf sl7 hg hm.sl (by omega) (by simp [castL]; omega) 0) fun r H8 ⟨hr, hy8⟩ => ?_
    rw [decide_eq_true kS] at hr
    subst hr
    simp (maxSteps := 10000000) (disch := first | assumption | (simp only [tyfacts, Am.wd, Nat.reduceEqDiff, Nat.reduceLT, reduceCtorEq]; try omega; done) | omega) only [Am.wanted, Am.isAlloc, Am.wb0, Am.wb1, Am.wb2, Am.wb3, Am.wb4, Am.wb5, Am.wb6, Am.wb7, Am.wb8, Am.wb9, Am.reads, Am.quiet, Am.over, Nat.testBit, Nat.reduceShiftRight, Nat.reduceAnd, Nat.reduceBNe, Nat.reduceLeDiff, Nat.reduceAdd, Nat.reduceMul, Nat.reduceLT, Nat.reduceEqDiff, Nat.reduceSub, reduceCtorEq, ↓reduceIte, tyfacts, t3, t4, t7, t13, hn]
    refine wpX_call (lawKeeps_ok hy8.wf (sl7.mono hy8) hg ((sa6.mono hy).mono hy8) (by omega) (by simp [castL]; omega) 0) fun r H9 ⟨hr, hy9⟩ => ?_
    rw [decide_eq_true ho2.keeps] at hr
    subst hr
    simp (maxSteps := 10000000) (disch := first | assumption | (simp only [tyfacts, Am.wd, Nat.reduceEqDiff, Nat.reduceLT, reduceCtorEq]; try omega; done) | omega) only [Am.wanted, Am.isAlloc, Am.wb0, Am.wb1, Am.wb2, Am.wb3, Am.wb4, Am.wb5, Am.wb6, Am.wb7, Am.wb8, Am.wb9, Am.reads, Am.quiet, Am.over, Nat.testBit, Nat.reduceShiftRight, Nat.reduceAnd, Nat.reduceBNe, Nat.reduceLeDiff, Nat.reduceAdd, Nat.reduceMul, Nat.reduceLT, Nat.reduceEqDiff, Nat.reduceSub, reduceCtorEq, ↓reduceIte, tyfacts, hn, hd]
    exact hx6.trans (hy.trans (hy8.trans hy9))
end Go.Proofs.Ytkjknmdnehknbaa.W
