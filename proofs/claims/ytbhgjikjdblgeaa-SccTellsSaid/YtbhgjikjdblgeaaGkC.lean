import Derived.Test.YtbhgjikjdblgeaaGkB
import Derived.Test.YtbhgjikjdblgeaaVmC
set_option linter.unusedSimpArgs false
set_option linter.unusedVariables false
set_option maxRecDepth 8000
/- Going through a graph, by what a variable says. No conditions. -/
namespace Go.Proofs.Ytbhgjikjdblgeaa.W
open Go.Am Go.Am.Ord Go.Am.Scc
def cB (b : Bool) : List V := [.bool b]
def boolL (n : Nat) (f : Nat → Bool) : List (List V) := (List.range n).map fun k => cB (f k)
def wFn (W : Nat) : V := .func (.func 33) [.ptr W 0] []
end Go.Proofs.Ytbhgjikjdblgeaa.W

/- Components, as the document has them. No conditions. -/
namespace Go.Proofs.Ytbhgjikjdblgeaa.W
open Go.Am Go.Am.Ord Go.Am.Scc
noncomputable def compF (n : Int) (es : List (Int × Int)) : List Int × Int := if checkS n es ≠ 0 then ([], checkS n es) else (tabF n.toNat (comp (natE es)), 0)
noncomputable def allTo (m : Nat) (E : Es) (k : Nat) : List (List Int) := (List.range k).map fun i => distL m E i
theorem allTo_len (m : Nat) (E : Es) (k : Nat) : (allTo m E k).length = k := by simp [allTo]
theorem refComp_ok {H : Heap} (wf : H.WF) {v : V} {n : Int} {es : List (Int × Int)} (hl : Sl H v 2 (es.map cE)) (hlen : es.length < 1000000000) :
  CallsTo T 13 [.int .i64 n, v] H fun r H' => ∃ u, r = .tuple [u, .int .i64 (compF n es).2] ∧ Mine H.n H' u 1 ((compF n es).1.map cI) ∧ Ext H H' := by
 refine Am.calls_enter (T := T) rfl Try.func13 rfl (by simp only [Try.f13, List.length_cons, List.length_nil]; decide) ?_
 simp only [Try.f13]
 simp (maxSteps := 10000000) (disch := first | assumption | (simp only [tyfacts, Am.wd, Nat.reduceEqDiff, Nat.reduceLT, reduceCtorEq]; try omega; done) | omega) only [Am.wanted, Am.isAlloc, Am.wa, Am.reads, Am.quiet, Am.over, Nat.testBit, Nat.reduceShiftRight, Nat.reduceAnd, Nat.reduceBNe, Nat.reduceLeDiff, Nat.reduceAdd, Nat.reduceMul, Nat.reduceLT, Nat.reduceEqDiff, Nat.reduceSub, reduceCtorEq, ↓reduceIte, tyfacts]
 refine wpX_call (refSccCheck_ok wf hl hlen) fun r H1 ⟨hr, hx⟩ => ?_
 subst hr
 simp (maxSteps := 10000000) (disch := first | assumption | (simp only [tyfacts, Am.wd, Nat.reduceEqDiff, Nat.reduceLT, reduceCtorEq]; try omega; done) | omega) only [Am.wanted, Am.isAlloc, Am.wa, Am.reads, Am.quiet, Am.over, Nat.testBit, Nat.reduceShiftRight, Nat.reduceAnd, Nat.reduceBNe, Nat.reduceLeDiff, Nat.reduceAdd, Nat.reduceMul, Nat.reduceLT, Nat.reduceEqDiff, Nat.reduceSub, reduceCtorEq, ↓reduceIte, tyfacts]
 refine wpB_dec (fun hc => ?_) (fun hc => ?_)
 · simp (maxSteps := 10000000) (disch := first | assumption | (simp only [tyfacts, Am.wd, Nat.reduceEqDiff, Nat.reduceLT, reduceCtorEq]; try omega; done) | omega) only [Am.wanted, Am.isAlloc, Am.wa, Am.reads, Am.quiet, Am.over, Nat.testBit, Nat.reduceShiftRight, Nat.reduceAnd, Nat.reduceBNe, Nat.reduceLeDiff, Nat.reduceAdd, Nat.reduceMul, Nat.reduceLT, Nat.reduceEqDiff, Nat.reduceSub, reduceCtorEq, ↓reduceIte, tyfacts]
   exact ⟨.nilSlice, by rw [compF, if_pos hc], by rw [compF, if_pos hc]; exact Mine.nil _ _ _, hx⟩
 obtain ⟨c1, c2, c3, c4, c5⟩ := check_zeroS (Classical.not_not.1 hc)
 have hrf : compF n es = (tabF n.toNat (comp (natE es)), 0) := by rw [compF, if_neg hc]
 rw [hrf]
 have hln : (natE es).length = es.length := by simp [natE]
 rw [← c4] at hl
 obtain ⟨m, rfl⟩ : ∃ m : Nat, n = (m : Int) := ⟨n.toNat, by omega⟩
 simp only [Int.toNat_natCast] at c5 ⊢
 generalize natE es = E at hl c5 hln
 have ha2 : appOk T 45 45 = some (1, 24) := by simp only [tyfacts]
 have ha : appOk T 25 25 = some (1, 8) := by simp only [tyfacts]
 simp (maxSteps := 10000000) (disch := first | assumption | (simp only [tyfacts, Am.wd, Nat.reduceEqDiff, Nat.reduceLT, reduceCtorEq]; try omega; done) | omega) only [Am.wanted, Am.isAlloc, Am.wa, Am.reads, Am.quiet, Am.over, Nat.testBit, Nat.reduceShiftRight, Nat.reduceAnd, Nat.reduceBNe, Nat.reduceLeDiff, Nat.reduceAdd, Nat.reduceMul, Nat.reduceLT, Nat.reduceEqDiff, Nat.reduceSub, reduceCtorEq, ↓reduceIte, tyfacts]
 refine wpK_loop_ind _ (fun i : Nat => m - i) (fun i a H' => a.tmps.n = 65 ∧ a.defers = [] ∧ a.tmp 0 = .int .i64 m ∧ a.tmp 1 = v ∧ a.tmp 8 = .int .i64 i ∧ MineG H.n H' (a.tmp 7) (rowsI (allTo m E i)) ∧ Ext H H' ∧ i ≤ m) 0 ?_ ?_
 · simp (maxSteps := 10000000) (disch := first | assumption | (simp only [tyfacts, Am.wd, Nat.reduceEqDiff, Nat.reduceLT, reduceCtorEq]; try omega; done) | omega) only [Am.wanted, Am.isAlloc, Am.wa, Am.reads, Am.quiet, Am.over, Nat.testBit, Nat.reduceShiftRight, Nat.reduceAnd, Nat.reduceBNe, Nat.reduceLeDiff, Nat.reduceAdd, Nat.reduceMul, Nat.reduceLT, Nat.reduceEqDiff, Nat.reduceSub, reduceCtorEq, ↓reduceIte, tyfacts]
   refine ⟨rfl, ⟨[], Mine.nil _ _ _, rfl, fun i h => by simp at h, fun i j h => by simp at h, fun i h => by simp at h⟩, hx, by omega⟩
 clear hx
 intro i a H2 ⟨hn, hd, t0, t1, t8, mg, hx, hi⟩ ih
 generalize t7 : a.tmp 7 = g at mg
 simp (maxSteps := 10000000) (disch := first | assumption | (simp only [tyfacts, Am.wd, Nat.reduceEqDiff, Nat.reduceLT, reduceCtorEq]; try omega; done) | omega) only [Am.wanted, Am.isAlloc, Am.wa, Am.reads, Am.quiet, Am.over, Nat.testBit, Nat.reduceShiftRight, Nat.reduceAnd, Nat.reduceBNe, Nat.reduceLeDiff, Nat.reduceAdd, Nat.reduceMul, Nat.reduceLT, Nat.reduceEqDiff, Nat.reduceSub, reduceCtorEq, ↓reduceIte, tyfacts, t0, t8, hn]
 refine wpB_dec (fun hq => ?_) (fun hq => ?_)
 · have hj : i < m := by omega
   simp (maxSteps := 10000000) (disch := first | assumption | (simp only [tyfacts, Am.wd, Nat.reduceEqDiff, Nat.reduceLT, reduceCtorEq]; try omega; done) | omega) only [Am.wanted, Am.isAlloc, Am.wa, Am.reads, Am.quiet, Am.over, Nat.testBit, Nat.reduceShiftRight, Nat.reduceAnd, Nat.reduceBNe, Nat.reduceLeDiff, Nat.reduceAdd, Nat.reduceMul, Nat.reduceLT, Nat.reduceEqDiff, Nat.reduceSub, reduceCtorEq, ↓reduceIte, tyfacts, t0, t1, t7, t8, hn]
   refine wpX_call (refFar_ok hx.wf (hl.mono hx) c5 (by omega) (by omega) i) fun d H3 ⟨md, hy⟩ => ?_
   have done := md.sl.one
   have dce := md.sl.cells
   obtain ⟨g', H4, p1, p2, p3⟩ := mg.snoc hy hx.n md ha2 (by rw [rowsI_len, allTo_len]; omega) (by rw [rowsI_len, allTo_len]; omega)
   have e2 : rowsI (allTo m E i) ++ [(distL m E i).map cI] = rowsI (allTo m E (i + 1)) := by simp [rowsI, allTo, List.range_succ]
   rw [e2] at p2
   simp (maxSteps := 10000000) (disch := first | assumption | (simp only [tyfacts, Am.wd, Nat.reduceEqDiff, Nat.reduceLT, reduceCtorEq]; try omega; done) | omega) only [Am.wanted, Am.isAlloc, Am.wa, Am.reads, Am.quiet, Am.over, Nat.testBit, Nat.reduceShiftRight, Nat.reduceAnd, Nat.reduceBNe, Nat.reduceLeDiff, Nat.reduceAdd, Nat.reduceMul, Nat.reduceLT, Nat.reduceEqDiff, Nat.reduceSub, reduceCtorEq, ↓reduceIte, tyfacts, t7, t8, hn, dce, done, p1]
   refine ih (i + 1) _ _ (by omega) ?_
   simp (maxSteps := 10000000) (disch := first | assumption | (simp only [tyfacts, Am.wd, Nat.reduceEqDiff, Nat.reduceLT, reduceCtorEq]; try omega; done) | omega) only [Am.wanted, Am.isAlloc, Am.wa, Am.reads, Am.quiet, Am.over, Nat.testBit, Nat.reduceShiftRight, Nat.reduceAnd, Nat.reduceBNe, Nat.reduceLeDiff, Nat.reduceAdd, Nat.reduceMul, Nat.reduceLT, Nat.reduceEqDiff, Nat.reduceSub, reduceCtorEq, ↓reduceIte, tyfacts, hn, hd, t0, t1]
   refine ⟨by simp, p2, (hx.trans hy).thenB p3 fun k h => by
    obtain ⟨vs, a1, _⟩ := mg
    exact a1.ge h, by omega⟩
 have hie : m = i := by omega
 subst hie
 clear ih hq t8
 have sg := mg.sl
 have row : ∀ x, x < m → ∃ u, (∀ H', Ext H2 H' → loadP T H' 25 (ptrAt g x) = some u) ∧ Sl H2 u 1 ((distL m E x).map cI) := by
  intro x hx
  have er : x < (rowsI (allTo m E m)).length := by rw [rowsI_len, allTo_len]; exact hx
  obtain ⟨u, r1, r2⟩ := sg.row (T := T) 25 (by simp only [tyfacts]) x er
  rw [rowsI_get (by rw [allTo_len]; exact hx)] at r2
  exact ⟨u, r1, by simpa [allTo] using r2⟩
 have gi : ∀ x, x < m → ∀ k, idxP T 45 g (.int k (x : Int)) = some (ptrAt g x) := fun x hx k => sg.idx (T := T) 45 (by simp only [tyfacts]) k x (by rw [rowsI_len, allTo_len]; exact hx)
 simp (maxSteps := 10000000) (disch := first | assumption | (simp only [tyfacts, Am.wd, Nat.reduceEqDiff, Nat.reduceLT, reduceCtorEq]; try omega; done) | omega) only [Am.wanted, Am.isAlloc, Am.wa, Am.reads, Am.quiet, Am.over, Nat.testBit, Nat.reduceShiftRight, Nat.reduceAnd, Nat.reduceBNe, Nat.reduceLeDiff, Nat.reduceAdd, Nat.reduceMul, Nat.reduceLT, Nat.reduceEqDiff, Nat.reduceSub, reduceCtorEq, ↓reduceIte, tyfacts, hn]
 refine wpK_loop_ind _ (fun i : Nat => m - i) (fun i a H' => a.tmps.n = 65 ∧ a.defers = [] ∧ a.tmp 0 = .int .i64 m ∧ a.tmp 7 = g ∧ a.tmp 10 = .int .i64 i ∧ Mine H2.n H' (a.tmp 9) 1 ((tabF i (comp E)).map cI) ∧ Ext H2 H' ∧ i ≤ m) 0 ?_ ?_
 · simp (maxSteps := 10000000) (disch := first | assumption | (simp only [tyfacts, Am.wd, Nat.reduceEqDiff, Nat.reduceLT, reduceCtorEq]; try omega; done) | omega) only [Am.wanted, Am.isAlloc, Am.wa, Am.reads, Am.quiet, Am.over, Nat.testBit, Nat.reduceShiftRight, Nat.reduceAnd, Nat.reduceBNe, Nat.reduceLeDiff, Nat.reduceAdd, Nat.reduceMul, Nat.reduceLT, Nat.reduceEqDiff, Nat.reduceSub, reduceCtorEq, ↓reduceIte, tyfacts, hn, hd, t0, t7]
   exact ⟨rfl, Mine.nil _ _ _, Ext.refl hx.wf, by omega⟩
 clear hn hd t0 t1 t7 a
 intro i a H3 ⟨hn, hd, t0, t7, t10, mo, hy, hi⟩ ih
 generalize t9 : a.tmp 9 = o at mo
 simp (maxSteps := 10000000) (disch := first | assumption | (simp only [tyfacts, Am.wd, Nat.reduceEqDiff, Nat.reduceLT, reduceCtorEq]; try omega; done) | omega) only [Am.wanted, Am.isAlloc, Am.wa, Am.reads, Am.quiet, Am.over, Nat.testBit, Nat.reduceShiftRight, Nat.reduceAnd, Nat.reduceBNe, Nat.reduceLeDiff, Nat.reduceAdd, Nat.reduceMul, Nat.reduceLT, Nat.reduceEqDiff, Nat.reduceSub, reduceCtorEq, ↓reduceIte, tyfacts, t0, t10, hn]
 refine wpB_dec (fun hq => ?_) (fun hq => ?_)
 · have hj : i < m := by omega
   obtain ⟨ui, r1, r2⟩ := row i hj
   have q1 := r1 _ hy
   have s1 := r2.mono hy
   have gi1 := gi i hj
   simp (maxSteps := 10000000) (disch := first | assumption | (simp only [tyfacts, Am.wd, Nat.reduceEqDiff, Nat.reduceLT, reduceCtorEq]; try omega; done) | omega) only [Am.wanted, Am.isAlloc, Am.wa, Am.reads, Am.quiet, Am.over, Nat.testBit, Nat.reduceShiftRight, Nat.reduceAnd, Nat.reduceBNe, Nat.reduceLeDiff, Nat.reduceAdd, Nat.reduceMul, Nat.reduceLT, Nat.reduceEqDiff, Nat.reduceSub, reduceCtorEq, ↓reduceIte, tyfacts, hn]
   refine wpK_loop_ind _ (fun l : Nat => i - l) (fun l a H' => a.tmps.n = 65 ∧ a.defers = [] ∧ a.tmp 0 = .int .i64 m ∧ a.tmp 7 = g ∧ a.tmp 9 = o ∧ a.tmp 10 = .int .i64 i ∧ a.tmp 11 = .int .i64 l ∧ H' = H3 ∧ l ≤ i ∧ ∀ j, j < l → ¬ Mut E i j) 0 ?_ ?_
   · simp (maxSteps := 10000000) (disch := first | assumption | (simp only [tyfacts, Am.wd, Nat.reduceEqDiff, Nat.reduceLT, reduceCtorEq]; try omega; done) | omega) only [Am.wanted, Am.isAlloc, Am.wa, Am.reads, Am.quiet, Am.over, Nat.testBit, Nat.reduceShiftRight, Nat.reduceAnd, Nat.reduceBNe, Nat.reduceLeDiff, Nat.reduceAdd, Nat.reduceMul, Nat.reduceLT, Nat.reduceEqDiff, Nat.reduceSub, reduceCtorEq, ↓reduceIte, tyfacts, hn, hd, t0, t7, t9, t10]
     exact ⟨rfl, by omega, fun j h => by omega⟩
   clear hn hd t0 t7 t9 t10 a
   rintro l a H' ⟨hn, hd, t0, t7, t9, t10, t11, rfl, hli, hno⟩ ih2
   have fin : Mut E i l → comp E i = l := fun h => by
    have := comp_le h
    rcases Nat.lt_or_ge (comp E i) l with h' | h'
    · exact absurd (comp_mut E i) (hno _ h')
    · omega
   by_cases hlt : (l : Int) < (i : Int)
   · have hlm : l < m := by omega
     obtain ⟨ul, w1, w2⟩ := row l hlm
     have q2 := w1 _ hy
     have s2 := w2.mono hy
     have gi2 := gi l hlm
     have el : l < ((distL m E i).map cI).length := by simp [distL_len]; exact hlm
     have l1 := s1.load1 (T := T) 3 (by simp only [tyfacts]) l el
     rw [distL_get hlm] at l1
     replace l1 : loadP T H' 3 (ptrAt ui l) = some (.int .i64 (dist E i l : Int)) := l1
     have i1 := s1.idx (T := T) 25 (by simp only [tyfacts]) .i64 l el
     have ei : i < ((distL m E l).map cI).length := by simp [distL_len]; exact hj
     have l2 := s2.load1 (T := T) 3 (by simp only [tyfacts]) i ei
     rw [distL_get hj] at l2
     replace l2 : loadP T H' 3 (ptrAt ul i) = some (.int .i64 (dist E l i : Int)) := l2
     have i2 := s2.idx (T := T) 25 (by simp only [tyfacts]) .i64 i ei
     by_cases d1 : (dist E i l : Int) = 0
     · simp (maxSteps := 10000000) (disch := first | assumption | (simp only [tyfacts, Am.wd, Nat.reduceEqDiff, Nat.reduceLT, reduceCtorEq]; try omega; done) | omega) only [Am.wanted, Am.isAlloc, Am.wa, Am.reads, Am.quiet, Am.over, Nat.testBit, Nat.reduceShiftRight, Nat.reduceAnd, Nat.reduceBNe, Nat.reduceLeDiff, Nat.reduceAdd, Nat.reduceMul, Nat.reduceLT, Nat.reduceEqDiff, Nat.reduceSub, reduceCtorEq, ↓reduceIte, tyfacts, t7, t10, t11, hn, hlt, gi1, q1, i1, l1, d1]
       refine ih2 (l + 1) _ _ (by omega) ?_
       simp (maxSteps := 10000000) (disch := first | assumption | (simp only [tyfacts, Am.wd, Nat.reduceEqDiff, Nat.reduceLT, reduceCtorEq]; try omega; done) | omega) only [Am.wanted, Am.isAlloc, Am.wa, Am.reads, Am.quiet, Am.over, Nat.testBit, Nat.reduceShiftRight, Nat.reduceAnd, Nat.reduceBNe, Nat.reduceLeDiff, Nat.reduceAdd, Nat.reduceMul, Nat.reduceLT, Nat.reduceEqDiff, Nat.reduceSub, reduceCtorEq, ↓reduceIte, tyfacts, hn, hd, t0, t7, t9, t10]
       refine ⟨by simp, by omega, fun j hjl => ?_⟩
       by_cases e : j = l
       · subst e; rw [mut_dist]; omega
       · exact hno j (by omega)
     by_cases d2 : (dist E l i : Int) = 0
     · simp (maxSteps := 10000000) (disch := first | assumption | (simp only [tyfacts, Am.wd, Nat.reduceEqDiff, Nat.reduceLT, reduceCtorEq]; try omega; done) | omega) only [Am.wanted, Am.isAlloc, Am.wa, Am.reads, Am.quiet, Am.over, Nat.testBit, Nat.reduceShiftRight, Nat.reduceAnd, Nat.reduceBNe, Nat.reduceLeDiff, Nat.reduceAdd, Nat.reduceMul, Nat.reduceLT, Nat.reduceEqDiff, Nat.reduceSub, reduceCtorEq, ↓reduceIte, tyfacts, t7, t10, t11, hn, hlt, gi1, q1, i1, l1, d1, gi2, q2, i2, l2, d2]
       refine ih2 (l + 1) _ _ (by omega) ?_
       simp (maxSteps := 10000000) (disch := first | assumption | (simp only [tyfacts, Am.wd, Nat.reduceEqDiff, Nat.reduceLT, reduceCtorEq]; try omega; done) | omega) only [Am.wanted, Am.isAlloc, Am.wa, Am.reads, Am.quiet, Am.over, Nat.testBit, Nat.reduceShiftRight, Nat.reduceAnd, Nat.reduceBNe, Nat.reduceLeDiff, Nat.reduceAdd, Nat.reduceMul, Nat.reduceLT, Nat.reduceEqDiff, Nat.reduceSub, reduceCtorEq, ↓reduceIte, tyfacts, hn, hd, t0, t7, t9, t10]
       refine ⟨by simp, by omega, fun j hjl => ?_⟩
       by_cases e : j = l
       · subst e; rw [mut_dist]; omega
       · exact hno j (by omega)
     have hcm := fin (mut_dist.2 (.inr ⟨by omega, by omega⟩))
     obtain ⟨o', H4, p1, p2, p3, p4⟩ := append_one mo hy.wf hy.n (k := H'.n) rfl ha (f := cI (l : Int)) rfl rfl (by simp [tabF]; omega) (by simp [tabF]; omega)
     simp only [cI] at p1
     simp (maxSteps := 10000000) (disch := first | assumption | (simp only [tyfacts, Am.wd, Nat.reduceEqDiff, Nat.reduceLT, reduceCtorEq]; try omega; done) | omega) only [Am.wanted, Am.isAlloc, Am.wa, Am.reads, Am.quiet, Am.over, Nat.testBit, Nat.reduceShiftRight, Nat.reduceAnd, Nat.reduceBNe, Nat.reduceLeDiff, Nat.reduceAdd, Nat.reduceMul, Nat.reduceLT, Nat.reduceEqDiff, Nat.reduceSub, reduceCtorEq, ↓reduceIte, tyfacts, t7, t9, t10, t11, hn, hlt, gi1, q1, i1, l1, d1, gi2, q2, i2, l2, d2, p1]
     refine ih (i + 1) _ _ (by omega) ?_
     simp (maxSteps := 10000000) (disch := first | assumption | (simp only [tyfacts, Am.wd, Nat.reduceEqDiff, Nat.reduceLT, reduceCtorEq]; try omega; done) | omega) only [Am.wanted, Am.isAlloc, Am.wa, Am.reads, Am.quiet, Am.over, Nat.testBit, Nat.reduceShiftRight, Nat.reduceAnd, Nat.reduceBNe, Nat.reduceLeDiff, Nat.reduceAdd, Nat.reduceMul, Nat.reduceLT, Nat.reduceEqDiff, Nat.reduceSub, reduceCtorEq, ↓reduceIte, tyfacts, hn, hd, t0, t7]
     refine ⟨by simp, ?_, hy.thenB p3 fun k h => mo.ge h, by omega⟩
     have : (tabF (i + 1) (comp E)).map cI = (tabF i (comp E)).map cI ++ [cI (l : Int)] := by simp [tabF, List.range_succ, hcm]
     rw [this]; exact p2
   · have hle : l = i := by omega
     subst hle
     have hcm := fin (Mut.refl E l)
     obtain ⟨o', H4, p1, p2, p3, p4⟩ := append_one mo hy.wf hy.n (k := H'.n) rfl ha (f := cI (l : Int)) rfl rfl (by simp [tabF]; omega) (by simp [tabF]; omega)
     simp only [cI] at p1
     simp (maxSteps := 10000000) (disch := first | assumption | (simp only [tyfacts, Am.wd, Nat.reduceEqDiff, Nat.reduceLT, reduceCtorEq]; try omega; done) | omega) only [Am.wanted, Am.isAlloc, Am.wa, Am.reads, Am.quiet, Am.over, Nat.testBit, Nat.reduceShiftRight, Nat.reduceAnd, Nat.reduceBNe, Nat.reduceLeDiff, Nat.reduceAdd, Nat.reduceMul, Nat.reduceLT, Nat.reduceEqDiff, Nat.reduceSub, reduceCtorEq, ↓reduceIte, tyfacts, t7, t9, t10, t11, hn, hlt, p1]
     refine ih (l + 1) _ _ (by omega) ?_
     simp (maxSteps := 10000000) (disch := first | assumption | (simp only [tyfacts, Am.wd, Nat.reduceEqDiff, Nat.reduceLT, reduceCtorEq]; try omega; done) | omega) only [Am.wanted, Am.isAlloc, Am.wa, Am.reads, Am.quiet, Am.over, Nat.testBit, Nat.reduceShiftRight, Nat.reduceAnd, Nat.reduceBNe, Nat.reduceLeDiff, Nat.reduceAdd, Nat.reduceMul, Nat.reduceLT, Nat.reduceEqDiff, Nat.reduceSub, reduceCtorEq, ↓reduceIte, tyfacts, hn, hd, t0, t7]
     refine ⟨by simp, ?_, hy.thenB p3 fun k h => mo.ge h, by omega⟩
     have : (tabF (l + 1) (comp E)).map cI = (tabF l (comp E)).map cI ++ [cI (l : Int)] := by simp [tabF, List.range_succ, hcm]
     rw [this]; exact p2
 · have hie : i = m := by omega
   subst hie
   simp (maxSteps := 10000000) (disch := first | assumption | (simp only [tyfacts, Am.wd, Nat.reduceEqDiff, Nat.reduceLT, reduceCtorEq]; try omega; done) | omega) only [Am.wanted, Am.isAlloc, Am.wa, Am.reads, Am.quiet, Am.over, Nat.testBit, Nat.reduceShiftRight, Nat.reduceAnd, Nat.reduceBNe, Nat.reduceLeDiff, Nat.reduceAdd, Nat.reduceMul, Nat.reduceLT, Nat.reduceEqDiff, Nat.reduceSub, reduceCtorEq, ↓reduceIte, tyfacts, hn, hd, t9]
   exact ⟨o, rfl, mo.lower hx.n, hx.trans hy⟩
end Go.Proofs.Ytbhgjikjdblgeaa.W

/- What was shown of graphs, for walks in depth. No conditions. -/
namespace Go.Proofs.Ytbhgjikjdblgeaa.W
open Go.Am Go.Am.Ord Go.Am.Scc
def dI (z : Int) : List Vm.D := [.atom (.int .i64 z)]
def dE (p : Int × Int) : List Vm.D := [.atom (.int .i64 p.1), .atom (.int .i64 p.2)]
def dB (b : Bool) : List Vm.D := [.atom (.bool b)]
def gD (ls : List (List Int)) : List (List Vm.D) := ls.map fun l => [.imm 1 (l.map dI)]
theorem aR_I (xs : List Int) : Vm.aR (xs.map cI) = xs.map dI := by simp [Vm.aR, cI, dI, Function.comp_def]
theorem aR_E (es : List (Int × Int)) : Vm.aR (es.map cE) = es.map dE := by simp [Vm.aR, cE, dE, Function.comp_def]
theorem gR_D (ls : List (List Int)) : Vm.gR (rowsI ls) = gD ls := by simp [Vm.gR, rowsI, gD, Function.comp_def, aR_I]
theorem cI_all (xs : List Int) : (xs.map cI).flatten.all V.one = true := all_flatten (cI_one xs)
theorem three {P : Nat → Prop} {H : Heap} {vs : List V} {a b c : Vm.D} (h : Vm.RL P H [] [a, b, c] vs []) : ∃ u v w, vs = [u, v, w] ∧ Vm.RL P H [] [a] [u] [] ∧ Vm.RL P H [] [b] [v] [] ∧ Vm.RL P H [] [c] [w] [] := by
 obtain ⟨u, us, F1, F2, rfl, hF, h1, h2⟩ := h.uncons
 obtain ⟨v, vs, F3, F4, rfl, rfl, h3, h4⟩ := h2.uncons
 obtain ⟨w, rfl, h5⟩ := h4.one
 have hF' := hF.symm
 rw [List.append_eq_nil_iff, List.append_eq_nil_iff] at hF'
 rw [hF'.1] at h1; rw [hF'.2.1] at h3; rw [hF'.2.2] at h5
 exact ⟨u, v, w, rfl, h1, h3, h5⟩
theorem two {P : Nat → Prop} {H : Heap} {vs : List V} {a b : Vm.D} (h : Vm.RL P H [] [a, b] vs []) : ∃ u v, vs = [u, v] ∧ Vm.RL P H [] [a] [u] [] ∧ Vm.RL P H [] [b] [v] [] := by
 obtain ⟨u, us, F1, F2, rfl, hF, h1, h2⟩ := h.uncons
 obtain ⟨v, rfl, h3⟩ := h2.one
 have hF' := hF.symm
 rw [List.append_eq_nil_iff] at hF'
 rw [hF'.1] at h1; rw [hF'.2] at h3
 exact ⟨u, v, rfl, h1, h3⟩
theorem fresh_I {n : Nat} {H : Heap} {v : V} {xs : List Int} (h : Mine n H v 1 (xs.map cI)) (P : Nat → Prop) (μ : List Vm.Hd) : ∃ K, Vm.RL P H μ [.fresh 1 (xs.map dI)] [v] K ∧ K.Nodup ∧ ∀ l, l ∈ K → n ≤ l ∧ l < H.n := by
 rw [← aR_I]; exact Vm.fresh_of_mine h (cI_all xs)
theorem sccCheck_v {n : Int} {es : List (Int × Int)} (hlen : es.length < 1000000000) : Vm.VC T 19 [.atom (.int .i64 n), .imm 2 (es.map dE)] fun d => d = .atom (.int .i64 (checkS n es)) := by
 refine Vm.vc_am fun P H vs wf r => ?_
 obtain ⟨u, v, rfl, r1, r2⟩ := two r
 rw [r1.atomInv.2]
 rw [← aR_E] at r2
 exact (sccCheck_ok wf (Vm.sl_of_imm r2) hlen).mono fun v H' ⟨h1, h2⟩ => ⟨⟨_, [], rfl, h1 ▸ .atom .nil, by simp, by simp⟩, h2⟩
theorem refCheck_v {n : Int} {es : List (Int × Int)} (hlen : es.length < 1000000000) : Vm.VC T 20 [.atom (.int .i64 n), .imm 2 (es.map dE)] fun d => d = .atom (.int .i64 (checkS n es)) := by
 refine Vm.vc_am fun P H vs wf r => ?_
 obtain ⟨u, v, rfl, r1, r2⟩ := two r
 rw [r1.atomInv.2]
 rw [← aR_E] at r2
 exact (refSccCheck_ok wf (Vm.sl_of_imm r2) hlen).mono fun v H' ⟨h1, h2⟩ => ⟨⟨_, [], rfl, h1 ▸ .atom .nil, by simp, by simp⟩, h2⟩
def two_d (p : List Int × Int) : Vm.D := .tuple [.fresh 1 (p.1.map dI), .atom (.int .i64 p.2)]
theorem two_d_ok {H H' : Heap} {u r : V} {p : List Int × Int} (P : Nat → Prop) (h1 : r = .tuple [u, .int .i64 p.2]) (h2 : Mine H.n H' u 1 (p.1.map cI)) : ∃ d K, d = two_d p ∧ Vm.RL P H' [] [d] [r] K ∧ K.Nodup ∧ ∀ l, l ∈ K → H.n ≤ l ∧ l < H'.n := by
 obtain ⟨K, q, nd, hk⟩ := fresh_I h2 P []
 exact ⟨_, K, rfl, h1 ▸ (by simpa [two_d] using (q.cons (Vm.RL.atom1 (.int .i64 p.2))).tuple1), nd, hk⟩
theorem sccReach_v {n x : Int} {es : List (Int × Int)} (hlen : es.length < 1000000000) : Vm.VC T 10 [.atom (.int .i64 n), .imm 2 (es.map dE), .atom (.int .i64 x)] fun d => d = two_d (reachF n es x) := by
 refine Vm.vc_am fun P H vs wf r => ?_
 obtain ⟨u, v, w, rfl, r1, r2, r3⟩ := three r
 rw [r1.atomInv.2, r3.atomInv.2]
 rw [← aR_E] at r2
 exact (sccReach_ok wf (Vm.sl_of_imm r2) hlen).mono fun v H' ⟨u, h1, h2, h3⟩ => ⟨two_d_ok P h1 h2, h3⟩
theorem refReach_v {n x : Int} {es : List (Int × Int)} (hlen : es.length < 1000000000) : Vm.VC T 11 [.atom (.int .i64 n), .imm 2 (es.map dE), .atom (.int .i64 x)] fun d => d = two_d (reachF n es x) := by
 refine Vm.vc_am fun P H vs wf r => ?_
 obtain ⟨u, v, w, rfl, r1, r2, r3⟩ := three r
 rw [r1.atomInv.2, r3.atomInv.2]
 rw [← aR_E] at r2
 exact (refReach_ok wf (Vm.sl_of_imm r2) hlen).mono fun v H' ⟨u, h1, h2, h3⟩ => ⟨two_d_ok P h1 h2, h3⟩
theorem refComp_v {n : Int} {es : List (Int × Int)} (hlen : es.length < 1000000000) : Vm.VC T 13 [.atom (.int .i64 n), .imm 2 (es.map dE)] fun d => d = two_d (compF n es) := by
 refine Vm.vc_am fun P H vs wf r => ?_
 obtain ⟨u, v, rfl, r1, r2⟩ := two r
 rw [r1.atomInv.2]
 rw [← aR_E] at r2
 exact (refComp_ok wf (Vm.sl_of_imm r2) hlen).mono fun v H' ⟨u, h1, h2, h3⟩ => ⟨two_d_ok P h1 h2, h3⟩
theorem refFar_v {n : Nat} {E : Es} (hE : ∀ p, p ∈ E → p.1 < n ∧ p.2 < n) (hn4 : n ≤ 4096) (hlen : E.length < 10000000) (x : Nat) : Vm.VC T 31 [.atom (.int .i64 n), .imm 2 ((castE E).map dE), .atom (.int .i64 x)] fun d => d = .fresh 1 ((distL n E x).map dI) := by
 refine Vm.vc_am fun P H vs wf r => ?_
 obtain ⟨u, v, w, rfl, r1, r2, r3⟩ := three r
 rw [r1.atomInv.2, r3.atomInv.2]
 rw [← aR_E] at r2
 refine (refFar_ok wf (Vm.sl_of_imm r2) hE hn4 hlen x).mono fun v H' ⟨h1, h2⟩ => ⟨?_, h2⟩
 obtain ⟨K, q, nd, hk⟩ := fresh_I h1 P []
 exact ⟨_, K, rfl, q, nd, hk⟩
theorem sccFar_v {n : Nat} {E : Es} (hE : ∀ p, p ∈ E → p.1 < n ∧ p.2 < n) (hn4 : n ≤ 4096) {x : Nat} (hx : x < n) : Vm.VC T 30 [.imm 1 (gD (graph n E)), .atom (.int .i64 x)] fun d => d = .fresh 1 ((distL n E x).map dI) := by
 refine Vm.vc_am fun P H vs wf r => ?_
 obtain ⟨u, v, rfl, r1, r2⟩ := two r
 rw [r2.atomInv.2]
 rw [← gR_D] at r1
 refine (sccFar_ok wf (Vm.slG_of_imm r1) hE hn4 hx).mono fun v H' ⟨h1, h2⟩ => ⟨?_, h2⟩
 obtain ⟨K, q, nd, hk⟩ := fresh_I h1 P []
 exact ⟨_, K, rfl, q, nd, hk⟩
theorem rowsI_one (ls : List (List Int)) : ∀ r, r ∈ rowsI ls → r.flatten.all V.one = true := fun r hr => by
 obtain ⟨l, _, rfl⟩ := List.mem_map.1 hr
 exact cI_all l
theorem sccMade_v {n : Nat} {E : Es} (hE : ∀ p, p ∈ E → p.1 < n ∧ p.2 < n) (hn4 : n ≤ 4096) (hlen : E.length < 10000000) : Vm.VC T 29 [.atom (.int .i64 n), .imm 2 ((castE E).map dE)] fun d => d = .imm 1 (gD (graph n E)) := by
 refine Vm.vc_am_imm fun P H vs wf r => ?_
 obtain ⟨u, v, rfl, r1, r2⟩ := two r
 rw [r1.atomInv.2]
 rw [← aR_E] at r2
 refine (sccMade_ok wf (Vm.sl_of_imm r2) hE hn4 hlen).mono fun v H' ⟨h1, h2⟩ => ⟨h2, fun Q hQ => ?_⟩
 rw [← gR_D]
 exact Vm.imm_of_mineG h1 (rowsI_one _) hQ
theorem sccTurned_v {n : Nat} {E : Es} (hn4 : n ≤ 4096) : Vm.VC T 32 [.imm 1 (gD (graph n E))] fun d => d = .imm 1 (gD (graph n (tr E))) := by
 refine Vm.vc_am_imm fun P H vs wf r => ?_
 obtain ⟨u, rfl, r1⟩ := r.one
 rw [← gR_D] at r1
 refine (sccTurned_ok wf (Vm.slG_of_imm r1) hn4).mono fun v H' ⟨h1, h2⟩ => ⟨h2, fun Q hQ => ?_⟩
 rw [← gR_D]
 exact Vm.imm_of_mineG h1 (rowsI_one _) hQ
end Go.Proofs.Ytbhgjikjdblgeaa.W
