import Derived.Test.YtkjknmdnehknbaaWkB
import Derived.Test.YtkjknmdnehknbaaWkA
import Derived.Test.YtkjknmdnehknbaaOrd
set_option linter.unusedSimpArgs false
set_option linter.unusedVariables false
set_option maxRecDepth 8000
/- Does a beginning keep time? No conditions. -/
namespace Go.Proofs.Ytkjknmdnehknbaa.W
open Go.Am Go.Am.Ord

/-- Where each one stands, the first j places gone through. -/
def atF (n : Nat) (xs : List Int) (j : Nat) : List Int := (List.range n).map fun k : Nat => if (k : Int) ∈ xs.take j then (xs.idxOf (k : Int) : Int) else (xs.length : Int)
theorem atF_zero (n : Nat) (xs : List Int) : atF n xs 0 = List.replicate n (xs.length : Int) := by
  apply List.ext_getElem
  · simp [atF]
  · intro i h1 h2; simp [atF]
theorem atF_len (n : Nat) (xs : List Int) (j : Nat) : (atF n xs j).length = n := by simp [atF]
theorem mem_take_succ {xs : List Int} {j : Nat} (hj : j < xs.length) (x : Int) : x ∈ xs.take (j + 1) ↔ x ∈ xs.take j ∨ x = xs[j] := by
  rw [List.take_add_one, List.getElem?_eq_getElem hj, List.mem_append]; simp only [Option.toList_some, List.mem_singleton]
theorem atF_succ {n : Nat} {xs : List Int} (hn : xs.Nodup) {j : Nat} (hj : j < xs.length) (h0 : 0 ≤ xs[j]) (h1 : xs[j] < n) : (atF n xs j).set xs[j].toNat (j : Int) = atF n xs (j + 1) := by
  apply List.ext_getElem
  · simp [atF]
  · intro i h2 h3
    have hi : i < n := by simpa [atF] using h2
    simp only [atF, List.getElem_set, List.getElem_map, List.getElem_range, mem_take_succ hj]
    by_cases e : xs[j].toNat = i
    · have hx : (i : Int) = xs[j] := by omega
      rw [if_pos e, hx, if_pos (.inr rfl), idx_of_get hn hj]
    · rw [if_neg e]
      have hx : ¬ (i : Int) = xs[j] := by omega
      simp only [hx, or_false]
theorem atF_all {n : Nat} {xs : List Int} {k : Nat} (hk : k < n) : (atF n xs xs.length)[k]'(by rw [atF_len]; exact hk) = (xs.idxOf (k : Int) : Int) := by
  simp only [atF, List.getElem_map, List.getElem_range, List.take_length]
  by_cases h : (k : Int) ∈ xs
  · rw [if_pos h]
  · rw [if_neg h, List.idxOf_eq_length h]
theorem rep_cI (n : Nat) (z : Int) : List.replicate n [V.int .i64 z] = (List.replicate n z).map cI := by simp [cI]

/-- The first i places filled. -/
def upF (n i : Nat) (z : Int) : List Int := (List.range n).map fun k : Nat => if k < i then z else 0
theorem upF_zero (n : Nat) (z : Int) : upF n 0 z = List.replicate n 0 := by
  apply List.ext_getElem
  · simp [upF]
  · intro i h1 h2; simp [upF]
theorem upF_all (n : Nat) (z : Int) : upF n n z = List.replicate n z := by
  apply List.ext_getElem
  · simp [upF]
  · intro i h1 h2
    have : i < n := by simpa [upF] using h1
    simp [upF, this]
theorem upF_succ {n i : Nat} (hi : i < n) (z : Int) : (upF n i z).set i z = upF n (i + 1) z := by
  apply List.ext_getElem
  · simp [upF]
  · intro j h1 h2
    simp only [upF, List.getElem_set, List.getElem_map, List.getElem_range]
    by_cases e : i = j
    · subst e; simp
    · rw [if_neg e]
      by_cases h : j < i
      · rw [if_pos h, if_pos (by omega)]
      · rw [if_neg h, if_neg (by omega)]
theorem set_cI (cur : List Int) (i : Nat) (z : Int) : (cur.map cI).set i [V.int .i64 z] = (cur.set i z).map cI := by rw [List.map_set]; rfl

/-- What stands in memory as Keeps goes. -/
structure KB (H : Heap) (b : Nat) (o av : V) (cur : List Int) (H' : Heap) : Prop where
  at_ : H'.get (b + 1) = some (.cells false [av])
  ord : H'.get H.n = some (.cells false [o])
  res : H'.get (H.n + 1) = some (.cells false [.int .i64 0])
  mine : Mine b H' av 1 (cur.map cI)
  ext : Ext H H'
theorem KB.mono {H : Heap} {b : Nat} {o av : V} {cur : List Int} {H' H'' : Heap} (h : KB H b o av cur H') (hx : Ext H' H'') : KB H b o av cur H'' :=
  ⟨hx.get _ _ h.at_, hx.get _ _ h.ord, hx.get _ _ h.res, h.mine.mono hx, h.ext.trans hx⟩
theorem KB.extB {H : Heap} {b : Nat} {o av : V} {cur : List Int} {H' H'' : Heap} {P : Nat → Prop} (h : KB H b o av cur H') (hx : ExtB P H' H'') (hb : H.n + 2 ≤ b) (ho : ∀ m, Of av m → m = b) (hp : ∀ m, m ≤ b + 1 → ¬ P m) : KB H b o av cur H'' :=
  ⟨hx.get _ _ (hp _ (by omega)) h.at_, hx.get _ _ (hp _ (by omega)) h.ord, hx.get _ _ (hp _ (by omega)) h.res, h.mine.ext hx fun m hm => hp _ (by have := ho _ hm; omega),
   h.ext.thenB hx fun m hm => by
    rcases Nat.lt_or_ge m (b + 2) with h1 | h1
    · exact absurd hm (hp m (by omega))
    · omega⟩
theorem KB.store {H : Heap} {b : Nat} {o av : V} {cur : List Int} {H' : Heap} (h : KB H b o av cur H') (hb : H.n + 2 ≤ b) (ho : ∀ m, Of av m → m = b) {j : Nat} (hj : j < cur.length) (z : Int) :
    ∃ H'', storeP T H' 3 (ptrAt av j) (.int .i64 z) = some H'' ∧ KB H b o av (cur.set j z) H'' ∧ ExtB (Of av) H' H'' := by
  obtain ⟨H'', h1, h2, h3, h4⟩ := h.mine.store1 h.ext.wf (T := T) (t := 3) (by simp only [tyfacts]) (j := j) (by simpa using hj) (x := .int .i64 z) rfl
  rw [set_cI] at h2
  exact ⟨H'', h1, ⟨h3.get _ _ (fun e => by have := ho _ e; omega) h.at_, h3.get _ _ (fun e => by have := ho _ e; omega) h.ord, h3.get _ _ (fun e => by have := ho _ e; omega) h.res, h2, h.ext.thenB h3 fun m e => by have := ho _ e; omega⟩, h3⟩

theorem keeps_ok {H : Heap} (wf : H.WF) {l o : V} {ts : List Tr5} {xs : List Int} (hl : Sl H l 5 (ts.map Tr5.cells)) (hg : ∀ t, t ∈ ts → t.Good) (ho : Sl H o 1 (xs.map cI)) (hlen : ts.length < 1000000) (hxs : xs.length < 1000000) :
    CallsTo T 24 [l, o] H fun r H' => r = .int .i64 (keepsF ts xs) ∧ Ext H H' := by
  refine Am.calls_enter (T := T) rfl Try.func24 rfl (by simp only [Try.f24, List.length_cons, List.length_nil]; decide) ?_
  simp only [Try.f24]
  have hx1 : Ext H ((H.push (.cells false [o])).push (.cells false [.int .i64 0])) := ((Ext.refl wf).push _).push _
  simp (maxSteps := 10000000) (disch := first | assumption | (simp only [tyfacts, Am.wd, Nat.reduceEqDiff, Nat.reduceLT, reduceCtorEq]; try omega; done) | omega) only [Am.wanted, Am.isAlloc, Am.wb0, Am.wb1, Am.wb2, Am.wb3, Am.wb4, Am.wb5, Am.wb6, Am.wb7, Am.wb8, Am.wb9, Am.reads, Am.quiet, Am.over, Nat.testBit, Nat.reduceShiftRight, Nat.reduceAnd, Nat.reduceBNe, Nat.reduceLeDiff, Nat.reduceAdd, Nat.reduceMul, Nat.reduceLT, Nat.reduceEqDiff, Nat.reduceSub, reduceCtorEq, ↓reduceIte, tyfacts, ho.cells]
  refine wpX_call (fits_ok hx1.wf (hl.mono hx1) (ho.mono hx1) hlen hxs) fun r H1 ⟨hr, hx2⟩ => ?_
  subst hr
  have g1 : H1.get H.n = some (.cells false [o]) := hx2.get _ _ (by simp [Heap.get_push])
  have g2 : H1.get (H.n + 1) = some (.cells false [.int .i64 0]) := hx2.get _ _ (by simp [Heap.get_push])
  have hxx := hx1.trans hx2
  have e2 := Heap.lt g2
  have g1' := cellsAt_of_get g1
  simp (maxSteps := 10000000) (disch := first | assumption | (simp only [tyfacts, Am.wd, Nat.reduceEqDiff, Nat.reduceLT, reduceCtorEq]; try omega; done) | omega) only [Am.wanted, Am.isAlloc, Am.wb0, Am.wb1, Am.wb2, Am.wb3, Am.wb4, Am.wb5, Am.wb6, Am.wb7, Am.wb8, Am.wb9, Am.reads, Am.quiet, Am.over, Nat.testBit, Nat.reduceShiftRight, Nat.reduceAnd, Nat.reduceBNe, Nat.reduceLeDiff, Nat.reduceAdd, Nat.reduceMul, Nat.reduceLT, Nat.reduceEqDiff, Nat.reduceSub, reduceCtorEq, ↓reduceIte, tyfacts]
  refine wpB_dec (fun hc => ?_) (fun hc => ?_)
  · simp (maxSteps := 10000000) (disch := first | assumption | (simp only [tyfacts, Am.wd, Nat.reduceEqDiff, Nat.reduceLT, reduceCtorEq]; try omega; done) | omega) only [Am.wanted, Am.isAlloc, Am.wb0, Am.wb1, Am.wb2, Am.wb3, Am.wb4, Am.wb5, Am.wb6, Am.wb7, Am.wb8, Am.wb9, Am.reads, Am.quiet, Am.over, Nat.testBit, Nat.reduceShiftRight, Nat.reduceAnd, Nat.reduceBNe, Nat.reduceLeDiff, Nat.reduceAdd, Nat.reduceMul, Nat.reduceLT, Nat.reduceEqDiff, Nat.reduceSub, reduceCtorEq, ↓reduceIte, tyfacts, g2]
    exact ⟨by rw [keepsF_eq, if_pos hc], hxx.put (by omega) e2 _⟩
  have hf : fitsF ts xs = 0 := by omega
  obtain ⟨hc0, hin, hnd⟩ := fits_zero hf
  have L := hl.len
  simp (maxSteps := 10000000) (disch := first | assumption | (simp only [tyfacts, Am.wd, Nat.reduceEqDiff, Nat.reduceLT, reduceCtorEq]; try omega; done) | omega) only [Am.wanted, Am.isAlloc, Am.wb0, Am.wb1, Am.wb2, Am.wb3, Am.wb4, Am.wb5, Am.wb6, Am.wb7, Am.wb8, Am.wb9, Am.reads, Am.quiet, Am.over, Nat.testBit, Nat.reduceShiftRight, Nat.reduceAnd, Nat.reduceBNe, Nat.reduceLeDiff, Nat.reduceAdd, Nat.reduceMul, Nat.reduceLT, Nat.reduceEqDiff, Nat.reduceSub, reduceCtorEq, ↓reduceIte, tyfacts, L]
  generalize hat : V.slice H1.n 0 ts.length 1 (some ts.length) = av
  have hrep : List.replicate ts.length [V.int .i64 0] = (List.replicate ts.length (0 : Int)).map cI := rep_cI _ _
  rw [hrep]
  have hx3 : Ext H1 (H1.push (.cells false ((List.replicate ts.length (0 : Int)).map cI).flatten)) := (Ext.refl hxx.wf).push _
  have m3 : Mine H1.n (H1.push (.cells false ((List.replicate ts.length (0 : Int)).map cI).flatten)) av 1 ((List.replicate ts.length (0 : Int)).map cI) := by
    rw [← hat, ← hrep]
    exact own_made hxx.wf (Nat.le_refl _) 1 _ _ _ rfl (Nat.le_refl _)
  have oa := m3.sl.one
  have La : lenS av = some ts.length := by rw [← hat]; rfl
  have oof : ∀ m, Of av m → m = H1.n := fun m h => by rw [← hat] at h; exact (of_slice.1 h).symm
  have hb : H.n + 2 ≤ H1.n := by omega
  have k0 : KB H H1.n o av (upF ts.length 0 xs.length) ((H1.push (.cells false ((List.replicate ts.length (0 : Int)).map cI).flatten)).push (.cells false [av])) := by
    have hy := hx3.trans ((Ext.refl hx3.wf).push (.cells false [av]))
    refine ⟨by simp [Heap.get_push], hy.get _ _ g1, hy.get _ _ g2, ?_, hxx.trans hy⟩
    rw [upF_zero]; exact m3.mono ((Ext.refl hx3.wf).push _)
  refine wpK_loop_ind _ (fun i : Nat => ts.length - i) (fun i a H' => a.tmps.n = 66 ∧ a.defers = [] ∧ a.tmp 0 = l ∧ a.tmp 3 = .ptr H.n 0 ∧ a.tmp 4 = .ptr (H.n + 1) 0 ∧ a.tmp 6 = .ptr (H1.n + 1) 0 ∧ a.tmp 22 = .int .i64 ts.length ∧ a.tmp 23 = .int .i64 i ∧
    KB H H1.n o av (upF ts.length i xs.length) H' ∧ i ≤ ts.length) 0 ?_ ?_
  · simp (maxSteps := 10000000) (disch := first | assumption | (simp only [tyfacts, Am.wd, Nat.reduceEqDiff, Nat.reduceLT, reduceCtorEq]; try omega; done) | omega) only [Am.wanted, Am.isAlloc, Am.wb0, Am.wb1, Am.wb2, Am.wb3, Am.wb4, Am.wb5, Am.wb6, Am.wb7, Am.wb8, Am.wb9, Am.reads, Am.quiet, Am.over, Nat.testBit, Nat.reduceShiftRight, Nat.reduceAnd, Nat.reduceBNe, Nat.reduceLeDiff, Nat.reduceAdd, Nat.reduceMul, Nat.reduceLT, Nat.reduceEqDiff, Nat.reduceSub, reduceCtorEq, ↓reduceIte, tyfacts]
    exact ⟨rfl, k0, by omega⟩
  intro i a H2 ⟨hn, hd, h0, h3, h4, h6, h22, h23, kb, hi⟩ ih
  have c1 := cellsAt_of_get kb.at_
  have c2 := cellsAt_of_get kb.ord
  have f2 := Heap.lt kb.res
  have LO := ho.len
  simp (maxSteps := 10000000) (disch := first | assumption | (simp only [tyfacts, Am.wd, Nat.reduceEqDiff, Nat.reduceLT, reduceCtorEq]; try omega; done) | omega) only [Am.wanted, Am.isAlloc, Am.wb0, Am.wb1, Am.wb2, Am.wb3, Am.wb4, Am.wb5, Am.wb6, Am.wb7, Am.wb8, Am.wb9, Am.reads, Am.quiet, Am.over, Nat.testBit, Nat.reduceShiftRight, Nat.reduceAnd, Nat.reduceBNe, Nat.reduceLeDiff, Nat.reduceAdd, Nat.reduceMul, Nat.reduceLT, Nat.reduceEqDiff, Nat.reduceSub, reduceCtorEq, ↓reduceIte, tyfacts, h22, h23, hn]
  refine wpB_dec (fun hq => ?_) (fun hq => ?_)
  · have hj : i < ts.length := by omega
    obtain ⟨H3, s1, kb3, s3⟩ := kb.store hb oof (j := i) (by simpa [upF] using hj) xs.length
    rw [upF_succ hj] at kb3
    have hsl := kb.mine.sl
    have lu : (upF ts.length i xs.length).length = ts.length := by simp [upF]
    simp (maxSteps := 10000000) (disch := first | assumption | (simp only [tyfacts, Am.wd, Nat.reduceEqDiff, Nat.reduceLT, reduceCtorEq]; try omega; done) | omega) only [Am.wanted, Am.isAlloc, Am.wb0, Am.wb1, Am.wb2, Am.wb3, Am.wb4, Am.wb5, Am.wb6, Am.wb7, Am.wb8, Am.wb9, Am.reads, Am.quiet, Am.over, Nat.testBit, Nat.reduceShiftRight, Nat.reduceAnd, Nat.reduceBNe, Nat.reduceLeDiff, Nat.reduceAdd, Nat.reduceMul, Nat.reduceLT, Nat.reduceEqDiff, Nat.reduceSub, reduceCtorEq, ↓reduceIte, tyfacts, h3, h4, h6, h23, hn, c1, c2, LO, hsl.idx, s1]
    refine ih (i + 1) _ _ (by omega) ?_
    simp (maxSteps := 10000000) (disch := first | assumption | (simp only [tyfacts, Am.wd, Nat.reduceEqDiff, Nat.reduceLT, reduceCtorEq]; try omega; done) | omega) only [Am.wanted, Am.isAlloc, Am.wb0, Am.wb1, Am.wb2, Am.wb3, Am.wb4, Am.wb5, Am.wb6, Am.wb7, Am.wb8, Am.wb9, Am.reads, Am.quiet, Am.over, Nat.testBit, Nat.reduceShiftRight, Nat.reduceAnd, Nat.reduceBNe, Nat.reduceLeDiff, Nat.reduceAdd, Nat.reduceMul, Nat.reduceLT, Nat.reduceEqDiff, Nat.reduceSub, reduceCtorEq, ↓reduceIte, tyfacts, hn, hd, h0, h3, h4, h6, h22]
    exact ⟨by simp, kb3, by omega⟩
  have : i = ts.length := by omega
  subst this
  rw [upF_all, ← atF_zero] at kb
  simp (maxSteps := 10000000) (disch := first | assumption | (simp only [tyfacts, Am.wd, Nat.reduceEqDiff, Nat.reduceLT, reduceCtorEq]; try omega; done) | omega) only [Am.wanted, Am.isAlloc, Am.wb0, Am.wb1, Am.wb2, Am.wb3, Am.wb4, Am.wb5, Am.wb6, Am.wb7, Am.wb8, Am.wb9, Am.reads, Am.quiet, Am.over, Nat.testBit, Nat.reduceShiftRight, Nat.reduceAnd, Nat.reduceBNe, Nat.reduceLeDiff, Nat.reduceAdd, Nat.reduceMul, Nat.reduceLT, Nat.reduceEqDiff, Nat.reduceSub, reduceCtorEq, ↓reduceIte, tyfacts, h3, hn, hd, c2, LO]
  refine wpK_loop_ind _ (fun j : Nat => xs.length - j) (fun j a H' => a.tmps.n = 66 ∧ a.defers = [] ∧ a.tmp 0 = l ∧ a.tmp 3 = .ptr H.n 0 ∧ a.tmp 4 = .ptr (H.n + 1) 0 ∧ a.tmp 6 = .ptr (H1.n + 1) 0 ∧ a.tmp 32 = o ∧ a.tmp 33 = .int .i64 xs.length ∧ a.tmp 34 = .int .i64 j ∧
    KB H H1.n o av (atF ts.length xs j) H' ∧ j ≤ xs.length) 0 ?_ ?_
  · simp (maxSteps := 10000000) (disch := first | assumption | (simp only [tyfacts, Am.wd, Nat.reduceEqDiff, Nat.reduceLT, reduceCtorEq]; try omega; done) | omega) only [Am.wanted, Am.isAlloc, Am.wb0, Am.wb1, Am.wb2, Am.wb3, Am.wb4, Am.wb5, Am.wb6, Am.wb7, Am.wb8, Am.wb9, Am.reads, Am.quiet, Am.over, Nat.testBit, Nat.reduceShiftRight, Nat.reduceAnd, Nat.reduceBNe, Nat.reduceLeDiff, Nat.reduceAdd, Nat.reduceMul, Nat.reduceLT, Nat.reduceEqDiff, Nat.reduceSub, reduceCtorEq, ↓reduceIte, tyfacts, hn, hd, h0, h3, h4, h6]
    exact ⟨by simp, kb, by omega⟩
  clear ih kb h22 h23 hn hd h0 h3 h4 h6 c1 c2 f2
  intro j a H3 ⟨hn, hd, h0, h3, h4, h6, h32, h33, h34, kb, hi⟩ ih
  have c1 := cellsAt_of_get kb.at_
  have f2 := Heap.lt kb.res
  simp (maxSteps := 10000000) (disch := first | assumption | (simp only [tyfacts, Am.wd, Nat.reduceEqDiff, Nat.reduceLT, reduceCtorEq]; try omega; done) | omega) only [Am.wanted, Am.isAlloc, Am.wb0, Am.wb1, Am.wb2, Am.wb3, Am.wb4, Am.wb5, Am.wb6, Am.wb7, Am.wb8, Am.wb9, Am.reads, Am.quiet, Am.over, Nat.testBit, Nat.reduceShiftRight, Nat.reduceAnd, Nat.reduceBNe, Nat.reduceLeDiff, Nat.reduceAdd, Nat.reduceMul, Nat.reduceLT, Nat.reduceEqDiff, Nat.reduceSub, reduceCtorEq, ↓reduceIte, tyfacts, h33, h34, hn]
  refine wpB_dec (fun hq => ?_) (fun hq => ?_)
  · have hj : j < xs.length := by omega
    have hir := hin xs[j] (List.getElem_mem hj)
    simp only [inR, Bool.and_eq_true, decide_eq_true_eq] at hir
    obtain ⟨H4, s1, kb4, s3⟩ := kb.store hb oof (j := xs[j].toNat) (by rw [atF_len]; omega) j
    rw [atF_succ hnd hj hir.1 hir.2] at kb4
    have hsl := kb.mine.sl
    have lu := atF_len ts.length xs j
    have ho3 := ho.mono kb.ext
    simp (maxSteps := 10000000) (disch := first | assumption | (simp only [tyfacts, Am.wd, Nat.reduceEqDiff, Nat.reduceLT, reduceCtorEq]; try omega; done) | omega) only [Am.wanted, Am.isAlloc, Am.wb0, Am.wb1, Am.wb2, Am.wb3, Am.wb4, Am.wb5, Am.wb6, Am.wb7, Am.wb8, Am.wb9, Am.reads, Am.quiet, Am.over, Nat.testBit, Nat.reduceShiftRight, Nat.reduceAnd, Nat.reduceBNe, Nat.reduceLeDiff, Nat.reduceAdd, Nat.reduceMul, Nat.reduceLT, Nat.reduceEqDiff, Nat.reduceSub, reduceCtorEq, ↓reduceIte, tyfacts, h3, h4, h6, h32, h34, hn, c1, ho3.idx, ho3.load1, hsl.idxI, s1, cI]
    refine ih (j + 1) _ _ (by omega) ?_
    simp (maxSteps := 10000000) (disch := first | assumption | (simp only [tyfacts, Am.wd, Nat.reduceEqDiff, Nat.reduceLT, reduceCtorEq]; try omega; done) | omega) only [Am.wanted, Am.isAlloc, Am.wb0, Am.wb1, Am.wb2, Am.wb3, Am.wb4, Am.wb5, Am.wb6, Am.wb7, Am.wb8, Am.wb9, Am.reads, Am.quiet, Am.over, Nat.testBit, Nat.reduceShiftRight, Nat.reduceAnd, Nat.reduceBNe, Nat.reduceLeDiff, Nat.reduceAdd, Nat.reduceMul, Nat.reduceLT, Nat.reduceEqDiff, Nat.reduceSub, reduceCtorEq, ↓reduceIte, tyfacts, hn, hd, h0, h3, h4, h6, h32, h33]
    exact ⟨by simp, kb4, by omega⟩
  have : j = xs.length := by omega
  subst this
  simp (maxSteps := 10000000) (disch := first | assumption | (simp only [tyfacts, Am.wd, Nat.reduceEqDiff, Nat.reduceLT, reduceCtorEq]; try omega; done) | omega) only [Am.wanted, Am.isAlloc, Am.wb0, Am.wb1, Am.wb2, Am.wb3, Am.wb4, Am.wb5, Am.wb6, Am.wb7, Am.wb8, Am.wb9, Am.reads, Am.quiet, Am.over, Nat.testBit, Nat.reduceShiftRight, Nat.reduceAnd, Nat.reduceBNe, Nat.reduceLeDiff, Nat.reduceAdd, Nat.reduceMul, Nat.reduceLT, Nat.reduceEqDiff, Nat.reduceSub, reduceCtorEq, ↓reduceIte, tyfacts, h0, hn, hd]
  refine wpX_call (pairs_ok kb.ext.wf hl.cells) fun r H4 ⟨hr, hH4⟩ => ?_
  subst hr
  have hx4 : Ext H3 H4 := by rw [hH4]; exact (Ext.refl kb.ext.wf).push _
  have p4 : H4.get H3.n = some (.cells false [l]) := by rw [hH4]; exact get_push_same _ _
  have kb4 := kb.mono hx4
  simp (maxSteps := 10000000) (disch := first | assumption | (simp only [tyfacts, Am.wd, Nat.reduceEqDiff, Nat.reduceLT, reduceCtorEq]; try omega; done) | omega) only [Am.wanted, Am.isAlloc, Am.wb0, Am.wb1, Am.wb2, Am.wb3, Am.wb4, Am.wb5, Am.wb6, Am.wb7, Am.wb8, Am.wb9, Am.reads, Am.quiet, Am.over, Nat.testBit, Nat.reduceShiftRight, Nat.reduceAnd, Nat.reduceBNe, Nat.reduceLeDiff, Nat.reduceAdd, Nat.reduceMul, Nat.reduceLT, Nat.reduceEqDiff, Nat.reduceSub, reduceCtorEq, ↓reduceIte, tyfacts, hn, hd]
  refine Am.wpF_range (rfl) ?_
  generalize hC : Am.LC.mk 0 _ _ _ _ _ = C
  have hCt := (congrArg Am.LC.tmps hC).symm
  have hCp := (congrArg Am.LC.params hC).symm
  have hCa := (congrArg Am.LC.assign hC).symm
  have hCb := (congrArg Am.LC.body hC).symm
  simp only [] at hCt hCp hCa hCb
  clear hC
  have hx5 : Ext H4 ((H4.push (.deferred (some []))).push (loopO .ready none C)) := ((Ext.refl hx4.wf).push _).push _
  have n1 := kb4.ext.n
  have n2 := Heap.lt kb4.at_
  have n3 := Heap.lt p4
  have main := pairs1 (v := l) (p := H3.n) hg (by omega) (.func (.yield (H4.n + 1)) [] [])
    (fun i M H' => H'.get (H4.n + 1) = some (loopO .ready none C) ∧ H'.get H4.n = some (.deferred (some [])) ∧ H'.get H3.n = some (.cells false [l]) ∧ KB H H1.n o av (atF ts.length xs xs.length) H' ∧
      (∀ p, p ∈ (pairsF ts).take i → (decide (xs.idxOf (p.2 : Int) < xs.length) && decide (xs.idxOf (p.2 : Int) < xs.idxOf (p.1 : Int))) = false) ∧ M = fun l => l = H4.n + 1)
    (fun H' => H'.get (H4.n + 1) = some (loopO .done (some .ret) C) ∧ H'.get H4.n = some (.deferred (some [])) ∧ H'.get (H.n + 1) = some (.cells false [.int .i64 13]) ∧ Ext H H' ∧ late ts xs = true)
    ?_ ?_ ?_ ?_ ?_ (fun l => l = H4.n + 1) ((H4.push (.deferred (some []))).push (loopO .ready none C)) ?_
  · refine main.mono fun r H' h => ?_
    rcases h with ⟨M, q1, q2, q3, q4, q5, q6⟩ | ⟨q1, q2, q3, q4, q5⟩
    · have e1 := Heap.lt q1
      have e2 := Heap.lt q2
      have e3 := Heap.lt q4.res
      have q4r := q4.res
      refine ⟨.ready, none, C, q1, by simp, ?_⟩
      simp (maxSteps := 10000000) (disch := first | assumption | (simp only [tyfacts, Am.wd, Nat.reduceEqDiff, Nat.reduceLT, reduceCtorEq]; try omega; done) | omega) only [Am.wanted, Am.isAlloc, Am.wb0, Am.wb1, Am.wb2, Am.wb3, Am.wb4, Am.wb5, Am.wb6, Am.wb7, Am.wb8, Am.wb9, Am.reads, Am.quiet, Am.over, Nat.testBit, Nat.reduceShiftRight, Nat.reduceAnd, Nat.reduceBNe, Nat.reduceLeDiff, Nat.reduceAdd, Nat.reduceMul, Nat.reduceLT, Nat.reduceEqDiff, Nat.reduceSub, reduceCtorEq, ↓reduceIte, tyfacts, h4, hn, hd, q4r, q2]
      refine ⟨?_, ((q4.ext.put (by omega) e1 _).put (by omega) (by simpa using e3) _).put (by omega) (by simpa using e2) _⟩
      rw [keepsF_eq, if_neg hc, if_neg]
      rw [late_eq hc0 hin hnd, List.any_eq_true]
      rintro ⟨p, hp, hpp⟩
      rw [List.take_of_length_le (by simp)] at q5
      rw [q5 p hp] at hpp
      cases hpp
    · have e1 := Heap.lt q1
      have e2 := Heap.lt q2
      have e3 := Heap.lt q3
      refine ⟨.done, some .ret, C, q1, by simp, ?_⟩
      have q3' := cellsAt_of_get q3
      simp (maxSteps := 10000000) (disch := first | assumption | (simp only [tyfacts, Am.wd, Nat.reduceEqDiff, Nat.reduceLT, reduceCtorEq]; try omega; done) | omega) only [Am.wanted, Am.isAlloc, Am.wb0, Am.wb1, Am.wb2, Am.wb3, Am.wb4, Am.wb5, Am.wb6, Am.wb7, Am.wb8, Am.wb9, Am.reads, Am.quiet, Am.over, Nat.testBit, Nat.reduceShiftRight, Nat.reduceAnd, Nat.reduceBNe, Nat.reduceLeDiff, Nat.reduceAdd, Nat.reduceMul, Nat.reduceLT, Nat.reduceEqDiff, Nat.reduceSub, reduceCtorEq, ↓reduceIte, tyfacts, h4, hn, hd, q3, q3', q2]
      refine ⟨?_, (q4.put (by omega) e1 _).put (by omega) (by simpa using e2) _⟩
      rw [keepsF_eq, if_neg hc, if_pos q5]
  · exact fun i M H' ⟨_, _, q3, q4, _, _⟩ => ⟨q4.ext.wf, hl.mono q4.ext, q3⟩
  · rintro i M H' ⟨q1, q2, q3, q4, q5, rfl⟩ m rfl
    exact Heap.lt q1
  · intro i M K1 K2 ⟨q1, q2, q3, q4, q5, q6⟩ hx
    exact ⟨hx.get _ _ q1, hx.get _ _ q2, hx.get _ _ q3, q4.mono hx, q5, q6⟩
  · intro K1 K2 ⟨q1, q2, q3, q4, q5⟩ hx
    exact ⟨hx.get _ _ q1, hx.get _ _ q2, hx.get _ _ q3, q4.trans hx, q5⟩
  · rintro i hi M K1 ⟨q1, q2, q3, q4, q5, rfl⟩
    have hj : i < (pairsF ts).length := by simpa using hi
    obtain ⟨hp1, hp2, hpr⟩ := mem_pairsF.1 (List.getElem_mem hj)
    show RoundTo T _ _ _ _
    refine round_to q1 (by simp [hCp, cP]) ?_
    have e1 := Heap.lt q1
    have c1 := cellsAt_of_get q4.at_
    have c2 := cellsAt_of_get q4.ord
    have c3 := Heap.lt q4.at_
    simp (maxSteps := 10000000) (disch := first | assumption | (simp only [tyfacts, Am.wd, Nat.reduceEqDiff, Nat.reduceLT, reduceCtorEq]; try omega; done) | omega) only [Am.wanted, Am.isAlloc, Am.wb0, Am.wb1, Am.wb2, Am.wb3, Am.wb4, Am.wb5, Am.wb6, Am.wb7, Am.wb8, Am.wb9, Am.reads, Am.quiet, Am.over, Nat.testBit, Nat.reduceShiftRight, Nat.reduceAnd, Nat.reduceBNe, Nat.reduceLeDiff, Nat.reduceAdd, Nat.reduceMul, Nat.reduceLT, Nat.reduceEqDiff, Nat.reduceSub, reduceCtorEq, ↓reduceIte, tyfacts, q1, hn, hCa, hCb, hCt, hCp, cP, List.getElem_map]
    have b1 : ExtB (fun x => x = H4.n + 1) K1 (K1.put (H4.n + 1) (loopO .busy none C)) := (ExtB.refl (fun x => x = H4.n + 1) q4.ext.wf).put (.inl rfl) e1 _
    have r4 := q4.extB b1 hb oof (fun m hm e => by omega)
    refine Am.wpK_draw 18 [0, 1, 2, 3, 4, 5, 6, 7, 8, 9, 10, 11, 12, 13, 14, 15, 16, 17] (r4.ext).wf (by kernel_rfl) ?_
    have hy2 := (r4.ext).keep 18
    generalize hK2 : Am.Heap.keep _ _ = K2
    replace hy2 : Am.Ext _ K2 := hK2 ▸ hy2
    have z2 : Ext (K1.put (H4.n + 1) (loopO .busy none C)) K2 := by rw [← hK2]; exact (Ext.refl r4.ext.wf).keep 18
    have r5 := r4.mono z2
    have k1 : K2.get (H4.n + 1) = some (loopO .busy none C) := z2.get _ _ (get_put_same e1 _)
    have k2 : K2.get H4.n = some (.deferred (some [])) := z2.get _ _ (b1.get _ _ (by omega) q2)
    have k3 : K2.get H3.n = some (.cells false [l]) := z2.get _ _ (b1.get _ _ (by omega) q3)
    have c1 := cellsAt_of_get r5.at_
    have c2 := cellsAt_of_get r5.ord
    have c3 := Heap.lt r5.at_
    have f1 := Heap.lt k1
    have f3 := Heap.lt r5.res
    have hsl := r5.mine.sl
    have lu := atF_len ts.length xs xs.length
    have a1 := atF_all (xs := xs) hp1
    have a2 := atF_all (xs := xs) hp2
    have r5r := r5.res
    have key : ∀ b, (decide (xs.idxOf ((pairsF ts)[i].2 : Int) < xs.length) && decide (xs.idxOf ((pairsF ts)[i].2 : Int) < xs.idxOf ((pairsF ts)[i].1 : Int))) = b → b = true → late ts xs = true := by
      intro b h1 h2
      rw [late_eq hc0 hin hnd, List.any_eq_true]
      exact ⟨_, List.getElem_mem hj, h1.trans h2⟩
    have keyN : (decide (xs.idxOf ((pairsF ts)[i].2 : Int) < xs.length) && decide (xs.idxOf ((pairsF ts)[i].2 : Int) < xs.idxOf ((pairsF ts)[i].1 : Int))) = false →
        ∀ p, p ∈ (pairsF ts).take (i + 1) → (decide (xs.idxOf (p.2 : Int) < xs.length) && decide (xs.idxOf (p.2 : Int) < xs.idxOf (p.1 : Int))) = false := by
      intro h p hp
      rw [List.take_add_one, List.getElem?_eq_getElem hj, List.mem_append] at hp
      rcases hp with hp | hp
      · exact q5 p hp
      · have : p = (pairsF ts)[i] := by simpa using hp
        rw [this]; exact h
    by_cases hu : xs.idxOf ((pairsF ts)[i].2 : Int) < xs.length
    · have hu' : (xs.idxOf ((pairsF ts)[i].2 : Int) : Int) < (xs.length : Int) := by omega
      simp (maxSteps := 10000000) (disch := first | assumption | (simp only [tyfacts, Am.wd, Nat.reduceEqDiff, Nat.reduceLT, reduceCtorEq]; try omega; done) | omega) only [Am.wanted, Am.isAlloc, Am.wb0, Am.wb1, Am.wb2, Am.wb3, Am.wb4, Am.wb5, Am.wb6, Am.wb7, Am.wb8, Am.wb9, Am.reads, Am.quiet, Am.over, Nat.testBit, Nat.reduceShiftRight, Nat.reduceAnd, Nat.reduceBNe, Nat.reduceLeDiff, Nat.reduceAdd, Nat.reduceMul, Nat.reduceLT, Nat.reduceEqDiff, Nat.reduceSub, reduceCtorEq, ↓reduceIte, tyfacts, h3, h4, h6, hn, c1, c2, LO, hsl.idx, hsl.load1, a1, a2, cI, hu']
      refine wpB_dec (fun hv => ?_) (fun hv => ?_)
      · simp (maxSteps := 10000000) (disch := first | assumption | (simp only [tyfacts, Am.wd, Nat.reduceEqDiff, Nat.reduceLT, reduceCtorEq]; try omega; done) | omega) only [Am.wanted, Am.isAlloc, Am.wb0, Am.wb1, Am.wb2, Am.wb3, Am.wb4, Am.wb5, Am.wb6, Am.wb7, Am.wb8, Am.wb9, Am.reads, Am.quiet, Am.over, Nat.testBit, Nat.reduceShiftRight, Nat.reduceAnd, Nat.reduceBNe, Nat.reduceLeDiff, Nat.reduceAdd, Nat.reduceMul, Nat.reduceLT, Nat.reduceEqDiff, Nat.reduceSub, reduceCtorEq, ↓reduceIte, tyfacts, h4, hn, r5r, k1, k2]
        refine .inr ⟨(r5.ext.put (by omega) f3 _).put (by omega) (by simpa using f1) _, key _ rfl (by simp [hu]; omega)⟩
      · simp (maxSteps := 10000000) (disch := first | assumption | (simp only [tyfacts, Am.wd, Nat.reduceEqDiff, Nat.reduceLT, reduceCtorEq]; try omega; done) | omega) only [Am.wanted, Am.isAlloc, Am.wb0, Am.wb1, Am.wb2, Am.wb3, Am.wb4, Am.wb5, Am.wb6, Am.wb7, Am.wb8, Am.wb9, Am.reads, Am.quiet, Am.over, Nat.testBit, Nat.reduceShiftRight, Nat.reduceAnd, Nat.reduceBNe, Nat.reduceLeDiff, Nat.reduceAdd, Nat.reduceMul, Nat.reduceLT, Nat.reduceEqDiff, Nat.reduceSub, reduceCtorEq, ↓reduceIte, tyfacts, hn, k1, k2, k3]
        have b3 : ExtB (fun x => x = H4.n + 1) K1 (K2.put (H4.n + 1) (loopO .ready none C)) := (b1.trans (z2.but _)).put (.inl rfl) f1 _
        exact .inl ⟨_, ⟨q4.extB b3 hb oof (fun m hm e => by omega), keyN (by simp; omega), rfl⟩, b3, fun _ h => .inl h⟩
    · have hu' : ¬ (xs.idxOf ((pairsF ts)[i].2 : Int) : Int) < (xs.length : Int) := by omega
      simp (maxSteps := 10000000) (disch := first | assumption | (simp only [tyfacts, Am.wd, Nat.reduceEqDiff, Nat.reduceLT, reduceCtorEq]; try omega; done) | omega) only [Am.wanted, Am.isAlloc, Am.wb0, Am.wb1, Am.wb2, Am.wb3, Am.wb4, Am.wb5, Am.wb6, Am.wb7, Am.wb8, Am.wb9, Am.reads, Am.quiet, Am.over, Nat.testBit, Nat.reduceShiftRight, Nat.reduceAnd, Nat.reduceBNe, Nat.reduceLeDiff, Nat.reduceAdd, Nat.reduceMul, Nat.reduceLT, Nat.reduceEqDiff, Nat.reduceSub, reduceCtorEq, ↓reduceIte, tyfacts, h3, h4, h6, hn, c1, c2, LO, hsl.idx, hsl.load1, a1, a2, cI, hu', k1, k2, k3]
      have b3 : ExtB (fun x => x = H4.n + 1) K1 (K2.put (H4.n + 1) (loopO .ready none C)) := (b1.trans (z2.but _)).put (.inl rfl) f1 _
      exact .inl ⟨_, ⟨q4.extB b3 hb oof (fun m hm e => by omega), keyN (by simp [hu]), rfl⟩, b3, fun _ h => .inl h⟩
  · refine ⟨by simp [Heap.get_push], by simp [Heap.get_push], hx5.get _ _ p4, kb4.mono hx5, by simp, rfl⟩
end Go.Proofs.Ytkjknmdnehknbaa.W

/- Who may be next? No conditions. -/
namespace Go.Proofs.Ytkjknmdnehknbaa.W
open Go.Am Go.Am.Ord

/-- Of the first i, those that may be next. -/
def nxt (ts : List Tr5) (xs : List Int) (i : Nat) : List Int :=
  ((List.range i).filter (fun i : Nat => !decide ((i : Int) ∈ xs) && decide (keepsF ts (xs ++ [(i : Int)]) = 0))).map (fun i : Nat => (i : Int))
theorem nxt_succ (ts : List Tr5) (xs : List Int) (i : Nat) : nxt ts xs (i + 1) = nxt ts xs i ++ if (!decide ((i : Int) ∈ xs) && decide (keepsF ts (xs ++ [(i : Int)]) = 0)) = true then [(i : Int)] else [] := by
  simp only [nxt, List.range_succ, List.filter_append, List.map_append]
  congr 1
  by_cases h : (!decide ((i : Int) ∈ xs) && decide (keepsF ts (xs ++ [(i : Int)]) = 0)) = true
  · rw [if_pos h]; simp only [List.filter_cons, if_pos h, List.filter_nil, List.map_cons, List.map_nil]
  · rw [if_neg h]; simp only [List.filter_cons, if_neg h, List.filter_nil, List.map_nil]
theorem nxt_len (ts : List Tr5) (xs : List Int) (i : Nat) : (nxt ts xs i).length ≤ i := by
  simp only [nxt, List.length_map]
  exact Nat.le_trans (List.length_filter_le _ _) (by simp)

theorem next_ok {H : Heap} (wf : H.WF) {l o : V} {ts : List Tr5} {xs : List Int} (hl : Sl H l 5 (ts.map Tr5.cells)) (hg : ∀ t, t ∈ ts → t.Good) (ho : Sl H o 1 (xs.map cI)) (hlen : ts.length < 100000) (hxs : xs.length < 100000) :
    CallsTo T 15 [l, o] H fun r H' => ∃ v, r = .tuple [v, .int .i64 (nextF ts xs).2] ∧ Mine H.n H' v 1 ((nextF ts xs).1.map cI) ∧ Ext H H' := by
  refine Am.calls_enter (T := T) rfl Try.func15 rfl (by simp only [Try.f15, List.length_cons, List.length_nil]; decide) ?_
  simp only [Try.f15]
  simp (maxSteps := 10000000) (disch := first | assumption | (simp only [tyfacts, Am.wd, Nat.reduceEqDiff, Nat.reduceLT, reduceCtorEq]; try omega; done) | omega) only [Am.wanted, Am.isAlloc, Am.wb0, Am.wb1, Am.wb2, Am.wb3, Am.wb4, Am.wb5, Am.wb6, Am.wb7, Am.wb8, Am.wb9, Am.reads, Am.quiet, Am.over, Nat.testBit, Nat.reduceShiftRight, Nat.reduceAnd, Nat.reduceBNe, Nat.reduceLeDiff, Nat.reduceAdd, Nat.reduceMul, Nat.reduceLT, Nat.reduceEqDiff, Nat.reduceSub, reduceCtorEq, ↓reduceIte, tyfacts]
  refine wpX_call (keeps_ok wf hl hg ho (by omega) (by omega)) fun r H1 ⟨hr, hx⟩ => ?_
  subst hr
  simp (maxSteps := 10000000) (disch := first | assumption | (simp only [tyfacts, Am.wd, Nat.reduceEqDiff, Nat.reduceLT, reduceCtorEq]; try omega; done) | omega) only [Am.wanted, Am.isAlloc, Am.wb0, Am.wb1, Am.wb2, Am.wb3, Am.wb4, Am.wb5, Am.wb6, Am.wb7, Am.wb8, Am.wb9, Am.reads, Am.quiet, Am.over, Nat.testBit, Nat.reduceShiftRight, Nat.reduceAnd, Nat.reduceBNe, Nat.reduceLeDiff, Nat.reduceAdd, Nat.reduceMul, Nat.reduceLT, Nat.reduceEqDiff, Nat.reduceSub, reduceCtorEq, ↓reduceIte, tyfacts]
  refine wpB_dec (fun hc => ?_) (fun hc => ?_)
  · simp (maxSteps := 10000000) (disch := first | assumption | (simp only [tyfacts, Am.wd, Nat.reduceEqDiff, Nat.reduceLT, reduceCtorEq]; try omega; done) | omega) only [Am.wanted, Am.isAlloc, Am.wb0, Am.wb1, Am.wb2, Am.wb3, Am.wb4, Am.wb5, Am.wb6, Am.wb7, Am.wb8, Am.wb9, Am.reads, Am.quiet, Am.over, Nat.testBit, Nat.reduceShiftRight, Nat.reduceAnd, Nat.reduceBNe, Nat.reduceLeDiff, Nat.reduceAdd, Nat.reduceMul, Nat.reduceLT, Nat.reduceEqDiff, Nat.reduceSub, reduceCtorEq, ↓reduceIte, tyfacts]
    refine ⟨.nilSlice, by rw [nextF, if_pos hc], ?_, hx⟩
    rw [nextF, if_pos hc]; exact Mine.nil _ _ _
  have hc0 : keepsF ts xs = 0 := by omega
  have L := hl.len
  simp (maxSteps := 10000000) (disch := first | assumption | (simp only [tyfacts, Am.wd, Nat.reduceEqDiff, Nat.reduceLT, reduceCtorEq]; try omega; done) | omega) only [Am.wanted, Am.isAlloc, Am.wb0, Am.wb1, Am.wb2, Am.wb3, Am.wb4, Am.wb5, Am.wb6, Am.wb7, Am.wb8, Am.wb9, Am.reads, Am.quiet, Am.over, Nat.testBit, Nat.reduceShiftRight, Nat.reduceAnd, Nat.reduceBNe, Nat.reduceLeDiff, Nat.reduceAdd, Nat.reduceMul, Nat.reduceLT, Nat.reduceEqDiff, Nat.reduceSub, reduceCtorEq, ↓reduceIte, tyfacts, L]
  refine wpK_loop_ind _ (fun i : Nat => ts.length - i) (fun i a H' => a.tmps.n = 38 ∧ a.defers = [] ∧ a.tmp 0 = l ∧ a.tmp 1 = o ∧ a.tmp 14 = .int .i64 ts.length ∧ a.tmp 15 = .int .i64 i ∧
    Mine H.n H' (a.tmp 4) 1 ((nxt ts xs i).map cI) ∧ Ext H H' ∧ i ≤ ts.length) 0 ?_ ?_
  · simp (maxSteps := 10000000) (disch := first | assumption | (simp only [tyfacts, Am.wd, Nat.reduceEqDiff, Nat.reduceLT, reduceCtorEq]; try omega; done) | omega) only [Am.wanted, Am.isAlloc, Am.wb0, Am.wb1, Am.wb2, Am.wb3, Am.wb4, Am.wb5, Am.wb6, Am.wb7, Am.wb8, Am.wb9, Am.reads, Am.quiet, Am.over, Nat.testBit, Nat.reduceShiftRight, Nat.reduceAnd, Nat.reduceBNe, Nat.reduceLeDiff, Nat.reduceAdd, Nat.reduceMul, Nat.reduceLT, Nat.reduceEqDiff, Nat.reduceSub, reduceCtorEq, ↓reduceIte, tyfacts]
    exact ⟨rfl, Mine.nil _ _ _, hx, by omega⟩
  clear hx
  intro i a H2 ⟨hn, hd, h0, h1, h14, h15, hm, hx, hi⟩ ih
  generalize h4 : a.tmp 4 = v at hm
  simp (maxSteps := 10000000) (disch := first | assumption | (simp only [tyfacts, Am.wd, Nat.reduceEqDiff, Nat.reduceLT, reduceCtorEq]; try omega; done) | omega) only [Am.wanted, Am.isAlloc, Am.wb0, Am.wb1, Am.wb2, Am.wb3, Am.wb4, Am.wb5, Am.wb6, Am.wb7, Am.wb8, Am.wb9, Am.reads, Am.quiet, Am.over, Nat.testBit, Nat.reduceShiftRight, Nat.reduceAnd, Nat.reduceBNe, Nat.reduceLeDiff, Nat.reduceAdd, Nat.reduceMul, Nat.reduceLT, Nat.reduceEqDiff, Nat.reduceSub, reduceCtorEq, ↓reduceIte, tyfacts, h14, h15, hn]
  have hnl := nxt_len ts xs i
  refine wpB_dec (fun hq => ?_) (fun hq => ?_)
  · have hj : i < ts.length := by omega
    simp (maxSteps := 10000000) (disch := first | assumption | (simp only [tyfacts, Am.wd, Nat.reduceEqDiff, Nat.reduceLT, reduceCtorEq]; try omega; done) | omega) only [Am.wanted, Am.isAlloc, Am.wb0, Am.wb1, Am.wb2, Am.wb3, Am.wb4, Am.wb5, Am.wb6, Am.wb7, Am.wb8, Am.wb9, Am.reads, Am.quiet, Am.over, Nat.testBit, Nat.reduceShiftRight, Nat.reduceAnd, Nat.reduceBNe, Nat.reduceLeDiff, Nat.reduceAdd, Nat.reduceMul, Nat.reduceLT, Nat.reduceEqDiff, Nat.reduceSub, reduceCtorEq, ↓reduceIte, tyfacts, h0, h1, h15, hn]
    refine wpX_call (contains_int hx.wf (ho.mono hx) i (by omega)) fun r H3 ⟨hr, hx3⟩ => ?_
    subst hr
    have hm3 := hm.mono hx3
    have hx3 := hx.trans hx3
    by_cases hmem : (i : Int) ∈ xs
    · simp (maxSteps := 10000000) (disch := first | assumption | (simp only [tyfacts, Am.wd, Nat.reduceEqDiff, Nat.reduceLT, reduceCtorEq]; try omega; done) | omega) only [Am.wanted, Am.isAlloc, Am.wb0, Am.wb1, Am.wb2, Am.wb3, Am.wb4, Am.wb5, Am.wb6, Am.wb7, Am.wb8, Am.wb9, Am.reads, Am.quiet, Am.over, Nat.testBit, Nat.reduceShiftRight, Nat.reduceAnd, Nat.reduceBNe, Nat.reduceLeDiff, Nat.reduceAdd, Nat.reduceMul, Nat.reduceLT, Nat.reduceEqDiff, Nat.reduceSub, reduceCtorEq, ↓reduceIte, tyfacts, hn, hmem, h0, h1, h15]
      refine ih (i + 1) _ _ (by omega) ?_
      simp (maxSteps := 10000000) (disch := first | assumption | (simp only [tyfacts, Am.wd, Nat.reduceEqDiff, Nat.reduceLT, reduceCtorEq]; try omega; done) | omega) only [Am.wanted, Am.isAlloc, Am.wb0, Am.wb1, Am.wb2, Am.wb3, Am.wb4, Am.wb5, Am.wb6, Am.wb7, Am.wb8, Am.wb9, Am.reads, Am.quiet, Am.over, Nat.testBit, Nat.reduceShiftRight, Nat.reduceAnd, Nat.reduceBNe, Nat.reduceLeDiff, Nat.reduceAdd, Nat.reduceMul, Nat.reduceLT, Nat.reduceEqDiff, Nat.reduceSub, reduceCtorEq, ↓reduceIte, tyfacts, hn, hd, h0, h1, h4, h14]
      refine ⟨by simp, ?_, hx3, by omega⟩
      rw [nxt_succ, if_neg (by simp [hmem]), List.append_nil]; exact hm3
    · simp (maxSteps := 10000000) (disch := first | assumption | (simp only [tyfacts, Am.wd, Nat.reduceEqDiff, Nat.reduceLT, reduceCtorEq]; try omega; done) | omega) only [Am.wanted, Am.isAlloc, Am.wb0, Am.wb1, Am.wb2, Am.wb3, Am.wb4, Am.wb5, Am.wb6, Am.wb7, Am.wb8, Am.wb9, Am.reads, Am.quiet, Am.over, Nat.testBit, Nat.reduceShiftRight, Nat.reduceAnd, Nat.reduceBNe, Nat.reduceLeDiff, Nat.reduceAdd, Nat.reduceMul, Nat.reduceLT, Nat.reduceEqDiff, Nat.reduceSub, reduceCtorEq, ↓reduceIte, tyfacts, hn, hmem, h0, h1, h15]
      refine wpX_call (clone_int hx3.wf (ho.mono hx3) (by omega)) fun r H4 ⟨c1, hx4'⟩ => ?_
      have hm4 := hm3.mono hx4'
      have hx4 := hx3.trans hx4'
      have ha : appOk T 22 22 = some (1, 8) := by simp only [tyfacts]
      have hap := append_one c1 hx4.wf hx4'.n (k := H4.n) rfl ha (f := cI (i : Int)) rfl rfl (by simp; omega) (by simp; omega)
      obtain ⟨u, H5, p1, p2, p3, p4⟩ := hap
      have hx5 : Ext H3 H5 := hx4'.thenB p3 fun m hm => c1.ge hm
      have hm5 := hm3.mono hx5
      have hx5 := hx3.trans hx5
      have p2' : Sl H5 u 1 ((xs ++ [(i : Int)]).map cI) := by simpa using p2.sl
      simp only [cI] at p1
      simp (maxSteps := 10000000) (disch := first | assumption | (simp only [tyfacts, Am.wd, Nat.reduceEqDiff, Nat.reduceLT, reduceCtorEq]; try omega; done) | omega) only [Am.wanted, Am.isAlloc, Am.wb0, Am.wb1, Am.wb2, Am.wb3, Am.wb4, Am.wb5, Am.wb6, Am.wb7, Am.wb8, Am.wb9, Am.reads, Am.quiet, Am.over, Nat.testBit, Nat.reduceShiftRight, Nat.reduceAnd, Nat.reduceBNe, Nat.reduceLeDiff, Nat.reduceAdd, Nat.reduceMul, Nat.reduceLT, Nat.reduceEqDiff, Nat.reduceSub, reduceCtorEq, ↓reduceIte, tyfacts, hn, h15, p1]
      refine wpX_call (keeps_ok hx5.wf (hl.mono hx5) hg p2' (by omega) (by simp; omega)) fun r H6 ⟨hr, hx6⟩ => ?_
      subst hr
      have hm6 := hm5.mono hx6
      have hx6 := hx5.trans hx6
      simp (maxSteps := 10000000) (disch := first | assumption | (simp only [tyfacts, Am.wd, Nat.reduceEqDiff, Nat.reduceLT, reduceCtorEq]; try omega; done) | omega) only [Am.wanted, Am.isAlloc, Am.wb0, Am.wb1, Am.wb2, Am.wb3, Am.wb4, Am.wb5, Am.wb6, Am.wb7, Am.wb8, Am.wb9, Am.reads, Am.quiet, Am.over, Nat.testBit, Nat.reduceShiftRight, Nat.reduceAnd, Nat.reduceBNe, Nat.reduceLeDiff, Nat.reduceAdd, Nat.reduceMul, Nat.reduceLT, Nat.reduceEqDiff, Nat.reduceSub, reduceCtorEq, ↓reduceIte, tyfacts, hn]
      refine wpB_dec (fun hk => ?_) (fun hk => ?_)
      · have hap := append_one hm6 hx6.wf hx6.n (k := H6.n) rfl ha (f := cI (i : Int)) rfl rfl (by simp; omega) (by simp; omega)
        obtain ⟨v', H7, q1, q2, q3, q4⟩ := hap
        simp only [cI] at q1
        simp (maxSteps := 10000000) (disch := first | assumption | (simp only [tyfacts, Am.wd, Nat.reduceEqDiff, Nat.reduceLT, reduceCtorEq]; try omega; done) | omega) only [Am.wanted, Am.isAlloc, Am.wb0, Am.wb1, Am.wb2, Am.wb3, Am.wb4, Am.wb5, Am.wb6, Am.wb7, Am.wb8, Am.wb9, Am.reads, Am.quiet, Am.over, Nat.testBit, Nat.reduceShiftRight, Nat.reduceAnd, Nat.reduceBNe, Nat.reduceLeDiff, Nat.reduceAdd, Nat.reduceMul, Nat.reduceLT, Nat.reduceEqDiff, Nat.reduceSub, reduceCtorEq, ↓reduceIte, tyfacts, hn, h4, h15, q1]
        refine ih (i + 1) _ _ (by omega) ?_
        simp (maxSteps := 10000000) (disch := first | assumption | (simp only [tyfacts, Am.wd, Nat.reduceEqDiff, Nat.reduceLT, reduceCtorEq]; try omega; done) | omega) only [Am.wanted, Am.isAlloc, Am.wb0, Am.wb1, Am.wb2, Am.wb3, Am.wb4, Am.wb5, Am.wb6, Am.wb7, Am.wb8, Am.wb9, Am.reads, Am.quiet, Am.over, Nat.testBit, Nat.reduceShiftRight, Nat.reduceAnd, Nat.reduceBNe, Nat.reduceLeDiff, Nat.reduceAdd, Nat.reduceMul, Nat.reduceLT, Nat.reduceEqDiff, Nat.reduceSub, reduceCtorEq, ↓reduceIte, tyfacts, hn, hd, h0, h1, h14]
        refine ⟨by simp, ?_, hx6.thenB q3 fun m hm => hm6.ge hm, by omega⟩
        rw [nxt_succ, if_pos (by simp [hmem, hk]), List.map_append]; exact q2
      · simp (maxSteps := 10000000) (disch := first | assumption | (simp only [tyfacts, Am.wd, Nat.reduceEqDiff, Nat.reduceLT, reduceCtorEq]; try omega; done) | omega) only [Am.wanted, Am.isAlloc, Am.wb0, Am.wb1, Am.wb2, Am.wb3, Am.wb4, Am.wb5, Am.wb6, Am.wb7, Am.wb8, Am.wb9, Am.reads, Am.quiet, Am.over, Nat.testBit, Nat.reduceShiftRight, Nat.reduceAnd, Nat.reduceBNe, Nat.reduceLeDiff, Nat.reduceAdd, Nat.reduceMul, Nat.reduceLT, Nat.reduceEqDiff, Nat.reduceSub, reduceCtorEq, ↓reduceIte, tyfacts, hn, h15]
        refine ih (i + 1) _ _ (by omega) ?_
        simp (maxSteps := 10000000) (disch := first | assumption | (simp only [tyfacts, Am.wd, Nat.reduceEqDiff, Nat.reduceLT, reduceCtorEq]; try omega; done) | omega) only [Am.wanted, Am.isAlloc, Am.wb0, Am.wb1, Am.wb2, Am.wb3, Am.wb4, Am.wb5, Am.wb6, Am.wb7, Am.wb8, Am.wb9, Am.reads, Am.quiet, Am.over, Nat.testBit, Nat.reduceShiftRight, Nat.reduceAnd, Nat.reduceBNe, Nat.reduceLeDiff, Nat.reduceAdd, Nat.reduceMul, Nat.reduceLT, Nat.reduceEqDiff, Nat.reduceSub, reduceCtorEq, ↓reduceIte, tyfacts, hn, hd, h0, h1, h4, h14]
        refine ⟨by simp, ?_, hx6, by omega⟩
        rw [nxt_succ, if_neg (by simp [hmem, hk]), List.append_nil]; exact hm6
  · have : i = ts.length := by omega
    subst this
    simp (maxSteps := 10000000) (disch := first | assumption | (simp only [tyfacts, Am.wd, Nat.reduceEqDiff, Nat.reduceLT, reduceCtorEq]; try omega; done) | omega) only [Am.wanted, Am.isAlloc, Am.wb0, Am.wb1, Am.wb2, Am.wb3, Am.wb4, Am.wb5, Am.wb6, Am.wb7, Am.wb8, Am.wb9, Am.reads, Am.quiet, Am.over, Nat.testBit, Nat.reduceShiftRight, Nat.reduceAnd, Nat.reduceBNe, Nat.reduceLeDiff, Nat.reduceAdd, Nat.reduceMul, Nat.reduceLT, Nat.reduceEqDiff, Nat.reduceSub, reduceCtorEq, ↓reduceIte, tyfacts, hn, hd, h4]
    refine ⟨v, by rw [nextF, if_neg hc], ?_, hx⟩
    rw [nextF, if_neg hc]; exact hm
end Go.Proofs.Ytkjknmdnehknbaa.W

/- The heap of numbers, through the library's own functions. No conditions. -/
namespace Go.Proofs.Ytkjknmdnehknbaa.W
open Go.Am Go.Am.Hp

/-- A heap's numbers, behind a pointer. -/
structure HP (H : Heap) (b p : Nat) (v : V) (ns : List Int) : Prop where
  wf : H.WF
  ptr : H.get p = some (.cells false [v])
  mine : Mine b H v 1 (ns.map cI)
  pn : ¬ Of v p
  len : ns.length < 100000000
  lb : b ≤ H.n
theorem HP.mono {H H' : Heap} {b p : Nat} {v : V} {ns : List Int} (h : HP H b p v ns) (hx : Ext H H') : HP H' b p v ns := ⟨hx.wf, hx.get _ _ h.ptr, h.mine.mono hx, h.pn, h.len, Nat.le_trans h.lb hx.n⟩

theorem HP.extB {H H' : Heap} {b p : Nat} {v : V} {ns : List Int} {P : Nat → Prop} (h : HP H b p v ns) (hx : ExtB P H H') (hp : ¬ P p) (hv : ∀ l, Of v l → ¬ P l) : HP H' b p v ns :=
  ⟨hx.wf, hx.get _ _ hp h.ptr, h.mine.ext hx hv, h.pn, h.len, Nat.le_trans h.lb hx.n⟩
theorem hlen_ok {H : Heap} (wf : H.WF) {v : V} {ns : List Int} (hl : Sl H v 1 (ns.map cI)) : CallsTo T 37 [v] H fun r H' => r = .int .i64 ns.length ∧ H' = H := by
  refine Am.calls_enter (T := T) rfl Try.func37 rfl (by simp only [Try.f37, List.length_cons, List.length_nil]; decide) ?_
  simp only [Try.f37]
  have L := hl.len
  simp (maxSteps := 10000000) (disch := first | assumption | (simp only [tyfacts, Am.wd, Nat.reduceEqDiff, Nat.reduceLT, reduceCtorEq]; try omega; done) | omega) only [Am.wanted, Am.isAlloc, Am.wb0, Am.wb1, Am.wb2, Am.wb3, Am.wb4, Am.wb5, Am.wb6, Am.wb7, Am.wb8, Am.wb9, Am.reads, Am.quiet, Am.over, Nat.testBit, Nat.reduceShiftRight, Nat.reduceAnd, Nat.reduceBNe, Nat.reduceLeDiff, Nat.reduceAdd, Nat.reduceMul, Nat.reduceLT, Nat.reduceEqDiff, Nat.reduceSub, reduceCtorEq, ↓reduceIte, tyfacts, L]

theorem hless {H : Heap} (wf : H.WF) {v : V} {ns : List Int} (hl : Sl H v 1 (ns.map cI)) {i j : Nat} (hi : i < ns.length) (hj : j < ns.length) :
    CallsTo T 94 [v, .int .i64 i, .int .i64 j] H fun r H' => r = .bool (decide (at_ ns i < at_ ns j)) ∧ Ext H H' := by
  refine Am.calls_enter (T := T) rfl Try.func94 rfl (by simp only [Try.f94, List.length_cons, List.length_nil]; decide) ?_
  simp only [Try.f94]
  simp (maxSteps := 10000000) (disch := first | assumption | (simp only [tyfacts, Am.wd, Nat.reduceEqDiff, Nat.reduceLT, reduceCtorEq]; try omega; done) | omega) only [Am.wanted, Am.isAlloc, Am.wb0, Am.wb1, Am.wb2, Am.wb3, Am.wb4, Am.wb5, Am.wb6, Am.wb7, Am.wb8, Am.wb9, Am.reads, Am.quiet, Am.over, Nat.testBit, Nat.reduceShiftRight, Nat.reduceAnd, Nat.reduceBNe, Nat.reduceLeDiff, Nat.reduceAdd, Nat.reduceMul, Nat.reduceLT, Nat.reduceEqDiff, Nat.reduceSub, reduceCtorEq, ↓reduceIte, tyfacts]
  refine Am.wpK_draw 10 [0, 1, 2, 3, 4, 5, 6, 7, 8, 9] (Ext.refl wf).wf (by kernel_rfl) ?_
  have hx2 := (Ext.refl wf).keep 10
  generalize hH2 : Am.Heap.keep _ _ = H2
  replace hx2 : Am.Ext _ H2 := hH2 ▸ hx2
  have hl2 := hl.mono hx2
  simp (maxSteps := 10000000) (disch := first | assumption | (simp only [tyfacts, Am.wd, Nat.reduceEqDiff, Nat.reduceLT, reduceCtorEq]; try omega; done) | omega) only [Am.wanted, Am.isAlloc, Am.wb0, Am.wb1, Am.wb2, Am.wb3, Am.wb4, Am.wb5, Am.wb6, Am.wb7, Am.wb8, Am.wb9, Am.reads, Am.quiet, Am.over, Nat.testBit, Nat.reduceShiftRight, Nat.reduceAnd, Nat.reduceBNe, Nat.reduceLeDiff, Nat.reduceAdd, Nat.reduceMul, Nat.reduceLT, Nat.reduceEqDiff, Nat.reduceSub, reduceCtorEq, ↓reduceIte, tyfacts, hl2.idx, hl2.load1, cI]
  refine ⟨?_, hx2⟩
  rw [at_get hi, at_get hj]

theorem hswap {H : Heap} {b p : Nat} {v : V} {ns : List Int} (h : HP H b p v ns) {i j : Nat} (hi : i < ns.length) (hj : j < ns.length) :
    CallsTo T 97 [v, .int .i64 i, .int .i64 j] H fun r H' => HP H' b p v (swap ns i j) ∧ ExtB (Of v) H H' := by
  refine Am.calls_enter (T := T) rfl Try.func97 rfl (by simp only [Try.f97, List.length_cons, List.length_nil]; decide) ?_
  simp only [Try.f97]
  refine Am.wpK_draw 16 [0,1,4,5,6,7,8,9,10,11,12,13,2,3,14,15] (Ext.refl h.wf).wf (by kernel_rfl) ?_
  have hx2 := (Ext.refl h.wf).keep 16
  generalize hH2 : Am.Heap.keep _ _ = H2
  replace hx2 : Am.Ext _ H2 := hH2 ▸ hx2
  have h2 := h.mono hx2
  have hl2 := h2.mine.sl
  have s1 := h2.mine.store1 h2.wf (T := T) (t := 3) (by simp only [tyfacts]) (j := i) (by simpa using hi) (x := .int .i64 ns[j]) rfl
  obtain ⟨H3, e1, m3, x3, n3⟩ := s1
  have s2 := m3.store1 x3.wf (T := T) (t := 3) (by simp only [tyfacts]) (j := j) (by simpa using hj) (x := .int .i64 ns[i]) rfl
  obtain ⟨H4, e2, m4, x4, n4⟩ := s2
  simp (maxSteps := 10000000) (disch := first | assumption | (simp only [tyfacts, Am.wd, Nat.reduceEqDiff, Nat.reduceLT, reduceCtorEq]; try omega; done) | omega) only [Am.wanted, Am.isAlloc, Am.wb0, Am.wb1, Am.wb2, Am.wb3, Am.wb4, Am.wb5, Am.wb6, Am.wb7, Am.wb8, Am.wb9, Am.reads, Am.quiet, Am.over, Nat.testBit, Nat.reduceShiftRight, Nat.reduceAnd, Nat.reduceBNe, Nat.reduceLeDiff, Nat.reduceAdd, Nat.reduceMul, Nat.reduceLT, Nat.reduceEqDiff, Nat.reduceSub, reduceCtorEq, ↓reduceIte, tyfacts, hl2.idx, hl2.load1, cI, e1, e2]
  have hx4 : ExtB (Of v) H H4 := ((hx2.but _).trans x3).trans x4
  have pn := h.pn
  refine ⟨⟨x4.wf, hx4.get _ _ pn h.ptr, ?_, pn, by rw [swap_len]; exact h.len, Nat.le_trans h.lb hx4.n⟩, hx4⟩
  have : ((ns.map cI).set i [V.int .i64 ns[j]]).set j [V.int .i64 ns[i]] = (swap ns i j).map cI := by
    rw [swap, at_get hi, at_get hj, List.map_set, List.map_set]; rfl
  rw [← this]; exact m4

theorem hpush {H : Heap} {b p : Nat} {v : V} {ns : List Int} (h : HP H b p v ns) (x : Int) (hl : ns.length < 1000000) :
    CallsTo T 96 [.ptr p 0, .iface 3 (.int .i64 x)] H fun r H' => ∃ v', HP H' b p v' (ns ++ [x]) ∧ ExtB (fun l => l = p ∨ Of v l) H H' ∧ ∀ l, Of v' l → Of v l ∨ H.n ≤ l := by
  refine Am.calls_enter (T := T) rfl Try.func96 rfl (by simp only [Try.f96, List.length_cons, List.length_nil]; decide) ?_
  simp only [Try.f96]
  refine Am.wpK_draw 10 [1,2,3,4,5,6,7,0,8,9] (Ext.refl h.wf).wf (by kernel_rfl) ?_
  have hx2 := (Ext.refl h.wf).keep 10
  generalize hH2 : Am.Heap.keep _ _ = H2
  replace hx2 : Am.Ext _ H2 := hH2 ▸ hx2
  have c1 := cellsAt_of_get (hx2.get _ _ h.ptr)
  have e2 : H.n + 10 = H2.n := by rw [← hH2]; rfl
  have hx3 : Ext H (H2.put (H.n + 6) (.cells false [.int .i64 x])) := hx2.put (by omega) (by omega) _
  have hy := sl_one (c := some 1) (fun m hm => by cases hm; exact Nat.le_refl _) (get_put_same (H := H2) (l := H.n + 6) (by omega) (.cells false [.int .i64 x])) (s := 1) rfl
  have ha : appOk T 60 60 = some (1, 8) := by simp only [tyfacts]
  have hap := append_own (h.mine.mono hx3) hx3.wf (Nat.le_trans h.lb hx3.n) ha hy (by simp [V.one]) (by simp; omega) (by simp; omega)
  obtain ⟨v', H4, p1, p2, p3, p4⟩ := hap
  have pn := h.pn
  have k1 : H4.get p = some (.cells false [v]) := p3.get _ _ pn (hx3.get _ _ h.ptr)
  have o1 := p2.sl.one
  have f1 := Heap.lt k1
  simp (maxSteps := 10000000) (disch := first | assumption | (simp only [tyfacts, Am.wd, Nat.reduceEqDiff, Nat.reduceLT, reduceCtorEq]; try omega; done) | omega) only [Am.wanted, Am.isAlloc, Am.wb0, Am.wb1, Am.wb2, Am.wb3, Am.wb4, Am.wb5, Am.wb6, Am.wb7, Am.wb8, Am.wb9, Am.reads, Am.quiet, Am.over, Nat.testBit, Nat.reduceShiftRight, Nat.reduceAnd, Nat.reduceBNe, Nat.reduceLeDiff, Nat.reduceAdd, Nat.reduceMul, Nat.reduceLT, Nat.reduceEqDiff, Nat.reduceSub, reduceCtorEq, ↓reduceIte, tyfacts, c1, p1, p2.sl.cells, o1, k1]
  have pn' : ¬ Of v' p := fun e => by
    rcases p4 _ e with e | e
    · exact pn e
    · have := Heap.lt h.ptr; have := hx3.n; omega
  refine ⟨v', ⟨p3.wf.put f1 _, get_put_same f1 _, ?_, pn', by simp; omega, Nat.le_trans h.lb (Nat.le_trans hx3.n p3.n)⟩, ?_, fun l hl => (p4 l hl).imp id fun h => Nat.le_trans hx3.n h⟩
  · have h5 := p2.ext (P := fun l => l = p) ((ExtB.refl (fun l => l = p) p3.wf).put (.inl rfl) f1 (.cells false [v'])) fun l hl e => pn' (e ▸ hl)
    simpa [cI] using h5
  · exact ((hx3.but _).trans (p3.weaken fun l h => .inr h)).put (.inl (.inl rfl)) f1 _

theorem hpop {H : Heap} {b p : Nat} {v : V} {ns : List Int} {m : Nat} (h : HP H b p v ns) (hl : ns.length = m + 1) :
    CallsTo T 95 [.ptr p 0] H fun r H' => ∃ v', r = .iface 3 (.int .i64 (at_ ns m)) ∧ HP H' b p v' (ns.take m) ∧ ExtB (fun l => l = p ∨ Of v l) H H' ∧ ∀ l, Of v' l → Of v l ∨ H.n ≤ l := by
  refine Am.calls_enter (T := T) rfl Try.func95 rfl (by simp only [Try.f95, List.length_cons, List.length_nil]; decide) ?_
  simp only [Try.f95]
  have c0 := cellsAt_of_get h.ptr
  have L := h.mine.len
  have L' : (ns.length : Int) - 1 = (m : Int) := by omega
  have hlen := h.len
  simp (maxSteps := 10000000) (disch := first | assumption | (simp only [tyfacts, Am.wd, Nat.reduceEqDiff, Nat.reduceLT, reduceCtorEq]; try omega; done) | omega) only [Am.wanted, Am.isAlloc, Am.wb0, Am.wb1, Am.wb2, Am.wb3, Am.wb4, Am.wb5, Am.wb6, Am.wb7, Am.wb8, Am.wb9, Am.reads, Am.quiet, Am.over, Nat.testBit, Nat.reduceShiftRight, Nat.reduceAnd, Nat.reduceBNe, Nat.reduceLeDiff, Nat.reduceAdd, Nat.reduceMul, Nat.reduceLT, Nat.reduceEqDiff, Nat.reduceSub, reduceCtorEq, ↓reduceIte, tyfacts]
  refine Am.wpK_draw 11 [0, 1, 2, 3, 4, 5, 6, 7, 8, 9, 10] (Ext.refl h.wf).wf (by kernel_rfl) ?_
  have hx2 := (Ext.refl h.wf).keep 11
  generalize hH2 : Am.Heap.keep _ _ = H2
  replace hx2 : Am.Ext _ H2 := hH2 ▸ hx2
  have h2 := h.mono hx2
  have c2 := cellsAt_of_get h2.ptr
  have hl2 := h2.mine.sl
  have hm : m < ns.length := by omega
  simp (maxSteps := 10000000) (disch := first | assumption | (simp only [tyfacts, Am.wd, Nat.reduceEqDiff, Nat.reduceLT, reduceCtorEq]; try omega; done) | omega) only [Am.wanted, Am.isAlloc, Am.wb0, Am.wb1, Am.wb2, Am.wb3, Am.wb4, Am.wb5, Am.wb6, Am.wb7, Am.wb8, Am.wb9, Am.reads, Am.quiet, Am.over, Nat.testBit, Nat.reduceShiftRight, Nat.reduceAnd, Nat.reduceBNe, Nat.reduceLeDiff, Nat.reduceAdd, Nat.reduceMul, Nat.reduceLT, Nat.reduceEqDiff, Nat.reduceSub, reduceCtorEq, ↓reduceIte, tyfacts, c2, L, L', hl2.idx, hl2.load1, cI]
  refine Am.wpK_draw 12 [0, 1, 2, 3, 4, 5, 6, 7, 8, 9, 10, 11] (hx2).wf (by kernel_rfl) ?_
  have hx3 := (hx2).keep 12
  generalize hH3 : Am.Heap.keep _ _ = H3
  replace hx3 : Am.Ext _ H3 := hH3 ▸ hx3
  have h3 := h.mono hx3
  have c3 := cellsAt_of_get h3.ptr
  have g3 := h3.ptr
  obtain ⟨u, q1, q2, q3⟩ := h3.mine.take (T := T) (t := 60) (by simp only [tyfacts]) (hi := some (.int .i64 (m : Int))) (n := m) rfl (by simp; omega)
  have o1 := q2.sl.one
  have f1 := Heap.lt g3
  simp (maxSteps := 10000000) (disch := first | assumption | (simp only [tyfacts, Am.wd, Nat.reduceEqDiff, Nat.reduceLT, reduceCtorEq]; try omega; done) | omega) only [Am.wanted, Am.isAlloc, Am.wb0, Am.wb1, Am.wb2, Am.wb3, Am.wb4, Am.wb5, Am.wb6, Am.wb7, Am.wb8, Am.wb9, Am.reads, Am.quiet, Am.over, Nat.testBit, Nat.reduceShiftRight, Nat.reduceAnd, Nat.reduceBNe, Nat.reduceLeDiff, Nat.reduceAdd, Nat.reduceMul, Nat.reduceLT, Nat.reduceEqDiff, Nat.reduceSub, reduceCtorEq, ↓reduceIte, tyfacts, c3, L, L', q1, o1, q2.sl.cells, g3]
  have pn : ¬ Of u p := fun e => h.pn (q3 _ e)
  have hx4 : ExtB (fun l => l = p ∨ Of v l) H (H3.put p (.cells false [u])) := (hx3.but _).put (.inl (.inl rfl)) f1 _
  refine ⟨u, by rw [at_get hm], ⟨hx4.wf, get_put_same f1 _, ?_, pn, by rw [List.length_take]; omega, Nat.le_trans h.lb hx4.n⟩, hx4, fun l hl => .inl (q3 l hl)⟩
  have h5 := q2.ext (P := fun l => l = p) ((ExtB.refl (fun l => l = p) h3.wf).put (.inl rfl) f1 (.cells false [u])) fun l hl e => pn (e ▸ hl)
  simpa [List.map_take] using h5

/-- A heap handed on as an interface value. -/
def hI (p : Nat) : V := .iface 59 (.ptr p 0)

theorem up_ok {H : Heap} {b p : Nat} {v : V} {ns : List Int} {j : Nat} (h : HP H b p v ns) (hj : j < ns.length) (hu : UpInv ns ns.length j) (hl : ns.length < 1000000) :
    CallsTo T 44 [hI p, .int .i64 j] H fun r H' => ∃ ns', HP H' b p v ns' ∧ ns'.Perm ns ∧ IsHeap ns' ns'.length ∧ ExtB (Of v) H H' := by
  refine Am.calls_enter (T := T) rfl Try.func44 rfl (by simp only [Try.f44, List.length_cons, List.length_nil]; decide) ?_
  simp only [Try.f44]
  simp (maxSteps := 10000000) (disch := first | assumption | (simp only [tyfacts, Am.wd, Nat.reduceEqDiff, Nat.reduceLT, reduceCtorEq]; try omega; done) | omega) only [Am.wanted, Am.isAlloc, Am.wb0, Am.wb1, Am.wb2, Am.wb3, Am.wb4, Am.wb5, Am.wb6, Am.wb7, Am.wb8, Am.wb9, Am.reads, Am.quiet, Am.over, Nat.testBit, Nat.reduceShiftRight, Nat.reduceAnd, Nat.reduceBNe, Nat.reduceLeDiff, Nat.reduceAdd, Nat.reduceMul, Nat.reduceLT, Nat.reduceEqDiff, Nat.reduceSub, reduceCtorEq, ↓reduceIte, tyfacts]
  refine wpK_loop_ind _ (fun x : Nat => x) (fun j a H' => a.tmps.n = 23 ∧ a.defers = [] ∧ a.tmp 0 = hI p ∧ a.tmp 1 = .int .i64 j ∧ ∃ ns', HP H' b p v ns' ∧ ns'.Perm ns ∧ j < ns'.length ∧ UpInv ns' ns'.length j ∧ ExtB (Of v) H H') j ?_ ?_
  · simp (maxSteps := 10000000) (disch := first | assumption | (simp only [tyfacts, Am.wd, Nat.reduceEqDiff, Nat.reduceLT, reduceCtorEq]; try omega; done) | omega) only [Am.wanted, Am.isAlloc, Am.wb0, Am.wb1, Am.wb2, Am.wb3, Am.wb4, Am.wb5, Am.wb6, Am.wb7, Am.wb8, Am.wb9, Am.reads, Am.quiet, Am.over, Nat.testBit, Nat.reduceShiftRight, Nat.reduceAnd, Nat.reduceBNe, Nat.reduceLeDiff, Nat.reduceAdd, Nat.reduceMul, Nat.reduceLT, Nat.reduceEqDiff, Nat.reduceSub, reduceCtorEq, ↓reduceIte, tyfacts]
    exact ⟨ns, h, List.Perm.refl _, hj, hu, ExtB.refl _ h.wf⟩
  clear hu hj
  intro j a H1 ⟨hn, hd, h0, h1, ns1, hp1, hpm, hj, hu, hx⟩ ih
  have hlen := hpm.length_eq
  have hq : ((j : Int) - 1).tdiv 2 = ((j - 1 : Nat) / 2 : Nat) := by
    by_cases e : j = 0
    · subst e; rfl
    · rw [show ((j : Int) - 1) = ((j - 1 : Nat) : Int) by omega]; rfl
  simp (maxSteps := 10000000) (disch := first | assumption | (simp only [tyfacts, Am.wd, Nat.reduceEqDiff, Nat.reduceLT, reduceCtorEq]; try omega; done) | omega) only [Am.wanted, Am.isAlloc, Am.wb0, Am.wb1, Am.wb2, Am.wb3, Am.wb4, Am.wb5, Am.wb6, Am.wb7, Am.wb8, Am.wb9, Am.reads, Am.quiet, Am.over, Nat.testBit, Nat.reduceShiftRight, Nat.reduceAnd, Nat.reduceBNe, Nat.reduceLeDiff, Nat.reduceAdd, Nat.reduceMul, Nat.reduceLT, Nat.reduceEqDiff, Nat.reduceSub, reduceCtorEq, ↓reduceIte, tyfacts, h0, h1, hn, hq]
  by_cases e : j = 0
  · subst e
    simp (maxSteps := 10000000) (disch := first | assumption | (simp only [tyfacts, Am.wd, Nat.reduceEqDiff, Nat.reduceLT, reduceCtorEq]; try omega; done) | omega) only [Am.wanted, Am.isAlloc, Am.wb0, Am.wb1, Am.wb2, Am.wb3, Am.wb4, Am.wb5, Am.wb6, Am.wb7, Am.wb8, Am.wb9, Am.reads, Am.quiet, Am.over, Nat.testBit, Nat.reduceShiftRight, Nat.reduceAnd, Nat.reduceBNe, Nat.reduceLeDiff, Nat.reduceAdd, Nat.reduceMul, Nat.reduceLT, Nat.reduceEqDiff, Nat.reduceSub, reduceCtorEq, ↓reduceIte, tyfacts, h0, h1, hn, hd]
    exact ⟨ns1, hp1, hpm, up_stop hu (.inl rfl), hx⟩
  · have e1 : ¬ (((j - 1) / 2 : Nat) : Int) = (j : Int) := by omega
    have c1 := cellsAt_of_get hp1.ptr
    simp (maxSteps := 10000000) (disch := first | assumption | (simp only [tyfacts, Am.wd, Nat.reduceEqDiff, Nat.reduceLT, reduceCtorEq]; try omega; done) | omega) only [Am.wanted, Am.isAlloc, Am.wb0, Am.wb1, Am.wb2, Am.wb3, Am.wb4, Am.wb5, Am.wb6, Am.wb7, Am.wb8, Am.wb9, Am.reads, Am.quiet, Am.over, Nat.testBit, Nat.reduceShiftRight, Nat.reduceAnd, Nat.reduceBNe, Nat.reduceLeDiff, Nat.reduceAdd, Nat.reduceMul, Nat.reduceLT, Nat.reduceEqDiff, Nat.reduceSub, reduceCtorEq, ↓reduceIte, tyfacts, h0, h1, hn, e1, hI, c1]
    refine wpX_call (hless hp1.wf hp1.mine.sl hj (j := (j - 1) / 2) (by omega)) fun r H2 ⟨hr, hx2⟩ => ?_
    subst hr
    have hp2 := hp1.mono hx2
    have hx2 := hx.trans (hx2.but _)
    simp (maxSteps := 10000000) (disch := first | assumption | (simp only [tyfacts, Am.wd, Nat.reduceEqDiff, Nat.reduceLT, reduceCtorEq]; try omega; done) | omega) only [Am.wanted, Am.isAlloc, Am.wb0, Am.wb1, Am.wb2, Am.wb3, Am.wb4, Am.wb5, Am.wb6, Am.wb7, Am.wb8, Am.wb9, Am.reads, Am.quiet, Am.over, Nat.testBit, Nat.reduceShiftRight, Nat.reduceAnd, Nat.reduceBNe, Nat.reduceLeDiff, Nat.reduceAdd, Nat.reduceMul, Nat.reduceLT, Nat.reduceEqDiff, Nat.reduceSub, reduceCtorEq, ↓reduceIte, tyfacts, hn]
    refine wpB_dec (fun hs => ?_) (fun hs => ?_)
    · simp (maxSteps := 10000000) (disch := first | assumption | (simp only [tyfacts, Am.wd, Nat.reduceEqDiff, Nat.reduceLT, reduceCtorEq]; try omega; done) | omega) only [Am.wanted, Am.isAlloc, Am.wb0, Am.wb1, Am.wb2, Am.wb3, Am.wb4, Am.wb5, Am.wb6, Am.wb7, Am.wb8, Am.wb9, Am.reads, Am.quiet, Am.over, Nat.testBit, Nat.reduceShiftRight, Nat.reduceAnd, Nat.reduceBNe, Nat.reduceLeDiff, Nat.reduceAdd, Nat.reduceMul, Nat.reduceLT, Nat.reduceEqDiff, Nat.reduceSub, reduceCtorEq, ↓reduceIte, tyfacts, hn, hd]
      exact ⟨ns1, hp2, hpm, up_stop hu (.inr (by omega)), hx2⟩
    · have c2 := cellsAt_of_get hp2.ptr
      simp (maxSteps := 10000000) (disch := first | assumption | (simp only [tyfacts, Am.wd, Nat.reduceEqDiff, Nat.reduceLT, reduceCtorEq]; try omega; done) | omega) only [Am.wanted, Am.isAlloc, Am.wb0, Am.wb1, Am.wb2, Am.wb3, Am.wb4, Am.wb5, Am.wb6, Am.wb7, Am.wb8, Am.wb9, Am.reads, Am.quiet, Am.over, Nat.testBit, Nat.reduceShiftRight, Nat.reduceAnd, Nat.reduceBNe, Nat.reduceLeDiff, Nat.reduceAdd, Nat.reduceMul, Nat.reduceLT, Nat.reduceEqDiff, Nat.reduceSub, reduceCtorEq, ↓reduceIte, tyfacts, h0, h1, hn, hI, c2]
      refine wpX_call (hswap hp2 (i := (j - 1) / 2) (j := j) (by omega) hj) fun r H3 ⟨hp3, hx3⟩ => ?_
      simp (maxSteps := 10000000) (disch := first | assumption | (simp only [tyfacts, Am.wd, Nat.reduceEqDiff, Nat.reduceLT, reduceCtorEq]; try omega; done) | omega) only [Am.wanted, Am.isAlloc, Am.wb0, Am.wb1, Am.wb2, Am.wb3, Am.wb4, Am.wb5, Am.wb6, Am.wb7, Am.wb8, Am.wb9, Am.reads, Am.quiet, Am.over, Nat.testBit, Nat.reduceShiftRight, Nat.reduceAnd, Nat.reduceBNe, Nat.reduceLeDiff, Nat.reduceAdd, Nat.reduceMul, Nat.reduceLT, Nat.reduceEqDiff, Nat.reduceSub, reduceCtorEq, ↓reduceIte, tyfacts, hn]
      refine ih ((j - 1) / 2) _ _ (by omega) ?_
      simp (maxSteps := 10000000) (disch := first | assumption | (simp only [tyfacts, Am.wd, Nat.reduceEqDiff, Nat.reduceLT, reduceCtorEq]; try omega; done) | omega) only [Am.wanted, Am.isAlloc, Am.wb0, Am.wb1, Am.wb2, Am.wb3, Am.wb4, Am.wb5, Am.wb6, Am.wb7, Am.wb8, Am.wb9, Am.reads, Am.quiet, Am.over, Nat.testBit, Nat.reduceShiftRight, Nat.reduceAnd, Nat.reduceBNe, Nat.reduceLeDiff, Nat.reduceAdd, Nat.reduceMul, Nat.reduceLT, Nat.reduceEqDiff, Nat.reduceSub, reduceCtorEq, ↓reduceIte, tyfacts, h0, hn, hd, hI]
      refine ⟨_, hp3, (swap_perm (by omega) hj).trans hpm, by rw [swap_len]; omega, ?_, hx2.trans hx3⟩
      rw [swap_len]
      exact up_step rfl hj (by omega) hu (by omega)

theorem down_ok {H : Heap} {b p : Nat} {v : V} {ns : List Int} {n : Nat} (h : HP H b p v ns) (hn0 : n ≤ ns.length) (hu : DownInv ns n 0) (hl : ns.length < 1000000) :
    CallsTo T 45 [hI p, .int .i64 0, .int .i64 n] H fun r H' => ∃ ns', HP H' b p v ns' ∧ ns'.Perm ns ∧ (∀ k, n ≤ k → at_ ns' k = at_ ns k) ∧ IsHeap ns' n ∧ ExtB (Of v) H H' := by
  refine Am.calls_enter (T := T) rfl Try.func45 rfl (by simp only [Try.f45, List.length_cons, List.length_nil]; decide) ?_
  simp only [Try.f45]
  simp (maxSteps := 10000000) (disch := first | assumption | (simp only [tyfacts, Am.wd, Nat.reduceEqDiff, Nat.reduceLT, reduceCtorEq]; try omega; done) | omega) only [Am.wanted, Am.isAlloc, Am.wb0, Am.wb1, Am.wb2, Am.wb3, Am.wb4, Am.wb5, Am.wb6, Am.wb7, Am.wb8, Am.wb9, Am.reads, Am.quiet, Am.over, Nat.testBit, Nat.reduceShiftRight, Nat.reduceAnd, Nat.reduceBNe, Nat.reduceLeDiff, Nat.reduceAdd, Nat.reduceMul, Nat.reduceLT, Nat.reduceEqDiff, Nat.reduceSub, reduceCtorEq, ↓reduceIte, tyfacts]
  refine wpK_loop_ind _ (fun x : Nat => n - x) (fun i a H' => a.tmps.n = 48 ∧ a.defers = [] ∧ a.tmp 0 = hI p ∧ a.tmp 1 = .int .i64 0 ∧ a.tmp 2 = .int .i64 n ∧ a.tmp 7 = .int .i64 i ∧ ∃ ns', HP H' b p v ns' ∧ ns'.Perm ns ∧ (∀ k, n ≤ k → at_ ns' k = at_ ns k) ∧ DownInv ns' n i ∧ ExtB (Of v) H H' ∧ i ≤ n) 0 ?_ ?_
  · simp (maxSteps := 10000000) (disch := first | assumption | (simp only [tyfacts, Am.wd, Nat.reduceEqDiff, Nat.reduceLT, reduceCtorEq]; try omega; done) | omega) only [Am.wanted, Am.isAlloc, Am.wb0, Am.wb1, Am.wb2, Am.wb3, Am.wb4, Am.wb5, Am.wb6, Am.wb7, Am.wb8, Am.wb9, Am.reads, Am.quiet, Am.over, Nat.testBit, Nat.reduceShiftRight, Nat.reduceAnd, Nat.reduceBNe, Nat.reduceLeDiff, Nat.reduceAdd, Nat.reduceMul, Nat.reduceLT, Nat.reduceEqDiff, Nat.reduceSub, reduceCtorEq, ↓reduceIte, tyfacts]
    exact ⟨rfl, ns, h, List.Perm.refl _, fun _ _ => rfl, hu, ExtB.refl _ h.wf, by omega⟩
  clear hu
  intro i a H1 ⟨hn, hd, h0, h1, h2, h7, ns1, hp1, hpm, hk, hu, hx, hi⟩ ih
  have hlen := hpm.length_eq
  have q1 : (2 : Int) * (i : Int) = ((2 * i : Nat) : Int) := by omega
  have q2 : ((2 * i : Nat) : Int) + 1 = ((2 * i + 1 : Nat) : Int) := by omega
  simp (maxSteps := 10000000) (disch := first | assumption | (simp only [tyfacts, Am.wd, Nat.reduceEqDiff, Nat.reduceLT, reduceCtorEq]; try omega; done) | omega) only [Am.wanted, Am.isAlloc, Am.wb0, Am.wb1, Am.wb2, Am.wb3, Am.wb4, Am.wb5, Am.wb6, Am.wb7, Am.wb8, Am.wb9, Am.reads, Am.quiet, Am.over, Nat.testBit, Nat.reduceShiftRight, Nat.reduceAnd, Nat.reduceBNe, Nat.reduceLeDiff, Nat.reduceAdd, Nat.reduceMul, Nat.reduceLT, Nat.reduceEqDiff, Nat.reduceSub, reduceCtorEq, ↓reduceIte, tyfacts, h0, h1, h2, h7, hn, q1, q2]
  by_cases e : n ≤ 2 * i + 1
  · have e' : (n : Int) ≤ ((2 * i + 1 : Nat) : Int) := by omega
    simp (maxSteps := 10000000) (disch := first | assumption | (simp only [tyfacts, Am.wd, Nat.reduceEqDiff, Nat.reduceLT, reduceCtorEq]; try omega; done) | omega) only [Am.wanted, Am.isAlloc, Am.wb0, Am.wb1, Am.wb2, Am.wb3, Am.wb4, Am.wb5, Am.wb6, Am.wb7, Am.wb8, Am.wb9, Am.reads, Am.quiet, Am.over, Nat.testBit, Nat.reduceShiftRight, Nat.reduceAnd, Nat.reduceBNe, Nat.reduceLeDiff, Nat.reduceAdd, Nat.reduceMul, Nat.reduceLT, Nat.reduceEqDiff, Nat.reduceSub, reduceCtorEq, ↓reduceIte, tyfacts, h0, h1, h2, h7, hn, hd, e']
    exact ⟨ns1, hp1, hpm, hk, down_stop hu fun k hk0 hkn hkp => by omega, hx⟩
  · have e' : ¬ (n : Int) ≤ ((2 * i + 1 : Nat) : Int) := by omega
    have e2 : ¬ ((2 * i + 1 : Nat) : Int) < 0 := by omega
    have q3 : ((2 * i + 1 : Nat) : Int) + 1 = ((2 * i + 2 : Nat) : Int) := by omega
    have c1 := cellsAt_of_get hp1.ptr
    by_cases e3 : 2 * i + 2 < n
    · have e3' : ((2 * i + 2 : Nat) : Int) < (n : Int) := by omega
      simp (maxSteps := 10000000) (disch := first | assumption | (simp only [tyfacts, Am.wd, Nat.reduceEqDiff, Nat.reduceLT, reduceCtorEq]; try omega; done) | omega) only [Am.wanted, Am.isAlloc, Am.wb0, Am.wb1, Am.wb2, Am.wb3, Am.wb4, Am.wb5, Am.wb6, Am.wb7, Am.wb8, Am.wb9, Am.reads, Am.quiet, Am.over, Nat.testBit, Nat.reduceShiftRight, Nat.reduceAnd, Nat.reduceBNe, Nat.reduceLeDiff, Nat.reduceAdd, Nat.reduceMul, Nat.reduceLT, Nat.reduceEqDiff, Nat.reduceSub, reduceCtorEq, ↓reduceIte, tyfacts, h0, h1, h2, h7, hn, hd, e', e2, q3, e3', hI, c1]
      refine wpX_call (hless hp1.wf hp1.mine.sl (i := 2 * i + 2) (j := 2 * i + 1) (by omega) (by omega)) fun r K1 ⟨hr, hy⟩ => ?_
      subst hr
      have hp4 := hp1.mono hy
      have hx4 := hx.trans (hy.but _)
      have c4 := cellsAt_of_get hp4.ptr
      simp (maxSteps := 10000000) (disch := first | assumption | (simp only [tyfacts, Am.wd, Nat.reduceEqDiff, Nat.reduceLT, reduceCtorEq]; try omega; done) | omega) only [Am.wanted, Am.isAlloc, Am.wb0, Am.wb1, Am.wb2, Am.wb3, Am.wb4, Am.wb5, Am.wb6, Am.wb7, Am.wb8, Am.wb9, Am.reads, Am.quiet, Am.over, Nat.testBit, Nat.reduceShiftRight, Nat.reduceAnd, Nat.reduceBNe, Nat.reduceLeDiff, Nat.reduceAdd, Nat.reduceMul, Nat.reduceLT, Nat.reduceEqDiff, Nat.reduceSub, reduceCtorEq, ↓reduceIte, tyfacts, hn]
      refine wpB_dec (fun hs1 => ?_) (fun hs1 => ?_)
      · have hmin : ∀ k, 0 < k → k < n → (k - 1) / 2 = i → at_ ns1 (2 * i + 2) ≤ at_ ns1 k := by
          intro k hk0 hkn hkp
          rcases (by omega : k = 2 * i + 1 ∨ k = 2 * i + 2) with rfl | rfl <;> omega
        simp (maxSteps := 10000000) (disch := first | assumption | (simp only [tyfacts, Am.wd, Nat.reduceEqDiff, Nat.reduceLT, reduceCtorEq]; try omega; done) | omega) only [Am.wanted, Am.isAlloc, Am.wb0, Am.wb1, Am.wb2, Am.wb3, Am.wb4, Am.wb5, Am.wb6, Am.wb7, Am.wb8, Am.wb9, Am.reads, Am.quiet, Am.over, Nat.testBit, Nat.reduceShiftRight, Nat.reduceAnd, Nat.reduceBNe, Nat.reduceLeDiff, Nat.reduceAdd, Nat.reduceMul, Nat.reduceLT, Nat.reduceEqDiff, Nat.reduceSub, reduceCtorEq, ↓reduceIte, tyfacts, h0, h7, hn, hI, c4]
        refine wpX_call (hless hp4.wf hp4.mine.sl (i := 2 * i + 2) (j := i) (by omega) (by omega)) fun r K2 ⟨hr, hy2⟩ => ?_
        subst hr
        have hp5 := hp4.mono hy2
        have hx5 := hx4.trans (hy2.but _)
        simp (maxSteps := 10000000) (disch := first | assumption | (simp only [tyfacts, Am.wd, Nat.reduceEqDiff, Nat.reduceLT, reduceCtorEq]; try omega; done) | omega) only [Am.wanted, Am.isAlloc, Am.wb0, Am.wb1, Am.wb2, Am.wb3, Am.wb4, Am.wb5, Am.wb6, Am.wb7, Am.wb8, Am.wb9, Am.reads, Am.quiet, Am.over, Nat.testBit, Nat.reduceShiftRight, Nat.reduceAnd, Nat.reduceBNe, Nat.reduceLeDiff, Nat.reduceAdd, Nat.reduceMul, Nat.reduceLT, Nat.reduceEqDiff, Nat.reduceSub, reduceCtorEq, ↓reduceIte, tyfacts, hn]
        refine wpB_dec (fun hs => ?_) (fun hs => ?_)
        · simp (maxSteps := 10000000) (disch := first | assumption | (simp only [tyfacts, Am.wd, Nat.reduceEqDiff, Nat.reduceLT, reduceCtorEq]; try omega; done) | omega) only [Am.wanted, Am.isAlloc, Am.wb0, Am.wb1, Am.wb2, Am.wb3, Am.wb4, Am.wb5, Am.wb6, Am.wb7, Am.wb8, Am.wb9, Am.reads, Am.quiet, Am.over, Nat.testBit, Nat.reduceShiftRight, Nat.reduceAnd, Nat.reduceBNe, Nat.reduceLeDiff, Nat.reduceAdd, Nat.reduceMul, Nat.reduceLT, Nat.reduceEqDiff, Nat.reduceSub, reduceCtorEq, ↓reduceIte, tyfacts, h1, h7, hn, hd]
          exact ⟨ns1, hp5, hpm, hk, down_stop hu fun k hk0 hkn hkp => by have := hmin k hk0 hkn hkp; omega, hx5⟩
        · have c5 := cellsAt_of_get hp5.ptr
          simp (maxSteps := 10000000) (disch := first | assumption | (simp only [tyfacts, Am.wd, Nat.reduceEqDiff, Nat.reduceLT, reduceCtorEq]; try omega; done) | omega) only [Am.wanted, Am.isAlloc, Am.wb0, Am.wb1, Am.wb2, Am.wb3, Am.wb4, Am.wb5, Am.wb6, Am.wb7, Am.wb8, Am.wb9, Am.reads, Am.quiet, Am.over, Nat.testBit, Nat.reduceShiftRight, Nat.reduceAnd, Nat.reduceBNe, Nat.reduceLeDiff, Nat.reduceAdd, Nat.reduceMul, Nat.reduceLT, Nat.reduceEqDiff, Nat.reduceSub, reduceCtorEq, ↓reduceIte, tyfacts, h0, h7, hn, hI, c5]
          refine wpX_call (hswap hp5 (i := i) (j := 2 * i + 2) (by omega) (by omega)) fun r K3 ⟨hp6, hx6⟩ => ?_
          simp (maxSteps := 10000000) (disch := first | assumption | (simp only [tyfacts, Am.wd, Nat.reduceEqDiff, Nat.reduceLT, reduceCtorEq]; try omega; done) | omega) only [Am.wanted, Am.isAlloc, Am.wb0, Am.wb1, Am.wb2, Am.wb3, Am.wb4, Am.wb5, Am.wb6, Am.wb7, Am.wb8, Am.wb9, Am.reads, Am.quiet, Am.over, Nat.testBit, Nat.reduceShiftRight, Nat.reduceAnd, Nat.reduceBNe, Nat.reduceLeDiff, Nat.reduceAdd, Nat.reduceMul, Nat.reduceLT, Nat.reduceEqDiff, Nat.reduceSub, reduceCtorEq, ↓reduceIte, tyfacts, hn]
          refine ih (2 * i + 2) _ _ (by omega) ?_
          simp (maxSteps := 10000000) (disch := first | assumption | (simp only [tyfacts, Am.wd, Nat.reduceEqDiff, Nat.reduceLT, reduceCtorEq]; try omega; done) | omega) only [Am.wanted, Am.isAlloc, Am.wb0, Am.wb1, Am.wb2, Am.wb3, Am.wb4, Am.wb5, Am.wb6, Am.wb7, Am.wb8, Am.wb9, Am.reads, Am.quiet, Am.over, Nat.testBit, Nat.reduceShiftRight, Nat.reduceAnd, Nat.reduceBNe, Nat.reduceLeDiff, Nat.reduceAdd, Nat.reduceMul, Nat.reduceLT, Nat.reduceEqDiff, Nat.reduceSub, reduceCtorEq, ↓reduceIte, tyfacts, h0, h1, h2, hn, hd, hI]
          refine ⟨_, hp6, (swap_perm (by omega) (by omega)).trans hpm, fun k hk0 => ?_, down_step (by omega) (by omega) (by omega) (by omega) hu hmin (by omega), hx5.trans hx6, by omega⟩
          rw [swap_at (by omega) (by omega), if_neg (by omega), if_neg (by omega)]; exact hk k hk0
      · have hmin : ∀ k, 0 < k → k < n → (k - 1) / 2 = i → at_ ns1 (2 * i + 1) ≤ at_ ns1 k := by
          intro k hk0 hkn hkp
          rcases (by omega : k = 2 * i + 1 ∨ k = 2 * i + 2) with rfl | rfl <;> omega
        simp (maxSteps := 10000000) (disch := first | assumption | (simp only [tyfacts, Am.wd, Nat.reduceEqDiff, Nat.reduceLT, reduceCtorEq]; try omega; done) | omega) only [Am.wanted, Am.isAlloc, Am.wb0, Am.wb1, Am.wb2, Am.wb3, Am.wb4, Am.wb5, Am.wb6, Am.wb7, Am.wb8, Am.wb9, Am.reads, Am.quiet, Am.over, Nat.testBit, Nat.reduceShiftRight, Nat.reduceAnd, Nat.reduceBNe, Nat.reduceLeDiff, Nat.reduceAdd, Nat.reduceMul, Nat.reduceLT, Nat.reduceEqDiff, Nat.reduceSub, reduceCtorEq, ↓reduceIte, tyfacts, h0, h7, hn, hI, c4]
        refine wpX_call (hless hp4.wf hp4.mine.sl (i := 2 * i + 1) (j := i) (by omega) (by omega)) fun r K2 ⟨hr, hy2⟩ => ?_
        subst hr
        have hp5 := hp4.mono hy2
        have hx5 := hx4.trans (hy2.but _)
        simp (maxSteps := 10000000) (disch := first | assumption | (simp only [tyfacts, Am.wd, Nat.reduceEqDiff, Nat.reduceLT, reduceCtorEq]; try omega; done) | omega) only [Am.wanted, Am.isAlloc, Am.wb0, Am.wb1, Am.wb2, Am.wb3, Am.wb4, Am.wb5, Am.wb6, Am.wb7, Am.wb8, Am.wb9, Am.reads, Am.quiet, Am.over, Nat.testBit, Nat.reduceShiftRight, Nat.reduceAnd, Nat.reduceBNe, Nat.reduceLeDiff, Nat.reduceAdd, Nat.reduceMul, Nat.reduceLT, Nat.reduceEqDiff, Nat.reduceSub, reduceCtorEq, ↓reduceIte, tyfacts, hn]
        refine wpB_dec (fun hs => ?_) (fun hs => ?_)
        · simp (maxSteps := 10000000) (disch := first | assumption | (simp only [tyfacts, Am.wd, Nat.reduceEqDiff, Nat.reduceLT, reduceCtorEq]; try omega; done) | omega) only [Am.wanted, Am.isAlloc, Am.wb0, Am.wb1, Am.wb2, Am.wb3, Am.wb4, Am.wb5, Am.wb6, Am.wb7, Am.wb8, Am.wb9, Am.reads, Am.quiet, Am.over, Nat.testBit, Nat.reduceShiftRight, Nat.reduceAnd, Nat.reduceBNe, Nat.reduceLeDiff, Nat.reduceAdd, Nat.reduceMul, Nat.reduceLT, Nat.reduceEqDiff, Nat.reduceSub, reduceCtorEq, ↓reduceIte, tyfacts, h1, h7, hn, hd]
          exact ⟨ns1, hp5, hpm, hk, down_stop hu fun k hk0 hkn hkp => by have := hmin k hk0 hkn hkp; omega, hx5⟩
        · have c5 := cellsAt_of_get hp5.ptr
          simp (maxSteps := 10000000) (disch := first | assumption | (simp only [tyfacts, Am.wd, Nat.reduceEqDiff, Nat.reduceLT, reduceCtorEq]; try omega; done) | omega) only [Am.wanted, Am.isAlloc, Am.wb0, Am.wb1, Am.wb2, Am.wb3, Am.wb4, Am.wb5, Am.wb6, Am.wb7, Am.wb8, Am.wb9, Am.reads, Am.quiet, Am.over, Nat.testBit, Nat.reduceShiftRight, Nat.reduceAnd, Nat.reduceBNe, Nat.reduceLeDiff, Nat.reduceAdd, Nat.reduceMul, Nat.reduceLT, Nat.reduceEqDiff, Nat.reduceSub, reduceCtorEq, ↓reduceIte, tyfacts, h0, h7, hn, hI, c5]
          refine wpX_call (hswap hp5 (i := i) (j := 2 * i + 1) (by omega) (by omega)) fun r K3 ⟨hp6, hx6⟩ => ?_
          simp (maxSteps := 10000000) (disch := first | assumption | (simp only [tyfacts, Am.wd, Nat.reduceEqDiff, Nat.reduceLT, reduceCtorEq]; try omega; done) | omega) only [Am.wanted, Am.isAlloc, Am.wb0, Am.wb1, Am.wb2, Am.wb3, Am.wb4, Am.wb5, Am.wb6, Am.wb7, Am.wb8, Am.wb9, Am.reads, Am.quiet, Am.over, Nat.testBit, Nat.reduceShiftRight, Nat.reduceAnd, Nat.reduceBNe, Nat.reduceLeDiff, Nat.reduceAdd, Nat.reduceMul, Nat.reduceLT, Nat.reduceEqDiff, Nat.reduceSub, reduceCtorEq, ↓reduceIte, tyfacts, hn]
          refine ih (2 * i + 1) _ _ (by omega) ?_
          simp (maxSteps := 10000000) (disch := first | assumption | (simp only [tyfacts, Am.wd, Nat.reduceEqDiff, Nat.reduceLT, reduceCtorEq]; try omega; done) | omega) only [Am.wanted, Am.isAlloc, Am.wb0, Am.wb1, Am.wb2, Am.wb3, Am.wb4, Am.wb5, Am.wb6, Am.wb7, Am.wb8, Am.wb9, Am.reads, Am.quiet, Am.over, Nat.testBit, Nat.reduceShiftRight, Nat.reduceAnd, Nat.reduceBNe, Nat.reduceLeDiff, Nat.reduceAdd, Nat.reduceMul, Nat.reduceLT, Nat.reduceEqDiff, Nat.reduceSub, reduceCtorEq, ↓reduceIte, tyfacts, h0, h1, h2, hn, hd, hI]
          refine ⟨_, hp6, (swap_perm (by omega) (by omega)).trans hpm, fun k hk0 => ?_, down_step (by omega) (by omega) (by omega) (by omega) hu hmin (by omega), hx5.trans hx6, by omega⟩
          rw [swap_at (by omega) (by omega), if_neg (by omega), if_neg (by omega)]; exact hk k hk0
    · have e3' : ¬ ((2 * i + 2 : Nat) : Int) < (n : Int) := by omega
      have hmin : ∀ k, 0 < k → k < n → (k - 1) / 2 = i → at_ ns1 (2 * i + 1) ≤ at_ ns1 k := by
        intro k hk0 hkn hkp
        have : k = 2 * i + 1 := by omega
        subst this; omega
      simp (maxSteps := 10000000) (disch := first | assumption | (simp only [tyfacts, Am.wd, Nat.reduceEqDiff, Nat.reduceLT, reduceCtorEq]; try omega; done) | omega) only [Am.wanted, Am.isAlloc, Am.wb0, Am.wb1, Am.wb2, Am.wb3, Am.wb4, Am.wb5, Am.wb6, Am.wb7, Am.wb8, Am.wb9, Am.reads, Am.quiet, Am.over, Nat.testBit, Nat.reduceShiftRight, Nat.reduceAnd, Nat.reduceBNe, Nat.reduceLeDiff, Nat.reduceAdd, Nat.reduceMul, Nat.reduceLT, Nat.reduceEqDiff, Nat.reduceSub, reduceCtorEq, ↓reduceIte, tyfacts, h0, h1, h2, h7, hn, hd, e', e2, q3, e3', hI, c1]
      refine wpX_call (hless hp1.wf hp1.mine.sl (i := 2 * i + 1) (j := i) (by omega) (by omega)) fun r K2 ⟨hr, hy2⟩ => ?_
      subst hr
      have hp5 := hp1.mono hy2
      have hx5 := hx.trans (hy2.but _)
      simp (maxSteps := 10000000) (disch := first | assumption | (simp only [tyfacts, Am.wd, Nat.reduceEqDiff, Nat.reduceLT, reduceCtorEq]; try omega; done) | omega) only [Am.wanted, Am.isAlloc, Am.wb0, Am.wb1, Am.wb2, Am.wb3, Am.wb4, Am.wb5, Am.wb6, Am.wb7, Am.wb8, Am.wb9, Am.reads, Am.quiet, Am.over, Nat.testBit, Nat.reduceShiftRight, Nat.reduceAnd, Nat.reduceBNe, Nat.reduceLeDiff, Nat.reduceAdd, Nat.reduceMul, Nat.reduceLT, Nat.reduceEqDiff, Nat.reduceSub, reduceCtorEq, ↓reduceIte, tyfacts, hn]
      refine wpB_dec (fun hs => ?_) (fun hs => ?_)
      · simp (maxSteps := 10000000) (disch := first | assumption | (simp only [tyfacts, Am.wd, Nat.reduceEqDiff, Nat.reduceLT, reduceCtorEq]; try omega; done) | omega) only [Am.wanted, Am.isAlloc, Am.wb0, Am.wb1, Am.wb2, Am.wb3, Am.wb4, Am.wb5, Am.wb6, Am.wb7, Am.wb8, Am.wb9, Am.reads, Am.quiet, Am.over, Nat.testBit, Nat.reduceShiftRight, Nat.reduceAnd, Nat.reduceBNe, Nat.reduceLeDiff, Nat.reduceAdd, Nat.reduceMul, Nat.reduceLT, Nat.reduceEqDiff, Nat.reduceSub, reduceCtorEq, ↓reduceIte, tyfacts, h1, h7, hn, hd]
        exact ⟨ns1, hp5, hpm, hk, down_stop hu fun k hk0 hkn hkp => by have := hmin k hk0 hkn hkp; omega, hx5⟩
      · have c5 := cellsAt_of_get hp5.ptr
        simp (maxSteps := 10000000) (disch := first | assumption | (simp only [tyfacts, Am.wd, Nat.reduceEqDiff, Nat.reduceLT, reduceCtorEq]; try omega; done) | omega) only [Am.wanted, Am.isAlloc, Am.wb0, Am.wb1, Am.wb2, Am.wb3, Am.wb4, Am.wb5, Am.wb6, Am.wb7, Am.wb8, Am.wb9, Am.reads, Am.quiet, Am.over, Nat.testBit, Nat.reduceShiftRight, Nat.reduceAnd, Nat.reduceBNe, Nat.reduceLeDiff, Nat.reduceAdd, Nat.reduceMul, Nat.reduceLT, Nat.reduceEqDiff, Nat.reduceSub, reduceCtorEq, ↓reduceIte, tyfacts, h0, h7, hn, hI, c5]
        refine wpX_call (hswap hp5 (i := i) (j := 2 * i + 1) (by omega) (by omega)) fun r K3 ⟨hp6, hx6⟩ => ?_
        simp (maxSteps := 10000000) (disch := first | assumption | (simp only [tyfacts, Am.wd, Nat.reduceEqDiff, Nat.reduceLT, reduceCtorEq]; try omega; done) | omega) only [Am.wanted, Am.isAlloc, Am.wb0, Am.wb1, Am.wb2, Am.wb3, Am.wb4, Am.wb5, Am.wb6, Am.wb7, Am.wb8, Am.wb9, Am.reads, Am.quiet, Am.over, Nat.testBit, Nat.reduceShiftRight, Nat.reduceAnd, Nat.reduceBNe, Nat.reduceLeDiff, Nat.reduceAdd, Nat.reduceMul, Nat.reduceLT, Nat.reduceEqDiff, Nat.reduceSub, reduceCtorEq, ↓reduceIte, tyfacts, hn]
        refine ih (2 * i + 1) _ _ (by omega) ?_
        simp (maxSteps := 10000000) (disch := first | assumption | (simp only [tyfacts, Am.wd, Nat.reduceEqDiff, Nat.reduceLT, reduceCtorEq]; try omega; done) | omega) only [Am.wanted, Am.isAlloc, Am.wb0, Am.wb1, Am.wb2, Am.wb3, Am.wb4, Am.wb5, Am.wb6, Am.wb7, Am.wb8, Am.wb9, Am.reads, Am.quiet, Am.over, Nat.testBit, Nat.reduceShiftRight, Nat.reduceAnd, Nat.reduceBNe, Nat.reduceLeDiff, Nat.reduceAdd, Nat.reduceMul, Nat.reduceLT, Nat.reduceEqDiff, Nat.reduceSub, reduceCtorEq, ↓reduceIte, tyfacts, h0, h1, h2, hn, hd, hI]
        refine ⟨_, hp6, (swap_perm (by omega) (by omega)).trans hpm, fun k hk0 => ?_, down_step (by omega) (by omega) (by omega) (by omega) hu hmin (by omega), hx5.trans hx6, by omega⟩
        rw [swap_at (by omega) (by omega), if_neg (by omega), if_neg (by omega)]; exact hk k hk0

theorem heapPush {H : Heap} {b p : Nat} {v : V} {ns : List Int} (h : HP H b p v ns) (hh : IsHeap ns ns.length) (x : Int) (hl : ns.length < 100000) :
    CallsTo T 36 [hI p, .iface 3 (.int .i64 x)] H fun r H' => ∃ v' ns', HP H' b p v' ns' ∧ ns'.Perm (x :: ns) ∧ IsHeap ns' ns'.length ∧ ExtB (fun l => l = p ∨ Of v l) H H' ∧ ∀ l, Of v' l → Of v l ∨ H.n ≤ l := by
  refine Am.calls_enter (T := T) rfl Try.func36 rfl (by simp only [Try.f36, List.length_cons, List.length_nil]; decide) ?_
  simp only [Try.f36]
  simp (maxSteps := 10000000) (disch := first | assumption | (simp only [tyfacts, Am.wd, Nat.reduceEqDiff, Nat.reduceLT, reduceCtorEq]; try omega; done) | omega) only [Am.wanted, Am.isAlloc, Am.wb0, Am.wb1, Am.wb2, Am.wb3, Am.wb4, Am.wb5, Am.wb6, Am.wb7, Am.wb8, Am.wb9, Am.reads, Am.quiet, Am.over, Nat.testBit, Nat.reduceShiftRight, Nat.reduceAnd, Nat.reduceBNe, Nat.reduceLeDiff, Nat.reduceAdd, Nat.reduceMul, Nat.reduceLT, Nat.reduceEqDiff, Nat.reduceSub, reduceCtorEq, ↓reduceIte, tyfacts, hI]
  refine wpX_call (hpush h x (by omega)) fun r H1 ⟨v', hp1, hx1, hf1⟩ => ?_
  have c1 := cellsAt_of_get hp1.ptr
  simp (maxSteps := 10000000) (disch := first | assumption | (simp only [tyfacts, Am.wd, Nat.reduceEqDiff, Nat.reduceLT, reduceCtorEq]; try omega; done) | omega) only [Am.wanted, Am.isAlloc, Am.wb0, Am.wb1, Am.wb2, Am.wb3, Am.wb4, Am.wb5, Am.wb6, Am.wb7, Am.wb8, Am.wb9, Am.reads, Am.quiet, Am.over, Nat.testBit, Nat.reduceShiftRight, Nat.reduceAnd, Nat.reduceBNe, Nat.reduceLeDiff, Nat.reduceAdd, Nat.reduceMul, Nat.reduceLT, Nat.reduceEqDiff, Nat.reduceSub, reduceCtorEq, ↓reduceIte, tyfacts, c1]
  refine wpX_call (hlen_ok hp1.wf hp1.mine.sl) fun r H2 ⟨hr, hH2⟩ => ?_
  subst hr
  subst hH2
  have q1 : ((ns ++ [x]).length : Int) - 1 = (ns.length : Int) := by simp
  simp (maxSteps := 10000000) (disch := first | assumption | (simp only [tyfacts, Am.wd, Nat.reduceEqDiff, Nat.reduceLT, reduceCtorEq]; try omega; done) | omega) only [Am.wanted, Am.isAlloc, Am.wb0, Am.wb1, Am.wb2, Am.wb3, Am.wb4, Am.wb5, Am.wb6, Am.wb7, Am.wb8, Am.wb9, Am.reads, Am.quiet, Am.over, Nat.testBit, Nat.reduceShiftRight, Nat.reduceAnd, Nat.reduceBNe, Nat.reduceLeDiff, Nat.reduceAdd, Nat.reduceMul, Nat.reduceLT, Nat.reduceEqDiff, Nat.reduceSub, reduceCtorEq, ↓reduceIte, tyfacts, q1]
  have hl1 : (ns ++ [x]).length = ns.length + 1 := by simp
  have q2 : ((ns.length + 1 : Nat) : Int) - 1 = (ns.length : Int) := by omega
  simp (maxSteps := 10000000) (disch := first | assumption | (simp only [tyfacts, Am.wd, Nat.reduceEqDiff, Nat.reduceLT, reduceCtorEq]; try omega; done) | omega) only [Am.wanted, Am.isAlloc, Am.wb0, Am.wb1, Am.wb2, Am.wb3, Am.wb4, Am.wb5, Am.wb6, Am.wb7, Am.wb8, Am.wb9, Am.reads, Am.quiet, Am.over, Nat.testBit, Nat.reduceShiftRight, Nat.reduceAnd, Nat.reduceBNe, Nat.reduceLeDiff, Nat.reduceAdd, Nat.reduceMul, Nat.reduceLT, Nat.reduceEqDiff, Nat.reduceSub, reduceCtorEq, ↓reduceIte, tyfacts, q2]
  refine wpX_call (up_ok hp1 (j := ns.length) (by omega) (by rw [hl1]; exact push_inv hh) (by omega)) fun r H3 ⟨ns', hp3, hpm, hh3, hx3⟩ => ?_
  simp (maxSteps := 10000000) (disch := first | assumption | (simp only [tyfacts, Am.wd, Nat.reduceEqDiff, Nat.reduceLT, reduceCtorEq]; try omega; done) | omega) only [Am.wanted, Am.isAlloc, Am.wb0, Am.wb1, Am.wb2, Am.wb3, Am.wb4, Am.wb5, Am.wb6, Am.wb7, Am.wb8, Am.wb9, Am.reads, Am.quiet, Am.over, Nat.testBit, Nat.reduceShiftRight, Nat.reduceAnd, Nat.reduceBNe, Nat.reduceLeDiff, Nat.reduceAdd, Nat.reduceMul, Nat.reduceLT, Nat.reduceEqDiff, Nat.reduceSub, reduceCtorEq, ↓reduceIte, tyfacts]
  exact ⟨v', ns', hp3, hpm.trans (List.perm_append_singleton _ _), hh3, hx1.trans' hx3 fun l hl => (hf1 l hl).imp .inr id, hf1⟩

theorem heapPop {H : Heap} {b p : Nat} {v : V} {ns : List Int} (h : HP H b p v ns) (hh : IsHeap ns ns.length) (h0 : ns ≠ []) (hl : ns.length < 100000) :
    CallsTo T 38 [hI p] H fun r H' => ∃ m v' ns', r = .iface 3 (.int .i64 m) ∧ HP H' b p v' ns' ∧ ns.Perm (m :: ns') ∧ IsHeap ns' ns'.length ∧ (∀ y, y ∈ ns → m ≤ y) ∧ ExtB (fun l => l = p ∨ Of v l) H H' ∧ ∀ l, Of v' l → Of v l ∨ H.n ≤ l := by
  refine Am.calls_enter (T := T) rfl Try.func38 rfl (by simp only [Try.f38, List.length_cons, List.length_nil]; decide) ?_
  simp only [Try.f38]
  obtain ⟨n, hn⟩ : ∃ n, ns.length = n + 1 := ⟨ns.length - 1, by have := List.length_pos_iff.2 h0; omega⟩
  have c0 := cellsAt_of_get h.ptr
  simp (maxSteps := 10000000) (disch := first | assumption | (simp only [tyfacts, Am.wd, Nat.reduceEqDiff, Nat.reduceLT, reduceCtorEq]; try omega; done) | omega) only [Am.wanted, Am.isAlloc, Am.wb0, Am.wb1, Am.wb2, Am.wb3, Am.wb4, Am.wb5, Am.wb6, Am.wb7, Am.wb8, Am.wb9, Am.reads, Am.quiet, Am.over, Nat.testBit, Nat.reduceShiftRight, Nat.reduceAnd, Nat.reduceBNe, Nat.reduceLeDiff, Nat.reduceAdd, Nat.reduceMul, Nat.reduceLT, Nat.reduceEqDiff, Nat.reduceSub, reduceCtorEq, ↓reduceIte, tyfacts, hI, c0]
  refine wpX_call (hlen_ok h.wf h.mine.sl) fun r H1 ⟨hr, hH1⟩ => ?_
  subst hr
  subst hH1
  have q1 : (ns.length : Int) - 1 = (n : Int) := by omega
  simp (maxSteps := 10000000) (disch := first | assumption | (simp only [tyfacts, Am.wd, Nat.reduceEqDiff, Nat.reduceLT, reduceCtorEq]; try omega; done) | omega) only [Am.wanted, Am.isAlloc, Am.wb0, Am.wb1, Am.wb2, Am.wb3, Am.wb4, Am.wb5, Am.wb6, Am.wb7, Am.wb8, Am.wb9, Am.reads, Am.quiet, Am.over, Nat.testBit, Nat.reduceShiftRight, Nat.reduceAnd, Nat.reduceBNe, Nat.reduceLeDiff, Nat.reduceAdd, Nat.reduceMul, Nat.reduceLT, Nat.reduceEqDiff, Nat.reduceSub, reduceCtorEq, ↓reduceIte, tyfacts, q1, c0]
  refine wpX_call (hswap h (i := 0) (j := n) (by omega) (by omega)) fun r H2 ⟨hp2, hx2⟩ => ?_
  simp (maxSteps := 10000000) (disch := first | assumption | (simp only [tyfacts, Am.wd, Nat.reduceEqDiff, Nat.reduceLT, reduceCtorEq]; try omega; done) | omega) only [Am.wanted, Am.isAlloc, Am.wb0, Am.wb1, Am.wb2, Am.wb3, Am.wb4, Am.wb5, Am.wb6, Am.wb7, Am.wb8, Am.wb9, Am.reads, Am.quiet, Am.over, Nat.testBit, Nat.reduceShiftRight, Nat.reduceAnd, Nat.reduceBNe, Nat.reduceLeDiff, Nat.reduceAdd, Nat.reduceMul, Nat.reduceLT, Nat.reduceEqDiff, Nat.reduceSub, reduceCtorEq, ↓reduceIte, tyfacts]
  have hl2 : (swap ns 0 n).length = n + 1 := by rw [swap_len, hn]
  refine wpX_call (down_ok hp2 (n := n) (by omega) (pop_inv hn (by rw [← hn]; exact hh)) (by omega)) fun r H3 ⟨ns3, hp3, hpm3, hk3, hh3, hx3⟩ => ?_
  simp (maxSteps := 10000000) (disch := first | assumption | (simp only [tyfacts, Am.wd, Nat.reduceEqDiff, Nat.reduceLT, reduceCtorEq]; try omega; done) | omega) only [Am.wanted, Am.isAlloc, Am.wb0, Am.wb1, Am.wb2, Am.wb3, Am.wb4, Am.wb5, Am.wb6, Am.wb7, Am.wb8, Am.wb9, Am.reads, Am.quiet, Am.over, Nat.testBit, Nat.reduceShiftRight, Nat.reduceAnd, Nat.reduceBNe, Nat.reduceLeDiff, Nat.reduceAdd, Nat.reduceMul, Nat.reduceLT, Nat.reduceEqDiff, Nat.reduceSub, reduceCtorEq, ↓reduceIte, tyfacts]
  have hl3 : ns3.length = n + 1 := by rw [hpm3.length_eq, hl2]
  refine wpX_call (hpop hp3 hl3) fun r H4 ⟨v', hr, hp4, hx4, hf4⟩ => ?_
  subst hr
  simp (maxSteps := 10000000) (disch := first | assumption | (simp only [tyfacts, Am.wd, Nat.reduceEqDiff, Nat.reduceLT, reduceCtorEq]; try omega; done) | omega) only [Am.wanted, Am.isAlloc, Am.wb0, Am.wb1, Am.wb2, Am.wb3, Am.wb4, Am.wb5, Am.wb6, Am.wb7, Am.wb8, Am.wb9, Am.reads, Am.quiet, Am.over, Nat.testBit, Nat.reduceShiftRight, Nat.reduceAnd, Nat.reduceBNe, Nat.reduceLeDiff, Nat.reduceAdd, Nat.reduceMul, Nat.reduceLT, Nat.reduceEqDiff, Nat.reduceSub, reduceCtorEq, ↓reduceIte, tyfacts]
  have e1 : at_ ns3 n = at_ ns 0 := by rw [hk3 n (Nat.le_refl _), swap_at (by omega) (by omega), if_pos rfl]
  refine ⟨at_ ns3 n, v', ns3.take n, rfl, hp4, ?_, ?_, ?_, ?_, ?_⟩
  · have h5 : ns3 = ns3.take n ++ [at_ ns3 n] := by
      rw [at_get (show n < ns3.length by omega)]
      conv => lhs; rw [← List.take_length (l := ns3), hl3, List.take_add_one, List.getElem?_eq_getElem (show n < ns3.length by omega)]
      rfl
    refine ((swap_perm (by omega) (by omega)).symm.trans hpm3.symm).trans ?_
    conv => lhs; rw [h5]
    exact List.perm_append_singleton _ _
  · have : (ns3.take n).length = n := by rw [List.length_take]; omega
    rw [this]
    exact take_heap (by omega) hh3
  · intro y hy
    obtain ⟨k, hk, rfl⟩ := List.mem_iff_getElem.1 hy
    rw [e1, ← at_get hk]
    exact heap_min hh k k (Nat.le_refl _) hk
  · exact ((hx2.weaken fun l h => .inr h).trans' hx3 fun l hl => .inl (.inr hl)).trans' hx4 fun l hl => .inl hl
  · exact fun l hl => (hf4 l hl).imp id fun h => Nat.le_trans hx2.n (Nat.le_trans hx3.n h)
end Go.Proofs.Ytkjknmdnehknbaa.W

/- The least order of all. No conditions. -/
namespace Go.Proofs.Ytkjknmdnehknbaa.W
open Go.Am Go.Am.Ord Go.Am.Hp

/-- How many each one waits for, in memory. -/
structure KW (H : Heap) (b : Nat) (wv : V) (cur : List Int) (H' : Heap) : Prop where
  at_ : H'.get (b + 1) = some (.cells false [wv])
  mine : Mine b H' wv 1 (cur.map cI)
  ext : Ext H H'
theorem KW.mono {H : Heap} {b : Nat} {wv : V} {cur : List Int} {H' H'' : Heap} (h : KW H b wv cur H') (hx : Ext H' H'') : KW H b wv cur H'' := ⟨hx.get _ _ h.at_, h.mine.mono hx, h.ext.trans hx⟩
theorem KW.extB {H : Heap} {b : Nat} {wv : V} {cur : List Int} {H' H'' : Heap} {P : Nat → Prop} (h : KW H b wv cur H') (hx : ExtB P H' H'') (hb : H.n ≤ b) (ho : ∀ m, Of wv m → m = b) (hp : ∀ m, m ≤ b + 1 → ¬ P m) : KW H b wv cur H'' :=
  ⟨hx.get _ _ (hp _ (by omega)) h.at_, h.mine.ext hx fun m hm => hp _ (by have := ho _ hm; omega),
   h.ext.thenB hx fun m hm => by
    rcases Nat.lt_or_ge m (b + 2) with h1 | h1
    · exact absurd hm (hp m (by omega))
    · omega⟩
theorem KW.store {H : Heap} {b : Nat} {wv : V} {cur : List Int} {H' : Heap} (h : KW H b wv cur H') (hb : H.n ≤ b) (ho : ∀ m, Of wv m → m = b) {j : Nat} (hj : j < cur.length) (z : Int) :
    ∃ H'', storeP T H' 3 (ptrAt wv j) (.int .i64 z) = some H'' ∧ KW H b wv (cur.set j z) H'' ∧ ExtB (fun m => m = b) H' H'' := by
  obtain ⟨H'', h1, h2, h3, h4⟩ := h.mine.store1 h.ext.wf (T := T) (t := 3) (by simp only [tyfacts]) (j := j) (by simpa using hj) (x := .int .i64 z) rfl
  rw [set_cI] at h2
  exact ⟨H'', h1, ⟨h3.get _ _ (fun e => by have := ho _ e; omega) h.at_, h2, h.ext.thenB h3 fun m e => by have := ho _ e; omega⟩, h3.weaken ho⟩

theorem first_ok {H : Heap} (wf : H.WF) {l : V} {ts : List Tr5} (hl : Sl H l 5 (ts.map Tr5.cells)) (hg : ∀ t, t ∈ ts → t.Good) (hlen : ts.length ≤ 1000) :
    CallsTo T 17 [l] H fun r H' => ∃ v, r = .tuple [v, .int .i64 (firstF ts).2] ∧ Mine H.n H' v 1 ((firstF ts).1.map cI) ∧ Ext H H' := by
  refine Am.calls_enter (T := T) rfl Try.func17 rfl (by simp only [Try.f17, List.length_cons, List.length_nil]; decide) ?_
  simp only [Try.f17]
  simp (maxSteps := 10000000) (disch := first | assumption | (simp only [tyfacts, Am.wd, Nat.reduceEqDiff, Nat.reduceLT, reduceCtorEq]; try omega; done) | omega) only [Am.wanted, Am.isAlloc, Am.wb0, Am.wb1, Am.wb2, Am.wb3, Am.wb4, Am.wb5, Am.wb6, Am.wb7, Am.wb8, Am.wb9, Am.reads, Am.quiet, Am.over, Nat.testBit, Nat.reduceShiftRight, Nat.reduceAnd, Nat.reduceBNe, Nat.reduceLeDiff, Nat.reduceAdd, Nat.reduceMul, Nat.reduceLT, Nat.reduceEqDiff, Nat.reduceSub, reduceCtorEq, ↓reduceIte, tyfacts]
  refine wpX_call (check_ok wf hl (by omega)) fun r H1 ⟨hr, hx⟩ => ?_
  subst hr
  simp (maxSteps := 10000000) (disch := first | assumption | (simp only [tyfacts, Am.wd, Nat.reduceEqDiff, Nat.reduceLT, reduceCtorEq]; try omega; done) | omega) only [Am.wanted, Am.isAlloc, Am.wb0, Am.wb1, Am.wb2, Am.wb3, Am.wb4, Am.wb5, Am.wb6, Am.wb7, Am.wb8, Am.wb9, Am.reads, Am.quiet, Am.over, Nat.testBit, Nat.reduceShiftRight, Nat.reduceAnd, Nat.reduceBNe, Nat.reduceLeDiff, Nat.reduceAdd, Nat.reduceMul, Nat.reduceLT, Nat.reduceEqDiff, Nat.reduceSub, reduceCtorEq, ↓reduceIte, tyfacts]
  refine wpB_dec (fun hc => ?_) (fun hc => ?_)
  · simp (maxSteps := 10000000) (disch := first | assumption | (simp only [tyfacts, Am.wd, Nat.reduceEqDiff, Nat.reduceLT, reduceCtorEq]; try omega; done) | omega) only [Am.wanted, Am.isAlloc, Am.wb0, Am.wb1, Am.wb2, Am.wb3, Am.wb4, Am.wb5, Am.wb6, Am.wb7, Am.wb8, Am.wb9, Am.reads, Am.quiet, Am.over, Nat.testBit, Nat.reduceShiftRight, Nat.reduceAnd, Nat.reduceBNe, Nat.reduceLeDiff, Nat.reduceAdd, Nat.reduceMul, Nat.reduceLT, Nat.reduceEqDiff, Nat.reduceSub, reduceCtorEq, ↓reduceIte, tyfacts]
    refine ⟨.nilSlice, by rw [firstF, if_pos hc], ?_, hx⟩
    rw [firstF, if_pos hc]; exact Mine.nil _ _ _
  have hc0 : checkF ts = 0 := by omega
  have L := hl.len
  simp (maxSteps := 10000000) (disch := first | assumption | (simp only [tyfacts, Am.wd, Nat.reduceEqDiff, Nat.reduceLT, reduceCtorEq]; try omega; done) | omega) only [Am.wanted, Am.isAlloc, Am.wb0, Am.wb1, Am.wb2, Am.wb3, Am.wb4, Am.wb5, Am.wb6, Am.wb7, Am.wb8, Am.wb9, Am.reads, Am.quiet, Am.over, Nat.testBit, Nat.reduceShiftRight, Nat.reduceAnd, Nat.reduceBNe, Nat.reduceLeDiff, Nat.reduceAdd, Nat.reduceMul, Nat.reduceLT, Nat.reduceEqDiff, Nat.reduceSub, reduceCtorEq, ↓reduceIte, tyfacts, L]
  generalize hwv : V.slice H1.n 0 ts.length 1 (some ts.length) = wv
  have hrep : List.replicate ts.length [V.int .i64 0] = (tabF ts.length fun _ => 0).map cI := by rw [← tabF_zero]; exact rep_cI _ _
  rw [hrep]
  have hx3 : Ext H1 (H1.push (.cells false ((tabF ts.length fun _ => 0).map cI).flatten)) := (Ext.refl hx.wf).push _
  have m3 : Mine H1.n (H1.push (.cells false ((tabF ts.length fun _ => 0).map cI).flatten)) wv 1 ((tabF ts.length fun _ => 0).map cI) := by
    rw [← hwv, ← hrep]
    exact own_made hx.wf (Nat.le_refl _) 1 _ _ _ rfl (Nat.le_refl _)
  have Lw : lenS wv = some ts.length := by rw [← hwv]; rfl
  have oof : ∀ m, Of wv m → m = H1.n := fun m h => by rw [← hwv] at h; exact (of_slice.1 h).symm
  have hb : H.n ≤ H1.n := hx.n
  have hy : Ext H1 ((H1.push (.cells false ((tabF ts.length fun _ => 0).map cI).flatten)).push (.cells false [wv])) := hx3.trans ((Ext.refl hx3.wf).push _)
  have k0 : KW H H1.n wv (tabF ts.length fun _ => 0) ((H1.push (.cells false ((tabF ts.length fun _ => 0).map cI).flatten)).push (.cells false [wv])) :=
    ⟨by simp [Heap.get_push], m3.mono ((Ext.refl hx3.wf).push _), hx.trans hy⟩
  generalize hH2 : (H1.push (.cells false ((tabF ts.length fun _ => 0).map cI).flatten)).push (.cells false [wv]) = H2 at k0 hy
  refine wpX_call (pairs_ok k0.ext.wf hl.cells) fun r H3 ⟨hr, hH3⟩ => ?_
  subst hr
  have hx4 : Ext H2 H3 := by rw [hH3]; exact (Ext.refl k0.ext.wf).push _
  have p3 : H3.get H2.n = some (.cells false [l]) := by rw [hH3]; exact get_push_same _ _
  have k3 := k0.mono hx4
  simp (maxSteps := 10000000) (disch := first | assumption | (simp only [tyfacts, Am.wd, Nat.reduceEqDiff, Nat.reduceLT, reduceCtorEq]; try omega; done) | omega) only [Am.wanted, Am.isAlloc, Am.wb0, Am.wb1, Am.wb2, Am.wb3, Am.wb4, Am.wb5, Am.wb6, Am.wb7, Am.wb8, Am.wb9, Am.reads, Am.quiet, Am.over, Nat.testBit, Nat.reduceShiftRight, Nat.reduceAnd, Nat.reduceBNe, Nat.reduceLeDiff, Nat.reduceAdd, Nat.reduceMul, Nat.reduceLT, Nat.reduceEqDiff, Nat.reduceSub, reduceCtorEq, ↓reduceIte, tyfacts]
  refine Am.wpF_range (rfl) ?_
  generalize hC : Am.LC.mk 0 _ _ _ _ _ = C
  have hCt := (congrArg Am.LC.tmps hC).symm
  have hCp := (congrArg Am.LC.params hC).symm
  have hCa := (congrArg Am.LC.assign hC).symm
  have hCb := (congrArg Am.LC.body hC).symm
  simp only [] at hCt hCp hCa hCb
  clear hC
  have hx5 : Ext H3 ((H3.push (.deferred (some []))).push (loopO .ready none C)) := ((Ext.refl hx4.wf).push _).push _
  have n2 := Heap.lt k0.at_
  have n3 := Heap.lt p3
  have hpl := pairs_length ts
  have hnn : ts.length * ts.length ≤ 1000 * 1000 := Nat.mul_le_mul hlen hlen
  have main := pairs1 (v := l) (p := H2.n) hg (by omega) (.func (.yield (H3.n + 1)) [] [])
    (fun i M H' => H'.get (H3.n + 1) = some (loopO .ready none C) ∧ H'.get H3.n = some (.deferred (some [])) ∧ H'.get H2.n = some (.cells false [l]) ∧ KW H H1.n wv (tabF ts.length (cntP ts i)) H' ∧ M = fun l => l = H3.n + 1 ∨ l = H1.n)
    (fun H' => False) ?_ ?_ ?_ (fun _ _ h _ => h) ?_ (fun l => l = H3.n + 1 ∨ l = H1.n) ((H3.push (.deferred (some []))).push (loopO .ready none C)) ?_
  · refine main.mono fun r H' h => ?_
    rcases h with ⟨M, q1, q2, q3, q4, q5⟩ | h
    · have e1 := Heap.lt q1
      have e2 := Heap.lt q2
      refine ⟨.ready, none, C, q1, by simp, ?_⟩
      have q6 : KW H H1.n wv (tabF ts.length (cnt ts [])) (H'.put (H3.n + 1) (loopO .exhausted none C)) := by
        rw [← tabF_congr (fun j hj => (cntP_all hj))]
        simp only [List.length_map] at q4
        exact q4.extB (P := fun m => m = H3.n + 1) ((ExtB.refl (fun m => m = H3.n + 1) q4.ext.wf).put (.inl rfl) e1 _) hb oof fun m hm e => by omega
      have q7 : (H'.put (H3.n + 1) (loopO .exhausted none C)).get H3.n = some (.deferred (some [])) := by rw [Heap.get_put_ne (by omega)]; exact q2
      generalize hH4 : H'.put (H3.n + 1) (loopO .exhausted none C) = H4 at q6 q7
      have hd4 : H3.n + 2 ≤ H4.n := by rw [← hH4]; simp; omega
      have c4 := cellsAt_of_get q6.at_
      have c4' : cellsAt ((H4.push (.cells false [])).push (.cells false [.slice H4.n 0 0 1 (some 0)])) (H1.n + 1) = some [wv] := by
        rw [cellsAt_push (by simp; omega), cellsAt_push (by omega)]; exact c4
      simp (maxSteps := 10000000) (disch := first | assumption | (simp only [tyfacts, Am.wd, Nat.reduceEqDiff, Nat.reduceLT, reduceCtorEq]; try omega; done) | omega) only [Am.wanted, Am.isAlloc, Am.wb0, Am.wb1, Am.wb2, Am.wb3, Am.wb4, Am.wb5, Am.wb6, Am.wb7, Am.wb8, Am.wb9, Am.reads, Am.quiet, Am.over, Nat.testBit, Nat.reduceShiftRight, Nat.reduceAnd, Nat.reduceBNe, Nat.reduceLeDiff, Nat.reduceAdd, Nat.reduceMul, Nat.reduceLT, Nat.reduceEqDiff, Nat.reduceSub, reduceCtorEq, ↓reduceIte, tyfacts, c4', Lw]
      have hx6 : Ext H4 ((H4.push (.cells false [])).push (.cells false [.slice H4.n 0 0 1 (some 0)])) := ((Ext.refl q6.ext.wf).push _).push _
      have hp0 : HP ((H4.push (.cells false [])).push (.cells false [.slice H4.n 0 0 1 (some 0)])) H4.n (H4.n + 1) (.slice H4.n 0 0 1 (some 0)) [] := by
        refine ⟨hx6.wf, by simp [Heap.get_push], (Mine.empty q6.ext.wf (Nat.le_refl _) 1).mono ((Ext.refl ((Ext.refl q6.ext.wf).push _).wf).push _), ?_, by simp, hx6.n⟩
        intro e; have := of_slice.1 e; omega
      refine wpK_loop_ind _ (fun i : Nat => ts.length - i) (fun i a H' => a.tmps.n = 94 ∧ a.defers = [D.collected H3.n] ∧ a.tmp 0 = l ∧ a.tmp 2 = .nilSlice ∧ a.tmp 4 = .ptr (H1.n + 1) 0 ∧ a.tmp 7 = .ptr (H4.n + 1) 0 ∧ a.tmp 33 = wv ∧ a.tmp 34 = .int .i64 ts.length ∧ a.tmp 35 = .int .i64 i ∧
        KW H H1.n wv (tabF ts.length (cnt ts [])) H' ∧ H'.get H3.n = some (.deferred (some [])) ∧ (∃ v ns, HP H' H4.n (H4.n + 1) v ns ∧ ns.Perm (castL ((List.range i).filter fun k => decide (cnt ts [] k = 0))) ∧ IsHeap ns ns.length) ∧ i ≤ ts.length) 0 ?_ ?_
      · simp (maxSteps := 10000000) (disch := first | assumption | (simp only [tyfacts, Am.wd, Nat.reduceEqDiff, Nat.reduceLT, reduceCtorEq]; try omega; done) | omega) only [Am.wanted, Am.isAlloc, Am.wb0, Am.wb1, Am.wb2, Am.wb3, Am.wb4, Am.wb5, Am.wb6, Am.wb7, Am.wb8, Am.wb9, Am.reads, Am.quiet, Am.over, Nat.testBit, Nat.reduceShiftRight, Nat.reduceAnd, Nat.reduceBNe, Nat.reduceLeDiff, Nat.reduceAdd, Nat.reduceMul, Nat.reduceLT, Nat.reduceEqDiff, Nat.reduceSub, reduceCtorEq, ↓reduceIte, tyfacts]
        exact ⟨rfl, q6.mono hx6, q7, ⟨_, _, hp0, List.Perm.refl _, fun k h1 h2 => by simp at h2⟩, by omega⟩
      intro i a H5 ⟨hn, hd, h0, h2, h4, h7, h33, h34, h35, kw, hdf, ⟨v, ns, hp, hpm, hh⟩, hi⟩ ih
      have hnl := hpm.length_eq
      have hnl2 : ((List.range i).filter fun k => decide (cnt ts [] k = 0)).length ≤ i := Nat.le_trans (List.length_filter_le _ _) (by simp)
      rw [castL_len] at hnl
      simp (maxSteps := 10000000) (disch := first | assumption | (simp only [tyfacts, Am.wd, Nat.reduceEqDiff, Nat.reduceLT, reduceCtorEq]; try omega; done) | omega) only [Am.wanted, Am.isAlloc, Am.wb0, Am.wb1, Am.wb2, Am.wb3, Am.wb4, Am.wb5, Am.wb6, Am.wb7, Am.wb8, Am.wb9, Am.reads, Am.quiet, Am.over, Nat.testBit, Nat.reduceShiftRight, Nat.reduceAnd, Nat.reduceBNe, Nat.reduceLeDiff, Nat.reduceAdd, Nat.reduceMul, Nat.reduceLT, Nat.reduceEqDiff, Nat.reduceSub, reduceCtorEq, ↓reduceIte, tyfacts, h34, h35, hn]
      refine wpB_dec (fun hq => ?_) (fun hq => ?_)
      · have hj : i < ts.length := by omega
        have hsl := kw.mine.sl
        have lu := tabF_len ts.length (cnt ts [])
        have a2 := tabF_get (f := cnt ts []) hj
        simp (maxSteps := 10000000) (disch := first | assumption | (simp only [tyfacts, Am.wd, Nat.reduceEqDiff, Nat.reduceLT, reduceCtorEq]; try omega; done) | omega) only [Am.wanted, Am.isAlloc, Am.wb0, Am.wb1, Am.wb2, Am.wb3, Am.wb4, Am.wb5, Am.wb6, Am.wb7, Am.wb8, Am.wb9, Am.reads, Am.quiet, Am.over, Nat.testBit, Nat.reduceShiftRight, Nat.reduceAnd, Nat.reduceBNe, Nat.reduceLeDiff, Nat.reduceAdd, Nat.reduceMul, Nat.reduceLT, Nat.reduceEqDiff, Nat.reduceSub, reduceCtorEq, ↓reduceIte, tyfacts, h33, h35, hn, hsl.idx, hsl.load1, a2, cI]
        refine wpB_dec (fun hz => ?_) (fun hz => ?_)
        · simp (maxSteps := 10000000) (disch := first | assumption | (simp only [tyfacts, Am.wd, Nat.reduceEqDiff, Nat.reduceLT, reduceCtorEq]; try omega; done) | omega) only [Am.wanted, Am.isAlloc, Am.wb0, Am.wb1, Am.wb2, Am.wb3, Am.wb4, Am.wb5, Am.wb6, Am.wb7, Am.wb8, Am.wb9, Am.reads, Am.quiet, Am.over, Nat.testBit, Nat.reduceShiftRight, Nat.reduceAnd, Nat.reduceBNe, Nat.reduceLeDiff, Nat.reduceAdd, Nat.reduceMul, Nat.reduceLT, Nat.reduceEqDiff, Nat.reduceSub, reduceCtorEq, ↓reduceIte, tyfacts, h7, hn]
          have hpush := heapPush hp hh (i : Int) (by omega)
          simp only [hI] at hpush
          refine wpX_call hpush fun r H6 ⟨v', ns', hp6, hpm6, hh6, hx6, hf6⟩ => ?_
          simp (maxSteps := 10000000) (disch := first | assumption | (simp only [tyfacts, Am.wd, Nat.reduceEqDiff, Nat.reduceLT, reduceCtorEq]; try omega; done) | omega) only [Am.wanted, Am.isAlloc, Am.wb0, Am.wb1, Am.wb2, Am.wb3, Am.wb4, Am.wb5, Am.wb6, Am.wb7, Am.wb8, Am.wb9, Am.reads, Am.quiet, Am.over, Nat.testBit, Nat.reduceShiftRight, Nat.reduceAnd, Nat.reduceBNe, Nat.reduceLeDiff, Nat.reduceAdd, Nat.reduceMul, Nat.reduceLT, Nat.reduceEqDiff, Nat.reduceSub, reduceCtorEq, ↓reduceIte, tyfacts, h35, hn]
          refine ih (i + 1) _ _ (by omega) ?_
          simp (maxSteps := 10000000) (disch := first | assumption | (simp only [tyfacts, Am.wd, Nat.reduceEqDiff, Nat.reduceLT, reduceCtorEq]; try omega; done) | omega) only [Am.wanted, Am.isAlloc, Am.wb0, Am.wb1, Am.wb2, Am.wb3, Am.wb4, Am.wb5, Am.wb6, Am.wb7, Am.wb8, Am.wb9, Am.reads, Am.quiet, Am.over, Nat.testBit, Nat.reduceShiftRight, Nat.reduceAnd, Nat.reduceBNe, Nat.reduceLeDiff, Nat.reduceAdd, Nat.reduceMul, Nat.reduceLT, Nat.reduceEqDiff, Nat.reduceSub, reduceCtorEq, ↓reduceIte, tyfacts, hn, hd, h0, h2, h4, h7, h33, h34]
          have hPlow : ∀ m, m ≤ H1.n + 1 → ¬ (m = H4.n + 1 ∨ Of v m) := by
            rintro m hm (rfl | h)
            · omega
            · have := hp.mine.ge h; omega
          refine ⟨by simp, kw.extB hx6 hb oof hPlow, hx6.get _ _ ?_ hdf, ⟨v', ns', hp6, ?_, hh6⟩, by omega⟩
          · rintro (h | h)
            · omega
            · have := hp.mine.ge h; omega
          · refine hpm6.trans ?_
            rw [List.range_succ, List.filter_append, castL_append]
            have hz' : cnt ts [] i = 0 := by omega
            simp only [List.filter_cons, hz', decide_true, if_true, List.filter_nil]
            exact (List.Perm.cons _ hpm).trans (List.perm_append_singleton _ _).symm
        · simp (maxSteps := 10000000) (disch := first | assumption | (simp only [tyfacts, Am.wd, Nat.reduceEqDiff, Nat.reduceLT, reduceCtorEq]; try omega; done) | omega) only [Am.wanted, Am.isAlloc, Am.wb0, Am.wb1, Am.wb2, Am.wb3, Am.wb4, Am.wb5, Am.wb6, Am.wb7, Am.wb8, Am.wb9, Am.reads, Am.quiet, Am.over, Nat.testBit, Nat.reduceShiftRight, Nat.reduceAnd, Nat.reduceBNe, Nat.reduceLeDiff, Nat.reduceAdd, Nat.reduceMul, Nat.reduceLT, Nat.reduceEqDiff, Nat.reduceSub, reduceCtorEq, ↓reduceIte, tyfacts, h35, hn]
          refine ih (i + 1) _ _ (by omega) ?_
          simp (maxSteps := 10000000) (disch := first | assumption | (simp only [tyfacts, Am.wd, Nat.reduceEqDiff, Nat.reduceLT, reduceCtorEq]; try omega; done) | omega) only [Am.wanted, Am.isAlloc, Am.wb0, Am.wb1, Am.wb2, Am.wb3, Am.wb4, Am.wb5, Am.wb6, Am.wb7, Am.wb8, Am.wb9, Am.reads, Am.quiet, Am.over, Nat.testBit, Nat.reduceShiftRight, Nat.reduceAnd, Nat.reduceBNe, Nat.reduceLeDiff, Nat.reduceAdd, Nat.reduceMul, Nat.reduceLT, Nat.reduceEqDiff, Nat.reduceSub, reduceCtorEq, ↓reduceIte, tyfacts, hn, hd, h0, h2, h4, h7, h33, h34]
          refine ⟨by simp, kw, hdf, ⟨v, ns, hp, ?_, hh⟩, by omega⟩
          rw [List.range_succ, List.filter_append, castL_append]
          have hz' : ¬ cnt ts [] i = 0 := by omega
          simp only [List.filter_cons, hz', decide_false, List.filter_nil]
          simpa [castL] using hpm
      · have : i = ts.length := by omega
        subst this
        rw [← R_nil] at hpm
        simp (maxSteps := 10000000) (disch := first | assumption | (simp only [tyfacts, Am.wd, Nat.reduceEqDiff, Nat.reduceLT, reduceCtorEq]; try omega; done) | omega) only [Am.wanted, Am.isAlloc, Am.wb0, Am.wb1, Am.wb2, Am.wb3, Am.wb4, Am.wb5, Am.wb6, Am.wb7, Am.wb8, Am.wb9, Am.reads, Am.quiet, Am.over, Nat.testBit, Nat.reduceShiftRight, Nat.reduceAnd, Nat.reduceBNe, Nat.reduceLeDiff, Nat.reduceAdd, Nat.reduceMul, Nat.reduceLT, Nat.reduceEqDiff, Nat.reduceSub, reduceCtorEq, ↓reduceIte, tyfacts, hn, hd]
        clear ih hq h33 h34 h35 hi hnl hnl2
        refine wpK_loop_ind _ (fun o : List Nat => ts.length - o.length) (fun o a H' => a.tmps.n = 94 ∧ a.defers = [D.collected H3.n] ∧ a.tmp 0 = l ∧ a.tmp 4 = .ptr (H1.n + 1) 0 ∧ a.tmp 7 = .ptr (H4.n + 1) 0 ∧
          Mine (H4.n + 2) H' (a.tmp 2) 1 ((castL o).map cI) ∧ KW H H1.n wv (tabF ts.length (cnt ts o)) H' ∧ H'.get H3.n = some (.deferred (some [])) ∧ Inv ts o ∧
          (∃ v ns, HP H' H4.n (H4.n + 1) v ns ∧ ns.Perm (castL (R ts o)) ∧ IsHeap ns ns.length ∧ ∀ m, Of (a.tmp 2) m → ¬ Of v m) ∧ H4.n + 2 ≤ H'.n) [] ?_ ?_
        · simp (maxSteps := 10000000) (disch := first | assumption | (simp only [tyfacts, Am.wd, Nat.reduceEqDiff, Nat.reduceLT, reduceCtorEq]; try omega; done) | omega) only [Am.wanted, Am.isAlloc, Am.wb0, Am.wb1, Am.wb2, Am.wb3, Am.wb4, Am.wb5, Am.wb6, Am.wb7, Am.wb8, Am.wb9, Am.reads, Am.quiet, Am.over, Nat.testBit, Nat.reduceShiftRight, Nat.reduceAnd, Nat.reduceBNe, Nat.reduceLeDiff, Nat.reduceAdd, Nat.reduceMul, Nat.reduceLT, Nat.reduceEqDiff, Nat.reduceSub, reduceCtorEq, ↓reduceIte, tyfacts, hn, hd, h0, h2, h4, h7]
          have := Heap.lt hp.ptr
          exact ⟨Mine.nil _ _ _, kw, hdf, Inv.nil hc0, ⟨v, ns, hp, hpm, hh, fun m h => absurd h of_nil⟩, by omega⟩
        clear hpm hh hp kw hdf hn hd h0 h2 h4 h7 H5 a v ns
        intro o a H5 ⟨hn, hd, h0, h4, h7, ho2, kw, hdf, inv, ⟨v, ns, hp, hpm, hh, hdis⟩, hlb⟩ ih
        generalize h2 : a.tmp 2 = vo at ho2 hdis
        have hnl := hpm.length_eq
        rw [castL_len] at hnl
        have hRl : (R ts o).length ≤ ts.length := Nat.le_trans (List.length_filter_le _ _) (by simp)
        have c5 := cellsAt_of_get hp.ptr
        simp (maxSteps := 10000000) (disch := first | assumption | (simp only [tyfacts, Am.wd, Nat.reduceEqDiff, Nat.reduceLT, reduceCtorEq]; try omega; done) | omega) only [Am.wanted, Am.isAlloc, Am.wb0, Am.wb1, Am.wb2, Am.wb3, Am.wb4, Am.wb5, Am.wb6, Am.wb7, Am.wb8, Am.wb9, Am.reads, Am.quiet, Am.over, Nat.testBit, Nat.reduceShiftRight, Nat.reduceAnd, Nat.reduceBNe, Nat.reduceLeDiff, Nat.reduceAdd, Nat.reduceMul, Nat.reduceLT, Nat.reduceEqDiff, Nat.reduceSub, reduceCtorEq, ↓reduceIte, tyfacts, h7, hn, c5]
        refine wpX_call (hlen_ok hp.wf hp.mine.sl) fun r H5' ⟨hr, hH5'⟩ => ?_
        subst hr
        subst hH5'
        simp (maxSteps := 10000000) (disch := first | assumption | (simp only [tyfacts, Am.wd, Nat.reduceEqDiff, Nat.reduceLT, reduceCtorEq]; try omega; done) | omega) only [Am.wanted, Am.isAlloc, Am.wb0, Am.wb1, Am.wb2, Am.wb3, Am.wb4, Am.wb5, Am.wb6, Am.wb7, Am.wb8, Am.wb9, Am.reads, Am.quiet, Am.over, Nat.testBit, Nat.reduceShiftRight, Nat.reduceAnd, Nat.reduceBNe, Nat.reduceLeDiff, Nat.reduceAdd, Nat.reduceMul, Nat.reduceLT, Nat.reduceEqDiff, Nat.reduceSub, reduceCtorEq, ↓reduceIte, tyfacts, hn]
        refine wpB_dec (fun hq => ?_) (fun hq => ?_)
        · have hne : ns ≠ [] := by rintro rfl; simp at hq
          simp (maxSteps := 10000000) (disch := first | assumption | (simp only [tyfacts, Am.wd, Nat.reduceEqDiff, Nat.reduceLT, reduceCtorEq]; try omega; done) | omega) only [Am.wanted, Am.isAlloc, Am.wb0, Am.wb1, Am.wb2, Am.wb3, Am.wb4, Am.wb5, Am.wb6, Am.wb7, Am.wb8, Am.wb9, Am.reads, Am.quiet, Am.over, Nat.testBit, Nat.reduceShiftRight, Nat.reduceAnd, Nat.reduceBNe, Nat.reduceLeDiff, Nat.reduceAdd, Nat.reduceMul, Nat.reduceLT, Nat.reduceEqDiff, Nat.reduceSub, reduceCtorEq, ↓reduceIte, tyfacts, h7, hn]
          have hpop := heapPop hp hh hne (by omega)
          simp only [hI] at hpop
          refine wpX_call hpop fun r H6 ⟨m, v6, ns6, hr, hp6, hpm6, hh6, hmin, hx6, hf6⟩ => ?_
          subst hr
          -- which one it is
          have hmem : m ∈ castL (R ts o) := (hpm.symm.trans hpm6).mem_iff.2 (by simp)
          obtain ⟨mN, hmN, hme⟩ := List.mem_map.1 hmem
          subst hme
          have hleast : ∀ y, y ∈ R ts o → mN ≤ y := by
            intro y hy
            have := hmin (y : Int) (hpm.mem_iff.2 (mem_castL.2 hy))
            omega
          obtain ⟨hm1, hm2, hm3⟩ := mem_R.1 hmN
          have inv' := inv.step hmN hleast
          have hpm7 : ns6.Perm (castL ((R ts o).erase mN)) := by
            have h8 : (castL (R ts o)).Perm (castL (mN :: (R ts o).erase mN)) := (List.perm_cons_erase hmN).map _
            exact List.Perm.cons_inv ((hpm6.symm.trans hpm).trans h8)
          have hlow : ∀ m, m ≤ H1.n + 1 → ¬ (m = H4.n + 1 ∨ Of v m) := by
            rintro m hm (rfl | h)
            · omega
            · have := hp.mine.ge h; omega
          have ho6 : Mine (H4.n + 2) H6 vo 1 ((castL o).map cI) := ho2.ext hx6 fun l hl h => by
            rcases h with rfl | h
            · have := ho2.ge hl; omega
            · exact hdis l hl h
          have kw6 := kw.extB hx6 hb oof hlow
          have hdf6 : H6.get H3.n = some (.deferred (some [])) := hx6.get _ _ (by
            rintro (h | h)
            · omega
            · have := hp.mine.ge h; omega) hdf
          have ha : appOk T 22 22 = some (1, 8) := by simp only [tyfacts]
          have hol := inv.goes.1
          have hap := append_one ho6 hx6.wf (Nat.le_trans hlb hx6.n) (k := H6.n) rfl ha (f := cI (mN : Int)) rfl rfl (by simp [castL_len]; omega) (by simp [castL_len]; omega)
          obtain ⟨vo', H7, p1, p2, p3, p4⟩ := hap
          have hdis6 : ∀ l, Of v6 l → ¬ Of vo l := fun l h1 h2 => by
            rcases hf6 l h1 with h | h
            · exact hdis l h2 h
            · have := ho2.lt h2; omega
          have kw7 := kw6.extB p3 hb oof fun m hm h => by have := ho2.ge h; omega
          have hdf7 : H7.get H3.n = some (.deferred (some [])) := p3.get _ _ (fun h => by have := ho2.ge h; omega) hdf6
          have hp7 := hp6.extB p3 (fun h => by have := ho2.ge h; omega) hdis6
          have hdis7 : ∀ l, Of vo' l → ¬ Of v6 l := fun l h1 h2 => by
            rcases p4 l h1 with h | h
            · exact hdis6 l h2 h
            · have := hp6.mine.lt h2; omega
          have n7 : H4.n + 2 ≤ H7.n := Nat.le_trans hlb (Nat.le_trans hx6.n p3.n)
          have p2' : Mine (H4.n + 2) H7 vo' 1 ((castL (o ++ [mN])).map cI) := by rw [castL_append, List.map_append]; exact p2
          simp only [cI] at p1
          simp (maxSteps := 10000000) (disch := first | assumption | (simp only [tyfacts, Am.wd, Nat.reduceEqDiff, Nat.reduceLT, reduceCtorEq]; try omega; done) | omega) only [Am.wanted, Am.isAlloc, Am.wb0, Am.wb1, Am.wb2, Am.wb3, Am.wb4, Am.wb5, Am.wb6, Am.wb7, Am.wb8, Am.wb9, Am.reads, Am.quiet, Am.over, Nat.testBit, Nat.reduceShiftRight, Nat.reduceAnd, Nat.reduceBNe, Nat.reduceLeDiff, Nat.reduceAdd, Nat.reduceMul, Nat.reduceLT, Nat.reduceEqDiff, Nat.reduceSub, reduceCtorEq, ↓reduceIte, tyfacts, hn, h0, h2, p1, L]
          refine wpK_loop_ind _ (fun k : Nat => ts.length - k) (fun k a H' => a.tmps.n = 94 ∧ a.defers = [D.collected H3.n] ∧ a.tmp 0 = l ∧ a.tmp 2 = vo' ∧ a.tmp 4 = .ptr (H1.n + 1) 0 ∧ a.tmp 7 = .ptr (H4.n + 1) 0 ∧ a.tmp 10 = .int .i64 mN ∧ a.tmp 61 = l ∧ a.tmp 62 = .int .i64 ts.length ∧ a.tmp 63 = .int .i64 k ∧
            Mine (H4.n + 2) H' vo' 1 ((castL (o ++ [mN])).map cI) ∧ KW H H1.n wv (tabF ts.length fun j => if j < k then cnt ts (o ++ [mN]) j else cnt ts o j) H' ∧ H'.get H3.n = some (.deferred (some [])) ∧
            (∃ v ns, HP H' H4.n (H4.n + 1) v ns ∧ ns.Perm (castL ((R ts o).erase mN ++ newly ts o mN k)) ∧ IsHeap ns ns.length ∧ ∀ m, Of vo' m → ¬ Of v m) ∧ H4.n + 2 ≤ H'.n ∧ k ≤ ts.length) 0 ?_ ?_
          · simp (maxSteps := 10000000) (disch := first | assumption | (simp only [tyfacts, Am.wd, Nat.reduceEqDiff, Nat.reduceLT, reduceCtorEq]; try omega; done) | omega) only [Am.wanted, Am.isAlloc, Am.wb0, Am.wb1, Am.wb2, Am.wb3, Am.wb4, Am.wb5, Am.wb6, Am.wb7, Am.wb8, Am.wb9, Am.reads, Am.quiet, Am.over, Nat.testBit, Nat.reduceShiftRight, Nat.reduceAnd, Nat.reduceBNe, Nat.reduceLeDiff, Nat.reduceAdd, Nat.reduceMul, Nat.reduceLT, Nat.reduceEqDiff, Nat.reduceSub, reduceCtorEq, ↓reduceIte, tyfacts, hn, hd, h0, h4, h7]
            refine ⟨by simp, p2', by simpa using kw7, hdf7, ⟨v6, ns6, hp7, by simpa [newly] using hpm7, hh6, hdis7⟩, n7, by omega⟩
          clear hdis7 hp7 hdf7 kw7 hdis6 hdf6 kw6 ho6 hlow hpm7 hmin hf6 hx6 hh6 hpm6 hp6 hq hdis hh hpm hp hdf kw p1 p2 p3 p4 p2' n7
          clear hn hd h0 h4 h7 ho2 h2 hnl c5
          intro k a H8 ⟨hn, hd, h0, h2, h4, h7, h10, h61, h62, h63, mo, kw, hdf, ⟨v8, ns8, hp, hpm, hh, hdis⟩, hlb8, hk⟩ ih2
          have hx8 := kw.ext
          have hl8 := hl.mono hx8
          simp (maxSteps := 10000000) (disch := first | assumption | (simp only [tyfacts, Am.wd, Nat.reduceEqDiff, Nat.reduceLT, reduceCtorEq]; try omega; done) | omega) only [Am.wanted, Am.isAlloc, Am.wb0, Am.wb1, Am.wb2, Am.wb3, Am.wb4, Am.wb5, Am.wb6, Am.wb7, Am.wb8, Am.wb9, Am.reads, Am.quiet, Am.over, Nat.testBit, Nat.reduceShiftRight, Nat.reduceAnd, Nat.reduceBNe, Nat.reduceLeDiff, Nat.reduceAdd, Nat.reduceMul, Nat.reduceLT, Nat.reduceEqDiff, Nat.reduceSub, reduceCtorEq, ↓reduceIte, tyfacts, h62, h63, hn]
          refine wpB_dec (fun hq => ?_) (fun hq => ?_)
          · have hj : k < ts.length := by omega
            have gk := hg ts[k] (List.getElem_mem hj)
            have q2 : Ext H8 (H8.push (.cells false [ts[k].nm, .int .i64 ts[k].b, .int .i64 ts[k].c, ts[k].acts, ts[k].at_])) := (Ext.refl hx8.wf).push _
            simp (maxSteps := 10000000) (disch := first | assumption | (simp only [tyfacts, Am.wd, Nat.reduceEqDiff, Nat.reduceLT, reduceCtorEq]; try omega; done) | omega) only [Am.wanted, Am.isAlloc, Am.wb0, Am.wb1, Am.wb2, Am.wb3, Am.wb4, Am.wb5, Am.wb6, Am.wb7, Am.wb8, Am.wb9, Am.reads, Am.quiet, Am.over, Nat.testBit, Nat.reduceShiftRight, Nat.reduceAnd, Nat.reduceBNe, Nat.reduceLeDiff, Nat.reduceAdd, Nat.reduceMul, Nat.reduceLT, Nat.reduceEqDiff, Nat.reduceSub, reduceCtorEq, ↓reduceIte, tyfacts, h61, h63, hn, hl8.idx, hl8.loadG, Tr5.cells, gk.1, gk.2.1, gk.2.2]
            refine Am.wpK_draw 8 [0, 1, 2, 3, 4, 5, 6, 7] (q2).wf (by kernel_rfl) ?_
            have hx9 := (q2).keep 8
            generalize hH9 : Am.Heap.keep _ _ = H9
            replace hx9 : Am.Ext _ H9 := hH9 ▸ hx9
            have hl9 := hl8.mono hx9
            have g9 : cellsAt H9 H8.n = some [ts[k].nm, .int .i64 ts[k].b, .int .i64 ts[k].c, ts[k].acts, ts[k].at_] := by
              rw [← hH9]
              exact cellsAt_of_get (by rw [Heap.get_keep q2.wf]; exact get_push_same _ _)
            simp (maxSteps := 10000000) (disch := first | assumption | (simp only [tyfacts, Am.wd, Nat.reduceEqDiff, Nat.reduceLT, reduceCtorEq]; try omega; done) | omega) only [Am.wanted, Am.isAlloc, Am.wb0, Am.wb1, Am.wb2, Am.wb3, Am.wb4, Am.wb5, Am.wb6, Am.wb7, Am.wb8, Am.wb9, Am.reads, Am.quiet, Am.over, Nat.testBit, Nat.reduceShiftRight, Nat.reduceAnd, Nat.reduceBNe, Nat.reduceLeDiff, Nat.reduceAdd, Nat.reduceMul, Nat.reduceLT, Nat.reduceEqDiff, Nat.reduceSub, reduceCtorEq, ↓reduceIte, tyfacts, h0, h10, h63, hn, hl9.idx, hl9.isPtr, hl9.loadF, Tr5.cells, g9]
            have hpe : prec ts mN k = decide (ts[mN].c < ts[k].b) := prec_eq hm1 hj
            have hcs := cnt_snoc hm1 hm2 k
            have hx89 : Ext H8 H9 := hx9
            have mo9 := mo.mono hx89
            have kw9 := kw.mono hx89
            have hdf9 := hx89.get _ _ hdf
            have hp9 := hp.mono hx89
            have n9 : H4.n + 2 ≤ H9.n := Nat.le_trans hlb8 hx89.n
            have hnl := hpm.length_eq
            have hns : ns8.length < 100000 := by
              have e1 : ((R ts o).erase mN).length ≤ ts.length := Nat.le_trans (List.length_erase_le) (Nat.le_trans (List.length_filter_le _ _) (by simp))
              have e2 : (newly ts o mN k).length ≤ k := Nat.le_trans (List.length_filter_le _ _) (by simp)
              rw [castL_len, List.length_append] at hnl; omega
            have c9 := cellsAt_of_get kw9.at_
            have hsl := kw9.mine.sl
            have lu := tabF_len ts.length fun j => if j < k then cnt ts (o ++ [mN]) j else cnt ts o j
            have a2 : (tabF ts.length fun j => if j < k then cnt ts (o ++ [mN]) j else cnt ts o j)[k]'(by rw [lu]; exact hj) = (cnt ts o k : Int) := by rw [tabF_get hj, if_neg (by omega)]
            refine wpB_dec (fun hpc => ?_) (fun hpc => ?_)
            · have hpt : prec ts mN k = true := by rw [hpe]; simpa using hpc
              rw [if_pos hpt] at hcs
              have hz1 : (cnt ts o k : Int) - 1 = (cnt ts (o ++ [mN]) k : Int) := by omega
              have hcl := cnt_le ts o k
              obtain ⟨H10, s1, kw10, s3⟩ := kw9.store hb oof (j := k) (by rw [lu]; exact hj) (cnt ts (o ++ [mN]) k : Int)
              have e10 := tabF_set (g := fun j => if j < k + 1 then cnt ts (o ++ [mN]) j else cnt ts o j) (f := fun j => if j < k then cnt ts (o ++ [mN]) j else cnt ts o j) (z := (cnt ts (o ++ [mN]) k : Int)) hj (by simp) (fun j hj' hne => by
                by_cases h : j < k
                · simp only [if_pos h, if_pos (show j < k + 1 by omega)]
                · simp only [if_neg h, if_neg (show ¬ j < k + 1 by omega)])
              rw [e10] at kw10
              have mo10 : Mine (H4.n + 2) H10 vo' 1 ((castL (o ++ [mN])).map cI) := mo9.ext s3 fun l hl h => by have := mo9.ge hl; omega
              have hdf10 : H10.get H3.n = some (.deferred (some [])) := s3.get _ _ (by omega) hdf9
              have hp10 := hp9.extB s3 (by omega) fun l hl h => by have := hp9.mine.ge hl; omega
              have c10 := cellsAt_of_get kw10.at_
              have hsl10 := kw10.mine.sl
              have lu10 := tabF_len ts.length fun j => if j < k + 1 then cnt ts (o ++ [mN]) j else cnt ts o j
              have a10 : (tabF ts.length fun j => if j < k + 1 then cnt ts (o ++ [mN]) j else cnt ts o j)[k]'(by rw [lu10]; exact hj) = (cnt ts (o ++ [mN]) k : Int) := by rw [tabF_get hj, if_pos (by omega)]
              simp (maxSteps := 10000000) (disch := first | assumption | (simp only [tyfacts, Am.wd, Nat.reduceEqDiff, Nat.reduceLT, reduceCtorEq]; try omega; done) | omega) only [Am.wanted, Am.isAlloc, Am.wb0, Am.wb1, Am.wb2, Am.wb3, Am.wb4, Am.wb5, Am.wb6, Am.wb7, Am.wb8, Am.wb9, Am.reads, Am.quiet, Am.over, Nat.testBit, Nat.reduceShiftRight, Nat.reduceAnd, Nat.reduceBNe, Nat.reduceLeDiff, Nat.reduceAdd, Nat.reduceMul, Nat.reduceLT, Nat.reduceEqDiff, Nat.reduceSub, reduceCtorEq, ↓reduceIte, tyfacts, hn, h4, c9, hsl.idx, hsl.load1, a2, cI, hz1, s1, c10, hsl10.idx, hsl10.load1, a10]
              refine wpB_dec (fun hz => ?_) (fun hz => ?_)
              · simp (maxSteps := 10000000) (disch := first | assumption | (simp only [tyfacts, Am.wd, Nat.reduceEqDiff, Nat.reduceLT, reduceCtorEq]; try omega; done) | omega) only [Am.wanted, Am.isAlloc, Am.wb0, Am.wb1, Am.wb2, Am.wb3, Am.wb4, Am.wb5, Am.wb6, Am.wb7, Am.wb8, Am.wb9, Am.reads, Am.quiet, Am.over, Nat.testBit, Nat.reduceShiftRight, Nat.reduceAnd, Nat.reduceBNe, Nat.reduceLeDiff, Nat.reduceAdd, Nat.reduceMul, Nat.reduceLT, Nat.reduceEqDiff, Nat.reduceSub, reduceCtorEq, ↓reduceIte, tyfacts, hn, h7]
                have hpush := heapPush hp10 hh (k : Int) hns
                simp only [hI] at hpush
                refine wpX_call hpush fun r H11 ⟨v', ns', hp11, hpm11, hh11, hx11, hf11⟩ => ?_
                simp (maxSteps := 10000000) (disch := first | assumption | (simp only [tyfacts, Am.wd, Nat.reduceEqDiff, Nat.reduceLT, reduceCtorEq]; try omega; done) | omega) only [Am.wanted, Am.isAlloc, Am.wb0, Am.wb1, Am.wb2, Am.wb3, Am.wb4, Am.wb5, Am.wb6, Am.wb7, Am.wb8, Am.wb9, Am.reads, Am.quiet, Am.over, Nat.testBit, Nat.reduceShiftRight, Nat.reduceAnd, Nat.reduceBNe, Nat.reduceLeDiff, Nat.reduceAdd, Nat.reduceMul, Nat.reduceLT, Nat.reduceEqDiff, Nat.reduceSub, reduceCtorEq, ↓reduceIte, tyfacts, hn, h63]
                refine ih2 (k + 1) _ _ (by omega) ?_
                simp (maxSteps := 10000000) (disch := first | assumption | (simp only [tyfacts, Am.wd, Nat.reduceEqDiff, Nat.reduceLT, reduceCtorEq]; try omega; done) | omega) only [Am.wanted, Am.isAlloc, Am.wb0, Am.wb1, Am.wb2, Am.wb3, Am.wb4, Am.wb5, Am.wb6, Am.wb7, Am.wb8, Am.wb9, Am.reads, Am.quiet, Am.over, Nat.testBit, Nat.reduceShiftRight, Nat.reduceAnd, Nat.reduceBNe, Nat.reduceLeDiff, Nat.reduceAdd, Nat.reduceMul, Nat.reduceLT, Nat.reduceEqDiff, Nat.reduceSub, reduceCtorEq, ↓reduceIte, tyfacts, hn, hd, h0, h2, h4, h7, h10, h61, h62]
                have hlow : ∀ m, m ≤ H1.n + 1 → ¬ (m = H4.n + 1 ∨ Of v8 m) := by
                  rintro m hm (rfl | h)
                  · omega
                  · have := hp10.mine.ge h; omega
                refine ⟨by simp, mo10.ext hx11 fun l hl h => ?_, kw10.extB hx11 hb oof hlow, hx11.get _ _ ?_ hdf10, ⟨v', ns', hp11, ?_, hh11, fun m h1 h2 => ?_⟩, Nat.le_trans n9 (Nat.le_trans s3.n hx11.n), by omega⟩
                · rcases h with rfl | h
                  · have := mo10.ge hl; omega
                  · exact hdis l hl h
                · rintro (h | h)
                  · omega
                  · have := hp10.mine.ge h; omega
                · refine hpm11.trans ?_
                  rw [newly_succ, if_pos ⟨hpt, by omega⟩, ← List.append_assoc, castL_append]
                  exact (List.Perm.cons _ hpm).trans (List.perm_append_singleton _ _).symm
                · rcases hf11 m h2 with h | h
                  · exact hdis m h1 h
                  · have := mo10.lt h1; omega
              · simp (maxSteps := 10000000) (disch := first | assumption | (simp only [tyfacts, Am.wd, Nat.reduceEqDiff, Nat.reduceLT, reduceCtorEq]; try omega; done) | omega) only [Am.wanted, Am.isAlloc, Am.wb0, Am.wb1, Am.wb2, Am.wb3, Am.wb4, Am.wb5, Am.wb6, Am.wb7, Am.wb8, Am.wb9, Am.reads, Am.quiet, Am.over, Nat.testBit, Nat.reduceShiftRight, Nat.reduceAnd, Nat.reduceBNe, Nat.reduceLeDiff, Nat.reduceAdd, Nat.reduceMul, Nat.reduceLT, Nat.reduceEqDiff, Nat.reduceSub, reduceCtorEq, ↓reduceIte, tyfacts, hn, h63]
                refine ih2 (k + 1) _ _ (by omega) ?_
                simp (maxSteps := 10000000) (disch := first | assumption | (simp only [tyfacts, Am.wd, Nat.reduceEqDiff, Nat.reduceLT, reduceCtorEq]; try omega; done) | omega) only [Am.wanted, Am.isAlloc, Am.wb0, Am.wb1, Am.wb2, Am.wb3, Am.wb4, Am.wb5, Am.wb6, Am.wb7, Am.wb8, Am.wb9, Am.reads, Am.quiet, Am.over, Nat.testBit, Nat.reduceShiftRight, Nat.reduceAnd, Nat.reduceBNe, Nat.reduceLeDiff, Nat.reduceAdd, Nat.reduceMul, Nat.reduceLT, Nat.reduceEqDiff, Nat.reduceSub, reduceCtorEq, ↓reduceIte, tyfacts, hn, hd, h0, h2, h4, h7, h10, h61, h62]
                refine ⟨by simp, mo10, kw10, hdf10, ⟨v8, ns8, hp10, ?_, hh, hdis⟩, Nat.le_trans n9 s3.n, by omega⟩
                rw [newly_succ, if_neg (by omega), List.append_nil]; exact hpm
            · have hpf : prec ts mN k = false := by rw [hpe]; simpa using hpc
              rw [hpf] at hcs
              simp only [Bool.false_eq_true, if_false, Nat.add_zero] at hcs
              simp (maxSteps := 10000000) (disch := first | assumption | (simp only [tyfacts, Am.wd, Nat.reduceEqDiff, Nat.reduceLT, reduceCtorEq]; try omega; done) | omega) only [Am.wanted, Am.isAlloc, Am.wb0, Am.wb1, Am.wb2, Am.wb3, Am.wb4, Am.wb5, Am.wb6, Am.wb7, Am.wb8, Am.wb9, Am.reads, Am.quiet, Am.over, Nat.testBit, Nat.reduceShiftRight, Nat.reduceAnd, Nat.reduceBNe, Nat.reduceLeDiff, Nat.reduceAdd, Nat.reduceMul, Nat.reduceLT, Nat.reduceEqDiff, Nat.reduceSub, reduceCtorEq, ↓reduceIte, tyfacts, hn, h63]
              refine ih2 (k + 1) _ _ (by omega) ?_
              simp (maxSteps := 10000000) (disch := first | assumption | (simp only [tyfacts, Am.wd, Nat.reduceEqDiff, Nat.reduceLT, reduceCtorEq]; try omega; done) | omega) only [Am.wanted, Am.isAlloc, Am.wb0, Am.wb1, Am.wb2, Am.wb3, Am.wb4, Am.wb5, Am.wb6, Am.wb7, Am.wb8, Am.wb9, Am.reads, Am.quiet, Am.over, Nat.testBit, Nat.reduceShiftRight, Nat.reduceAnd, Nat.reduceBNe, Nat.reduceLeDiff, Nat.reduceAdd, Nat.reduceMul, Nat.reduceLT, Nat.reduceEqDiff, Nat.reduceSub, reduceCtorEq, ↓reduceIte, tyfacts, hn, hd, h0, h2, h4, h7, h10, h61, h62]
              have e10 : (tabF ts.length fun j => if j < k + 1 then cnt ts (o ++ [mN]) j else cnt ts o j) = tabF ts.length fun j => if j < k then cnt ts (o ++ [mN]) j else cnt ts o j := tabF_congr fun j hj' => by
                by_cases h : j < k
                · rw [if_pos h, if_pos (by omega)]
                · by_cases h' : j = k
                  · subst h'; rw [if_neg h, if_pos (by omega), hcs]
                  · rw [if_neg h, if_neg (by omega)]
              refine ⟨by simp, mo9, by rw [e10]; exact kw9, hdf9, ⟨v8, ns8, hp9, ?_, hh, hdis⟩, n9, by omega⟩
              rw [newly_succ, if_neg (by simp [hpf]), List.append_nil]; exact hpm
          · have : k = ts.length := by omega
            subst this
            simp (maxSteps := 10000000) (disch := first | assumption | (simp only [tyfacts, Am.wd, Nat.reduceEqDiff, Nat.reduceLT, reduceCtorEq]; try omega; done) | omega) only [Am.wanted, Am.isAlloc, Am.wb0, Am.wb1, Am.wb2, Am.wb3, Am.wb4, Am.wb5, Am.wb6, Am.wb7, Am.wb8, Am.wb9, Am.reads, Am.quiet, Am.over, Nat.testBit, Nat.reduceShiftRight, Nat.reduceAnd, Nat.reduceBNe, Nat.reduceLeDiff, Nat.reduceAdd, Nat.reduceMul, Nat.reduceLT, Nat.reduceEqDiff, Nat.reduceSub, reduceCtorEq, ↓reduceIte, tyfacts, hn, hd]
            refine ih (o ++ [mN]) _ _ (by have := inv'.goes.1; simp only [List.length_append, List.length_cons, List.length_nil] at this ⊢; omega) ?_
            simp (maxSteps := 10000000) (disch := first | assumption | (simp only [tyfacts, Am.wd, Nat.reduceEqDiff, Nat.reduceLT, reduceCtorEq]; try omega; done) | omega) only [Am.wanted, Am.isAlloc, Am.wb0, Am.wb1, Am.wb2, Am.wb3, Am.wb4, Am.wb5, Am.wb6, Am.wb7, Am.wb8, Am.wb9, Am.reads, Am.quiet, Am.over, Nat.testBit, Nat.reduceShiftRight, Nat.reduceAnd, Nat.reduceBNe, Nat.reduceLeDiff, Nat.reduceAdd, Nat.reduceMul, Nat.reduceLT, Nat.reduceEqDiff, Nat.reduceSub, reduceCtorEq, ↓reduceIte, tyfacts, hn, hd, h0, h2, h4, h7]
            refine ⟨mo, ?_, hdf, inv', ⟨v8, ns8, hp, hpm.trans ((newly_all inv hmN).map _), hh, hdis⟩, hlb8⟩
            have e : tabF ts.length (cnt ts (o ++ [mN])) = tabF ts.length fun j => if j < ts.length then cnt ts (o ++ [mN]) j else cnt ts o j := tabF_congr fun j hj => by rw [if_pos hj]
            rw [e]; exact kw
        · have hns : ns = [] := by
            have : ns.length = 0 := by omega
            exact List.length_eq_zero_iff.1 this
          have hR : R ts o = [] := by
            rw [hns] at hnl
            exact List.length_eq_zero_iff.1 hnl.symm
          have hfin := inv.done hR
          have f3 := Heap.lt hdf
          simp (maxSteps := 10000000) (disch := first | assumption | (simp only [tyfacts, Am.wd, Nat.reduceEqDiff, Nat.reduceLT, reduceCtorEq]; try omega; done) | omega) only [Am.wanted, Am.isAlloc, Am.wb0, Am.wb1, Am.wb2, Am.wb3, Am.wb4, Am.wb5, Am.wb6, Am.wb7, Am.wb8, Am.wb9, Am.reads, Am.quiet, Am.over, Nat.testBit, Nat.reduceShiftRight, Nat.reduceAnd, Nat.reduceBNe, Nat.reduceLeDiff, Nat.reduceAdd, Nat.reduceMul, Nat.reduceLT, Nat.reduceEqDiff, Nat.reduceSub, reduceCtorEq, ↓reduceIte, tyfacts, hn, hd, h2, hdf]
          refine ⟨vo, by rw [hfin], ?_, kw.ext.put (by omega) f3 _⟩
          rw [hfin]
          refine (ho2.ext (P := fun m => m = H3.n) ((ExtB.refl (fun m => m = H3.n) kw.ext.wf).put (.inl rfl) f3 _) fun l hl h => ?_).lower (by omega)
          have := ho2.ge hl; omega
    · exact h.elim
  · exact fun i M H' ⟨_, _, q3, q4, _⟩ => ⟨q4.ext.wf, hl.mono q4.ext, q3⟩
  · rintro i M H' ⟨q1, q2, q3, q4, rfl⟩ m (rfl | rfl)
    · exact Heap.lt q1
    · have := Heap.lt q4.at_; omega
  · intro i M K1 K2 ⟨q1, q2, q3, q4, q5⟩ hx
    exact ⟨hx.get _ _ q1, hx.get _ _ q2, hx.get _ _ q3, q4.mono hx, q5⟩
  · rintro i hi M K1 ⟨q1, q2, q3, q4, rfl⟩
    have hj : i < (pairsF ts).length := by simpa using hi
    obtain ⟨hp1, hp2, hpr⟩ := mem_pairsF.1 (List.getElem_mem hj)
    show RoundTo T _ _ _ _
    refine round_to q1 (by simp [hCp, cP]) ?_
    have e1 := Heap.lt q1
    have b1 : ExtB (fun x => x = H3.n + 1) K1 (K1.put (H3.n + 1) (loopO .busy none C)) := (ExtB.refl (fun x => x = H3.n + 1) q4.ext.wf).put (.inl rfl) e1 _
    have r4 := q4.extB b1 hb oof (fun m hm e => by omega)
    have c1 := cellsAt_of_get r4.at_
    have hsl := r4.mine.sl
    have lu := tabF_len ts.length (cntP ts i)
    have a2 := tabF_get (f := cntP ts i) hp2
    have hle := cntP_le ts i (pairsF ts)[i].2
    obtain ⟨K2, s1, k2, s3⟩ := r4.store hb oof (j := (pairsF ts)[i].2) (by rw [lu]; exact hp2) ((cntP ts i (pairsF ts)[i].2 : Int) + 1)
    rw [tabF_set (g := cntP ts (i + 1)) hp2 (by rw [cntP_succ hj]; simp) (fun j hj' hne => by rw [cntP_succ hj, if_neg (fun e => hne e.symm)]; rfl)] at k2
    have g1 : K2.get (H3.n + 1) = some (loopO .busy none C) := s3.get _ _ (by omega) (get_put_same e1 _)
    have g2 : K2.get H3.n = some (.deferred (some [])) := s3.get _ _ (by omega) (b1.get _ _ (by omega) q2)
    have g3 : K2.get H2.n = some (.cells false [l]) := s3.get _ _ (by omega) (b1.get _ _ (by omega) q3)
    have f1 := Heap.lt g1
    simp (maxSteps := 10000000) (disch := first | assumption | (simp only [tyfacts, Am.wd, Nat.reduceEqDiff, Nat.reduceLT, reduceCtorEq]; try omega; done) | omega) only [Am.wanted, Am.isAlloc, Am.wb0, Am.wb1, Am.wb2, Am.wb3, Am.wb4, Am.wb5, Am.wb6, Am.wb7, Am.wb8, Am.wb9, Am.reads, Am.quiet, Am.over, Nat.testBit, Nat.reduceShiftRight, Nat.reduceAnd, Nat.reduceBNe, Nat.reduceLeDiff, Nat.reduceAdd, Nat.reduceMul, Nat.reduceLT, Nat.reduceEqDiff, Nat.reduceSub, reduceCtorEq, ↓reduceIte, tyfacts, q1, hCa, hCb, hCt, hCp, cP, List.getElem_map, c1, hsl.idx, hsl.load1, cI, a2, s1, g1, g2, g3]
    have b3 : ExtB (fun x => x = H3.n + 1) K2 (K2.put (H3.n + 1) (loopO .ready none C)) := (ExtB.refl (fun x => x = H3.n + 1) k2.ext.wf).put (.inl rfl) f1 _
    refine .inl ⟨_, ⟨k2.extB b3 hb oof (fun m hm e => by omega), rfl⟩, ((b1.weaken fun l h => .inl h).trans (s3.weaken fun l h => .inr h)).trans (b3.weaken fun l h => .inl h), fun _ h => .inl h⟩
  · have : cntP ts 0 = fun _ => 0 := by funext k; simp [cntP]
    exact ⟨by simp [Heap.get_push], by simp [Heap.get_push], hx5.get _ _ p3, by rw [this]; exact k3.mono hx5, rfl⟩
end Go.Proofs.Ytkjknmdnehknbaa.W
