import Derived.Test.YtbhgjikjdblgeaaGkA
set_option linter.unusedSimpArgs false
set_option linter.unusedVariables false
set_option maxRecDepth 8000
/- Which graphs may be. No conditions. -/
namespace Go.Proofs.Ytbhgjikjdblgeaa.W
open Go.Am Go.Am.Ord Go.Am.Scc
def badE (n : Int) (p : Int × Int) : Bool := decide (p.1 < 0 ∨ n ≤ p.1 ∨ p.2 < 0 ∨ n ≤ p.2)
def checkS (n : Int) (es : List (Int × Int)) : Int := if n < 0 ∨ 4096 < n then 3 else if 1048576 < es.length then 4 else if es.any (badE n) then 2 else 0
theorem sccCheck1 {H : Heap} (wf : H.WF) {n : Int} {q : Nat} (hq : H.get q = some (.cells false [.int .i64 n])) (p : Int × Int) :
  CallsTo T 42 [.agg (cE p), .ptr q 0] H fun r H' => r = .bool (badE n p) ∧ Ext H H' := by
 have hp1 := cellsAt_of_get hq
 refine Am.calls_enter (T := T) rfl Try.func42 rfl (by simp only [Try.f42, List.length_cons, List.length_nil]; decide) ?_
 simp only [Try.f42]
 have hlt := Heap.lt hq
 have hx : Ext H (H.push (.cells false (cE p))) := (Ext.refl wf).push _
 have hp2 := cellsAt_of_get (hx.get _ _ hq)
 obtain ⟨x, y⟩ := p
 simp only [cE] at hx hp2
 by_cases a1 : x < 0
 · simp (maxSteps := 10000000) (disch := first | assumption | (simp only [tyfacts, Am.wd, Nat.reduceEqDiff, Nat.reduceLT, reduceCtorEq]; try omega; done) | omega) only [Am.wanted, Am.isAlloc, Am.wa, Am.reads, Am.quiet, Am.over, Nat.testBit, Nat.reduceShiftRight, Nat.reduceAnd, Nat.reduceBNe, Nat.reduceLeDiff, Nat.reduceAdd, Nat.reduceMul, Nat.reduceLT, Nat.reduceEqDiff, Nat.reduceSub, reduceCtorEq, ↓reduceIte, tyfacts, cE, a1]
   exact ⟨by simp [badE, a1], hx⟩
 by_cases a2 : n ≤ x
 · simp (maxSteps := 10000000) (disch := first | assumption | (simp only [tyfacts, Am.wd, Nat.reduceEqDiff, Nat.reduceLT, reduceCtorEq]; try omega; done) | omega) only [Am.wanted, Am.isAlloc, Am.wa, Am.reads, Am.quiet, Am.over, Nat.testBit, Nat.reduceShiftRight, Nat.reduceAnd, Nat.reduceBNe, Nat.reduceLeDiff, Nat.reduceAdd, Nat.reduceMul, Nat.reduceLT, Nat.reduceEqDiff, Nat.reduceSub, reduceCtorEq, ↓reduceIte, tyfacts, cE, a1, a2, hp2]
   exact ⟨by simp [badE, a2], hx⟩
 by_cases a3 : y < 0
 · simp (maxSteps := 10000000) (disch := first | assumption | (simp only [tyfacts, Am.wd, Nat.reduceEqDiff, Nat.reduceLT, reduceCtorEq]; try omega; done) | omega) only [Am.wanted, Am.isAlloc, Am.wa, Am.reads, Am.quiet, Am.over, Nat.testBit, Nat.reduceShiftRight, Nat.reduceAnd, Nat.reduceBNe, Nat.reduceLeDiff, Nat.reduceAdd, Nat.reduceMul, Nat.reduceLT, Nat.reduceEqDiff, Nat.reduceSub, reduceCtorEq, ↓reduceIte, tyfacts, cE, a1, a2, a3, hp2]
   exact ⟨by simp [badE, a3], hx⟩
 simp (maxSteps := 10000000) (disch := first | assumption | (simp only [tyfacts, Am.wd, Nat.reduceEqDiff, Nat.reduceLT, reduceCtorEq]; try omega; done) | omega) only [Am.wanted, Am.isAlloc, Am.wa, Am.reads, Am.quiet, Am.over, Nat.testBit, Nat.reduceShiftRight, Nat.reduceAnd, Nat.reduceBNe, Nat.reduceLeDiff, Nat.reduceAdd, Nat.reduceMul, Nat.reduceLT, Nat.reduceEqDiff, Nat.reduceSub, reduceCtorEq, ↓reduceIte, tyfacts, cE, a1, a2, a3, hp2]
 exact ⟨by simp [badE, a1, a2, a3], hx⟩
theorem sccCheck_ok {H : Heap} (wf : H.WF) {v : V} {n : Int} {es : List (Int × Int)} (hl : Sl H v 2 (es.map cE)) (hlen : es.length < 1000000000) :
  CallsTo T 19 [.int .i64 n, v] H fun r H' => r = .int .i64 (checkS n es) ∧ Ext H H' := by
 refine Am.calls_enter (T := T) rfl Try.func19 rfl (by simp only [Try.f19, List.length_cons, List.length_nil]; decide) ?_
 simp only [Try.f19]
 have L := hl.len
 have hx1 : Ext H (H.push (.cells false [.int .i64 n])) := (Ext.refl wf).push _
 by_cases a1 : n < 0
 · simp (maxSteps := 10000000) (disch := first | assumption | (simp only [tyfacts, Am.wd, Nat.reduceEqDiff, Nat.reduceLT, reduceCtorEq]; try omega; done) | omega) only [Am.wanted, Am.isAlloc, Am.wa, Am.reads, Am.quiet, Am.over, Nat.testBit, Nat.reduceShiftRight, Nat.reduceAnd, Nat.reduceBNe, Nat.reduceLeDiff, Nat.reduceAdd, Nat.reduceMul, Nat.reduceLT, Nat.reduceEqDiff, Nat.reduceSub, reduceCtorEq, ↓reduceIte, tyfacts, a1]
   exact ⟨by rw [checkS, if_pos (.inl a1)], hx1⟩
 by_cases a2 : 4096 < n
 · simp (maxSteps := 10000000) (disch := first | assumption | (simp only [tyfacts, Am.wd, Nat.reduceEqDiff, Nat.reduceLT, reduceCtorEq]; try omega; done) | omega) only [Am.wanted, Am.isAlloc, Am.wa, Am.reads, Am.quiet, Am.over, Nat.testBit, Nat.reduceShiftRight, Nat.reduceAnd, Nat.reduceBNe, Nat.reduceLeDiff, Nat.reduceAdd, Nat.reduceMul, Nat.reduceLT, Nat.reduceEqDiff, Nat.reduceSub, reduceCtorEq, ↓reduceIte, tyfacts, a1, a2]
   exact ⟨by rw [checkS, if_pos (.inr a2)], hx1⟩
 by_cases a3 : 1048576 < (es.length : Int)
 · simp (maxSteps := 10000000) (disch := first | assumption | (simp only [tyfacts, Am.wd, Nat.reduceEqDiff, Nat.reduceLT, reduceCtorEq]; try omega; done) | omega) only [Am.wanted, Am.isAlloc, Am.wa, Am.reads, Am.quiet, Am.over, Nat.testBit, Nat.reduceShiftRight, Nat.reduceAnd, Nat.reduceBNe, Nat.reduceLeDiff, Nat.reduceAdd, Nat.reduceMul, Nat.reduceLT, Nat.reduceEqDiff, Nat.reduceSub, reduceCtorEq, ↓reduceIte, tyfacts, a1, a2, a3, L]
   exact ⟨by rw [checkS, if_neg (by omega), if_pos (by omega)], hx1⟩
 simp (maxSteps := 10000000) (disch := first | assumption | (simp only [tyfacts, Am.wd, Nat.reduceEqDiff, Nat.reduceLT, reduceCtorEq]; try omega; done) | omega) only [Am.wanted, Am.isAlloc, Am.wa, Am.reads, Am.quiet, Am.over, Nat.testBit, Nat.reduceShiftRight, Nat.reduceAnd, Nat.reduceBNe, Nat.reduceLeDiff, Nat.reduceAdd, Nat.reduceMul, Nat.reduceLT, Nat.reduceEqDiff, Nat.reduceSub, reduceCtorEq, ↓reduceIte, tyfacts, a1, a2, a3, L]
 have g1 : (H.push (.cells false [.int .i64 n])).get H.n = some (.cells false [.int .i64 n]) := get_push_same _ _
 refine wpX_call (containsFunc_ed hx1.wf (hl.mono hx1) (badE n) (by omega) fun p _ H' hx => sccCheck1 hx.wf (hx.get _ _ g1) p) fun r H2 ⟨hr, hx2⟩ => ?_
 subst hr
 have hx2 := hx1.trans hx2
 simp (maxSteps := 10000000) (disch := first | assumption | (simp only [tyfacts, Am.wd, Nat.reduceEqDiff, Nat.reduceLT, reduceCtorEq]; try omega; done) | omega) only [Am.wanted, Am.isAlloc, Am.wa, Am.reads, Am.quiet, Am.over, Nat.testBit, Nat.reduceShiftRight, Nat.reduceAnd, Nat.reduceBNe, Nat.reduceLeDiff, Nat.reduceAdd, Nat.reduceMul, Nat.reduceLT, Nat.reduceEqDiff, Nat.reduceSub, reduceCtorEq, ↓reduceIte, tyfacts]
 refine wpB_bool (fun he => ?_) (fun he => ?_)
 · simp (maxSteps := 10000000) (disch := first | assumption | (simp only [tyfacts, Am.wd, Nat.reduceEqDiff, Nat.reduceLT, reduceCtorEq]; try omega; done) | omega) only [Am.wanted, Am.isAlloc, Am.wa, Am.reads, Am.quiet, Am.over, Nat.testBit, Nat.reduceShiftRight, Nat.reduceAnd, Nat.reduceBNe, Nat.reduceLeDiff, Nat.reduceAdd, Nat.reduceMul, Nat.reduceLT, Nat.reduceEqDiff, Nat.reduceSub, reduceCtorEq, ↓reduceIte, tyfacts]
   exact ⟨by rw [checkS, if_neg (by omega), if_neg (by omega), if_pos he], hx2⟩
 · simp (maxSteps := 10000000) (disch := first | assumption | (simp only [tyfacts, Am.wd, Nat.reduceEqDiff, Nat.reduceLT, reduceCtorEq]; try omega; done) | omega) only [Am.wanted, Am.isAlloc, Am.wa, Am.reads, Am.quiet, Am.over, Nat.testBit, Nat.reduceShiftRight, Nat.reduceAnd, Nat.reduceBNe, Nat.reduceLeDiff, Nat.reduceAdd, Nat.reduceMul, Nat.reduceLT, Nat.reduceEqDiff, Nat.reduceSub, reduceCtorEq, ↓reduceIte, tyfacts]
   exact ⟨by rw [checkS, if_neg (by omega), if_neg (by omega), if_neg (by simp [he])], hx2⟩
end Go.Proofs.Ytbhgjikjdblgeaa.W

/- Graphs, made of edges. No conditions. -/
namespace Go.Proofs.Ytbhgjikjdblgeaa.W
open Go.Am Go.Am.Ord Go.Am.Scc
def castE (E : Es) : List (Int × Int) := E.map fun p => ((p.1 : Int), (p.2 : Int))
def adj (n : Nat) (E : Es) (x : Nat) : List Nat := (List.range n).filter fun y => decide ((x, y) ∈ E)
def ends (E : Es) (x : Nat) : List Int := (E.filter fun p => decide (p.1 = x)).map fun p => (p.2 : Int)
def rowsI (ls : List (List Int)) : List (List (List V)) := ls.map fun l => l.map cI
theorem rowsI_get {ls : List (List Int)} {i : Nat} (h : i < ls.length) : (rowsI ls)[i]'(by simpa [rowsI] using h) = ls[i].map cI := by simp [rowsI]
theorem rowsI_set (ls : List (List Int)) (i : Nat) (l : List Int) : (rowsI ls).set i (l.map cI) = rowsI (ls.set i l) := by simp [rowsI, List.map_set]
theorem rowsI_len (ls : List (List Int)) : (rowsI ls).length = ls.length := by simp [rowsI]
def endsTo (n : Nat) (E : Es) (j : Nat) : List (List Int) := (List.range n).map fun x => ends (E.take j) x
theorem endsTo_len (n : Nat) (E : Es) (j : Nat) : (endsTo n E j).length = n := by simp [endsTo]
theorem endsTo_succ {n : Nat} {E : Es} {j : Nat} (hj : j < E.length) (hn : E[j].1 < n) : (endsTo n E j).set E[j].1 ((endsTo n E j)[E[j].1]'(by rw [endsTo_len]; exact hn) ++ [(E[j].2 : Int)]) = endsTo n E (j + 1) := by
 apply List.ext_getElem
 · simp [endsTo]
 · intro i h1 h2
   have hi : i < n := by simpa [endsTo] using h2
   have ht : E.take (j + 1) = E.take j ++ [E[j]] := by rw [List.take_add_one, List.getElem?_eq_getElem hj]; rfl
   simp only [endsTo, List.getElem_set, List.getElem_map, List.getElem_range, ht, ends, List.filter_append, List.map_append]
   by_cases e : E[j].1 = i
   · subst e; simp
   · simp [e]
theorem sorted_pw (l : List Int) : (sorted l).Pairwise (· ≤ ·) := by
 have := List.pairwise_mergeSort (le := fun x y : Int => decide (x ≤ y)) (fun a b c h1 h2 => by simp at *; omega) (fun a b => by simp; omega) l
 exact this.imp fun h => by simpa using h
theorem dd_strict : ∀ l : List Int, l.Pairwise (· ≤ ·) → (dd l).Pairwise (· < ·) ∧ (∀ x, x ∈ dd l ↔ x ∈ l)
 | [], _ => by simp [dd]
 | [x], _ => by simp [dd]
 | x :: y :: l, h => by
   have h1 := List.pairwise_cons.1 h
   obtain ⟨a, b⟩ := dd_strict (y :: l) h1.2
   simp only [dd]
   split
   · rename_i e
     subst e
     exact ⟨a, fun z => by rw [b z]; simp⟩
   · rename_i e
     refine ⟨List.pairwise_cons.2 ⟨fun z hz => ?_, a⟩, fun z => by rw [List.mem_cons, b z, List.mem_cons (a := z) (b := x)]⟩
     have hz' := (b z).1 hz
     have hy : x ≤ y := h1.1 y (by simp)
     have h2 := List.pairwise_cons.1 h1.2
     rcases List.mem_cons.1 hz' with e2 | e2
     · omega
     · have := h2.1 z e2; omega
theorem strict_eq : ∀ {a b : List Int}, a.Pairwise (· < ·) → b.Pairwise (· < ·) → (∀ x, x ∈ a ↔ x ∈ b) → a = b
 | [], [], _, _, _ => rfl
 | [], y :: b, _, _, h => by have := (h y).2 (by simp); cases this
 | x :: a, [], _, _, h => by have := (h x).1 (by simp); cases this
 | x :: a, y :: b, ha, hb, h => by
   have a1 := List.pairwise_cons.1 ha
   have b1 := List.pairwise_cons.1 hb
   have e : x = y := by
    rcases List.mem_cons.1 ((h x).1 (by simp)) with e | e
    · exact e
    · rcases List.mem_cons.1 ((h y).2 (by simp)) with e2 | e2
      · exact e2.symm
      · have := b1.1 x e; have := a1.1 y e2; omega
   subst e
   congr 1
   refine strict_eq a1.2 b1.2 fun z => ?_
   constructor
   · intro hz
     rcases List.mem_cons.1 ((h z).1 (by simp [hz])) with e | e
     · have := a1.1 z hz; omega
     · exact e
   · intro hz
     rcases List.mem_cons.1 ((h z).2 (by simp [hz])) with e | e
     · have := b1.1 z hz; omega
     · exact e
theorem castL_strict {l : List Nat} (h : l.Pairwise (· < ·)) : (castL l).Pairwise (· < ·) := by
 simp only [castL, List.pairwise_map]
 exact h.imp fun h => by omega
theorem adj_strict (n : Nat) (E : Es) (x : Nat) : (adj n E x).Pairwise (· < ·) := List.pairwise_lt_range.sublist List.filter_sublist
theorem mem_adj {n : Nat} {E : Es} {x y : Nat} : y ∈ adj n E x ↔ y < n ∧ (x, y) ∈ E := by simp [adj]
theorem adj_eq {n : Nat} {E : Es} (hE : ∀ p, p ∈ E → p.1 < n ∧ p.2 < n) (x : Nat) : dd (sorted (ends E x)) = castL (adj n E x) := by
 obtain ⟨a, b⟩ := dd_strict _ (sorted_pw (ends E x))
 refine strict_eq a (castL_strict (adj_strict n E x)) fun z => ?_
 rw [b z, show z ∈ sorted (ends E x) ↔ z ∈ ends E x from (List.mergeSort_perm _ _).mem_iff]
 simp only [ends, castL, List.mem_map, List.mem_filter, decide_eq_true_eq, mem_adj]
 constructor
 · rintro ⟨⟨p, q⟩, ⟨h1, rfl⟩, rfl⟩
   exact ⟨q, ⟨(hE _ h1).2, h1⟩, rfl⟩
 · rintro ⟨q, ⟨h1, h2⟩, rfl⟩
   exact ⟨(x, q), ⟨h2, rfl⟩, rfl⟩
def graph (n : Nat) (E : Es) : List (List Int) := (List.range n).map fun x => castL (adj n E x)
theorem graph_len (n : Nat) (E : Es) : (graph n E).length = n := by simp [graph]
theorem graph_get {n : Nat} {E : Es} {x : Nat} (h : x < n) : (graph n E)[x]'(by rw [graph_len]; exact h) = castL (adj n E x) := by simp [graph]
def halfTo (n : Nat) (E : Es) (i : Nat) : List (List Int) := (List.range n).map fun x => if x < i then castL (adj n E x) else ends E x
theorem halfTo_len (n : Nat) (E : Es) (i : Nat) : (halfTo n E i).length = n := by simp [halfTo]
theorem halfTo_zero (n : Nat) (E : Es) : halfTo n E 0 = endsTo n E E.length := by simp [halfTo, endsTo]
theorem halfTo_all (n : Nat) (E : Es) : halfTo n E n = graph n E := by
 apply List.ext_getElem
 · simp [halfTo, graph]
 · intro i h1 h2
   have : i < n := by simpa [graph] using h2
   simp [halfTo, graph, this]
theorem halfTo_succ {n : Nat} {E : Es} {i : Nat} (hi : i < n) : (halfTo n E i).set i (castL (adj n E i)) = halfTo n E (i + 1) := by
 apply List.ext_getElem
 · simp [halfTo]
 · intro j h1 h2
   have hj : j < n := by simpa [halfTo] using h2
   simp only [halfTo, List.getElem_set, List.getElem_map, List.getElem_range]
   by_cases e : i = j
   · subst e; simp
   · rw [if_neg e]
     by_cases h : j < i
     · rw [if_pos h, if_pos (by omega)]
     · rw [if_neg h, if_neg (by omega)]
theorem ends_len (E : Es) (x : Nat) : (ends E x).length ≤ E.length := by simp only [ends, List.length_map]; exact List.length_filter_le _ _
end Go.Proofs.Ytbhgjikjdblgeaa.W

/- Graphs, made of edges: walked. No conditions. -/
namespace Go.Proofs.Ytbhgjikjdblgeaa.W
open Go.Am Go.Am.Ord Go.Am.Scc
theorem castE_len (E : Es) : (castE E).length = E.length := by simp [castE]
theorem sccMade_ok {H : Heap} (wf : H.WF) {v : V} {n : Nat} {E : Es} (hl : Sl H v 2 ((castE E).map cE)) (hE : ∀ p, p ∈ E → p.1 < n ∧ p.2 < n) (hn4 : n ≤ 4096) (hlen : E.length < 10000000) :
  CallsTo T 29 [.int .i64 n, v] H fun r H' => MineG H.n H' r (rowsI (graph n E)) ∧ Ext H H' := by
 refine Am.calls_enter (T := T) rfl Try.func29 rfl (by simp only [Try.f29, List.length_cons, List.length_nil]; decide) ?_
 simp only [Try.f29]
 have L := hl.len
 have hcl := castE_len E
 rw [List.length_map, hcl] at L
 simp (maxSteps := 10000000) (disch := first | assumption | (simp only [tyfacts, Am.wd, Nat.reduceEqDiff, Nat.reduceLT, reduceCtorEq]; try omega; done) | omega) only [Am.wanted, Am.isAlloc, Am.wa, Am.reads, Am.quiet, Am.over, Nat.testBit, Nat.reduceShiftRight, Nat.reduceAnd, Nat.reduceBNe, Nat.reduceLeDiff, Nat.reduceAdd, Nat.reduceMul, Nat.reduceLT, Nat.reduceEqDiff, Nat.reduceSub, reduceCtorEq, ↓reduceIte, tyfacts, L]
 generalize hat : V.slice H.n 0 n 1 (some n) = g
 have m0 : Mine H.n (H.push (.cells false (List.replicate n [V.nilSlice]).flatten)) g 1 (List.replicate n [V.nilSlice]) := by
  rw [← hat]
  exact own_made wf (Nat.le_refl _) 1 _ _ _ rfl (Nat.le_refl _)
 have g0 : MineG H.n (H.push (.cells false (List.replicate n [V.nilSlice]).flatten)) g (rowsI (endsTo n E 0)) := by
  have : rowsI (endsTo n E 0) = List.replicate n [] := by
   apply List.ext_getElem
   · simp [rowsI, endsTo]
   · intro i h1 h2; simp [rowsI, endsTo, ends]
  rw [this]; exact MineG.made m0
 have hx1 : Ext H (H.push (.cells false (List.replicate n [V.nilSlice]).flatten)) := (Ext.refl wf).push _
 have gone : g.one = true := by rw [← hat]; rfl
 refine wpK_loop_ind _ (fun i : Nat => E.length - i) (fun i a H' => a.tmps.n = 51 ∧ a.defers = [] ∧ a.tmp 5 = g ∧ a.tmp 11 = v ∧ a.tmp 12 = .int .i64 E.length ∧ a.tmp 13 = .int .i64 i ∧ MineG H.n H' g (rowsI (endsTo n E i)) ∧ Ext H H' ∧ i ≤ E.length) 0 ?_ ?_
 · simp (maxSteps := 10000000) (disch := first | assumption | (simp only [tyfacts, Am.wd, Nat.reduceEqDiff, Nat.reduceLT, reduceCtorEq]; try omega; done) | omega) only [Am.wanted, Am.isAlloc, Am.wa, Am.reads, Am.quiet, Am.over, Nat.testBit, Nat.reduceShiftRight, Nat.reduceAnd, Nat.reduceBNe, Nat.reduceLeDiff, Nat.reduceAdd, Nat.reduceMul, Nat.reduceLT, Nat.reduceEqDiff, Nat.reduceSub, reduceCtorEq, ↓reduceIte, tyfacts]
   exact ⟨rfl, g0, hx1, by omega⟩
 clear hx1 g0 m0
 intro i a H1 ⟨hn, hd, t5, t11, t12, t13, mg, hx, hi⟩ ih
 have hl1 := hl.mono hx
 simp (maxSteps := 10000000) (disch := first | assumption | (simp only [tyfacts, Am.wd, Nat.reduceEqDiff, Nat.reduceLT, reduceCtorEq]; try omega; done) | omega) only [Am.wanted, Am.isAlloc, Am.wa, Am.reads, Am.quiet, Am.over, Nat.testBit, Nat.reduceShiftRight, Nat.reduceAnd, Nat.reduceBNe, Nat.reduceLeDiff, Nat.reduceAdd, Nat.reduceMul, Nat.reduceLT, Nat.reduceEqDiff, Nat.reduceSub, reduceCtorEq, ↓reduceIte, tyfacts, t12, t13, hn]
 refine wpB_dec (fun hq => ?_) (fun hq => ?_)
 · have hj : i < E.length := by omega
   have e0 : i < ((castE E).map cE).length := by simp [castE]; exact hj
   have l0 := hl1.loadG (T := T) 41 (by simp only [tyfacts]) (by simp only [tyfacts]) i e0
   have g1 : ((castE E).map cE)[i] = [.int .i64 (E[i].1 : Int), .int .i64 (E[i].2 : Int)] := by simp [castE, cE]
   rw [g1] at l0
   have i0 := hl1.idx (T := T) 22 (by simp only [tyfacts]) .i64 i e0
   simp (maxSteps := 10000000) (disch := first | assumption | (simp only [tyfacts, Am.wd, Nat.reduceEqDiff, Nat.reduceLT, reduceCtorEq]; try omega; done) | omega) only [Am.wanted, Am.isAlloc, Am.wa, Am.reads, Am.quiet, Am.over, Nat.testBit, Nat.reduceShiftRight, Nat.reduceAnd, Nat.reduceBNe, Nat.reduceLeDiff, Nat.reduceAdd, Nat.reduceMul, Nat.reduceLT, Nat.reduceEqDiff, Nat.reduceSub, reduceCtorEq, ↓reduceIte, tyfacts, t5, t11, t12, t13, hn, i0, l0]
   have z0 : Ext H1 (H1.push (.cells false [.int .i64 (E[i].1 : Int), .int .i64 (E[i].2 : Int)])) := (Ext.refl hx.wf).push _
   have gA : (H1.push (.cells false [.int .i64 (E[i].1 : Int), .int .i64 (E[i].2 : Int)])).get H1.n = some (.cells false [.int .i64 (E[i].1 : Int), .int .i64 (E[i].2 : Int)]) := get_push_same _ _
   have nA : (H1.push (.cells false [.int .i64 (E[i].1 : Int), .int .i64 (E[i].2 : Int)])).n = H1.n + 1 := by simp
   generalize hHA : H1.push (.cells false [.int .i64 (E[i].1 : Int), .int .i64 (E[i].2 : Int)]) = HA at z0 gA nA
   refine Am.wpK_draw2 14 [3,4,5,6,7,8,9,10,11,0,1,2,12,13] [0,0,2,0,0,16,56,120,0,256,768,2040,4095,8191] (hx.trans z0).wf (by kernel_rfl) ?_
   have hx2 := (hx.trans z0).keep 14
   generalize hH2 : Am.Heap.keep _ _ = H2
   replace hx2 : Am.Ext _ H2 := hH2 ▸ hx2
   have z2 : Ext HA H2 := by rw [← hH2]; exact (Ext.refl z0.wf).keep 14
   have e10 : HA.n + 10 < H2.n := by rw [← hH2]; simp
   have zB : Ext H1 (H2.put (HA.n + 10) (.cells false [.int .i64 (E[i].2 : Int)])) := (z0.trans z2).put (by omega) e10 _
   have gB : (H2.put (HA.n + 10) (.cells false [.int .i64 (E[i].2 : Int)])).get (HA.n + 10) = some (.cells false [.int .i64 (E[i].2 : Int)]) := get_put_same e10 _
   have g7 : (H2.put (HA.n + 10) (.cells false [.int .i64 (E[i].2 : Int)])).get H1.n = some (.cells false [.int .i64 (E[i].1 : Int), .int .i64 (E[i].2 : Int)]) := by rw [Heap.get_put_ne (by omega)]; exact z2.get _ _ gA
   generalize hHB : H2.put (HA.n + 10) (.cells false [.int .i64 (E[i].2 : Int)]) = HB at zB gB g7
   obtain ⟨hx1, hx2'⟩ := hE _ (List.getElem_mem hj)
   have er : E[i].1 < (rowsI (endsTo n E i)).length := by rw [rowsI_len, endsTo_len]; exact hx1
   have el := endsTo_len n E i
   obtain ⟨u, r1, r2, r3, r4, _, r5⟩ := mg.row2 (T := T) zB 25 (by simp only [tyfacts]) (by simp only [tyfacts]) E[i].1 er
   rw [rowsI_get (by rw [el]; exact hx1)] at r2 r3
   have ha : appOk T 25 25 = some (1, 8) := by simp only [tyfacts]
   have hle : ((endsTo n E i)[E[i].1]'(by rw [el]; exact hx1)).length ≤ E.length := by
    simp only [endsTo, List.getElem_map, List.getElem_range]
    exact Nat.le_trans (ends_len _ _) (by rw [List.length_take]; omega)
   obtain ⟨u', HC, p1, p2, p3, p4⟩ := append_own r3 zB.wf (Nat.le_trans hx.n zB.n) ha (sl_one (c := some 1) (fun m h => by cases h; exact Nat.le_refl _) gB rfl) (fun f hf => by rw [List.mem_singleton.1 hf]; rfl) (by simp; omega) (by simp; omega)
   have e2 : ((endsTo n E i)[E[i].1]'(by rw [el]; exact hx1)).map cI ++ [[V.int .i64 (E[i].2 : Int)]] = ((endsTo n E i)[E[i].1]'(by rw [el]; exact hx1) ++ [(E[i].2 : Int)]).map cI := by simp [cI]
   rw [e2] at p2
   obtain ⟨HD, q1, q2, q3, q4⟩ := r5 HC u' _ p3 p2 p4
   rw [rowsI_set, endsTo_succ hj hx1] at q2
   have nu : ¬ Of u H1.n := fun h => by have := r2.lt h; omega
   have gC := p3.get _ _ nu g7
   have cB := cellsAt_of_get g7
   have cC := cellsAt_of_get gC
   have c2 := cellsAt_of_get (z2.get _ _ gA)
   have sg := mg.sl
   have rl := r1 _ (z0.trans z2)
   have i1 := fun k => mg.sl.idx (T := T) 46 (by simp only [tyfacts]) k E[i].1 er
   simp (maxSteps := 10000000) (disch := first | assumption | (simp only [tyfacts, Am.wd, Nat.reduceEqDiff, Nat.reduceLT, reduceCtorEq]; try omega; done) | omega) only [Am.wanted, Am.isAlloc, Am.wa, Am.reads, Am.quiet, Am.over, Nat.testBit, Nat.reduceShiftRight, Nat.reduceAnd, Nat.reduceBNe, Nat.reduceLeDiff, Nat.reduceAdd, Nat.reduceMul, Nat.reduceLT, Nat.reduceEqDiff, Nat.reduceSub, reduceCtorEq, ↓reduceIte, tyfacts, t5, t13, hn, c2, hHB, rl, i1, p1, cB, cC, q1]
   refine ih (i + 1) _ _ (by omega) ?_
   simp (maxSteps := 10000000) (disch := first | assumption | (simp only [tyfacts, Am.wd, Nat.reduceEqDiff, Nat.reduceLT, reduceCtorEq]; try omega; done) | omega) only [Am.wanted, Am.isAlloc, Am.wa, Am.reads, Am.quiet, Am.over, Nat.testBit, Nat.reduceShiftRight, Nat.reduceAnd, Nat.reduceBNe, Nat.reduceLeDiff, Nat.reduceAdd, Nat.reduceMul, Nat.reduceLT, Nat.reduceEqDiff, Nat.reduceSub, reduceCtorEq, ↓reduceIte, tyfacts, hn, hd, t5, t11, t12]
   exact ⟨by simp, q2, ((hx.trans zB).thenB p3 fun m h => r2.ge h).thenB q3 fun m h => by
    obtain ⟨vs, a1, _⟩ := mg
    exact a1.ge h, by omega⟩
 have hie : i = E.length := by omega
 subst hie
 clear ih hq t12 t13 hl1
 rw [← halfTo_zero] at mg
 have Lg := mg.sl.len
 rw [rowsI_len, halfTo_len] at Lg
 simp (maxSteps := 10000000) (disch := first | assumption | (simp only [tyfacts, Am.wd, Nat.reduceEqDiff, Nat.reduceLT, reduceCtorEq]; try omega; done) | omega) only [Am.wanted, Am.isAlloc, Am.wa, Am.reads, Am.quiet, Am.over, Nat.testBit, Nat.reduceShiftRight, Nat.reduceAnd, Nat.reduceBNe, Nat.reduceLeDiff, Nat.reduceAdd, Nat.reduceMul, Nat.reduceLT, Nat.reduceEqDiff, Nat.reduceSub, reduceCtorEq, ↓reduceIte, tyfacts, t5, hn, Lg]
 refine wpK_loop_ind _ (fun i : Nat => n - i) (fun i a H' => a.tmps.n = 51 ∧ a.defers = [] ∧ a.tmp 5 = g ∧ a.tmp 32 = .int .i64 n ∧ a.tmp 33 = .int .i64 i ∧ MineG H.n H' g (rowsI (halfTo n E i)) ∧ Ext H H' ∧ i ≤ n) 0 ?_ ?_
 · simp (maxSteps := 10000000) (disch := first | assumption | (simp only [tyfacts, Am.wd, Nat.reduceEqDiff, Nat.reduceLT, reduceCtorEq]; try omega; done) | omega) only [Am.wanted, Am.isAlloc, Am.wa, Am.reads, Am.quiet, Am.over, Nat.testBit, Nat.reduceShiftRight, Nat.reduceAnd, Nat.reduceBNe, Nat.reduceLeDiff, Nat.reduceAdd, Nat.reduceMul, Nat.reduceLT, Nat.reduceEqDiff, Nat.reduceSub, reduceCtorEq, ↓reduceIte, tyfacts, hn, hd, t5]
   exact ⟨rfl, mg, hx, by omega⟩
 clear mg hx hn hd t5 t11 a Lg
 intro i a H2 ⟨hn, hd, t5, t32, t33, mg, hx, hi⟩ ih
 simp (maxSteps := 10000000) (disch := first | assumption | (simp only [tyfacts, Am.wd, Nat.reduceEqDiff, Nat.reduceLT, reduceCtorEq]; try omega; done) | omega) only [Am.wanted, Am.isAlloc, Am.wa, Am.reads, Am.quiet, Am.over, Nat.testBit, Nat.reduceShiftRight, Nat.reduceAnd, Nat.reduceBNe, Nat.reduceLeDiff, Nat.reduceAdd, Nat.reduceMul, Nat.reduceLT, Nat.reduceEqDiff, Nat.reduceSub, reduceCtorEq, ↓reduceIte, tyfacts, t32, t33, hn]
 refine wpB_dec (fun hq => ?_) (fun hq => ?_)
 · have hj : i < n := by omega
   have el := halfTo_len n E i
   have er : i < (rowsI (halfTo n E i)).length := by rw [rowsI_len, el]; exact hj
   obtain ⟨u, r1, r2, r3, r4, r6, r5⟩ := mg.row2 (T := T) (Ext.refl hx.wf) 25 (by simp only [tyfacts]) (by simp only [tyfacts]) i er
   have rl := r1 _ (Ext.refl hx.wf)
   have eh : (halfTo n E i)[i]'(by rw [el]; exact hj) = ends E i := by simp [halfTo]
   rw [rowsI_get (by rw [el]; exact hj), eh] at r2 r3
   have i1 := fun k => mg.sl.idx (T := T) 46 (by simp only [tyfacts]) k i er
   have hle := ends_len E i
   simp (maxSteps := 10000000) (disch := first | assumption | (simp only [tyfacts, Am.wd, Nat.reduceEqDiff, Nat.reduceLT, reduceCtorEq]; try omega; done) | omega) only [Am.wanted, Am.isAlloc, Am.wa, Am.reads, Am.quiet, Am.over, Nat.testBit, Nat.reduceShiftRight, Nat.reduceAnd, Nat.reduceBNe, Nat.reduceLeDiff, Nat.reduceAdd, Nat.reduceMul, Nat.reduceLT, Nat.reduceEqDiff, Nat.reduceSub, reduceCtorEq, ↓reduceIte, tyfacts, t5, t33, hn, i1, rl]
   refine wpX_call (sort_int hx.wf r3 (by omega)) fun r H3 ⟨s1, s2⟩ => ?_
   have rl2 := r6 _ s2
   have hsl : (sorted (ends E i)).length = (ends E i).length := List.length_mergeSort _
   simp (maxSteps := 10000000) (disch := first | assumption | (simp only [tyfacts, Am.wd, Nat.reduceEqDiff, Nat.reduceLT, reduceCtorEq]; try omega; done) | omega) only [Am.wanted, Am.isAlloc, Am.wa, Am.reads, Am.quiet, Am.over, Nat.testBit, Nat.reduceShiftRight, Nat.reduceAnd, Nat.reduceBNe, Nat.reduceLeDiff, Nat.reduceAdd, Nat.reduceMul, Nat.reduceLT, Nat.reduceEqDiff, Nat.reduceSub, reduceCtorEq, ↓reduceIte, tyfacts, t5, t33, hn, i1, rl2]
   refine wpX_call (compact_int s2.wf s1 (by omega)) fun r H4 ⟨s3, s4, s5⟩ => ?_
   obtain ⟨H5, q1, q2, q3, q4⟩ := r5 H4 r _ (s2.trans s4) s3 (fun m h => .inl (s5 m h))
   rw [adj_eq hE, rowsI_set, halfTo_succ hj] at q2
   simp (maxSteps := 10000000) (disch := first | assumption | (simp only [tyfacts, Am.wd, Nat.reduceEqDiff, Nat.reduceLT, reduceCtorEq]; try omega; done) | omega) only [Am.wanted, Am.isAlloc, Am.wa, Am.reads, Am.quiet, Am.over, Nat.testBit, Nat.reduceShiftRight, Nat.reduceAnd, Nat.reduceBNe, Nat.reduceLeDiff, Nat.reduceAdd, Nat.reduceMul, Nat.reduceLT, Nat.reduceEqDiff, Nat.reduceSub, reduceCtorEq, ↓reduceIte, tyfacts, t5, t33, hn, i1, q1]
   refine ih (i + 1) _ _ (by omega) ?_
   simp (maxSteps := 10000000) (disch := first | assumption | (simp only [tyfacts, Am.wd, Nat.reduceEqDiff, Nat.reduceLT, reduceCtorEq]; try omega; done) | omega) only [Am.wanted, Am.isAlloc, Am.wa, Am.reads, Am.quiet, Am.over, Nat.testBit, Nat.reduceShiftRight, Nat.reduceAnd, Nat.reduceBNe, Nat.reduceLeDiff, Nat.reduceAdd, Nat.reduceMul, Nat.reduceLT, Nat.reduceEqDiff, Nat.reduceSub, reduceCtorEq, ↓reduceIte, tyfacts, hn, hd, t5, t32]
   exact ⟨by simp, q2, (hx.thenB (s2.trans s4) fun m h => r2.ge h).thenB q3 fun m h => by
    obtain ⟨vs, a1, _⟩ := mg
    exact a1.ge h, by omega⟩
 · have hie : i = n := by omega
   subst hie
   simp (maxSteps := 10000000) (disch := first | assumption | (simp only [tyfacts, Am.wd, Nat.reduceEqDiff, Nat.reduceLT, reduceCtorEq]; try omega; done) | omega) only [Am.wanted, Am.isAlloc, Am.wa, Am.reads, Am.quiet, Am.over, Nat.testBit, Nat.reduceShiftRight, Nat.reduceAnd, Nat.reduceBNe, Nat.reduceLeDiff, Nat.reduceAdd, Nat.reduceMul, Nat.reduceLT, Nat.reduceEqDiff, Nat.reduceSub, reduceCtorEq, ↓reduceIte, tyfacts, hn, hd, t5]
   rw [halfTo_all] at mg
   exact ⟨mg, hx⟩
end Go.Proofs.Ytbhgjikjdblgeaa.W

/- Graphs with their edges turned. No conditions. -/
namespace Go.Proofs.Ytbhgjikjdblgeaa.W
open Go.Am Go.Am.Ord Go.Am.Scc
def turnedTo (n : Nat) (E : Es) (i j : Nat) : List (List Int) := (List.range n).map fun x => castL ((List.range i).filter fun y => decide ((y, x) ∈ E)) ++ if x ∈ (adj n E i).take j then [(i : Int)] else []
theorem turnedTo_len (n : Nat) (E : Es) (i j : Nat) : (turnedTo n E i j).length = n := by simp [turnedTo]
theorem turnedTo_zero (n : Nat) (E : Es) : turnedTo n E 0 0 = List.replicate n [] := by
 apply List.ext_getElem
 · simp [turnedTo]
 · intro k h1 h2; simp [turnedTo, castL]
theorem turnedTo_row (n : Nat) (E : Es) (i : Nat) : turnedTo n E i (adj n E i).length = turnedTo n E (i + 1) 0 := by
 apply List.ext_getElem
 · simp [turnedTo]
 · intro x h1 h2
   have hx : x < n := by simpa [turnedTo] using h1
   simp only [turnedTo, List.getElem_map, List.getElem_range, List.take_length, List.take_zero, List.not_mem_nil, if_false, List.append_nil, List.range_succ, List.filter_append, castL_append]
   congr 1
   by_cases h : (i, x) ∈ E
   · rw [if_pos (mem_adj.2 ⟨hx, h⟩)]; simp [castL, h]
   · rw [if_neg (fun h' => h (mem_adj.1 h').2)]; simp [castL, h]
theorem turnedTo_all (n : Nat) (E : Es) : turnedTo n E n 0 = graph n (tr E) := by
 apply List.ext_getElem
 · simp [turnedTo, graph]
 · intro x h1 h2
   simp only [turnedTo, graph, List.getElem_map, List.getElem_range, List.take_zero, List.not_mem_nil, if_false, List.append_nil, adj, mem_tr]
theorem turnedTo_succ {n : Nat} {E : Es} {i j : Nat} (hj : j < (adj n E i).length) (hx : (adj n E i)[j] < n) :
  (turnedTo n E i j).set (adj n E i)[j] ((turnedTo n E i j)[(adj n E i)[j]]'(by rw [turnedTo_len]; exact hx) ++ [(i : Int)]) = turnedTo n E i (j + 1) := by
 have hnd : (adj n E i).Nodup := sorted_nodup (adj_strict n E i)
 apply List.ext_getElem
 · simp [turnedTo]
 · intro x h1 h2
   have ht : (adj n E i).take (j + 1) = (adj n E i).take j ++ [(adj n E i)[j]] := by rw [List.take_add_one, List.getElem?_eq_getElem hj]; rfl
   have hni : ¬ (adj n E i)[j] ∈ (adj n E i).take j := by
    intro h
    obtain ⟨k, hk, e⟩ := List.mem_take_iff_getElem.1 h
    rw [List.nodup_iff_pairwise_ne, List.pairwise_iff_getElem] at hnd
    exact hnd k j (by omega) hj (by omega) e
   simp only [turnedTo, List.getElem_set, List.getElem_map, List.getElem_range, ht, List.mem_append, List.mem_singleton]
   by_cases e : (adj n E i)[j] = x
   · subst e
     simp [hni]
   · have e' : ¬ x = (adj n E i)[j] := fun h => e h.symm
     simp [e, e']
theorem filter_le (n : Nat) (p : Nat → Bool) : ((List.range n).filter p).length ≤ n := Nat.le_trans (List.length_filter_le _ _) (by simp)
theorem sccTurned_ok {H : Heap} (wf : H.WF) {v : V} {n : Nat} {E : Es} (hg : SlG H v (rowsI (graph n E))) (hn4 : n ≤ 4096) :
  CallsTo T 32 [v] H fun r H' => MineG H.n H' r (rowsI (graph n (tr E))) ∧ Ext H H' := by
 refine Am.calls_enter (T := T) rfl Try.func32 rfl (by simp only [Try.f32, List.length_cons, List.length_nil]; decide) ?_
 simp only [Try.f32]
 have L := hg.len
 rw [rowsI_len, graph_len] at L
 simp (maxSteps := 10000000) (disch := first | assumption | (simp only [tyfacts, Am.wd, Nat.reduceEqDiff, Nat.reduceLT, reduceCtorEq]; try omega; done) | omega) only [Am.wanted, Am.isAlloc, Am.wa, Am.reads, Am.quiet, Am.over, Nat.testBit, Nat.reduceShiftRight, Nat.reduceAnd, Nat.reduceBNe, Nat.reduceLeDiff, Nat.reduceAdd, Nat.reduceMul, Nat.reduceLT, Nat.reduceEqDiff, Nat.reduceSub, reduceCtorEq, ↓reduceIte, tyfacts, L]
 generalize hat : V.slice H.n 0 n 1 (some n) = g
 have m0 : Mine H.n (H.push (.cells false (List.replicate n [V.nilSlice]).flatten)) g 1 (List.replicate n [V.nilSlice]) := by
  rw [← hat]
  exact own_made wf (Nat.le_refl _) 1 _ _ _ rfl (Nat.le_refl _)
 have g0 : MineG H.n (H.push (.cells false (List.replicate n [V.nilSlice]).flatten)) g (rowsI (turnedTo n E 0 0)) := by
  have : rowsI (turnedTo n E 0 0) = List.replicate n [] := by rw [turnedTo_zero]; simp [rowsI]
  rw [this]; exact MineG.made m0
 have hx1 : Ext H (H.push (.cells false (List.replicate n [V.nilSlice]).flatten)) := (Ext.refl wf).push _
 have gone : g.one = true := by rw [← hat]; rfl
 refine wpK_loop_ind _ (fun i : Nat => n - i) (fun i a H' => a.tmps.n = 37 ∧ a.defers = [] ∧ a.tmp 3 = g ∧ a.tmp 11 = v ∧ a.tmp 12 = .int .i64 n ∧ a.tmp 13 = .int .i64 i ∧ MineG H.n H' g (rowsI (turnedTo n E i 0)) ∧ Ext H H' ∧ i ≤ n) 0 ?_ ?_
 · simp (maxSteps := 10000000) (disch := first | assumption | (simp only [tyfacts, Am.wd, Nat.reduceEqDiff, Nat.reduceLT, reduceCtorEq]; try omega; done) | omega) only [Am.wanted, Am.isAlloc, Am.wa, Am.reads, Am.quiet, Am.over, Nat.testBit, Nat.reduceShiftRight, Nat.reduceAnd, Nat.reduceBNe, Nat.reduceLeDiff, Nat.reduceAdd, Nat.reduceMul, Nat.reduceLT, Nat.reduceEqDiff, Nat.reduceSub, reduceCtorEq, ↓reduceIte, tyfacts]
   exact ⟨rfl, g0, hx1, by omega⟩
 clear hx1 g0 m0
 intro i a H1 ⟨hn, hd, t3, t11, t12, t13, mg, hx, hi⟩ ih
 simp (maxSteps := 10000000) (disch := first | assumption | (simp only [tyfacts, Am.wd, Nat.reduceEqDiff, Nat.reduceLT, reduceCtorEq]; try omega; done) | omega) only [Am.wanted, Am.isAlloc, Am.wa, Am.reads, Am.quiet, Am.over, Nat.testBit, Nat.reduceShiftRight, Nat.reduceAnd, Nat.reduceBNe, Nat.reduceLeDiff, Nat.reduceAdd, Nat.reduceMul, Nat.reduceLT, Nat.reduceEqDiff, Nat.reduceSub, reduceCtorEq, ↓reduceIte, tyfacts, t12, t13, hn]
 refine wpB_dec (fun hq => ?_) (fun hq => ?_)
 · have hj : i < n := by omega
   have er : i < (rowsI (graph n E)).length := by rw [rowsI_len, graph_len]; exact hj
   have hg1 := hg.mono hx
   obtain ⟨ur, r1, r2⟩ := hg.row (T := T) 25 (by simp only [tyfacts]) i er
   rw [rowsI_get (by rw [graph_len]; exact hj), graph_get hj] at r2
   have r1 := r1 _ hx
   have i1 := hg1.idx (T := T) 46 (by simp only [tyfacts]) .i64 i er
   have Lr := r2.len
   rw [List.length_map, castL_len] at Lr
   have hal : (adj n E i).length ≤ n := filter_le _ _
   simp (maxSteps := 10000000) (disch := first | assumption | (simp only [tyfacts, Am.wd, Nat.reduceEqDiff, Nat.reduceLT, reduceCtorEq]; try omega; done) | omega) only [Am.wanted, Am.isAlloc, Am.wa, Am.reads, Am.quiet, Am.over, Nat.testBit, Nat.reduceShiftRight, Nat.reduceAnd, Nat.reduceBNe, Nat.reduceLeDiff, Nat.reduceAdd, Nat.reduceMul, Nat.reduceLT, Nat.reduceEqDiff, Nat.reduceSub, reduceCtorEq, ↓reduceIte, tyfacts, t11, t13, hn, i1, r1, Lr]
   refine wpK_loop_ind _ (fun j : Nat => (adj n E i).length - j) (fun j a H' => a.tmps.n = 37 ∧ a.defers = [] ∧ a.tmp 3 = g ∧ a.tmp 4 = .int .i64 i ∧ a.tmp 11 = v ∧ a.tmp 12 = .int .i64 n ∧ a.tmp 13 = .int .i64 i ∧ a.tmp 18 = ur ∧ a.tmp 19 = .int .i64 (adj n E i).length ∧ a.tmp 20 = .int .i64 j ∧
    MineG H.n H' g (rowsI (turnedTo n E i j)) ∧ Ext H H' ∧ j ≤ (adj n E i).length) 0 ?_ ?_
   · simp (maxSteps := 10000000) (disch := first | assumption | (simp only [tyfacts, Am.wd, Nat.reduceEqDiff, Nat.reduceLT, reduceCtorEq]; try omega; done) | omega) only [Am.wanted, Am.isAlloc, Am.wa, Am.reads, Am.quiet, Am.over, Nat.testBit, Nat.reduceShiftRight, Nat.reduceAnd, Nat.reduceBNe, Nat.reduceLeDiff, Nat.reduceAdd, Nat.reduceMul, Nat.reduceLT, Nat.reduceEqDiff, Nat.reduceSub, reduceCtorEq, ↓reduceIte, tyfacts, hn, hd, t3, t11, t12, t13]
     exact ⟨rfl, mg, hx, by omega⟩
   clear hn hd t3 t11 t12 t13 mg hx a hg1 r1 i1 H1
   intro j a H1 ⟨hn, hd, t3, t4, t11, t12, t13, t18, t19, t20, mg, hx, hk⟩ ih2
   have hr := r2.mono hx
   simp (maxSteps := 10000000) (disch := first | assumption | (simp only [tyfacts, Am.wd, Nat.reduceEqDiff, Nat.reduceLT, reduceCtorEq]; try omega; done) | omega) only [Am.wanted, Am.isAlloc, Am.wa, Am.reads, Am.quiet, Am.over, Nat.testBit, Nat.reduceShiftRight, Nat.reduceAnd, Nat.reduceBNe, Nat.reduceLeDiff, Nat.reduceAdd, Nat.reduceMul, Nat.reduceLT, Nat.reduceEqDiff, Nat.reduceSub, reduceCtorEq, ↓reduceIte, tyfacts, t19, t20, hn]
   refine wpB_dec (fun hq2 => ?_) (fun hq2 => ?_)
   · have hj2 : j < (adj n E i).length := by omega
     obtain ⟨hx0, _⟩ := mem_adj.1 (List.getElem_mem hj2)
     have e0 : j < ((castL (adj n E i)).map cI).length := by simp only [List.length_map, castL_len]; exact hj2
     have g1 : ((castL (adj n E i)).map cI)[j] = [.int .i64 ((adj n E i)[j] : Int)] := by simp [castL, cI]
     have l0 := hr.load1 (T := T) 3 (by simp only [tyfacts]) j e0
     rw [g1] at l0
     replace l0 : loadP T H1 3 (ptrAt ur j) = some (.int .i64 ((adj n E i)[j] : Int)) := l0
     have i0 := hr.idx (T := T) 25 (by simp only [tyfacts]) .i64 j e0
     have el := turnedTo_len n E i j
     have er2 : (adj n E i)[j] < (rowsI (turnedTo n E i j)).length := by rw [rowsI_len, el]; exact hx0
     obtain ⟨u, s1, s2, s3, s4, s6, s5⟩ := mg.row2 (T := T) (Ext.refl hx.wf) 25 (by simp only [tyfacts]) (by simp only [tyfacts]) (adj n E i)[j] er2
     have rl := s1 _ (Ext.refl hx.wf)
     rw [rowsI_get (by rw [el]; exact hx0)] at s2 s3
     have i2 := fun k => mg.sl.idx (T := T) 46 (by simp only [tyfacts]) k (adj n E i)[j] er2
     have ha : appOk T 25 25 = some (1, 8) := by simp only [tyfacts]
     have hle : ((turnedTo n E i j)[(adj n E i)[j]]'(by rw [el]; exact hx0)).length ≤ n + 1 := by
      simp only [turnedTo, List.getElem_map, List.getElem_range, List.length_append, castL_len]
      have := filter_le i fun y => decide ((y, (adj n E i)[j]) ∈ E)
      split <;> simp only [List.length_cons, List.length_nil] <;> omega
     obtain ⟨u', HC, p1, p2, p3, p4⟩ := append_one s3 hx.wf hx.n (k := H1.n) rfl ha (f := cI (i : Int)) rfl rfl (by simp; omega) (by simp; omega)
     have e2 : ((turnedTo n E i j)[(adj n E i)[j]]'(by rw [el]; exact hx0)).map cI ++ [cI (i : Int)] = ((turnedTo n E i j)[(adj n E i)[j]]'(by rw [el]; exact hx0) ++ [(i : Int)]).map cI := by simp
     rw [e2] at p2
     obtain ⟨HD, q1, q2, q3, q4⟩ := s5 HC u' _ p3 p2 p4
     rw [rowsI_set, turnedTo_succ hj2 hx0] at q2
     simp only [cI] at p1
     have nb : ∀ m, Of u m → H.n ≤ m := fun m h => s2.ge h
     have nv : ∀ m, Of g m → H.n ≤ m := fun m h => by
      obtain ⟨vs, a1, _⟩ := mg
      exact a1.ge h
     have hxD : Ext H HD := (hx.thenB p3 nb).thenB q3 nv
     simp (maxSteps := 10000000) (disch := first | assumption | (simp only [tyfacts, Am.wd, Nat.reduceEqDiff, Nat.reduceLT, reduceCtorEq]; try omega; done) | omega) only [Am.wanted, Am.isAlloc, Am.wa, Am.reads, Am.quiet, Am.over, Nat.testBit, Nat.reduceShiftRight, Nat.reduceAnd, Nat.reduceBNe, Nat.reduceLeDiff, Nat.reduceAdd, Nat.reduceMul, Nat.reduceLT, Nat.reduceEqDiff, Nat.reduceSub, reduceCtorEq, ↓reduceIte, tyfacts, t3, t4, t18, t20, hn, i0, l0, i2, rl, p1, q1]
     refine ih2 (j + 1) _ _ (by omega) ?_
     simp (maxSteps := 10000000) (disch := first | assumption | (simp only [tyfacts, Am.wd, Nat.reduceEqDiff, Nat.reduceLT, reduceCtorEq]; try omega; done) | omega) only [Am.wanted, Am.isAlloc, Am.wa, Am.reads, Am.quiet, Am.over, Nat.testBit, Nat.reduceShiftRight, Nat.reduceAnd, Nat.reduceBNe, Nat.reduceLeDiff, Nat.reduceAdd, Nat.reduceMul, Nat.reduceLT, Nat.reduceEqDiff, Nat.reduceSub, reduceCtorEq, ↓reduceIte, tyfacts, hn, hd, t3, t4, t11, t12, t13, t18, t19]
     exact ⟨by simp, q2, hxD, by omega⟩
   · have hje : j = (adj n E i).length := by omega
     subst hje
     rw [turnedTo_row] at mg
     simp (maxSteps := 10000000) (disch := first | assumption | (simp only [tyfacts, Am.wd, Nat.reduceEqDiff, Nat.reduceLT, reduceCtorEq]; try omega; done) | omega) only [Am.wanted, Am.isAlloc, Am.wa, Am.reads, Am.quiet, Am.over, Nat.testBit, Nat.reduceShiftRight, Nat.reduceAnd, Nat.reduceBNe, Nat.reduceLeDiff, Nat.reduceAdd, Nat.reduceMul, Nat.reduceLT, Nat.reduceEqDiff, Nat.reduceSub, reduceCtorEq, ↓reduceIte, tyfacts, t13, hn]
     refine ih (i + 1) _ _ (by omega) ?_
     simp (maxSteps := 10000000) (disch := first | assumption | (simp only [tyfacts, Am.wd, Nat.reduceEqDiff, Nat.reduceLT, reduceCtorEq]; try omega; done) | omega) only [Am.wanted, Am.isAlloc, Am.wa, Am.reads, Am.quiet, Am.over, Nat.testBit, Nat.reduceShiftRight, Nat.reduceAnd, Nat.reduceBNe, Nat.reduceLeDiff, Nat.reduceAdd, Nat.reduceMul, Nat.reduceLT, Nat.reduceEqDiff, Nat.reduceSub, reduceCtorEq, ↓reduceIte, tyfacts, hn, hd, t3, t11, t12]
     exact ⟨by simp, mg, hx, by omega⟩
 · have hie : i = n := by omega
   subst hie
   simp (maxSteps := 10000000) (disch := first | assumption | (simp only [tyfacts, Am.wd, Nat.reduceEqDiff, Nat.reduceLT, reduceCtorEq]; try omega; done) | omega) only [Am.wanted, Am.isAlloc, Am.wa, Am.reads, Am.quiet, Am.over, Nat.testBit, Nat.reduceShiftRight, Nat.reduceAnd, Nat.reduceBNe, Nat.reduceLeDiff, Nat.reduceAdd, Nat.reduceMul, Nat.reduceLT, Nat.reduceEqDiff, Nat.reduceSub, reduceCtorEq, ↓reduceIte, tyfacts, hn, hd, t3]
   rw [turnedTo_all] at mg
   exact ⟨mg, hx⟩
end Go.Proofs.Ytbhgjikjdblgeaa.W

/- How far one node leads. No conditions. -/
namespace Go.Proofs.Ytbhgjikjdblgeaa.W
open Go.Am Go.Am.Ord Go.Am.Scc
noncomputable def distL (n : Nat) (E : Es) (x : Nat) : List Int := tabF n fun y => dist E x y
theorem distL_len (n : Nat) (E : Es) (x : Nat) : (distL n E x).length = n := tabF_len _ _
theorem set_cI (cur : List Int) (i : Nat) (z : Int) : (cur.map cI).set i [V.int .i64 z] = (cur.set i z).map cI := by rw [List.map_set]; rfl
theorem sccFar_ok {H : Heap} (wf : H.WF) {v : V} {n : Nat} {E : Es} (hg : SlG H v (rowsI (graph n E))) (hE : ∀ p, p ∈ E → p.1 < n ∧ p.2 < n) (hn4 : n ≤ 4096) {x : Nat} (hx : x < n) :
  CallsTo T 30 [v, .int .i64 x] H fun r H' => Mine H.n H' r 1 ((distL n E x).map cI) ∧ Ext H H' := by
 refine Am.calls_enter (T := T) rfl Try.func30 rfl (by simp only [Try.f30, List.length_cons, List.length_nil]; decide) ?_
 simp only [Try.f30]
 have L := hg.len
 rw [rowsI_len, graph_len] at L
 simp (maxSteps := 10000000) (disch := first | assumption | (simp only [tyfacts, Am.wd, Nat.reduceEqDiff, Nat.reduceLT, reduceCtorEq]; try omega; done) | omega) only [Am.wanted, Am.isAlloc, Am.wa, Am.reads, Am.quiet, Am.over, Nat.testBit, Nat.reduceShiftRight, Nat.reduceAnd, Nat.reduceBNe, Nat.reduceLeDiff, Nat.reduceAdd, Nat.reduceMul, Nat.reduceLT, Nat.reduceEqDiff, Nat.reduceSub, reduceCtorEq, ↓reduceIte, tyfacts, L]
 generalize hat : V.slice H.n 0 n 1 (some n) = o
 have hrep : List.replicate n [V.int .i64 0] = (tabF n fun _ => 0).map cI := by rw [← tabF_zero]; simp [cI]
 rw [hrep]
 have m0 : Mine H.n (H.push (.cells false ((tabF n fun _ => 0).map cI).flatten)) o 1 ((tabF n fun _ => 0).map cI) := by
  rw [← hat, ← hrep]
  exact own_made wf (Nat.le_refl _) 1 _ _ _ rfl (Nat.le_refl _)
 have hx1 : Ext H (H.push (.cells false ((tabF n fun _ => 0).map cI).flatten)) := (Ext.refl wf).push _
 have n1 : (H.push (.cells false ((tabF n fun _ => 0).map cI).flatten)).n = H.n + 1 := by simp
 generalize hH1 : H.push (.cells false ((tabF n fun _ => 0).map cI).flatten) = H1 at m0 hx1 n1
 have oof : ∀ m, Of o m → m = H.n := fun m h => by rw [← hat] at h; exact (of_slice.1 h).symm
 have hx2 : Ext H1 (H1.push (.cells false [.int .i64 (x : Int)])) := (Ext.refl hx1.wf).push _
 have q0 : Mine H.n (H1.push (.cells false [.int .i64 (x : Int)])) (.slice (H.n + 1) 0 1 1 (some 1)) 1 ((castL [x]).map cI) := ⟨fun e he => by rw [List.mem_singleton.1 he]; rfl, .inr ⟨H.n + 1, some 1, [], rfl, by omega, by rw [← n1, get_push_same]; rfl, fun m hm => by cases hm; simp [castL]⟩⟩
 refine wpK_loop_ind _ (fun s : Nat × (Nat → Nat) × List Nat => n + 1 - s.1) (fun s a H' => a.tmps.n = 58 ∧ a.defers = [] ∧ a.tmp 0 = v ∧ a.tmp 5 = o ∧ a.tmp 7 = .int .i64 s.1 ∧ Mine H.n H' o 1 ((tabF n s.2.1).map cI) ∧ Mine H.n H' (a.tmp 6) 1 ((castL s.2.2).map cI) ∧ ¬ Of (a.tmp 6) H.n ∧
  Ext H H' ∧ Bfs E x s.2.1 s.2.2 s.1 ∧ (s.1 < s.2.2.length → Mid E x s.2.1 s.2.2 s.1 []) ∧ s.1 ≤ s.2.2.length) (0, (fun _ => 0), [x]) ?_ ?_
 · simp (maxSteps := 10000000) (disch := first | assumption | (simp only [tyfacts, Am.wd, Nat.reduceEqDiff, Nat.reduceLT, reduceCtorEq]; try omega; done) | omega) only [Am.wanted, Am.isAlloc, Am.wa, Am.reads, Am.quiet, Am.over, Nat.testBit, Nat.reduceShiftRight, Nat.reduceAnd, Nat.reduceBNe, Nat.reduceLeDiff, Nat.reduceAdd, Nat.reduceMul, Nat.reduceLT, Nat.reduceEqDiff, Nat.reduceSub, reduceCtorEq, ↓reduceIte, tyfacts]
   exact ⟨rfl, m0.mono hx2, q0, fun h => by have := of_slice.1 h; omega, hx1.trans hx2, (Bfs.start E x).bfs, fun _ => Bfs.start E x⟩
 clear q0 hx2 m0 hx1 n1 hH1 H1
 rintro ⟨i, out, w⟩ a H1 ⟨hn, hd, t0, t5, t7, mo, mq, nq, hxx, hb, hmid, hi⟩ ih
 simp only at t7 mo mq hb hmid hi ih ⊢
 generalize t6 : a.tmp 6 = q at mq nq
 have Lq := mq.len
 rw [List.length_map, castL_len] at Lq
 have hws := hb.short hE
 simp (maxSteps := 10000000) (disch := first | assumption | (simp only [tyfacts, Am.wd, Nat.reduceEqDiff, Nat.reduceLT, reduceCtorEq]; try omega; done) | omega) only [Am.wanted, Am.isAlloc, Am.wa, Am.reads, Am.quiet, Am.over, Nat.testBit, Nat.reduceShiftRight, Nat.reduceAnd, Nat.reduceBNe, Nat.reduceLeDiff, Nat.reduceAdd, Nat.reduceMul, Nat.reduceLT, Nat.reduceEqDiff, Nat.reduceSub, reduceCtorEq, ↓reduceIte, tyfacts, t6, t7, hn, Lq]
 refine wpB_dec (fun hq => ?_) (fun hq => ?_)
 · have hil : i < w.length := by omega
   have mid := hmid hil
   have lowd : ∀ k (hk : k < w.length), w[k] < n := by
    intro k hk
    by_cases h0 : k = 0
    · subst h0
      have := hb.head
      rw [List.getElem?_eq_getElem hk] at this
      rw [Option.some.inj this]; exact hx
    · have := hb.pos h0 hk
      exact wk_lt hE this (hb.way _ this)
   have hwn := lowd i hil
   have e0 : i < ((castL w).map cI).length := by simp only [List.length_map, castL_len]; exact hil
   have g1 : ((castL w).map cI)[i] = [.int .i64 (w[i] : Int)] := by simp [castL, cI]
   have l0 := mq.sl.load1 (T := T) 3 (by simp only [tyfacts]) i e0
   rw [g1] at l0
   replace l0 : loadP T H1 3 (ptrAt q i) = some (.int .i64 (w[i] : Int)) := l0
   have i0 := mq.sl.idx (T := T) 25 (by simp only [tyfacts]) .i64 i e0
   -- how far it is
   have e5 : w[i] < ((tabF n out).map cI).length := by simp only [List.length_map, tabF_len]; exact hwn
   have l5 := mo.sl.load1 (T := T) 3 (by simp only [tyfacts]) w[i] e5
   have g5 : ((tabF n out).map cI)[w[i]] = [.int .i64 (out w[i] : Int)] := by simp [tabF, cI]
   rw [g5] at l5
   replace l5 : loadP T H1 3 (ptrAt o w[i]) = some (.int .i64 (out w[i] : Int)) := l5
   have i5 := fun k => mo.sl.idx (T := T) 25 (by simp only [tyfacts]) k w[i] e5
   have er : w[i] < (rowsI (graph n E)).length := by rw [rowsI_len, graph_len]; exact hwn
   obtain ⟨ur, r1, r2⟩ := hg.row (T := T) 25 (by simp only [tyfacts]) w[i] er
   rw [rowsI_get (by rw [graph_len]; exact hwn), graph_get hwn] at r2
   have r1' := r1 _ hxx
   have i1 := fun k => hg.idx (T := T) 46 (by simp only [tyfacts]) k w[i] er
   have Lr := r2.len
   rw [List.length_map, castL_len] at Lr
   have hdn := mid.low i hil
   have hdk := dk_eq (out := out) hil
   by_cases h0 : i = 0
   · have hD' : (1 : Int) = (dk out w i : Int) + 1 := by simp [dk, h0]
     have hi0 : ¬ (0 : Int) < (i : Int) := by omega
     simp (maxSteps := 10000000) (disch := first | assumption | (simp only [tyfacts, Am.wd, Nat.reduceEqDiff, Nat.reduceLT, reduceCtorEq]; try omega; done) | omega) only [Am.wanted, Am.isAlloc, Am.wa, Am.reads, Am.quiet, Am.over, Nat.testBit, Nat.reduceShiftRight, Nat.reduceAnd, Nat.reduceBNe, Nat.reduceLeDiff, Nat.reduceAdd, Nat.reduceMul, Nat.reduceLT, Nat.reduceEqDiff, Nat.reduceSub, reduceCtorEq, ↓reduceIte, tyfacts, t0, t5, t6, t7, hn, i0, l0, hi0, i1, r1', Lr]
     have hal : (adj n E w[i]).length ≤ n := filter_le _ _
     have hwi : w[i]? = some w[i] := List.getElem?_eq_getElem hil
     have hDn : dk out w i ≤ n := by omega
     generalize hD : dk out w i = D at hD' hDn
     generalize hwg : w[i] = wi at hwi hwn r2 Lr hal
     refine wpK_loop_ind _ (fun s : Nat × (Nat → Nat) × List Nat => (adj n E wi).length - s.1) (fun s a H' => a.tmps.n = 58 ∧ a.defers = [] ∧ a.tmp 0 = v ∧ a.tmp 5 = o ∧ a.tmp 7 = .int .i64 i ∧ a.tmp 9 = .int .i64 ((D : Int) + 1) ∧ a.tmp 37 = ur ∧ a.tmp 38 = .int .i64 (adj n E wi).length ∧ a.tmp 39 = .int .i64 s.1 ∧
      Mine H.n H' o 1 ((tabF n s.2.1).map cI) ∧ Mine H.n H' (a.tmp 6) 1 ((castL s.2.2).map cI) ∧ ¬ Of (a.tmp 6) H.n ∧ Ext H H' ∧ Mid E x s.2.1 s.2.2 i ((adj n E wi).take s.1) ∧ s.2.2[i]? = some wi ∧ dk s.2.1 s.2.2 i = D ∧ s.1 ≤ (adj n E wi).length) (0, out, w) ?_ ?_
     · simp (maxSteps := 10000000) (disch := first | assumption | (simp only [tyfacts, Am.wd, Nat.reduceEqDiff, Nat.reduceLT, reduceCtorEq]; try omega; done) | omega) only [Am.wanted, Am.isAlloc, Am.wa, Am.reads, Am.quiet, Am.over, Nat.testBit, Nat.reduceShiftRight, Nat.reduceAnd, Nat.reduceBNe, Nat.reduceLeDiff, Nat.reduceAdd, Nat.reduceMul, Nat.reduceLT, Nat.reduceEqDiff, Nat.reduceSub, reduceCtorEq, ↓reduceIte, tyfacts, hn, hd, t0, t5, t6, t7]
       exact ⟨congrArg (V.int .i64) (by first | exact hD' | (rw [← hwg]; exact hD')), rfl, mo, mq, nq, hxx, by rw [List.take_zero]; exact mid, hwi, hD, by omega⟩
     clear hn hd t0 t5 t6 t7 mo mq nq hxx l0 i0 l5 i5 g5 e5 g1 e0 r1' a Lq mid hmid lowd hdn hwi hD hwg hD' hb hws hi hq r1 i1 er hdk hi0 H1
     rintro ⟨j, out2, w2⟩ a H1 ⟨hn, hd, t0, t5, t7, t9, t37, t38, t39, mo, mq, nq, hxx, mid, hwi, hD, hj⟩ ih2
     simp only at t39 mo mq mid hwi hD hj ih2 ⊢
     generalize t6 : a.tmp 6 = q2 at mq nq
     have hws := mid.bfs.short hE
     have ra := r2.mono hxx
     simp (maxSteps := 10000000) (disch := first | assumption | (simp only [tyfacts, Am.wd, Nat.reduceEqDiff, Nat.reduceLT, reduceCtorEq]; try omega; done) | omega) only [Am.wanted, Am.isAlloc, Am.wa, Am.reads, Am.quiet, Am.over, Nat.testBit, Nat.reduceShiftRight, Nat.reduceAnd, Nat.reduceBNe, Nat.reduceLeDiff, Nat.reduceAdd, Nat.reduceMul, Nat.reduceLT, Nat.reduceEqDiff, Nat.reduceSub, reduceCtorEq, ↓reduceIte, tyfacts, t38, t39, hn]
     refine wpB_dec (fun hq2 => ?_) (fun hq2 => ?_)
     · have hj2 : j < (adj n E wi).length := by omega
       obtain ⟨hy, hed⟩ := mem_adj.1 (List.getElem_mem hj2)
       have e0 : j < ((castL (adj n E wi)).map cI).length := by simp only [List.length_map, castL_len]; exact hj2
       have g1 : ((castL (adj n E wi)).map cI)[j] = [.int .i64 ((adj n E wi)[j] : Int)] := by simp [castL, cI]
       have l0 := ra.load1 (T := T) 3 (by simp only [tyfacts]) j e0
       rw [g1] at l0
       replace l0 : loadP T H1 3 (ptrAt ur j) = some (.int .i64 ((adj n E wi)[j] : Int)) := l0
       have i0 := ra.idx (T := T) 25 (by simp only [tyfacts]) .i64 j e0
       have ht : (adj n E wi).take (j + 1) = (adj n E wi).take j ++ [(adj n E wi)[j]] := by rw [List.take_add_one, List.getElem?_eq_getElem hj2]; rfl
       generalize (adj n E wi)[j] = y at hy hed l0 ht
       have e5 : y < ((tabF n out2).map cI).length := by simp only [List.length_map, tabF_len]; exact hy
       have l5 := mo.sl.load1 (T := T) 3 (by simp only [tyfacts]) y e5
       have g5 : ((tabF n out2).map cI)[y] = [.int .i64 (out2 y : Int)] := by simp [tabF, cI]
       rw [g5] at l5
       replace l5 : loadP T H1 3 (ptrAt o y) = some (.int .i64 (out2 y : Int)) := l5
       have i5 := fun k => mo.sl.idx (T := T) 25 (by simp only [tyfacts]) k y e5
       simp (maxSteps := 10000000) (disch := first | assumption | (simp only [tyfacts, Am.wd, Nat.reduceEqDiff, Nat.reduceLT, reduceCtorEq]; try omega; done) | omega) only [Am.wanted, Am.isAlloc, Am.wa, Am.reads, Am.quiet, Am.over, Nat.testBit, Nat.reduceShiftRight, Nat.reduceAnd, Nat.reduceBNe, Nat.reduceLeDiff, Nat.reduceAdd, Nat.reduceMul, Nat.reduceLT, Nat.reduceEqDiff, Nat.reduceSub, reduceCtorEq, ↓reduceIte, tyfacts, t5, t37, t39, hn, i0, l0, i5, l5]
       refine wpB_dec (fun hz => ?_) (fun hz => ?_)
       · have hil := mid.lt
         have hwi' : w2[i] = wi := by rw [List.getElem?_eq_getElem hil] at hwi; exact Option.some.inj hwi
         have nw := mid.new (y := y) (by omega) (by rw [hwi']; exact hed)
         have hws2 := nw.bfs.short hE
         rw [List.length_append, List.length_cons, List.length_nil] at hws2
         obtain ⟨H2, s1, s2, s3, s4⟩ := mo.store1 hxx.wf (T := T) (t := 3) (by simp only [tyfacts]) (j := y) e5 (x := .int .i64 ((D : Int) + 1)) rfl
         have hset : ((tabF n out2).map cI).set y [.int .i64 ((D : Int) + 1)] = (tabF n (updN out2 y (dk out2 w2 i + 1))).map cI := by
          rw [set_cI, tabF_set (g := updN out2 y (dk out2 w2 i + 1)) hy (by simp [updN, hD]) fun k _ hk => by simp [updN, hk]]
         rw [hset] at s2
         have hx2 : Ext H H2 := hxx.thenB s3 fun m h => by rw [oof m h]; exact Nat.le_refl _
         have mq2 := mq.ext s3 fun m h h2 => nq (by rw [← oof m h2]; exact h)
         have ha : appOk T 25 25 = some (1, 8) := by simp only [tyfacts]
         obtain ⟨q3, H3, p1, p2, p3, p4⟩ := append_one mq2 hx2.wf hx2.n (k := H2.n) rfl ha (f := cI (y : Int)) rfl rfl (by simp [castL]; omega) (by simp [castL]; omega)
         have mo3 := s2.ext p3 fun m h h2 => nq (by rw [← oof m h]; exact h2)
         simp only [cI] at p1
         have hltH : H.n < H2.n := s2.lt (by rw [← hat]; exact of_slice.2 rfl)
         simp (maxSteps := 10000000) (disch := first | assumption | (simp only [tyfacts, Am.wd, Nat.reduceEqDiff, Nat.reduceLT, reduceCtorEq]; try omega; done) | omega) only [Am.wanted, Am.isAlloc, Am.wa, Am.reads, Am.quiet, Am.over, Nat.testBit, Nat.reduceShiftRight, Nat.reduceAnd, Nat.reduceBNe, Nat.reduceLeDiff, Nat.reduceAdd, Nat.reduceMul, Nat.reduceLT, Nat.reduceEqDiff, Nat.reduceSub, reduceCtorEq, ↓reduceIte, tyfacts, t5, t6, t9, t39, hn, i5, s1, p1]
         refine ih2 (j + 1, updN out2 y (dk out2 w2 i + 1), w2 ++ [y]) _ _ (by simp only; omega) ?_
         simp (maxSteps := 10000000) (disch := first | assumption | (simp only [tyfacts, Am.wd, Nat.reduceEqDiff, Nat.reduceLT, reduceCtorEq]; try omega; done) | omega) only [Am.wanted, Am.isAlloc, Am.wa, Am.reads, Am.quiet, Am.over, Nat.testBit, Nat.reduceShiftRight, Nat.reduceAnd, Nat.reduceBNe, Nat.reduceLeDiff, Nat.reduceAdd, Nat.reduceMul, Nat.reduceLT, Nat.reduceEqDiff, Nat.reduceSub, reduceCtorEq, ↓reduceIte, tyfacts, hn, hd, t0, t5, t7, t9, t37, t38]
         refine ⟨by simp, mo3, by rw [castL_append, List.map_append]; exact p2, fun h => ?_, hx2.thenB p3 fun m h => mq2.ge h, by rw [ht]; exact nw, ?_, ?_, by omega⟩
         · rcases p4 _ h with h | h
           · exact nq h
           · omega
         · rw [List.getElem?_append_left hil]; exact hwi
         · rw [← hD]
           unfold dk
           by_cases h0 : i = 0
           · rw [if_pos h0, if_pos h0]
           · rw [if_neg h0, if_neg h0]
             have hp := mid.bfs.pos h0 hil
             have e1 : w2.getD i 0 = w2[i] := by simp [List.getD_eq_getElem?_getD, hil]
             have e2 : (w2 ++ [y]).getD i 0 = w2[i] := by simp [List.getD_eq_getElem?_getD, List.getElem?_append_left hil, hil]
             rw [e1, e2]
             simp only [updN]
             rw [if_neg (fun e => by rw [e] at hp; omega)]
       · simp (maxSteps := 10000000) (disch := first | assumption | (simp only [tyfacts, Am.wd, Nat.reduceEqDiff, Nat.reduceLT, reduceCtorEq]; try omega; done) | omega) only [Am.wanted, Am.isAlloc, Am.wa, Am.reads, Am.quiet, Am.over, Nat.testBit, Nat.reduceShiftRight, Nat.reduceAnd, Nat.reduceBNe, Nat.reduceLeDiff, Nat.reduceAdd, Nat.reduceMul, Nat.reduceLT, Nat.reduceEqDiff, Nat.reduceSub, reduceCtorEq, ↓reduceIte, tyfacts, t39, hn]
         refine ih2 (j + 1, out2, w2) _ _ (by simp only; omega) ?_
         simp (maxSteps := 10000000) (disch := first | assumption | (simp only [tyfacts, Am.wd, Nat.reduceEqDiff, Nat.reduceLT, reduceCtorEq]; try omega; done) | omega) only [Am.wanted, Am.isAlloc, Am.wa, Am.reads, Am.quiet, Am.over, Nat.testBit, Nat.reduceShiftRight, Nat.reduceAnd, Nat.reduceBNe, Nat.reduceLeDiff, Nat.reduceAdd, Nat.reduceMul, Nat.reduceLT, Nat.reduceEqDiff, Nat.reduceSub, reduceCtorEq, ↓reduceIte, tyfacts, hn, hd, t0, t5, t6, t7, t9, t37, t38]
         exact ⟨by simp, mo, mq, nq, hxx, by rw [ht]; exact mid.old (by omega), hwi, hD, by omega⟩
     · have hje : j = (adj n E wi).length := by omega
       subst hje
       have hil := mid.lt
       have hwi' : w2[i] = wi := by rw [List.getElem?_eq_getElem hil] at hwi; exact Option.some.inj hwi
       rw [List.take_length] at mid
       obtain ⟨nb, nm⟩ := mid.next fun y hy => mem_adj.2 ⟨(hE _ hy).2, by rw [← hwi']; exact hy⟩
       simp (maxSteps := 10000000) (disch := first | assumption | (simp only [tyfacts, Am.wd, Nat.reduceEqDiff, Nat.reduceLT, reduceCtorEq]; try omega; done) | omega) only [Am.wanted, Am.isAlloc, Am.wa, Am.reads, Am.quiet, Am.over, Nat.testBit, Nat.reduceShiftRight, Nat.reduceAnd, Nat.reduceBNe, Nat.reduceLeDiff, Nat.reduceAdd, Nat.reduceMul, Nat.reduceLT, Nat.reduceEqDiff, Nat.reduceSub, reduceCtorEq, ↓reduceIte, tyfacts, t7, hn]
       refine ih (i + 1, out2, w2) _ _ (by simp only; omega) ?_
       simp (maxSteps := 10000000) (disch := first | assumption | (simp only [tyfacts, Am.wd, Nat.reduceEqDiff, Nat.reduceLT, reduceCtorEq]; try omega; done) | omega) only [Am.wanted, Am.isAlloc, Am.wa, Am.reads, Am.quiet, Am.over, Nat.testBit, Nat.reduceShiftRight, Nat.reduceAnd, Nat.reduceBNe, Nat.reduceLeDiff, Nat.reduceAdd, Nat.reduceMul, Nat.reduceLT, Nat.reduceEqDiff, Nat.reduceSub, reduceCtorEq, ↓reduceIte, tyfacts, hn, hd, t0, t5, t6]
       exact ⟨by simp, mo, mq, nq, hxx, nb, nm, by omega⟩
   · have hD' : (out w[i] : Int) + 1 = (dk out w i : Int) + 1 := by rw [← dk_eq hil, if_neg h0]
     have hi0 : (0 : Int) < (i : Int) := by omega
     have hob : out w[i] ≤ n + 1 := by rw [if_neg h0] at hdk; omega
     simp (maxSteps := 10000000) (disch := first | assumption | (simp only [tyfacts, Am.wd, Nat.reduceEqDiff, Nat.reduceLT, reduceCtorEq]; try omega; done) | omega) only [Am.wanted, Am.isAlloc, Am.wa, Am.reads, Am.quiet, Am.over, Nat.testBit, Nat.reduceShiftRight, Nat.reduceAnd, Nat.reduceBNe, Nat.reduceLeDiff, Nat.reduceAdd, Nat.reduceMul, Nat.reduceLT, Nat.reduceEqDiff, Nat.reduceSub, reduceCtorEq, ↓reduceIte, tyfacts, t0, t5, t6, t7, hn, i0, l0, hi0, i1, i5, l5, r1', Lr]
     have hal : (adj n E w[i]).length ≤ n := filter_le _ _
     have hwi : w[i]? = some w[i] := List.getElem?_eq_getElem hil
     have hDn : dk out w i ≤ n := by omega
     generalize hD : dk out w i = D at hD' hDn
     generalize hwg : w[i] = wi at hwi hwn r2 Lr hal
     refine wpK_loop_ind _ (fun s : Nat × (Nat → Nat) × List Nat => (adj n E wi).length - s.1) (fun s a H' => a.tmps.n = 58 ∧ a.defers = [] ∧ a.tmp 0 = v ∧ a.tmp 5 = o ∧ a.tmp 7 = .int .i64 i ∧ a.tmp 9 = .int .i64 ((D : Int) + 1) ∧ a.tmp 37 = ur ∧ a.tmp 38 = .int .i64 (adj n E wi).length ∧ a.tmp 39 = .int .i64 s.1 ∧
      Mine H.n H' o 1 ((tabF n s.2.1).map cI) ∧ Mine H.n H' (a.tmp 6) 1 ((castL s.2.2).map cI) ∧ ¬ Of (a.tmp 6) H.n ∧ Ext H H' ∧ Mid E x s.2.1 s.2.2 i ((adj n E wi).take s.1) ∧ s.2.2[i]? = some wi ∧ dk s.2.1 s.2.2 i = D ∧ s.1 ≤ (adj n E wi).length) (0, out, w) ?_ ?_
     · simp (maxSteps := 10000000) (disch := first | assumption | (simp only [tyfacts, Am.wd, Nat.reduceEqDiff, Nat.reduceLT, reduceCtorEq]; try omega; done) | omega) only [Am.wanted, Am.isAlloc, Am.wa, Am.reads, Am.quiet, Am.over, Nat.testBit, Nat.reduceShiftRight, Nat.reduceAnd, Nat.reduceBNe, Nat.reduceLeDiff, Nat.reduceAdd, Nat.reduceMul, Nat.reduceLT, Nat.reduceEqDiff, Nat.reduceSub, reduceCtorEq, ↓reduceIte, tyfacts, hn, hd, t0, t5, t6, t7]
       exact ⟨congrArg (V.int .i64) (by first | exact hD' | (rw [← hwg]; exact hD')), rfl, mo, mq, nq, hxx, by rw [List.take_zero]; exact mid, hwi, hD, by omega⟩
     clear hn hd t0 t5 t6 t7 mo mq nq hxx l0 i0 l5 i5 g5 e5 g1 e0 r1' a Lq mid hmid lowd hdn hwi hD hwg hD' hb hws hi hq r1 i1 er hdk hi0 H1
     rintro ⟨j, out2, w2⟩ a H1 ⟨hn, hd, t0, t5, t7, t9, t37, t38, t39, mo, mq, nq, hxx, mid, hwi, hD, hj⟩ ih2
     simp only at t39 mo mq mid hwi hD hj ih2 ⊢
     generalize t6 : a.tmp 6 = q2 at mq nq
     have hws := mid.bfs.short hE
     have ra := r2.mono hxx
     simp (maxSteps := 10000000) (disch := first | assumption | (simp only [tyfacts, Am.wd, Nat.reduceEqDiff, Nat.reduceLT, reduceCtorEq]; try omega; done) | omega) only [Am.wanted, Am.isAlloc, Am.wa, Am.reads, Am.quiet, Am.over, Nat.testBit, Nat.reduceShiftRight, Nat.reduceAnd, Nat.reduceBNe, Nat.reduceLeDiff, Nat.reduceAdd, Nat.reduceMul, Nat.reduceLT, Nat.reduceEqDiff, Nat.reduceSub, reduceCtorEq, ↓reduceIte, tyfacts, t38, t39, hn]
     refine wpB_dec (fun hq2 => ?_) (fun hq2 => ?_)
     · have hj2 : j < (adj n E wi).length := by omega
       obtain ⟨hy, hed⟩ := mem_adj.1 (List.getElem_mem hj2)
       have e0 : j < ((castL (adj n E wi)).map cI).length := by simp only [List.length_map, castL_len]; exact hj2
       have g1 : ((castL (adj n E wi)).map cI)[j] = [.int .i64 ((adj n E wi)[j] : Int)] := by simp [castL, cI]
       have l0 := ra.load1 (T := T) 3 (by simp only [tyfacts]) j e0
       rw [g1] at l0
       replace l0 : loadP T H1 3 (ptrAt ur j) = some (.int .i64 ((adj n E wi)[j] : Int)) := l0
       have i0 := ra.idx (T := T) 25 (by simp only [tyfacts]) .i64 j e0
       have ht : (adj n E wi).take (j + 1) = (adj n E wi).take j ++ [(adj n E wi)[j]] := by rw [List.take_add_one, List.getElem?_eq_getElem hj2]; rfl
       generalize (adj n E wi)[j] = y at hy hed l0 ht
       have e5 : y < ((tabF n out2).map cI).length := by simp only [List.length_map, tabF_len]; exact hy
       have l5 := mo.sl.load1 (T := T) 3 (by simp only [tyfacts]) y e5
       have g5 : ((tabF n out2).map cI)[y] = [.int .i64 (out2 y : Int)] := by simp [tabF, cI]
       rw [g5] at l5
       replace l5 : loadP T H1 3 (ptrAt o y) = some (.int .i64 (out2 y : Int)) := l5
       have i5 := fun k => mo.sl.idx (T := T) 25 (by simp only [tyfacts]) k y e5
       simp (maxSteps := 10000000) (disch := first | assumption | (simp only [tyfacts, Am.wd, Nat.reduceEqDiff, Nat.reduceLT, reduceCtorEq]; try omega; done) | omega) only [Am.wanted, Am.isAlloc, Am.wa, Am.reads, Am.quiet, Am.over, Nat.testBit, Nat.reduceShiftRight, Nat.reduceAnd, Nat.reduceBNe, Nat.reduceLeDiff, Nat.reduceAdd, Nat.reduceMul, Nat.reduceLT, Nat.reduceEqDiff, Nat.reduceSub, reduceCtorEq, ↓reduceIte, tyfacts, t5, t37, t39, hn, i0, l0, i5, l5]
       refine wpB_dec (fun hz => ?_) (fun hz => ?_)
       · have hil := mid.lt
         have hwi' : w2[i] = wi := by rw [List.getElem?_eq_getElem hil] at hwi; exact Option.some.inj hwi
         have nw := mid.new (y := y) (by omega) (by rw [hwi']; exact hed)
         have hws2 := nw.bfs.short hE
         rw [List.length_append, List.length_cons, List.length_nil] at hws2
         obtain ⟨H2, s1, s2, s3, s4⟩ := mo.store1 hxx.wf (T := T) (t := 3) (by simp only [tyfacts]) (j := y) e5 (x := .int .i64 ((D : Int) + 1)) rfl
         have hset : ((tabF n out2).map cI).set y [.int .i64 ((D : Int) + 1)] = (tabF n (updN out2 y (dk out2 w2 i + 1))).map cI := by
          rw [set_cI, tabF_set (g := updN out2 y (dk out2 w2 i + 1)) hy (by simp [updN, hD]) fun k _ hk => by simp [updN, hk]]
         rw [hset] at s2
         have hx2 : Ext H H2 := hxx.thenB s3 fun m h => by rw [oof m h]; exact Nat.le_refl _
         have mq2 := mq.ext s3 fun m h h2 => nq (by rw [← oof m h2]; exact h)
         have ha : appOk T 25 25 = some (1, 8) := by simp only [tyfacts]
         obtain ⟨q3, H3, p1, p2, p3, p4⟩ := append_one mq2 hx2.wf hx2.n (k := H2.n) rfl ha (f := cI (y : Int)) rfl rfl (by simp [castL]; omega) (by simp [castL]; omega)
         have mo3 := s2.ext p3 fun m h h2 => nq (by rw [← oof m h]; exact h2)
         simp only [cI] at p1
         have hltH : H.n < H2.n := s2.lt (by rw [← hat]; exact of_slice.2 rfl)
         simp (maxSteps := 10000000) (disch := first | assumption | (simp only [tyfacts, Am.wd, Nat.reduceEqDiff, Nat.reduceLT, reduceCtorEq]; try omega; done) | omega) only [Am.wanted, Am.isAlloc, Am.wa, Am.reads, Am.quiet, Am.over, Nat.testBit, Nat.reduceShiftRight, Nat.reduceAnd, Nat.reduceBNe, Nat.reduceLeDiff, Nat.reduceAdd, Nat.reduceMul, Nat.reduceLT, Nat.reduceEqDiff, Nat.reduceSub, reduceCtorEq, ↓reduceIte, tyfacts, t5, t6, t9, t39, hn, i5, s1, p1]
         refine ih2 (j + 1, updN out2 y (dk out2 w2 i + 1), w2 ++ [y]) _ _ (by simp only; omega) ?_
         simp (maxSteps := 10000000) (disch := first | assumption | (simp only [tyfacts, Am.wd, Nat.reduceEqDiff, Nat.reduceLT, reduceCtorEq]; try omega; done) | omega) only [Am.wanted, Am.isAlloc, Am.wa, Am.reads, Am.quiet, Am.over, Nat.testBit, Nat.reduceShiftRight, Nat.reduceAnd, Nat.reduceBNe, Nat.reduceLeDiff, Nat.reduceAdd, Nat.reduceMul, Nat.reduceLT, Nat.reduceEqDiff, Nat.reduceSub, reduceCtorEq, ↓reduceIte, tyfacts, hn, hd, t0, t5, t7, t9, t37, t38]
         refine ⟨by simp, mo3, by rw [castL_append, List.map_append]; exact p2, fun h => ?_, hx2.thenB p3 fun m h => mq2.ge h, by rw [ht]; exact nw, ?_, ?_, by omega⟩
         · rcases p4 _ h with h | h
           · exact nq h
           · omega
         · rw [List.getElem?_append_left hil]; exact hwi
         · rw [← hD]
           unfold dk
           by_cases h0 : i = 0
           · rw [if_pos h0, if_pos h0]
           · rw [if_neg h0, if_neg h0]
             have hp := mid.bfs.pos h0 hil
             have e1 : w2.getD i 0 = w2[i] := by simp [List.getD_eq_getElem?_getD, hil]
             have e2 : (w2 ++ [y]).getD i 0 = w2[i] := by simp [List.getD_eq_getElem?_getD, List.getElem?_append_left hil, hil]
             rw [e1, e2]
             simp only [updN]
             rw [if_neg (fun e => by rw [e] at hp; omega)]
       · simp (maxSteps := 10000000) (disch := first | assumption | (simp only [tyfacts, Am.wd, Nat.reduceEqDiff, Nat.reduceLT, reduceCtorEq]; try omega; done) | omega) only [Am.wanted, Am.isAlloc, Am.wa, Am.reads, Am.quiet, Am.over, Nat.testBit, Nat.reduceShiftRight, Nat.reduceAnd, Nat.reduceBNe, Nat.reduceLeDiff, Nat.reduceAdd, Nat.reduceMul, Nat.reduceLT, Nat.reduceEqDiff, Nat.reduceSub, reduceCtorEq, ↓reduceIte, tyfacts, t39, hn]
         refine ih2 (j + 1, out2, w2) _ _ (by simp only; omega) ?_
         simp (maxSteps := 10000000) (disch := first | assumption | (simp only [tyfacts, Am.wd, Nat.reduceEqDiff, Nat.reduceLT, reduceCtorEq]; try omega; done) | omega) only [Am.wanted, Am.isAlloc, Am.wa, Am.reads, Am.quiet, Am.over, Nat.testBit, Nat.reduceShiftRight, Nat.reduceAnd, Nat.reduceBNe, Nat.reduceLeDiff, Nat.reduceAdd, Nat.reduceMul, Nat.reduceLT, Nat.reduceEqDiff, Nat.reduceSub, reduceCtorEq, ↓reduceIte, tyfacts, hn, hd, t0, t5, t6, t7, t9, t37, t38]
         exact ⟨by simp, mo, mq, nq, hxx, by rw [ht]; exact mid.old (by omega), hwi, hD, by omega⟩
     · have hje : j = (adj n E wi).length := by omega
       subst hje
       have hil := mid.lt
       have hwi' : w2[i] = wi := by rw [List.getElem?_eq_getElem hil] at hwi; exact Option.some.inj hwi
       rw [List.take_length] at mid
       obtain ⟨nb, nm⟩ := mid.next fun y hy => mem_adj.2 ⟨(hE _ hy).2, by rw [← hwi']; exact hy⟩
       simp (maxSteps := 10000000) (disch := first | assumption | (simp only [tyfacts, Am.wd, Nat.reduceEqDiff, Nat.reduceLT, reduceCtorEq]; try omega; done) | omega) only [Am.wanted, Am.isAlloc, Am.wa, Am.reads, Am.quiet, Am.over, Nat.testBit, Nat.reduceShiftRight, Nat.reduceAnd, Nat.reduceBNe, Nat.reduceLeDiff, Nat.reduceAdd, Nat.reduceMul, Nat.reduceLT, Nat.reduceEqDiff, Nat.reduceSub, reduceCtorEq, ↓reduceIte, tyfacts, t7, hn]
       refine ih (i + 1, out2, w2) _ _ (by simp only; omega) ?_
       simp (maxSteps := 10000000) (disch := first | assumption | (simp only [tyfacts, Am.wd, Nat.reduceEqDiff, Nat.reduceLT, reduceCtorEq]; try omega; done) | omega) only [Am.wanted, Am.isAlloc, Am.wa, Am.reads, Am.quiet, Am.over, Nat.testBit, Nat.reduceShiftRight, Nat.reduceAnd, Nat.reduceBNe, Nat.reduceLeDiff, Nat.reduceAdd, Nat.reduceMul, Nat.reduceLT, Nat.reduceEqDiff, Nat.reduceSub, reduceCtorEq, ↓reduceIte, tyfacts, hn, hd, t0, t5, t6]
       exact ⟨by simp, mo, mq, nq, hxx, nb, nm, by omega⟩
 · have hie : w.length ≤ i := by omega
   simp (maxSteps := 10000000) (disch := first | assumption | (simp only [tyfacts, Am.wd, Nat.reduceEqDiff, Nat.reduceLT, reduceCtorEq]; try omega; done) | omega) only [Am.wanted, Am.isAlloc, Am.wa, Am.reads, Am.quiet, Am.over, Nat.testBit, Nat.reduceShiftRight, Nat.reduceAnd, Nat.reduceBNe, Nat.reduceLeDiff, Nat.reduceAdd, Nat.reduceMul, Nat.reduceLT, Nat.reduceEqDiff, Nat.reduceSub, reduceCtorEq, ↓reduceIte, tyfacts, hn, hd, t5]
   have : distL n E x = tabF n out := tabF_congr fun y _ => (hb.all hie y).symm
   rw [this]
   exact ⟨mo, hxx⟩
end Go.Proofs.Ytbhgjikjdblgeaa.W

/- How far one node leads, as the document has it. No conditions. -/
namespace Go.Proofs.Ytbhgjikjdblgeaa.W
open Go.Am Go.Am.Ord Go.Am.Scc
end Go.Proofs.Ytbhgjikjdblgeaa.W

/- To which nodes one leads: the program, and the document. No conditions. -/
namespace Go.Proofs.Ytbhgjikjdblgeaa.W
open Go.Am Go.Am.Ord Go.Am.Scc
def natE (es : List (Int × Int)) : Es := es.map fun p => (p.1.toNat, p.2.toNat)
theorem check_zeroS {n : Int} {es : List (Int × Int)} (h : checkS n es = 0) : 0 ≤ n ∧ n ≤ 4096 ∧ es.length ≤ 1048576 ∧ castE (natE es) = es ∧ ∀ p, p ∈ natE es → p.1 < n.toNat ∧ p.2 < n.toNat := by
 unfold checkS at h
 split at h
 · cases h
 · rename_i h1
   split at h
   · cases h
   · rename_i h2
     split at h
     · cases h
     · rename_i h3
       have h4 : ∀ p, p ∈ es → 0 ≤ p.1 ∧ p.1 < n ∧ 0 ≤ p.2 ∧ p.2 < n := by
        intro p hp
        cases hb : badE n p with
        | true => exact absurd (List.any_eq_true.2 ⟨p, hp, hb⟩) h3
        | false => simp only [badE, decide_eq_false_iff_not] at hb; omega
       refine ⟨by omega, by omega, by omega, ?_, ?_⟩
       · simp only [castE, natE, List.map_map]
         conv => rhs; rw [← List.map_id es]
         refine List.map_congr_left fun p hp => ?_
         have := h4 p hp
         obtain ⟨a, b⟩ := p
         simp only at this
         simp only [Function.comp_apply, id_eq, Prod.mk.injEq]
         omega
       · intro p hp
         obtain ⟨q, hq, rfl⟩ := List.mem_map.1 hp
         have := h4 q hq
         simp only; omega
noncomputable def reach (n : Nat) (E : Es) (x : Nat) (i : Nat) : List Nat := (List.range i).filter fun y => decide (0 < dist E x y)
theorem reach_succ (n : Nat) (E : Es) (x i : Nat) : reach n E x (i + 1) = reach n E x i ++ if 0 < dist E x i then [i] else [] := by
 simp only [reach, List.range_succ, List.filter_append]
 congr 1
 by_cases h : 0 < dist E x i <;> simp [h]
theorem reach_len (n : Nat) (E : Es) (x i : Nat) : (reach n E x i).length ≤ i := filter_le _ _
noncomputable def reachF (n : Int) (es : List (Int × Int)) (x : Int) : List Int × Int :=
 if checkS n es ≠ 0 then ([], checkS n es) else if x < 0 ∨ n ≤ x then ([], 3) else (castL (reach n.toNat (natE es) x.toNat n.toNat), 0)
theorem distL_get {n : Nat} {E : Es} {x y : Nat} (h : y < n) : ((distL n E x).map cI)[y]'(by simp [distL_len]; exact h) = [.int .i64 (dist E x y : Int)] := by simp [distL, tabF, cI]
theorem sccReach_ok {H : Heap} (wf : H.WF) {v : V} {n x : Int} {es : List (Int × Int)} (hl : Sl H v 2 (es.map cE)) (hlen : es.length < 1000000000) :
  CallsTo T 10 [.int .i64 n, v, .int .i64 x] H fun r H' => ∃ u, r = .tuple [u, .int .i64 (reachF n es x).2] ∧ Mine H.n H' u 1 ((reachF n es x).1.map cI) ∧ Ext H H' := by
 refine Am.calls_enter (T := T) rfl Try.func10 rfl (by simp only [Try.f10, List.length_cons, List.length_nil]; decide) ?_
 simp only [Try.f10]
 simp (maxSteps := 10000000) (disch := first | assumption | (simp only [tyfacts, Am.wd, Nat.reduceEqDiff, Nat.reduceLT, reduceCtorEq]; try omega; done) | omega) only [Am.wanted, Am.isAlloc, Am.wa, Am.reads, Am.quiet, Am.over, Nat.testBit, Nat.reduceShiftRight, Nat.reduceAnd, Nat.reduceBNe, Nat.reduceLeDiff, Nat.reduceAdd, Nat.reduceMul, Nat.reduceLT, Nat.reduceEqDiff, Nat.reduceSub, reduceCtorEq, ↓reduceIte, tyfacts]
 refine wpX_call (sccCheck_ok wf hl hlen) fun r H1 ⟨hr, hx⟩ => ?_
 subst hr
 simp (maxSteps := 10000000) (disch := first | assumption | (simp only [tyfacts, Am.wd, Nat.reduceEqDiff, Nat.reduceLT, reduceCtorEq]; try omega; done) | omega) only [Am.wanted, Am.isAlloc, Am.wa, Am.reads, Am.quiet, Am.over, Nat.testBit, Nat.reduceShiftRight, Nat.reduceAnd, Nat.reduceBNe, Nat.reduceLeDiff, Nat.reduceAdd, Nat.reduceMul, Nat.reduceLT, Nat.reduceEqDiff, Nat.reduceSub, reduceCtorEq, ↓reduceIte, tyfacts]
 refine wpB_dec (fun hc => ?_) (fun hc => ?_)
 · simp (maxSteps := 10000000) (disch := first | assumption | (simp only [tyfacts, Am.wd, Nat.reduceEqDiff, Nat.reduceLT, reduceCtorEq]; try omega; done) | omega) only [Am.wanted, Am.isAlloc, Am.wa, Am.reads, Am.quiet, Am.over, Nat.testBit, Nat.reduceShiftRight, Nat.reduceAnd, Nat.reduceBNe, Nat.reduceLeDiff, Nat.reduceAdd, Nat.reduceMul, Nat.reduceLT, Nat.reduceEqDiff, Nat.reduceSub, reduceCtorEq, ↓reduceIte, tyfacts]
   exact ⟨.nilSlice, by rw [reachF, if_pos hc], by rw [reachF, if_pos hc]; exact Mine.nil _ _ _, hx⟩
 have out3 : (x < 0 ∨ n ≤ x) → reachF n es x = ([], 3) := fun h => by rw [reachF, if_neg hc, if_pos h]
 by_cases b1 : x < 0
 · simp (maxSteps := 10000000) (disch := first | assumption | (simp only [tyfacts, Am.wd, Nat.reduceEqDiff, Nat.reduceLT, reduceCtorEq]; try omega; done) | omega) only [Am.wanted, Am.isAlloc, Am.wa, Am.reads, Am.quiet, Am.over, Nat.testBit, Nat.reduceShiftRight, Nat.reduceAnd, Nat.reduceBNe, Nat.reduceLeDiff, Nat.reduceAdd, Nat.reduceMul, Nat.reduceLT, Nat.reduceEqDiff, Nat.reduceSub, reduceCtorEq, ↓reduceIte, tyfacts, b1]
   exact ⟨.nilSlice, by rw [out3 (.inl b1)], by rw [out3 (.inl b1)]; exact Mine.nil _ _ _, hx⟩
 by_cases b2 : n ≤ x
 · simp (maxSteps := 10000000) (disch := first | assumption | (simp only [tyfacts, Am.wd, Nat.reduceEqDiff, Nat.reduceLT, reduceCtorEq]; try omega; done) | omega) only [Am.wanted, Am.isAlloc, Am.wa, Am.reads, Am.quiet, Am.over, Nat.testBit, Nat.reduceShiftRight, Nat.reduceAnd, Nat.reduceBNe, Nat.reduceLeDiff, Nat.reduceAdd, Nat.reduceMul, Nat.reduceLT, Nat.reduceEqDiff, Nat.reduceSub, reduceCtorEq, ↓reduceIte, tyfacts, b1, b2]
   exact ⟨.nilSlice, by rw [out3 (.inr b2)], by rw [out3 (.inr b2)]; exact Mine.nil _ _ _, hx⟩
 obtain ⟨c1, c2, c3, c4, c5⟩ := check_zeroS (Classical.not_not.1 hc)
 have hrf : reachF n es x = (castL (reach n.toNat (natE es) x.toNat n.toNat), 0) := by rw [reachF, if_neg hc, if_neg (by omega)]
 rw [hrf]
 have hln : (natE es).length = es.length := by simp [natE]
 rw [← c4] at hl
 obtain ⟨m, rfl⟩ : ∃ m : Nat, n = (m : Int) := ⟨n.toNat, by omega⟩
 obtain ⟨y, rfl⟩ : ∃ m : Nat, x = (m : Int) := ⟨x.toNat, by omega⟩
 simp only [Int.toNat_natCast] at c5 ⊢
 simp (maxSteps := 10000000) (disch := first | assumption | (simp only [tyfacts, Am.wd, Nat.reduceEqDiff, Nat.reduceLT, reduceCtorEq]; try omega; done) | omega) only [Am.wanted, Am.isAlloc, Am.wa, Am.reads, Am.quiet, Am.over, Nat.testBit, Nat.reduceShiftRight, Nat.reduceAnd, Nat.reduceBNe, Nat.reduceLeDiff, Nat.reduceAdd, Nat.reduceMul, Nat.reduceLT, Nat.reduceEqDiff, Nat.reduceSub, reduceCtorEq, ↓reduceIte, tyfacts, b1, b2]
 refine wpX_call (sccMade_ok hx.wf (hl.mono hx) c5 (by omega) (by omega)) fun g H2 ⟨mg, hy⟩ => ?_
 have hx2 := hx.trans hy
 simp (maxSteps := 10000000) (disch := first | assumption | (simp only [tyfacts, Am.wd, Nat.reduceEqDiff, Nat.reduceLT, reduceCtorEq]; try omega; done) | omega) only [Am.wanted, Am.isAlloc, Am.wa, Am.reads, Am.quiet, Am.over, Nat.testBit, Nat.reduceShiftRight, Nat.reduceAnd, Nat.reduceBNe, Nat.reduceLeDiff, Nat.reduceAdd, Nat.reduceMul, Nat.reduceLT, Nat.reduceEqDiff, Nat.reduceSub, reduceCtorEq, ↓reduceIte, tyfacts]
 refine wpX_call (sccFar_ok hx2.wf mg.sl c5 (by omega) (x := y) (by omega)) fun d H3 ⟨md, hy⟩ => ?_
 have hx3 := hx2.trans hy
 have Ld := md.len
 rw [List.length_map, distL_len] at Ld
 simp (maxSteps := 10000000) (disch := first | assumption | (simp only [tyfacts, Am.wd, Nat.reduceEqDiff, Nat.reduceLT, reduceCtorEq]; try omega; done) | omega) only [Am.wanted, Am.isAlloc, Am.wa, Am.reads, Am.quiet, Am.over, Nat.testBit, Nat.reduceShiftRight, Nat.reduceAnd, Nat.reduceBNe, Nat.reduceLeDiff, Nat.reduceAdd, Nat.reduceMul, Nat.reduceLT, Nat.reduceEqDiff, Nat.reduceSub, reduceCtorEq, ↓reduceIte, tyfacts, Ld]
 have ha : appOk T 25 25 = some (1, 8) := by simp only [tyfacts]
 refine wpK_loop_ind _ (fun i : Nat => m - i) (fun i a H' => a.tmps.n = 44 ∧ a.defers = [] ∧ a.tmp 29 = d ∧ a.tmp 30 = .int .i64 m ∧ a.tmp 31 = .int .i64 i ∧ Mine H3.n H' (a.tmp 6) 1 ((castL (reach m (natE es) y i)).map cI) ∧ Ext H3 H' ∧ i ≤ m) 0 ?_ ?_
 · simp (maxSteps := 10000000) (disch := first | assumption | (simp only [tyfacts, Am.wd, Nat.reduceEqDiff, Nat.reduceLT, reduceCtorEq]; try omega; done) | omega) only [Am.wanted, Am.isAlloc, Am.wa, Am.reads, Am.quiet, Am.over, Nat.testBit, Nat.reduceShiftRight, Nat.reduceAnd, Nat.reduceBNe, Nat.reduceLeDiff, Nat.reduceAdd, Nat.reduceMul, Nat.reduceLT, Nat.reduceEqDiff, Nat.reduceSub, reduceCtorEq, ↓reduceIte, tyfacts]
   exact ⟨rfl, Mine.nil _ _ _, Ext.refl hx3.wf, by omega⟩
 intro i a H4 ⟨hn, hd, t29, t30, t31, mr, z4, hi⟩ ih
 generalize t6 : a.tmp 6 = u at mr
 simp (maxSteps := 10000000) (disch := first | assumption | (simp only [tyfacts, Am.wd, Nat.reduceEqDiff, Nat.reduceLT, reduceCtorEq]; try omega; done) | omega) only [Am.wanted, Am.isAlloc, Am.wa, Am.reads, Am.quiet, Am.over, Nat.testBit, Nat.reduceShiftRight, Nat.reduceAnd, Nat.reduceBNe, Nat.reduceLeDiff, Nat.reduceAdd, Nat.reduceMul, Nat.reduceLT, Nat.reduceEqDiff, Nat.reduceSub, reduceCtorEq, ↓reduceIte, tyfacts, t30, t31, hn]
 refine wpB_dec (fun hq => ?_) (fun hq => ?_)
 · have hj : i < m := by omega
   have e0 : i < ((distL m (natE es) y).map cI).length := by simp [distL_len]; exact hj
   have sd := md.sl.mono z4
   have l0 := sd.load1 (T := T) 3 (by simp only [tyfacts]) i e0
   rw [distL_get hj] at l0
   replace l0 : loadP T H4 3 (ptrAt d i) = some (.int .i64 (dist (natE es) y i : Int)) := l0
   have i0 := sd.idx (T := T) 25 (by simp only [tyfacts]) .i64 i e0
   have rs := reach_succ m (natE es) y i
   have rl := reach_len m (natE es) y i
   simp (maxSteps := 10000000) (disch := first | assumption | (simp only [tyfacts, Am.wd, Nat.reduceEqDiff, Nat.reduceLT, reduceCtorEq]; try omega; done) | omega) only [Am.wanted, Am.isAlloc, Am.wa, Am.reads, Am.quiet, Am.over, Nat.testBit, Nat.reduceShiftRight, Nat.reduceAnd, Nat.reduceBNe, Nat.reduceLeDiff, Nat.reduceAdd, Nat.reduceMul, Nat.reduceLT, Nat.reduceEqDiff, Nat.reduceSub, reduceCtorEq, ↓reduceIte, tyfacts, t29, t31, hn, i0, l0]
   refine wpB_dec (fun hp => ?_) (fun hp => ?_)
   · obtain ⟨u', H5, p1, p2, p3, p4⟩ := append_one mr z4.wf z4.n (k := H4.n) rfl ha (f := cI (i : Int)) rfl rfl (by simp [castL]; omega) (by simp [castL]; omega)
     simp only [cI] at p1
     simp (maxSteps := 10000000) (disch := first | assumption | (simp only [tyfacts, Am.wd, Nat.reduceEqDiff, Nat.reduceLT, reduceCtorEq]; try omega; done) | omega) only [Am.wanted, Am.isAlloc, Am.wa, Am.reads, Am.quiet, Am.over, Nat.testBit, Nat.reduceShiftRight, Nat.reduceAnd, Nat.reduceBNe, Nat.reduceLeDiff, Nat.reduceAdd, Nat.reduceMul, Nat.reduceLT, Nat.reduceEqDiff, Nat.reduceSub, reduceCtorEq, ↓reduceIte, tyfacts, t6, t31, hn, p1]
     refine ih (i + 1) _ _ (by omega) ?_
     simp (maxSteps := 10000000) (disch := first | assumption | (simp only [tyfacts, Am.wd, Nat.reduceEqDiff, Nat.reduceLT, reduceCtorEq]; try omega; done) | omega) only [Am.wanted, Am.isAlloc, Am.wa, Am.reads, Am.quiet, Am.over, Nat.testBit, Nat.reduceShiftRight, Nat.reduceAnd, Nat.reduceBNe, Nat.reduceLeDiff, Nat.reduceAdd, Nat.reduceMul, Nat.reduceLT, Nat.reduceEqDiff, Nat.reduceSub, reduceCtorEq, ↓reduceIte, tyfacts, hn, hd, t29, t30]
     refine ⟨by simp, ?_, z4.thenB p3 fun m h => mr.ge h, by omega⟩
     rw [rs, if_pos (by omega), castL_append, List.map_append]; exact p2
   · simp (maxSteps := 10000000) (disch := first | assumption | (simp only [tyfacts, Am.wd, Nat.reduceEqDiff, Nat.reduceLT, reduceCtorEq]; try omega; done) | omega) only [Am.wanted, Am.isAlloc, Am.wa, Am.reads, Am.quiet, Am.over, Nat.testBit, Nat.reduceShiftRight, Nat.reduceAnd, Nat.reduceBNe, Nat.reduceLeDiff, Nat.reduceAdd, Nat.reduceMul, Nat.reduceLT, Nat.reduceEqDiff, Nat.reduceSub, reduceCtorEq, ↓reduceIte, tyfacts, t31, hn]
     refine ih (i + 1) _ _ (by omega) ?_
     simp (maxSteps := 10000000) (disch := first | assumption | (simp only [tyfacts, Am.wd, Nat.reduceEqDiff, Nat.reduceLT, reduceCtorEq]; try omega; done) | omega) only [Am.wanted, Am.isAlloc, Am.wa, Am.reads, Am.quiet, Am.over, Nat.testBit, Nat.reduceShiftRight, Nat.reduceAnd, Nat.reduceBNe, Nat.reduceLeDiff, Nat.reduceAdd, Nat.reduceMul, Nat.reduceLT, Nat.reduceEqDiff, Nat.reduceSub, reduceCtorEq, ↓reduceIte, tyfacts, hn, hd, t29, t30, t6]
     exact ⟨by simp, by rw [rs, if_neg (by omega), List.append_nil]; exact mr, z4, by omega⟩
 · have hie : i = m := by omega
   subst hie
   simp (maxSteps := 10000000) (disch := first | assumption | (simp only [tyfacts, Am.wd, Nat.reduceEqDiff, Nat.reduceLT, reduceCtorEq]; try omega; done) | omega) only [Am.wanted, Am.isAlloc, Am.wa, Am.reads, Am.quiet, Am.over, Nat.testBit, Nat.reduceShiftRight, Nat.reduceAnd, Nat.reduceBNe, Nat.reduceLeDiff, Nat.reduceAdd, Nat.reduceMul, Nat.reduceLT, Nat.reduceEqDiff, Nat.reduceSub, reduceCtorEq, ↓reduceIte, tyfacts, hn, hd, t6]
   exact ⟨u, rfl, mr.lower hx3.n, hx3.trans z4⟩
end Go.Proofs.Ytbhgjikjdblgeaa.W
