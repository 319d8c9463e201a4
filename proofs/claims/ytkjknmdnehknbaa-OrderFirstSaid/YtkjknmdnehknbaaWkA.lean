import Derived.Test.YtkjknmdnehknbaaProg
import Derived.Test.YtkjknmdnehknbaaWpB
import Derived.Test.YtkjknmdnehknbaaAmTab
import Derived.Test.YtkjknmdnehknbaaAmLay
import Derived.KernelRfl
/- The tables of the program, as closed facts; what is not walked: sorting. No conditions. -/
namespace Go.Proofs.Ytkjknmdnehknbaa.W
open Go.Am
noncomputable def prim : FuncId → Option (List V → Heap → Option (V × Heap)) := fun f => cond (Nat.beq f 54) (some Am.sortP) (cond (Nat.beq f 51) (some Am.compactP) (cond (Nat.beq f 8) (some Am.closedTrue) (cond (Nat.beq f 4) (some Am.closedTrue) none)))
noncomputable def T : Tab := tabOf Try.prog prim
theorem tyfacts : (Am.isIface T 3 = some false) ∧ (Am.sizeN T 3 = some 1) ∧ (Am.isAgg? T 3 = some false) ∧ (T.zero 3 = some [.int .i64 0]) ∧ (Am.isIface T 4 = some false) ∧ (Am.isBool T 4 = true) ∧ (Am.sizeN T 4 = some 1) ∧ (Am.isAgg? T 4 = some false) ∧ (T.zero 4 = some [.bool false]) ∧ (Am.isIface T 5 = some false) ∧ (Am.sizeN T 5 = some 1) ∧ (Am.isAgg? T 5 = some false) ∧ (T.zero 5 = some [.int .u8 0]) ∧ (Am.isIface T 9 = some false) ∧ (Am.isStr T 9 = true) ∧ (Am.sizeN T 9 = some 1) ∧ (Am.isAgg? T 9 = some false) ∧ (T.zero 9 = some [.str []]) ∧ (Am.isIface T 20 = some true) ∧ (Am.sizeN T 20 = some 1) ∧ (Am.isAgg? T 20 = some false) ∧ (T.zero 20 = some [.nilIface]) ∧ (Am.isIface T 22 = some false) ∧ (Am.isSlice T 22 = true) ∧ (Am.mkOk T 22 = true) ∧ (Am.esz T 22 = 1) ∧ (Am.ebytes T 22 = 8) ∧ (Am.ezero T 22 = [.int .i64 0]) ∧ (Am.elemSize T 22 = some 1) ∧ (Am.appOk T 22 22 = some (1, 8)) ∧ (Am.sizeN T 22 = some 1) ∧ (Am.isAgg? T 22 = some false) ∧ (T.zero 22 = some [.nilSlice]) ∧ (Am.isIface T 24 = some false) ∧ (Am.isSlice T 24 = true) ∧ (Am.mkOk T 24 = true) ∧ (Am.esz T 24 = 5) ∧ (Am.ebytes T 24 = 80) ∧ (Am.ezero T 24 = [.str [], .int .i64 0, .int .i64 0, .nilSlice, .nilSlice]) ∧ (Am.elemSize T 24 = some 5) ∧ (Am.appOk T 24 24 = some (5, 80)) ∧ (Am.sizeN T 24 = some 1) ∧ (Am.isAgg? T 24 = some false) ∧ (T.zero 24 = some [.nilSlice]) ∧ (Am.isIface T 27 = some false) ∧ (Am.sizeN T 27 = some 1) ∧ (Am.isAgg? T 27 = some false) ∧ (T.zero 27 = some [.int .i64 0]) ∧ (Am.isIface T 30 = some false) ∧ (Am.isSlice T 30 = true) ∧ (Am.mkOk T 30 = true) ∧ (Am.esz T 30 = 2) ∧ (Am.ebytes T 30 = 16) ∧ (Am.ezero T 30 = [.int .i64 0, .int .i64 0]) ∧ (Am.elemSize T 30 = some 2) ∧ (Am.appOk T 30 30 = some (2, 16)) ∧ (Am.sizeN T 30 = some 1) ∧ (Am.isAgg? T 30 = some false) ∧ (T.zero 30 = some [.nilSlice]) ∧ (Am.isIface T 49 = some false) ∧ (Am.isStruct T 49 = true) ∧ (Am.fldSz T 49 0 = some (0, 1)) ∧ (Am.fldSz T 49 1 = some (1, 1)) ∧ (Am.fldAt T 49 0 = some 0) ∧ (Am.fldAt T 49 1 = some 1) ∧ (Am.sizeN T 49 = some 2) ∧ (Am.isAgg? T 49 = some true) ∧ (T.zero 49 = some [.int .i64 0, .int .i64 0]) ∧ (Am.isIface T 50 = some false) ∧ (Am.isSlice T 50 = true) ∧ (Am.mkOk T 50 = true) ∧ (Am.esz T 50 = 6) ∧ (Am.ebytes T 50 = 48) ∧ (Am.ezero T 50 = [.int .i64 0, .int .i64 0, .int .i64 0, .int .i64 0, .int .i64 0, .int .i64 0]) ∧ (Am.elemSize T 50 = some 6) ∧ (Am.appOk T 50 50 = some (6, 48)) ∧ (Am.sizeN T 50 = some 1) ∧ (Am.isAgg? T 50 = some false) ∧ (T.zero 50 = some [.nilSlice]) ∧ (Am.isIface T 52 = some false) ∧ (Am.isStruct T 52 = true) ∧ (Am.fldSz T 52 0 = some (0, 1)) ∧ (Am.fldSz T 52 1 = some (1, 1)) ∧ (Am.fldSz T 52 2 = some (2, 1)) ∧ (Am.fldSz T 52 3 = some (3, 1)) ∧ (Am.fldSz T 52 4 = some (4, 1)) ∧ (Am.fldAt T 52 0 = some 0) ∧ (Am.fldAt T 52 1 = some 1) ∧ (Am.fldAt T 52 2 = some 2) ∧ (Am.fldAt T 52 3 = some 3) ∧ (Am.fldAt T 52 4 = some 4) ∧ (Am.sizeN T 52 = some 5) ∧ (Am.isAgg? T 52 = some true) ∧ (T.zero 52 = some [.str [], .int .i64 0, .int .i64 0, .nilSlice, .nilSlice]) ∧ (Am.isIface T 55 = some false) ∧ (Am.sizeN T 55 = some 1) ∧ (Am.isAgg? T 55 = some false) ∧ (T.zero 55 = some [.nilFunc]) ∧ (Am.isIface T 56 = some false) ∧ (Am.sizeN T 56 = some 1) ∧ (Am.isAgg? T 56 = some false) ∧ (T.zero 56 = some [.nilFunc]) ∧ (Am.isIface T 59 = some false) ∧ (Am.sizeN T 59 = some 1) ∧ (Am.isAgg? T 59 = some false) ∧ (T.zero 59 = some [.nilPtr]) ∧ (Am.isIface T 60 = some false) ∧ (Am.isSlice T 60 = true) ∧ (Am.mkOk T 60 = true) ∧ (Am.esz T 60 = 1) ∧ (Am.ebytes T 60 = 8) ∧ (Am.ezero T 60 = [.int .i64 0]) ∧ (Am.elemSize T 60 = some 1) ∧ (Am.appOk T 60 60 = some (1, 8)) ∧ (Am.sizeN T 60 = some 1) ∧ (Am.isAgg? T 60 = some false) ∧ (T.zero 60 = some [.nilSlice]) ∧ (Am.isIface T 65 = some false) ∧ (Am.sizeN T 65 = some 1) ∧ (Am.isAgg? T 65 = some false) ∧ (T.zero 65 = some [.nilFunc]) ∧ (Am.isIface T 66 = some false) ∧ (Am.sizeN T 66 = some 1) ∧ (Am.isAgg? T 66 = some false) ∧ (T.zero 66 = some [.nilFunc]) ∧ (Am.isIface T 68 = some true) ∧ (Am.sizeN T 68 = some 1) ∧ (Am.isAgg? T 68 = some false) ∧ (T.zero 68 = some [.nilIface]) ∧ (Am.isIface T 76 = some false) ∧ (Am.sizeN T 76 = some 1) ∧ (Am.isAgg? T 76 = some false) ∧ (T.zero 76 = some [.nilFunc]) ∧ (Am.isIface T 78 = some false) ∧ (Am.sizeN T 78 = some 1) ∧ (Am.isAgg? T 78 = some false) ∧ (T.zero 78 = some [.nilFunc]) ∧ (Am.isIface T 79 = some false) ∧ (Am.sizeN T 79 = some 1) ∧ (Am.isAgg? T 79 = some false) ∧ (T.zero 79 = some [.nilFunc]) ∧ (Am.isIface T 85 = some false) ∧ (Am.sizeN T 85 = some 1) ∧ (Am.isAgg? T 85 = some false) ∧ (T.zero 85 = some [.int .u64 0]) ∧ (Am.methP T 59 "Len" = some (37, some 60)) ∧ (Am.methP T 59 "Less" = some (94, some 60)) ∧ (Am.methP T 59 "Swap" = some (97, some 60)) ∧ (Am.methP T 59 "Push" = some (96, none)) ∧ (Am.methP T 59 "Pop" = some (95, none)) := by
  refine ⟨?_, ?_, ?_, ?_, ?_, ?_, ?_, ?_, ?_, ?_, ?_, ?_, ?_, ?_, ?_, ?_, ?_, ?_, ?_, ?_, ?_, ?_, ?_, ?_, ?_, ?_, ?_, ?_, ?_, ?_, ?_, ?_, ?_, ?_, ?_, ?_, ?_, ?_, ?_, ?_, ?_, ?_, ?_, ?_, ?_, ?_, ?_, ?_, ?_, ?_, ?_, ?_, ?_, ?_, ?_, ?_, ?_, ?_, ?_, ?_, ?_, ?_, ?_, ?_, ?_, ?_, ?_, ?_, ?_, ?_, ?_, ?_, ?_, ?_, ?_, ?_, ?_, ?_, ?_, ?_, ?_, ?_, ?_, ?_, ?_, ?_, ?_, ?_, ?_, ?_, ?_, ?_, ?_, ?_, ?_, ?_, ?_, ?_, ?_, ?_, ?_, ?_, ?_, ?_, ?_, ?_, ?_, ?_, ?_, ?_, ?_, ?_, ?_, ?_, ?_, ?_, ?_, ?_, ?_, ?_, ?_, ?_, ?_, ?_, ?_, ?_, ?_, ?_, ?_, ?_, ?_, ?_, ?_, ?_, ?_, ?_, ?_, ?_, ?_, ?_, ?_, ?_, ?_, ?_, ?_, ?_, ?_, ?_, ?_, ?_⟩ <;> kernel_rfl
end Go.Proofs.Ytkjknmdnehknbaa.W

set_option linter.unusedSimpArgs false
set_option linter.unusedVariables false
set_option maxRecDepth 8000
/- What the library's functions over slices come to, walked once. No conditions. -/
namespace Go.Proofs.Ytkjknmdnehknbaa.W
open Go.Am

def cI (n : Int) : List V := [.int .i64 n]
def idxI : Option Nat → Int
  | some i => i
  | none => -1
theorem idxI_ge (o : Option Nat) : (0 ≤ idxI o) = (o.isSome = true) := by cases o <;> simp [idxI]
theorem cI_one (xs : List Int) : ∀ f, f ∈ xs.map cI → f.all V.one = true := by
  intro f hf; obtain ⟨x, _, rfl⟩ := List.mem_map.1 hf; rfl

theorem index_int {H : Heap} (wf : H.WF) {v : V} {xs : List Int} (hl : Sl H v 1 (xs.map cI)) (x : Int) (hlen : xs.length < 1000000000) :
    CallsTo T 43 [v, .int .i64 x] H fun r H' => r = .int .i64 (idxI (xs.findIdx? fun y => decide (x = y))) ∧ Ext H H' := by
  refine Am.calls_enter (T := T) rfl Try.func43 rfl (by simp only [Try.f43, List.length_cons, List.length_nil]; decide) ?_
  simp only [Try.f43]
  have L := hl.len
  simp (maxSteps := 10000000) (disch := first | assumption | (simp only [tyfacts, Am.wd, Nat.reduceEqDiff, Nat.reduceLT, reduceCtorEq]; try omega; done) | omega) only [Am.wanted, Am.isAlloc, Am.wb0, Am.wb1, Am.wb2, Am.wb3, Am.wb4, Am.wb5, Am.wb6, Am.wb7, Am.wb8, Am.wb9, Am.reads, Am.quiet, Am.over, Nat.testBit, Nat.reduceShiftRight, Nat.reduceAnd, Nat.reduceBNe, Nat.reduceLeDiff, Nat.reduceAdd, Nat.reduceMul, Nat.reduceLT, Nat.reduceEqDiff, Nat.reduceSub, reduceCtorEq, ↓reduceIte, tyfacts, L]
  refine wpK_loop_ind _ (fun i : Nat => xs.length - i) (fun i a H' => a.tmps.n = 19 ∧ a.defers = [] ∧ a.tmp 0 = v ∧ a.tmp 1 = .int .i64 x ∧ a.tmp 7 = .int .i64 xs.length ∧ a.tmp 8 = .int .i64 i ∧ Ext H H' ∧ i ≤ xs.length ∧ ∀ j, (hj : j < xs.length) → j < i → ¬ x = xs[j]) 0 ?_ ?_
  · simp (maxSteps := 10000000) (disch := first | assumption | (simp only [tyfacts, Am.wd, Nat.reduceEqDiff, Nat.reduceLT, reduceCtorEq]; try omega; done) | omega) only [Am.wanted, Am.isAlloc, Am.wb0, Am.wb1, Am.wb2, Am.wb3, Am.wb4, Am.wb5, Am.wb6, Am.wb7, Am.wb8, Am.wb9, Am.reads, Am.quiet, Am.over, Nat.testBit, Nat.reduceShiftRight, Nat.reduceAnd, Nat.reduceBNe, Nat.reduceLeDiff, Nat.reduceAdd, Nat.reduceMul, Nat.reduceLT, Nat.reduceEqDiff, Nat.reduceSub, reduceCtorEq, ↓reduceIte, tyfacts]
    exact ⟨rfl, Ext.refl wf, by omega, fun j _ h => by omega⟩
  intro i a H1 ⟨hn, hd, h0, h1, h7, h8, hx, hi, hno⟩ ih
  have hl1 := hl.mono hx
  simp (maxSteps := 10000000) (disch := first | assumption | (simp only [tyfacts, Am.wd, Nat.reduceEqDiff, Nat.reduceLT, reduceCtorEq]; try omega; done) | omega) only [Am.wanted, Am.isAlloc, Am.wb0, Am.wb1, Am.wb2, Am.wb3, Am.wb4, Am.wb5, Am.wb6, Am.wb7, Am.wb8, Am.wb9, Am.reads, Am.quiet, Am.over, Nat.testBit, Nat.reduceShiftRight, Nat.reduceAnd, Nat.reduceBNe, Nat.reduceLeDiff, Nat.reduceAdd, Nat.reduceMul, Nat.reduceLT, Nat.reduceEqDiff, Nat.reduceSub, reduceCtorEq, ↓reduceIte, tyfacts, h7, h8, hn]
  refine wpB_dec (fun hc => ?_) (fun hc => ?_)
  · have hj : i < xs.length := by omega
    simp (maxSteps := 10000000) (disch := first | assumption | (simp only [tyfacts, Am.wd, Nat.reduceEqDiff, Nat.reduceLT, reduceCtorEq]; try omega; done) | omega) only [Am.wanted, Am.isAlloc, Am.wb0, Am.wb1, Am.wb2, Am.wb3, Am.wb4, Am.wb5, Am.wb6, Am.wb7, Am.wb8, Am.wb9, Am.reads, Am.quiet, Am.over, Nat.testBit, Nat.reduceShiftRight, Nat.reduceAnd, Nat.reduceBNe, Nat.reduceLeDiff, Nat.reduceAdd, Nat.reduceMul, Nat.reduceLT, Nat.reduceEqDiff, Nat.reduceSub, reduceCtorEq, ↓reduceIte, tyfacts, h0, h1, h8, hn, hl1.idx, hl1.load1, cI]
    refine wpB_dec (fun he => ?_) (fun he => ?_)
    · simp (maxSteps := 10000000) (disch := first | assumption | (simp only [tyfacts, Am.wd, Nat.reduceEqDiff, Nat.reduceLT, reduceCtorEq]; try omega; done) | omega) only [Am.wanted, Am.isAlloc, Am.wb0, Am.wb1, Am.wb2, Am.wb3, Am.wb4, Am.wb5, Am.wb6, Am.wb7, Am.wb8, Am.wb9, Am.reads, Am.quiet, Am.over, Nat.testBit, Nat.reduceShiftRight, Nat.reduceAnd, Nat.reduceBNe, Nat.reduceLeDiff, Nat.reduceAdd, Nat.reduceMul, Nat.reduceLT, Nat.reduceEqDiff, Nat.reduceSub, reduceCtorEq, ↓reduceIte, tyfacts, hn, hd]
      refine ⟨?_, hx⟩
      rw [show xs.findIdx? (fun y => decide (x = y)) = some i from List.findIdx?_eq_some_iff_getElem.2 ⟨hj, by simpa using he, fun j hji => by simpa using hno j (by omega) hji⟩]; rfl
    · simp (maxSteps := 10000000) (disch := first | assumption | (simp only [tyfacts, Am.wd, Nat.reduceEqDiff, Nat.reduceLT, reduceCtorEq]; try omega; done) | omega) only [Am.wanted, Am.isAlloc, Am.wb0, Am.wb1, Am.wb2, Am.wb3, Am.wb4, Am.wb5, Am.wb6, Am.wb7, Am.wb8, Am.wb9, Am.reads, Am.quiet, Am.over, Nat.testBit, Nat.reduceShiftRight, Nat.reduceAnd, Nat.reduceBNe, Nat.reduceLeDiff, Nat.reduceAdd, Nat.reduceMul, Nat.reduceLT, Nat.reduceEqDiff, Nat.reduceSub, reduceCtorEq, ↓reduceIte, tyfacts, h8, hn, hd]
      refine ih (i + 1) _ _ (by omega) ?_
      simp (maxSteps := 10000000) (disch := first | assumption | (simp only [tyfacts, Am.wd, Nat.reduceEqDiff, Nat.reduceLT, reduceCtorEq]; try omega; done) | omega) only [Am.wanted, Am.isAlloc, Am.wb0, Am.wb1, Am.wb2, Am.wb3, Am.wb4, Am.wb5, Am.wb6, Am.wb7, Am.wb8, Am.wb9, Am.reads, Am.quiet, Am.over, Nat.testBit, Nat.reduceShiftRight, Nat.reduceAnd, Nat.reduceBNe, Nat.reduceLeDiff, Nat.reduceAdd, Nat.reduceMul, Nat.reduceLT, Nat.reduceEqDiff, Nat.reduceSub, reduceCtorEq, ↓reduceIte, tyfacts, h0, h1, h7, hn, hd]
      refine ⟨?_, hx, by omega, fun j hj' hlt => ?_⟩
      · simp
      · by_cases e : j = i
        · subst e; exact he
        · exact hno j hj' (by omega)
  · simp (maxSteps := 10000000) (disch := first | assumption | (simp only [tyfacts, Am.wd, Nat.reduceEqDiff, Nat.reduceLT, reduceCtorEq]; try omega; done) | omega) only [Am.wanted, Am.isAlloc, Am.wb0, Am.wb1, Am.wb2, Am.wb3, Am.wb4, Am.wb5, Am.wb6, Am.wb7, Am.wb8, Am.wb9, Am.reads, Am.quiet, Am.over, Nat.testBit, Nat.reduceShiftRight, Nat.reduceAnd, Nat.reduceBNe, Nat.reduceLeDiff, Nat.reduceAdd, Nat.reduceMul, Nat.reduceLT, Nat.reduceEqDiff, Nat.reduceSub, reduceCtorEq, ↓reduceIte, tyfacts, hd, hn]
    refine ⟨?_, hx⟩
    rw [show xs.findIdx? (fun y => decide (x = y)) = none from List.findIdx?_eq_none_iff.2 fun y hy => by
      obtain ⟨j, hj, rfl⟩ := List.mem_iff_getElem.1 hy
      simpa using hno j hj (by omega)]; rfl

theorem contains_int {H : Heap} (wf : H.WF) {v : V} {xs : List Int} (hl : Sl H v 1 (xs.map cI)) (x : Int) (hlen : xs.length < 1000000000) :
    CallsTo T 33 [v, .int .i64 x] H fun r H' => r = .bool (decide (x ∈ xs)) ∧ Ext H H' := by
  refine Am.calls_enter (T := T) rfl Try.func33 rfl (by simp only [Try.f33, List.length_cons, List.length_nil]; decide) ?_
  simp only [Try.f33]
  simp (maxSteps := 10000000) (disch := first | assumption | (simp only [tyfacts, Am.wd, Nat.reduceEqDiff, Nat.reduceLT, reduceCtorEq]; try omega; done) | omega) only [Am.wanted, Am.isAlloc, Am.wb0, Am.wb1, Am.wb2, Am.wb3, Am.wb4, Am.wb5, Am.wb6, Am.wb7, Am.wb8, Am.wb9, Am.reads, Am.quiet, Am.over, Nat.testBit, Nat.reduceShiftRight, Nat.reduceAnd, Nat.reduceBNe, Nat.reduceLeDiff, Nat.reduceAdd, Nat.reduceMul, Nat.reduceLT, Nat.reduceEqDiff, Nat.reduceSub, reduceCtorEq, ↓reduceIte, tyfacts]
  refine wpX_call (index_int wf hl x hlen) fun r H' ⟨hr, hx⟩ => ?_
  subst hr
  simp (maxSteps := 10000000) (disch := first | assumption | (simp only [tyfacts, Am.wd, Nat.reduceEqDiff, Nat.reduceLT, reduceCtorEq]; try omega; done) | omega) only [Am.wanted, Am.isAlloc, Am.wb0, Am.wb1, Am.wb2, Am.wb3, Am.wb4, Am.wb5, Am.wb6, Am.wb7, Am.wb8, Am.wb9, Am.reads, Am.quiet, Am.over, Nat.testBit, Nat.reduceShiftRight, Nat.reduceAnd, Nat.reduceBNe, Nat.reduceLeDiff, Nat.reduceAdd, Nat.reduceMul, Nat.reduceLT, Nat.reduceEqDiff, Nat.reduceSub, reduceCtorEq, ↓reduceIte, tyfacts]
  refine ⟨?_, hx⟩
  congr 1
  rw [Bool.eq_iff_iff, decide_eq_true_eq, decide_eq_true_eq, idxI_ge, List.findIdx?_isSome, List.any_eq_true]
  exact ⟨fun ⟨y, hy, he⟩ => by simp at he; exact he ▸ hy, fun h => ⟨x, h, by simp⟩⟩

theorem indexFunc_int {H : Heap} (wf : H.WF) {v f : V} {xs : List Int} (hl : Sl H v 1 (xs.map (fun x : Int => [V.int .i64 x]))) (p : Int → Bool) (hlen : xs.length < 1000000000)
    (hp : ∀ x, x ∈ xs → ∀ H', Ext H H' → CallV T f [(fun x : Int => V.int .i64 x) x] H' fun r H'' => r = .bool (p x) ∧ Ext H' H'') :
    CallsTo T 52 [v, f] H fun r H' => r = .int .i64 (idxI (xs.findIdx? p)) ∧ Ext H H' := by
  refine Am.calls_enter (T := T) rfl Try.func52 rfl (by simp only [Try.f52, List.length_cons, List.length_nil]; decide) ?_
  simp only [Try.f52]
  have L := hl.len
  simp (maxSteps := 10000000) (disch := first | assumption | (simp only [tyfacts, Am.wd, Nat.reduceEqDiff, Nat.reduceLT, reduceCtorEq]; try omega; done) | omega) only [Am.wanted, Am.isAlloc, Am.wb0, Am.wb1, Am.wb2, Am.wb3, Am.wb4, Am.wb5, Am.wb6, Am.wb7, Am.wb8, Am.wb9, Am.reads, Am.quiet, Am.over, Nat.testBit, Nat.reduceShiftRight, Nat.reduceAnd, Nat.reduceBNe, Nat.reduceLeDiff, Nat.reduceAdd, Nat.reduceMul, Nat.reduceLT, Nat.reduceEqDiff, Nat.reduceSub, reduceCtorEq, ↓reduceIte, tyfacts, L]
  refine wpK_loop_ind _ (fun i : Nat => xs.length - i) (fun i a H' => a.tmps.n = 19 ∧ a.defers = [] ∧ a.tmp 0 = v ∧ a.tmp 1 = f ∧ a.tmp 7 = .int .i64 xs.length ∧ a.tmp 8 = .int .i64 i ∧ Ext H H' ∧ i ≤ xs.length ∧ ∀ j, (hj : j < xs.length) → j < i → p xs[j] = false) 0 ?_ ?_
  · simp (maxSteps := 10000000) (disch := first | assumption | (simp only [tyfacts, Am.wd, Nat.reduceEqDiff, Nat.reduceLT, reduceCtorEq]; try omega; done) | omega) only [Am.wanted, Am.isAlloc, Am.wb0, Am.wb1, Am.wb2, Am.wb3, Am.wb4, Am.wb5, Am.wb6, Am.wb7, Am.wb8, Am.wb9, Am.reads, Am.quiet, Am.over, Nat.testBit, Nat.reduceShiftRight, Nat.reduceAnd, Nat.reduceBNe, Nat.reduceLeDiff, Nat.reduceAdd, Nat.reduceMul, Nat.reduceLT, Nat.reduceEqDiff, Nat.reduceSub, reduceCtorEq, ↓reduceIte, tyfacts]
    exact ⟨rfl, Ext.refl wf, by omega, fun j _ h => by omega⟩
  intro i a H1 ⟨hn, hd, h0, h1, h7, h8, hx, hi, hno⟩ ih
  have hl1 := hl.mono hx
  simp (maxSteps := 10000000) (disch := first | assumption | (simp only [tyfacts, Am.wd, Nat.reduceEqDiff, Nat.reduceLT, reduceCtorEq]; try omega; done) | omega) only [Am.wanted, Am.isAlloc, Am.wb0, Am.wb1, Am.wb2, Am.wb3, Am.wb4, Am.wb5, Am.wb6, Am.wb7, Am.wb8, Am.wb9, Am.reads, Am.quiet, Am.over, Nat.testBit, Nat.reduceShiftRight, Nat.reduceAnd, Nat.reduceBNe, Nat.reduceLeDiff, Nat.reduceAdd, Nat.reduceMul, Nat.reduceLT, Nat.reduceEqDiff, Nat.reduceSub, reduceCtorEq, ↓reduceIte, tyfacts, h7, h8, hn]
  refine wpB_dec (fun hc => ?_) (fun hc => ?_)
  · have hj : i < xs.length := by omega
    simp (maxSteps := 10000000) (disch := first | assumption | (simp only [tyfacts, Am.wd, Nat.reduceEqDiff, Nat.reduceLT, reduceCtorEq]; try omega; done) | omega) only [Am.wanted, Am.isAlloc, Am.wb0, Am.wb1, Am.wb2, Am.wb3, Am.wb4, Am.wb5, Am.wb6, Am.wb7, Am.wb8, Am.wb9, Am.reads, Am.quiet, Am.over, Nat.testBit, Nat.reduceShiftRight, Nat.reduceAnd, Nat.reduceBNe, Nat.reduceLeDiff, Nat.reduceAdd, Nat.reduceMul, Nat.reduceLT, Nat.reduceEqDiff, Nat.reduceSub, reduceCtorEq, ↓reduceIte, tyfacts, h0, h1, h8, hn, hl1.idx, hl1.load1]
    refine wpX_callV (hp xs[i] (List.getElem_mem hj) H1 hx) fun r H2 ⟨hr, hx2⟩ => ?_
    subst hr
    simp (maxSteps := 10000000) (disch := first | assumption | (simp only [tyfacts, Am.wd, Nat.reduceEqDiff, Nat.reduceLT, reduceCtorEq]; try omega; done) | omega) only [Am.wanted, Am.isAlloc, Am.wb0, Am.wb1, Am.wb2, Am.wb3, Am.wb4, Am.wb5, Am.wb6, Am.wb7, Am.wb8, Am.wb9, Am.reads, Am.quiet, Am.over, Nat.testBit, Nat.reduceShiftRight, Nat.reduceAnd, Nat.reduceBNe, Nat.reduceLeDiff, Nat.reduceAdd, Nat.reduceMul, Nat.reduceLT, Nat.reduceEqDiff, Nat.reduceSub, reduceCtorEq, ↓reduceIte, tyfacts, hn]
    refine wpB_bool (fun he => ?_) (fun he => ?_)
    · simp (maxSteps := 10000000) (disch := first | assumption | (simp only [tyfacts, Am.wd, Nat.reduceEqDiff, Nat.reduceLT, reduceCtorEq]; try omega; done) | omega) only [Am.wanted, Am.isAlloc, Am.wb0, Am.wb1, Am.wb2, Am.wb3, Am.wb4, Am.wb5, Am.wb6, Am.wb7, Am.wb8, Am.wb9, Am.reads, Am.quiet, Am.over, Nat.testBit, Nat.reduceShiftRight, Nat.reduceAnd, Nat.reduceBNe, Nat.reduceLeDiff, Nat.reduceAdd, Nat.reduceMul, Nat.reduceLT, Nat.reduceEqDiff, Nat.reduceSub, reduceCtorEq, ↓reduceIte, tyfacts, hn, hd]
      refine ⟨?_, hx.trans hx2⟩
      rw [show xs.findIdx? p = some i from List.findIdx?_eq_some_iff_getElem.2 ⟨hj, he, fun j hji => by simpa using hno j (by omega) hji⟩]; rfl
    · simp (maxSteps := 10000000) (disch := first | assumption | (simp only [tyfacts, Am.wd, Nat.reduceEqDiff, Nat.reduceLT, reduceCtorEq]; try omega; done) | omega) only [Am.wanted, Am.isAlloc, Am.wb0, Am.wb1, Am.wb2, Am.wb3, Am.wb4, Am.wb5, Am.wb6, Am.wb7, Am.wb8, Am.wb9, Am.reads, Am.quiet, Am.over, Nat.testBit, Nat.reduceShiftRight, Nat.reduceAnd, Nat.reduceBNe, Nat.reduceLeDiff, Nat.reduceAdd, Nat.reduceMul, Nat.reduceLT, Nat.reduceEqDiff, Nat.reduceSub, reduceCtorEq, ↓reduceIte, tyfacts, h8, hn, hd]
      refine ih (i + 1) _ _ (by omega) ?_
      simp (maxSteps := 10000000) (disch := first | assumption | (simp only [tyfacts, Am.wd, Nat.reduceEqDiff, Nat.reduceLT, reduceCtorEq]; try omega; done) | omega) only [Am.wanted, Am.isAlloc, Am.wb0, Am.wb1, Am.wb2, Am.wb3, Am.wb4, Am.wb5, Am.wb6, Am.wb7, Am.wb8, Am.wb9, Am.reads, Am.quiet, Am.over, Nat.testBit, Nat.reduceShiftRight, Nat.reduceAnd, Nat.reduceBNe, Nat.reduceLeDiff, Nat.reduceAdd, Nat.reduceMul, Nat.reduceLT, Nat.reduceEqDiff, Nat.reduceSub, reduceCtorEq, ↓reduceIte, tyfacts, h0, h1, h7, hn, hd]
      refine ⟨?_, hx.trans hx2, by omega, fun j hj' hlt => ?_⟩
      · simp
      · by_cases e : j = i
        · subst e; exact he
        · exact hno j hj' (by omega)
  · simp (maxSteps := 10000000) (disch := first | assumption | (simp only [tyfacts, Am.wd, Nat.reduceEqDiff, Nat.reduceLT, reduceCtorEq]; try omega; done) | omega) only [Am.wanted, Am.isAlloc, Am.wb0, Am.wb1, Am.wb2, Am.wb3, Am.wb4, Am.wb5, Am.wb6, Am.wb7, Am.wb8, Am.wb9, Am.reads, Am.quiet, Am.over, Nat.testBit, Nat.reduceShiftRight, Nat.reduceAnd, Nat.reduceBNe, Nat.reduceLeDiff, Nat.reduceAdd, Nat.reduceMul, Nat.reduceLT, Nat.reduceEqDiff, Nat.reduceSub, reduceCtorEq, ↓reduceIte, tyfacts, hd, hn]
    refine ⟨?_, hx⟩
    rw [show xs.findIdx? p = none from List.findIdx?_eq_none_iff.2 fun y hy => by
      obtain ⟨j, hj, rfl⟩ := List.mem_iff_getElem.1 hy
      exact hno j hj (by omega)]; rfl
theorem containsFunc_int {H : Heap} (wf : H.WF) {v f : V} {xs : List Int} (hl : Sl H v 1 (xs.map (fun x : Int => [V.int .i64 x]))) (p : Int → Bool) (hlen : xs.length < 1000000000)
    (hp : ∀ x, x ∈ xs → ∀ H', Ext H H' → CallV T f [(fun x : Int => V.int .i64 x) x] H' fun r H'' => r = .bool (p x) ∧ Ext H' H'') :
    CallsTo T 47 [v, f] H fun r H' => r = .bool (xs.any p) ∧ Ext H H' := by
  refine Am.calls_enter (T := T) rfl Try.func47 rfl (by simp only [Try.f47, List.length_cons, List.length_nil]; decide) ?_
  simp only [Try.f47]
  simp (maxSteps := 10000000) (disch := first | assumption | (simp only [tyfacts, Am.wd, Nat.reduceEqDiff, Nat.reduceLT, reduceCtorEq]; try omega; done) | omega) only [Am.wanted, Am.isAlloc, Am.wb0, Am.wb1, Am.wb2, Am.wb3, Am.wb4, Am.wb5, Am.wb6, Am.wb7, Am.wb8, Am.wb9, Am.reads, Am.quiet, Am.over, Nat.testBit, Nat.reduceShiftRight, Nat.reduceAnd, Nat.reduceBNe, Nat.reduceLeDiff, Nat.reduceAdd, Nat.reduceMul, Nat.reduceLT, Nat.reduceEqDiff, Nat.reduceSub, reduceCtorEq, ↓reduceIte, tyfacts]
  refine wpX_call (indexFunc_int wf hl p hlen hp) fun r H' ⟨hr, hx⟩ => ?_
  subst hr
  simp (maxSteps := 10000000) (disch := first | assumption | (simp only [tyfacts, Am.wd, Nat.reduceEqDiff, Nat.reduceLT, reduceCtorEq]; try omega; done) | omega) only [Am.wanted, Am.isAlloc, Am.wb0, Am.wb1, Am.wb2, Am.wb3, Am.wb4, Am.wb5, Am.wb6, Am.wb7, Am.wb8, Am.wb9, Am.reads, Am.quiet, Am.over, Nat.testBit, Nat.reduceShiftRight, Nat.reduceAnd, Nat.reduceBNe, Nat.reduceLeDiff, Nat.reduceAdd, Nat.reduceMul, Nat.reduceLT, Nat.reduceEqDiff, Nat.reduceSub, reduceCtorEq, ↓reduceIte, tyfacts]
  refine ⟨?_, hx⟩
  congr 1
  rw [Bool.eq_iff_iff, decide_eq_true_eq, idxI_ge, List.findIdx?_isSome]
end Go.Proofs.Ytkjknmdnehknbaa.W

/- Slices of whole numbers: copied, handed on, collected, sorted, each once. No conditions. -/
namespace Go.Proofs.Ytkjknmdnehknbaa.W
open Go.Am

theorem map_take_succ {α β : Type} (f : α → β) (xs : List α) {i : Nat} (h : i < xs.length) : (xs.take (i + 1)).map f = (xs.take i).map f ++ [f xs[i]] := by
  rw [List.take_add_one, List.getElem?_eq_getElem h, List.map_append]; rfl
theorem clone_int {H : Heap} (wf : H.WF) {v : V} {xs : List Int} (hl : Sl H v 1 (xs.map cI)) (hlen : xs.length < 1000000000) :
    CallsTo T 34 [v] H fun r H' => Mine H.n H' r 1 (xs.map cI) ∧ Ext H H' := by
  refine Am.calls_enter (T := T) rfl Try.func34 rfl (by simp only [Try.f34, List.length_cons, List.length_nil]; decide) ?_
  simp only [Try.f34]
  obtain ⟨b, hb, hbt⟩ := hl.isNil
  simp (maxSteps := 10000000) (disch := first | assumption | (simp only [tyfacts, Am.wd, Nat.reduceEqDiff, Nat.reduceLT, reduceCtorEq]; try omega; done) | omega) only [Am.wanted, Am.isAlloc, Am.wb0, Am.wb1, Am.wb2, Am.wb3, Am.wb4, Am.wb5, Am.wb6, Am.wb7, Am.wb8, Am.wb9, Am.reads, Am.quiet, Am.over, Nat.testBit, Nat.reduceShiftRight, Nat.reduceAnd, Nat.reduceBNe, Nat.reduceLeDiff, Nat.reduceAdd, Nat.reduceMul, Nat.reduceLT, Nat.reduceEqDiff, Nat.reduceSub, reduceCtorEq, ↓reduceIte, tyfacts, hb]
  refine wpB_bool (fun he => ?_) (fun he => ?_)
  · simp (maxSteps := 10000000) (disch := first | assumption | (simp only [tyfacts, Am.wd, Nat.reduceEqDiff, Nat.reduceLT, reduceCtorEq]; try omega; done) | omega) only [Am.wanted, Am.isAlloc, Am.wb0, Am.wb1, Am.wb2, Am.wb3, Am.wb4, Am.wb5, Am.wb6, Am.wb7, Am.wb8, Am.wb9, Am.reads, Am.quiet, Am.over, Nat.testBit, Nat.reduceShiftRight, Nat.reduceAnd, Nat.reduceBNe, Nat.reduceLeDiff, Nat.reduceAdd, Nat.reduceMul, Nat.reduceLT, Nat.reduceEqDiff, Nat.reduceSub, reduceCtorEq, ↓reduceIte, tyfacts]
    have hxs : xs = [] := by have := (hbt he).2; simpa using this
    subst hxs
    exact ⟨Mine.nil _ _ _, Ext.refl wf⟩
  · simp (maxSteps := 10000000) (disch := first | assumption | (simp only [tyfacts, Am.wd, Nat.reduceEqDiff, Nat.reduceLT, reduceCtorEq]; try omega; done) | omega) only [Am.wanted, Am.isAlloc, Am.wb0, Am.wb1, Am.wb2, Am.wb3, Am.wb4, Am.wb5, Am.wb6, Am.wb7, Am.wb8, Am.wb9, Am.reads, Am.quiet, Am.over, Nat.testBit, Nat.reduceShiftRight, Nat.reduceAnd, Nat.reduceBNe, Nat.reduceLeDiff, Nat.reduceAdd, Nat.reduceMul, Nat.reduceLT, Nat.reduceEqDiff, Nat.reduceSub, reduceCtorEq, ↓reduceIte, tyfacts]
    have hx : Ext H (H.push (.cells false [])) := (Ext.refl wf).push _
    have ha : appOk T 22 22 = some (1, 8) := by simp only [tyfacts]
    have hap := append_own (Mine.empty wf (Nat.le_refl _) 1) hx.wf hx.n ha (hl.mono hx) (cI_one xs) (by simp only [List.length_nil, List.length_map]; omega) (by simp only [List.length_nil, List.length_map]; omega)
    obtain ⟨r, H', h1, h2, h3, h4⟩ := hap
    simp (maxSteps := 10000000) (disch := first | assumption | (simp only [tyfacts, Am.wd, Nat.reduceEqDiff, Nat.reduceLT, reduceCtorEq]; try omega; done) | omega) only [Am.wanted, Am.isAlloc, Am.wb0, Am.wb1, Am.wb2, Am.wb3, Am.wb4, Am.wb5, Am.wb6, Am.wb7, Am.wb8, Am.wb9, Am.reads, Am.quiet, Am.over, Nat.testBit, Nat.reduceShiftRight, Nat.reduceAnd, Nat.reduceBNe, Nat.reduceLeDiff, Nat.reduceAdd, Nat.reduceMul, Nat.reduceLT, Nat.reduceEqDiff, Nat.reduceSub, reduceCtorEq, ↓reduceIte, tyfacts, h1]
    refine ⟨by simpa using h2, hx.thenB h3 fun l hl => ?_⟩
    have := of_slice.1 hl; omega

theorem values_int {H : Heap} (wf : H.WF) {v : V} (hv : v.cells = [v]) :
    CallsTo T 50 [v] H fun r H' => r = .func (.func 55) [] [.ptr H.n 0] ∧ H' = H.push (.cells false [v]) := by
  refine Am.calls_enter (T := T) rfl Try.func50 rfl (by simp only [Try.f50, List.length_cons, List.length_nil]; decide) ?_
  simp only [Try.f50]
  simp (maxSteps := 10000000) (disch := first | assumption | (simp only [tyfacts, Am.wd, Nat.reduceEqDiff, Nat.reduceLT, reduceCtorEq]; try omega; done) | omega) only [Am.wanted, Am.isAlloc, Am.wb0, Am.wb1, Am.wb2, Am.wb3, Am.wb4, Am.wb5, Am.wb6, Am.wb7, Am.wb8, Am.wb9, Am.reads, Am.quiet, Am.over, Nat.testBit, Nat.reduceShiftRight, Nat.reduceAnd, Nat.reduceBNe, Nat.reduceLeDiff, Nat.reduceAdd, Nat.reduceMul, Nat.reduceLT, Nat.reduceEqDiff, Nat.reduceSub, reduceCtorEq, ↓reduceIte, tyfacts, hv]

/-- What a slice's elements are handed on from. -/
def VK (v : V) (xs : List Int) (p : Nat) (H : Heap) : Prop := H.WF ∧ Sl H v 1 (xs.map cI) ∧ H.get p = some (.cells false [v])
theorem VK.mono {H H' : Heap} {v : V} {xs : List Int} {p : Nat} (h : VK v xs p H) (hx : Ext H H') : VK v xs p H' := ⟨hx.wf, h.2.1.mono hx, hx.get _ _ h.2.2⟩
theorem values1_int {v : V} {xs : List Int} {p : Nat} (hlen : xs.length < 1000000000) :
    Gives T (.func (.func 55) [] [.ptr p 0]) (xs.map cI) (VK v xs p) := by
  intro y J D hJx hJl hJs hDs hstep M0 H1 hJ0
  show CallsTo T 55 [y, .ptr p 0] H1 _
  obtain ⟨w1, hl1, hp⟩ := hJx 0 M0 H1 hJ0
  have hp1 := cellsAt_of_get hp
  have L := hl1.len
  refine Am.calls_enter (T := T) rfl Try.func55 rfl (by simp only [Try.f55, List.length_cons, List.length_nil]; decide) ?_
  simp only [Try.f55]
  simp (maxSteps := 10000000) (disch := first | assumption | (simp only [tyfacts, Am.wd, Nat.reduceEqDiff, Nat.reduceLT, reduceCtorEq]; try omega; done) | omega) only [Am.wanted, Am.isAlloc, Am.wb0, Am.wb1, Am.wb2, Am.wb3, Am.wb4, Am.wb5, Am.wb6, Am.wb7, Am.wb8, Am.wb9, Am.reads, Am.quiet, Am.over, Nat.testBit, Nat.reduceShiftRight, Nat.reduceAnd, Nat.reduceBNe, Nat.reduceLeDiff, Nat.reduceAdd, Nat.reduceMul, Nat.reduceLT, Nat.reduceEqDiff, Nat.reduceSub, reduceCtorEq, ↓reduceIte, tyfacts, hp1, L]
  refine wpK_loop_ind _ (fun i : Nat => xs.length - i) (fun i a H' => a.tmps.n = 16 ∧ a.defers = [] ∧ a.tmp 0 = y ∧ a.tmp 5 = v ∧ a.tmp 6 = .int .i64 xs.length ∧ a.tmp 7 = .int .i64 i ∧ (∃ M, J i M H') ∧ i ≤ xs.length) 0 ?_ ?_
  · simp (maxSteps := 10000000) (disch := first | assumption | (simp only [tyfacts, Am.wd, Nat.reduceEqDiff, Nat.reduceLT, reduceCtorEq]; try omega; done) | omega) only [Am.wanted, Am.isAlloc, Am.wb0, Am.wb1, Am.wb2, Am.wb3, Am.wb4, Am.wb5, Am.wb6, Am.wb7, Am.wb8, Am.wb9, Am.reads, Am.quiet, Am.over, Nat.testBit, Nat.reduceShiftRight, Nat.reduceAnd, Nat.reduceBNe, Nat.reduceLeDiff, Nat.reduceAdd, Nat.reduceMul, Nat.reduceLT, Nat.reduceEqDiff, Nat.reduceSub, reduceCtorEq, ↓reduceIte, tyfacts]
    exact ⟨rfl, ⟨M0, hJ0⟩, by omega⟩
  intro i a H2 ⟨hn, hd, h0, h5, h6, h7, ⟨M, hJ⟩, hi⟩ ih
  have hl2 := (hJx i M H2 hJ).2.1
  simp (maxSteps := 10000000) (disch := first | assumption | (simp only [tyfacts, Am.wd, Nat.reduceEqDiff, Nat.reduceLT, reduceCtorEq]; try omega; done) | omega) only [Am.wanted, Am.isAlloc, Am.wb0, Am.wb1, Am.wb2, Am.wb3, Am.wb4, Am.wb5, Am.wb6, Am.wb7, Am.wb8, Am.wb9, Am.reads, Am.quiet, Am.over, Nat.testBit, Nat.reduceShiftRight, Nat.reduceAnd, Nat.reduceBNe, Nat.reduceLeDiff, Nat.reduceAdd, Nat.reduceMul, Nat.reduceLT, Nat.reduceEqDiff, Nat.reduceSub, reduceCtorEq, ↓reduceIte, tyfacts, h6, h7, hn]
  refine wpB_dec (fun hc => ?_) (fun hc => ?_)
  · have hj : i < xs.length := by omega
    simp (maxSteps := 10000000) (disch := first | assumption | (simp only [tyfacts, Am.wd, Nat.reduceEqDiff, Nat.reduceLT, reduceCtorEq]; try omega; done) | omega) only [Am.wanted, Am.isAlloc, Am.wb0, Am.wb1, Am.wb2, Am.wb3, Am.wb4, Am.wb5, Am.wb6, Am.wb7, Am.wb8, Am.wb9, Am.reads, Am.quiet, Am.over, Nat.testBit, Nat.reduceShiftRight, Nat.reduceAnd, Nat.reduceBNe, Nat.reduceLeDiff, Nat.reduceAdd, Nat.reduceMul, Nat.reduceLT, Nat.reduceEqDiff, Nat.reduceSub, reduceCtorEq, ↓reduceIte, tyfacts, h0, h5, h7, hn, hl2.idx, hl2.load1, cI]
    have hst := hstep i (by simpa using hj) M H2 hJ
    rw [show (xs.map cI)[i]'(by simpa using hj) = [V.int .i64 xs[i]] from by simp [cI]] at hst
    refine wpX_callV hst fun r H3 hr => ?_
    rcases hr with ⟨rfl, M3, hJ3, _, _⟩ | ⟨rfl, hD⟩
    · simp (maxSteps := 10000000) (disch := first | assumption | (simp only [tyfacts, Am.wd, Nat.reduceEqDiff, Nat.reduceLT, reduceCtorEq]; try omega; done) | omega) only [Am.wanted, Am.isAlloc, Am.wb0, Am.wb1, Am.wb2, Am.wb3, Am.wb4, Am.wb5, Am.wb6, Am.wb7, Am.wb8, Am.wb9, Am.reads, Am.quiet, Am.over, Nat.testBit, Nat.reduceShiftRight, Nat.reduceAnd, Nat.reduceBNe, Nat.reduceLeDiff, Nat.reduceAdd, Nat.reduceMul, Nat.reduceLT, Nat.reduceEqDiff, Nat.reduceSub, reduceCtorEq, ↓reduceIte, tyfacts, h7, hn]
      refine ih (i + 1) _ _ (by omega) ?_
      simp (maxSteps := 10000000) (disch := first | assumption | (simp only [tyfacts, Am.wd, Nat.reduceEqDiff, Nat.reduceLT, reduceCtorEq]; try omega; done) | omega) only [Am.wanted, Am.isAlloc, Am.wb0, Am.wb1, Am.wb2, Am.wb3, Am.wb4, Am.wb5, Am.wb6, Am.wb7, Am.wb8, Am.wb9, Am.reads, Am.quiet, Am.over, Nat.testBit, Nat.reduceShiftRight, Nat.reduceAnd, Nat.reduceBNe, Nat.reduceLeDiff, Nat.reduceAdd, Nat.reduceMul, Nat.reduceLT, Nat.reduceEqDiff, Nat.reduceSub, reduceCtorEq, ↓reduceIte, tyfacts, h0, h5, h6, hn, hd]
      exact ⟨by simp, ⟨M3, hJ3⟩, by omega⟩
    · simp (maxSteps := 10000000) (disch := first | assumption | (simp only [tyfacts, Am.wd, Nat.reduceEqDiff, Nat.reduceLT, reduceCtorEq]; try omega; done) | omega) only [Am.wanted, Am.isAlloc, Am.wb0, Am.wb1, Am.wb2, Am.wb3, Am.wb4, Am.wb5, Am.wb6, Am.wb7, Am.wb8, Am.wb9, Am.reads, Am.quiet, Am.over, Nat.testBit, Nat.reduceShiftRight, Nat.reduceAnd, Nat.reduceBNe, Nat.reduceLeDiff, Nat.reduceAdd, Nat.reduceMul, Nat.reduceLT, Nat.reduceEqDiff, Nat.reduceSub, reduceCtorEq, ↓reduceIte, tyfacts, hn, hd]
      exact .inr hD
  · have : i = xs.length := by omega
    subst this
    simp (maxSteps := 10000000) (disch := first | assumption | (simp only [tyfacts, Am.wd, Nat.reduceEqDiff, Nat.reduceLT, reduceCtorEq]; try omega; done) | omega) only [Am.wanted, Am.isAlloc, Am.wb0, Am.wb1, Am.wb2, Am.wb3, Am.wb4, Am.wb5, Am.wb6, Am.wb7, Am.wb8, Am.wb9, Am.reads, Am.quiet, Am.over, Nat.testBit, Nat.reduceShiftRight, Nat.reduceAnd, Nat.reduceBNe, Nat.reduceLeDiff, Nat.reduceAdd, Nat.reduceMul, Nat.reduceLT, Nat.reduceEqDiff, Nat.reduceSub, reduceCtorEq, ↓reduceIte, tyfacts, hd, hn]
    refine .inl ⟨M, ?_⟩
    exact hJ

/-- What is handed on, appended. -/
theorem appendSeq_int {H : Heap} (wf : H.WF) {g u : List V} {kf : FuncId} {xs : List Int} (hpk : T.prim kf = none) {K : Heap → Prop} (hK : ∀ H', Ext H H' → K H') (hg : Gives T (.func (.func kf) g u) (xs.map cI) K) (hlen : xs.length < 1000000000) :
    CallsTo T 56 [.nilSlice, .func (.func kf) g u] H fun r H' => Mine H.n H' r 1 (xs.map cI) ∧ Ext H H' := by
  refine Am.calls_enter (T := T) rfl Try.func56 rfl (by simp only [Try.f56, List.length_cons, List.length_nil]; decide) ?_
  simp only [Try.f56]
  simp (maxSteps := 10000000) (disch := first | assumption | (simp only [tyfacts, Am.wd, Nat.reduceEqDiff, Nat.reduceLT, reduceCtorEq]; try omega; done) | omega) only [Am.wanted, Am.isAlloc, Am.wb0, Am.wb1, Am.wb2, Am.wb3, Am.wb4, Am.wb5, Am.wb6, Am.wb7, Am.wb8, Am.wb9, Am.reads, Am.quiet, Am.over, Nat.testBit, Nat.reduceShiftRight, Nat.reduceAnd, Nat.reduceBNe, Nat.reduceLeDiff, Nat.reduceAdd, Nat.reduceMul, Nat.reduceLT, Nat.reduceEqDiff, Nat.reduceSub, reduceCtorEq, ↓reduceIte, tyfacts]
  refine Am.wpF_range (hpk) ?_
  generalize hC : Am.LC.mk 0 _ _ _ _ _ = C
  have hCt := (congrArg Am.LC.tmps hC).symm
  have hCp := (congrArg Am.LC.params hC).symm
  have hCa := (congrArg Am.LC.assign hC).symm
  have hCb := (congrArg Am.LC.body hC).symm
  simp only [] at hCt hCp hCa hCb
  clear hC
  simp (maxSteps := 10000000) (disch := first | assumption | (simp only [tyfacts, Am.wd, Nat.reduceEqDiff, Nat.reduceLT, reduceCtorEq]; try omega; done) | omega) only [Am.wanted, Am.isAlloc, Am.wb0, Am.wb1, Am.wb2, Am.wb3, Am.wb4, Am.wb5, Am.wb6, Am.wb7, Am.wb8, Am.wb9, Am.reads, Am.quiet, Am.over, Nat.testBit, Nat.reduceShiftRight, Nat.reduceAnd, Nat.reduceBNe, Nat.reduceLeDiff, Nat.reduceAdd, Nat.reduceMul, Nat.reduceLT, Nat.reduceEqDiff, Nat.reduceSub, reduceCtorEq, ↓reduceIte, tyfacts]
  have hx2 : Ext H (((H.push (.cells false [.nilSlice])).push (.deferred (some []))).push (loopO .ready none C)) := ((((Ext.refl wf).push _).push _).push _)
  have main := hg (.func (.yield (H.n + 1 + 1)) [] [])
    (fun i M H' => H'.get (H.n + 1 + 1) = some (loopO .ready none C) ∧ H'.get (H.n + 1) = some (.deferred (some [])) ∧ ∃ v, H'.get H.n = some (.cells false [v]) ∧ v.one = true ∧ Mine H.n H' v 1 ((xs.take i).map cI) ∧ ¬ Of v H.n ∧ Ext H H' ∧ M = fun l => l = H.n + 1 + 1 ∨ l = H.n ∨ Of v l) (fun _ => False)
    ?_ ?_ ?_ (fun _ _ h _ => h) ?_ (fun l => l = H.n + 1 + 1 ∨ l = H.n ∨ Of .nilSlice l) (((H.push (.cells false [.nilSlice])).push (.deferred (some []))).push (loopO .ready none C)) ?_
  · refine main.mono fun r H' h => ?_
    rcases h with ⟨M, g1, g2, v, g3, g4, g5, g6, g7, g8⟩ | h
    · refine ⟨.ready, none, C, g1, by simp, ?_⟩
      rw [List.take_of_length_le (by simp)] at g5
      have g3' := cellsAt_of_get g3
      have e1 := Heap.lt g1
      have e2 := Heap.lt g2
      simp (maxSteps := 10000000) (disch := first | assumption | (simp only [tyfacts, Am.wd, Nat.reduceEqDiff, Nat.reduceLT, reduceCtorEq]; try omega; done) | omega) only [Am.wanted, Am.isAlloc, Am.wb0, Am.wb1, Am.wb2, Am.wb3, Am.wb4, Am.wb5, Am.wb6, Am.wb7, Am.wb8, Am.wb9, Am.reads, Am.quiet, Am.over, Nat.testBit, Nat.reduceShiftRight, Nat.reduceAnd, Nat.reduceBNe, Nat.reduceLeDiff, Nat.reduceAdd, Nat.reduceMul, Nat.reduceLT, Nat.reduceEqDiff, Nat.reduceSub, reduceCtorEq, ↓reduceIte, tyfacts, g3', g2]
      have x1 : Ext H ((H'.put (H.n + 1 + 1) (loopO .exhausted none C)).put (H.n + 1) (.deferred none)) := (g7.put (by omega) e1 _).put (by omega) (by simpa using e2) _
      have x2 : ExtB (fun l => l = H.n + 1 + 1 ∨ l = H.n + 1) H' ((H'.put (H.n + 1 + 1) (loopO .exhausted none C)).put (H.n + 1) (.deferred none)) :=
        ((ExtB.refl _ g7.wf).put (.inl (.inl rfl)) e1 _).put (.inl (.inr rfl)) (by simpa using e2) _
      refine ⟨g5.ext x2 fun l hl => ?_, x1⟩
      rintro (rfl | rfl)
      · exact g5.not g1 (by simp [loopO]) hl
      · exact g5.not g2 (by simp) hl
    · exact h.elim
  · exact fun i M H' ⟨_, _, v, _, _, _, _, h, _⟩ => hK _ h
  · rintro i M H' ⟨g1, g2, v, g3, g4, g5, g6, g7, rfl⟩ l (rfl | rfl | hl)
    · exact Heap.lt g1
    · exact Heap.lt g3
    · exact g5.lt hl
  · intro i M H1 H2 ⟨g1, g2, v, g3, g4, g5, g6, g7, g8⟩ hx
    exact ⟨hx.get _ _ g1, hx.get _ _ g2, v, hx.get _ _ g3, g4, g5.mono hx, g6, g7.trans hx, g8⟩
  · rintro i hi M H1 ⟨g1, g2, v, g3, g4, g5, g6, g7, rfl⟩
    have hj : i < xs.length := by simpa using hi
    show RoundTo T _ _ _ _
    refine round_to g1 (by simp [hCp, cI]) ?_
    have g3' := cellsAt_of_get g3
    have e1 := Heap.lt g1
    have e3 := Heap.lt g3
    simp (maxSteps := 10000000) (disch := first | assumption | (simp only [tyfacts, Am.wd, Nat.reduceEqDiff, Nat.reduceLT, reduceCtorEq]; try omega; done) | omega) only [Am.wanted, Am.isAlloc, Am.wb0, Am.wb1, Am.wb2, Am.wb3, Am.wb4, Am.wb5, Am.wb6, Am.wb7, Am.wb8, Am.wb9, Am.reads, Am.quiet, Am.over, Nat.testBit, Nat.reduceShiftRight, Nat.reduceAnd, Nat.reduceBNe, Nat.reduceLeDiff, Nat.reduceAdd, Nat.reduceMul, Nat.reduceLT, Nat.reduceEqDiff, Nat.reduceSub, reduceCtorEq, ↓reduceIte, tyfacts, g1, g3', hCa, hCb, hCt, hCp, cI, List.getElem_map]
    have b1 : ExtB (fun x => x = H.n + 1 + 1) H1 (H1.put (H.n + 1 + 1) (loopO .busy none C)) := (ExtB.refl (fun x => x = H.n + 1 + 1) g7.wf).put (.inl rfl) e1 _
    have m1 : Mine H.n (H1.put (H.n + 1 + 1) (loopO .busy none C)) v 1 ((xs.take i).map cI) := g5.ext b1 fun l hl e => g5.not g1 (by simp [loopO]) (e ▸ hl)
    have ha : appOk T 22 22 = some (1, 8) := by simp only [tyfacts]
    have hap := append_one m1 b1.wf (Nat.le_trans g7.n b1.n) (k := H1.n) rfl ha (f := [V.int .i64 xs[i]]) rfl rfl (by simp; omega) (by simp; omega)
    obtain ⟨v', H2, h1, h2, h3, h4⟩ := hap
    have n1 : ¬ Of v' H.n := fun h => by
      rcases h4 _ h with h | h
      · exact g6 h
      · simp at h; omega
    have k1 : H2.get H.n = some (.cells false [v]) := h3.get _ _ g6 (b1.get _ _ (by omega) g3)
    have k2 : H2.get (H.n + 1) = some (.deferred (some [])) := h3.get _ _ (m1.not (by rw [Heap.get_put_ne (by omega)]; exact g2) (by simp)) (b1.get _ _ (by omega) g2)
    have k3 : H2.get (H.n + 1 + 1) = some (loopO .busy none C) := h3.get _ _ (m1.not (get_put_same e1 _) (by simp [loopO])) (get_put_same e1 _)
    have o1 := h2.sl.one
    have f1 := Heap.lt k1
    have f3 := Heap.lt k3
    simp (maxSteps := 10000000) (disch := first | assumption | (simp only [tyfacts, Am.wd, Nat.reduceEqDiff, Nat.reduceLT, reduceCtorEq]; try omega; done) | omega) only [Am.wanted, Am.isAlloc, Am.wb0, Am.wb1, Am.wb2, Am.wb3, Am.wb4, Am.wb5, Am.wb6, Am.wb7, Am.wb8, Am.wb9, Am.reads, Am.quiet, Am.over, Nat.testBit, Nat.reduceShiftRight, Nat.reduceAnd, Nat.reduceBNe, Nat.reduceLeDiff, Nat.reduceAdd, Nat.reduceMul, Nat.reduceLT, Nat.reduceEqDiff, Nat.reduceSub, reduceCtorEq, ↓reduceIte, tyfacts, h1, k1, k3, o1, h2.sl.cells]
    refine .inl ⟨_, ⟨k2, v', ?_, o1, ?_, n1, ?_, rfl⟩, ?_, ?_⟩
    · rfl
    · have x2 : ExtB (fun l => l = H.n ∨ l = H.n + 1 + 1) H2 ((H2.put H.n (.cells false [v'])).put (H.n + 1 + 1) (loopO .ready none C)) := ((ExtB.refl _ h3.wf).put (.inl (.inl rfl)) f1 _).put (.inl (.inr rfl)) (by simpa using f3) _
      have h5 := h2.ext x2 fun l hl => by
        rintro (rfl | rfl)
        · exact n1 hl
        · exact h2.not k3 (by simp [loopO]) hl
      rw [map_take_succ cI xs hj]
      exact h5
    · exact ((((g7.put (by omega) e1 _).thenB h3 fun l hl => m1.ge hl).put (by omega) f1 _).put (by omega) (by simpa using f3) _)
    · exact (((b1.weaken fun l h => .inl h).trans (h3.weaken fun l h => .inr (.inr h))).put (.inl (.inr (.inl rfl))) f1 _).put (.inl (.inl rfl)) (by simpa using f3) _
    · rintro l (h | h | h)
      · exact .inl (.inl h)
      · exact .inl (.inr (.inl h))
      · exact (h4 l h).imp (fun h => .inr (.inr h)) fun h => by simpa using h
  · simp only [List.take_zero, List.map_nil]
    refine ⟨?_, ?_, .nilSlice, ?_, rfl, Mine.nil _ _ _, of_nil, hx2, rfl⟩
    · simp [Heap.get_push]
    · simp [Heap.get_push]
    · simp [Heap.get_push, show ¬ H.n = H.n + 1 + 1 by omega]

theorem collect_int {H : Heap} (wf : H.WF) {g u : List V} {kf : FuncId} {xs : List Int} (hpk : T.prim kf = none) {K : Heap → Prop} (hK : ∀ H', Ext H H' → K H') (hg : Gives T (.func (.func kf) g u) (xs.map cI) K) (hlen : xs.length < 1000000000) :
    CallsTo T 53 [.func (.func kf) g u] H fun r H' => Mine H.n H' r 1 (xs.map cI) ∧ Ext H H' := by
  refine Am.calls_enter (T := T) rfl Try.func53 rfl (by simp only [Try.f53, List.length_cons, List.length_nil]; decide) ?_
  simp only [Try.f53]
  simp (maxSteps := 10000000) (disch := first | assumption | (simp only [tyfacts, Am.wd, Nat.reduceEqDiff, Nat.reduceLT, reduceCtorEq]; try omega; done) | omega) only [Am.wanted, Am.isAlloc, Am.wb0, Am.wb1, Am.wb2, Am.wb3, Am.wb4, Am.wb5, Am.wb6, Am.wb7, Am.wb8, Am.wb9, Am.reads, Am.quiet, Am.over, Nat.testBit, Nat.reduceShiftRight, Nat.reduceAnd, Nat.reduceBNe, Nat.reduceLeDiff, Nat.reduceAdd, Nat.reduceMul, Nat.reduceLT, Nat.reduceEqDiff, Nat.reduceSub, reduceCtorEq, ↓reduceIte, tyfacts]
  refine wpX_call (appendSeq_int wf hpk hK hg hlen) fun r H' ⟨h1, h2⟩ => ?_
  simp (maxSteps := 10000000) (disch := first | assumption | (simp only [tyfacts, Am.wd, Nat.reduceEqDiff, Nat.reduceLT, reduceCtorEq]; try omega; done) | omega) only [Am.wanted, Am.isAlloc, Am.wb0, Am.wb1, Am.wb2, Am.wb3, Am.wb4, Am.wb5, Am.wb6, Am.wb7, Am.wb8, Am.wb9, Am.reads, Am.quiet, Am.over, Nat.testBit, Nat.reduceShiftRight, Nat.reduceAnd, Nat.reduceBNe, Nat.reduceLeDiff, Nat.reduceAdd, Nat.reduceMul, Nat.reduceLT, Nat.reduceEqDiff, Nat.reduceSub, reduceCtorEq, ↓reduceIte, tyfacts]
  exact ⟨h1, h2⟩

theorem ints_map (zs : List Int) : ints? (zs.map fun z => V.int .i64 z) = some zs := by
  induction zs with
  | nil => rfl
  | cons z zs ih => simp [ints?, ih]
theorem cI_flatten (zs : List Int) : (zs.map cI).flatten = zs.map fun z => V.int .i64 z := by
  induction zs with
  | nil => rfl
  | cons z zs ih => simp [cI, ih]
def sorted (zs : List Int) : List Int := zs.mergeSort fun x y => decide (x ≤ y)
theorem over_front : ∀ (us bs rest : List V), us.length = bs.length → over (bs ++ rest) 0 us = us ++ rest
  | [], [], rest, _ => by cases rest <;> rfl
  | u :: us, b :: bs, rest, h => by simp only [List.cons_append, over]; rw [over_front us bs rest (by simpa using h)]
  | [], _ :: _, _, h => by simp at h
  | _ :: _, [], _, h => by simp at h
theorem dd_length : ∀ zs : List Int, (dd zs).length ≤ zs.length
  | [] => Nat.le_refl _
  | [x] => Nat.le_refl _
  | x :: y :: l => by
    have := dd_length (y :: l)
    simp only [dd]
    split
    · simp only [List.length_cons] at this ⊢; omega
    · simp only [List.length_cons] at this ⊢; omega
theorem dd_ne_nil : ∀ zs : List Int, zs ≠ [] → dd zs ≠ []
  | [], h => absurd rfl h
  | [x], _ => by simp [dd]
  | x :: y :: l, _ => by
    simp only [dd]
    split
    · exact dd_ne_nil (y :: l) (by simp)
    · simp
theorem sort_int {H : Heap} (wf : H.WF) {n : Nat} {v : V} {xs : List Int} (hv : Mine n H v 1 (xs.map cI)) (hsm : xs.length < 1000000000) :
    CallsTo T 54 [v] H fun r H' => Mine n H' v 1 ((sorted xs).map cI) ∧ ExtB (Of v) H H' := by
  have hp : T.prim 54 = some sortP := rfl
  have hrun : ∀ r H', sortP [v] H = some (r, H') → run T 0 54 [v] H = .returned r H' := by
    intro r H' h; simp [run, calls, hp, h]
  rcases id hv.2 with ⟨rfl, h⟩ | ⟨l, q, rest, rfl, h2, h3, h4⟩
  · have : xs = [] := by simpa using h
    subst this
    exact ⟨0, _, _, hrun _ _ rfl, by simpa [sorted] using Mine.nil n H 1, ExtB.refl _ wf⟩
  · have hlt := Heap.lt h3
    have hlen : (sorted xs).length = xs.length := List.length_mergeSort _
    refine ⟨0, .tuple [], H.put l (.cells false (((sorted xs).map cI).flatten ++ rest)), hrun _ _ ?_, ?_, (ExtB.refl (Of (.slice l 0 (xs.map cI).length 1 q)) wf).put (.inl rfl) hlt _⟩
    · have e1 : take? ((xs.map cI).flatten ++ rest) 0 ((xs.map cI).length * 1) = some (xs.map cI).flatten := take?_app _ _ (flatten_len hv.1)
      have e2 : over ((xs.map cI).flatten ++ rest) 0 (((sorted xs).map cI).flatten) = ((sorted xs).map cI).flatten ++ rest := by
        refine over_front _ _ _ ?_
        rw [cI_flatten, cI_flatten, List.length_map, List.length_map, hlen]
      rw [cI_flatten] at e1 e2 h3
      rw [cI_flatten] at e2 ⊢
      have hble : Nat.ble (xs.map cI).length 1000000000 = true := by rw [Nat.ble_eq]; simp; omega
      simp only [sortP, h3, e1, ints_map, Nat.beq_refl, hble, Bool.and_self, cond_true]
      rw [show (xs.mergeSort fun x y => decide (x ≤ y)) = sorted xs from rfl, e2]
    · refine ⟨fun e he => by obtain ⟨z, _, rfl⟩ := List.mem_map.1 he; rfl, .inr ⟨l, q, rest, by simp [hlen], h2, get_put_same hlt _, ?_⟩⟩
      intro m hm
      have := h4 m hm
      simpa [hlen] using this

theorem sorted_int {H : Heap} (wf : H.WF) {g u : List V} {kf : FuncId} {xs : List Int} (hpk : T.prim kf = none) {K : Heap → Prop} (hK : ∀ H', Ext H H' → K H') (hg : Gives T (.func (.func kf) g u) (xs.map cI) K) (hlen : xs.length < 1000000000) :
    CallsTo T 49 [.func (.func kf) g u] H fun r H' => Mine H.n H' r 1 ((sorted xs).map cI) ∧ Ext H H' := by
  refine Am.calls_enter (T := T) rfl Try.func49 rfl (by simp only [Try.f49, List.length_cons, List.length_nil]; decide) ?_
  simp only [Try.f49]
  simp (maxSteps := 10000000) (disch := first | assumption | (simp only [tyfacts, Am.wd, Nat.reduceEqDiff, Nat.reduceLT, reduceCtorEq]; try omega; done) | omega) only [Am.wanted, Am.isAlloc, Am.wb0, Am.wb1, Am.wb2, Am.wb3, Am.wb4, Am.wb5, Am.wb6, Am.wb7, Am.wb8, Am.wb9, Am.reads, Am.quiet, Am.over, Nat.testBit, Nat.reduceShiftRight, Nat.reduceAnd, Nat.reduceBNe, Nat.reduceLeDiff, Nat.reduceAdd, Nat.reduceMul, Nat.reduceLT, Nat.reduceEqDiff, Nat.reduceSub, reduceCtorEq, ↓reduceIte, tyfacts]
  refine wpX_call (collect_int wf hpk hK hg hlen) fun r H' ⟨h1, h2⟩ => ?_
  simp (maxSteps := 10000000) (disch := first | assumption | (simp only [tyfacts, Am.wd, Nat.reduceEqDiff, Nat.reduceLT, reduceCtorEq]; try omega; done) | omega) only [Am.wanted, Am.isAlloc, Am.wb0, Am.wb1, Am.wb2, Am.wb3, Am.wb4, Am.wb5, Am.wb6, Am.wb7, Am.wb8, Am.wb9, Am.reads, Am.quiet, Am.over, Nat.testBit, Nat.reduceShiftRight, Nat.reduceAnd, Nat.reduceBNe, Nat.reduceLeDiff, Nat.reduceAdd, Nat.reduceMul, Nat.reduceLT, Nat.reduceEqDiff, Nat.reduceSub, reduceCtorEq, ↓reduceIte, tyfacts]
  refine wpX_call (sort_int h2.wf h1 hlen) fun r2 H2 ⟨h3, h4⟩ => ?_
  simp (maxSteps := 10000000) (disch := first | assumption | (simp only [tyfacts, Am.wd, Nat.reduceEqDiff, Nat.reduceLT, reduceCtorEq]; try omega; done) | omega) only [Am.wanted, Am.isAlloc, Am.wb0, Am.wb1, Am.wb2, Am.wb3, Am.wb4, Am.wb5, Am.wb6, Am.wb7, Am.wb8, Am.wb9, Am.reads, Am.quiet, Am.over, Nat.testBit, Nat.reduceShiftRight, Nat.reduceAnd, Nat.reduceBNe, Nat.reduceLeDiff, Nat.reduceAdd, Nat.reduceMul, Nat.reduceLT, Nat.reduceEqDiff, Nat.reduceSub, reduceCtorEq, ↓reduceIte, tyfacts]
  exact ⟨h3, h2.thenB h4 fun l hl => h1.ge hl⟩

theorem compact_int {H : Heap} (wf : H.WF) {n : Nat} {v : V} {xs : List Int} (hv : Mine n H v 1 (xs.map cI)) (hsm : xs.length < 1000000000) :
    CallsTo T 51 [v] H fun r H' => Mine n H' r 1 ((dd xs).map cI) ∧ ExtB (Of v) H H' ∧ ∀ l, Of r l → Of v l := by
  have hp : T.prim 51 = some compactP := rfl
  have hrun : ∀ r H', compactP [v] H = some (r, H') → run T 0 51 [v] H = .returned r H' := by
    intro r H' h; simp [run, calls, hp, h]
  rcases id hv.2 with ⟨rfl, h⟩ | ⟨l, q, rest, rfl, h2, h3, h4⟩
  · have : xs = [] := by simpa using h
    subst this
    exact ⟨0, _, _, hrun _ _ rfl, by simpa [dd] using Mine.nil n H 1, ExtB.refl _ wf, fun _ h => h⟩
  · have hlt := Heap.lt h3
    by_cases h0 : xs.length = 0
    · have : xs = [] := List.length_eq_zero_iff.1 h0
      subst this
      exact ⟨0, _, _, hrun _ _ rfl, by simpa [dd] using hv, ExtB.refl _ wf, fun _ h => h⟩
    · have hle := dd_length xs
      refine ⟨0, .slice l 0 (dd xs).length 1 q, H.put l (.cells false (((dd xs).map cI).flatten ++ (((List.replicate (xs.length - (dd xs).length) (0 : Int)).map fun z => V.int .i64 z) ++ rest))), hrun _ _ ?_, ?_,
        (ExtB.refl (Of (.slice l 0 (xs.map cI).length 1 q)) wf).put (.inl rfl) hlt _, fun _ h => h⟩
      · have e1 : take? ((xs.map cI).flatten ++ rest) 0 ((xs.map cI).length * 1) = some (xs.map cI).flatten := take?_app _ _ (flatten_len hv.1)
        have e2 : over ((xs.map cI).flatten ++ rest) 0 ((dd xs ++ List.replicate (xs.length - (dd xs).length) 0).map fun z => V.int .i64 z) = ((dd xs ++ List.replicate (xs.length - (dd xs).length) 0).map fun z => V.int .i64 z) ++ rest := by
          refine over_front _ _ _ ?_
          rw [cI_flatten, List.length_map, List.length_map, List.length_append, List.length_replicate]; omega
        have hb : Nat.beq (xs.map cI).length 0 = false := by rw [← Bool.not_eq_true, Nat.beq_eq, List.length_map]; exact h0
        rw [cI_flatten] at e1 e2 h3
        rw [cI_flatten]
        have hble : Nat.ble (xs.map cI).length 1000000000 = true := by rw [Nat.ble_eq]; simp; omega
        simp only [compactP, hb, cond_false, h3, e1, ints_map, Nat.beq_refl, hble, Bool.and_self, cond_true]
        rw [List.length_map, e2, List.map_append, List.append_assoc]
      · refine ⟨fun e he => by obtain ⟨z, _, rfl⟩ := List.mem_map.1 he; rfl, .inr ⟨l, q, _, by simp, h2, get_put_same hlt _, ?_⟩⟩
        intro m hm
        have := h4 m hm
        simp only [List.length_map, List.length_append, List.length_replicate] at this ⊢
        omega
end Go.Proofs.Ytkjknmdnehknbaa.W
