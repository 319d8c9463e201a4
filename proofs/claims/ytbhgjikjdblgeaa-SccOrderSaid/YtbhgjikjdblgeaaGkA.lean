import Derived.Test.YtbhgjikjdblgeaaProg
import Derived.Test.YtbhgjikjdblgeaaWpC
import Derived.Test.YtbhgjikjdblgeaaAmF
import Derived.Test.YtbhgjikjdblgeaaAmLay
import Derived.KernelRfl
import Derived.Test.YtbhgjikjdblgeaaOrd
import Derived.Test.YtbhgjikjdblgeaaScs
/- The tables of the program, as closed facts; what is not walked: sorting. No conditions. -/
namespace Go.Proofs.Ytbhgjikjdblgeaa.W
open Go.Am
noncomputable def prim : FuncId → Option (List V → Heap → Option (V × Heap)) := fun f => cond (Nat.beq f 43) (some Am.sortP) (cond (Nat.beq f 44) (some Am.compactP) (cond (Nat.beq f 9) (some Am.closedTrue) (cond (Nat.beq f 4) (some Am.closedTrue) none)))
noncomputable def T : Tab := tabOf Try.prog prim
theorem tyfacts : (Am.isIface T 3 = some false) ∧ (Am.sizeN T 3 = some 1) ∧ (Am.isAgg? T 3 = some false) ∧ (T.zero 3 = some [.int .i64 0]) ∧ (Am.isIface T 4 = some false) ∧ (Am.isBool T 4 = true) ∧ (Am.sizeN T 4 = some 1) ∧ (Am.isAgg? T 4 = some false) ∧ (T.zero 4 = some [.bool false]) ∧ (Am.isIface T 20 = some true) ∧ (Am.sizeN T 20 = some 1) ∧ (Am.isAgg? T 20 = some false) ∧ (T.zero 20 = some [.nilIface]) ∧ (Am.isIface T 22 = some false) ∧ (Am.isSlice T 22 = true) ∧ (Am.mkOk T 22 = true) ∧ (Am.esz T 22 = 2) ∧ (Am.ebytes T 22 = 16) ∧ (Am.ezero T 22 = [.int .i64 0, .int .i64 0]) ∧ (Am.elemSize T 22 = some 2) ∧ (Am.appOk T 22 22 = some (2, 16)) ∧ (Am.sizeN T 22 = some 1) ∧ (Am.isAgg? T 22 = some false) ∧ (T.zero 22 = some [.nilSlice]) ∧ (Am.isIface T 25 = some false) ∧ (Am.isSlice T 25 = true) ∧ (Am.mkOk T 25 = true) ∧ (Am.esz T 25 = 1) ∧ (Am.ebytes T 25 = 8) ∧ (Am.ezero T 25 = [.int .i64 0]) ∧ (Am.elemSize T 25 = some 1) ∧ (Am.appOk T 25 25 = some (1, 8)) ∧ (Am.sizeN T 25 = some 1) ∧ (Am.isAgg? T 25 = some false) ∧ (T.zero 25 = some [.nilSlice]) ∧ (Am.isIface T 26 = some false) ∧ (Am.sizeN T 26 = some 1) ∧ (Am.isAgg? T 26 = some false) ∧ (T.zero 26 = some [.int .i64 0]) ∧ (Am.isIface T 39 = some false) ∧ (Am.isSlice T 39 = true) ∧ (Am.mkOk T 39 = true) ∧ (Am.esz T 39 = 1) ∧ (Am.ebytes T 39 = 1) ∧ (Am.ezero T 39 = [.bool false]) ∧ (Am.elemSize T 39 = some 1) ∧ (Am.appOk T 39 39 = some (1, 1)) ∧ (Am.sizeN T 39 = some 1) ∧ (Am.isAgg? T 39 = some false) ∧ (T.zero 39 = some [.nilSlice]) ∧ (Am.isIface T 41 = some false) ∧ (Am.isStruct T 41 = true) ∧ (Am.fldSz T 41 0 = some (0, 1)) ∧ (Am.fldSz T 41 1 = some (1, 1)) ∧ (Am.fldAt T 41 0 = some 0) ∧ (Am.fldAt T 41 1 = some 1) ∧ (Am.sizeN T 41 = some 2) ∧ (Am.isAgg? T 41 = some true) ∧ (T.zero 41 = some [.int .i64 0, .int .i64 0]) ∧ (Am.isIface T 44 = some false) ∧ (Am.isSlice T 44 = true) ∧ (Am.mkOk T 44 = true) ∧ (Am.esz T 44 = 1) ∧ (Am.ebytes T 44 = 24) ∧ (Am.ezero T 44 = [.nilSlice]) ∧ (Am.elemSize T 44 = some 1) ∧ (Am.appOk T 44 44 = some (1, 24)) ∧ (Am.sizeN T 44 = some 1) ∧ (Am.isAgg? T 44 = some false) ∧ (T.zero 44 = some [.nilSlice]) ∧ (Am.isIface T 45 = some false) ∧ (Am.isSlice T 45 = true) ∧ (Am.mkOk T 45 = true) ∧ (Am.esz T 45 = 1) ∧ (Am.ebytes T 45 = 24) ∧ (Am.ezero T 45 = [.nilSlice]) ∧ (Am.elemSize T 45 = some 1) ∧ (Am.appOk T 45 45 = some (1, 24)) ∧ (Am.sizeN T 45 = some 1) ∧ (Am.isAgg? T 45 = some false) ∧ (T.zero 45 = some [.nilSlice]) ∧ (Am.isIface T 46 = some false) ∧ (Am.isSlice T 46 = true) ∧ (Am.mkOk T 46 = true) ∧ (Am.esz T 46 = 1) ∧ (Am.ebytes T 46 = 24) ∧ (Am.ezero T 46 = [.nilSlice]) ∧ (Am.elemSize T 46 = some 1) ∧ (Am.appOk T 46 46 = some (1, 24)) ∧ (Am.sizeN T 46 = some 1) ∧ (Am.isAgg? T 46 = some false) ∧ (T.zero 46 = some [.nilSlice]) ∧ (Am.isIface T 48 = some false) ∧ (Am.sizeN T 48 = some 1) ∧ (Am.isAgg? T 48 = some false) ∧ (T.zero 48 = some [.nilFunc]) ∧ (Am.isIface T 51 = some false) ∧ (Am.sizeN T 51 = some 1) ∧ (Am.isAgg? T 51 = some false) ∧ (T.zero 51 = some [.nilPtr]) ∧ (Am.isIface T 52 = some false) ∧ (Am.sizeN T 52 = some 1) ∧ (Am.isAgg? T 52 = some false) ∧ (T.zero 52 = some [.nilFunc]) ∧ (Am.isIface T 54 = some false) ∧ (Am.isStruct T 54 = true) ∧ (Am.fldSz T 54 0 = some (0, 1)) ∧ (Am.fldAt T 54 0 = some 0) ∧ (Am.sizeN T 54 = some 1) ∧ (Am.isAgg? T 54 = some true) ∧ (T.zero 54 = some [.nilFunc]) ∧ (Am.isIface T 55 = some false) ∧ (Am.sizeN T 55 = some 1) ∧ (Am.isAgg? T 55 = some false) ∧ (T.zero 55 = some [.nilPtr]) ∧ (Am.isIface T 56 = some false) ∧ (Am.isSlice T 56 = true) ∧ (Am.mkOk T 56 = true) ∧ (Am.esz T 56 = 1) ∧ (Am.ebytes T 56 = 8) ∧ (Am.ezero T 56 = [.int .i64 0]) ∧ (Am.elemSize T 56 = some 1) ∧ (Am.appOk T 56 56 = some (1, 8)) ∧ (Am.sizeN T 56 = some 1) ∧ (Am.isAgg? T 56 = some false) ∧ (T.zero 56 = some [.nilSlice]) ∧ (Am.isIface T 62 = some false) ∧ (Am.sizeN T 62 = some 1) ∧ (Am.isAgg? T 62 = some false) ∧ (T.zero 62 = some [.nilFunc]) ∧ (Am.isIface T 65 = some false) ∧ (Am.sizeN T 65 = some 1) ∧ (Am.isAgg? T 65 = some false) ∧ (T.zero 65 = some [.nilFunc]) ∧ (Am.isIface T 68 = some true) ∧ (Am.sizeN T 68 = some 1) ∧ (Am.isAgg? T 68 = some false) ∧ (T.zero 68 = some [.nilIface]) ∧ (Am.isIface T 77 = some false) ∧ (Am.sizeN T 77 = some 1) ∧ (Am.isAgg? T 77 = some false) ∧ (T.zero 77 = some [.int .u64 0]) ∧ (Am.methP T 55 "Len" = some (35, some 56)) ∧ (Am.methP T 55 "Less" = some (85, some 56)) ∧ (Am.methP T 55 "Swap" = some (88, some 56)) ∧ (Am.methP T 55 "Push" = some (87, none)) ∧ (Am.methP T 55 "Pop" = some (86, none)) := by
 refine ⟨?_, ?_, ?_, ?_, ?_, ?_, ?_, ?_, ?_, ?_, ?_, ?_, ?_, ?_, ?_, ?_, ?_, ?_, ?_, ?_, ?_, ?_, ?_, ?_, ?_, ?_, ?_, ?_, ?_, ?_, ?_, ?_, ?_, ?_, ?_, ?_, ?_, ?_, ?_, ?_, ?_, ?_, ?_, ?_, ?_, ?_, ?_, ?_, ?_, ?_, ?_, ?_, ?_, ?_, ?_, ?_, ?_, ?_, ?_, ?_, ?_, ?_, ?_, ?_, ?_, ?_, ?_, ?_, ?_, ?_, ?_, ?_, ?_, ?_, ?_, ?_, ?_, ?_, ?_, ?_, ?_, ?_, ?_, ?_, ?_, ?_, ?_, ?_, ?_, ?_, ?_, ?_, ?_, ?_, ?_, ?_, ?_, ?_, ?_, ?_, ?_, ?_, ?_, ?_, ?_, ?_, ?_, ?_, ?_, ?_, ?_, ?_, ?_, ?_, ?_, ?_, ?_, ?_, ?_, ?_, ?_, ?_, ?_, ?_, ?_, ?_, ?_, ?_, ?_, ?_, ?_, ?_, ?_, ?_, ?_, ?_, ?_, ?_, ?_, ?_, ?_, ?_, ?_, ?_, ?_, ?_, ?_⟩ <;> kernel_rfl
end Go.Proofs.Ytbhgjikjdblgeaa.W

set_option linter.unusedSimpArgs false
set_option linter.unusedVariables false
set_option maxRecDepth 8000
/- What the functions of graphs share. No conditions. -/
namespace Go.Proofs.Ytbhgjikjdblgeaa.W
open Go.Am Go.Am.Ord Go.Am.Scc
def cI (n : Int) : List V := [.int .i64 n]
def idxI : Option Nat → Int
 | some i => i
 | none => -1
theorem idxI_ge (o : Option Nat) : (0 ≤ idxI o) = (o.isSome = true) := by cases o <;> simp [idxI]
theorem cI_one (xs : List Int) : ∀ f, f ∈ xs.map cI → f.all V.one = true := by
 intro f hf; obtain ⟨x, _, rfl⟩ := List.mem_map.1 hf; rfl
theorem ints_map (zs : List Int) : ints? (zs.map fun z => V.int .i64 z) = some zs := by
 induction zs with
 | nil => rfl
 | cons z zs ih => simp [ints?, ih]
theorem cI_flatten (zs : List Int) : (zs.map cI).flatten = zs.map fun z => V.int .i64 z := by
 induction zs with
 | nil => rfl
 | cons z zs ih => simp [cI, ih]
def sorted (zs : List Int) : List Int := zs.mergeSort fun x y => decide (x ≤ y)
theorem over_front : ∀ (us bs rest : List V), us.length = bs.length → over (bs ++ rest) 0 us = us ++ rest
 | [], [], rest, _ => by cases rest <;> rfl
 | u :: us, b :: bs, rest, h => by simp only [List.cons_append, over]; rw [over_front us bs rest (by simpa using h)]
 | [], _ :: _, _, h => by simp at h
 | _ :: _, [], _, h => by simp at h
theorem dd_length : ∀ zs : List Int, (dd zs).length ≤ zs.length
 | [] => Nat.le_refl _
 | [x] => Nat.le_refl _
 | x :: y :: l => by
   have := dd_length (y :: l)
   simp only [dd]
   split
   · simp only [List.length_cons] at this ⊢; omega
   · simp only [List.length_cons] at this ⊢; omega
theorem sort_int {H : Heap} (wf : H.WF) {n : Nat} {v : V} {xs : List Int} (hv : Mine n H v 1 (xs.map cI)) (hsm : xs.length < 1000000000) :
  CallsTo T 43 [v] H fun r H' => Mine n H' v 1 ((sorted xs).map cI) ∧ ExtB (Of v) H H' := by
 have hp : T.prim 43 = some sortP := rfl
 have hrun : ∀ r H', sortP [v] H = some (r, H') → run T 0 43 [v] H = .returned r H' := by
  intro r H' h; simp [run, calls, hp, h]
 rcases id hv.2 with ⟨rfl, h⟩ | ⟨l, q, rest, rfl, h2, h3, h4⟩
 · have : xs = [] := by simpa using h
   subst this
   exact ⟨0, _, _, hrun _ _ rfl, by simpa [sorted] using Mine.nil n H 1, ExtB.refl _ wf⟩
 · have hlt := Heap.lt h3
   have hlen : (sorted xs).length = xs.length := List.length_mergeSort _
   refine ⟨0, .tuple [], H.put l (.cells false (((sorted xs).map cI).flatten ++ rest)), hrun _ _ ?_, ?_, (ExtB.refl (Of (.slice l 0 (xs.map cI).length 1 q)) wf).put (.inl rfl) hlt _⟩
   · have e1 : take? ((xs.map cI).flatten ++ rest) 0 ((xs.map cI).length * 1) = some (xs.map cI).flatten := take?_app _ _ (flatten_len hv.1)
     have e2 : over ((xs.map cI).flatten ++ rest) 0 (((sorted xs).map cI).flatten) = ((sorted xs).map cI).flatten ++ rest := by
      refine over_front _ _ _ ?_
      rw [cI_flatten, cI_flatten, List.length_map, List.length_map, hlen]
     rw [cI_flatten] at e1 e2 h3
     rw [cI_flatten] at e2 ⊢
     have hble : Nat.ble (xs.map cI).length 1000000000 = true := by rw [Nat.ble_eq]; simp; omega
     simp only [sortP, h3, e1, ints_map, Nat.beq_refl, hble, Bool.and_self, cond_true]
     rw [show (xs.mergeSort fun x y => decide (x ≤ y)) = sorted xs from rfl, e2]
   · refine ⟨fun e he => by obtain ⟨z, _, rfl⟩ := List.mem_map.1 he; rfl, .inr ⟨l, q, rest, by simp [hlen], h2, get_put_same hlt _, ?_⟩⟩
     intro m hm
     have := h4 m hm
     simpa [hlen] using this
theorem compact_int {H : Heap} (wf : H.WF) {n : Nat} {v : V} {xs : List Int} (hv : Mine n H v 1 (xs.map cI)) (hsm : xs.length < 1000000000) :
  CallsTo T 44 [v] H fun r H' => Mine n H' r 1 ((dd xs).map cI) ∧ ExtB (Of v) H H' ∧ ∀ l, Of r l → Of v l := by
 have hp : T.prim 44 = some compactP := rfl
 have hrun : ∀ r H', compactP [v] H = some (r, H') → run T 0 44 [v] H = .returned r H' := by
  intro r H' h; simp [run, calls, hp, h]
 rcases id hv.2 with ⟨rfl, h⟩ | ⟨l, q, rest, rfl, h2, h3, h4⟩
 · have : xs = [] := by simpa using h
   subst this
   exact ⟨0, _, _, hrun _ _ rfl, by simpa [dd] using Mine.nil n H 1, ExtB.refl _ wf, fun _ h => h⟩
 · have hlt := Heap.lt h3
   by_cases h0 : xs.length = 0
   · have : xs = [] := List.length_eq_zero_iff.1 h0
     subst this
     exact ⟨0, _, _, hrun _ _ rfl, by simpa [dd] using hv, ExtB.refl _ wf, fun _ h => h⟩
   · have hle := dd_length xs
     refine ⟨0, .slice l 0 (dd xs).length 1 q, H.put l (.cells false (((dd xs).map cI).flatten ++ (((List.replicate (xs.length - (dd xs).length) (0 : Int)).map fun z => V.int .i64 z) ++ rest))), hrun _ _ ?_, ?_,
      (ExtB.refl (Of (.slice l 0 (xs.map cI).length 1 q)) wf).put (.inl rfl) hlt _, fun _ h => h⟩
     · have e1 : take? ((xs.map cI).flatten ++ rest) 0 ((xs.map cI).length * 1) = some (xs.map cI).flatten := take?_app _ _ (flatten_len hv.1)
       have e2 : over ((xs.map cI).flatten ++ rest) 0 ((dd xs ++ List.replicate (xs.length - (dd xs).length) 0).map fun z => V.int .i64 z) = ((dd xs ++ List.replicate (xs.length - (dd xs).length) 0).map fun z => V.int .i64 z) ++ rest := by
        refine over_front _ _ _ ?_
        rw [cI_flatten, List.length_map, List.length_map, List.length_append, List.length_replicate]; omega
       have hb : Nat.beq (xs.map cI).length 0 = false := by rw [← Bool.not_eq_true, Nat.beq_eq, List.length_map]; exact h0
       rw [cI_flatten] at e1 e2 h3
       rw [cI_flatten]
       have hble : Nat.ble (xs.map cI).length 1000000000 = true := by rw [Nat.ble_eq]; simp; omega
       simp only [compactP, hb, cond_false, h3, e1, ints_map, Nat.beq_refl, hble, Bool.and_self, cond_true]
       rw [List.length_map, e2, List.map_append, List.append_assoc]
     · refine ⟨fun e he => by obtain ⟨z, _, rfl⟩ := List.mem_map.1 he; rfl, .inr ⟨l, q, _, by simp, h2, get_put_same hlt _, ?_⟩⟩
       intro m hm
       have := h4 m hm
       simp only [List.length_map, List.length_append, List.length_replicate] at this ⊢
       omega
def cE (p : Int × Int) : List V := [.int .i64 p.1, .int .i64 p.2]
theorem indexFunc_ed {H : Heap} (wf : H.WF) {v f : V} {xs : List (Int × Int)} (hl : Sl H v 2 (xs.map (cE))) (p : (Int × Int) → Bool) (hlen : xs.length < 1000000000)
  (hp : ∀ x, x ∈ xs → ∀ H', Ext H H' → CallV T f [(fun x : Int × Int => V.agg (cE x)) x] H' fun r H'' => r = .bool (p x) ∧ Ext H' H'') :
  CallsTo T 47 [v, f] H fun r H' => r = .int .i64 (idxI (xs.findIdx? p)) ∧ Ext H H' := by
 refine Am.calls_enter (T := T) rfl Try.func47 rfl (by simp only [Try.f47, List.length_cons, List.length_nil]; decide) ?_
 simp only [Try.f47]
 have L := hl.len
 simp (maxSteps := 10000000) (disch := first | assumption | (simp only [tyfacts, Am.wd, Nat.reduceEqDiff, Nat.reduceLT, reduceCtorEq]; try omega; done) | omega) only [Am.wanted, Am.isAlloc, Am.wa, Am.reads, Am.quiet, Am.over, Nat.testBit, Nat.reduceShiftRight, Nat.reduceAnd, Nat.reduceBNe, Nat.reduceLeDiff, Nat.reduceAdd, Nat.reduceMul, Nat.reduceLT, Nat.reduceEqDiff, Nat.reduceSub, reduceCtorEq, ↓reduceIte, tyfacts, L]
 refine wpK_loop_ind _ (fun i : Nat => xs.length - i) (fun i a H' => a.tmps.n = 19 ∧ a.defers = [] ∧ a.tmp 0 = v ∧ a.tmp 1 = f ∧ a.tmp 7 = .int .i64 xs.length ∧ a.tmp 8 = .int .i64 i ∧ Ext H H' ∧ i ≤ xs.length ∧ ∀ j, (hj : j < xs.length) → j < i → p xs[j] = false) 0 ?_ ?_
 · simp (maxSteps := 10000000) (disch := first | assumption | (simp only [tyfacts, Am.wd, Nat.reduceEqDiff, Nat.reduceLT, reduceCtorEq]; try omega; done) | omega) only [Am.wanted, Am.isAlloc, Am.wa, Am.reads, Am.quiet, Am.over, Nat.testBit, Nat.reduceShiftRight, Nat.reduceAnd, Nat.reduceBNe, Nat.reduceLeDiff, Nat.reduceAdd, Nat.reduceMul, Nat.reduceLT, Nat.reduceEqDiff, Nat.reduceSub, reduceCtorEq, ↓reduceIte, tyfacts]
   exact ⟨rfl, Ext.refl wf, by omega, fun j _ h => by omega⟩
 intro i a H1 ⟨hn, hd, h0, h1, h7, h8, hx, hi, hno⟩ ih
 have hl1 := hl.mono hx
 simp (maxSteps := 10000000) (disch := first | assumption | (simp only [tyfacts, Am.wd, Nat.reduceEqDiff, Nat.reduceLT, reduceCtorEq]; try omega; done) | omega) only [Am.wanted, Am.isAlloc, Am.wa, Am.reads, Am.quiet, Am.over, Nat.testBit, Nat.reduceShiftRight, Nat.reduceAnd, Nat.reduceBNe, Nat.reduceLeDiff, Nat.reduceAdd, Nat.reduceMul, Nat.reduceLT, Nat.reduceEqDiff, Nat.reduceSub, reduceCtorEq, ↓reduceIte, tyfacts, h7, h8, hn]
 refine wpB_dec (fun hc => ?_) (fun hc => ?_)
 · have hj : i < xs.length := by omega
   simp (maxSteps := 10000000) (disch := first | assumption | (simp only [tyfacts, Am.wd, Nat.reduceEqDiff, Nat.reduceLT, reduceCtorEq]; try omega; done) | omega) only [Am.wanted, Am.isAlloc, Am.wa, Am.reads, Am.quiet, Am.over, Nat.testBit, Nat.reduceShiftRight, Nat.reduceAnd, Nat.reduceBNe, Nat.reduceLeDiff, Nat.reduceAdd, Nat.reduceMul, Nat.reduceLT, Nat.reduceEqDiff, Nat.reduceSub, reduceCtorEq, ↓reduceIte, tyfacts, h0, h1, h8, hn, hl1.idx, hl1.loadG]
   refine wpX_callV (hp xs[i] (List.getElem_mem hj) H1 hx) fun r H2 ⟨hr, hx2⟩ => ?_
   subst hr
   simp (maxSteps := 10000000) (disch := first | assumption | (simp only [tyfacts, Am.wd, Nat.reduceEqDiff, Nat.reduceLT, reduceCtorEq]; try omega; done) | omega) only [Am.wanted, Am.isAlloc, Am.wa, Am.reads, Am.quiet, Am.over, Nat.testBit, Nat.reduceShiftRight, Nat.reduceAnd, Nat.reduceBNe, Nat.reduceLeDiff, Nat.reduceAdd, Nat.reduceMul, Nat.reduceLT, Nat.reduceEqDiff, Nat.reduceSub, reduceCtorEq, ↓reduceIte, tyfacts, hn]
   refine wpB_bool (fun he => ?_) (fun he => ?_)
   · simp (maxSteps := 10000000) (disch := first | assumption | (simp only [tyfacts, Am.wd, Nat.reduceEqDiff, Nat.reduceLT, reduceCtorEq]; try omega; done) | omega) only [Am.wanted, Am.isAlloc, Am.wa, Am.reads, Am.quiet, Am.over, Nat.testBit, Nat.reduceShiftRight, Nat.reduceAnd, Nat.reduceBNe, Nat.reduceLeDiff, Nat.reduceAdd, Nat.reduceMul, Nat.reduceLT, Nat.reduceEqDiff, Nat.reduceSub, reduceCtorEq, ↓reduceIte, tyfacts, hn, hd]
     refine ⟨?_, hx.trans hx2⟩
     rw [show xs.findIdx? p = some i from List.findIdx?_eq_some_iff_getElem.2 ⟨hj, he, fun j hji => by simpa using hno j (by omega) hji⟩]; rfl
   · simp (maxSteps := 10000000) (disch := first | assumption | (simp only [tyfacts, Am.wd, Nat.reduceEqDiff, Nat.reduceLT, reduceCtorEq]; try omega; done) | omega) only [Am.wanted, Am.isAlloc, Am.wa, Am.reads, Am.quiet, Am.over, Nat.testBit, Nat.reduceShiftRight, Nat.reduceAnd, Nat.reduceBNe, Nat.reduceLeDiff, Nat.reduceAdd, Nat.reduceMul, Nat.reduceLT, Nat.reduceEqDiff, Nat.reduceSub, reduceCtorEq, ↓reduceIte, tyfacts, h8, hn, hd]
     refine ih (i + 1) _ _ (by omega) ?_
     simp (maxSteps := 10000000) (disch := first | assumption | (simp only [tyfacts, Am.wd, Nat.reduceEqDiff, Nat.reduceLT, reduceCtorEq]; try omega; done) | omega) only [Am.wanted, Am.isAlloc, Am.wa, Am.reads, Am.quiet, Am.over, Nat.testBit, Nat.reduceShiftRight, Nat.reduceAnd, Nat.reduceBNe, Nat.reduceLeDiff, Nat.reduceAdd, Nat.reduceMul, Nat.reduceLT, Nat.reduceEqDiff, Nat.reduceSub, reduceCtorEq, ↓reduceIte, tyfacts, h0, h1, h7, hn, hd]
     refine ⟨?_, hx.trans hx2, by omega, fun j hj' hlt => ?_⟩
     · simp
     · by_cases e : j = i
       · subst e; exact he
       · exact hno j hj' (by omega)
 · simp (maxSteps := 10000000) (disch := first | assumption | (simp only [tyfacts, Am.wd, Nat.reduceEqDiff, Nat.reduceLT, reduceCtorEq]; try omega; done) | omega) only [Am.wanted, Am.isAlloc, Am.wa, Am.reads, Am.quiet, Am.over, Nat.testBit, Nat.reduceShiftRight, Nat.reduceAnd, Nat.reduceBNe, Nat.reduceLeDiff, Nat.reduceAdd, Nat.reduceMul, Nat.reduceLT, Nat.reduceEqDiff, Nat.reduceSub, reduceCtorEq, ↓reduceIte, tyfacts, hd, hn]
   refine ⟨?_, hx⟩
   rw [show xs.findIdx? p = none from List.findIdx?_eq_none_iff.2 fun y hy => by
    obtain ⟨j, hj, rfl⟩ := List.mem_iff_getElem.1 hy
    exact hno j hj (by omega)]; rfl
theorem containsFunc_ed {H : Heap} (wf : H.WF) {v f : V} {xs : List (Int × Int)} (hl : Sl H v 2 (xs.map (cE))) (p : (Int × Int) → Bool) (hlen : xs.length < 1000000000)
  (hp : ∀ x, x ∈ xs → ∀ H', Ext H H' → CallV T f [(fun x : Int × Int => V.agg (cE x)) x] H' fun r H'' => r = .bool (p x) ∧ Ext H' H'') :
  CallsTo T 41 [v, f] H fun r H' => r = .bool (xs.any p) ∧ Ext H H' := by
 refine Am.calls_enter (T := T) rfl Try.func41 rfl (by simp only [Try.f41, List.length_cons, List.length_nil]; decide) ?_
 simp only [Try.f41]
 simp (maxSteps := 10000000) (disch := first | assumption | (simp only [tyfacts, Am.wd, Nat.reduceEqDiff, Nat.reduceLT, reduceCtorEq]; try omega; done) | omega) only [Am.wanted, Am.isAlloc, Am.wa, Am.reads, Am.quiet, Am.over, Nat.testBit, Nat.reduceShiftRight, Nat.reduceAnd, Nat.reduceBNe, Nat.reduceLeDiff, Nat.reduceAdd, Nat.reduceMul, Nat.reduceLT, Nat.reduceEqDiff, Nat.reduceSub, reduceCtorEq, ↓reduceIte, tyfacts]
 refine wpX_call (indexFunc_ed wf hl p hlen hp) fun r H' ⟨hr, hx⟩ => ?_
 subst hr
 simp (maxSteps := 10000000) (disch := first | assumption | (simp only [tyfacts, Am.wd, Nat.reduceEqDiff, Nat.reduceLT, reduceCtorEq]; try omega; done) | omega) only [Am.wanted, Am.isAlloc, Am.wa, Am.reads, Am.quiet, Am.over, Nat.testBit, Nat.reduceShiftRight, Nat.reduceAnd, Nat.reduceBNe, Nat.reduceLeDiff, Nat.reduceAdd, Nat.reduceMul, Nat.reduceLT, Nat.reduceEqDiff, Nat.reduceSub, reduceCtorEq, ↓reduceIte, tyfacts]
 refine ⟨?_, hx⟩
 congr 1
 rw [Bool.eq_iff_iff, decide_eq_true_eq, idxI_ge, List.findIdx?_isSome]
def pickF (n m : Int) : Int := if m ≤ 0 then 0 else n % m
theorem pickF_lt {n m : Int} (h : 0 < m) : 0 ≤ pickF n m ∧ pickF n m < m := by
 rw [pickF, if_neg (by omega)]
 exact ⟨Int.emod_nonneg _ (by omega), Int.emod_lt_of_pos _ h⟩
theorem pick_ok {H : Heap} (wf : H.WF) (n m : Int) (hm : m < 1000000000) :
  CallsTo T 26 [.int .i64 n, .int .i64 m] H fun r H' => r = .int .i64 (pickF n m) ∧ Ext H H' := by
 refine Am.calls_enter (T := T) rfl Try.func26 rfl (by simp only [Try.f26, List.length_cons, List.length_nil]; decide) ?_
 simp only [Try.f26]
 simp (maxSteps := 10000000) (disch := first | assumption | (simp only [tyfacts, Am.wd, Nat.reduceEqDiff, Nat.reduceLT, reduceCtorEq]; try omega; done) | omega) only [Am.wanted, Am.isAlloc, Am.wa, Am.reads, Am.quiet, Am.over, Nat.testBit, Nat.reduceShiftRight, Nat.reduceAnd, Nat.reduceBNe, Nat.reduceLeDiff, Nat.reduceAdd, Nat.reduceMul, Nat.reduceLT, Nat.reduceEqDiff, Nat.reduceSub, reduceCtorEq, ↓reduceIte, tyfacts]
 refine wpB_dec (fun h => ?_) (fun h => ?_)
 · simp (maxSteps := 10000000) (disch := first | assumption | (simp only [tyfacts, Am.wd, Nat.reduceEqDiff, Nat.reduceLT, reduceCtorEq]; try omega; done) | omega) only [Am.wanted, Am.isAlloc, Am.wa, Am.reads, Am.quiet, Am.over, Nat.testBit, Nat.reduceShiftRight, Nat.reduceAnd, Nat.reduceBNe, Nat.reduceLeDiff, Nat.reduceAdd, Nat.reduceMul, Nat.reduceLT, Nat.reduceEqDiff, Nat.reduceSub, reduceCtorEq, ↓reduceIte, tyfacts]
   exact ⟨by rw [pickF, if_pos h], Ext.refl wf⟩
 have hr1 := Int.tmod_lt_of_pos n (show 0 < m by omega)
 have hr2 : -m < n.tmod m := by
  have := Int.tmod_lt_of_pos (-n) (show 0 < m by omega)
  rw [Int.neg_tmod] at this; omega
 have hr3 : n.tmod m % m = n % m := by
  have e := Int.mul_tdiv_add_tmod n m
  have : (n.tmod m + m * n.tdiv m) % m = n.tmod m % m := Int.add_mul_emod_self_left _ _ _
  rw [← this, Int.add_comm, e]
 simp (maxSteps := 10000000) (disch := first | assumption | (simp only [tyfacts, Am.wd, Nat.reduceEqDiff, Nat.reduceLT, reduceCtorEq]; try omega; done) | omega) only [Am.wanted, Am.isAlloc, Am.wa, Am.reads, Am.quiet, Am.over, Nat.testBit, Nat.reduceShiftRight, Nat.reduceAnd, Nat.reduceBNe, Nat.reduceLeDiff, Nat.reduceAdd, Nat.reduceMul, Nat.reduceLT, Nat.reduceEqDiff, Nat.reduceSub, reduceCtorEq, ↓reduceIte, tyfacts]
 refine wpB_dec (fun hq => ?_) (fun hq => ?_)
 · simp (maxSteps := 10000000) (disch := first | assumption | (simp only [tyfacts, Am.wd, Nat.reduceEqDiff, Nat.reduceLT, reduceCtorEq]; try omega; done) | omega) only [Am.wanted, Am.isAlloc, Am.wa, Am.reads, Am.quiet, Am.over, Nat.testBit, Nat.reduceShiftRight, Nat.reduceAnd, Nat.reduceBNe, Nat.reduceLeDiff, Nat.reduceAdd, Nat.reduceMul, Nat.reduceLT, Nat.reduceEqDiff, Nat.reduceSub, reduceCtorEq, ↓reduceIte, tyfacts]
   refine ⟨?_, Ext.refl wf⟩
   rw [pickF, if_neg h, ← hr3]
   have : (n.tmod m + m) % m = n.tmod m % m := by rw [Int.add_emod_right]
   rw [← this, Int.emod_eq_of_lt (by omega) (by omega)]
 · simp (maxSteps := 10000000) (disch := first | assumption | (simp only [tyfacts, Am.wd, Nat.reduceEqDiff, Nat.reduceLT, reduceCtorEq]; try omega; done) | omega) only [Am.wanted, Am.isAlloc, Am.wa, Am.reads, Am.quiet, Am.over, Nat.testBit, Nat.reduceShiftRight, Nat.reduceAnd, Nat.reduceBNe, Nat.reduceLeDiff, Nat.reduceAdd, Nat.reduceMul, Nat.reduceLT, Nat.reduceEqDiff, Nat.reduceSub, reduceCtorEq, ↓reduceIte, tyfacts]
   refine ⟨?_, Ext.refl wf⟩
   rw [pickF, if_neg h, ← hr3, Int.emod_eq_of_lt (by omega) (by omega)]
theorem calls_prim {T : Tab} {f : FuncId} {p : List V → Heap → Option (V × Heap)} {args : List V} {H H' : Heap} {r : V} {R : V → Heap → Prop} (hp : T.prim f = some p) (h : p args H = some (r, H')) (hq : R r H') : CallsTo T f args H R :=
 ⟨0, r, H', by simp [run, calls, hp, h], hq⟩
end Go.Proofs.Ytbhgjikjdblgeaa.W

/- The heap of numbers, through the library's own functions. No conditions. -/
namespace Go.Proofs.Ytbhgjikjdblgeaa.W
open Go.Am Go.Am.Hp
structure HP (H : Heap) (b p : Nat) (v : V) (ns : List Int) : Prop where
 wf : H.WF
 ptr : H.get p = some (.cells false [v])
 mine : Mine b H v 1 (ns.map cI)
 pn : ¬ Of v p
 len : ns.length < 100000000
 lb : b ≤ H.n
theorem HP.mono {H H' : Heap} {b p : Nat} {v : V} {ns : List Int} (h : HP H b p v ns) (hx : Ext H H') : HP H' b p v ns := ⟨hx.wf, hx.get _ _ h.ptr, h.mine.mono hx, h.pn, h.len, Nat.le_trans h.lb hx.n⟩
theorem hlen_ok {H : Heap} (wf : H.WF) {v : V} {ns : List Int} (hl : Sl H v 1 (ns.map cI)) : CallsTo T 35 [v] H fun r H' => r = .int .i64 ns.length ∧ H' = H := by
 refine Am.calls_enter (T := T) rfl Try.func35 rfl (by simp only [Try.f35, List.length_cons, List.length_nil]; decide) ?_
 simp only [Try.f35]
 have L := hl.len
 simp (maxSteps := 10000000) (disch := first | assumption | (simp only [tyfacts, Am.wd, Nat.reduceEqDiff, Nat.reduceLT, reduceCtorEq]; try omega; done) | omega) only [Am.wanted, Am.isAlloc, Am.wa, Am.reads, Am.quiet, Am.over, Nat.testBit, Nat.reduceShiftRight, Nat.reduceAnd, Nat.reduceBNe, Nat.reduceLeDiff, Nat.reduceAdd, Nat.reduceMul, Nat.reduceLT, Nat.reduceEqDiff, Nat.reduceSub, reduceCtorEq, ↓reduceIte, tyfacts, L]
theorem hless {H : Heap} (wf : H.WF) {v : V} {ns : List Int} (hl : Sl H v 1 (ns.map cI)) {i j : Nat} (hi : i < ns.length) (hj : j < ns.length) :
  CallsTo T 85 [v, .int .i64 i, .int .i64 j] H fun r H' => r = .bool (decide (at_ ns i < at_ ns j)) ∧ Ext H H' := by
 refine Am.calls_enter (T := T) rfl Try.func85 rfl (by simp only [Try.f85, List.length_cons, List.length_nil]; decide) ?_
 simp only [Try.f85]
 simp (maxSteps := 10000000) (disch := first | assumption | (simp only [tyfacts, Am.wd, Nat.reduceEqDiff, Nat.reduceLT, reduceCtorEq]; try omega; done) | omega) only [Am.wanted, Am.isAlloc, Am.wa, Am.reads, Am.quiet, Am.over, Nat.testBit, Nat.reduceShiftRight, Nat.reduceAnd, Nat.reduceBNe, Nat.reduceLeDiff, Nat.reduceAdd, Nat.reduceMul, Nat.reduceLT, Nat.reduceEqDiff, Nat.reduceSub, reduceCtorEq, ↓reduceIte, tyfacts]
 refine Am.wpK_draw 10 [0, 1, 2, 3, 4, 5, 6, 7, 8, 9] (Ext.refl wf).wf (by kernel_rfl) ?_
 have hx2 := (Ext.refl wf).keep 10
 generalize hH2 : Am.Heap.keep _ _ = H2
 replace hx2 : Am.Ext _ H2 := hH2 ▸ hx2
 have hl2 := hl.mono hx2
 simp (maxSteps := 10000000) (disch := first | assumption | (simp only [tyfacts, Am.wd, Nat.reduceEqDiff, Nat.reduceLT, reduceCtorEq]; try omega; done) | omega) only [Am.wanted, Am.isAlloc, Am.wa, Am.reads, Am.quiet, Am.over, Nat.testBit, Nat.reduceShiftRight, Nat.reduceAnd, Nat.reduceBNe, Nat.reduceLeDiff, Nat.reduceAdd, Nat.reduceMul, Nat.reduceLT, Nat.reduceEqDiff, Nat.reduceSub, reduceCtorEq, ↓reduceIte, tyfacts, hl2.idx, hl2.load1, cI]
 refine ⟨?_, hx2⟩
 rw [at_get hi, at_get hj]
theorem hswap {H : Heap} {b p : Nat} {v : V} {ns : List Int} (h : HP H b p v ns) {i j : Nat} (hi : i < ns.length) (hj : j < ns.length) :
  CallsTo T 88 [v, .int .i64 i, .int .i64 j] H fun r H' => HP H' b p v (swap ns i j) ∧ ExtB (Of v) H H' := by
 refine Am.calls_enter (T := T) rfl Try.func88 rfl (by simp only [Try.f88, List.length_cons, List.length_nil]; decide) ?_
 simp only [Try.f88]
 refine Am.wpK_draw 16 [0,1,4,5,6,7,8,9,10,11,12,13,2,3,14,15] (Ext.refl h.wf).wf (by kernel_rfl) ?_
 have hx2 := (Ext.refl h.wf).keep 16
 generalize hH2 : Am.Heap.keep _ _ = H2
 replace hx2 : Am.Ext _ H2 := hH2 ▸ hx2
 have h2 := h.mono hx2
 have hl2 := h2.mine.sl
 have s1 := h2.mine.store1 h2.wf (T := T) (t := 3) (by simp only [tyfacts]) (j := i) (by simpa using hi) (x := .int .i64 ns[j]) rfl
 obtain ⟨H3, e1, m3, x3, n3⟩ := s1
 have s2 := m3.store1 x3.wf (T := T) (t := 3) (by simp only [tyfacts]) (j := j) (by simpa using hj) (x := .int .i64 ns[i]) rfl
 obtain ⟨H4, e2, m4, x4, n4⟩ := s2
 simp (maxSteps := 10000000) (disch := first | assumption | (simp only [tyfacts, Am.wd, Nat.reduceEqDiff, Nat.reduceLT, reduceCtorEq]; try omega; done) | omega) only [Am.wanted, Am.isAlloc, Am.wa, Am.reads, Am.quiet, Am.over, Nat.testBit, Nat.reduceShiftRight, Nat.reduceAnd, Nat.reduceBNe, Nat.reduceLeDiff, Nat.reduceAdd, Nat.reduceMul, Nat.reduceLT, Nat.reduceEqDiff, Nat.reduceSub, reduceCtorEq, ↓reduceIte, tyfacts, hl2.idx, hl2.load1, cI, e1, e2]
 have hx4 : ExtB (Of v) H H4 := ((hx2.but _).trans x3).trans x4
 have pn := h.pn
 refine ⟨⟨x4.wf, hx4.get _ _ pn h.ptr, ?_, pn, by rw [swap_len]; exact h.len, Nat.le_trans h.lb hx4.n⟩, hx4⟩
 have : ((ns.map cI).set i [V.int .i64 ns[j]]).set j [V.int .i64 ns[i]] = (swap ns i j).map cI := by
  rw [swap, at_get hi, at_get hj, List.map_set, List.map_set]; rfl
 rw [← this]; exact m4
theorem hpush {H : Heap} {b p : Nat} {v : V} {ns : List Int} (h : HP H b p v ns) (x : Int) (hl : ns.length < 1000000) :
  CallsTo T 87 [.ptr p 0, .iface 3 (.int .i64 x)] H fun r H' => ∃ v', HP H' b p v' (ns ++ [x]) ∧ ExtB (fun l => l = p ∨ Of v l) H H' ∧ ∀ l, Of v' l → Of v l ∨ H.n ≤ l := by
 refine Am.calls_enter (T := T) rfl Try.func87 rfl (by simp only [Try.f87, List.length_cons, List.length_nil]; decide) ?_
 simp only [Try.f87]
 refine Am.wpK_draw 10 [1,2,3,4,5,6,7,0,8,9] (Ext.refl h.wf).wf (by kernel_rfl) ?_
 have hx2 := (Ext.refl h.wf).keep 10
 generalize hH2 : Am.Heap.keep _ _ = H2
 replace hx2 : Am.Ext _ H2 := hH2 ▸ hx2
 have c1 := cellsAt_of_get (hx2.get _ _ h.ptr)
 have e2 : H.n + 10 = H2.n := by rw [← hH2]; rfl
 have hx3 : Ext H (H2.put (H.n + 6) (.cells false [.int .i64 x])) := hx2.put (by omega) (by omega) _
 have hy := sl_one (c := some 1) (fun m hm => by cases hm; exact Nat.le_refl _) (get_put_same (H := H2) (l := H.n + 6) (by omega) (.cells false [.int .i64 x])) (s := 1) rfl
 have ha : appOk T 56 56 = some (1, 8) := by simp only [tyfacts]
 have hap := append_own (h.mine.mono hx3) hx3.wf (Nat.le_trans h.lb hx3.n) ha hy (by simp [V.one]) (by simp; omega) (by simp; omega)
 obtain ⟨v', H4, p1, p2, p3, p4⟩ := hap
 have pn := h.pn
 have k1 : H4.get p = some (.cells false [v]) := p3.get _ _ pn (hx3.get _ _ h.ptr)
 have o1 := p2.sl.one
 have f1 := Heap.lt k1
 simp (maxSteps := 10000000) (disch := first | assumption | (simp only [tyfacts, Am.wd, Nat.reduceEqDiff, Nat.reduceLT, reduceCtorEq]; try omega; done) | omega) only [Am.wanted, Am.isAlloc, Am.wa, Am.reads, Am.quiet, Am.over, Nat.testBit, Nat.reduceShiftRight, Nat.reduceAnd, Nat.reduceBNe, Nat.reduceLeDiff, Nat.reduceAdd, Nat.reduceMul, Nat.reduceLT, Nat.reduceEqDiff, Nat.reduceSub, reduceCtorEq, ↓reduceIte, tyfacts, c1, p1, p2.sl.cells, o1, k1]
 have pn' : ¬ Of v' p := fun e => by
  rcases p4 _ e with e | e
  · exact pn e
  · have := Heap.lt h.ptr; have := hx3.n; omega
 refine ⟨v', ⟨p3.wf.put f1 _, get_put_same f1 _, ?_, pn', by simp; omega, Nat.le_trans h.lb (Nat.le_trans hx3.n p3.n)⟩, ?_, fun l hl => (p4 l hl).imp id fun h => Nat.le_trans hx3.n h⟩
 · have h5 := p2.ext (P := fun l => l = p) ((ExtB.refl (fun l => l = p) p3.wf).put (.inl rfl) f1 (.cells false [v'])) fun l hl e => pn' (e ▸ hl)
   simpa [cI] using h5
 · exact ((hx3.but _).trans (p3.weaken fun l h => .inr h)).put (.inl (.inl rfl)) f1 _
theorem hpop {H : Heap} {b p : Nat} {v : V} {ns : List Int} {m : Nat} (h : HP H b p v ns) (hl : ns.length = m + 1) :
  CallsTo T 86 [.ptr p 0] H fun r H' => ∃ v', r = .iface 3 (.int .i64 (at_ ns m)) ∧ HP H' b p v' (ns.take m) ∧ ExtB (fun l => l = p ∨ Of v l) H H' ∧ ∀ l, Of v' l → Of v l ∨ H.n ≤ l := by
 refine Am.calls_enter (T := T) rfl Try.func86 rfl (by simp only [Try.f86, List.length_cons, List.length_nil]; decide) ?_
 simp only [Try.f86]
 have c0 := cellsAt_of_get h.ptr
 have L := h.mine.len
 have L' : (ns.length : Int) - 1 = (m : Int) := by omega
 have hlen := h.len
 simp (maxSteps := 10000000) (disch := first | assumption | (simp only [tyfacts, Am.wd, Nat.reduceEqDiff, Nat.reduceLT, reduceCtorEq]; try omega; done) | omega) only [Am.wanted, Am.isAlloc, Am.wa, Am.reads, Am.quiet, Am.over, Nat.testBit, Nat.reduceShiftRight, Nat.reduceAnd, Nat.reduceBNe, Nat.reduceLeDiff, Nat.reduceAdd, Nat.reduceMul, Nat.reduceLT, Nat.reduceEqDiff, Nat.reduceSub, reduceCtorEq, ↓reduceIte, tyfacts]
 refine Am.wpK_draw 11 [0, 1, 2, 3, 4, 5, 6, 7, 8, 9, 10] (Ext.refl h.wf).wf (by kernel_rfl) ?_
 have hx2 := (Ext.refl h.wf).keep 11
 generalize hH2 : Am.Heap.keep _ _ = H2
 replace hx2 : Am.Ext _ H2 := hH2 ▸ hx2
 have h2 := h.mono hx2
 have c2 := cellsAt_of_get h2.ptr
 have hl2 := h2.mine.sl
 have hm : m < ns.length := by omega
 simp (maxSteps := 10000000) (disch := first | assumption | (simp only [tyfacts, Am.wd, Nat.reduceEqDiff, Nat.reduceLT, reduceCtorEq]; try omega; done) | omega) only [Am.wanted, Am.isAlloc, Am.wa, Am.reads, Am.quiet, Am.over, Nat.testBit, Nat.reduceShiftRight, Nat.reduceAnd, Nat.reduceBNe, Nat.reduceLeDiff, Nat.reduceAdd, Nat.reduceMul, Nat.reduceLT, Nat.reduceEqDiff, Nat.reduceSub, reduceCtorEq, ↓reduceIte, tyfacts, c2, L, L', hl2.idx, hl2.load1, cI]
 refine Am.wpK_draw 12 [0, 1, 2, 3, 4, 5, 6, 7, 8, 9, 10, 11] (hx2).wf (by kernel_rfl) ?_
 have hx3 := (hx2).keep 12
 generalize hH3 : Am.Heap.keep _ _ = H3
 replace hx3 : Am.Ext _ H3 := hH3 ▸ hx3
 have h3 := h.mono hx3
 have c3 := cellsAt_of_get h3.ptr
 have g3 := h3.ptr
 obtain ⟨u, q1, q2, q3⟩ := h3.mine.take (T := T) (t := 56) (by simp only [tyfacts]) (hi := some (.int .i64 (m : Int))) (n := m) rfl (by simp; omega)
 have o1 := q2.sl.one
 have f1 := Heap.lt g3
 simp (maxSteps := 10000000) (disch := first | assumption | (simp only [tyfacts, Am.wd, Nat.reduceEqDiff, Nat.reduceLT, reduceCtorEq]; try omega; done) | omega) only [Am.wanted, Am.isAlloc, Am.wa, Am.reads, Am.quiet, Am.over, Nat.testBit, Nat.reduceShiftRight, Nat.reduceAnd, Nat.reduceBNe, Nat.reduceLeDiff, Nat.reduceAdd, Nat.reduceMul, Nat.reduceLT, Nat.reduceEqDiff, Nat.reduceSub, reduceCtorEq, ↓reduceIte, tyfacts, c3, L, L', q1, o1, q2.sl.cells, g3]
 have pn : ¬ Of u p := fun e => h.pn (q3 _ e)
 have hx4 : ExtB (fun l => l = p ∨ Of v l) H (H3.put p (.cells false [u])) := (hx3.but _).put (.inl (.inl rfl)) f1 _
 refine ⟨u, by rw [at_get hm], ⟨hx4.wf, get_put_same f1 _, ?_, pn, by rw [List.length_take]; omega, Nat.le_trans h.lb hx4.n⟩, hx4, fun l hl => .inl (q3 l hl)⟩
 have h5 := q2.ext (P := fun l => l = p) ((ExtB.refl (fun l => l = p) h3.wf).put (.inl rfl) f1 (.cells false [u])) fun l hl e => pn (e ▸ hl)
 simpa [List.map_take] using h5
def hI (p : Nat) : V := .iface 55 (.ptr p 0)
theorem up_ok {H : Heap} {b p : Nat} {v : V} {ns : List Int} {j : Nat} (h : HP H b p v ns) (hj : j < ns.length) (hu : UpInv ns ns.length j) (hl : ns.length < 1000000) :
  CallsTo T 45 [hI p, .int .i64 j] H fun r H' => ∃ ns', HP H' b p v ns' ∧ ns'.Perm ns ∧ IsHeap ns' ns'.length ∧ ExtB (Of v) H H' := by
 refine Am.calls_enter (T := T) rfl Try.func45 rfl (by simp only [Try.f45, List.length_cons, List.length_nil]; decide) ?_
 simp only [Try.f45]
 simp (maxSteps := 10000000) (disch := first | assumption | (simp only [tyfacts, Am.wd, Nat.reduceEqDiff, Nat.reduceLT, reduceCtorEq]; try omega; done) | omega) only [Am.wanted, Am.isAlloc, Am.wa, Am.reads, Am.quiet, Am.over, Nat.testBit, Nat.reduceShiftRight, Nat.reduceAnd, Nat.reduceBNe, Nat.reduceLeDiff, Nat.reduceAdd, Nat.reduceMul, Nat.reduceLT, Nat.reduceEqDiff, Nat.reduceSub, reduceCtorEq, ↓reduceIte, tyfacts]
 refine wpK_loop_ind _ (fun x : Nat => x) (fun j a H' => a.tmps.n = 23 ∧ a.defers = [] ∧ a.tmp 0 = hI p ∧ a.tmp 1 = .int .i64 j ∧ ∃ ns', HP H' b p v ns' ∧ ns'.Perm ns ∧ j < ns'.length ∧ UpInv ns' ns'.length j ∧ ExtB (Of v) H H') j ?_ ?_
 · simp (maxSteps := 10000000) (disch := first | assumption | (simp only [tyfacts, Am.wd, Nat.reduceEqDiff, Nat.reduceLT, reduceCtorEq]; try omega; done) | omega) only [Am.wanted, Am.isAlloc, Am.wa, Am.reads, Am.quiet, Am.over, Nat.testBit, Nat.reduceShiftRight, Nat.reduceAnd, Nat.reduceBNe, Nat.reduceLeDiff, Nat.reduceAdd, Nat.reduceMul, Nat.reduceLT, Nat.reduceEqDiff, Nat.reduceSub, reduceCtorEq, ↓reduceIte, tyfacts]
   exact ⟨ns, h, List.Perm.refl _, hj, hu, ExtB.refl _ h.wf⟩
 clear hu hj
 intro j a H1 ⟨hn, hd, h0, h1, ns1, hp1, hpm, hj, hu, hx⟩ ih
 have hlen := hpm.length_eq
 have hq : ((j : Int) - 1).tdiv 2 = ((j - 1 : Nat) / 2 : Nat) := by
  by_cases e : j = 0
  · subst e; rfl
  · rw [show ((j : Int) - 1) = ((j - 1 : Nat) : Int) by omega]; rfl
 simp (maxSteps := 10000000) (disch := first | assumption | (simp only [tyfacts, Am.wd, Nat.reduceEqDiff, Nat.reduceLT, reduceCtorEq]; try omega; done) | omega) only [Am.wanted, Am.isAlloc, Am.wa, Am.reads, Am.quiet, Am.over, Nat.testBit, Nat.reduceShiftRight, Nat.reduceAnd, Nat.reduceBNe, Nat.reduceLeDiff, Nat.reduceAdd, Nat.reduceMul, Nat.reduceLT, Nat.reduceEqDiff, Nat.reduceSub, reduceCtorEq, ↓reduceIte, tyfacts, h0, h1, hn, hq]
 by_cases e : j = 0
 · subst e
   simp (maxSteps := 10000000) (disch := first | assumption | (simp only [tyfacts, Am.wd, Nat.reduceEqDiff, Nat.reduceLT, reduceCtorEq]; try omega; done) | omega) only [Am.wanted, Am.isAlloc, Am.wa, Am.reads, Am.quiet, Am.over, Nat.testBit, Nat.reduceShiftRight, Nat.reduceAnd, Nat.reduceBNe, Nat.reduceLeDiff, Nat.reduceAdd, Nat.reduceMul, Nat.reduceLT, Nat.reduceEqDiff, Nat.reduceSub, reduceCtorEq, ↓reduceIte, tyfacts, h0, h1, hn, hd]
   exact ⟨ns1, hp1, hpm, up_stop hu (.inl rfl), hx⟩
 · have e1 : ¬ (((j - 1) / 2 : Nat) : Int) = (j : Int) := by omega
   have c1 := cellsAt_of_get hp1.ptr
   simp (maxSteps := 10000000) (disch := first | assumption | (simp only [tyfacts, Am.wd, Nat.reduceEqDiff, Nat.reduceLT, reduceCtorEq]; try omega; done) | omega) only [Am.wanted, Am.isAlloc, Am.wa, Am.reads, Am.quiet, Am.over, Nat.testBit, Nat.reduceShiftRight, Nat.reduceAnd, Nat.reduceBNe, Nat.reduceLeDiff, Nat.reduceAdd, Nat.reduceMul, Nat.reduceLT, Nat.reduceEqDiff, Nat.reduceSub, reduceCtorEq, ↓reduceIte, tyfacts, h0, h1, hn, e1, hI, c1]
   refine wpX_call (hless hp1.wf hp1.mine.sl hj (j := (j - 1) / 2) (by omega)) fun r H2 ⟨hr, hx2⟩ => ?_
   subst hr
   have hp2 := hp1.mono hx2
   have hx2 := hx.trans (hx2.but _)
   simp (maxSteps := 10000000) (disch := first | assumption | (simp only [tyfacts, Am.wd, Nat.reduceEqDiff, Nat.reduceLT, reduceCtorEq]; try omega; done) | omega) only [Am.wanted, Am.isAlloc, Am.wa, Am.reads, Am.quiet, Am.over, Nat.testBit, Nat.reduceShiftRight, Nat.reduceAnd, Nat.reduceBNe, Nat.reduceLeDiff, Nat.reduceAdd, Nat.reduceMul, Nat.reduceLT, Nat.reduceEqDiff, Nat.reduceSub, reduceCtorEq, ↓reduceIte, tyfacts, hn]
   refine wpB_dec (fun hs => ?_) (fun hs => ?_)
   · simp (maxSteps := 10000000) (disch := first | assumption | (simp only [tyfacts, Am.wd, Nat.reduceEqDiff, Nat.reduceLT, reduceCtorEq]; try omega; done) | omega) only [Am.wanted, Am.isAlloc, Am.wa, Am.reads, Am.quiet, Am.over, Nat.testBit, Nat.reduceShiftRight, Nat.reduceAnd, Nat.reduceBNe, Nat.reduceLeDiff, Nat.reduceAdd, Nat.reduceMul, Nat.reduceLT, Nat.reduceEqDiff, Nat.reduceSub, reduceCtorEq, ↓reduceIte, tyfacts, hn, hd]
     exact ⟨ns1, hp2, hpm, up_stop hu (.inr (by omega)), hx2⟩
   · have c2 := cellsAt_of_get hp2.ptr
     simp (maxSteps := 10000000) (disch := first | assumption | (simp only [tyfacts, Am.wd, Nat.reduceEqDiff, Nat.reduceLT, reduceCtorEq]; try omega; done) | omega) only [Am.wanted, Am.isAlloc, Am.wa, Am.reads, Am.quiet, Am.over, Nat.testBit, Nat.reduceShiftRight, Nat.reduceAnd, Nat.reduceBNe, Nat.reduceLeDiff, Nat.reduceAdd, Nat.reduceMul, Nat.reduceLT, Nat.reduceEqDiff, Nat.reduceSub, reduceCtorEq, ↓reduceIte, tyfacts, h0, h1, hn, hI, c2]
     refine wpX_call (hswap hp2 (i := (j - 1) / 2) (j := j) (by omega) hj) fun r H3 ⟨hp3, hx3⟩ => ?_
     simp (maxSteps := 10000000) (disch := first | assumption | (simp only [tyfacts, Am.wd, Nat.reduceEqDiff, Nat.reduceLT, reduceCtorEq]; try omega; done) | omega) only [Am.wanted, Am.isAlloc, Am.wa, Am.reads, Am.quiet, Am.over, Nat.testBit, Nat.reduceShiftRight, Nat.reduceAnd, Nat.reduceBNe, Nat.reduceLeDiff, Nat.reduceAdd, Nat.reduceMul, Nat.reduceLT, Nat.reduceEqDiff, Nat.reduceSub, reduceCtorEq, ↓reduceIte, tyfacts, hn]
     refine ih ((j - 1) / 2) _ _ (by omega) ?_
     simp (maxSteps := 10000000) (disch := first | assumption | (simp only [tyfacts, Am.wd, Nat.reduceEqDiff, Nat.reduceLT, reduceCtorEq]; try omega; done) | omega) only [Am.wanted, Am.isAlloc, Am.wa, Am.reads, Am.quiet, Am.over, Nat.testBit, Nat.reduceShiftRight, Nat.reduceAnd, Nat.reduceBNe, Nat.reduceLeDiff, Nat.reduceAdd, Nat.reduceMul, Nat.reduceLT, Nat.reduceEqDiff, Nat.reduceSub, reduceCtorEq, ↓reduceIte, tyfacts, h0, hn, hd, hI]
     refine ⟨_, hp3, (swap_perm (by omega) hj).trans hpm, by rw [swap_len]; omega, ?_, hx2.trans hx3⟩
     rw [swap_len]
     exact up_step rfl hj (by omega) hu (by omega)
theorem down_ok {H : Heap} {b p : Nat} {v : V} {ns : List Int} {n : Nat} (h : HP H b p v ns) (hn0 : n ≤ ns.length) (hu : DownInv ns n 0) (hl : ns.length < 1000000) :
  CallsTo T 46 [hI p, .int .i64 0, .int .i64 n] H fun r H' => ∃ ns', HP H' b p v ns' ∧ ns'.Perm ns ∧ (∀ k, n ≤ k → at_ ns' k = at_ ns k) ∧ IsHeap ns' n ∧ ExtB (Of v) H H' := by
 refine Am.calls_enter (T := T) rfl Try.func46 rfl (by simp only [Try.f46, List.length_cons, List.length_nil]; decide) ?_
 simp only [Try.f46]
 simp (maxSteps := 10000000) (disch := first | assumption | (simp only [tyfacts, Am.wd, Nat.reduceEqDiff, Nat.reduceLT, reduceCtorEq]; try omega; done) | omega) only [Am.wanted, Am.isAlloc, Am.wa, Am.reads, Am.quiet, Am.over, Nat.testBit, Nat.reduceShiftRight, Nat.reduceAnd, Nat.reduceBNe, Nat.reduceLeDiff, Nat.reduceAdd, Nat.reduceMul, Nat.reduceLT, Nat.reduceEqDiff, Nat.reduceSub, reduceCtorEq, ↓reduceIte, tyfacts]
 refine wpK_loop_ind _ (fun x : Nat => n - x) (fun i a H' => a.tmps.n = 48 ∧ a.defers = [] ∧ a.tmp 0 = hI p ∧ a.tmp 1 = .int .i64 0 ∧ a.tmp 2 = .int .i64 n ∧ a.tmp 7 = .int .i64 i ∧ ∃ ns', HP H' b p v ns' ∧ ns'.Perm ns ∧ (∀ k, n ≤ k → at_ ns' k = at_ ns k) ∧ DownInv ns' n i ∧ ExtB (Of v) H H' ∧ i ≤ n) 0 ?_ ?_
 · simp (maxSteps := 10000000) (disch := first | assumption | (simp only [tyfacts, Am.wd, Nat.reduceEqDiff, Nat.reduceLT, reduceCtorEq]; try omega; done) | omega) only [Am.wanted, Am.isAlloc, Am.wa, Am.reads, Am.quiet, Am.over, Nat.testBit, Nat.reduceShiftRight, Nat.reduceAnd, Nat.reduceBNe, Nat.reduceLeDiff, Nat.reduceAdd, Nat.reduceMul, Nat.reduceLT, Nat.reduceEqDiff, Nat.reduceSub, reduceCtorEq, ↓reduceIte, tyfacts]
   exact ⟨rfl, ns, h, List.Perm.refl _, fun _ _ => rfl, hu, ExtB.refl _ h.wf, by omega⟩
 clear hu
 intro i a H1 ⟨hn, hd, h0, h1, h2, h7, ns1, hp1, hpm, hk, hu, hx, hi⟩ ih
 have hlen := hpm.length_eq
 have q1 : (2 : Int) * (i : Int) = ((2 * i : Nat) : Int) := by omega
 have q2 : ((2 * i : Nat) : Int) + 1 = ((2 * i + 1 : Nat) : Int) := by omega
 simp (maxSteps := 10000000) (disch := first | assumption | (simp only [tyfacts, Am.wd, Nat.reduceEqDiff, Nat.reduceLT, reduceCtorEq]; try omega; done) | omega) only [Am.wanted, Am.isAlloc, Am.wa, Am.reads, Am.quiet, Am.over, Nat.testBit, Nat.reduceShiftRight, Nat.reduceAnd, Nat.reduceBNe, Nat.reduceLeDiff, Nat.reduceAdd, Nat.reduceMul, Nat.reduceLT, Nat.reduceEqDiff, Nat.reduceSub, reduceCtorEq, ↓reduceIte, tyfacts, h0, h1, h2, h7, hn, q1, q2]
 by_cases e : n ≤ 2 * i + 1
 · have e' : (n : Int) ≤ ((2 * i + 1 : Nat) : Int) := by omega
   simp (maxSteps := 10000000) (disch := first | assumption | (simp only [tyfacts, Am.wd, Nat.reduceEqDiff, Nat.reduceLT, reduceCtorEq]; try omega; done) | omega) only [Am.wanted, Am.isAlloc, Am.wa, Am.reads, Am.quiet, Am.over, Nat.testBit, Nat.reduceShiftRight, Nat.reduceAnd, Nat.reduceBNe, Nat.reduceLeDiff, Nat.reduceAdd, Nat.reduceMul, Nat.reduceLT, Nat.reduceEqDiff, Nat.reduceSub, reduceCtorEq, ↓reduceIte, tyfacts, h0, h1, h2, h7, hn, hd, e']
   exact ⟨ns1, hp1, hpm, hk, down_stop hu fun k hk0 hkn hkp => by omega, hx⟩
 · have e' : ¬ (n : Int) ≤ ((2 * i + 1 : Nat) : Int) := by omega
   have e2 : ¬ ((2 * i + 1 : Nat) : Int) < 0 := by omega
   have q3 : ((2 * i + 1 : Nat) : Int) + 1 = ((2 * i + 2 : Nat) : Int) := by omega
   have c1 := cellsAt_of_get hp1.ptr
   by_cases e3 : 2 * i + 2 < n
   · have e3' : ((2 * i + 2 : Nat) : Int) < (n : Int) := by omega
     simp (maxSteps := 10000000) (disch := first | assumption | (simp only [tyfacts, Am.wd, Nat.reduceEqDiff, Nat.reduceLT, reduceCtorEq]; try omega; done) | omega) only [Am.wanted, Am.isAlloc, Am.wa, Am.reads, Am.quiet, Am.over, Nat.testBit, Nat.reduceShiftRight, Nat.reduceAnd, Nat.reduceBNe, Nat.reduceLeDiff, Nat.reduceAdd, Nat.reduceMul, Nat.reduceLT, Nat.reduceEqDiff, Nat.reduceSub, reduceCtorEq, ↓reduceIte, tyfacts, h0, h1, h2, h7, hn, hd, e', e2, q3, e3', hI, c1]
     refine wpX_call (hless hp1.wf hp1.mine.sl (i := 2 * i + 2) (j := 2 * i + 1) (by omega) (by omega)) fun r K1 ⟨hr, hy⟩ => ?_
     subst hr
     have hp4 := hp1.mono hy
     have hx4 := hx.trans (hy.but _)
     have c4 := cellsAt_of_get hp4.ptr
     simp (maxSteps := 10000000) (disch := first | assumption | (simp only [tyfacts, Am.wd, Nat.reduceEqDiff, Nat.reduceLT, reduceCtorEq]; try omega; done) | omega) only [Am.wanted, Am.isAlloc, Am.wa, Am.reads, Am.quiet, Am.over, Nat.testBit, Nat.reduceShiftRight, Nat.reduceAnd, Nat.reduceBNe, Nat.reduceLeDiff, Nat.reduceAdd, Nat.reduceMul, Nat.reduceLT, Nat.reduceEqDiff, Nat.reduceSub, reduceCtorEq, ↓reduceIte, tyfacts, hn]
     refine wpB_dec (fun hs1 => ?_) (fun hs1 => ?_)
     · have hmin : ∀ k, 0 < k → k < n → (k - 1) / 2 = i → at_ ns1 (2 * i + 2) ≤ at_ ns1 k := by
        intro k hk0 hkn hkp
        rcases (by omega : k = 2 * i + 1 ∨ k = 2 * i + 2) with rfl | rfl <;> omega
       simp (maxSteps := 10000000) (disch := first | assumption | (simp only [tyfacts, Am.wd, Nat.reduceEqDiff, Nat.reduceLT, reduceCtorEq]; try omega; done) | omega) only [Am.wanted, Am.isAlloc, Am.wa, Am.reads, Am.quiet, Am.over, Nat.testBit, Nat.reduceShiftRight, Nat.reduceAnd, Nat.reduceBNe, Nat.reduceLeDiff, Nat.reduceAdd, Nat.reduceMul, Nat.reduceLT, Nat.reduceEqDiff, Nat.reduceSub, reduceCtorEq, ↓reduceIte, tyfacts, h0, h7, hn, hI, c4]
       refine wpX_call (hless hp4.wf hp4.mine.sl (i := 2 * i + 2) (j := i) (by omega) (by omega)) fun r K2 ⟨hr, hy2⟩ => ?_
       subst hr
       have hp5 := hp4.mono hy2
       have hx5 := hx4.trans (hy2.but _)
       simp (maxSteps := 10000000) (disch := first | assumption | (simp only [tyfacts, Am.wd, Nat.reduceEqDiff, Nat.reduceLT, reduceCtorEq]; try omega; done) | omega) only [Am.wanted, Am.isAlloc, Am.wa, Am.reads, Am.quiet, Am.over, Nat.testBit, Nat.reduceShiftRight, Nat.reduceAnd, Nat.reduceBNe, Nat.reduceLeDiff, Nat.reduceAdd, Nat.reduceMul, Nat.reduceLT, Nat.reduceEqDiff, Nat.reduceSub, reduceCtorEq, ↓reduceIte, tyfacts, hn]
       refine wpB_dec (fun hs => ?_) (fun hs => ?_)
       · simp (maxSteps := 10000000) (disch := first | assumption | (simp only [tyfacts, Am.wd, Nat.reduceEqDiff, Nat.reduceLT, reduceCtorEq]; try omega; done) | omega) only [Am.wanted, Am.isAlloc, Am.wa, Am.reads, Am.quiet, Am.over, Nat.testBit, Nat.reduceShiftRight, Nat.reduceAnd, Nat.reduceBNe, Nat.reduceLeDiff, Nat.reduceAdd, Nat.reduceMul, Nat.reduceLT, Nat.reduceEqDiff, Nat.reduceSub, reduceCtorEq, ↓reduceIte, tyfacts, h1, h7, hn, hd]
         exact ⟨ns1, hp5, hpm, hk, down_stop hu fun k hk0 hkn hkp => by have := hmin k hk0 hkn hkp; omega, hx5⟩
       · have c5 := cellsAt_of_get hp5.ptr
         simp (maxSteps := 10000000) (disch := first | assumption | (simp only [tyfacts, Am.wd, Nat.reduceEqDiff, Nat.reduceLT, reduceCtorEq]; try omega; done) | omega) only [Am.wanted, Am.isAlloc, Am.wa, Am.reads, Am.quiet, Am.over, Nat.testBit, Nat.reduceShiftRight, Nat.reduceAnd, Nat.reduceBNe, Nat.reduceLeDiff, Nat.reduceAdd, Nat.reduceMul, Nat.reduceLT, Nat.reduceEqDiff, Nat.reduceSub, reduceCtorEq, ↓reduceIte, tyfacts, h0, h7, hn, hI, c5]
         refine wpX_call (hswap hp5 (i := i) (j := 2 * i + 2) (by omega) (by omega)) fun r K3 ⟨hp6, hx6⟩ => ?_
         simp (maxSteps := 10000000) (disch := first | assumption | (simp only [tyfacts, Am.wd, Nat.reduceEqDiff, Nat.reduceLT, reduceCtorEq]; try omega; done) | omega) only [Am.wanted, Am.isAlloc, Am.wa, Am.reads, Am.quiet, Am.over, Nat.testBit, Nat.reduceShiftRight, Nat.reduceAnd, Nat.reduceBNe, Nat.reduceLeDiff, Nat.reduceAdd, Nat.reduceMul, Nat.reduceLT, Nat.reduceEqDiff, Nat.reduceSub, reduceCtorEq, ↓reduceIte, tyfacts, hn]
         refine ih (2 * i + 2) _ _ (by omega) ?_
         simp (maxSteps := 10000000) (disch := first | assumption | (simp only [tyfacts, Am.wd, Nat.reduceEqDiff, Nat.reduceLT, reduceCtorEq]; try omega; done) | omega) only [Am.wanted, Am.isAlloc, Am.wa, Am.reads, Am.quiet, Am.over, Nat.testBit, Nat.reduceShiftRight, Nat.reduceAnd, Nat.reduceBNe, Nat.reduceLeDiff, Nat.reduceAdd, Nat.reduceMul, Nat.reduceLT, Nat.reduceEqDiff, Nat.reduceSub, reduceCtorEq, ↓reduceIte, tyfacts, h0, h1, h2, hn, hd, hI]
         refine ⟨_, hp6, (swap_perm (by omega) (by omega)).trans hpm, fun k hk0 => ?_, down_step (by omega) (by omega) (by omega) (by omega) hu hmin (by omega), hx5.trans hx6, by omega⟩
         rw [swap_at (by omega) (by omega), if_neg (by omega), if_neg (by omega)]; exact hk k hk0
     · have hmin : ∀ k, 0 < k → k < n → (k - 1) / 2 = i → at_ ns1 (2 * i + 1) ≤ at_ ns1 k := by
        intro k hk0 hkn hkp
        rcases (by omega : k = 2 * i + 1 ∨ k = 2 * i + 2) with rfl | rfl <;> omega
       simp (maxSteps := 10000000) (disch := first | assumption | (simp only [tyfacts, Am.wd, Nat.reduceEqDiff, Nat.reduceLT, reduceCtorEq]; try omega; done) | omega) only [Am.wanted, Am.isAlloc, Am.wa, Am.reads, Am.quiet, Am.over, Nat.testBit, Nat.reduceShiftRight, Nat.reduceAnd, Nat.reduceBNe, Nat.reduceLeDiff, Nat.reduceAdd, Nat.reduceMul, Nat.reduceLT, Nat.reduceEqDiff, Nat.reduceSub, reduceCtorEq, ↓reduceIte, tyfacts, h0, h7, hn, hI, c4]
       refine wpX_call (hless hp4.wf hp4.mine.sl (i := 2 * i + 1) (j := i) (by omega) (by omega)) fun r K2 ⟨hr, hy2⟩ => ?_
       subst hr
       have hp5 := hp4.mono hy2
       have hx5 := hx4.trans (hy2.but _)
       simp (maxSteps := 10000000) (disch := first | assumption | (simp only [tyfacts, Am.wd, Nat.reduceEqDiff, Nat.reduceLT, reduceCtorEq]; try omega; done) | omega) only [Am.wanted, Am.isAlloc, Am.wa, Am.reads, Am.quiet, Am.over, Nat.testBit, Nat.reduceShiftRight, Nat.reduceAnd, Nat.reduceBNe, Nat.reduceLeDiff, Nat.reduceAdd, Nat.reduceMul, Nat.reduceLT, Nat.reduceEqDiff, Nat.reduceSub, reduceCtorEq, ↓reduceIte, tyfacts, hn]
       refine wpB_dec (fun hs => ?_) (fun hs => ?_)
       · simp (maxSteps := 10000000) (disch := first | assumption | (simp only [tyfacts, Am.wd, Nat.reduceEqDiff, Nat.reduceLT, reduceCtorEq]; try omega; done) | omega) only [Am.wanted, Am.isAlloc, Am.wa, Am.reads, Am.quiet, Am.over, Nat.testBit, Nat.reduceShiftRight, Nat.reduceAnd, Nat.reduceBNe, Nat.reduceLeDiff, Nat.reduceAdd, Nat.reduceMul, Nat.reduceLT, Nat.reduceEqDiff, Nat.reduceSub, reduceCtorEq, ↓reduceIte, tyfacts, h1, h7, hn, hd]
         exact ⟨ns1, hp5, hpm, hk, down_stop hu fun k hk0 hkn hkp => by have := hmin k hk0 hkn hkp; omega, hx5⟩
       · have c5 := cellsAt_of_get hp5.ptr
         simp (maxSteps := 10000000) (disch := first | assumption | (simp only [tyfacts, Am.wd, Nat.reduceEqDiff, Nat.reduceLT, reduceCtorEq]; try omega; done) | omega) only [Am.wanted, Am.isAlloc, Am.wa, Am.reads, Am.quiet, Am.over, Nat.testBit, Nat.reduceShiftRight, Nat.reduceAnd, Nat.reduceBNe, Nat.reduceLeDiff, Nat.reduceAdd, Nat.reduceMul, Nat.reduceLT, Nat.reduceEqDiff, Nat.reduceSub, reduceCtorEq, ↓reduceIte, tyfacts, h0, h7, hn, hI, c5]
         refine wpX_call (hswap hp5 (i := i) (j := 2 * i + 1) (by omega) (by omega)) fun r K3 ⟨hp6, hx6⟩ => ?_
         simp (maxSteps := 10000000) (disch := first | assumption | (simp only [tyfacts, Am.wd, Nat.reduceEqDiff, Nat.reduceLT, reduceCtorEq]; try omega; done) | omega) only [Am.wanted, Am.isAlloc, Am.wa, Am.reads, Am.quiet, Am.over, Nat.testBit, Nat.reduceShiftRight, Nat.reduceAnd, Nat.reduceBNe, Nat.reduceLeDiff, Nat.reduceAdd, Nat.reduceMul, Nat.reduceLT, Nat.reduceEqDiff, Nat.reduceSub, reduceCtorEq, ↓reduceIte, tyfacts, hn]
         refine ih (2 * i + 1) _ _ (by omega) ?_
         simp (maxSteps := 10000000) (disch := first | assumption | (simp only [tyfacts, Am.wd, Nat.reduceEqDiff, Nat.reduceLT, reduceCtorEq]; try omega; done) | omega) only [Am.wanted, Am.isAlloc, Am.wa, Am.reads, Am.quiet, Am.over, Nat.testBit, Nat.reduceShiftRight, Nat.reduceAnd, Nat.reduceBNe, Nat.reduceLeDiff, Nat.reduceAdd, Nat.reduceMul, Nat.reduceLT, Nat.reduceEqDiff, Nat.reduceSub, reduceCtorEq, ↓reduceIte, tyfacts, h0, h1, h2, hn, hd, hI]
         refine ⟨_, hp6, (swap_perm (by omega) (by omega)).trans hpm, fun k hk0 => ?_, down_step (by omega) (by omega) (by omega) (by omega) hu hmin (by omega), hx5.trans hx6, by omega⟩
         rw [swap_at (by omega) (by omega), if_neg (by omega), if_neg (by omega)]; exact hk k hk0
   · have e3' : ¬ ((2 * i + 2 : Nat) : Int) < (n : Int) := by omega
     have hmin : ∀ k, 0 < k → k < n → (k - 1) / 2 = i → at_ ns1 (2 * i + 1) ≤ at_ ns1 k := by
      intro k hk0 hkn hkp
      have : k = 2 * i + 1 := by omega
      subst this; omega
     simp (maxSteps := 10000000) (disch := first | assumption | (simp only [tyfacts, Am.wd, Nat.reduceEqDiff, Nat.reduceLT, reduceCtorEq]; try omega; done) | omega) only [Am.wanted, Am.isAlloc, Am.wa, Am.reads, Am.quiet, Am.over, Nat.testBit, Nat.reduceShiftRight, Nat.reduceAnd, Nat.reduceBNe, Nat.reduceLeDiff, Nat.reduceAdd, Nat.reduceMul, Nat.reduceLT, Nat.reduceEqDiff, Nat.reduceSub, reduceCtorEq, ↓reduceIte, tyfacts, h0, h1, h2, h7, hn, hd, e', e2, q3, e3', hI, c1]
     refine wpX_call (hless hp1.wf hp1.mine.sl (i := 2 * i + 1) (j := i) (by omega) (by omega)) fun r K2 ⟨hr, hy2⟩ => ?_
     subst hr
     have hp5 := hp1.mono hy2
     have hx5 := hx.trans (hy2.but _)
     simp (maxSteps := 10000000) (disch := first | assumption | (simp only [tyfacts, Am.wd, Nat.reduceEqDiff, Nat.reduceLT, reduceCtorEq]; try omega; done) | omega) only [Am.wanted, Am.isAlloc, Am.wa, Am.reads, Am.quiet, Am.over, Nat.testBit, Nat.reduceShiftRight, Nat.reduceAnd, Nat.reduceBNe, Nat.reduceLeDiff, Nat.reduceAdd, Nat.reduceMul, Nat.reduceLT, Nat.reduceEqDiff, Nat.reduceSub, reduceCtorEq, ↓reduceIte, tyfacts, hn]
     refine wpB_dec (fun hs => ?_) (fun hs => ?_)
     · simp (maxSteps := 10000000) (disch := first | assumption | (simp only [tyfacts, Am.wd, Nat.reduceEqDiff, Nat.reduceLT, reduceCtorEq]; try omega; done) | omega) only [Am.wanted, Am.isAlloc, Am.wa, Am.reads, Am.quiet, Am.over, Nat.testBit, Nat.reduceShiftRight, Nat.reduceAnd, Nat.reduceBNe, Nat.reduceLeDiff, Nat.reduceAdd, Nat.reduceMul, Nat.reduceLT, Nat.reduceEqDiff, Nat.reduceSub, reduceCtorEq, ↓reduceIte, tyfacts, h1, h7, hn, hd]
       exact ⟨ns1, hp5, hpm, hk, down_stop hu fun k hk0 hkn hkp => by have := hmin k hk0 hkn hkp; omega, hx5⟩
     · have c5 := cellsAt_of_get hp5.ptr
       simp (maxSteps := 10000000) (disch := first | assumption | (simp only [tyfacts, Am.wd, Nat.reduceEqDiff, Nat.reduceLT, reduceCtorEq]; try omega; done) | omega) only [Am.wanted, Am.isAlloc, Am.wa, Am.reads, Am.quiet, Am.over, Nat.testBit, Nat.reduceShiftRight, Nat.reduceAnd, Nat.reduceBNe, Nat.reduceLeDiff, Nat.reduceAdd, Nat.reduceMul, Nat.reduceLT, Nat.reduceEqDiff, Nat.reduceSub, reduceCtorEq, ↓reduceIte, tyfacts, h0, h7, hn, hI, c5]
       refine wpX_call (hswap hp5 (i := i) (j := 2 * i + 1) (by omega) (by omega)) fun r K3 ⟨hp6, hx6⟩ => ?_
       simp (maxSteps := 10000000) (disch := first | assumption | (simp only [tyfacts, Am.wd, Nat.reduceEqDiff, Nat.reduceLT, reduceCtorEq]; try omega; done) | omega) only [Am.wanted, Am.isAlloc, Am.wa, Am.reads, Am.quiet, Am.over, Nat.testBit, Nat.reduceShiftRight, Nat.reduceAnd, Nat.reduceBNe, Nat.reduceLeDiff, Nat.reduceAdd, Nat.reduceMul, Nat.reduceLT, Nat.reduceEqDiff, Nat.reduceSub, reduceCtorEq, ↓reduceIte, tyfacts, hn]
       refine ih (2 * i + 1) _ _ (by omega) ?_
       simp (maxSteps := 10000000) (disch := first | assumption | (simp only [tyfacts, Am.wd, Nat.reduceEqDiff, Nat.reduceLT, reduceCtorEq]; try omega; done) | omega) only [Am.wanted, Am.isAlloc, Am.wa, Am.reads, Am.quiet, Am.over, Nat.testBit, Nat.reduceShiftRight, Nat.reduceAnd, Nat.reduceBNe, Nat.reduceLeDiff, Nat.reduceAdd, Nat.reduceMul, Nat.reduceLT, Nat.reduceEqDiff, Nat.reduceSub, reduceCtorEq, ↓reduceIte, tyfacts, h0, h1, h2, hn, hd, hI]
       refine ⟨_, hp6, (swap_perm (by omega) (by omega)).trans hpm, fun k hk0 => ?_, down_step (by omega) (by omega) (by omega) (by omega) hu hmin (by omega), hx5.trans hx6, by omega⟩
       rw [swap_at (by omega) (by omega), if_neg (by omega), if_neg (by omega)]; exact hk k hk0
theorem heapPush {H : Heap} {b p : Nat} {v : V} {ns : List Int} (h : HP H b p v ns) (hh : IsHeap ns ns.length) (x : Int) (hl : ns.length < 100000) :
  CallsTo T 34 [hI p, .iface 3 (.int .i64 x)] H fun r H' => ∃ v' ns', HP H' b p v' ns' ∧ ns'.Perm (x :: ns) ∧ IsHeap ns' ns'.length ∧ ExtB (fun l => l = p ∨ Of v l) H H' ∧ ∀ l, Of v' l → Of v l ∨ H.n ≤ l := by
 refine Am.calls_enter (T := T) rfl Try.func34 rfl (by simp only [Try.f34, List.length_cons, List.length_nil]; decide) ?_
 simp only [Try.f34]
 simp (maxSteps := 10000000) (disch := first | assumption | (simp only [tyfacts, Am.wd, Nat.reduceEqDiff, Nat.reduceLT, reduceCtorEq]; try omega; done) | omega) only [Am.wanted, Am.isAlloc, Am.wa, Am.reads, Am.quiet, Am.over, Nat.testBit, Nat.reduceShiftRight, Nat.reduceAnd, Nat.reduceBNe, Nat.reduceLeDiff, Nat.reduceAdd, Nat.reduceMul, Nat.reduceLT, Nat.reduceEqDiff, Nat.reduceSub, reduceCtorEq, ↓reduceIte, tyfacts, hI]
 refine wpX_call (hpush h x (by omega)) fun r H1 ⟨v', hp1, hx1, hf1⟩ => ?_
 have c1 := cellsAt_of_get hp1.ptr
 simp (maxSteps := 10000000) (disch := first | assumption | (simp only [tyfacts, Am.wd, Nat.reduceEqDiff, Nat.reduceLT, reduceCtorEq]; try omega; done) | omega) only [Am.wanted, Am.isAlloc, Am.wa, Am.reads, Am.quiet, Am.over, Nat.testBit, Nat.reduceShiftRight, Nat.reduceAnd, Nat.reduceBNe, Nat.reduceLeDiff, Nat.reduceAdd, Nat.reduceMul, Nat.reduceLT, Nat.reduceEqDiff, Nat.reduceSub, reduceCtorEq, ↓reduceIte, tyfacts, c1]
 refine wpX_call (hlen_ok hp1.wf hp1.mine.sl) fun r H2 ⟨hr, hH2⟩ => ?_
 subst hr
 subst hH2
 have q1 : ((ns ++ [x]).length : Int) - 1 = (ns.length : Int) := by simp
 simp (maxSteps := 10000000) (disch := first | assumption | (simp only [tyfacts, Am.wd, Nat.reduceEqDiff, Nat.reduceLT, reduceCtorEq]; try omega; done) | omega) only [Am.wanted, Am.isAlloc, Am.wa, Am.reads, Am.quiet, Am.over, Nat.testBit, Nat.reduceShiftRight, Nat.reduceAnd, Nat.reduceBNe, Nat.reduceLeDiff, Nat.reduceAdd, Nat.reduceMul, Nat.reduceLT, Nat.reduceEqDiff, Nat.reduceSub, reduceCtorEq, ↓reduceIte, tyfacts, q1]
 have hl1 : (ns ++ [x]).length = ns.length + 1 := by simp
 have q2 : ((ns.length + 1 : Nat) : Int) - 1 = (ns.length : Int) := by omega
 simp (maxSteps := 10000000) (disch := first | assumption | (simp only [tyfacts, Am.wd, Nat.reduceEqDiff, Nat.reduceLT, reduceCtorEq]; try omega; done) | omega) only [Am.wanted, Am.isAlloc, Am.wa, Am.reads, Am.quiet, Am.over, Nat.testBit, Nat.reduceShiftRight, Nat.reduceAnd, Nat.reduceBNe, Nat.reduceLeDiff, Nat.reduceAdd, Nat.reduceMul, Nat.reduceLT, Nat.reduceEqDiff, Nat.reduceSub, reduceCtorEq, ↓reduceIte, tyfacts, q2]
 refine wpX_call (up_ok hp1 (j := ns.length) (by omega) (by rw [hl1]; exact push_inv hh) (by omega)) fun r H3 ⟨ns', hp3, hpm, hh3, hx3⟩ => ?_
 simp (maxSteps := 10000000) (disch := first | assumption | (simp only [tyfacts, Am.wd, Nat.reduceEqDiff, Nat.reduceLT, reduceCtorEq]; try omega; done) | omega) only [Am.wanted, Am.isAlloc, Am.wa, Am.reads, Am.quiet, Am.over, Nat.testBit, Nat.reduceShiftRight, Nat.reduceAnd, Nat.reduceBNe, Nat.reduceLeDiff, Nat.reduceAdd, Nat.reduceMul, Nat.reduceLT, Nat.reduceEqDiff, Nat.reduceSub, reduceCtorEq, ↓reduceIte, tyfacts]
 exact ⟨v', ns', hp3, hpm.trans (List.perm_append_singleton _ _), hh3, hx1.trans' hx3 fun l hl => (hf1 l hl).imp .inr id, hf1⟩
theorem heapPop {H : Heap} {b p : Nat} {v : V} {ns : List Int} (h : HP H b p v ns) (hh : IsHeap ns ns.length) (h0 : ns ≠ []) (hl : ns.length < 100000) :
  CallsTo T 36 [hI p] H fun r H' => ∃ m v' ns', r = .iface 3 (.int .i64 m) ∧ HP H' b p v' ns' ∧ ns.Perm (m :: ns') ∧ IsHeap ns' ns'.length ∧ (∀ y, y ∈ ns → m ≤ y) ∧ ExtB (fun l => l = p ∨ Of v l) H H' ∧ ∀ l, Of v' l → Of v l ∨ H.n ≤ l := by
 refine Am.calls_enter (T := T) rfl Try.func36 rfl (by simp only [Try.f36, List.length_cons, List.length_nil]; decide) ?_
 simp only [Try.f36]
 obtain ⟨n, hn⟩ : ∃ n, ns.length = n + 1 := ⟨ns.length - 1, by have := List.length_pos_iff.2 h0; omega⟩
 have c0 := cellsAt_of_get h.ptr
 simp (maxSteps := 10000000) (disch := first | assumption | (simp only [tyfacts, Am.wd, Nat.reduceEqDiff, Nat.reduceLT, reduceCtorEq]; try omega; done) | omega) only [Am.wanted, Am.isAlloc, Am.wa, Am.reads, Am.quiet, Am.over, Nat.testBit, Nat.reduceShiftRight, Nat.reduceAnd, Nat.reduceBNe, Nat.reduceLeDiff, Nat.reduceAdd, Nat.reduceMul, Nat.reduceLT, Nat.reduceEqDiff, Nat.reduceSub, reduceCtorEq, ↓reduceIte, tyfacts, hI, c0]
 refine wpX_call (hlen_ok h.wf h.mine.sl) fun r H1 ⟨hr, hH1⟩ => ?_
 subst hr
 subst hH1
 have q1 : (ns.length : Int) - 1 = (n : Int) := by omega
 simp (maxSteps := 10000000) (disch := first | assumption | (simp only [tyfacts, Am.wd, Nat.reduceEqDiff, Nat.reduceLT, reduceCtorEq]; try omega; done) | omega) only [Am.wanted, Am.isAlloc, Am.wa, Am.reads, Am.quiet, Am.over, Nat.testBit, Nat.reduceShiftRight, Nat.reduceAnd, Nat.reduceBNe, Nat.reduceLeDiff, Nat.reduceAdd, Nat.reduceMul, Nat.reduceLT, Nat.reduceEqDiff, Nat.reduceSub, reduceCtorEq, ↓reduceIte, tyfacts, q1, c0]
 refine wpX_call (hswap h (i := 0) (j := n) (by omega) (by omega)) fun r H2 ⟨hp2, hx2⟩ => ?_
 simp (maxSteps := 10000000) (disch := first | assumption | (simp only [tyfacts, Am.wd, Nat.reduceEqDiff, Nat.reduceLT, reduceCtorEq]; try omega; done) | omega) only [Am.wanted, Am.isAlloc, Am.wa, Am.reads, Am.quiet, Am.over, Nat.testBit, Nat.reduceShiftRight, Nat.reduceAnd, Nat.reduceBNe, Nat.reduceLeDiff, Nat.reduceAdd, Nat.reduceMul, Nat.reduceLT, Nat.reduceEqDiff, Nat.reduceSub, reduceCtorEq, ↓reduceIte, tyfacts]
 have hl2 : (swap ns 0 n).length = n + 1 := by rw [swap_len, hn]
 refine wpX_call (down_ok hp2 (n := n) (by omega) (pop_inv hn (by rw [← hn]; exact hh)) (by omega)) fun r H3 ⟨ns3, hp3, hpm3, hk3, hh3, hx3⟩ => ?_
 simp (maxSteps := 10000000) (disch := first | assumption | (simp only [tyfacts, Am.wd, Nat.reduceEqDiff, Nat.reduceLT, reduceCtorEq]; try omega; done) | omega) only [Am.wanted, Am.isAlloc, Am.wa, Am.reads, Am.quiet, Am.over, Nat.testBit, Nat.reduceShiftRight, Nat.reduceAnd, Nat.reduceBNe, Nat.reduceLeDiff, Nat.reduceAdd, Nat.reduceMul, Nat.reduceLT, Nat.reduceEqDiff, Nat.reduceSub, reduceCtorEq, ↓reduceIte, tyfacts]
 have hl3 : ns3.length = n + 1 := by rw [hpm3.length_eq, hl2]
 refine wpX_call (hpop hp3 hl3) fun r H4 ⟨v', hr, hp4, hx4, hf4⟩ => ?_
 subst hr
 simp (maxSteps := 10000000) (disch := first | assumption | (simp only [tyfacts, Am.wd, Nat.reduceEqDiff, Nat.reduceLT, reduceCtorEq]; try omega; done) | omega) only [Am.wanted, Am.isAlloc, Am.wa, Am.reads, Am.quiet, Am.over, Nat.testBit, Nat.reduceShiftRight, Nat.reduceAnd, Nat.reduceBNe, Nat.reduceLeDiff, Nat.reduceAdd, Nat.reduceMul, Nat.reduceLT, Nat.reduceEqDiff, Nat.reduceSub, reduceCtorEq, ↓reduceIte, tyfacts]
 have e1 : at_ ns3 n = at_ ns 0 := by rw [hk3 n (Nat.le_refl _), swap_at (by omega) (by omega), if_pos rfl]
 refine ⟨at_ ns3 n, v', ns3.take n, rfl, hp4, ?_, ?_, ?_, ?_, ?_⟩
 · have h5 : ns3 = ns3.take n ++ [at_ ns3 n] := by
    rw [at_get (show n < ns3.length by omega)]
    conv => lhs; rw [← List.take_length (l := ns3), hl3, List.take_add_one, List.getElem?_eq_getElem (show n < ns3.length by omega)]
    rfl
   refine ((swap_perm (by omega) (by omega)).symm.trans hpm3.symm).trans ?_
   conv => lhs; rw [h5]
   exact List.perm_append_singleton _ _
 · have : (ns3.take n).length = n := by rw [List.length_take]; omega
   rw [this]
   exact take_heap (by omega) hh3
 · intro y hy
   obtain ⟨k, hk, rfl⟩ := List.mem_iff_getElem.1 hy
   rw [e1, ← at_get hk]
   exact heap_min hh k k (Nat.le_refl _) hk
 · exact ((hx2.weaken fun l h => .inr h).trans' hx3 fun l hl => .inl (.inr hl)).trans' hx4 fun l hl => .inl hl
 · exact fun l hl => (hf4 l hl).imp id fun h => Nat.le_trans hx2.n (Nat.le_trans hx3.n h)
end Go.Proofs.Ytbhgjikjdblgeaa.W
