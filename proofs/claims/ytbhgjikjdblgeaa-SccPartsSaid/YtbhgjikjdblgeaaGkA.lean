import Derived.Test.YtbhgjikjdblgeaaProg
import Derived.Test.YtbhgjikjdblgeaaWpC
import Derived.Test.YtbhgjikjdblgeaaAmF
import Derived.Test.YtbhgjikjdblgeaaAmLay
import Derived.KernelRfl
import Derived.Test.YtbhgjikjdblgeaaOrd
import Derived.Test.YtbhgjikjdblgeaaScs
/- The tables of the program, as closed facts; what is not walked: sorting. No conditions. -/
namespace Go.Proofs.Ytbhgjikjdblgeaa.W
open Go.Am
noncomputable def prim : FuncId → Option (List V → Heap → Option (V × Heap)) := fun f => cond (Nat.beq f 43) (some Am.sortP) (cond (Nat.beq f 44) (some Am.compactP) (cond (Nat.beq f 9) (some Am.closedTrue) (cond (Nat.beq f 4) (some Am.closedTrue) none)))
noncomputable def T : Tab := tabOf Try.prog prim
theorem tyfacts : (Am.isIface T 3 = some false) ∧ (Am.sizeN T 3 = some 1) ∧ (Am.isAgg? T 3 = some false) ∧ (T.zero 3 = some [.int .i64 0]) ∧ (Am.isIface T 4 = some false) ∧ (Am.isBool T 4 = true) ∧ (Am.sizeN T 4 = some 1) ∧ (Am.isAgg? T 4 = some false) ∧ (T.zero 4 = some [.bool false]) ∧ (Am.isIface T 20 = some true) ∧ (Am.sizeN T 20 = some 1) ∧ (Am.isAgg? T 20 = some false) ∧ (T.zero 20 = some [.nilIface]) ∧ (Am.isIface T 22 = some false) ∧ (Am.isSlice T 22 = true) ∧ (Am.mkOk T 22 = true) ∧ (Am.esz T 22 = 2) ∧ (Am.ebytes T 22 = 16) ∧ (Am.ezero T 22 = [.int .i64 0, .int .i64 0]) ∧ (Am.elemSize T 22 = some 2) ∧ (Am.appOk T 22 22 = some (2, 16)) ∧ (Am.sizeN T 22 = some 1) ∧ (Am.isAgg? T 22 = some false) ∧ (T.zero 22 = some [.nilSlice]) ∧ (Am.isIface T 25 = some false) ∧ (Am.isSlice T 25 = true) ∧ (Am.mkOk T 25 = true) ∧ (Am.esz T 25 = 1) ∧ (Am.ebytes T 25 = 8) ∧ (Am.ezero T 25 = [.int .i64 0]) ∧ (Am.elemSize T 25 = some 1) ∧ (Am.appOk T 25 25 = some (1, 8)) ∧ (Am.sizeN T 25 = some 1) ∧ (Am.isAgg? T 25 = some false) ∧ (T.zero 25 = some [.nilSlice]) ∧ (Am.isIface T 26 = some false) ∧ (Am.sizeN T 26 = some 1) ∧ (Am.isAgg? T 26 = some false) ∧ (T.zero 26 = some [.int .i64 0]) ∧ (Am.isIface T 39 = some false) ∧ (Am.isSlice T 39 = true) ∧ (Am.mkOk T 39 = true) ∧ (Am.esz T 39 = 1) ∧ (Am.ebytes T 39 = 1) ∧ (Am.ezero T 39 = [.bool false]) ∧ (Am.elemSize T 39 = some 1) ∧ (Am.appOk T 39 39 = some (1, 1)) ∧ (Am.sizeN T 39 = some 1) ∧ (Am.isAgg? T 39 = some false) ∧ (T.zero 39 = some [.nilSlice]) ∧ (Am.isIface T 41 = some false) ∧ (Am.isStruct T 41 = true) ∧ (Am.fldSz T 41 0 = some (0, 1)) ∧ (Am.fldSz T 41 1 = some (1, 1)) ∧ (Am.fldAt T 41 0 = some 0) ∧ (Am.fldAt T 41 1 = some 1) ∧ (Am.sizeN T 41 = some 2) ∧ (Am.isAgg? T 41 = some true) ∧ (T.zero 41 = some [.int .i64 0, .int .i64 0]) ∧ (Am.isIface T 44 = some false) ∧ (Am.isSlice T 44 = true) ∧ (Am.mkOk T 44 = true) ∧ (Am.esz T 44 = 1) ∧ (Am.ebytes T 44 = 24) ∧ (Am.ezero T 44 = [.nilSlice]) ∧ (Am.elemSize T 44 = some 1) ∧ (Am.appOk T 44 44 = some (1, 24)) ∧ (Am.sizeN T 44 = some 1) ∧ (Am.isAgg? T 44 = some false) ∧ (T.zero 44 = some [.nilSlice]) ∧ (Am.isIface T 45 = some false) ∧ (Am.isSlice T 45 = true) ∧ (Am.mkOk T 45 = true) ∧ (Am.esz T 45 = 1) ∧ (Am.ebytes T 45 = 24) ∧ (Am.ezero T 45 = [.nilSlice]) ∧ (Am.elemSize T 45 = some 1) ∧ (Am.appOk T 45 45 = some (1, 24)) ∧ (Am.sizeN T 45 = some 1) ∧ (Am.isAgg? T 45 = some false) ∧ (T.zero 45 = some [.nilSlice]) ∧ (Am.isIface T 46 = some false) ∧ (Am.isSlice T 46 = true) ∧ (Am.mkOk T 46 = true) ∧ (Am.esz T 46 = 1) ∧ (Am.ebytes T 46 = 24) ∧ (Am.ezero T 46 = [.nilSlice]) ∧ (Am.elemSize T 46 = some 1) ∧ (Am.appOk T 46 46 = some (1, 24)) ∧ (Am.sizeN T 46 = some 1) ∧ (Am.isAgg? T 46 = some false) ∧ (T.zero 46 = some [.nilSlice]) ∧ (Am.isIface T 48 = some false) ∧ (Am.sizeN T 48 = some 1) ∧ (Am.isAgg? T 48 = some false) ∧ (T.zero 48 = some [.nilFunc]) ∧ (Am.isIface T 51 = some false) ∧ (Am.sizeN T 51 = some 1) ∧ (Am.isAgg? T 51 = some false) ∧ (T.zero 51 = some [.nilPtr]) ∧ (Am.isIface T 52 = some false) ∧ (Am.sizeN T 52 = some 1) ∧ (Am.isAgg? T 52 = some false) ∧ (T.zero 52 = some [.nilFunc]) ∧ (Am.isIface T 54 = some false) ∧ (Am.isStruct T 54 = true) ∧ (Am.fldSz T 54 0 = some (0, 1)) ∧ (Am.fldAt T 54 0 = some 0) ∧ (Am.sizeN T 54 = some 1) ∧ (Am.isAgg? T 54 = some true) ∧ (T.zero 54 = some [.nilFunc]) ∧ (Am.isIface T 55 = some false) ∧ (Am.sizeN T 55 = some 1) ∧ (Am.isAgg? T 55 = some false) ∧ (T.zero 55 = some [.nilPtr]) ∧ (Am.isIface T 56 = some false) ∧ (Am.isSlice T 56 = true) ∧ (Am.mkOk T 56 = true) ∧ (Am.esz T 56 = 1) ∧ (Am.ebytes T 56 = 8) ∧ (Am.ezero T 56 = [.int .i64 0]) ∧ (Am.elemSize T 56 = some 1) ∧ (Am.appOk T 56 56 = some (1, 8)) ∧ (Am.sizeN T 56 = some 1) ∧ (Am.isAgg? T 56 = some false) ∧ (T.zero 56 = some [.nilSlice]) ∧ (Am.isIface T 62 = some false) ∧ (Am.sizeN T 62 = some 1) ∧ (Am.isAgg? T 62 = some false) ∧ (T.zero 62 = some [.nilFunc]) ∧ (Am.isIface T 65 = some false) ∧ (Am.sizeN T 65 = some 1) ∧ (Am.isAgg? T 65 = some false) ∧ (T.zero 65 = some [.nilFunc]) ∧ (Am.isIface T 68 = some true) ∧ (Am.sizeN T 68 = some 1) ∧ (Am.isAgg? T 68 = some false) ∧ (T.zero 68 = some [.nilIface]) ∧ (Am.isIface T 77 = some false) ∧ (Am.sizeN T 77 = some 1) ∧ (Am.isAgg? T 77 = some false) ∧ (T.zero 77 = some [.int .u64 0]) ∧ (Am.methP T 55 "Len" = some (35, some 56)) ∧ (Am.methP T 55 "Less" = some (85, some 56)) ∧ (Am.methP T 55 "Swap" = some (88, some 56)) ∧ (Am.methP T 55 "Push" = some (87, none)) ∧ (Am.methP T 55 "Pop" = some (86, none)) := by
 refine ⟨?_, ?_, ?_, ?_, ?_, ?_, ?_, ?_, ?_, ?_, ?_, ?_, ?_, ?_, ?_, ?_, ?_, ?_, ?_, ?_, ?_, ?_, ?_, ?_, ?_, ?_, ?_, ?_, ?_, ?_, ?_, ?_, ?_, ?_, ?_, ?_, ?_, ?_, ?_, ?_, ?_, ?_, ?_, ?_, ?_, ?_, ?_, ?_, ?_, ?_, ?_, ?_, ?_, ?_, ?_, ?_, ?_, ?_, ?_, ?_, ?_, ?_, ?_, ?_, ?_, ?_, ?_, ?_, ?_, ?_, ?_, ?_, ?_, ?_, ?_, ?_, ?_, ?_, ?_, ?_, ?_, ?_, ?_, ?_, ?_, ?_, ?_, ?_, ?_, ?_, ?_, ?_, ?_, ?_, ?_, ?_, ?_, ?_, ?_, ?_, ?_, ?_, ?_, ?_, ?_, ?_, ?_, ?_, ?_, ?_, ?_, ?_, ?_, ?_, ?_, ?_, ?_, ?_, ?_, ?_, ?_, ?_, ?_, ?_, ?_, ?_, ?_, ?_, ?_, ?_, ?_, ?_, ?_, ?_, ?_, ?_, ?_, ?_, ?_, ?_, ?_, ?_, ?_, ?_, ?_, ?_, ?_⟩ <;> kernel_rfl
end Go.Proofs.Ytbhgjikjdblgeaa.W

set_option linter.unusedSimpArgs false
set_option linter.unusedVariables false
set_option maxRecDepth 8000
/- What the functions of graphs share. No conditions. -/
namespace Go.Proofs.Ytbhgjikjdblgeaa.W
open Go.Am Go.Am.Ord Go.Am.Scc
def cI (n : Int) : List V := [.int .i64 n]
def idxI : Option Nat → Int
 | some i => i
 | none => -1
theorem idxI_ge (o : Option Nat) : (0 ≤ idxI o) = (o.isSome = true) := by cases o <;> simp [idxI]
theorem cI_one (xs : List Int) : ∀ f, f ∈ xs.map cI → f.all V.one = true := by
 intro f hf; obtain ⟨x, _, rfl⟩ := List.mem_map.1 hf; rfl
theorem ints_map (zs : List Int) : ints? (zs.map fun z => V.int .i64 z) = some zs := by
 induction zs with
 | nil => rfl
 | cons z zs ih => simp [ints?, ih]
theorem cI_flatten (zs : List Int) : (zs.map cI).flatten = zs.map fun z => V.int .i64 z := by
 induction zs with
 | nil => rfl
 | cons z zs ih => simp [cI, ih]
def sorted (zs : List Int) : List Int := zs.mergeSort fun x y => decide (x ≤ y)
theorem over_front : ∀ (us bs rest : List V), us.length = bs.length → over (bs ++ rest) 0 us = us ++ rest
 | [], [], rest, _ => by cases rest <;> rfl
 | u :: us, b :: bs, rest, h => by simp only [List.cons_append, over]; rw [over_front us bs rest (by simpa using h)]
 | [], _ :: _, _, h => by simp at h
 | _ :: _, [], _, h => by simp at h
theorem dd_length : ∀ zs : List Int, (dd zs).length ≤ zs.length
 | [] => Nat.le_refl _
 | [x] => Nat.le_refl _
 | x :: y :: l => by
   have := dd_length (y :: l)
   simp only [dd]
   split
   · simp only [List.length_cons] at this ⊢; omega
   · simp only [List.length_cons] at this ⊢; omega
theorem sort_int {H : Heap} (wf : H.WF) {n : Nat} {v : V} {xs : List Int} (hv : Mine n H v 1 (xs.map cI)) (hsm : xs.length < 1000000000) :
  CallsTo T 43 [v] H fun r H' => Mine n H' v 1 ((sorted xs).map cI) ∧ ExtB (Of v) H H' := by
 have hp : T.prim 43 = some sortP := rfl
 have hrun : ∀ r H', sortP [v] H = some (r, H') → run T 0 43 [v] H = .returned r H' := by
  intro r H' h; simp [run, calls, hp, h]
 rcases id hv.2 with ⟨rfl, h⟩ | ⟨l, q, rest, rfl, h2, h3, h4⟩
 · have : xs = [] := by simpa using h
   subst this
   exact ⟨0, _, _, hrun _ _ rfl, by simpa [sorted] using Mine.nil n H 1, ExtB.refl _ wf⟩
 · have hlt := Heap.lt h3
   have hlen : (sorted xs).length = xs.length := List.length_mergeSort _
   refine ⟨0, .tuple [], H.put l (.cells false (((sorted xs).map cI).flatten ++ rest)), hrun _ _ ?_, ?_, (ExtB.refl (Of (.slice l 0 (xs.map cI).length 1 q)) wf).put (.inl rfl) hlt _⟩
   · have e1 : take? ((xs.map cI).flatten ++ rest) 0 ((xs.map cI).length * 1) = some (xs.map cI).flatten := take?_app _ _ (flatten_len hv.1)
     have e2 : over ((xs.map cI).flatten ++ rest) 0 (((sorted xs).map cI).flatten) = ((sorted xs).map cI).flatten ++ rest := by
      refine over_front _ _ _ ?_
      rw [cI_flatten, cI_flatten, List.length_map, List.length_map, hlen]
     rw [cI_flatten] at e1 e2 h3
     rw [cI_flatten] at e2 ⊢
     have hble : Nat.ble (xs.map cI).length 1000000000 = true := by rw [Nat.ble_eq]; simp; omega
     simp only [sortP, h3, e1, ints_map, Nat.beq_refl, hble, Bool.and_self, cond_true]
     rw [show (xs.mergeSort fun x y => decide (x ≤ y)) = sorted xs from rfl, e2]
   · refine ⟨fun e he => by obtain ⟨z, _, rfl⟩ := List.mem_map.1 he; rfl, .inr ⟨l, q, rest, by simp [hlen], h2, get_put_same hlt _, ?_⟩⟩
     intro m hm
     have := h4 m hm
     simpa [hlen] using this
theorem compact_int {H : Heap} (wf : H.WF) {n : Nat} {v : V} {xs : List Int} (hv : Mine n H v 1 (xs.map cI)) (hsm : xs.length < 1000000000) :
  CallsTo T 44 [v] H fun r H' => Mine n H' r 1 ((dd xs).map cI) ∧ ExtB (Of v) H H' ∧ ∀ l, Of r l → Of v l := by
 have hp : T.prim 44 = some compactP := rfl
 have hrun : ∀ r H', compactP [v] H = some (r, H') → run T 0 44 [v] H = .returned r H' := by
  intro r H' h; simp [run, calls, hp, h]
 rcases id hv.2 with ⟨rfl, h⟩ | ⟨l, q, rest, rfl, h2, h3, h4⟩
 · have : xs = [] := by simpa using h
   subst this
   exact ⟨0, _, _, hrun _ _ rfl, by simpa [dd] using Mine.nil n H 1, ExtB.refl _ wf, fun _ h => h⟩
 · have hlt := Heap.lt h3
   by_cases h0 : xs.length = 0
   · have : xs = [] := List.length_eq_zero_iff.1 h0
     subst this
     exact ⟨0, _, _, hrun _ _ rfl, by simpa [dd] using hv, ExtB.refl _ wf, fun _ h => h⟩
   · have hle := dd_length xs
     refine ⟨0, .slice l 0 (dd xs).length 1 q, H.put l (.cells false (((dd xs).map cI).flatten ++ (((List.replicate (xs.length - (dd xs).length) (0 : Int)).map fun z => V.int .i64 z) ++ rest))), hrun _ _ ?_, ?_,
      (ExtB.refl (Of (.slice l 0 (xs.map cI).length 1 q)) wf).put (.inl rfl) hlt _, fun _ h => h⟩
     · have e1 : take? ((xs.map cI).flatten ++ rest) 0 ((xs.map cI).length * 1) = some (xs.map cI).flatten := take?_app _ _ (flatten_len hv.1)
       have e2 : over ((xs.map cI).flatten ++ rest) 0 ((dd xs ++ List.replicate (xs.length - (dd xs).length) 0).map fun z => V.int .i64 z) = ((dd xs ++ List.replicate (xs.length - (dd xs).length) 0).map fun z => V.int .i64 z) ++ rest := by
        refine over_front _ _ _ ?_
        rw [cI_flatten, List.length_map, List.length_map, List.length_append, List.length_replicate]; omega
       have hb : Nat.beq (xs.map cI).length 0 = false := by rw [← Bool.not_eq_true, Nat.beq_eq, List.length_map]; exact h0
       rw [cI_flatten] at e1 e2 h3
       rw [cI_flatten]
       have hble : Nat.ble (xs.map cI).length 1000000000 = true := by rw [Nat.ble_eq]; simp; omega
       simp only [compactP, hb, cond_false, h3, e1, ints_map, Nat.beq_refl, hble, Bool.and_self, cond_true]
       rw [List.length_map, e2, List.map_append, List.append_assoc]
     · refine ⟨fun e he => by obtain ⟨z, _, rfl⟩ := List.mem_map.1 he; rfl, .inr ⟨l, q, _, by simp, h2, get_put_same hlt _, ?_⟩⟩
       intro m hm
       have := h4 m hm
       simp only [List.length_map, List.length_append, List.length_replicate] at this ⊢
       omega
def cE (p : Int × Int) : List V := [.int .i64 p.1, .int .i64 p.2]
theorem indexFunc_ed {H : Heap} (wf : H.WF) {v f : V} {xs : List (Int × Int)} (hl : Sl H v 2 (xs.map (cE))) (p : (Int × Int) → Bool) (hlen : xs.length < 1000000000)
  (hp : ∀ x, x ∈ xs → ∀ H', Ext H H' → CallV T f [(fun x : Int × Int => V.agg (cE x)) x] H' fun r H'' => r = .bool (p x) ∧ Ext H' H'') :
  CallsTo T 47 [v, f] H fun r H' => r = .int .i64 (idxI (xs.findIdx? p)) ∧ Ext H H' := by
 refine Am.calls_enter (T := T) rfl Try.func47 rfl (by simp only [Try.f47, List.length_cons, List.length_nil]; decide) ?_
 simp only [Try.f47]
 have L := hl.len
 simp (maxSteps := 10000000) (disch := first | assumption | (simp only [tyfacts, Am.wd, Nat.reduceEqDiff, Nat.reduceLT, reduceCtorEq]; try omega; done) | omega) only [Am.wanted, Am.isAlloc, Am.wa, Am.reads, Am.quiet, Am.over, Nat.testBit, Nat.reduceShiftRight, Nat.reduceAnd, Nat.reduceBNe, Nat.reduceLeDiff, Nat.reduceAdd, Nat.reduceMul, Nat.reduceLT, Nat.reduceEqDiff, Nat.reduceSub, reduceCtorEq, ↓reduceIte, tyfacts, L]
 refine wpK_loop_ind _ (fun i : Nat => xs.length - i) (fun i a H' => a.tmps.n = 19 ∧ a.defers = [] ∧ a.tmp 0 = v ∧ a.tmp 1 = f ∧ a.tmp 7 = .int .i64 xs.length ∧ a.tmp 8 = .int .i64 i ∧ Ext H H' ∧ i ≤ xs.length ∧ ∀ j, (hj : j < xs.length) → j < i → p xs[j] = false) 0 ?_ ?_
 · simp (maxSteps := 10000000) (disch := first | assumption | (simp only [tyfacts, Am.wd, Nat.reduceEqDiff, Nat.reduceLT, reduceCtorEq]; try omega; done) | omega) only [Am.wanted, Am.isAlloc, Am.wa, Am.reads, Am.quiet, Am.over, Nat.testBit, Nat.reduceShiftRight, Nat.reduceAnd, Nat.reduceBNe, Nat.reduceLeDiff, Nat.reduceAdd, Nat.reduceMul, Nat.reduceLT, Nat.reduceEqDiff, Nat.reduceSub, reduceCtorEq, ↓reduceIte, tyfacts]
   exact ⟨rfl, Ext.refl wf, by omega, fun j _ h => by omega⟩
 intro i a H1 ⟨hn, hd, h0, h1, h7, h8, hx, hi, hno⟩ ih
 have hl1 := hl.mono hx
 simp (maxSteps := 10000000) (disch := first | assumption | (simp only [tyfacts, Am.wd, Nat.reduceEqDiff, Nat.reduceLT, reduceCtorEq]; try omega; done) | omega) only [Am.wanted, Am.isAlloc, Am.wa, Am.reads, Am.quiet, Am.over, Nat.testBit, Nat.reduceShiftRight, Nat.reduceAnd, Nat.reduceBNe, Nat.reduceLeDiff, Nat.reduceAdd, Nat.reduceMul, Nat.reduceLT, Nat.reduceEqDiff, Nat.reduceSub, reduceCtorEq, ↓reduceIte, tyfacts, h7, h8, hn]
 refine wpB_dec (fun hc => ?_) (fun hc => ?_)
 · have hj : i < xs.length := by omega
   simp (maxSteps := 10000000) (disch := first | assumption | (simp only [tyfacts, Am.wd, Nat.reduceEqDiff, Nat.reduceLT, reduceCtorEq]; try omega; done) | omega) only [Am.wanted, Am.isAlloc, Am.wa, Am.reads, Am.quiet, Am.over, Nat.testBit, Nat.reduceShiftRight, Nat.reduceAnd, Nat.reduceBNe, Nat.reduceLeDiff, Nat.reduceAdd, Nat.reduceMul, Nat.reduceLT, Nat.reduceEqDiff, Nat.reduceSub, reduceCtorEq, ↓reduceIte, tyfacts, h0, h1, h8, hn, hl1.idx, hl1.loadG]
   refine wpX_callV (hp xs[i] (List.getElem_mem hj) H1 hx) fun r H2 ⟨hr, hx2⟩ => ?_
   subst hr
   simp (maxSteps := 10000000) (disch := first | assumption | (simp only [tyfacts, Am.wd, Nat.reduceEqDiff, Nat.reduceLT, reduceCtorEq]; try omega; done) | omega) only [Am.wanted, Am.isAlloc, Am.wa, Am.reads, Am.quiet, Am.over, Nat.testBit, Nat.reduceShiftRight, Nat.reduceAnd, Nat.reduceBNe, Nat.reduceLeDiff, Nat.reduceAdd, Nat.reduceMul, Nat.reduceLT, Nat.reduceEqDiff, Nat.reduceSub, reduceCtorEq, ↓reduceIte, tyfacts, hn]
   refine wpB_bool (fun he => ?_) (fun he => ?_)
   · simp (maxSteps := 10000000) (disch := first | assumption | (simp only [tyfacts, Am.wd, Nat.reduceEqDiff, Nat.reduceLT, reduceCtorEq]; try omega; done) | omega) only [Am.wanted, Am.isAlloc, Am.wa, Am.reads, Am.quiet, Am.over, Nat.testBit, Nat.reduceShiftRight, Nat.reduceAnd, Nat.reduceBNe, Nat.reduceLeDiff, Nat.reduceAdd, Nat.reduceMul, Nat.reduceLT, Nat.reduceEqDiff, Nat.reduceSub, reduceCtorEq, ↓reduceIte, tyfacts, hn, hd]
     refine ⟨?_, hx.trans hx2⟩
     rw [show xs.findIdx? p = some i from List.findIdx?_eq_some_iff_getElem.2 ⟨hj, he, fun j hji => by simpa using hno j (by omega) hji⟩]; rfl
   · simp (maxSteps := 10000000) (disch := first | assumption | (simp only [tyfacts, Am.wd, Nat.reduceEqDiff, Nat.reduceLT, reduceCtorEq]; try omega; done) | omega) only [Am.wanted, Am.isAlloc, Am.wa, Am.reads, Am.quiet, Am.over, Nat.testBit, Nat.reduceShiftRight, Nat.reduceAnd, Nat.reduceBNe, Nat.reduceLeDiff, Nat.reduceAdd, Nat.reduceMul, Nat.reduceLT, Nat.reduceEqDiff, Nat.reduceSub, reduceCtorEq, ↓reduceIte, tyfacts, h8, hn, hd]
     refine ih (i + 1) _ _ (by omega) ?_
     simp (maxSteps := 10000000) (disch := first | assumption | (simp only [tyfacts, Am.wd, Nat.reduceEqDiff, Nat.reduceLT, reduceCtorEq]; try omega; done) | omega) only [Am.wanted, Am.isAlloc, Am.wa, Am.reads, Am.quiet, Am.over, Nat.testBit, Nat.reduceShiftRight, Nat.reduceAnd, Nat.reduceBNe, Nat.reduceLeDiff, Nat.reduceAdd, Nat.reduceMul, Nat.reduceLT, Nat.reduceEqDiff, Nat.reduceSub, reduceCtorEq, ↓reduceIte, tyfacts, h0, h1, h7, hn, hd]
     refine ⟨?_, hx.trans hx2, by omega, fun j hj' hlt => ?_⟩
     · simp
     · by_cases e : j = i
       · subst e; exact he
       · exact hno j hj' (by omega)
 · simp (maxSteps := 10000000) (disch := first | assumption | (simp only [tyfacts, Am.wd, Nat.reduceEqDiff, Nat.reduceLT, reduceCtorEq]; try omega; done) | omega) only [Am.wanted, Am.isAlloc, Am.wa, Am.reads, Am.quiet, Am.over, Nat.testBit, Nat.reduceShiftRight, Nat.reduceAnd, Nat.reduceBNe, Nat.reduceLeDiff, Nat.reduceAdd, Nat.reduceMul, Nat.reduceLT, Nat.reduceEqDiff, Nat.reduceSub, reduceCtorEq, ↓reduceIte, tyfacts, hd, hn]
   refine ⟨?_, hx⟩
   rw [show xs.findIdx? p = none from List.findIdx?_eq_none_iff.2 fun y hy => by
    obtain ⟨j, hj, rfl⟩ := List.mem_iff_getElem.1 hy
    exact hno j hj (by omega)]; rfl
theorem containsFunc_ed {H : Heap} (wf : H.WF) {v f : V} {xs : List (Int × Int)} (hl : Sl H v 2 (xs.map (cE))) (p : (Int × Int) → Bool) (hlen : xs.length < 1000000000)
  (hp : ∀ x, x ∈ xs → ∀ H', Ext H H' → CallV T f [(fun x : Int × Int => V.agg (cE x)) x] H' fun r H'' => r = .bool (p x) ∧ Ext H' H'') :
  CallsTo T 41 [v, f] H fun r H' => r = .bool (xs.any p) ∧ Ext H H' := by
 refine Am.calls_enter (T := T) rfl Try.func41 rfl (by simp only [Try.f41, List.length_cons, List.length_nil]; decide) ?_
 simp only [Try.f41]
 simp (maxSteps := 10000000) (disch := first | assumption | (simp only [tyfacts, Am.wd, Nat.reduceEqDiff, Nat.reduceLT, reduceCtorEq]; try omega; done) | omega) only [Am.wanted, Am.isAlloc, Am.wa, Am.reads, Am.quiet, Am.over, Nat.testBit, Nat.reduceShiftRight, Nat.reduceAnd, Nat.reduceBNe, Nat.reduceLeDiff, Nat.reduceAdd, Nat.reduceMul, Nat.reduceLT, Nat.reduceEqDiff, Nat.reduceSub, reduceCtorEq, ↓reduceIte, tyfacts]
 refine wpX_call (indexFunc_ed wf hl p hlen hp) fun r H' ⟨hr, hx⟩ => ?_
 subst hr
 simp (maxSteps := 10000000) (disch := first | assumption | (simp only [tyfacts, Am.wd, Nat.reduceEqDiff, Nat.reduceLT, reduceCtorEq]; try omega; done) | omega) only [Am.wanted, Am.isAlloc, Am.wa, Am.reads, Am.quiet, Am.over, Nat.testBit, Nat.reduceShiftRight, Nat.reduceAnd, Nat.reduceBNe, Nat.reduceLeDiff, Nat.reduceAdd, Nat.reduceMul, Nat.reduceLT, Nat.reduceEqDiff, Nat.reduceSub, reduceCtorEq, ↓reduceIte, tyfacts]
 refine ⟨?_, hx⟩
 congr 1
 rw [Bool.eq_iff_iff, decide_eq_true_eq, idxI_ge, List.findIdx?_isSome]
def pickF (n m : Int) : Int := if m ≤ 0 then 0 else n % m
theorem pickF_lt {n m : Int} (h : 0 < m) : 0 ≤ pickF n m ∧ pickF n m < m := by
 rw [pickF, if_neg (by omega)]
 exact ⟨Int.emod_nonneg _ (by omega), Int.emod_lt_of_pos _ h⟩
theorem pick_ok {H : Heap} (wf : H.WF) (n m : Int) (hm : m < 1000000000) :
  CallsTo T 26 [.int .i64 n, .int .i64 m] H fun r H' => r = .int .i64 (pickF n m) ∧ Ext H H' := by
 refine Am.calls_enter (T := T) rfl Try.func26 rfl (by simp only [Try.f26, List.length_cons, List.length_nil]; decide) ?_
 simp only [Try.f26]
 simp (maxSteps := 10000000) (disch := first | assumption | (simp only [tyfacts, Am.wd, Nat.reduceEqDiff, Nat.reduceLT, reduceCtorEq]; try omega; done) | omega) only [Am.wanted, Am.isAlloc, Am.wa, Am.reads, Am.quiet, Am.over, Nat.testBit, Nat.reduceShiftRight, Nat.reduceAnd, Nat.reduceBNe, Nat.reduceLeDiff, Nat.reduceAdd, Nat.reduceMul, Nat.reduceLT, Nat.reduceEqDiff, Nat.reduceSub, reduceCtorEq, ↓reduceIte, tyfacts]
 refine wpB_dec (fun h => ?_) (fun h => ?_)
 · simp (maxSteps := 10000000) (disch := first | assumption | (simp only [tyfacts, Am.wd, Nat.reduceEqDiff, Nat.reduceLT, reduceCtorEq]; try omega; done) | omega) only [Am.wanted, Am.isAlloc, Am.wa, Am.reads, Am.quiet, Am.over, Nat.testBit, Nat.reduceShiftRight, Nat.reduceAnd, Nat.reduceBNe, Nat.reduceLeDiff, Nat.reduceAdd, Nat.reduceMul, Nat.reduceLT, Nat.reduceEqDiff, Nat.reduceSub, reduceCtorEq, ↓reduceIte, tyfacts]
   exact ⟨by rw [pickF, if_pos h], Ext.refl wf⟩
 have hr1 := Int.tmod_lt_of_pos n (show 0 < m by omega)
 have hr2 : -m < n.tmod m := by
  have := Int.tmod_lt_of_pos (-n) (show 0 < m by omega)
  rw [Int.neg_tmod] at this; omega
 have hr3 : n.tmod m % m = n % m := by
  have e := Int.mul_tdiv_add_tmod n m
  have : (n.tmod m + m * n.tdiv m) % m = n.tmod m % m := Int.add_mul_emod_self_left _ _ _
  rw [← this, Int.add_comm, e]
 simp (maxSteps := 10000000) (disch := first | assumption | (simp only [tyfacts, Am.wd, Nat.reduceEqDiff, Nat.reduceLT, reduceCtorEq]; try omega; done) | omega) only [Am.wanted, Am.isAlloc, Am.wa, Am.reads, Am.quiet, Am.over, Nat.testBit, Nat.reduceShiftRight, Nat.reduceAnd, Nat.reduceBNe, Nat.reduceLeDiff, Nat.reduceAdd, Nat.reduceMul, Nat.reduceLT, Nat.reduceEqDiff, Nat.reduceSub, reduceCtorEq, ↓reduceIte, tyfacts]
 refine wpB_dec (fun hq => ?_) (fun hq => ?_)
 · simp (maxSteps := 10000000) (disch := first | assumption | (simp only [tyfacts, Am.wd, Nat.reduceEqDiff, Nat.reduceLT, reduceCtorEq]; try omega; done) | omega) only [Am.wanted, Am.isAlloc, Am.wa, Am.reads, Am.quiet, Am.over, Nat.testBit, Nat.reduceShiftRight, Nat.reduceAnd, Nat.reduceBNe, Nat.reduceLeDiff, Nat.reduceAdd, Nat.reduceMul, Nat.reduceLT, Nat.reduceEqDiff, Nat.reduceSub, reduceCtorEq, ↓reduceIte, tyfacts]
   refine ⟨?_, Ext.refl wf⟩
   rw [pickF, if_neg h, ← hr3]
   have : (n.tmod m + m) % m = n.tmod m % m := by rw [Int.add_emod_right]
   rw [← this, Int.emod_eq_of_lt (by omega) (by omega)]
 · simp (maxSteps := 10000000) (disch := first | assumption | (simp only [tyfacts, Am.wd, Nat.reduceEqDiff, Nat.reduceLT, reduceCtorEq]; try omega; done) | omega) only [Am.wanted, Am.isAlloc, Am.wa, Am.reads, Am.quiet, Am.over, Nat.testBit, Nat.reduceShiftRight, Nat.reduceAnd, Nat.reduceBNe, Nat.reduceLeDiff, Nat.reduceAdd, Nat.reduceMul, Nat.reduceLT, Nat.reduceEqDiff, Nat.reduceSub, reduceCtorEq, ↓reduceIte, tyfacts]
   refine ⟨?_, Ext.refl wf⟩
   rw [pickF, if_neg h, ← hr3, Int.emod_eq_of_lt (by omega) (by omega)]
theorem calls_prim {T : Tab} {f : FuncId} {p : List V → Heap → Option (V × Heap)} {args : List V} {H H' : Heap} {r : V} {R : V → Heap → Prop} (hp : T.prim f = some p) (h : p args H = some (r, H')) (hq : R r H') : CallsTo T f args H R :=
 ⟨0, r, H', by simp [run, calls, hp, h], hq⟩
end Go.Proofs.Ytbhgjikjdblgeaa.W

/- The heap of numbers, through the library's own functions. No conditions. -/
namespace Go.Proofs.Ytbhgjikjdblgeaa.W
open Go.Am Go.Am.Hp
structure HP (H : Heap) (b p : Nat) (v : V) (ns : List Int) : Prop where
 wf : H.WF
 ptr : H.get p = some (.cells false [v])
 mine : Mine b H v 1 (ns.map cI)
 pn : ¬ Of v p
 len : ns.length < 100000000
 lb : b ≤ H.n
theorem HP.mono {H H' : Heap} {b p : Nat} {v : V} {ns : List Int} (h : HP H b p v ns) (hx : Ext H H') : HP H' b p v ns := ⟨hx.wf, hx.get _ _ h.ptr, h.mine.mono hx, h.pn, h.len, Nat.le_trans h.lb hx.n⟩
def hI (p : Nat) : V := .iface 55 (.ptr p 0)
end Go.Proofs.Ytbhgjikjdblgeaa.W
