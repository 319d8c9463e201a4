import Derived.Test.YtbhgjikjdblgeaaGkE
set_option linter.unusedSimpArgs false
set_option linter.unusedVariables false
set_option maxRecDepth 8000
/- The program's cycle. No conditions. -/
namespace Go.Proofs.Ytbhgjikjdblgeaa.W
open Go.Am Go.Am.Ord Go.Am.Scc
-- VEX nlR_boolD
def capsC (left : List Int) (size : Int) (out : List Int) : List Vm.D := [.iptr [.imm 1 (left.map dI)] 0, .iptr [.atom (.int .i64 size)] 0, .iptr [.imm 1 (out.map dI)] 0]
noncomputable def leftP (E : Es) (t : Nat) (left : Int) : Int → Bool := fun z => decide ((dist E z.toNat t : Int) = left)
end Go.Proofs.Ytbhgjikjdblgeaa.W

/- The program's components. No conditions. -/
namespace Go.Proofs.Ytbhgjikjdblgeaa.W
open Go.Am Go.Am.Ord Go.Am.Scc
-- VEX nlR_boolD
def wD (k : Nat) : Vm.D := .fn 33 [.rptr k 0] []
theorem set_same {so : List Vm.Ob} {k : Nat} {x : Vm.Ob} (h : so[k]? = some x) : so.set k x = so := by
 obtain ⟨h1, rfl⟩ := List.getElem?_eq_some_iff.1 h
 exact List.set_getElem_self h1
theorem set_self {so : List Vm.Ob} {k : Nat} {x : Vm.Ob} (h : so[k]? = some x) (y : Vm.Ob) : (so.set k y)[k]? = some y := by
 rw [List.getElem?_set_self (List.getElem?_eq_some_iff.1 h).1]
theorem walk_v {n : Nat} {E : Es} (hE : ∀ p, p ∈ E → p.1 < n ∧ p.2 < n) (hn4 : n ≤ 4096) {kw ks : Nat} (hk : kw ≠ ks) :
  ∀ (m : Nat) (f : Nat → Bool) (x : Nat) (so : List Vm.Ob), unseen n f ≤ m → x < n → so[kw]? = some (.cell [wD kw]) → so[ks]? = some (.sl 1 (boolD n f)) →
    Vm.VM T 33 [.rptr kw 0, .imm 1 (gD (graph n E)), .atom (.int .i64 x), .own ks n] so fun d so' => ∃ f', so' = so.set ks (.sl 1 (boolD n f')) ∧ Dfs E f f' x := by
 intro m
 induction m with
 | zero =>
   intro f x so hu hx h1 h2
   have hf : f x = true := by
    cases h : f x with
    | true => rfl
    | false => have := unseen_mark hx h; omega
   have hl := boolD_len n f
   have hg := boolD_get (f := f) hx
   refine Vm.vm_enter (T := T) rfl Try.func33 rfl (by simp only [Try.f33, List.length_cons, List.length_nil]; decide) fun g hG0 hU => ?_
   simp only [Try.f33, Vm.argsTm_cons, Vm.argsTm_nil, Nat.reduceAdd]
   (repeat (first | with_reducible refine Vm.sk_region _ _ ?_ | simp (maxSteps := 10000000) (disch := first | assumption | (simp (disch := (intro _; exact Vm.byRefl (by with_unfolding_all rfl))) only [tyfacts, Vm.szO_eq, Am.vd, Nat.reduceEqDiff, Nat.reduceLT, Nat.reduceLeDiff, Nat.reduceMul, Nat.reduceAdd, reduceCtorEq, nlR_boolD]; try omega; done) | omega | (intro _; exact Vm.byRefl (by with_unfolding_all rfl))) only [Vm.wantedD, Am.va, Nat.reduceAdd, Nat.reduceMul, Nat.reduceSub, Nat.reduceLT, Nat.reduceLeDiff, Nat.reduceEqDiff, Int.reduceAdd, Int.reduceLT, Int.reduceLE, Int.reduceNeg, reduceCtorEq, ↓reduceIte, tyfacts, nlR_boolD, h2, hl, hg, dB, hf]))
   refine Vm.retM_ok (by first | exact .inl rfl | exact .inr rfl) hU ?_
   simp (maxSteps := 10000000) (disch := first | assumption | (simp (disch := (intro _; exact Vm.byRefl (by with_unfolding_all rfl))) only [tyfacts, Vm.szO_eq, Am.vd, Nat.reduceEqDiff, Nat.reduceLT, Nat.reduceLeDiff, Nat.reduceMul, Nat.reduceAdd, reduceCtorEq, nlR_boolD]; try omega; done) | omega | (intro _; exact Vm.byRefl (by with_unfolding_all rfl))) only [Vm.wantedD, Am.va, Nat.reduceAdd, Nat.reduceMul, Nat.reduceSub, Nat.reduceLT, Nat.reduceLeDiff, Nat.reduceEqDiff, Int.reduceAdd, Int.reduceLT, Int.reduceLE, Int.reduceNeg, reduceCtorEq, ↓reduceIte, tyfacts, nlR_boolD]
   exact ⟨f, (set_same h2).symm, Dfs.stop hf⟩
 | succ m ihm =>
   intro f x so hu hx h1 h2
   have hl := boolD_len n f
   have hg := boolD_get (f := f) hx
   refine Vm.vm_enter (T := T) rfl Try.func33 rfl (by simp only [Try.f33, List.length_cons, List.length_nil]; decide) fun g hG0 hU => ?_
   simp only [Try.f33, Vm.argsTm_cons, Vm.argsTm_nil, Nat.reduceAdd]
   (repeat (first | with_reducible refine Vm.sk_region _ _ ?_ | simp (maxSteps := 10000000) (disch := first | assumption | (simp (disch := (intro _; exact Vm.byRefl (by with_unfolding_all rfl))) only [tyfacts, Vm.szO_eq, Am.vd, Nat.reduceEqDiff, Nat.reduceLT, Nat.reduceLeDiff, Nat.reduceMul, Nat.reduceAdd, reduceCtorEq, nlR_boolD]; try omega; done) | omega | (intro _; exact Vm.byRefl (by with_unfolding_all rfl))) only [Vm.wantedD, Am.va, Nat.reduceAdd, Nat.reduceMul, Nat.reduceSub, Nat.reduceLT, Nat.reduceLeDiff, Nat.reduceEqDiff, Int.reduceAdd, Int.reduceLT, Int.reduceLE, Int.reduceNeg, reduceCtorEq, ↓reduceIte, tyfacts, nlR_boolD, h2, hl, hg, dB]))
   refine Vm.sb_bool (fun hf => ?_) (fun hf => ?_)
   · (repeat (first | with_reducible refine Vm.sk_region _ _ ?_ | simp (maxSteps := 10000000) (disch := first | assumption | (simp (disch := (intro _; exact Vm.byRefl (by with_unfolding_all rfl))) only [tyfacts, Vm.szO_eq, Am.vd, Nat.reduceEqDiff, Nat.reduceLT, Nat.reduceLeDiff, Nat.reduceMul, Nat.reduceAdd, reduceCtorEq, nlR_boolD]; try omega; done) | omega | (intro _; exact Vm.byRefl (by with_unfolding_all rfl))) only [Vm.wantedD, Am.va, Nat.reduceAdd, Nat.reduceMul, Nat.reduceSub, Nat.reduceLT, Nat.reduceLeDiff, Nat.reduceEqDiff, Int.reduceAdd, Int.reduceLT, Int.reduceLE, Int.reduceNeg, reduceCtorEq, ↓reduceIte, tyfacts, nlR_boolD]))
     refine Vm.retM_ok (by first | exact .inl rfl | exact .inr rfl) hU ?_
     simp (maxSteps := 10000000) (disch := first | assumption | (simp (disch := (intro _; exact Vm.byRefl (by with_unfolding_all rfl))) only [tyfacts, Vm.szO_eq, Am.vd, Nat.reduceEqDiff, Nat.reduceLT, Nat.reduceLeDiff, Nat.reduceMul, Nat.reduceAdd, reduceCtorEq, nlR_boolD]; try omega; done) | omega | (intro _; exact Vm.byRefl (by with_unfolding_all rfl))) only [Vm.wantedD, Am.va, Nat.reduceAdd, Nat.reduceMul, Nat.reduceSub, Nat.reduceLT, Nat.reduceLeDiff, Nat.reduceEqDiff, Int.reduceAdd, Int.reduceLT, Int.reduceLE, Int.reduceNeg, reduceCtorEq, ↓reduceIte, tyfacts, nlR_boolD]
     exact ⟨f, (set_same h2).symm, Dfs.stop hf⟩
   have hum := unseen_mark hx hf
   have hself := set_self h2
   have hoth := fun X => (List.getElem?_set_ne (l := so) (a := X) (Ne.symm hk)).trans h1
   have hst : (boolD n f).set x [.atom (.bool true)] = boolD n (markN f x) := boolD_set hx (by simp [markN]) fun y hy => by simp [markN, hy]
   have hr := row_get (E := E) hx
   have hal : (adj n E x).length ≤ n := filter_le _ _
   have hcl := castL_len (adj n E x)
   (repeat (first | with_reducible refine Vm.sk_region _ _ ?_ | simp (maxSteps := 10000000) (disch := first | assumption | (simp (disch := (intro _; exact Vm.byRefl (by with_unfolding_all rfl))) only [tyfacts, Vm.szO_eq, Am.vd, Nat.reduceEqDiff, Nat.reduceLT, Nat.reduceLeDiff, Nat.reduceMul, Nat.reduceAdd, reduceCtorEq, nlR_boolD]; try omega; done) | omega | (intro _; exact Vm.byRefl (by with_unfolding_all rfl))) only [Vm.wantedD, Am.va, Nat.reduceAdd, Nat.reduceMul, Nat.reduceSub, Nat.reduceLT, Nat.reduceLeDiff, Nat.reduceEqDiff, Int.reduceAdd, Int.reduceLT, Int.reduceLE, Int.reduceNeg, reduceCtorEq, ↓reduceIte, tyfacts, nlR_boolD, h2, hl, hg, dB, hst, hself, hoth, hr, hcl]))
   refine Vm.sk_loop (fun p : Nat × (Nat → Bool) => (adj n E x).length - p.1) (fun p => ⟨[(0, .rptr kw 0), (1, .imm 1 (gD (graph n E))), (3, .own ks n), (20, .imm 1 ((castL (adj n E x)).map dI)), (21, .atom (.int .i64 (adj n E x).length)), (22, .atom (.int .i64 p.1))], so.set ks (.sl 1 (boolD n p.2)), 35⟩)
    (fun p => p.1 ≤ (adj n E x).length ∧ DfsMid E f p.2 x ((adj n E x).take p.1)) (0, markN f x) ?_ ⟨by simp, by rw [List.take_zero]; exact DfsMid.start E f x⟩ ?_
   · exact Vm.le_tm2 rfl (by simp (maxSteps := 10000000) (disch := first | assumption | (simp (disch := (intro _; exact Vm.byRefl (by with_unfolding_all rfl))) only [tyfacts, Vm.szO_eq, Am.vd, Nat.reduceEqDiff, Nat.reduceLT, Nat.reduceLeDiff, Nat.reduceMul, Nat.reduceAdd, reduceCtorEq, nlR_boolD]; try omega; done) | omega | (intro _; exact Vm.byRefl (by with_unfolding_all rfl))) only [Vm.wantedD, Am.va, Nat.reduceAdd, Nat.reduceMul, Nat.reduceSub, Nat.reduceLT, Nat.reduceLeDiff, Nat.reduceEqDiff, Int.reduceAdd, Int.reduceLT, Int.reduceLE, Int.reduceNeg, reduceCtorEq, ↓reduceIte, tyfacts, nlR_boolD])
   rintro ⟨j, g⟩ ⟨hj, mid⟩ ih
   simp only at hj mid ⊢
   (repeat (first | with_reducible refine Vm.sk_region _ _ ?_ | simp (maxSteps := 10000000) (disch := first | assumption | (simp (disch := (intro _; exact Vm.byRefl (by with_unfolding_all rfl))) only [tyfacts, Vm.szO_eq, Am.vd, Nat.reduceEqDiff, Nat.reduceLT, Nat.reduceLeDiff, Nat.reduceMul, Nat.reduceAdd, reduceCtorEq, nlR_boolD]; try omega; done) | omega | (intro _; exact Vm.byRefl (by with_unfolding_all rfl))) only [Vm.wantedD, Am.va, Nat.reduceAdd, Nat.reduceMul, Nat.reduceSub, Nat.reduceLT, Nat.reduceLeDiff, Nat.reduceEqDiff, Int.reduceAdd, Int.reduceLT, Int.reduceLE, Int.reduceNeg, reduceCtorEq, ↓reduceIte, tyfacts, nlR_boolD]))
   refine Vm.sb_dec (fun hq => ?_) (fun hq => ?_)
   · have hj2 : j < (adj n E x).length := by omega
     obtain ⟨hy, hed⟩ := mem_adj.1 (List.getElem_mem hj2)
     have hg0 := castL_get (adj n E x) j (List.getElem?_eq_getElem hj2)
     have htk : (adj n E x).take (j + 1) = (adj n E x).take j ++ [(adj n E x)[j]] := by rw [List.take_add_one, List.getElem?_eq_getElem hj2]; rfl
     generalize (adj n E x)[j] = y at hy hed hg0 htk
     have um := unseen_mono (n := n) mid.mono
     (repeat (first | with_reducible refine Vm.sk_region _ _ ?_ | simp (maxSteps := 10000000) (disch := first | assumption | (simp (disch := (intro _; exact Vm.byRefl (by with_unfolding_all rfl))) only [tyfacts, Vm.szO_eq, Am.vd, Nat.reduceEqDiff, Nat.reduceLT, Nat.reduceLeDiff, Nat.reduceMul, Nat.reduceAdd, reduceCtorEq, nlR_boolD]; try omega; done) | omega | (intro _; exact Vm.byRefl (by with_unfolding_all rfl))) only [Vm.wantedD, Am.va, Nat.reduceAdd, Nat.reduceMul, Nat.reduceSub, Nat.reduceLT, Nat.reduceLeDiff, Nat.reduceEqDiff, Int.reduceAdd, Int.reduceLT, Int.reduceLE, Int.reduceNeg, reduceCtorEq, ↓reduceIte, tyfacts, nlR_boolD, hg0, dI, hoth, wD]))
     refine Vm.call_mut (R := ?vR1) ?vh1 ?vk1
     case vh1 => refine ihm g y (so.set ks (.sl 1 (boolD n g))) (by omega) hy (hoth _) (hself _) <;> rfl
     rintro d s ⟨g', rfl, dd⟩
     (repeat (first | with_reducible refine Vm.sk_region _ _ ?_ | simp (maxSteps := 10000000) (disch := first | assumption | (simp (disch := (intro _; exact Vm.byRefl (by with_unfolding_all rfl))) only [tyfacts, Vm.szO_eq, Am.vd, Nat.reduceEqDiff, Nat.reduceLT, Nat.reduceLeDiff, Nat.reduceMul, Nat.reduceAdd, reduceCtorEq, nlR_boolD]; try omega; done) | omega | (intro _; exact Vm.byRefl (by with_unfolding_all rfl))) only [Vm.wantedD, Am.va, Nat.reduceAdd, Nat.reduceMul, Nat.reduceSub, Nat.reduceLT, Nat.reduceLeDiff, Nat.reduceEqDiff, Int.reduceAdd, Int.reduceLT, Int.reduceLE, Int.reduceNeg, reduceCtorEq, ↓reduceIte, tyfacts, nlR_boolD, List.set_set]))
     refine ih (j + 1, g') _ (by dsimp only; omega) ⟨by dsimp only; omega, by rw [htk]; exact mid.step dd hed⟩ ?_
     exact Vm.le_tm2 rfl (by simp (maxSteps := 10000000) (disch := first | assumption | (simp (disch := (intro _; exact Vm.byRefl (by with_unfolding_all rfl))) only [tyfacts, Vm.szO_eq, Am.vd, Nat.reduceEqDiff, Nat.reduceLT, Nat.reduceLeDiff, Nat.reduceMul, Nat.reduceAdd, reduceCtorEq, nlR_boolD]; try omega; done) | omega | (intro _; exact Vm.byRefl (by with_unfolding_all rfl))) only [Vm.wantedD, Am.va, Nat.reduceAdd, Nat.reduceMul, Nat.reduceSub, Nat.reduceLT, Nat.reduceLeDiff, Nat.reduceEqDiff, Int.reduceAdd, Int.reduceLT, Int.reduceLE, Int.reduceNeg, reduceCtorEq, ↓reduceIte, tyfacts, nlR_boolD])
   · have hje : j = (adj n E x).length := by omega
     subst hje
     rw [List.take_length] at mid
     (repeat (first | with_reducible refine Vm.sk_region _ _ ?_ | simp (maxSteps := 10000000) (disch := first | assumption | (simp (disch := (intro _; exact Vm.byRefl (by with_unfolding_all rfl))) only [tyfacts, Vm.szO_eq, Am.vd, Nat.reduceEqDiff, Nat.reduceLT, Nat.reduceLeDiff, Nat.reduceMul, Nat.reduceAdd, reduceCtorEq, nlR_boolD]; try omega; done) | omega | (intro _; exact Vm.byRefl (by with_unfolding_all rfl))) only [Vm.wantedD, Am.va, Nat.reduceAdd, Nat.reduceMul, Nat.reduceSub, Nat.reduceLT, Nat.reduceLeDiff, Nat.reduceEqDiff, Int.reduceAdd, Int.reduceLT, Int.reduceLE, Int.reduceNeg, reduceCtorEq, ↓reduceIte, tyfacts, nlR_boolD]))
     refine Vm.retM_ok (by first | exact .inl rfl | exact .inr rfl) hU ?_
     simp (maxSteps := 10000000) (disch := first | assumption | (simp (disch := (intro _; exact Vm.byRefl (by with_unfolding_all rfl))) only [tyfacts, Vm.szO_eq, Am.vd, Nat.reduceEqDiff, Nat.reduceLT, Nat.reduceLeDiff, Nat.reduceMul, Nat.reduceAdd, reduceCtorEq, nlR_boolD]; try omega; done) | omega | (intro _; exact Vm.byRefl (by with_unfolding_all rfl))) only [Vm.wantedD, Am.va, Nat.reduceAdd, Nat.reduceMul, Nat.reduceSub, Nat.reduceLT, Nat.reduceLeDiff, Nat.reduceEqDiff, Int.reduceAdd, Int.reduceLT, Int.reduceLE, Int.reduceNeg, reduceCtorEq, ↓reduceIte, tyfacts, nlR_boolD]
     exact ⟨g, rfl, mid.done fun y hy => mem_adj.2 ⟨(hE _ hy).2, hy⟩⟩
def negD (m i : Nat) : List (List Vm.D) := (List.range m).map fun k => dI (if k < i then -1 else 0)
theorem nlR_negD (m i : Nat) : Vm.nlR (negD m i) = true := Vm.nlR_map (fun _ => rfl) _
theorem negD_len (m i : Nat) : (negD m i).length = m := by simp [negD]
theorem negD_zero (m : Nat) : List.replicate m [Vm.D.atom (.int .i64 0)] = negD m 0 := by
 apply List.ext_getElem
 · simp [negD]
 · intro j h1 h2; simp [negD, dI]
theorem negD_all (m : Nat) (E : Es) : negD m m = (cmpTo m E 0).map dI := by
 apply List.ext_getElem
 · simp [negD, cmpTo]
 · intro j h1 h2
   have : j < m := by simpa [negD] using h1
   simp [negD, cmpTo, dI, this]
theorem negD_get {m i : Nat} (h : i < m) : (negD m i)[i]? = some (dI 0) := by simp [negD, h]
theorem negD_set {m i : Nat} (h : i < m) : (negD m i).set i [.atom (.int .i64 (-1))] = negD m (i + 1) := by
 apply List.ext_getElem
 · simp [negD]
 · intro j h1 h2
   simp only [negD, List.getElem_set, List.getElem_map, List.getElem_range, dI]
   by_cases e : i = j
   · subst e; simp
   · rw [if_neg e]; congr 4; simp only [eq_iff_iff]; omega
theorem cmpTo_at {m i : Nat} {E : Es} (h : i < m) : ((cmpTo m E i).map dI)[i]? = some (dI (if comp E i < i then (comp E i : Int) else -1)) := by simp [cmpTo, h]
theorem cmpMid_at {m i k : Nat} {E : Es} (h : k < m) : ∃ z, ((cmpMid m E i k).map dI)[k]? = some (dI z) := ⟨_, by rw [List.getElem?_map, List.getElem?_eq_getElem (by rw [cmpMid_len]; exact h)]; rfl⟩
set_option maxHeartbeats 2000000 in
theorem sccComp_v {n : Int} {es : List (Int × Int)} (hlen : es.length < 1000000000) : Vm.VC T 12 [.atom (.int .i64 n), .imm 2 (es.map dE)] fun d => d = two_d (compF n es) := by
 refine Vm.vc_enter (T := T) rfl Try.func12 rfl (by simp only [Try.f12, List.length_cons, List.length_nil]; decide) fun g hB hG0 hU => ?_
 simp only [Try.f12, Vm.argsTm_cons, Vm.argsTm_nil, Nat.reduceAdd]
 (repeat (first | with_reducible refine Vm.sk_region _ _ ?_ | simp (maxSteps := 10000000) (disch := first | assumption | (simp (disch := (intro _; exact Vm.byRefl (by with_unfolding_all rfl))) only [tyfacts, Vm.szO_eq, Am.vd, Nat.reduceEqDiff, Nat.reduceLT, Nat.reduceLeDiff, Nat.reduceMul, Nat.reduceAdd, reduceCtorEq, nlR_boolD]; try omega; done) | omega | (intro _; exact Vm.byRefl (by with_unfolding_all rfl))) only [Vm.wantedD, Am.va, Nat.reduceAdd, Nat.reduceMul, Nat.reduceSub, Nat.reduceLT, Nat.reduceLeDiff, Nat.reduceEqDiff, Int.reduceAdd, Int.reduceLT, Int.reduceLE, Int.reduceNeg, reduceCtorEq, ↓reduceIte, tyfacts, nlR_boolD]))
 refine Vm.call_eq2 (sccCheck_v (n := n) (es := es) hlen) ?_ ?_ <;> (repeat (first | with_reducible refine Vm.sk_region _ _ ?_ | simp (maxSteps := 10000000) (disch := first | assumption | (simp (disch := (intro _; exact Vm.byRefl (by with_unfolding_all rfl))) only [tyfacts, Vm.szO_eq, Am.vd, Nat.reduceEqDiff, Nat.reduceLT, Nat.reduceLeDiff, Nat.reduceMul, Nat.reduceAdd, reduceCtorEq, nlR_boolD]; try omega; done) | omega | (intro _; exact Vm.byRefl (by with_unfolding_all rfl))) only [Vm.wantedD, Am.va, Nat.reduceAdd, Nat.reduceMul, Nat.reduceSub, Nat.reduceLT, Nat.reduceLeDiff, Nat.reduceEqDiff, Int.reduceAdd, Int.reduceLT, Int.reduceLE, Int.reduceNeg, reduceCtorEq, ↓reduceIte, tyfacts, nlR_boolD]))
 refine Vm.sb_dec (fun hc => ?_) (fun hc => ?_)
 · (repeat (first | with_reducible refine Vm.sk_region _ _ ?_ | simp (maxSteps := 10000000) (disch := first | assumption | (simp (disch := (intro _; exact Vm.byRefl (by with_unfolding_all rfl))) only [tyfacts, Vm.szO_eq, Am.vd, Nat.reduceEqDiff, Nat.reduceLT, Nat.reduceLeDiff, Nat.reduceMul, Nat.reduceAdd, reduceCtorEq, nlR_boolD]; try omega; done) | omega | (intro _; exact Vm.byRefl (by with_unfolding_all rfl))) only [Vm.wantedD, Am.va, Nat.reduceAdd, Nat.reduceMul, Nat.reduceSub, Nat.reduceLT, Nat.reduceLeDiff, Nat.reduceEqDiff, Int.reduceAdd, Int.reduceLT, Int.reduceLE, Int.reduceNeg, reduceCtorEq, ↓reduceIte, tyfacts, nlR_boolD]))
   refine Vm.su_nil 4 1 (by simp (maxSteps := 10000000) (disch := first | assumption | (simp (disch := (intro _; exact Vm.byRefl (by with_unfolding_all rfl))) only [tyfacts, Vm.szO_eq, Am.vd, Nat.reduceEqDiff, Nat.reduceLT, Nat.reduceLeDiff, Nat.reduceMul, Nat.reduceAdd, reduceCtorEq, nlR_boolD]; try omega; done) | omega | (intro _; exact Vm.byRefl (by with_unfolding_all rfl))) only [Vm.wantedD, Am.va, Nat.reduceAdd, Nat.reduceMul, Nat.reduceSub, Nat.reduceLT, Nat.reduceLeDiff, Nat.reduceEqDiff, Int.reduceAdd, Int.reduceLT, Int.reduceLE, Int.reduceNeg, reduceCtorEq, ↓reduceIte, tyfacts, nlR_boolD]) ?_
   refine Vm.ret_ok (by first | exact .inl rfl | exact .inr rfl) hU ?_
   simp (maxSteps := 10000000) (disch := first | assumption | (simp (disch := (intro _; exact Vm.byRefl (by with_unfolding_all rfl))) only [tyfacts, Vm.szO_eq, Am.vd, Nat.reduceEqDiff, Nat.reduceLT, Nat.reduceLeDiff, Nat.reduceMul, Nat.reduceAdd, reduceCtorEq, nlR_boolD]; try omega; done) | omega | (intro _; exact Vm.byRefl (by with_unfolding_all rfl))) only [Vm.wantedD, Am.va, Nat.reduceAdd, Nat.reduceMul, Nat.reduceSub, Nat.reduceLT, Nat.reduceLeDiff, Nat.reduceEqDiff, Int.reduceAdd, Int.reduceLT, Int.reduceLE, Int.reduceNeg, reduceCtorEq, ↓reduceIte, tyfacts, nlR_boolD]
   simp only [compF, if_pos hc, two_d, List.map_nil]
 obtain ⟨c1, c2, c3, c4, c5⟩ := check_zeroS (Classical.not_not.1 hc)
 have hrf : compF n es = (tabF n.toNat (comp (natE es)), 0) := by rw [compF, if_neg hc]
 rw [hrf]
 have hln : (natE es).length = es.length := by simp [natE]
 obtain ⟨m, rfl⟩ : ∃ m : Nat, n = (m : Int) := ⟨n.toNat, by omega⟩
 clear hrf hc
 simp only [Int.toNat_natCast] at c5 ⊢
 generalize natE es = E at c4 c5 hln ⊢
 subst c4
 have c5' : ∀ p, p ∈ tr E → p.1 < m ∧ p.2 < m := fun p hp => by
  obtain ⟨a, b⟩ := p
  have := c5 _ (mem_tr.1 hp)
  exact ⟨this.2, this.1⟩
 (repeat (first | with_reducible refine Vm.sk_region _ _ ?_ | simp (maxSteps := 10000000) (disch := first | assumption | (simp (disch := (intro _; exact Vm.byRefl (by with_unfolding_all rfl))) only [tyfacts, Vm.szO_eq, Am.vd, Nat.reduceEqDiff, Nat.reduceLT, Nat.reduceLeDiff, Nat.reduceMul, Nat.reduceAdd, reduceCtorEq, nlR_boolD]; try omega; done) | omega | (intro _; exact Vm.byRefl (by with_unfolding_all rfl))) only [Vm.wantedD, Am.va, Nat.reduceAdd, Nat.reduceMul, Nat.reduceSub, Nat.reduceLT, Nat.reduceLeDiff, Nat.reduceEqDiff, Int.reduceAdd, Int.reduceLT, Int.reduceLE, Int.reduceNeg, reduceCtorEq, ↓reduceIte, tyfacts, nlR_boolD]))
 refine Vm.call_eqI2 (sccMade_v (n := m) (E := E) c5 (by omega) (by omega)) ?_ ?_ <;> (repeat (first | with_reducible refine Vm.sk_region _ _ ?_ | simp (maxSteps := 10000000) (disch := first | assumption | (simp (disch := (intro _; exact Vm.byRefl (by with_unfolding_all rfl))) only [tyfacts, Vm.szO_eq, Am.vd, Nat.reduceEqDiff, Nat.reduceLT, Nat.reduceLeDiff, Nat.reduceMul, Nat.reduceAdd, reduceCtorEq, nlR_boolD]; try omega; done) | omega | (intro _; exact Vm.byRefl (by with_unfolding_all rfl))) only [Vm.wantedD, Am.va, Nat.reduceAdd, Nat.reduceMul, Nat.reduceSub, Nat.reduceLT, Nat.reduceLeDiff, Nat.reduceEqDiff, Int.reduceAdd, Int.reduceLT, Int.reduceLE, Int.reduceNeg, reduceCtorEq, ↓reduceIte, tyfacts, nlR_boolD]))
 have hl00 := negD_len m 0
 refine Vm.call_eqI2 (sccTurned_v (n := m) (E := E) (by omega)) ?_ ?_ <;> (repeat (first | with_reducible refine Vm.sk_region _ _ ?_ | simp (maxSteps := 10000000) (disch := first | assumption | (simp (disch := (intro _; exact Vm.byRefl (by with_unfolding_all rfl))) only [tyfacts, Vm.szO_eq, Am.vd, Nat.reduceEqDiff, Nat.reduceLT, Nat.reduceLeDiff, Nat.reduceMul, Nat.reduceAdd, reduceCtorEq, nlR_boolD]; try omega; done) | omega | (intro _; exact Vm.byRefl (by with_unfolding_all rfl))) only [Vm.wantedD, Am.va, Nat.reduceAdd, Nat.reduceMul, Nat.reduceSub, Nat.reduceLT, Nat.reduceLeDiff, Nat.reduceEqDiff, Int.reduceAdd, Int.reduceLT, Int.reduceLE, Int.reduceNeg, reduceCtorEq, ↓reduceIte, tyfacts, nlR_boolD, negD_zero, negD_len]))
 refine Vm.sk_loop (fun i : Nat => m - i) (fun i => ⟨[(0, .atom (.int .i64 m)), (7, .imm 1 (gD (graph m E))), (8, .imm 1 (gD (graph m (tr E)))), (9, .own 0 m), (31, .atom (.int .i64 m)), (32, .atom (.int .i64 i))], [.sl 1 (negD m i)], 105⟩) (fun i => i ≤ m) 0 ?_ (by omega) ?_
 · exact Vm.le_of2 (by rw [hG0]; exact Nat.zero_le _) rfl (by simp (maxSteps := 10000000) (disch := first | assumption | (simp (disch := (intro _; exact Vm.byRefl (by with_unfolding_all rfl))) only [tyfacts, Vm.szO_eq, Am.vd, Nat.reduceEqDiff, Nat.reduceLT, Nat.reduceLeDiff, Nat.reduceMul, Nat.reduceAdd, reduceCtorEq, nlR_boolD]; try omega; done) | omega | (intro _; exact Vm.byRefl (by with_unfolding_all rfl))) only [Vm.wantedD, Am.va, Nat.reduceAdd, Nat.reduceMul, Nat.reduceSub, Nat.reduceLT, Nat.reduceLeDiff, Nat.reduceEqDiff, Int.reduceAdd, Int.reduceLT, Int.reduceLE, Int.reduceNeg, reduceCtorEq, ↓reduceIte, tyfacts, nlR_boolD, nlR_negD, negD_zero, negD_len])
 intro i hi ih
 have hl0 := negD_len m i
 (repeat (first | with_reducible refine Vm.sk_region _ _ ?_ | simp (maxSteps := 10000000) (disch := first | assumption | (simp (disch := (intro _; exact Vm.byRefl (by with_unfolding_all rfl))) only [tyfacts, Vm.szO_eq, Am.vd, Nat.reduceEqDiff, Nat.reduceLT, Nat.reduceLeDiff, Nat.reduceMul, Nat.reduceAdd, reduceCtorEq, nlR_boolD]; try omega; done) | omega | (intro _; exact Vm.byRefl (by with_unfolding_all rfl))) only [Vm.wantedD, Am.va, Nat.reduceAdd, Nat.reduceMul, Nat.reduceSub, Nat.reduceLT, Nat.reduceLeDiff, Nat.reduceEqDiff, Int.reduceAdd, Int.reduceLT, Int.reduceLE, Int.reduceNeg, reduceCtorEq, ↓reduceIte, tyfacts, nlR_boolD]))
 refine Vm.sb_dec (fun hq => ?_) (fun hq => ?_)
 · have him : i < m := by omega
   have hg := negD_get him
   have hs := negD_set him
   (repeat (first | with_reducible refine Vm.sk_region _ _ ?_ | simp (maxSteps := 10000000) (disch := first | assumption | (simp (disch := (intro _; exact Vm.byRefl (by with_unfolding_all rfl))) only [tyfacts, Vm.szO_eq, Am.vd, Nat.reduceEqDiff, Nat.reduceLT, Nat.reduceLeDiff, Nat.reduceMul, Nat.reduceAdd, reduceCtorEq, nlR_boolD]; try omega; done) | omega | (intro _; exact Vm.byRefl (by with_unfolding_all rfl))) only [Vm.wantedD, Am.va, Nat.reduceAdd, Nat.reduceMul, Nat.reduceSub, Nat.reduceLT, Nat.reduceLeDiff, Nat.reduceEqDiff, Int.reduceAdd, Int.reduceLT, Int.reduceLE, Int.reduceNeg, reduceCtorEq, ↓reduceIte, tyfacts, nlR_boolD, hg, dI, hs]))
   refine ih (i + 1) _ (by dsimp only; omega) (by omega) ?_
   exact Vm.le_of2 (by rw [hG0]; exact Nat.zero_le _) rfl (by simp (maxSteps := 10000000) (disch := first | assumption | (simp (disch := (intro _; exact Vm.byRefl (by with_unfolding_all rfl))) only [tyfacts, Vm.szO_eq, Am.vd, Nat.reduceEqDiff, Nat.reduceLT, Nat.reduceLeDiff, Nat.reduceMul, Nat.reduceAdd, reduceCtorEq, nlR_boolD]; try omega; done) | omega | (intro _; exact Vm.byRefl (by with_unfolding_all rfl))) only [Vm.wantedD, Am.va, Nat.reduceAdd, Nat.reduceMul, Nat.reduceSub, Nat.reduceLT, Nat.reduceLeDiff, Nat.reduceEqDiff, Int.reduceAdd, Int.reduceLT, Int.reduceLE, Int.reduceNeg, reduceCtorEq, ↓reduceIte, tyfacts, nlR_boolD, nlR_negD])
 clear ih
 rw [show i = m by omega, negD_all m E]
 clear hq hi hl0 hl00 i
 have hl1 := cmpTo_len m E 0
 (repeat (first | with_reducible refine Vm.sk_region _ _ ?_ | simp (maxSteps := 10000000) (disch := first | assumption | (simp (disch := (intro _; exact Vm.byRefl (by with_unfolding_all rfl))) only [tyfacts, Vm.szO_eq, Am.vd, Nat.reduceEqDiff, Nat.reduceLT, Nat.reduceLeDiff, Nat.reduceMul, Nat.reduceAdd, reduceCtorEq, nlR_boolD]; try omega; done) | omega | (intro _; exact Vm.byRefl (by with_unfolding_all rfl))) only [Vm.wantedD, Am.va, Nat.reduceAdd, Nat.reduceMul, Nat.reduceSub, Nat.reduceLT, Nat.reduceLeDiff, Nat.reduceEqDiff, Int.reduceAdd, Int.reduceLT, Int.reduceLE, Int.reduceNeg, reduceCtorEq, ↓reduceIte, tyfacts, nlR_boolD]))
 refine Vm.sk_loop (fun i : Nat => m - i) (fun i => ⟨[(0, .atom (.int .i64 m)), (7, .imm 1 (gD (graph m E))), (8, .imm 1 (gD (graph m (tr E)))), (9, .own 0 m), (11, .rptr 1 0), (12, .rptr 2 0), (54, .atom (.int .i64 m)), (55, .atom (.int .i64 i))],
  [.sl 1 ((cmpTo m E i).map dI), .cell [.fn 33 [.rptr 1 0] []], .cell [.fn 33 [.rptr 2 0] []]], 105⟩) (fun i => i ≤ m) 0 ?_ (by omega) ?_
 · exact Vm.le_of2 (by rw [hG0]; exact Nat.zero_le _) rfl (by simp (maxSteps := 10000000) (disch := first | assumption | (simp (disch := (intro _; exact Vm.byRefl (by with_unfolding_all rfl))) only [tyfacts, Vm.szO_eq, Am.vd, Nat.reduceEqDiff, Nat.reduceLT, Nat.reduceLeDiff, Nat.reduceMul, Nat.reduceAdd, reduceCtorEq, nlR_boolD]; try omega; done) | omega | (intro _; exact Vm.byRefl (by with_unfolding_all rfl))) only [Vm.wantedD, Am.va, Nat.reduceAdd, Nat.reduceMul, Nat.reduceSub, Nat.reduceLT, Nat.reduceLeDiff, Nat.reduceEqDiff, Int.reduceAdd, Int.reduceLT, Int.reduceLE, Int.reduceNeg, reduceCtorEq, ↓reduceIte, tyfacts, nlR_boolD, nlR_negD])
 clear hl1
 intro i hi ih
 have hl1 := cmpTo_len m E i
 (repeat (first | with_reducible refine Vm.sk_region _ _ ?_ | simp (maxSteps := 10000000) (disch := first | assumption | (simp (disch := (intro _; exact Vm.byRefl (by with_unfolding_all rfl))) only [tyfacts, Vm.szO_eq, Am.vd, Nat.reduceEqDiff, Nat.reduceLT, Nat.reduceLeDiff, Nat.reduceMul, Nat.reduceAdd, reduceCtorEq, nlR_boolD]; try omega; done) | omega | (intro _; exact Vm.byRefl (by with_unfolding_all rfl))) only [Vm.wantedD, Am.va, Nat.reduceAdd, Nat.reduceMul, Nat.reduceSub, Nat.reduceLT, Nat.reduceLeDiff, Nat.reduceEqDiff, Int.reduceAdd, Int.reduceLT, Int.reduceLE, Int.reduceNeg, reduceCtorEq, ↓reduceIte, tyfacts, nlR_boolD]))
 refine Vm.sb_dec (fun hq => ?_) (fun hq => ?_)
 · have him : i < m := by omega
   have hg := cmpTo_at (E := E) him
   by_cases hcm : comp E i < i
   · rw [if_pos hcm] at hg
     (repeat (first | with_reducible refine Vm.sk_region _ _ ?_ | simp (maxSteps := 10000000) (disch := first | assumption | (simp (disch := (intro _; exact Vm.byRefl (by with_unfolding_all rfl))) only [tyfacts, Vm.szO_eq, Am.vd, Nat.reduceEqDiff, Nat.reduceLT, Nat.reduceLeDiff, Nat.reduceMul, Nat.reduceAdd, reduceCtorEq, nlR_boolD]; try omega; done) | omega | (intro _; exact Vm.byRefl (by with_unfolding_all rfl))) only [Vm.wantedD, Am.va, Nat.reduceAdd, Nat.reduceMul, Nat.reduceSub, Nat.reduceLT, Nat.reduceLeDiff, Nat.reduceEqDiff, Int.reduceAdd, Int.reduceLT, Int.reduceLE, Int.reduceNeg, reduceCtorEq, ↓reduceIte, tyfacts, nlR_boolD, hg, dI]))
     refine Vm.sb_dec (fun hq2 => ?_) (fun hq2 => ?_)
     · (repeat (first | with_reducible refine Vm.sk_region _ _ ?_ | simp (maxSteps := 10000000) (disch := first | assumption | (simp (disch := (intro _; exact Vm.byRefl (by with_unfolding_all rfl))) only [tyfacts, Vm.szO_eq, Am.vd, Nat.reduceEqDiff, Nat.reduceLT, Nat.reduceLeDiff, Nat.reduceMul, Nat.reduceAdd, reduceCtorEq, nlR_boolD]; try omega; done) | omega | (intro _; exact Vm.byRefl (by with_unfolding_all rfl))) only [Vm.wantedD, Am.va, Nat.reduceAdd, Nat.reduceMul, Nat.reduceSub, Nat.reduceLT, Nat.reduceLeDiff, Nat.reduceEqDiff, Int.reduceAdd, Int.reduceLT, Int.reduceLE, Int.reduceNeg, reduceCtorEq, ↓reduceIte, tyfacts, nlR_boolD]))
       refine ih (i + 1) _ (by dsimp only; omega) (by omega) ?_
       exact Vm.le_of2 (by rw [hG0]; exact Nat.zero_le _) rfl (by simp (maxSteps := 10000000) (disch := first | assumption | (simp (disch := (intro _; exact Vm.byRefl (by with_unfolding_all rfl))) only [tyfacts, Vm.szO_eq, Am.vd, Nat.reduceEqDiff, Nat.reduceLT, Nat.reduceLeDiff, Nat.reduceMul, Nat.reduceAdd, reduceCtorEq, nlR_boolD]; try omega; done) | omega | (intro _; exact Vm.byRefl (by with_unfolding_all rfl))) only [Vm.wantedD, Am.va, Nat.reduceAdd, Nat.reduceMul, Nat.reduceSub, Nat.reduceLT, Nat.reduceLeDiff, Nat.reduceEqDiff, Int.reduceAdd, Int.reduceLT, Int.reduceLE, Int.reduceNeg, reduceCtorEq, ↓reduceIte, tyfacts, nlR_boolD, nlR_negD, cmpTo_skip hcm])
     · omega
   · rw [if_neg hcm] at hg
     have hci : comp E i = i := by have := comp_self E i; omega
     have hlf := boolD_len m fun _ => false
     (repeat (first | with_reducible refine Vm.sk_region _ _ ?_ | simp (maxSteps := 10000000) (disch := first | assumption | (simp (disch := (intro _; exact Vm.byRefl (by with_unfolding_all rfl))) only [tyfacts, Vm.szO_eq, Am.vd, Nat.reduceEqDiff, Nat.reduceLT, Nat.reduceLeDiff, Nat.reduceMul, Nat.reduceAdd, reduceCtorEq, nlR_boolD]; try omega; done) | omega | (intro _; exact Vm.byRefl (by with_unfolding_all rfl))) only [Vm.wantedD, Am.va, Nat.reduceAdd, Nat.reduceMul, Nat.reduceSub, Nat.reduceLT, Nat.reduceLeDiff, Nat.reduceEqDiff, Int.reduceAdd, Int.reduceLT, Int.reduceLE, Int.reduceNeg, reduceCtorEq, ↓reduceIte, tyfacts, nlR_boolD, hg, dI]))
     refine Vm.sk_draw 6 [0, 1, 2, 3, 4, 5] (by kernel_rfl) (by kernel_rfl) (by decide) ?_
     (repeat (first | with_reducible refine Vm.sk_region _ _ ?_ | simp (maxSteps := 10000000) (disch := first | assumption | (simp (disch := (intro _; exact Vm.byRefl (by with_unfolding_all rfl))) only [tyfacts, Vm.szO_eq, Am.vd, Nat.reduceEqDiff, Nat.reduceLT, Nat.reduceLeDiff, Nat.reduceMul, Nat.reduceAdd, reduceCtorEq, nlR_boolD]; try omega; done) | omega | (intro _; exact Vm.byRefl (by with_unfolding_all rfl))) only [Vm.wantedD, Am.va, Nat.reduceAdd, Nat.reduceMul, Nat.reduceSub, Nat.reduceLT, Nat.reduceLeDiff, Nat.reduceEqDiff, Int.reduceAdd, Int.reduceLT, Int.reduceLE, Int.reduceNeg, reduceCtorEq, ↓reduceIte, tyfacts, nlR_boolD, boolD_false]))
     refine Vm.call_mut (R := ?vR2) ?vh2 ?vk2
     case vh2 => refine walk_v c5 (by omega) (kw := 1) (ks := 3) (by decide) _ (fun _ => false) i _ (Nat.le_refl _) him ?_ ?_ <;> rfl
     rintro d s ⟨f1, rfl, d1⟩
     have hl2 := boolD_len m f1
     (repeat (first | with_reducible refine Vm.sk_region _ _ ?_ | simp (maxSteps := 10000000) (disch := first | assumption | (simp (disch := (intro _; exact Vm.byRefl (by with_unfolding_all rfl))) only [tyfacts, Vm.szO_eq, Am.vd, Nat.reduceEqDiff, Nat.reduceLT, Nat.reduceLeDiff, Nat.reduceMul, Nat.reduceAdd, reduceCtorEq, nlR_boolD]; try omega; done) | omega | (intro _; exact Vm.byRefl (by with_unfolding_all rfl))) only [Vm.wantedD, Am.va, Nat.reduceAdd, Nat.reduceMul, Nat.reduceSub, Nat.reduceLT, Nat.reduceLeDiff, Nat.reduceEqDiff, Int.reduceAdd, Int.reduceLT, Int.reduceLE, Int.reduceNeg, reduceCtorEq, ↓reduceIte, tyfacts, nlR_boolD]))
     refine Vm.call_mut (R := ?vR3) ?vh3 ?vk3
     case vh3 => refine walk_v c5' (by omega) (kw := 2) (ks := 4) (by decide) _ (fun _ => false) i _ (Nat.le_refl _) him ?_ ?_ <;> rfl
     rintro d s ⟨f2, rfl, d2⟩
     have hl3 := boolD_len m f2
     have hck : ∀ k, comp E k = i ↔ f1 k = true ∧ f2 k = true := fun k => by
      rw [d1.all, d2.all, ← mut_ways, ← comp_iff, hci]
      exact eq_comm
     rw [← cmpMid_zero] at hl1 ⊢
     (repeat (first | with_reducible refine Vm.sk_region _ _ ?_ | simp (maxSteps := 10000000) (disch := first | assumption | (simp (disch := (intro _; exact Vm.byRefl (by with_unfolding_all rfl))) only [tyfacts, Vm.szO_eq, Am.vd, Nat.reduceEqDiff, Nat.reduceLT, Nat.reduceLeDiff, Nat.reduceMul, Nat.reduceAdd, reduceCtorEq, nlR_boolD]; try omega; done) | omega | (intro _; exact Vm.byRefl (by with_unfolding_all rfl))) only [Vm.wantedD, Am.va, Nat.reduceAdd, Nat.reduceMul, Nat.reduceSub, Nat.reduceLT, Nat.reduceLeDiff, Nat.reduceEqDiff, Int.reduceAdd, Int.reduceLT, Int.reduceLE, Int.reduceNeg, reduceCtorEq, ↓reduceIte, tyfacts, nlR_boolD]))
     refine Vm.sk_loop (fun k : Nat => m - k) (fun k => ⟨[(0, .atom (.int .i64 m)), (7, .imm 1 (gD (graph m E))), (8, .imm 1 (gD (graph m (tr E)))), (9, .own 0 m), (11, .rptr 1 0), (12, .rptr 2 0), (13, .atom (.int .i64 i)), (14, .own 3 m), (15, .own 4 m), (54, .atom (.int .i64 m)), (55, .atom (.int .i64 i)), (84, .atom (.int .i64 m)), (85, .atom (.int .i64 k))],
      [.sl 1 ((cmpMid m E i k).map dI), .cell [.fn 33 [.rptr 1 0] []], .cell [.fn 33 [.rptr 2 0] []], .sl 1 (boolD m f1), .sl 1 (boolD m f2)], 105⟩) (fun k => k ≤ m) 0 ?_ (by omega) ?_
     · exact Vm.le_of2 (by rw [hG0]; exact Nat.zero_le _) rfl (by simp (maxSteps := 10000000) (disch := first | assumption | (simp (disch := (intro _; exact Vm.byRefl (by with_unfolding_all rfl))) only [tyfacts, Vm.szO_eq, Am.vd, Nat.reduceEqDiff, Nat.reduceLT, Nat.reduceLeDiff, Nat.reduceMul, Nat.reduceAdd, reduceCtorEq, nlR_boolD]; try omega; done) | omega | (intro _; exact Vm.byRefl (by with_unfolding_all rfl))) only [Vm.wantedD, Am.va, Nat.reduceAdd, Nat.reduceMul, Nat.reduceSub, Nat.reduceLT, Nat.reduceLeDiff, Nat.reduceEqDiff, Int.reduceAdd, Int.reduceLT, Int.reduceLE, Int.reduceNeg, reduceCtorEq, ↓reduceIte, tyfacts, nlR_boolD, nlR_negD])
     clear hl1
     intro k hk ih2
     have hl1 := cmpMid_len m E i k
     (repeat (first | with_reducible refine Vm.sk_region _ _ ?_ | simp (maxSteps := 10000000) (disch := first | assumption | (simp (disch := (intro _; exact Vm.byRefl (by with_unfolding_all rfl))) only [tyfacts, Vm.szO_eq, Am.vd, Nat.reduceEqDiff, Nat.reduceLT, Nat.reduceLeDiff, Nat.reduceMul, Nat.reduceAdd, reduceCtorEq, nlR_boolD]; try omega; done) | omega | (intro _; exact Vm.byRefl (by with_unfolding_all rfl))) only [Vm.wantedD, Am.va, Nat.reduceAdd, Nat.reduceMul, Nat.reduceSub, Nat.reduceLT, Nat.reduceLeDiff, Nat.reduceEqDiff, Int.reduceAdd, Int.reduceLT, Int.reduceLE, Int.reduceNeg, reduceCtorEq, ↓reduceIte, tyfacts, nlR_boolD]))
     refine Vm.sb_dec (fun hq2 => ?_) (fun hq2 => ?_)
     · have hkm : k < m := by omega
       have g1 := boolD_get (f := f1) hkm
       have g2 := boolD_get (f := f2) hkm
       have hckk := hck k
       have no : ¬ (f1 k = true ∧ f2 k = true) → cmpMid m E i (k + 1) = cmpMid m E i k := fun h => cmpMid_skip fun h' => h (hckk.1 h')
       cases e1 : f1 k with
       | false =>
         (repeat (first | with_reducible refine Vm.sk_region _ _ ?_ | simp (maxSteps := 10000000) (disch := first | assumption | (simp (disch := (intro _; exact Vm.byRefl (by with_unfolding_all rfl))) only [tyfacts, Vm.szO_eq, Am.vd, Nat.reduceEqDiff, Nat.reduceLT, Nat.reduceLeDiff, Nat.reduceMul, Nat.reduceAdd, reduceCtorEq, nlR_boolD]; try omega; done) | omega | (intro _; exact Vm.byRefl (by with_unfolding_all rfl))) only [Vm.wantedD, Am.va, Nat.reduceAdd, Nat.reduceMul, Nat.reduceSub, Nat.reduceLT, Nat.reduceLeDiff, Nat.reduceEqDiff, Int.reduceAdd, Int.reduceLT, Int.reduceLE, Int.reduceNeg, reduceCtorEq, ↓reduceIte, tyfacts, nlR_boolD, g1, dB, e1]))
         refine ih2 (k + 1) _ (by dsimp only; omega) (by omega) ?_
         have hn := no (by simp [e1])
         exact Vm.le_of2 (by rw [hG0]; exact Nat.zero_le _) rfl (by simp (maxSteps := 10000000) (disch := first | assumption | (simp (disch := (intro _; exact Vm.byRefl (by with_unfolding_all rfl))) only [tyfacts, Vm.szO_eq, Am.vd, Nat.reduceEqDiff, Nat.reduceLT, Nat.reduceLeDiff, Nat.reduceMul, Nat.reduceAdd, reduceCtorEq, nlR_boolD]; try omega; done) | omega | (intro _; exact Vm.byRefl (by with_unfolding_all rfl))) only [Vm.wantedD, Am.va, Nat.reduceAdd, Nat.reduceMul, Nat.reduceSub, Nat.reduceLT, Nat.reduceLeDiff, Nat.reduceEqDiff, Int.reduceAdd, Int.reduceLT, Int.reduceLE, Int.reduceNeg, reduceCtorEq, ↓reduceIte, tyfacts, nlR_boolD, nlR_negD, hn])
       | true =>
         cases e2 : f2 k with
         | false =>
           (repeat (first | with_reducible refine Vm.sk_region _ _ ?_ | simp (maxSteps := 10000000) (disch := first | assumption | (simp (disch := (intro _; exact Vm.byRefl (by with_unfolding_all rfl))) only [tyfacts, Vm.szO_eq, Am.vd, Nat.reduceEqDiff, Nat.reduceLT, Nat.reduceLeDiff, Nat.reduceMul, Nat.reduceAdd, reduceCtorEq, nlR_boolD]; try omega; done) | omega | (intro _; exact Vm.byRefl (by with_unfolding_all rfl))) only [Vm.wantedD, Am.va, Nat.reduceAdd, Nat.reduceMul, Nat.reduceSub, Nat.reduceLT, Nat.reduceLeDiff, Nat.reduceEqDiff, Int.reduceAdd, Int.reduceLT, Int.reduceLE, Int.reduceNeg, reduceCtorEq, ↓reduceIte, tyfacts, nlR_boolD, g1, g2, dB, e1, e2]))
           refine ih2 (k + 1) _ (by dsimp only; omega) (by omega) ?_
           have hn := no (by simp [e2])
           exact Vm.le_of2 (by rw [hG0]; exact Nat.zero_le _) rfl (by simp (maxSteps := 10000000) (disch := first | assumption | (simp (disch := (intro _; exact Vm.byRefl (by with_unfolding_all rfl))) only [tyfacts, Vm.szO_eq, Am.vd, Nat.reduceEqDiff, Nat.reduceLT, Nat.reduceLeDiff, Nat.reduceMul, Nat.reduceAdd, reduceCtorEq, nlR_boolD]; try omega; done) | omega | (intro _; exact Vm.byRefl (by with_unfolding_all rfl))) only [Vm.wantedD, Am.va, Nat.reduceAdd, Nat.reduceMul, Nat.reduceSub, Nat.reduceLT, Nat.reduceLeDiff, Nat.reduceEqDiff, Int.reduceAdd, Int.reduceLT, Int.reduceLE, Int.reduceNeg, reduceCtorEq, ↓reduceIte, tyfacts, nlR_boolD, nlR_negD, hn])
         | true =>
           obtain ⟨z, hz⟩ := cmpMid_at (i := i) (E := E) hkm
           have hset : ((cmpMid m E i k).map dI).set k [.atom (.int .i64 i)] = (cmpMid m E i (k + 1)).map dI := by
            rw [← cmpMid_set hkm (hckk.2 ⟨e1, e2⟩), List.map_set]; rfl
           (repeat (first | with_reducible refine Vm.sk_region _ _ ?_ | simp (maxSteps := 10000000) (disch := first | assumption | (simp (disch := (intro _; exact Vm.byRefl (by with_unfolding_all rfl))) only [tyfacts, Vm.szO_eq, Am.vd, Nat.reduceEqDiff, Nat.reduceLT, Nat.reduceLeDiff, Nat.reduceMul, Nat.reduceAdd, reduceCtorEq, nlR_boolD]; try omega; done) | omega | (intro _; exact Vm.byRefl (by with_unfolding_all rfl))) only [Vm.wantedD, Am.va, Nat.reduceAdd, Nat.reduceMul, Nat.reduceSub, Nat.reduceLT, Nat.reduceLeDiff, Nat.reduceEqDiff, Int.reduceAdd, Int.reduceLT, Int.reduceLE, Int.reduceNeg, reduceCtorEq, ↓reduceIte, tyfacts, nlR_boolD, g1, g2, dB, e1, e2, hz, dI, hset]))
           refine ih2 (k + 1) _ (by dsimp only; omega) (by omega) ?_
           exact Vm.le_of2 (by rw [hG0]; exact Nat.zero_le _) rfl (by simp (maxSteps := 10000000) (disch := first | assumption | (simp (disch := (intro _; exact Vm.byRefl (by with_unfolding_all rfl))) only [tyfacts, Vm.szO_eq, Am.vd, Nat.reduceEqDiff, Nat.reduceLT, Nat.reduceLeDiff, Nat.reduceMul, Nat.reduceAdd, reduceCtorEq, nlR_boolD]; try omega; done) | omega | (intro _; exact Vm.byRefl (by with_unfolding_all rfl))) only [Vm.wantedD, Am.va, Nat.reduceAdd, Nat.reduceMul, Nat.reduceSub, Nat.reduceLT, Nat.reduceLeDiff, Nat.reduceEqDiff, Int.reduceAdd, Int.reduceLT, Int.reduceLE, Int.reduceNeg, reduceCtorEq, ↓reduceIte, tyfacts, nlR_boolD, nlR_negD])
     · have hke : k = m := by omega
       rw [hke] at hl1 ⊢
       rw [cmpMid_all] at hl1 ⊢
       (repeat (first | with_reducible refine Vm.sk_region _ _ ?_ | simp (maxSteps := 10000000) (disch := first | assumption | (simp (disch := (intro _; exact Vm.byRefl (by with_unfolding_all rfl))) only [tyfacts, Vm.szO_eq, Am.vd, Nat.reduceEqDiff, Nat.reduceLT, Nat.reduceLeDiff, Nat.reduceMul, Nat.reduceAdd, reduceCtorEq, nlR_boolD]; try omega; done) | omega | (intro _; exact Vm.byRefl (by with_unfolding_all rfl))) only [Vm.wantedD, Am.va, Nat.reduceAdd, Nat.reduceMul, Nat.reduceSub, Nat.reduceLT, Nat.reduceLeDiff, Nat.reduceEqDiff, Int.reduceAdd, Int.reduceLT, Int.reduceLE, Int.reduceNeg, reduceCtorEq, ↓reduceIte, tyfacts, nlR_boolD]))
       refine ih (i + 1) _ (by dsimp only; omega) (by omega) ?_
       exact Vm.le_of2 (by rw [hG0]; exact Nat.zero_le _) rfl (by simp (maxSteps := 10000000) (disch := first | assumption | (simp (disch := (intro _; exact Vm.byRefl (by with_unfolding_all rfl))) only [tyfacts, Vm.szO_eq, Am.vd, Nat.reduceEqDiff, Nat.reduceLT, Nat.reduceLeDiff, Nat.reduceMul, Nat.reduceAdd, reduceCtorEq, nlR_boolD]; try omega; done) | omega | (intro _; exact Vm.byRefl (by with_unfolding_all rfl))) only [Vm.wantedD, Am.va, Nat.reduceAdd, Nat.reduceMul, Nat.reduceSub, Nat.reduceLT, Nat.reduceLeDiff, Nat.reduceEqDiff, Int.reduceAdd, Int.reduceLT, Int.reduceLE, Int.reduceNeg, reduceCtorEq, ↓reduceIte, tyfacts, nlR_boolD, nlR_negD])
 · have hie : i = m := by omega
   rw [hie] at hl1 ⊢
   rw [cmpTo_all] at hl1 ⊢
   (repeat (first | with_reducible refine Vm.sk_region _ _ ?_ | simp (maxSteps := 10000000) (disch := first | assumption | (simp (disch := (intro _; exact Vm.byRefl (by with_unfolding_all rfl))) only [tyfacts, Vm.szO_eq, Am.vd, Nat.reduceEqDiff, Nat.reduceLT, Nat.reduceLeDiff, Nat.reduceMul, Nat.reduceAdd, reduceCtorEq, nlR_boolD]; try omega; done) | omega | (intro _; exact Vm.byRefl (by with_unfolding_all rfl))) only [Vm.wantedD, Am.va, Nat.reduceAdd, Nat.reduceMul, Nat.reduceSub, Nat.reduceLT, Nat.reduceLeDiff, Nat.reduceEqDiff, Int.reduceAdd, Int.reduceLT, Int.reduceLE, Int.reduceNeg, reduceCtorEq, ↓reduceIte, tyfacts, nlR_boolD]))
   refine Vm.ret_ok (by first | exact .inl rfl | exact .inr rfl) hU ?_
   simp (maxSteps := 10000000) (disch := first | assumption | (simp (disch := (intro _; exact Vm.byRefl (by with_unfolding_all rfl))) only [tyfacts, Vm.szO_eq, Am.vd, Nat.reduceEqDiff, Nat.reduceLT, Nat.reduceLeDiff, Nat.reduceMul, Nat.reduceAdd, reduceCtorEq, nlR_boolD]; try omega; done) | omega | (intro _; exact Vm.byRefl (by with_unfolding_all rfl))) only [Vm.wantedD, Am.va, Nat.reduceAdd, Nat.reduceMul, Nat.reduceSub, Nat.reduceLT, Nat.reduceLeDiff, Nat.reduceEqDiff, Int.reduceAdd, Int.reduceLT, Int.reduceLE, Int.reduceNeg, reduceCtorEq, ↓reduceIte, tyfacts, nlR_boolD]
   rfl
end Go.Proofs.Ytbhgjikjdblgeaa.W

/- What the laws share. No conditions. -/
namespace Go.Proofs.Ytbhgjikjdblgeaa.W
open Go.Am Go.Am.Ord Go.Am.Scc
-- VEX nlR_boolD
theorem pick_v {x n : Int} (hn : n < 1000000000) : Vm.VC T 26 [.atom (.int .i64 x), .atom (.int .i64 n)] fun d => d = .atom (.int .i64 (pickF x n)) := by
 refine Vm.vc_am fun P H vs wf r => ?_
 obtain ⟨u, v, rfl, r1, r2⟩ := two r
 rw [r1.atomInv.2, r2.atomInv.2]
 exact (pick_ok wf x n hn).mono fun v H' ⟨h1, h2⟩ => ⟨⟨_, [], rfl, h1 ▸ .atom .nil, by simp, by simp⟩, h2⟩
theorem known_v : Vm.VC T 4 [] fun d => d = .atom (.bool true) :=
 Vm.vc_am fun P H vs wf r => by
  obtain ⟨rfl, _⟩ := r.nil_inv
  exact (calls_prim (p := closedTrue) (R := fun r H' => r = .bool true ∧ H' = H) rfl rfl ⟨rfl, rfl⟩).mono fun v H' ⟨h1, h2⟩ => ⟨⟨_, [], rfl, h1 ▸ .atom .nil, by simp, by simp⟩, by subst h2; exact Ext.refl wf⟩
def longF (n : Int) (k : Nat) : Bool := (decide (n > 20) && decide (n ≤ 4096)) || decide (k > 80)
end Go.Proofs.Ytbhgjikjdblgeaa.W
