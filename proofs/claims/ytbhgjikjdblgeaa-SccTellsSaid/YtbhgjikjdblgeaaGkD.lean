import Derived.Test.YtbhgjikjdblgeaaGkC
set_option linter.unusedSimpArgs false
set_option linter.unusedVariables false
set_option maxRecDepth 8000
/- The document's order and cycle. No conditions. -/
namespace Go.Proofs.Ytbhgjikjdblgeaa.W
open Go.Am Go.Am.Ord Go.Am.Scc
def boolD (n : Nat) (f : Nat → Bool) : List (List Vm.D) := (List.range n).map fun k => dB (f k)
theorem boolD_len (n : Nat) (f : Nat → Bool) : (boolD n f).length = n := by simp [boolD]
theorem boolD_get {n k : Nat} {f : Nat → Bool} (h : k < n) : (boolD n f)[k]? = some (dB (f k)) := by simp [boolD, h]
theorem boolD_im (n : Nat) (f : Nat → Bool) : Vm.imLL (boolD n f) = boolD n f := Vm.imLL_map (fun _ => rfl) _
theorem boolD_set {n x : Nat} {f g : Nat → Bool} (hx : x < n) (h : g x = true) (h2 : ∀ y, y ≠ x → g y = f y) : (boolD n f).set x [.atom (.bool true)] = boolD n g := by
 apply List.ext_getElem
 · simp [boolD]
 · intro j h1 h3
   simp only [boolD, List.getElem_set, List.getElem_map, List.getElem_range, dB]
   by_cases e : x = j
   · subst e; rw [if_pos rfl, h]
   · rw [if_neg e, h2 j (fun h => e h.symm)]
theorem boolD_false (n : Nat) : List.replicate n [Vm.D.atom (.bool false)] = boolD n fun _ => false := by
 apply List.ext_getElem
 · simp [boolD]
 · intro j h1 h2; simp [boolD, dB]
theorem E_get {E : Es} {i : Nat} (h : i < E.length) : ((castE E).map dE)[i]? = some (dE ((E[i].1 : Int), (E[i].2 : Int))) := by simp [castE, h]
def waitsF (E : Es) (done : Nat → Bool) (to : Nat) : Bool := E.any fun p => decide (p.2 = to) && !done p.1
theorem waits_v {E : Es} {done : Nat → Bool} {n : Nat} (hE : ∀ p, p ∈ E → p.1 < n ∧ p.2 < n) (hl : E.length < 10000000) (to : Nat) :
  Vm.VC T 37 [.imm 2 ((castE E).map dE), .imm 1 (boolD n done), .atom (.int .i64 to)] fun d => d = .atom (.bool (waitsF E done to)) := by
 refine Vm.vc_enter (T := T) rfl Try.func37 rfl (by simp only [Try.f37, List.length_cons, List.length_nil]; decide) fun g hB hG0 => ?_
 simp only [Try.f37, Vm.argsTm_cons, Vm.argsTm_nil, Nat.reduceAdd]
 (repeat (first | refine Vm.sk_region _ _ ?_ | simp (maxSteps := 10000000) (disch := first | assumption | (simp only [tyfacts, Vm.szO_eq, Am.vd, Nat.reduceEqDiff, Nat.reduceLT, Nat.reduceLeDiff, Nat.reduceMul, Nat.reduceAdd, reduceCtorEq]; try omega; done) | omega | (intro _; exact Vm.byRefl (by with_unfolding_all rfl))) only [Vm.wantedD, Am.va, Nat.reduceAdd, Nat.reduceMul, Nat.reduceSub, Nat.reduceLT, Nat.reduceLeDiff, Nat.reduceEqDiff, Int.reduceAdd, Int.reduceLT, Int.reduceLE, Int.reduceNeg, reduceCtorEq, ↓reduceIte, tyfacts]))
 refine Vm.sk_loop (fun i : Nat => E.length - i) (fun i => ⟨[(0, .imm 2 ((castE E).map dE)), (1, .imm 1 (boolD n done)), (2, .atom (.int .i64 to)), (7, .atom (.int .i64 i))], [], 32⟩) (fun i => i ≤ E.length ∧ waitsF E done to = waitsF (E.drop i) done to) 0 ?_ ⟨by omega, rfl⟩ ?_
 · exact Vm.le_of2 (by rw [hG0]; exact Nat.zero_le _) rfl (by simp (maxSteps := 10000000) (disch := first | assumption | (simp only [tyfacts, Vm.szO_eq, Am.vd, Nat.reduceEqDiff, Nat.reduceLT, Nat.reduceLeDiff, Nat.reduceMul, Nat.reduceAdd, reduceCtorEq]; try omega; done) | omega | (intro _; exact Vm.byRefl (by with_unfolding_all rfl))) only [Vm.wantedD, Am.va, Nat.reduceAdd, Nat.reduceMul, Nat.reduceSub, Nat.reduceLT, Nat.reduceLeDiff, Nat.reduceEqDiff, Int.reduceAdd, Int.reduceLT, Int.reduceLE, Int.reduceNeg, reduceCtorEq, ↓reduceIte, tyfacts])
 intro i ⟨hi, hw⟩ ih
 (repeat (first | refine Vm.sk_region _ _ ?_ | simp (maxSteps := 10000000) (disch := first | assumption | (simp only [tyfacts, Vm.szO_eq, Am.vd, Nat.reduceEqDiff, Nat.reduceLT, Nat.reduceLeDiff, Nat.reduceMul, Nat.reduceAdd, reduceCtorEq]; try omega; done) | omega | (intro _; exact Vm.byRefl (by with_unfolding_all rfl))) only [Vm.wantedD, Am.va, Nat.reduceAdd, Nat.reduceMul, Nat.reduceSub, Nat.reduceLT, Nat.reduceLeDiff, Nat.reduceEqDiff, Int.reduceAdd, Int.reduceLT, Int.reduceLE, Int.reduceNeg, reduceCtorEq, ↓reduceIte, tyfacts, castE_len]))
 refine Vm.sb_dec (fun hc => ?_) (fun hc => ?_)
 · have hj : i < E.length := by omega
   have hx := E_get hj
   obtain ⟨h1, h2⟩ := hE _ (List.getElem_mem hj)
   have hd : E.drop i = E[i] :: E.drop (i + 1) := List.drop_eq_getElem_cons hj
   generalize E[i] = x at hx h1 h2 hd
   have hr := boolD_get (f := done) h1
   have hw2 : waitsF E done to = ((decide (x.2 = to) && !done x.1) || waitsF (E.drop (i + 1)) done to) := by rw [hw, hd]; simp [waitsF]
   by_cases c1 : (x.2 : Int) = to
   · have c2 : x.2 = to := by omega
     (repeat (first | refine Vm.sk_region _ _ ?_ | simp (maxSteps := 10000000) (disch := first | assumption | (simp only [tyfacts, Vm.szO_eq, Am.vd, Nat.reduceEqDiff, Nat.reduceLT, Nat.reduceLeDiff, Nat.reduceMul, Nat.reduceAdd, reduceCtorEq]; try omega; done) | omega | (intro _; exact Vm.byRefl (by with_unfolding_all rfl))) only [Vm.wantedD, Am.va, Nat.reduceAdd, Nat.reduceMul, Nat.reduceSub, Nat.reduceLT, Nat.reduceLeDiff, Nat.reduceEqDiff, Int.reduceAdd, Int.reduceLT, Int.reduceLE, Int.reduceNeg, reduceCtorEq, ↓reduceIte, tyfacts, hx, hr, dE, dB, c1]))
     refine Vm.sb_bool (fun h => ?_) (fun h => ?_)
     · (repeat (first | refine Vm.sk_region _ _ ?_ | simp (maxSteps := 10000000) (disch := first | assumption | (simp only [tyfacts, Vm.szO_eq, Am.vd, Nat.reduceEqDiff, Nat.reduceLT, Nat.reduceLeDiff, Nat.reduceMul, Nat.reduceAdd, reduceCtorEq]; try omega; done) | omega | (intro _; exact Vm.byRefl (by with_unfolding_all rfl))) only [Vm.wantedD, Am.va, Nat.reduceAdd, Nat.reduceMul, Nat.reduceSub, Nat.reduceLT, Nat.reduceLeDiff, Nat.reduceEqDiff, Int.reduceAdd, Int.reduceLT, Int.reduceLE, Int.reduceNeg, reduceCtorEq, ↓reduceIte, tyfacts]))
       refine Vm.ret_ok (by first | exact .inl rfl | exact .inr rfl) ?_
       simp (maxSteps := 10000000) (disch := first | assumption | (simp only [tyfacts, Vm.szO_eq, Am.vd, Nat.reduceEqDiff, Nat.reduceLT, Nat.reduceLeDiff, Nat.reduceMul, Nat.reduceAdd, reduceCtorEq]; try omega; done) | omega | (intro _; exact Vm.byRefl (by with_unfolding_all rfl))) only [Vm.wantedD, Am.va, Nat.reduceAdd, Nat.reduceMul, Nat.reduceSub, Nat.reduceLT, Nat.reduceLeDiff, Nat.reduceEqDiff, Int.reduceAdd, Int.reduceLT, Int.reduceLE, Int.reduceNeg, reduceCtorEq, ↓reduceIte, tyfacts]
       rw [hw2, h]; simp [c2]
     · (repeat (first | refine Vm.sk_region _ _ ?_ | simp (maxSteps := 10000000) (disch := first | assumption | (simp only [tyfacts, Vm.szO_eq, Am.vd, Nat.reduceEqDiff, Nat.reduceLT, Nat.reduceLeDiff, Nat.reduceMul, Nat.reduceAdd, reduceCtorEq]; try omega; done) | omega | (intro _; exact Vm.byRefl (by with_unfolding_all rfl))) only [Vm.wantedD, Am.va, Nat.reduceAdd, Nat.reduceMul, Nat.reduceSub, Nat.reduceLT, Nat.reduceLeDiff, Nat.reduceEqDiff, Int.reduceAdd, Int.reduceLT, Int.reduceLE, Int.reduceNeg, reduceCtorEq, ↓reduceIte, tyfacts]))
       refine ih (i + 1) _ (by dsimp only; omega) ⟨by omega, by rw [hw2, h]; simp⟩ ?_
       exact Vm.le_of2 (by rw [hG0]; exact Nat.zero_le _) rfl (by simp (maxSteps := 10000000) (disch := first | assumption | (simp only [tyfacts, Vm.szO_eq, Am.vd, Nat.reduceEqDiff, Nat.reduceLT, Nat.reduceLeDiff, Nat.reduceMul, Nat.reduceAdd, reduceCtorEq]; try omega; done) | omega | (intro _; exact Vm.byRefl (by with_unfolding_all rfl))) only [Vm.wantedD, Am.va, Nat.reduceAdd, Nat.reduceMul, Nat.reduceSub, Nat.reduceLT, Nat.reduceLeDiff, Nat.reduceEqDiff, Int.reduceAdd, Int.reduceLT, Int.reduceLE, Int.reduceNeg, reduceCtorEq, ↓reduceIte, tyfacts])
   · have c2 : ¬ x.2 = to := by omega
     (repeat (first | refine Vm.sk_region _ _ ?_ | simp (maxSteps := 10000000) (disch := first | assumption | (simp only [tyfacts, Vm.szO_eq, Am.vd, Nat.reduceEqDiff, Nat.reduceLT, Nat.reduceLeDiff, Nat.reduceMul, Nat.reduceAdd, reduceCtorEq]; try omega; done) | omega | (intro _; exact Vm.byRefl (by with_unfolding_all rfl))) only [Vm.wantedD, Am.va, Nat.reduceAdd, Nat.reduceMul, Nat.reduceSub, Nat.reduceLT, Nat.reduceLeDiff, Nat.reduceEqDiff, Int.reduceAdd, Int.reduceLT, Int.reduceLE, Int.reduceNeg, reduceCtorEq, ↓reduceIte, tyfacts, hx, hr, dE, dB, c1]))
     refine ih (i + 1) _ (by dsimp only; omega) ⟨by omega, by rw [hw2]; simp [c2]⟩ ?_
     exact Vm.le_of2 (by rw [hG0]; exact Nat.zero_le _) rfl (by simp (maxSteps := 10000000) (disch := first | assumption | (simp only [tyfacts, Vm.szO_eq, Am.vd, Nat.reduceEqDiff, Nat.reduceLT, Nat.reduceLeDiff, Nat.reduceMul, Nat.reduceAdd, reduceCtorEq]; try omega; done) | omega | (intro _; exact Vm.byRefl (by with_unfolding_all rfl))) only [Vm.wantedD, Am.va, Nat.reduceAdd, Nat.reduceMul, Nat.reduceSub, Nat.reduceLT, Nat.reduceLeDiff, Nat.reduceEqDiff, Int.reduceAdd, Int.reduceLT, Int.reduceLE, Int.reduceNeg, reduceCtorEq, ↓reduceIte, tyfacts])
 · (repeat (first | refine Vm.sk_region _ _ ?_ | simp (maxSteps := 10000000) (disch := first | assumption | (simp only [tyfacts, Vm.szO_eq, Am.vd, Nat.reduceEqDiff, Nat.reduceLT, Nat.reduceLeDiff, Nat.reduceMul, Nat.reduceAdd, reduceCtorEq]; try omega; done) | omega | (intro _; exact Vm.byRefl (by with_unfolding_all rfl))) only [Vm.wantedD, Am.va, Nat.reduceAdd, Nat.reduceMul, Nat.reduceSub, Nat.reduceLT, Nat.reduceLeDiff, Nat.reduceEqDiff, Int.reduceAdd, Int.reduceLT, Int.reduceLE, Int.reduceNeg, reduceCtorEq, ↓reduceIte, tyfacts]))
   refine Vm.ret_ok (by first | exact .inl rfl | exact .inr rfl) ?_
   simp (maxSteps := 10000000) (disch := first | assumption | (simp only [tyfacts, Vm.szO_eq, Am.vd, Nat.reduceEqDiff, Nat.reduceLT, Nat.reduceLeDiff, Nat.reduceMul, Nat.reduceAdd, reduceCtorEq]; try omega; done) | omega | (intro _; exact Vm.byRefl (by with_unfolding_all rfl))) only [Vm.wantedD, Am.va, Nat.reduceAdd, Nat.reduceMul, Nat.reduceSub, Nat.reduceLT, Nat.reduceLeDiff, Nat.reduceEqDiff, Int.reduceAdd, Int.reduceLT, Int.reduceLE, Int.reduceNeg, reduceCtorEq, ↓reduceIte, tyfacts]
   have : i = E.length := by omega
   subst this
   rw [hw]; simp [waitsF]
def stepP (E : Es) (out : List Nat) (i : Nat) : Bool := !out.contains i && !waitsF E (fun k => out.contains k) i
def stepS (n : Nat) (E : Es) (out : List Nat) : Option Nat := (List.range n).find? (stepP E out)
def goS (n : Nat) (E : Es) : Nat → List Nat → Option (List Nat)
 | 0, out => some out
 | k + 1, out => match stepS n E out with
   | none => none
   | some i => goS n E k (out ++ [i])
def ordF (n : Int) (es : List (Int × Int)) : List Int × Int := if checkS n es ≠ 0 then ([], checkS n es) else match goS n.toNat (natE es) n.toNat [] with
 | some o => (castL o, 0)
 | none => ([], 17)
def nxI : Option Nat → Int
 | some k => k
 | none => -1
theorem find_succ (p : Nat → Bool) (i : Nat) : (List.range (i + 1)).find? p = ((List.range i).find? p).or (if p i then some i else none) := by
 rw [List.range_succ, List.find?_append]
 cases h : p i <;> simp [List.find?, h]
theorem find_lt {p : Nat → Bool} {i x : Nat} (h : (List.range i).find? p = some x) : x < i ∧ p x = true := ⟨List.mem_range.1 (List.mem_of_find?_eq_some h), List.find?_some h⟩
theorem find_mono {p : Nat → Bool} {i x : Nat} (h : (List.range i).find? p = some x) : ∀ {m : Nat}, i ≤ m → (List.range m).find? p = some x := by
 intro m hm
 induction hm with
 | refl => exact h
 | step hm ih => rw [find_succ, ih]; rfl
theorem castL_snoc (o : List Nat) (x : Nat) : castL (o ++ [x]) = castL o ++ [(x : Int)] := by simp [castL]
theorem boolD_snoc {m x : Nat} (o : List Nat) (hx : x < m) : (boolD m fun k => o.contains k).set x [.atom (.bool true)] = boolD m fun k => (o ++ [x]).contains k :=
 boolD_set hx (by simp) fun y hy => by simp [hy]
theorem refOrder_v {n : Int} {es : List (Int × Int)} (hlen : es.length < 1000000000) : Vm.VC T 15 [.atom (.int .i64 n), .imm 2 (es.map dE)] fun d => d = two_d (ordF n es) := by
 refine Vm.vc_enter (T := T) rfl Try.func15 rfl (by simp only [Try.f15, List.length_cons, List.length_nil]; decide) fun g hB hG0 => ?_
 simp only [Try.f15, Vm.argsTm_cons, Vm.argsTm_nil, Nat.reduceAdd]
 (repeat (first | refine Vm.sk_region _ _ ?_ | simp (maxSteps := 10000000) (disch := first | assumption | (simp only [tyfacts, Vm.szO_eq, Am.vd, Nat.reduceEqDiff, Nat.reduceLT, Nat.reduceLeDiff, Nat.reduceMul, Nat.reduceAdd, reduceCtorEq]; try omega; done) | omega | (intro _; exact Vm.byRefl (by with_unfolding_all rfl))) only [Vm.wantedD, Am.va, Nat.reduceAdd, Nat.reduceMul, Nat.reduceSub, Nat.reduceLT, Nat.reduceLeDiff, Nat.reduceEqDiff, Int.reduceAdd, Int.reduceLT, Int.reduceLE, Int.reduceNeg, reduceCtorEq, ↓reduceIte, tyfacts]))
 refine Vm.call_eq2 (refCheck_v (n := n) (es := es) hlen) ?_ ?_ <;> (repeat (first | refine Vm.sk_region _ _ ?_ | simp (maxSteps := 10000000) (disch := first | assumption | (simp only [tyfacts, Vm.szO_eq, Am.vd, Nat.reduceEqDiff, Nat.reduceLT, Nat.reduceLeDiff, Nat.reduceMul, Nat.reduceAdd, reduceCtorEq]; try omega; done) | omega | (intro _; exact Vm.byRefl (by with_unfolding_all rfl))) only [Vm.wantedD, Am.va, Nat.reduceAdd, Nat.reduceMul, Nat.reduceSub, Nat.reduceLT, Nat.reduceLeDiff, Nat.reduceEqDiff, Int.reduceAdd, Int.reduceLT, Int.reduceLE, Int.reduceNeg, reduceCtorEq, ↓reduceIte, tyfacts]))
 refine Vm.sb_dec (fun hc => ?_) (fun hc => ?_)
 · (repeat (first | refine Vm.sk_region _ _ ?_ | simp (maxSteps := 10000000) (disch := first | assumption | (simp only [tyfacts, Vm.szO_eq, Am.vd, Nat.reduceEqDiff, Nat.reduceLT, Nat.reduceLeDiff, Nat.reduceMul, Nat.reduceAdd, reduceCtorEq]; try omega; done) | omega | (intro _; exact Vm.byRefl (by with_unfolding_all rfl))) only [Vm.wantedD, Am.va, Nat.reduceAdd, Nat.reduceMul, Nat.reduceSub, Nat.reduceLT, Nat.reduceLeDiff, Nat.reduceEqDiff, Int.reduceAdd, Int.reduceLT, Int.reduceLE, Int.reduceNeg, reduceCtorEq, ↓reduceIte, tyfacts]))
   refine Vm.su_nil 4 1 (by simp (maxSteps := 10000000) (disch := first | assumption | (simp only [tyfacts, Vm.szO_eq, Am.vd, Nat.reduceEqDiff, Nat.reduceLT, Nat.reduceLeDiff, Nat.reduceMul, Nat.reduceAdd, reduceCtorEq]; try omega; done) | omega | (intro _; exact Vm.byRefl (by with_unfolding_all rfl))) only [Vm.wantedD, Am.va, Nat.reduceAdd, Nat.reduceMul, Nat.reduceSub, Nat.reduceLT, Nat.reduceLeDiff, Nat.reduceEqDiff, Int.reduceAdd, Int.reduceLT, Int.reduceLE, Int.reduceNeg, reduceCtorEq, ↓reduceIte, tyfacts]) ?_
   refine Vm.ret_ok (by first | exact .inl rfl | exact .inr rfl) ?_
   simp (maxSteps := 10000000) (disch := first | assumption | (simp only [tyfacts, Vm.szO_eq, Am.vd, Nat.reduceEqDiff, Nat.reduceLT, Nat.reduceLeDiff, Nat.reduceMul, Nat.reduceAdd, reduceCtorEq]; try omega; done) | omega | (intro _; exact Vm.byRefl (by with_unfolding_all rfl))) only [Vm.wantedD, Am.va, Nat.reduceAdd, Nat.reduceMul, Nat.reduceSub, Nat.reduceLT, Nat.reduceLeDiff, Nat.reduceEqDiff, Int.reduceAdd, Int.reduceLT, Int.reduceLE, Int.reduceNeg, reduceCtorEq, ↓reduceIte, tyfacts]
   simp only [ordF, if_pos hc, two_d, List.map_nil]
 obtain ⟨c1, c2, c3, c4, c5⟩ := check_zeroS (Classical.not_not.1 hc)
 have hrf : ordF n es = match goS n.toNat (natE es) n.toNat [] with
   | some o => (castL o, 0)
   | none => ([], 17) := by rw [ordF, if_neg hc]
 rw [hrf]
 have hln : (natE es).length = es.length := by simp [natE]
 obtain ⟨m, rfl⟩ : ∃ m : Nat, n = (m : Int) := ⟨n.toNat, by omega⟩
 clear hrf hc
 simp only [Int.toNat_natCast] at c5 ⊢
 generalize natE es = E at c4 c5 hln ⊢
 subst c4
 (repeat (first | refine Vm.sk_region _ _ ?_ | simp (maxSteps := 10000000) (disch := first | assumption | (simp only [tyfacts, Vm.szO_eq, Am.vd, Nat.reduceEqDiff, Nat.reduceLT, Nat.reduceLeDiff, Nat.reduceMul, Nat.reduceAdd, reduceCtorEq]; try omega; done) | omega | (intro _; exact Vm.byRefl (by with_unfolding_all rfl))) only [Vm.wantedD, Am.va, Nat.reduceAdd, Nat.reduceMul, Nat.reduceSub, Nat.reduceLT, Nat.reduceLeDiff, Nat.reduceEqDiff, Int.reduceAdd, Int.reduceLT, Int.reduceLE, Int.reduceNeg, reduceCtorEq, ↓reduceIte, tyfacts, boolD_false]))
 refine Vm.sk_nil 8 1 (by simp (maxSteps := 10000000) (disch := first | assumption | (simp only [tyfacts, Vm.szO_eq, Am.vd, Nat.reduceEqDiff, Nat.reduceLT, Nat.reduceLeDiff, Nat.reduceMul, Nat.reduceAdd, reduceCtorEq]; try omega; done) | omega | (intro _; exact Vm.byRefl (by with_unfolding_all rfl))) only [Vm.wantedD, Am.va, Nat.reduceAdd, Nat.reduceMul, Nat.reduceSub, Nat.reduceLT, Nat.reduceLeDiff, Nat.reduceEqDiff, Int.reduceAdd, Int.reduceLT, Int.reduceLE, Int.reduceNeg, reduceCtorEq, ↓reduceIte, tyfacts]) ?_
 refine Vm.sk_loop (fun o : List Nat => m - o.length) (fun o => ⟨[(0, .atom (.int .i64 m)), (1, .imm 2 ((castE E).map dE)), (7, .own 0 m), (8, .own 1 o.length)], [.sl 1 (boolD m fun k => o.contains k), .sl 1 ((castL o).map dI)], 55⟩)
  (fun o => o.length ≤ m ∧ goS m E m [] = goS m E (m - o.length) o) [] ?_ ⟨by simp, rfl⟩ ?_
 · exact Vm.le_of2 (by rw [hG0]; exact Nat.zero_le _) rfl (by simp (maxSteps := 10000000) (disch := first | assumption | (simp only [tyfacts, Vm.szO_eq, Am.vd, Nat.reduceEqDiff, Nat.reduceLT, Nat.reduceLeDiff, Nat.reduceMul, Nat.reduceAdd, reduceCtorEq]; try omega; done) | omega | (intro _; exact Vm.byRefl (by with_unfolding_all rfl))) only [Vm.wantedD, Am.va, Nat.reduceAdd, Nat.reduceMul, Nat.reduceSub, Nat.reduceLT, Nat.reduceLeDiff, Nat.reduceEqDiff, Int.reduceAdd, Int.reduceLT, Int.reduceLE, Int.reduceNeg, reduceCtorEq, ↓reduceIte, tyfacts, castL, List.contains_nil])
 intro o ⟨ho, hgo⟩ ih
 have hcl := castL_len o
 have hbl := boolD_len m fun k => o.contains k
 (repeat (first | refine Vm.sk_region _ _ ?_ | simp (maxSteps := 10000000) (disch := first | assumption | (simp only [tyfacts, Vm.szO_eq, Am.vd, Nat.reduceEqDiff, Nat.reduceLT, Nat.reduceLeDiff, Nat.reduceMul, Nat.reduceAdd, reduceCtorEq]; try omega; done) | omega | (intro _; exact Vm.byRefl (by with_unfolding_all rfl))) only [Vm.wantedD, Am.va, Nat.reduceAdd, Nat.reduceMul, Nat.reduceSub, Nat.reduceLT, Nat.reduceLeDiff, Nat.reduceEqDiff, Int.reduceAdd, Int.reduceLT, Int.reduceLE, Int.reduceNeg, reduceCtorEq, ↓reduceIte, tyfacts, castL_len, boolD_len]))
 refine Vm.sb_dec (fun hq => ?_) (fun hq => ?_)
 · (repeat (first | refine Vm.sk_region _ _ ?_ | simp (maxSteps := 10000000) (disch := first | assumption | (simp only [tyfacts, Vm.szO_eq, Am.vd, Nat.reduceEqDiff, Nat.reduceLT, Nat.reduceLeDiff, Nat.reduceMul, Nat.reduceAdd, reduceCtorEq]; try omega; done) | omega | (intro _; exact Vm.byRefl (by with_unfolding_all rfl))) only [Vm.wantedD, Am.va, Nat.reduceAdd, Nat.reduceMul, Nat.reduceSub, Nat.reduceLT, Nat.reduceLeDiff, Nat.reduceEqDiff, Int.reduceAdd, Int.reduceLT, Int.reduceLE, Int.reduceNeg, reduceCtorEq, ↓reduceIte, tyfacts]))
   have hsn : ∃ k, m - o.length = k + 1 := ⟨m - o.length - 1, by omega⟩
   obtain ⟨kk, hkk⟩ := hsn
   have hgo2 : goS m E m [] = match stepS m E o with
     | none => none
     | some i => goS m E kk (o ++ [i]) := by rw [hgo, hkk]; rfl
   refine Vm.sk_loop (fun i : Nat => m - i) (fun i => ⟨[(0, .atom (.int .i64 m)), (1, .imm 2 ((castE E).map dE)), (7, .own 0 m), (8, .own 1 o.length), (9, .atom (.int .i64 (nxI ((List.range i).find? (stepP E o))))), (10, .atom (.int .i64 i))], [.sl 1 (boolD m fun k => o.contains k), .sl 1 ((castL o).map dI)], 55⟩)
    (fun i => i ≤ m ∧ (0 < i → (List.range (i - 1)).find? (stepP E o) = none)) 0 ?_ ⟨by omega, fun h => by omega⟩ ?_
   · exact Vm.le_of2 (by rw [hG0]; exact Nat.zero_le _) rfl (by simp (maxSteps := 10000000) (disch := first | assumption | (simp only [tyfacts, Vm.szO_eq, Am.vd, Nat.reduceEqDiff, Nat.reduceLT, Nat.reduceLeDiff, Nat.reduceMul, Nat.reduceAdd, reduceCtorEq]; try omega; done) | omega | (intro _; exact Vm.byRefl (by with_unfolding_all rfl))) only [Vm.wantedD, Am.va, Nat.reduceAdd, Nat.reduceMul, Nat.reduceSub, Nat.reduceLT, Nat.reduceLeDiff, Nat.reduceEqDiff, Int.reduceAdd, Int.reduceLT, Int.reduceLE, Int.reduceNeg, reduceCtorEq, ↓reduceIte, tyfacts, nxI, List.range_zero, List.find?_nil])
   intro i ⟨hi, hpr⟩ ih2
   cases hf : (List.range i).find? (stepP E o) with
   | some x =>
     have hx0 : ¬ ((x : Int) < 0) := by omega
     obtain ⟨hxi, hxp⟩ := find_lt hf
     have hst : stepS m E o = some x := find_mono hf hi
     have hb := boolD_get (f := fun k => o.contains k) (show x < m by omega)
     have hs := boolD_snoc o (show x < m by omega)
     rw [hst] at hgo2
     by_cases c6 : (i : Int) < (m : Int)
     all_goals (repeat (first | refine Vm.sk_region _ _ ?_ | simp (maxSteps := 10000000) (disch := first | assumption | (simp only [tyfacts, Vm.szO_eq, Am.vd, Nat.reduceEqDiff, Nat.reduceLT, Nat.reduceLeDiff, Nat.reduceMul, Nat.reduceAdd, reduceCtorEq]; try omega; done) | omega | (intro _; exact Vm.byRefl (by with_unfolding_all rfl))) only [Vm.wantedD, Am.va, Nat.reduceAdd, Nat.reduceMul, Nat.reduceSub, Nat.reduceLT, Nat.reduceLeDiff, Nat.reduceEqDiff, Int.reduceAdd, Int.reduceLT, Int.reduceLE, Int.reduceNeg, reduceCtorEq, ↓reduceIte, tyfacts, c6, hf, nxI, hx0, hb, dB]))
     all_goals refine ih (o ++ [x]) _ (by dsimp only; rw [List.length_append, List.length_singleton]; omega) ⟨by rw [List.length_append, List.length_singleton]; omega, by rw [hgo2, List.length_append, List.length_singleton]; simp only; congr 1; omega⟩ ?_
     all_goals exact Vm.le_of2 (by rw [hG0]; exact Nat.zero_le _) rfl (by simp (maxSteps := 10000000) (disch := first | assumption | (simp only [tyfacts, Vm.szO_eq, Am.vd, Nat.reduceEqDiff, Nat.reduceLT, Nat.reduceLeDiff, Nat.reduceMul, Nat.reduceAdd, reduceCtorEq]; try omega; done) | omega | (intro _; exact Vm.byRefl (by with_unfolding_all rfl))) only [Vm.wantedD, Am.va, Nat.reduceAdd, Nat.reduceMul, Nat.reduceSub, Nat.reduceLT, Nat.reduceLeDiff, Nat.reduceEqDiff, Int.reduceAdd, Int.reduceLT, Int.reduceLE, Int.reduceNeg, reduceCtorEq, ↓reduceIte, tyfacts, hs, castL_snoc, List.map_append, dI, List.map_cons, List.map_nil, List.length_append, List.length_cons, List.length_nil])
   | none =>
     by_cases c6 : (i : Int) < (m : Int)
     · have hb := boolD_get (f := fun k => o.contains k) (show i < m by omega)
       cases hd : o.contains i with
       | true =>
         have hp : stepP E o i = false := by simp only [stepP, hd, Bool.not_true, Bool.false_and]
         have fs : (List.range (i + 1)).find? (stepP E o) = none := by rw [find_succ, hf, hp]; rfl
         (repeat (first | refine Vm.sk_region _ _ ?_ | simp (maxSteps := 10000000) (disch := first | assumption | (simp only [tyfacts, Vm.szO_eq, Am.vd, Nat.reduceEqDiff, Nat.reduceLT, Nat.reduceLeDiff, Nat.reduceMul, Nat.reduceAdd, reduceCtorEq]; try omega; done) | omega | (intro _; exact Vm.byRefl (by with_unfolding_all rfl))) only [Vm.wantedD, Am.va, Nat.reduceAdd, Nat.reduceMul, Nat.reduceSub, Nat.reduceLT, Nat.reduceLeDiff, Nat.reduceEqDiff, Int.reduceAdd, Int.reduceLT, Int.reduceLE, Int.reduceNeg, reduceCtorEq, ↓reduceIte, tyfacts, c6, hf, nxI, hb, dB, hd]))
         refine ih2 (i + 1) _ (by dsimp only; omega) ⟨by omega, fun _ => hf⟩ ?_
         exact Vm.le_of2 (by rw [hG0]; exact Nat.zero_le _) rfl (by simp (maxSteps := 10000000) (disch := first | assumption | (simp only [tyfacts, Vm.szO_eq, Am.vd, Nat.reduceEqDiff, Nat.reduceLT, Nat.reduceLeDiff, Nat.reduceMul, Nat.reduceAdd, reduceCtorEq]; try omega; done) | omega | (intro _; exact Vm.byRefl (by with_unfolding_all rfl))) only [Vm.wantedD, Am.va, Nat.reduceAdd, Nat.reduceMul, Nat.reduceSub, Nat.reduceLT, Nat.reduceLeDiff, Nat.reduceEqDiff, Int.reduceAdd, Int.reduceLT, Int.reduceLE, Int.reduceNeg, reduceCtorEq, ↓reduceIte, tyfacts, hf, fs, nxI])
       | false =>
         (repeat (first | refine Vm.sk_region _ _ ?_ | simp (maxSteps := 10000000) (disch := first | assumption | (simp only [tyfacts, Vm.szO_eq, Am.vd, Nat.reduceEqDiff, Nat.reduceLT, Nat.reduceLeDiff, Nat.reduceMul, Nat.reduceAdd, reduceCtorEq]; try omega; done) | omega | (intro _; exact Vm.byRefl (by with_unfolding_all rfl))) only [Vm.wantedD, Am.va, Nat.reduceAdd, Nat.reduceMul, Nat.reduceSub, Nat.reduceLT, Nat.reduceLeDiff, Nat.reduceEqDiff, Int.reduceAdd, Int.reduceLT, Int.reduceLE, Int.reduceNeg, reduceCtorEq, ↓reduceIte, tyfacts, c6, hf, nxI, hb, dB, hd]))
         refine Vm.call_eq2 (waits_v (E := E) (done := fun k => o.contains k) (n := m) c5 (by omega) i) ?_ ?_ <;> (repeat (first | refine Vm.sk_region _ _ ?_ | simp (maxSteps := 10000000) (disch := first | assumption | (simp only [tyfacts, Vm.szO_eq, Am.vd, Nat.reduceEqDiff, Nat.reduceLT, Nat.reduceLeDiff, Nat.reduceMul, Nat.reduceAdd, reduceCtorEq]; try omega; done) | omega | (intro _; exact Vm.byRefl (by with_unfolding_all rfl))) only [Vm.wantedD, Am.va, Nat.reduceAdd, Nat.reduceMul, Nat.reduceSub, Nat.reduceLT, Nat.reduceLeDiff, Nat.reduceEqDiff, Int.reduceAdd, Int.reduceLT, Int.reduceLE, Int.reduceNeg, reduceCtorEq, ↓reduceIte, tyfacts, boolD_im]))
         cases hw : waitsF E (fun k => o.contains k) i with
         | true =>
           have hp : stepP E o i = false := by simp only [stepP, hw, Bool.not_true, Bool.and_false]
           have fs : (List.range (i + 1)).find? (stepP E o) = none := by rw [find_succ, hf, hp]; rfl
           (repeat (first | refine Vm.sk_region _ _ ?_ | simp (maxSteps := 10000000) (disch := first | assumption | (simp only [tyfacts, Vm.szO_eq, Am.vd, Nat.reduceEqDiff, Nat.reduceLT, Nat.reduceLeDiff, Nat.reduceMul, Nat.reduceAdd, reduceCtorEq]; try omega; done) | omega | (intro _; exact Vm.byRefl (by with_unfolding_all rfl))) only [Vm.wantedD, Am.va, Nat.reduceAdd, Nat.reduceMul, Nat.reduceSub, Nat.reduceLT, Nat.reduceLeDiff, Nat.reduceEqDiff, Int.reduceAdd, Int.reduceLT, Int.reduceLE, Int.reduceNeg, reduceCtorEq, ↓reduceIte, tyfacts, hw]))
           refine ih2 (i + 1) _ (by dsimp only; omega) ⟨by omega, fun _ => hf⟩ ?_
           exact Vm.le_of2 (by rw [hG0]; exact Nat.zero_le _) rfl (by simp (maxSteps := 10000000) (disch := first | assumption | (simp only [tyfacts, Vm.szO_eq, Am.vd, Nat.reduceEqDiff, Nat.reduceLT, Nat.reduceLeDiff, Nat.reduceMul, Nat.reduceAdd, reduceCtorEq]; try omega; done) | omega | (intro _; exact Vm.byRefl (by with_unfolding_all rfl))) only [Vm.wantedD, Am.va, Nat.reduceAdd, Nat.reduceMul, Nat.reduceSub, Nat.reduceLT, Nat.reduceLeDiff, Nat.reduceEqDiff, Int.reduceAdd, Int.reduceLT, Int.reduceLE, Int.reduceNeg, reduceCtorEq, ↓reduceIte, tyfacts, hf, fs, nxI])
         | false =>
           have hp : stepP E o i = true := by simp only [stepP, hd, hw, Bool.not_false, Bool.and_self]
           have fs : (List.range (i + 1)).find? (stepP E o) = some i := by rw [find_succ, hf, hp]; rfl
           (repeat (first | refine Vm.sk_region _ _ ?_ | simp (maxSteps := 10000000) (disch := first | assumption | (simp only [tyfacts, Vm.szO_eq, Am.vd, Nat.reduceEqDiff, Nat.reduceLT, Nat.reduceLeDiff, Nat.reduceMul, Nat.reduceAdd, reduceCtorEq]; try omega; done) | omega | (intro _; exact Vm.byRefl (by with_unfolding_all rfl))) only [Vm.wantedD, Am.va, Nat.reduceAdd, Nat.reduceMul, Nat.reduceSub, Nat.reduceLT, Nat.reduceLeDiff, Nat.reduceEqDiff, Int.reduceAdd, Int.reduceLT, Int.reduceLE, Int.reduceNeg, reduceCtorEq, ↓reduceIte, tyfacts, hw]))
           refine ih2 (i + 1) _ (by dsimp only; omega) ⟨by omega, fun _ => hf⟩ ?_
           exact Vm.le_of2 (by rw [hG0]; exact Nat.zero_le _) rfl (by simp (maxSteps := 10000000) (disch := first | assumption | (simp only [tyfacts, Vm.szO_eq, Am.vd, Nat.reduceEqDiff, Nat.reduceLT, Nat.reduceLeDiff, Nat.reduceMul, Nat.reduceAdd, reduceCtorEq]; try omega; done) | omega | (intro _; exact Vm.byRefl (by with_unfolding_all rfl))) only [Vm.wantedD, Am.va, Nat.reduceAdd, Nat.reduceMul, Nat.reduceSub, Nat.reduceLT, Nat.reduceLeDiff, Nat.reduceEqDiff, Int.reduceAdd, Int.reduceLT, Int.reduceLE, Int.reduceNeg, reduceCtorEq, ↓reduceIte, tyfacts, fs, nxI])
     · have him : i = m := by omega
       subst him
       (repeat (first | refine Vm.sk_region _ _ ?_ | simp (maxSteps := 10000000) (disch := first | assumption | (simp only [tyfacts, Vm.szO_eq, Am.vd, Nat.reduceEqDiff, Nat.reduceLT, Nat.reduceLeDiff, Nat.reduceMul, Nat.reduceAdd, reduceCtorEq]; try omega; done) | omega | (intro _; exact Vm.byRefl (by with_unfolding_all rfl))) only [Vm.wantedD, Am.va, Nat.reduceAdd, Nat.reduceMul, Nat.reduceSub, Nat.reduceLT, Nat.reduceLeDiff, Nat.reduceEqDiff, Int.reduceAdd, Int.reduceLT, Int.reduceLE, Int.reduceNeg, reduceCtorEq, ↓reduceIte, tyfacts, c6, hf, nxI]))
       rw [show stepS i E o = none from hf] at hgo2
       refine Vm.su_nil 4 1 (by simp (maxSteps := 10000000) (disch := first | assumption | (simp only [tyfacts, Vm.szO_eq, Am.vd, Nat.reduceEqDiff, Nat.reduceLT, Nat.reduceLeDiff, Nat.reduceMul, Nat.reduceAdd, reduceCtorEq]; try omega; done) | omega | (intro _; exact Vm.byRefl (by with_unfolding_all rfl))) only [Vm.wantedD, Am.va, Nat.reduceAdd, Nat.reduceMul, Nat.reduceSub, Nat.reduceLT, Nat.reduceLeDiff, Nat.reduceEqDiff, Int.reduceAdd, Int.reduceLT, Int.reduceLE, Int.reduceNeg, reduceCtorEq, ↓reduceIte, tyfacts]) ?_
       refine Vm.ret_ok (by first | exact .inl rfl | exact .inr rfl) ?_
       simp (maxSteps := 10000000) (disch := first | assumption | (simp only [tyfacts, Vm.szO_eq, Am.vd, Nat.reduceEqDiff, Nat.reduceLT, Nat.reduceLeDiff, Nat.reduceMul, Nat.reduceAdd, reduceCtorEq]; try omega; done) | omega | (intro _; exact Vm.byRefl (by with_unfolding_all rfl))) only [Vm.wantedD, Am.va, Nat.reduceAdd, Nat.reduceMul, Nat.reduceSub, Nat.reduceLT, Nat.reduceLeDiff, Nat.reduceEqDiff, Int.reduceAdd, Int.reduceLT, Int.reduceLE, Int.reduceNeg, reduceCtorEq, ↓reduceIte, tyfacts]
       rw [hgo2]
       rfl
 · have hom : o.length = m := by omega
   (repeat (first | refine Vm.sk_region _ _ ?_ | simp (maxSteps := 10000000) (disch := first | assumption | (simp only [tyfacts, Vm.szO_eq, Am.vd, Nat.reduceEqDiff, Nat.reduceLT, Nat.reduceLeDiff, Nat.reduceMul, Nat.reduceAdd, reduceCtorEq]; try omega; done) | omega | (intro _; exact Vm.byRefl (by with_unfolding_all rfl))) only [Vm.wantedD, Am.va, Nat.reduceAdd, Nat.reduceMul, Nat.reduceSub, Nat.reduceLT, Nat.reduceLeDiff, Nat.reduceEqDiff, Int.reduceAdd, Int.reduceLT, Int.reduceLE, Int.reduceNeg, reduceCtorEq, ↓reduceIte, tyfacts]))
   refine Vm.ret_ok (by first | exact .inl rfl | exact .inr rfl) ?_
   simp (maxSteps := 10000000) (disch := first | assumption | (simp only [tyfacts, Vm.szO_eq, Am.vd, Nat.reduceEqDiff, Nat.reduceLT, Nat.reduceLeDiff, Nat.reduceMul, Nat.reduceAdd, reduceCtorEq]; try omega; done) | omega | (intro _; exact Vm.byRefl (by with_unfolding_all rfl))) only [Vm.wantedD, Am.va, Nat.reduceAdd, Nat.reduceMul, Nat.reduceSub, Nat.reduceLT, Nat.reduceLeDiff, Nat.reduceEqDiff, Int.reduceAdd, Int.reduceLT, Int.reduceLE, Int.reduceNeg, reduceCtorEq, ↓reduceIte, tyfacts]
   rw [hgo, hom, Nat.sub_self]
   rfl
end Go.Proofs.Ytbhgjikjdblgeaa.W

/- The document's cycle. No conditions. -/
namespace Go.Proofs.Ytbhgjikjdblgeaa.W
open Go.Am Go.Am.Ord Go.Am.Scc
noncomputable def nextP (E : Es) (x t left i : Nat) : Bool := decide ((x, i) ∈ E) && decide (dist E i t = left)
noncomputable def nextS (n : Nat) (E : Es) (x t left : Nat) : Nat := ((List.range n).find? (nextP E x t left)).getD 0
theorem dist_get {n : Nat} {E : Es} {x y : Nat} (h : y < n) : ((distL n E x).map dI)[y]? = some (dI (dist E x y : Int)) := by
 simp [distL, tabF, h]
theorem refNext_v {n : Nat} {E : Es} (hE : ∀ p, p ∈ E → p.1 < n ∧ p.2 < n) (hn4 : n ≤ 4096) (hlen : E.length < 10000000) (x : Nat) {t : Nat} (ht : t < n) (left : Nat) :
  Vm.VC T 40 [.atom (.int .i64 n), .imm 2 ((castE E).map dE), .atom (.int .i64 x), .atom (.int .i64 t), .atom (.int .i64 left)] fun d => d = .atom (.int .i64 (nextS n E x t left)) := by
 refine Vm.vc_enter (T := T) rfl Try.func40 rfl (by simp only [Try.f40, List.length_cons, List.length_nil]; decide) fun g hB hG0 => ?_
 simp only [Try.f40, Vm.argsTm_cons, Vm.argsTm_nil, Nat.reduceAdd]
 (repeat (first | refine Vm.sk_region _ _ ?_ | simp (maxSteps := 10000000) (disch := first | assumption | (simp only [tyfacts, Vm.szO_eq, Am.vd, Nat.reduceEqDiff, Nat.reduceLT, Nat.reduceLeDiff, Nat.reduceMul, Nat.reduceAdd, reduceCtorEq]; try omega; done) | omega | (intro _; exact Vm.byRefl (by with_unfolding_all rfl))) only [Vm.wantedD, Am.va, Nat.reduceAdd, Nat.reduceMul, Nat.reduceSub, Nat.reduceLT, Nat.reduceLeDiff, Nat.reduceEqDiff, Int.reduceAdd, Int.reduceLT, Int.reduceLE, Int.reduceNeg, reduceCtorEq, ↓reduceIte, tyfacts]))
 refine Vm.sk_loop (fun i : Nat => n - i) (fun i => ⟨[(0, .atom (.int .i64 n)), (1, .imm 2 ((castE E).map dE)), (2, .atom (.int .i64 x)), (3, .atom (.int .i64 t)), (4, .atom (.int .i64 left)), (11, .atom (.int .i64 i))], [], 52⟩) (fun i => i ≤ n ∧ (List.range i).find? (nextP E x t left) = none) 0 ?_ ⟨by omega, rfl⟩ ?_
 · exact Vm.le_of2 (by rw [hG0]; exact Nat.zero_le _) rfl (by simp (maxSteps := 10000000) (disch := first | assumption | (simp only [tyfacts, Vm.szO_eq, Am.vd, Nat.reduceEqDiff, Nat.reduceLT, Nat.reduceLeDiff, Nat.reduceMul, Nat.reduceAdd, reduceCtorEq]; try omega; done) | omega | (intro _; exact Vm.byRefl (by with_unfolding_all rfl))) only [Vm.wantedD, Am.va, Nat.reduceAdd, Nat.reduceMul, Nat.reduceSub, Nat.reduceLT, Nat.reduceLeDiff, Nat.reduceEqDiff, Int.reduceAdd, Int.reduceLT, Int.reduceLE, Int.reduceNeg, reduceCtorEq, ↓reduceIte, tyfacts])
 intro i ⟨hi, hno⟩ ih
 (repeat (first | refine Vm.sk_region _ _ ?_ | simp (maxSteps := 10000000) (disch := first | assumption | (simp only [tyfacts, Vm.szO_eq, Am.vd, Nat.reduceEqDiff, Nat.reduceLT, Nat.reduceLeDiff, Nat.reduceMul, Nat.reduceAdd, reduceCtorEq]; try omega; done) | omega | (intro _; exact Vm.byRefl (by with_unfolding_all rfl))) only [Vm.wantedD, Am.va, Nat.reduceAdd, Nat.reduceMul, Nat.reduceSub, Nat.reduceLT, Nat.reduceLeDiff, Nat.reduceEqDiff, Int.reduceAdd, Int.reduceLT, Int.reduceLE, Int.reduceNeg, reduceCtorEq, ↓reduceIte, tyfacts]))
 refine Vm.sb_dec (fun hc => ?_) (fun hc => ?_)
 · have hj : i < n := by omega
   (repeat (first | refine Vm.sk_region _ _ ?_ | simp (maxSteps := 10000000) (disch := first | assumption | (simp only [tyfacts, Vm.szO_eq, Am.vd, Nat.reduceEqDiff, Nat.reduceLT, Nat.reduceLeDiff, Nat.reduceMul, Nat.reduceAdd, reduceCtorEq]; try omega; done) | omega | (intro _; exact Vm.byRefl (by with_unfolding_all rfl))) only [Vm.wantedD, Am.va, Nat.reduceAdd, Nat.reduceMul, Nat.reduceSub, Nat.reduceLT, Nat.reduceLeDiff, Nat.reduceEqDiff, Int.reduceAdd, Int.reduceLT, Int.reduceLE, Int.reduceNeg, reduceCtorEq, ↓reduceIte, tyfacts]))
   refine Vm.sk_loop (fun k : Nat => E.length - k) (fun k => ⟨[(0, .atom (.int .i64 n)), (1, .imm 2 ((castE E).map dE)), (2, .atom (.int .i64 x)), (3, .atom (.int .i64 t)), (4, .atom (.int .i64 left)), (11, .atom (.int .i64 i)), (12, .atom (.int .i64 k))], [], 52⟩)
    (fun k => k ≤ E.length ∧ ((x, i) ∈ E.take k → dist E i t ≠ left)) 0 ?_ ⟨by omega, fun h => by simp at h⟩ ?_
   · exact Vm.le_of2 (by rw [hG0]; exact Nat.zero_le _) rfl (by simp (maxSteps := 10000000) (disch := first | assumption | (simp only [tyfacts, Vm.szO_eq, Am.vd, Nat.reduceEqDiff, Nat.reduceLT, Nat.reduceLeDiff, Nat.reduceMul, Nat.reduceAdd, reduceCtorEq]; try omega; done) | omega | (intro _; exact Vm.byRefl (by with_unfolding_all rfl))) only [Vm.wantedD, Am.va, Nat.reduceAdd, Nat.reduceMul, Nat.reduceSub, Nat.reduceLT, Nat.reduceLeDiff, Nat.reduceEqDiff, Int.reduceAdd, Int.reduceLT, Int.reduceLE, Int.reduceNeg, reduceCtorEq, ↓reduceIte, tyfacts])
   intro k ⟨hk, hnk⟩ ih2
   have hcl := castE_len E
   (repeat (first | refine Vm.sk_region _ _ ?_ | simp (maxSteps := 10000000) (disch := first | assumption | (simp only [tyfacts, Vm.szO_eq, Am.vd, Nat.reduceEqDiff, Nat.reduceLT, Nat.reduceLeDiff, Nat.reduceMul, Nat.reduceAdd, reduceCtorEq]; try omega; done) | omega | (intro _; exact Vm.byRefl (by with_unfolding_all rfl))) only [Vm.wantedD, Am.va, Nat.reduceAdd, Nat.reduceMul, Nat.reduceSub, Nat.reduceLT, Nat.reduceLeDiff, Nat.reduceEqDiff, Int.reduceAdd, Int.reduceLT, Int.reduceLE, Int.reduceNeg, reduceCtorEq, ↓reduceIte, tyfacts, hcl]))
   refine Vm.sb_dec (fun hc2 => ?_) (fun hc2 => ?_)
   · have hk2 : k < E.length := by omega
     have hx := E_get hk2
     obtain ⟨h1, h2⟩ := hE _ (List.getElem_mem hk2)
     have htk : E.take (k + 1) = E.take k ++ [E[k]] := by rw [List.take_add_one, List.getElem?_eq_getElem hk2]; rfl
     have hmem : E[k] ∈ E := List.getElem_mem hk2
     generalize E[k] = p at hx h1 h2 htk hmem
     obtain ⟨p1, p2⟩ := p
     have goOn : ¬ (p1 = x ∧ p2 = i ∧ dist E i t = left) → ((x, i) ∈ E.take (k + 1) → dist E i t ≠ left) := fun hne hm => by
      rw [htk, List.mem_append, List.mem_singleton] at hm
      rcases hm with hm | hm
      · exact hnk hm
      · cases hm; exact fun h => hne ⟨rfl, rfl, h⟩
     simp only at hx h1 h2
     by_cases c1 : (p1 : Int) = (x : Int)
     · by_cases c2 : (p2 : Int) = (i : Int)
       · (repeat (first | refine Vm.sk_region _ _ ?_ | simp (maxSteps := 10000000) (disch := first | assumption | (simp only [tyfacts, Vm.szO_eq, Am.vd, Nat.reduceEqDiff, Nat.reduceLT, Nat.reduceLeDiff, Nat.reduceMul, Nat.reduceAdd, reduceCtorEq]; try omega; done) | omega | (intro _; exact Vm.byRefl (by with_unfolding_all rfl))) only [Vm.wantedD, Am.va, Nat.reduceAdd, Nat.reduceMul, Nat.reduceSub, Nat.reduceLT, Nat.reduceLeDiff, Nat.reduceEqDiff, Int.reduceAdd, Int.reduceLT, Int.reduceLE, Int.reduceNeg, reduceCtorEq, ↓reduceIte, tyfacts, hx, dE, c1, c2]))
         refine Vm.call_eq2 (refFar_v (n := n) (E := E) hE hn4 hlen i) ?_ ?_ <;> (repeat (first | refine Vm.sk_region _ _ ?_ | simp (maxSteps := 10000000) (disch := first | assumption | (simp only [tyfacts, Vm.szO_eq, Am.vd, Nat.reduceEqDiff, Nat.reduceLT, Nat.reduceLeDiff, Nat.reduceMul, Nat.reduceAdd, reduceCtorEq]; try omega; done) | omega | (intro _; exact Vm.byRefl (by with_unfolding_all rfl))) only [Vm.wantedD, Am.va, Nat.reduceAdd, Nat.reduceMul, Nat.reduceSub, Nat.reduceLT, Nat.reduceLeDiff, Nat.reduceEqDiff, Int.reduceAdd, Int.reduceLT, Int.reduceLE, Int.reduceNeg, reduceCtorEq, ↓reduceIte, tyfacts]))
         have hd := dist_get (n := n) (E := E) (x := i) ht
         have hdl := distL_len n E i
         (repeat (first | refine Vm.sk_region _ _ ?_ | simp (maxSteps := 10000000) (disch := first | assumption | (simp only [tyfacts, Vm.szO_eq, Am.vd, Nat.reduceEqDiff, Nat.reduceLT, Nat.reduceLeDiff, Nat.reduceMul, Nat.reduceAdd, reduceCtorEq]; try omega; done) | omega | (intro _; exact Vm.byRefl (by with_unfolding_all rfl))) only [Vm.wantedD, Am.va, Nat.reduceAdd, Nat.reduceMul, Nat.reduceSub, Nat.reduceLT, Nat.reduceLeDiff, Nat.reduceEqDiff, Int.reduceAdd, Int.reduceLT, Int.reduceLE, Int.reduceNeg, reduceCtorEq, ↓reduceIte, tyfacts, hd, dI]))
         refine Vm.sb_dec (fun c3 => ?_) (fun c3 => ?_)
         · (repeat (first | refine Vm.sk_region _ _ ?_ | simp (maxSteps := 10000000) (disch := first | assumption | (simp only [tyfacts, Vm.szO_eq, Am.vd, Nat.reduceEqDiff, Nat.reduceLT, Nat.reduceLeDiff, Nat.reduceMul, Nat.reduceAdd, reduceCtorEq]; try omega; done) | omega | (intro _; exact Vm.byRefl (by with_unfolding_all rfl))) only [Vm.wantedD, Am.va, Nat.reduceAdd, Nat.reduceMul, Nat.reduceSub, Nat.reduceLT, Nat.reduceLeDiff, Nat.reduceEqDiff, Int.reduceAdd, Int.reduceLT, Int.reduceLE, Int.reduceNeg, reduceCtorEq, ↓reduceIte, tyfacts]))
           refine Vm.ret_ok (by first | exact .inl rfl | exact .inr rfl) ?_
           simp (maxSteps := 10000000) (disch := first | assumption | (simp only [tyfacts, Vm.szO_eq, Am.vd, Nat.reduceEqDiff, Nat.reduceLT, Nat.reduceLeDiff, Nat.reduceMul, Nat.reduceAdd, reduceCtorEq]; try omega; done) | omega | (intro _; exact Vm.byRefl (by with_unfolding_all rfl))) only [Vm.wantedD, Am.va, Nat.reduceAdd, Nat.reduceMul, Nat.reduceSub, Nat.reduceLT, Nat.reduceLeDiff, Nat.reduceEqDiff, Int.reduceAdd, Int.reduceLT, Int.reduceLE, Int.reduceNeg, reduceCtorEq, ↓reduceIte, tyfacts]
           have hq : nextP E x t left i = true := by
            have e1 : p1 = x := by omega
            have e2 : p2 = i := by omega
            subst e1; subst e2
            simp only [nextP, hmem, decide_true, Bool.true_and, decide_eq_true_eq]; omega
           have hf : (List.range (i + 1)).find? (nextP E x t left) = some i := by rw [find_succ, hno, hq]; rfl
           rw [nextS, find_mono hf hj]; rfl
         · (repeat (first | refine Vm.sk_region _ _ ?_ | simp (maxSteps := 10000000) (disch := first | assumption | (simp only [tyfacts, Vm.szO_eq, Am.vd, Nat.reduceEqDiff, Nat.reduceLT, Nat.reduceLeDiff, Nat.reduceMul, Nat.reduceAdd, reduceCtorEq]; try omega; done) | omega | (intro _; exact Vm.byRefl (by with_unfolding_all rfl))) only [Vm.wantedD, Am.va, Nat.reduceAdd, Nat.reduceMul, Nat.reduceSub, Nat.reduceLT, Nat.reduceLeDiff, Nat.reduceEqDiff, Int.reduceAdd, Int.reduceLT, Int.reduceLE, Int.reduceNeg, reduceCtorEq, ↓reduceIte, tyfacts]))
           refine ih2 (k + 1) _ (by dsimp only; omega) ⟨by omega, goOn fun h => c3 (by omega)⟩ ?_
           exact Vm.le_of2 (by rw [hG0]; exact Nat.zero_le _) rfl (by simp (maxSteps := 10000000) (disch := first | assumption | (simp only [tyfacts, Vm.szO_eq, Am.vd, Nat.reduceEqDiff, Nat.reduceLT, Nat.reduceLeDiff, Nat.reduceMul, Nat.reduceAdd, reduceCtorEq]; try omega; done) | omega | (intro _; exact Vm.byRefl (by with_unfolding_all rfl))) only [Vm.wantedD, Am.va, Nat.reduceAdd, Nat.reduceMul, Nat.reduceSub, Nat.reduceLT, Nat.reduceLeDiff, Nat.reduceEqDiff, Int.reduceAdd, Int.reduceLT, Int.reduceLE, Int.reduceNeg, reduceCtorEq, ↓reduceIte, tyfacts])
       · (repeat (first | refine Vm.sk_region _ _ ?_ | simp (maxSteps := 10000000) (disch := first | assumption | (simp only [tyfacts, Vm.szO_eq, Am.vd, Nat.reduceEqDiff, Nat.reduceLT, Nat.reduceLeDiff, Nat.reduceMul, Nat.reduceAdd, reduceCtorEq]; try omega; done) | omega | (intro _; exact Vm.byRefl (by with_unfolding_all rfl))) only [Vm.wantedD, Am.va, Nat.reduceAdd, Nat.reduceMul, Nat.reduceSub, Nat.reduceLT, Nat.reduceLeDiff, Nat.reduceEqDiff, Int.reduceAdd, Int.reduceLT, Int.reduceLE, Int.reduceNeg, reduceCtorEq, ↓reduceIte, tyfacts, hx, dE, c1, c2]))
         refine ih2 (k + 1) _ (by dsimp only; omega) ⟨by omega, goOn fun h => c2 (by omega)⟩ ?_
         exact Vm.le_of2 (by rw [hG0]; exact Nat.zero_le _) rfl (by simp (maxSteps := 10000000) (disch := first | assumption | (simp only [tyfacts, Vm.szO_eq, Am.vd, Nat.reduceEqDiff, Nat.reduceLT, Nat.reduceLeDiff, Nat.reduceMul, Nat.reduceAdd, reduceCtorEq]; try omega; done) | omega | (intro _; exact Vm.byRefl (by with_unfolding_all rfl))) only [Vm.wantedD, Am.va, Nat.reduceAdd, Nat.reduceMul, Nat.reduceSub, Nat.reduceLT, Nat.reduceLeDiff, Nat.reduceEqDiff, Int.reduceAdd, Int.reduceLT, Int.reduceLE, Int.reduceNeg, reduceCtorEq, ↓reduceIte, tyfacts])
     · (repeat (first | refine Vm.sk_region _ _ ?_ | simp (maxSteps := 10000000) (disch := first | assumption | (simp only [tyfacts, Vm.szO_eq, Am.vd, Nat.reduceEqDiff, Nat.reduceLT, Nat.reduceLeDiff, Nat.reduceMul, Nat.reduceAdd, reduceCtorEq]; try omega; done) | omega | (intro _; exact Vm.byRefl (by with_unfolding_all rfl))) only [Vm.wantedD, Am.va, Nat.reduceAdd, Nat.reduceMul, Nat.reduceSub, Nat.reduceLT, Nat.reduceLeDiff, Nat.reduceEqDiff, Int.reduceAdd, Int.reduceLT, Int.reduceLE, Int.reduceNeg, reduceCtorEq, ↓reduceIte, tyfacts, hx, dE, c1]))
       refine ih2 (k + 1) _ (by dsimp only; omega) ⟨by omega, goOn fun h => c1 (by omega)⟩ ?_
       exact Vm.le_of2 (by rw [hG0]; exact Nat.zero_le _) rfl (by simp (maxSteps := 10000000) (disch := first | assumption | (simp only [tyfacts, Vm.szO_eq, Am.vd, Nat.reduceEqDiff, Nat.reduceLT, Nat.reduceLeDiff, Nat.reduceMul, Nat.reduceAdd, reduceCtorEq]; try omega; done) | omega | (intro _; exact Vm.byRefl (by with_unfolding_all rfl))) only [Vm.wantedD, Am.va, Nat.reduceAdd, Nat.reduceMul, Nat.reduceSub, Nat.reduceLT, Nat.reduceLeDiff, Nat.reduceEqDiff, Int.reduceAdd, Int.reduceLT, Int.reduceLE, Int.reduceNeg, reduceCtorEq, ↓reduceIte, tyfacts])
   · have hke : k = E.length := by omega
     subst hke
     rw [List.take_length] at hnk
     have hq : nextP E x t left i = false := by
      simp only [nextP, Bool.and_eq_false_iff, decide_eq_false_iff_not]
      by_cases h : (x, i) ∈ E
      · exact .inr (hnk h)
      · exact .inl h
     (repeat (first | refine Vm.sk_region _ _ ?_ | simp (maxSteps := 10000000) (disch := first | assumption | (simp only [tyfacts, Vm.szO_eq, Am.vd, Nat.reduceEqDiff, Nat.reduceLT, Nat.reduceLeDiff, Nat.reduceMul, Nat.reduceAdd, reduceCtorEq]; try omega; done) | omega | (intro _; exact Vm.byRefl (by with_unfolding_all rfl))) only [Vm.wantedD, Am.va, Nat.reduceAdd, Nat.reduceMul, Nat.reduceSub, Nat.reduceLT, Nat.reduceLeDiff, Nat.reduceEqDiff, Int.reduceAdd, Int.reduceLT, Int.reduceLE, Int.reduceNeg, reduceCtorEq, ↓reduceIte, tyfacts]))
     refine ih (i + 1) _ (by dsimp only; omega) ⟨by omega, by rw [find_succ, hno, hq]; rfl⟩ ?_
     exact Vm.le_of2 (by rw [hG0]; exact Nat.zero_le _) rfl (by simp (maxSteps := 10000000) (disch := first | assumption | (simp only [tyfacts, Vm.szO_eq, Am.vd, Nat.reduceEqDiff, Nat.reduceLT, Nat.reduceLeDiff, Nat.reduceMul, Nat.reduceAdd, reduceCtorEq]; try omega; done) | omega | (intro _; exact Vm.byRefl (by with_unfolding_all rfl))) only [Vm.wantedD, Am.va, Nat.reduceAdd, Nat.reduceMul, Nat.reduceSub, Nat.reduceLT, Nat.reduceLeDiff, Nat.reduceEqDiff, Int.reduceAdd, Int.reduceLT, Int.reduceLE, Int.reduceNeg, reduceCtorEq, ↓reduceIte, tyfacts])
 · have hie : i = n := by omega
   subst hie
   (repeat (first | refine Vm.sk_region _ _ ?_ | simp (maxSteps := 10000000) (disch := first | assumption | (simp only [tyfacts, Vm.szO_eq, Am.vd, Nat.reduceEqDiff, Nat.reduceLT, Nat.reduceLeDiff, Nat.reduceMul, Nat.reduceAdd, reduceCtorEq]; try omega; done) | omega | (intro _; exact Vm.byRefl (by with_unfolding_all rfl))) only [Vm.wantedD, Am.va, Nat.reduceAdd, Nat.reduceMul, Nat.reduceSub, Nat.reduceLT, Nat.reduceLeDiff, Nat.reduceEqDiff, Int.reduceAdd, Int.reduceLT, Int.reduceLE, Int.reduceNeg, reduceCtorEq, ↓reduceIte, tyfacts]))
   refine Vm.ret_ok (by first | exact .inl rfl | exact .inr rfl) ?_
   simp (maxSteps := 10000000) (disch := first | assumption | (simp only [tyfacts, Vm.szO_eq, Am.vd, Nat.reduceEqDiff, Nat.reduceLT, Nat.reduceLeDiff, Nat.reduceMul, Nat.reduceAdd, reduceCtorEq]; try omega; done) | omega | (intro _; exact Vm.byRefl (by with_unfolding_all rfl))) only [Vm.wantedD, Am.va, Nat.reduceAdd, Nat.reduceMul, Nat.reduceSub, Nat.reduceLT, Nat.reduceLeDiff, Nat.reduceEqDiff, Int.reduceAdd, Int.reduceLT, Int.reduceLE, Int.reduceNeg, reduceCtorEq, ↓reduceIte, tyfacts]
   rw [nextS, hno]; rfl
noncomputable def pathS (n : Nat) (E : Es) (t : Nat) : Nat → Nat → List Nat
 | 0, x => [x]
 | left + 1, x => x :: pathS n E t left (nextS n E x t (left + 1))
noncomputable def firstS (n : Nat) (E : Es) : Option Nat := (List.range n).find? fun s => decide (0 < dist E s s)
noncomputable def cycF (n : Int) (es : List (Int × Int)) : List Int × Int := if checkS n es ≠ 0 then ([], checkS n es) else match firstS n.toNat (natE es) with
 | some s => (castL (pathS n.toNat (natE es) s (dist (natE es) s s - 1) s), 0)
 | none => ([], 14)
theorem pathS_len (n : Nat) (E : Es) (t : Nat) : ∀ (m x : Nat), (pathS n E t m x).length = m + 1
 | 0, x => rfl
 | m + 1, x => by simp [pathS, pathS_len n E t m]
theorem pathS_zero (n : Nat) (E : Es) (t m x : Nat) : (pathS n E t m x)[0]? = some x := by cases m <;> rfl
theorem pathS_next (n : Nat) (E : Es) (t : Nat) : ∀ (m x j : Nat), j < m → (pathS n E t m x)[j + 1]? = ((pathS n E t m x)[j]?).map fun y => nextS n E y t (m - j)
 | m + 1, x, 0, _ => by simp [pathS, pathS_zero]
 | m + 1, x, j + 1, h => by
   have := pathS_next n E t m (nextS n E x t (m + 1)) j (by omega)
   simp only [pathS, List.getElem?_cons_succ]
   rw [this]; congr 2; funext y; congr 1; omega
theorem castL_get (o : List Nat) (j : Nat) {x : Nat} (h : o[j]? = some x) : ((castL o).map dI)[j]? = some (dI (x : Int)) := by simp [castL, h]
theorem refCycle_v {n : Int} {es : List (Int × Int)} (hlen : es.length < 1000000000) : Vm.VC T 17 [.atom (.int .i64 n), .imm 2 (es.map dE)] fun d => d = two_d (cycF n es) := by
 refine Vm.vc_enter (T := T) rfl Try.func17 rfl (by simp only [Try.f17, List.length_cons, List.length_nil]; decide) fun g hB hG0 => ?_
 simp only [Try.f17, Vm.argsTm_cons, Vm.argsTm_nil, Nat.reduceAdd]
 (repeat (first | refine Vm.sk_region _ _ ?_ | simp (maxSteps := 10000000) (disch := first | assumption | (simp only [tyfacts, Vm.szO_eq, Am.vd, Nat.reduceEqDiff, Nat.reduceLT, Nat.reduceLeDiff, Nat.reduceMul, Nat.reduceAdd, reduceCtorEq]; try omega; done) | omega | (intro _; exact Vm.byRefl (by with_unfolding_all rfl))) only [Vm.wantedD, Am.va, Nat.reduceAdd, Nat.reduceMul, Nat.reduceSub, Nat.reduceLT, Nat.reduceLeDiff, Nat.reduceEqDiff, Int.reduceAdd, Int.reduceLT, Int.reduceLE, Int.reduceNeg, reduceCtorEq, ↓reduceIte, tyfacts]))
 refine Vm.call_eq2 (refCheck_v (n := n) (es := es) hlen) ?_ ?_ <;> (repeat (first | refine Vm.sk_region _ _ ?_ | simp (maxSteps := 10000000) (disch := first | assumption | (simp only [tyfacts, Vm.szO_eq, Am.vd, Nat.reduceEqDiff, Nat.reduceLT, Nat.reduceLeDiff, Nat.reduceMul, Nat.reduceAdd, reduceCtorEq]; try omega; done) | omega | (intro _; exact Vm.byRefl (by with_unfolding_all rfl))) only [Vm.wantedD, Am.va, Nat.reduceAdd, Nat.reduceMul, Nat.reduceSub, Nat.reduceLT, Nat.reduceLeDiff, Nat.reduceEqDiff, Int.reduceAdd, Int.reduceLT, Int.reduceLE, Int.reduceNeg, reduceCtorEq, ↓reduceIte, tyfacts]))
 refine Vm.sb_dec (fun hc => ?_) (fun hc => ?_)
 · (repeat (first | refine Vm.sk_region _ _ ?_ | simp (maxSteps := 10000000) (disch := first | assumption | (simp only [tyfacts, Vm.szO_eq, Am.vd, Nat.reduceEqDiff, Nat.reduceLT, Nat.reduceLeDiff, Nat.reduceMul, Nat.reduceAdd, reduceCtorEq]; try omega; done) | omega | (intro _; exact Vm.byRefl (by with_unfolding_all rfl))) only [Vm.wantedD, Am.va, Nat.reduceAdd, Nat.reduceMul, Nat.reduceSub, Nat.reduceLT, Nat.reduceLeDiff, Nat.reduceEqDiff, Int.reduceAdd, Int.reduceLT, Int.reduceLE, Int.reduceNeg, reduceCtorEq, ↓reduceIte, tyfacts]))
   refine Vm.su_nil 4 1 (by simp (maxSteps := 10000000) (disch := first | assumption | (simp only [tyfacts, Vm.szO_eq, Am.vd, Nat.reduceEqDiff, Nat.reduceLT, Nat.reduceLeDiff, Nat.reduceMul, Nat.reduceAdd, reduceCtorEq]; try omega; done) | omega | (intro _; exact Vm.byRefl (by with_unfolding_all rfl))) only [Vm.wantedD, Am.va, Nat.reduceAdd, Nat.reduceMul, Nat.reduceSub, Nat.reduceLT, Nat.reduceLeDiff, Nat.reduceEqDiff, Int.reduceAdd, Int.reduceLT, Int.reduceLE, Int.reduceNeg, reduceCtorEq, ↓reduceIte, tyfacts]) ?_
   refine Vm.ret_ok (by first | exact .inl rfl | exact .inr rfl) ?_
   simp (maxSteps := 10000000) (disch := first | assumption | (simp only [tyfacts, Vm.szO_eq, Am.vd, Nat.reduceEqDiff, Nat.reduceLT, Nat.reduceLeDiff, Nat.reduceMul, Nat.reduceAdd, reduceCtorEq]; try omega; done) | omega | (intro _; exact Vm.byRefl (by with_unfolding_all rfl))) only [Vm.wantedD, Am.va, Nat.reduceAdd, Nat.reduceMul, Nat.reduceSub, Nat.reduceLT, Nat.reduceLeDiff, Nat.reduceEqDiff, Int.reduceAdd, Int.reduceLT, Int.reduceLE, Int.reduceNeg, reduceCtorEq, ↓reduceIte, tyfacts]
   simp only [cycF, if_pos hc, two_d, List.map_nil]
 obtain ⟨c1, c2, c3, c4, c5⟩ := check_zeroS (Classical.not_not.1 hc)
 have hrf : cycF n es = match firstS n.toNat (natE es) with
   | some s => (castL (pathS n.toNat (natE es) s (dist (natE es) s s - 1) s), 0)
   | none => ([], 14) := by rw [cycF, if_neg hc]
 rw [hrf]
 have hln : (natE es).length = es.length := by simp [natE]
 obtain ⟨m, rfl⟩ : ∃ m : Nat, n = (m : Int) := ⟨n.toNat, by omega⟩
 clear hrf hc
 simp only [Int.toNat_natCast] at c5 ⊢
 generalize natE es = E at c4 c5 hln ⊢
 subst c4
 (repeat (first | refine Vm.sk_region _ _ ?_ | simp (maxSteps := 10000000) (disch := first | assumption | (simp only [tyfacts, Vm.szO_eq, Am.vd, Nat.reduceEqDiff, Nat.reduceLT, Nat.reduceLeDiff, Nat.reduceMul, Nat.reduceAdd, reduceCtorEq]; try omega; done) | omega | (intro _; exact Vm.byRefl (by with_unfolding_all rfl))) only [Vm.wantedD, Am.va, Nat.reduceAdd, Nat.reduceMul, Nat.reduceSub, Nat.reduceLT, Nat.reduceLeDiff, Nat.reduceEqDiff, Int.reduceAdd, Int.reduceLT, Int.reduceLE, Int.reduceNeg, reduceCtorEq, ↓reduceIte, tyfacts]))
 refine Vm.sk_loop (fun s : Nat => m - s) (fun s => ⟨[(0, .atom (.int .i64 m)), (1, .imm 2 ((castE E).map dE)), (7, .atom (.int .i64 s))], [], 54⟩) (fun s => s ≤ m ∧ (List.range s).find? (fun s => decide (0 < dist E s s)) = none) 0 ?_ ⟨by omega, rfl⟩ ?_
 · exact Vm.le_of2 (by rw [hG0]; exact Nat.zero_le _) rfl (by simp (maxSteps := 10000000) (disch := first | assumption | (simp only [tyfacts, Vm.szO_eq, Am.vd, Nat.reduceEqDiff, Nat.reduceLT, Nat.reduceLeDiff, Nat.reduceMul, Nat.reduceAdd, reduceCtorEq]; try omega; done) | omega | (intro _; exact Vm.byRefl (by with_unfolding_all rfl))) only [Vm.wantedD, Am.va, Nat.reduceAdd, Nat.reduceMul, Nat.reduceSub, Nat.reduceLT, Nat.reduceLeDiff, Nat.reduceEqDiff, Int.reduceAdd, Int.reduceLT, Int.reduceLE, Int.reduceNeg, reduceCtorEq, ↓reduceIte, tyfacts])
 intro s ⟨hs, hno⟩ ih
 (repeat (first | refine Vm.sk_region _ _ ?_ | simp (maxSteps := 10000000) (disch := first | assumption | (simp only [tyfacts, Vm.szO_eq, Am.vd, Nat.reduceEqDiff, Nat.reduceLT, Nat.reduceLeDiff, Nat.reduceMul, Nat.reduceAdd, reduceCtorEq]; try omega; done) | omega | (intro _; exact Vm.byRefl (by with_unfolding_all rfl))) only [Vm.wantedD, Am.va, Nat.reduceAdd, Nat.reduceMul, Nat.reduceSub, Nat.reduceLT, Nat.reduceLeDiff, Nat.reduceEqDiff, Int.reduceAdd, Int.reduceLT, Int.reduceLE, Int.reduceNeg, reduceCtorEq, ↓reduceIte, tyfacts]))
 refine Vm.sb_dec (fun hq => ?_) (fun hq => ?_)
 · have hsm : s < m := by omega
   have hb := dist_bound c5 s s
   (repeat (first | refine Vm.sk_region _ _ ?_ | simp (maxSteps := 10000000) (disch := first | assumption | (simp only [tyfacts, Vm.szO_eq, Am.vd, Nat.reduceEqDiff, Nat.reduceLT, Nat.reduceLeDiff, Nat.reduceMul, Nat.reduceAdd, reduceCtorEq]; try omega; done) | omega | (intro _; exact Vm.byRefl (by with_unfolding_all rfl))) only [Vm.wantedD, Am.va, Nat.reduceAdd, Nat.reduceMul, Nat.reduceSub, Nat.reduceLT, Nat.reduceLeDiff, Nat.reduceEqDiff, Int.reduceAdd, Int.reduceLT, Int.reduceLE, Int.reduceNeg, reduceCtorEq, ↓reduceIte, tyfacts]))
   refine Vm.call_eq2 (refFar_v (n := m) (E := E) c5 (by omega) (by omega) s) ?_ ?_ <;> (repeat (first | refine Vm.sk_region _ _ ?_ | simp (maxSteps := 10000000) (disch := first | assumption | (simp only [tyfacts, Vm.szO_eq, Am.vd, Nat.reduceEqDiff, Nat.reduceLT, Nat.reduceLeDiff, Nat.reduceMul, Nat.reduceAdd, reduceCtorEq]; try omega; done) | omega | (intro _; exact Vm.byRefl (by with_unfolding_all rfl))) only [Vm.wantedD, Am.va, Nat.reduceAdd, Nat.reduceMul, Nat.reduceSub, Nat.reduceLT, Nat.reduceLeDiff, Nat.reduceEqDiff, Int.reduceAdd, Int.reduceLT, Int.reduceLE, Int.reduceNeg, reduceCtorEq, ↓reduceIte, tyfacts]))
   have hd := dist_get (n := m) (E := E) (x := s) hsm
   have hdl := distL_len m E s
   (repeat (first | refine Vm.sk_region _ _ ?_ | simp (maxSteps := 10000000) (disch := first | assumption | (simp only [tyfacts, Vm.szO_eq, Am.vd, Nat.reduceEqDiff, Nat.reduceLT, Nat.reduceLeDiff, Nat.reduceMul, Nat.reduceAdd, reduceCtorEq]; try omega; done) | omega | (intro _; exact Vm.byRefl (by with_unfolding_all rfl))) only [Vm.wantedD, Am.va, Nat.reduceAdd, Nat.reduceMul, Nat.reduceSub, Nat.reduceLT, Nat.reduceLeDiff, Nat.reduceEqDiff, Int.reduceAdd, Int.reduceLT, Int.reduceLE, Int.reduceNeg, reduceCtorEq, ↓reduceIte, tyfacts, hd, dI]))
   refine Vm.sb_dec (fun hz => ?_) (fun hz => ?_)
   · have hp : decide (0 < dist E s s) = false := by simp; omega
     (repeat (first | refine Vm.sk_region _ _ ?_ | simp (maxSteps := 10000000) (disch := first | assumption | (simp only [tyfacts, Vm.szO_eq, Am.vd, Nat.reduceEqDiff, Nat.reduceLT, Nat.reduceLeDiff, Nat.reduceMul, Nat.reduceAdd, reduceCtorEq]; try omega; done) | omega | (intro _; exact Vm.byRefl (by with_unfolding_all rfl))) only [Vm.wantedD, Am.va, Nat.reduceAdd, Nat.reduceMul, Nat.reduceSub, Nat.reduceLT, Nat.reduceLeDiff, Nat.reduceEqDiff, Int.reduceAdd, Int.reduceLT, Int.reduceLE, Int.reduceNeg, reduceCtorEq, ↓reduceIte, tyfacts]))
     refine ih (s + 1) _ (by dsimp only; omega) ⟨by omega, by rw [find_succ, hno, hp]; rfl⟩ ?_
     exact Vm.le_of2 (by rw [hG0]; exact Nat.zero_le _) rfl (by simp (maxSteps := 10000000) (disch := first | assumption | (simp only [tyfacts, Vm.szO_eq, Am.vd, Nat.reduceEqDiff, Nat.reduceLT, Nat.reduceLeDiff, Nat.reduceMul, Nat.reduceAdd, reduceCtorEq]; try omega; done) | omega | (intro _; exact Vm.byRefl (by with_unfolding_all rfl))) only [Vm.wantedD, Am.va, Nat.reduceAdd, Nat.reduceMul, Nat.reduceSub, Nat.reduceLT, Nat.reduceLeDiff, Nat.reduceEqDiff, Int.reduceAdd, Int.reduceLT, Int.reduceLE, Int.reduceNeg, reduceCtorEq, ↓reduceIte, tyfacts])
   have hp : decide (0 < dist E s s) = true := by simp; omega
   have hfs : firstS m E = some s := find_mono (i := s + 1) (by rw [find_succ, hno, hp]; rfl) hsm
   rw [hfs]
   simp only
   generalize hD : dist E s s = D at hb hz hp ⊢
   have hpl := pathS_len m E s (D - 1) s
   (repeat (first | refine Vm.sk_region _ _ ?_ | simp (maxSteps := 10000000) (disch := first | assumption | (simp only [tyfacts, Vm.szO_eq, Am.vd, Nat.reduceEqDiff, Nat.reduceLT, Nat.reduceLeDiff, Nat.reduceMul, Nat.reduceAdd, reduceCtorEq]; try omega; done) | omega | (intro _; exact Vm.byRefl (by with_unfolding_all rfl))) only [Vm.wantedD, Am.va, Nat.reduceAdd, Nat.reduceMul, Nat.reduceSub, Nat.reduceLT, Nat.reduceLeDiff, Nat.reduceEqDiff, Int.reduceAdd, Int.reduceLT, Int.reduceLE, Int.reduceNeg, reduceCtorEq, ↓reduceIte, tyfacts]))
   refine Vm.sk_loop (fun j : Nat => D - j) (fun j => ⟨[(0, .atom (.int .i64 m)), (1, .imm 2 ((castE E).map dE)), (7, .atom (.int .i64 s)), (8, .atom (.int .i64 D)), (9, .own 1 j)], [.sl 1 ((distL m E s).map dI), .sl 1 ((castL ((pathS m E s (D - 1) s).take j)).map dI)], 54⟩) (fun j => 0 < j ∧ j ≤ D) 1 ?_ ⟨by omega, by omega⟩ ?_
   · have ht : (pathS m E s (D - 1) s).take 1 = [s] := by
      have := pathS_zero m E s (D - 1) s
      cases h : pathS m E s (D - 1) s with
      | nil => rw [h] at this; cases this
      | cons a l => rw [h] at this; simp at this; simp [this]
     exact Vm.le_of2 (by rw [hG0]; exact Nat.zero_le _) rfl (by simp (maxSteps := 10000000) (disch := first | assumption | (simp only [tyfacts, Vm.szO_eq, Am.vd, Nat.reduceEqDiff, Nat.reduceLT, Nat.reduceLeDiff, Nat.reduceMul, Nat.reduceAdd, reduceCtorEq]; try omega; done) | omega | (intro _; exact Vm.byRefl (by with_unfolding_all rfl))) only [Vm.wantedD, Am.va, Nat.reduceAdd, Nat.reduceMul, Nat.reduceSub, Nat.reduceLT, Nat.reduceLeDiff, Nat.reduceEqDiff, Int.reduceAdd, Int.reduceLT, Int.reduceLE, Int.reduceNeg, reduceCtorEq, ↓reduceIte, tyfacts, ht, castL, dI])
   intro j ⟨hj0, hj⟩ ih2
   have hcl := castL_len ((pathS m E s (D - 1) s).take j)
   rw [List.length_take, hpl] at hcl
   (repeat (first | refine Vm.sk_region _ _ ?_ | simp (maxSteps := 10000000) (disch := first | assumption | (simp only [tyfacts, Vm.szO_eq, Am.vd, Nat.reduceEqDiff, Nat.reduceLT, Nat.reduceLeDiff, Nat.reduceMul, Nat.reduceAdd, reduceCtorEq]; try omega; done) | omega | (intro _; exact Vm.byRefl (by with_unfolding_all rfl))) only [Vm.wantedD, Am.va, Nat.reduceAdd, Nat.reduceMul, Nat.reduceSub, Nat.reduceLT, Nat.reduceLeDiff, Nat.reduceEqDiff, Int.reduceAdd, Int.reduceLT, Int.reduceLE, Int.reduceNeg, reduceCtorEq, ↓reduceIte, tyfacts]))
   refine Vm.sb_dec (fun hq2 => ?_) (fun hq2 => ?_)
   · obtain ⟨i, rfl⟩ : ∃ i, j = i + 1 := ⟨j - 1, by omega⟩
     have hi : i < D - 1 := by omega
     have hlt : i < (pathS m E s (D - 1) s).length := by omega
     have hg : (pathS m E s (D - 1) s)[i]? = some (pathS m E s (D - 1) s)[i] := List.getElem?_eq_getElem hlt
     have hnx := pathS_next m E s (D - 1) s i hi
     rw [hg, Option.map_some] at hnx
     have htk : (pathS m E s (D - 1) s).take (i + 1 + 1) = (pathS m E s (D - 1) s).take (i + 1) ++ [nextS m E (pathS m E s (D - 1) s)[i] s (D - 1 - i)] := by rw [List.take_add_one, hnx]; rfl
     have hg2 : ((pathS m E s (D - 1) s).take (i + 1))[i]? = some (pathS m E s (D - 1) s)[i] := by rw [List.getElem?_take, if_pos (by omega), hg]
     generalize (pathS m E s (D - 1) s)[i] = y at hg hg2 hnx htk
     have hcg := castL_get _ _ hg2
     have e1 : ((i : Int) + 1 - 1).toNat = i := by omega
     have e2 : (D : Int) - ((i : Int) + 1) = ((D - 1 - i : Nat) : Int) := by omega
     (repeat (first | refine Vm.sk_region _ _ ?_ | simp (maxSteps := 10000000) (disch := first | assumption | (simp only [tyfacts, Vm.szO_eq, Am.vd, Nat.reduceEqDiff, Nat.reduceLT, Nat.reduceLeDiff, Nat.reduceMul, Nat.reduceAdd, reduceCtorEq]; try omega; done) | omega | (intro _; exact Vm.byRefl (by with_unfolding_all rfl))) only [Vm.wantedD, Am.va, Nat.reduceAdd, Nat.reduceMul, Nat.reduceSub, Nat.reduceLT, Nat.reduceLeDiff, Nat.reduceEqDiff, Int.reduceAdd, Int.reduceLT, Int.reduceLE, Int.reduceNeg, reduceCtorEq, ↓reduceIte, tyfacts, e1, hcg, dI, e2]))
     refine Vm.call_eq2 (refNext_v (n := m) (E := E) c5 (by omega) (by omega) y (t := s) hsm (D - 1 - i)) ?_ ?_ <;> (repeat (first | refine Vm.sk_region _ _ ?_ | simp (maxSteps := 10000000) (disch := first | assumption | (simp only [tyfacts, Vm.szO_eq, Am.vd, Nat.reduceEqDiff, Nat.reduceLT, Nat.reduceLeDiff, Nat.reduceMul, Nat.reduceAdd, reduceCtorEq]; try omega; done) | omega | (intro _; exact Vm.byRefl (by with_unfolding_all rfl))) only [Vm.wantedD, Am.va, Nat.reduceAdd, Nat.reduceMul, Nat.reduceSub, Nat.reduceLT, Nat.reduceLeDiff, Nat.reduceEqDiff, Int.reduceAdd, Int.reduceLT, Int.reduceLE, Int.reduceNeg, reduceCtorEq, ↓reduceIte, tyfacts]))
     refine ih2 (i + 1 + 1) _ (by dsimp only; omega) ⟨by omega, by omega⟩ ?_
     exact Vm.le_of2 (by rw [hG0]; exact Nat.zero_le _) rfl (by simp (maxSteps := 10000000) (disch := first | assumption | (simp only [tyfacts, Vm.szO_eq, Am.vd, Nat.reduceEqDiff, Nat.reduceLT, Nat.reduceLeDiff, Nat.reduceMul, Nat.reduceAdd, reduceCtorEq]; try omega; done) | omega | (intro _; exact Vm.byRefl (by with_unfolding_all rfl))) only [Vm.wantedD, Am.va, Nat.reduceAdd, Nat.reduceMul, Nat.reduceSub, Nat.reduceLT, Nat.reduceLeDiff, Nat.reduceEqDiff, Int.reduceAdd, Int.reduceLT, Int.reduceLE, Int.reduceNeg, reduceCtorEq, ↓reduceIte, tyfacts, htk, castL_snoc, List.map_append, dI])
   · obtain rfl : j = D := by omega
     have ht : (pathS m E s (j - 1) s).take j = pathS m E s (j - 1) s := List.take_of_length_le (by omega)
     rw [ht] at hcl ⊢
     (repeat (first | refine Vm.sk_region _ _ ?_ | simp (maxSteps := 10000000) (disch := first | assumption | (simp only [tyfacts, Vm.szO_eq, Am.vd, Nat.reduceEqDiff, Nat.reduceLT, Nat.reduceLeDiff, Nat.reduceMul, Nat.reduceAdd, reduceCtorEq]; try omega; done) | omega | (intro _; exact Vm.byRefl (by with_unfolding_all rfl))) only [Vm.wantedD, Am.va, Nat.reduceAdd, Nat.reduceMul, Nat.reduceSub, Nat.reduceLT, Nat.reduceLeDiff, Nat.reduceEqDiff, Int.reduceAdd, Int.reduceLT, Int.reduceLE, Int.reduceNeg, reduceCtorEq, ↓reduceIte, tyfacts]))
     refine Vm.ret_ok (by first | exact .inl rfl | exact .inr rfl) ?_
     simp (maxSteps := 10000000) (disch := first | assumption | (simp only [tyfacts, Vm.szO_eq, Am.vd, Nat.reduceEqDiff, Nat.reduceLT, Nat.reduceLeDiff, Nat.reduceMul, Nat.reduceAdd, reduceCtorEq]; try omega; done) | omega | (intro _; exact Vm.byRefl (by with_unfolding_all rfl))) only [Vm.wantedD, Am.va, Nat.reduceAdd, Nat.reduceMul, Nat.reduceSub, Nat.reduceLT, Nat.reduceLeDiff, Nat.reduceEqDiff, Int.reduceAdd, Int.reduceLT, Int.reduceLE, Int.reduceNeg, reduceCtorEq, ↓reduceIte, tyfacts]
     rfl
 · have hsm : s = m := by omega
   subst hsm
   (repeat (first | refine Vm.sk_region _ _ ?_ | simp (maxSteps := 10000000) (disch := first | assumption | (simp only [tyfacts, Vm.szO_eq, Am.vd, Nat.reduceEqDiff, Nat.reduceLT, Nat.reduceLeDiff, Nat.reduceMul, Nat.reduceAdd, reduceCtorEq]; try omega; done) | omega | (intro _; exact Vm.byRefl (by with_unfolding_all rfl))) only [Vm.wantedD, Am.va, Nat.reduceAdd, Nat.reduceMul, Nat.reduceSub, Nat.reduceLT, Nat.reduceLeDiff, Nat.reduceEqDiff, Int.reduceAdd, Int.reduceLT, Int.reduceLE, Int.reduceNeg, reduceCtorEq, ↓reduceIte, tyfacts]))
   refine Vm.su_nil 4 1 (by simp (maxSteps := 10000000) (disch := first | assumption | (simp only [tyfacts, Vm.szO_eq, Am.vd, Nat.reduceEqDiff, Nat.reduceLT, Nat.reduceLeDiff, Nat.reduceMul, Nat.reduceAdd, reduceCtorEq]; try omega; done) | omega | (intro _; exact Vm.byRefl (by with_unfolding_all rfl))) only [Vm.wantedD, Am.va, Nat.reduceAdd, Nat.reduceMul, Nat.reduceSub, Nat.reduceLT, Nat.reduceLeDiff, Nat.reduceEqDiff, Int.reduceAdd, Int.reduceLT, Int.reduceLE, Int.reduceNeg, reduceCtorEq, ↓reduceIte, tyfacts]) ?_
   refine Vm.ret_ok (by first | exact .inl rfl | exact .inr rfl) ?_
   simp (maxSteps := 10000000) (disch := first | assumption | (simp only [tyfacts, Vm.szO_eq, Am.vd, Nat.reduceEqDiff, Nat.reduceLT, Nat.reduceLeDiff, Nat.reduceMul, Nat.reduceAdd, reduceCtorEq]; try omega; done) | omega | (intro _; exact Vm.byRefl (by with_unfolding_all rfl))) only [Vm.wantedD, Am.va, Nat.reduceAdd, Nat.reduceMul, Nat.reduceSub, Nat.reduceLT, Nat.reduceLeDiff, Nat.reduceEqDiff, Int.reduceAdd, Int.reduceLT, Int.reduceLE, Int.reduceNeg, reduceCtorEq, ↓reduceIte, tyfacts]
   rw [show firstS s E = none from hno]
   rfl
end Go.Proofs.Ytbhgjikjdblgeaa.W
