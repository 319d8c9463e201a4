import Derived.Test.YtbhgjikjdblgeaaGkD
import Derived.Test.YtbhgjikjdblgeaaGkA
import Derived.Test.YtbhgjikjdblgeaaVmC
import Derived.Test.YtbhgjikjdblgeaaScs
set_option linter.unusedSimpArgs false
set_option linter.unusedVariables false
set_option maxRecDepth 8000
/- The program's order. No conditions. -/
namespace Go.Proofs.Ytbhgjikjdblgeaa.W
open Go.Am Go.Am.Ord Go.Am.Scc
/-! ### The heap, as a walk in depth meets it -/
theorem iface_args {P : Nat → Prop} {H : Heap} {μ : List Vm.Hd} {t : TypeId} {k : Nat} {v : V} {F : List Nat} (h : Vm.RL P H μ [.iface t (.rptr k 0)] [v] F) : ∃ p, v = .iface t p ∧ Vm.RL P H μ [.rptr k 0] [p] [] := by
 obtain ⟨w, rfl, q⟩ := h.ifaceInv
 obtain ⟨rfl, _⟩ := q.rptrInv
 exact ⟨w, rfl, q⟩
theorem heapPush_v {so : List Vm.Ob} {k j : Nat} {ns : List Int} (hkj : k ≠ j) (hk : so[k]? = some (.cell [.own j ns.length])) (hj : so[j]? = some (.sl 1 (ns.map dI))) (hh : Hp.IsHeap ns ns.length) (x : Int) (hl : ns.length < 100000) :
  Vm.VM T 34 [.iface 55 (.rptr k 0), .iface 3 (.atom (.int .i64 x))] so fun d so' => ∃ ns', ns'.Perm (x :: ns) ∧ Hp.IsHeap ns' ns'.length ∧ so' = ((so.set j .dead).set k (.cell [.own so.length ns'.length])) ++ [.sl 1 (ns'.map dI)] := by
 have := Vm.vm_cell (T := T) (f := 34) (rows := ns.map cI) (s := 1) (mk := fun p => [.iface 55 p, .iface 3 (.int .i64 x)]) (ds := [.iface 55 (.rptr k 0), .iface 3 (.atom (.int .i64 x))])
  (R := fun d rows' => ∃ ns' : List Int, rows' = ns'.map cI ∧ d = .unk ∧ ns'.Perm (x :: ns) ∧ Hp.IsHeap ns' ns'.length) hkj (by rw [List.length_map]; exact hk) (by rw [aR_I]; exact hj) ?_ ?_
 · refine this.mono fun d s ⟨rows', ⟨ns', h1, h2, h3, h4⟩, h5⟩ => ⟨ns', h3, h4, ?_⟩
   subst h1
   rw [h5, aR_I, List.length_map]
 · intro P H μ vs h
   obtain ⟨u, us, F1, F2, rfl, hF, q1, q2⟩ := h.uncons
   obtain ⟨w, rfl, q3⟩ := q2.one
   obtain ⟨p, rfl, q4⟩ := iface_args q1
   obtain ⟨z, rfl, q5⟩ := q3.ifaceInv
   rw [q5.atomInv.2]
   exact ⟨p, rfl, q4⟩
 · intro H p v wf gp m np
   refine (heapPush ⟨wf, gp, m, np, by omega, Nat.zero_le _⟩ hh x hl).mono fun r H' ⟨v', ns', hp, h1, h2, h3, h4⟩ => ?_
   exact ⟨v', _, .unk, ⟨ns', rfl, rfl, h1, h2⟩, fun P μ => .unk .nil, hp.ptr, hp.mine.lower (Nat.zero_le _), cI_all _, hp.pn, h3, h4⟩
theorem heapPop_v {so : List Vm.Ob} {k j : Nat} {ns : List Int} (hkj : k ≠ j) (hk : so[k]? = some (.cell [.own j ns.length])) (hj : so[j]? = some (.sl 1 (ns.map dI))) (hh : Hp.IsHeap ns ns.length) (h0 : ns ≠ []) (hl : ns.length < 100000) :
  Vm.VM T 36 [.iface 55 (.rptr k 0)] so fun d so' => ∃ m ns', d = .iface 3 (.atom (.int .i64 m)) ∧ ns.Perm (m :: ns') ∧ Hp.IsHeap ns' ns'.length ∧ (∀ y, y ∈ ns → m ≤ y) ∧ so' = ((so.set j .dead).set k (.cell [.own so.length ns'.length])) ++ [.sl 1 (ns'.map dI)] := by
 have := Vm.vm_cell (T := T) (f := 36) (rows := ns.map cI) (s := 1) (mk := fun p => [.iface 55 p]) (ds := [.iface 55 (.rptr k 0)])
  (R := fun d rows' => ∃ (m : Int) (ns' : List Int), rows' = ns'.map cI ∧ d = .iface 3 (.atom (.int .i64 m)) ∧ ns.Perm (m :: ns') ∧ Hp.IsHeap ns' ns'.length ∧ (∀ y, y ∈ ns → m ≤ y)) hkj (by rw [List.length_map]; exact hk) (by rw [aR_I]; exact hj) ?_ ?_
 · refine this.mono fun d s ⟨rows', ⟨m, ns', h1, h2, h3, h4, h6⟩, h5⟩ => ⟨m, ns', h2, h3, h4, h6, ?_⟩
   subst h1
   rw [h5, aR_I, List.length_map]
 · intro P H μ vs h
   obtain ⟨u, rfl, q1⟩ := h.one
   obtain ⟨p, rfl, q4⟩ := iface_args q1
   exact ⟨p, rfl, q4⟩
 · intro H p v wf gp m np
   refine (heapPop ⟨wf, gp, m, np, by omega, Nat.zero_le _⟩ hh h0 hl).mono fun r H' ⟨x, v', ns', hr, hp, h1, h2, h5, h3, h4⟩ => ?_
   subst hr
   exact ⟨v', _, _, ⟨x, ns', rfl, rfl, h1, h2, h5⟩, fun P μ => (Vm.RL.atom1 _).iface1, hp.ptr, hp.mine.lower (Nat.zero_le _), cI_all _, hp.pn, h3, h4⟩
theorem sccLen_v (ns : List Int) : Vm.VC T 35 [.imm 1 (ns.map dI)] fun d => d = .atom (.int .i64 ns.length) := by
 refine Vm.vc_enter (T := T) rfl Try.func35 rfl (by simp only [Try.f35, List.length_cons, List.length_nil]; decide) fun g hB hG0 => ?_
 simp only [Try.f35, Vm.argsTm_cons, Vm.argsTm_nil, Nat.reduceAdd]
 (repeat (first | with_reducible refine Vm.sk_region _ _ ?_ | simp (maxSteps := 10000000) (disch := first | assumption | (simp only [tyfacts, Vm.szO_eq, Am.vd, Nat.reduceEqDiff, Nat.reduceLT, Nat.reduceLeDiff, Nat.reduceMul, Nat.reduceAdd, reduceCtorEq]; try omega; done) | omega | (intro _; exact Vm.byRefl (by with_unfolding_all rfl))) only [Vm.wantedD, Am.va, Nat.reduceAdd, Nat.reduceMul, Nat.reduceSub, Nat.reduceLT, Nat.reduceLeDiff, Nat.reduceEqDiff, Int.reduceAdd, Int.reduceLT, Int.reduceLE, Int.reduceNeg, reduceCtorEq, ↓reduceIte, tyfacts]))
 refine Vm.ret_ok (by first | exact .inl rfl | exact .inr rfl) ?_
 simp (maxSteps := 10000000) (disch := first | assumption | (simp only [tyfacts, Vm.szO_eq, Am.vd, Nat.reduceEqDiff, Nat.reduceLT, Nat.reduceLeDiff, Nat.reduceMul, Nat.reduceAdd, reduceCtorEq]; try omega; done) | omega | (intro _; exact Vm.byRefl (by with_unfolding_all rfl))) only [Vm.wantedD, Am.va, Nat.reduceAdd, Nat.reduceMul, Nat.reduceSub, Nat.reduceLT, Nat.reduceLeDiff, Nat.reduceEqDiff, Int.reduceAdd, Int.reduceLT, Int.reduceLE, Int.reduceNeg, reduceCtorEq, ↓reduceIte, tyfacts]
theorem row_get {n : Nat} {E : Es} {i : Nat} (h : i < n) : (gD (graph n E))[i]? = some [.imm 1 ((castL (adj n E i)).map dI)] := by
 simp [gD, graph, h]
theorem gD_len (n : Nat) (E : Es) : (gD (graph n E)).length = n := by simp [gD, graph]
theorem tabD_get {n k : Nat} {f : Nat → Nat} (h : k < n) : ((tabF n f).map dI)[k]? = some (dI (f k : Int)) := by simp [tabF, h]
theorem tabD_set {n x : Nat} {f g : Nat → Nat} (hx : x < n) (z : Int) (h : z = (g x : Int)) (h2 : ∀ y, y < n → y ≠ x → g y = f y) : ((tabF n f).map dI).set x [.atom (.int .i64 z)] = (tabF n g).map dI := by
 apply List.ext_getElem
 · simp [tabF]
 · intro j h1 h3
   have hj : j < n := by simpa [tabF] using h3
   simp only [tabF, List.getElem_set, List.getElem_map, List.getElem_range, dI]
   by_cases e : x = j
   · subst e; rw [if_pos rfl, h]
   · rw [if_neg e, h2 j hj fun h => e h.symm]
theorem tabD_zero (n : Nat) : List.replicate n [Vm.D.atom (.int .i64 0)] = (tabF n fun _ => 0).map dI := by
 apply List.ext_getElem
 · simp [tabF]
 · intro j h1 h2; simp [tabF, dI]
def Ready (n : Nat) (E : Es) (out : List Nat) (ns : List Int) : Prop := ns.Nodup ∧ ∀ z : Int, z ∈ ns ↔ ∃ k : Nat, k < n ∧ z = k ∧ out.contains k = false ∧ W n E out k = 0
def cntM (E : Es) (i : Nat) (S : List Nat) (k : Nat) : Nat := cntTo E i k + if k ∈ S then 1 else 0
def decM (n : Nat) (E : Es) (out S : List Nat) (k : Nat) : Nat := W n E out k - if k ∈ S then 1 else 0
theorem waits_W {n : Nat} {E : Es} (hE : ∀ p, p ∈ E → p.1 < n ∧ p.2 < n) (out : List Nat) (k : Nat) : waitsF E (fun k => out.contains k) k = false ↔ W n E out k = 0 := by
 rw [W_zero hE, waitsF, List.any_eq_false]
 constructor
 · intro h x hx
   have := h _ hx
   cases hc : out.contains x
   · simp at this hc; exact absurd this hc
   · rfl
 · rintro h ⟨a, b⟩ hp
   by_cases e : b = k
   · subst e
     have := h a hp
     simp only [this]; simp
   · simp [e]
theorem step_ready {n : Nat} {E : Es} (hE : ∀ p, p ∈ E → p.1 < n ∧ p.2 < n) {out : List Nat} {i : Nat} (hi : i < n) (ho : out.contains i = false) (hw : W n E out i = 0)
  (hmin : ∀ k, k < n → out.contains k = false → W n E out k = 0 → i ≤ k) : stepS n E out = some i := by
 have hp : ∀ k, k < n → (stepP E out k = true ↔ out.contains k = false ∧ W n E out k = 0) := fun k hk => by
  simp only [stepP, Bool.and_eq_true, Bool.not_eq_true', waits_W hE]
 have hno : (List.range i).find? (stepP E out) = none := List.find?_eq_none.2 fun k hk h => by
  have hk := List.mem_range.1 hk
  obtain ⟨h1, h2⟩ := (hp k (by omega)).1 h
  have := hmin k (by omega) h1 h2; omega
 exact find_mono (i := i + 1) (by rw [find_succ, hno, (hp i hi).2 ⟨ho, hw⟩]; rfl) hi
theorem step_none {n : Nat} {E : Es} (hE : ∀ p, p ∈ E → p.1 < n ∧ p.2 < n) {out : List Nat} (h : ∀ k, k < n → out.contains k = false → W n E out k ≠ 0) : stepS n E out = none :=
 List.find?_eq_none.2 fun k hk hp => by
  simp only [stepP, Bool.and_eq_true, Bool.not_eq_true', waits_W hE] at hp
  exact h k (List.mem_range.1 hk) hp.1 hp.2
theorem sccOrder_v {n : Int} {es : List (Int × Int)} (hlen : es.length < 1000000000) : Vm.VC T 14 [.atom (.int .i64 n), .imm 2 (es.map dE)] fun d => d = two_d (ordF n es) := by
 refine Vm.vc_enter (T := T) rfl Try.func14 rfl (by simp only [Try.f14, List.length_cons, List.length_nil]; decide) fun g hB hG0 => ?_
 simp only [Try.f14, Vm.argsTm_cons, Vm.argsTm_nil, Nat.reduceAdd]
 (repeat (first | with_reducible refine Vm.sk_region _ _ ?_ | simp (maxSteps := 10000000) (disch := first | assumption | (simp only [tyfacts, Vm.szO_eq, Am.vd, Nat.reduceEqDiff, Nat.reduceLT, Nat.reduceLeDiff, Nat.reduceMul, Nat.reduceAdd, reduceCtorEq]; try omega; done) | omega | (intro _; exact Vm.byRefl (by with_unfolding_all rfl))) only [Vm.wantedD, Am.va, Nat.reduceAdd, Nat.reduceMul, Nat.reduceSub, Nat.reduceLT, Nat.reduceLeDiff, Nat.reduceEqDiff, Int.reduceAdd, Int.reduceLT, Int.reduceLE, Int.reduceNeg, reduceCtorEq, ↓reduceIte, tyfacts]))
 refine Vm.call_eq2 (sccCheck_v (n := n) (es := es) hlen) ?_ ?_ <;> (repeat (first | with_reducible refine Vm.sk_region _ _ ?_ | simp (maxSteps := 10000000) (disch := first | assumption | (simp only [tyfacts, Vm.szO_eq, Am.vd, Nat.reduceEqDiff, Nat.reduceLT, Nat.reduceLeDiff, Nat.reduceMul, Nat.reduceAdd, reduceCtorEq]; try omega; done) | omega | (intro _; exact Vm.byRefl (by with_unfolding_all rfl))) only [Vm.wantedD, Am.va, Nat.reduceAdd, Nat.reduceMul, Nat.reduceSub, Nat.reduceLT, Nat.reduceLeDiff, Nat.reduceEqDiff, Int.reduceAdd, Int.reduceLT, Int.reduceLE, Int.reduceNeg, reduceCtorEq, ↓reduceIte, tyfacts]))
 refine Vm.sb_dec (fun hc => ?_) (fun hc => ?_)
 · (repeat (first | with_reducible refine Vm.sk_region _ _ ?_ | simp (maxSteps := 10000000) (disch := first | assumption | (simp only [tyfacts, Vm.szO_eq, Am.vd, Nat.reduceEqDiff, Nat.reduceLT, Nat.reduceLeDiff, Nat.reduceMul, Nat.reduceAdd, reduceCtorEq]; try omega; done) | omega | (intro _; exact Vm.byRefl (by with_unfolding_all rfl))) only [Vm.wantedD, Am.va, Nat.reduceAdd, Nat.reduceMul, Nat.reduceSub, Nat.reduceLT, Nat.reduceLeDiff, Nat.reduceEqDiff, Int.reduceAdd, Int.reduceLT, Int.reduceLE, Int.reduceNeg, reduceCtorEq, ↓reduceIte, tyfacts]))
   refine Vm.su_nil 4 1 (by simp (maxSteps := 10000000) (disch := first | assumption | (simp only [tyfacts, Vm.szO_eq, Am.vd, Nat.reduceEqDiff, Nat.reduceLT, Nat.reduceLeDiff, Nat.reduceMul, Nat.reduceAdd, reduceCtorEq]; try omega; done) | omega | (intro _; exact Vm.byRefl (by with_unfolding_all rfl))) only [Vm.wantedD, Am.va, Nat.reduceAdd, Nat.reduceMul, Nat.reduceSub, Nat.reduceLT, Nat.reduceLeDiff, Nat.reduceEqDiff, Int.reduceAdd, Int.reduceLT, Int.reduceLE, Int.reduceNeg, reduceCtorEq, ↓reduceIte, tyfacts]) ?_
   refine Vm.ret_ok (by first | exact .inl rfl | exact .inr rfl) ?_
   simp (maxSteps := 10000000) (disch := first | assumption | (simp only [tyfacts, Vm.szO_eq, Am.vd, Nat.reduceEqDiff, Nat.reduceLT, Nat.reduceLeDiff, Nat.reduceMul, Nat.reduceAdd, reduceCtorEq]; try omega; done) | omega | (intro _; exact Vm.byRefl (by with_unfolding_all rfl))) only [Vm.wantedD, Am.va, Nat.reduceAdd, Nat.reduceMul, Nat.reduceSub, Nat.reduceLT, Nat.reduceLeDiff, Nat.reduceEqDiff, Int.reduceAdd, Int.reduceLT, Int.reduceLE, Int.reduceNeg, reduceCtorEq, ↓reduceIte, tyfacts]
   simp only [ordF, if_pos hc, two_d, List.map_nil]
 obtain ⟨c1, c2, c3, c4, c5⟩ := check_zeroS (Classical.not_not.1 hc)
 have hrf : ordF n es = match goS n.toNat (natE es) n.toNat [] with
   | some o => (castL o, 0)
   | none => ([], 17) := by rw [ordF, if_neg hc]; rfl
 rw [hrf]
 have hln : (natE es).length = es.length := by simp [natE]
 obtain ⟨m, rfl⟩ : ∃ m : Nat, n = (m : Int) := ⟨n.toNat, by omega⟩
 clear hrf hc
 simp only [Int.toNat_natCast] at c5 ⊢
 generalize natE es = E at c4 c5 hln ⊢
 subst c4
 (repeat (first | with_reducible refine Vm.sk_region _ _ ?_ | simp (maxSteps := 10000000) (disch := first | assumption | (simp only [tyfacts, Vm.szO_eq, Am.vd, Nat.reduceEqDiff, Nat.reduceLT, Nat.reduceLeDiff, Nat.reduceMul, Nat.reduceAdd, reduceCtorEq]; try omega; done) | omega | (intro _; exact Vm.byRefl (by with_unfolding_all rfl))) only [Vm.wantedD, Am.va, Nat.reduceAdd, Nat.reduceMul, Nat.reduceSub, Nat.reduceLT, Nat.reduceLeDiff, Nat.reduceEqDiff, Int.reduceAdd, Int.reduceLT, Int.reduceLE, Int.reduceNeg, reduceCtorEq, ↓reduceIte, tyfacts]))
 refine Vm.sk_draw 10 [0, 1, 2, 3, 4, 5, 6, 7, 8, 9] (by kernel_rfl) (by kernel_rfl) (by decide) ?_
 (repeat (first | with_reducible refine Vm.sk_region _ _ ?_ | simp (maxSteps := 10000000) (disch := first | assumption | (simp only [tyfacts, Vm.szO_eq, Am.vd, Nat.reduceEqDiff, Nat.reduceLT, Nat.reduceLeDiff, Nat.reduceMul, Nat.reduceAdd, reduceCtorEq]; try omega; done) | omega | (intro _; exact Vm.byRefl (by with_unfolding_all rfl))) only [Vm.wantedD, Am.va, Nat.reduceAdd, Nat.reduceMul, Nat.reduceSub, Nat.reduceLT, Nat.reduceLeDiff, Nat.reduceEqDiff, Int.reduceAdd, Int.reduceLT, Int.reduceLE, Int.reduceNeg, reduceCtorEq, ↓reduceIte, tyfacts]))
 refine Vm.call_eqI2 (sccMade_v (n := m) (E := E) c5 (by omega) (by omega)) ?_ ?_ <;> (repeat (first | with_reducible refine Vm.sk_region _ _ ?_ | simp (maxSteps := 10000000) (disch := first | assumption | (simp only [tyfacts, Vm.szO_eq, Am.vd, Nat.reduceEqDiff, Nat.reduceLT, Nat.reduceLeDiff, Nat.reduceMul, Nat.reduceAdd, reduceCtorEq]; try omega; done) | omega | (intro _; exact Vm.byRefl (by with_unfolding_all rfl))) only [Vm.wantedD, Am.va, Nat.reduceAdd, Nat.reduceMul, Nat.reduceSub, Nat.reduceLT, Nat.reduceLeDiff, Nat.reduceEqDiff, Int.reduceAdd, Int.reduceLT, Int.reduceLE, Int.reduceNeg, reduceCtorEq, ↓reduceIte, tyfacts, tabD_zero, gD_len]))
 have W0 := W_le m E
 -- how many lead to each
 refine Vm.sk_loop (fun i : Nat => m - i) (fun i => ⟨[(0, .atom (.int .i64 m)), (4, .atom .nilSlice), (6, .imm 1 (gD (graph m E))), (7, .own 0 m), (8, .rptr 2 0), (31, .imm 1 (gD (graph m E))), (32, .atom (.int .i64 m)), (33, .atom (.int .i64 i))], [.sl 1 ((tabF m (cntTo E i)).map dI), .sl 1 [], .cell [.own 1 0]], 110⟩)
  (fun i => i ≤ m) 0 ?_ (by omega) ?_
 · have e : tabF m (cntTo E 0) = tabF m fun _ => 0 := tabF_congr fun _ _ => rfl
   exact Vm.le_of2 (by rw [hG0]; exact Nat.zero_le _) rfl (by simp (maxSteps := 10000000) (disch := first | assumption | (simp only [tyfacts, Vm.szO_eq, Am.vd, Nat.reduceEqDiff, Nat.reduceLT, Nat.reduceLeDiff, Nat.reduceMul, Nat.reduceAdd, reduceCtorEq]; try omega; done) | omega | (intro _; exact Vm.byRefl (by with_unfolding_all rfl))) only [Vm.wantedD, Am.va, Nat.reduceAdd, Nat.reduceMul, Nat.reduceSub, Nat.reduceLT, Nat.reduceLeDiff, Nat.reduceEqDiff, Int.reduceAdd, Int.reduceLT, Int.reduceLE, Int.reduceNeg, reduceCtorEq, ↓reduceIte, tyfacts, e])
 intro i hi ih
 have hlen0 := tabF_len m (cntTo E i)
 (repeat (first | with_reducible refine Vm.sk_region _ _ ?_ | simp (maxSteps := 10000000) (disch := first | assumption | (simp only [tyfacts, Vm.szO_eq, Am.vd, Nat.reduceEqDiff, Nat.reduceLT, Nat.reduceLeDiff, Nat.reduceMul, Nat.reduceAdd, reduceCtorEq]; try omega; done) | omega | (intro _; exact Vm.byRefl (by with_unfolding_all rfl))) only [Vm.wantedD, Am.va, Nat.reduceAdd, Nat.reduceMul, Nat.reduceSub, Nat.reduceLT, Nat.reduceLeDiff, Nat.reduceEqDiff, Int.reduceAdd, Int.reduceLT, Int.reduceLE, Int.reduceNeg, reduceCtorEq, ↓reduceIte, tyfacts]))
 refine Vm.sb_dec (fun hq => ?_) (fun hq => ?_)
 · have him : i < m := by omega
   have hr := row_get (E := E) him
   have hal : (adj m E i).length ≤ m := filter_le _ _
   have hcl := castL_len (adj m E i)
   (repeat (first | with_reducible refine Vm.sk_region _ _ ?_ | simp (maxSteps := 10000000) (disch := first | assumption | (simp only [tyfacts, Vm.szO_eq, Am.vd, Nat.reduceEqDiff, Nat.reduceLT, Nat.reduceLeDiff, Nat.reduceMul, Nat.reduceAdd, reduceCtorEq]; try omega; done) | omega | (intro _; exact Vm.byRefl (by with_unfolding_all rfl))) only [Vm.wantedD, Am.va, Nat.reduceAdd, Nat.reduceMul, Nat.reduceSub, Nat.reduceLT, Nat.reduceLeDiff, Nat.reduceEqDiff, Int.reduceAdd, Int.reduceLT, Int.reduceLE, Int.reduceNeg, reduceCtorEq, ↓reduceIte, tyfacts, hr, hcl]))
   refine Vm.sk_loop (fun j : Nat => (adj m E i).length - j) (fun j => ⟨[(0, .atom (.int .i64 m)), (4, .atom .nilSlice), (6, .imm 1 (gD (graph m E))), (7, .own 0 m), (8, .rptr 2 0), (31, .imm 1 (gD (graph m E))), (32, .atom (.int .i64 m)), (33, .atom (.int .i64 i)), (37, .imm 1 ((castL (adj m E i)).map dI)), (38, .atom (.int .i64 (adj m E i).length)), (39, .atom (.int .i64 j))],
     [.sl 1 ((tabF m (cntM E i ((adj m E i).take j))).map dI), .sl 1 [], .cell [.own 1 0]], 110⟩) (fun j => j ≤ (adj m E i).length) 0 ?_ (by omega) ?_
   · have e : (tabF m (cntM E i [])) = tabF m (cntTo E i) := tabF_congr fun k _ => by simp [cntM]
     exact Vm.le_of2 (by rw [hG0]; exact Nat.zero_le _) rfl (by simp (maxSteps := 10000000) (disch := first | assumption | (simp only [tyfacts, Vm.szO_eq, Am.vd, Nat.reduceEqDiff, Nat.reduceLT, Nat.reduceLeDiff, Nat.reduceMul, Nat.reduceAdd, reduceCtorEq]; try omega; done) | omega | (intro _; exact Vm.byRefl (by with_unfolding_all rfl))) only [Vm.wantedD, Am.va, Nat.reduceAdd, Nat.reduceMul, Nat.reduceSub, Nat.reduceLT, Nat.reduceLeDiff, Nat.reduceEqDiff, Int.reduceAdd, Int.reduceLT, Int.reduceLE, Int.reduceNeg, reduceCtorEq, ↓reduceIte, tyfacts, e])
   intro j hj ih2
   have hlen1 := tabF_len m (cntM E i ((adj m E i).take j))
   (repeat (first | with_reducible refine Vm.sk_region _ _ ?_ | simp (maxSteps := 10000000) (disch := first | assumption | (simp only [tyfacts, Vm.szO_eq, Am.vd, Nat.reduceEqDiff, Nat.reduceLT, Nat.reduceLeDiff, Nat.reduceMul, Nat.reduceAdd, reduceCtorEq]; try omega; done) | omega | (intro _; exact Vm.byRefl (by with_unfolding_all rfl))) only [Vm.wantedD, Am.va, Nat.reduceAdd, Nat.reduceMul, Nat.reduceSub, Nat.reduceLT, Nat.reduceLeDiff, Nat.reduceEqDiff, Int.reduceAdd, Int.reduceLT, Int.reduceLE, Int.reduceNeg, reduceCtorEq, ↓reduceIte, tyfacts]))
   refine Vm.sb_dec (fun hq2 => ?_) (fun hq2 => ?_)
   · have hj2 : j < (adj m E i).length := by omega
     obtain ⟨hy, hed⟩ := mem_adj.1 (List.getElem_mem hj2)
     have hg0 := castL_get (adj m E i) j (List.getElem?_eq_getElem hj2)
     have htk : (adj m E i).take (j + 1) = (adj m E i).take j ++ [(adj m E i)[j]] := by rw [List.take_add_one, List.getElem?_eq_getElem hj2]; rfl
     have hnew : ¬ (adj m E i)[j] ∈ (adj m E i).take j := fun hm => by
      obtain ⟨k, hk, he⟩ := List.mem_iff_getElem.1 hm
      rw [List.length_take] at hk
      rw [List.getElem_take] at he
      have := List.pairwise_iff_getElem.1 (adj_strict m E i) k j (by omega) hj2 (by omega)
      omega
     generalize (adj m E i)[j] = y at hy hed hg0 htk hnew
     have hg1 := tabD_get (f := cntM E i ((adj m E i).take j)) hy
     rw [cntM, if_neg hnew, Nat.add_zero] at hg1
     have hcb := cntTo_le E i y
     have hst := tabD_set (f := cntM E i ((adj m E i).take j)) (g := cntM E i ((adj m E i).take (j + 1))) hy ((cntTo E i y : Int) + 1) (by rw [cntM, if_pos (by rw [htk]; simp)]; simp) (fun z _ hz => by rw [cntM, cntM, htk]; simp [hz])
     (repeat (first | with_reducible refine Vm.sk_region _ _ ?_ | simp (maxSteps := 10000000) (disch := first | assumption | (simp only [tyfacts, Vm.szO_eq, Am.vd, Nat.reduceEqDiff, Nat.reduceLT, Nat.reduceLeDiff, Nat.reduceMul, Nat.reduceAdd, reduceCtorEq]; try omega; done) | omega | (intro _; exact Vm.byRefl (by with_unfolding_all rfl))) only [Vm.wantedD, Am.va, Nat.reduceAdd, Nat.reduceMul, Nat.reduceSub, Nat.reduceLT, Nat.reduceLeDiff, Nat.reduceEqDiff, Int.reduceAdd, Int.reduceLT, Int.reduceLE, Int.reduceNeg, reduceCtorEq, ↓reduceIte, tyfacts, hg0, dI, hg1]))
     refine ih2 (j + 1) _ (by dsimp only; omega) (by omega) ?_
     exact Vm.le_of2 (by rw [hG0]; exact Nat.zero_le _) rfl (by simp (maxSteps := 10000000) (disch := first | assumption | (simp only [tyfacts, Vm.szO_eq, Am.vd, Nat.reduceEqDiff, Nat.reduceLT, Nat.reduceLeDiff, Nat.reduceMul, Nat.reduceAdd, reduceCtorEq]; try omega; done) | omega | (intro _; exact Vm.byRefl (by with_unfolding_all rfl))) only [Vm.wantedD, Am.va, Nat.reduceAdd, Nat.reduceMul, Nat.reduceSub, Nat.reduceLT, Nat.reduceLeDiff, Nat.reduceEqDiff, Int.reduceAdd, Int.reduceLT, Int.reduceLE, Int.reduceNeg, reduceCtorEq, ↓reduceIte, tyfacts, hst])
   · have hje : j = (adj m E i).length := by omega
     subst hje
     have e : tabF m (cntM E i ((adj m E i).take (adj m E i).length)) = tabF m (cntTo E (i + 1)) := tabF_congr fun k hk => by
      rw [cntM, cntTo_succ, List.take_length]
      have : k ∈ adj m E i ↔ (i, k) ∈ E := ⟨fun h => (mem_adj.1 h).2, fun h => mem_adj.2 ⟨hk, h⟩⟩
      simp only [this]
     (repeat (first | with_reducible refine Vm.sk_region _ _ ?_ | simp (maxSteps := 10000000) (disch := first | assumption | (simp only [tyfacts, Vm.szO_eq, Am.vd, Nat.reduceEqDiff, Nat.reduceLT, Nat.reduceLeDiff, Nat.reduceMul, Nat.reduceAdd, reduceCtorEq]; try omega; done) | omega | (intro _; exact Vm.byRefl (by with_unfolding_all rfl))) only [Vm.wantedD, Am.va, Nat.reduceAdd, Nat.reduceMul, Nat.reduceSub, Nat.reduceLT, Nat.reduceLeDiff, Nat.reduceEqDiff, Int.reduceAdd, Int.reduceLT, Int.reduceLE, Int.reduceNeg, reduceCtorEq, ↓reduceIte, tyfacts]))
     refine ih (i + 1) _ (by dsimp only; omega) (by omega) ?_
     exact Vm.le_of2 (by rw [hG0]; exact Nat.zero_le _) rfl (by simp (maxSteps := 10000000) (disch := first | assumption | (simp only [tyfacts, Vm.szO_eq, Am.vd, Nat.reduceEqDiff, Nat.reduceLT, Nat.reduceLeDiff, Nat.reduceMul, Nat.reduceAdd, reduceCtorEq]; try omega; done) | omega | (intro _; exact Vm.byRefl (by with_unfolding_all rfl))) only [Vm.wantedD, Am.va, Nat.reduceAdd, Nat.reduceMul, Nat.reduceSub, Nat.reduceLT, Nat.reduceLeDiff, Nat.reduceEqDiff, Int.reduceAdd, Int.reduceLT, Int.reduceLE, Int.reduceNeg, reduceCtorEq, ↓reduceIte, tyfacts, e])
 obtain rfl : m = i := by omega
 clear ih hi hq
 have e0 : tabF m (cntTo E m) = tabF m (W m E []) := tabF_congr fun k _ => cntTo_all m E k
 rw [e0] at hlen0 ⊢
 clear e0
 (repeat (first | with_reducible refine Vm.sk_region _ _ ?_ | simp (maxSteps := 10000000) (disch := first | assumption | (simp only [tyfacts, Vm.szO_eq, Am.vd, Nat.reduceEqDiff, Nat.reduceLT, Nat.reduceLeDiff, Nat.reduceMul, Nat.reduceAdd, reduceCtorEq]; try omega; done) | omega | (intro _; exact Vm.byRefl (by with_unfolding_all rfl))) only [Vm.wantedD, Am.va, Nat.reduceAdd, Nat.reduceMul, Nat.reduceSub, Nat.reduceLT, Nat.reduceLeDiff, Nat.reduceEqDiff, Int.reduceAdd, Int.reduceLT, Int.reduceLE, Int.reduceNeg, reduceCtorEq, ↓reduceIte, tyfacts]))
 -- those that wait for none
 refine Vm.sk_loop (fun s : Nat × List Int => m - s.1) (fun s => ⟨[(0, .atom (.int .i64 m)), (4, .atom .nilSlice), (6, .imm 1 (gD (graph m E))), (7, .own 0 m), (8, .rptr 2 0), (51, .own 0 m), (52, .atom (.int .i64 m)), (53, .atom (.int .i64 s.1))], [.sl 1 ((tabF m (W m E [])).map dI), .sl 1 (s.2.map dI), .cell [.own 1 s.2.length]], 110⟩)
  (fun s => s.1 ≤ m ∧ Hp.IsHeap s.2 s.2.length ∧ s.2.length ≤ s.1 ∧ s.2.Nodup ∧ ∀ z : Int, z ∈ s.2 ↔ ∃ k : Nat, k < s.1 ∧ z = k ∧ W m E [] k = 0) (0, []) ?_ ⟨by simp, fun k h1 h2 => by simp at h2, by simp, by simp, by simp⟩ ?_
 · exact Vm.le_of2 (by rw [hG0]; exact Nat.zero_le _) rfl (by simp (maxSteps := 10000000) (disch := first | assumption | (simp only [tyfacts, Vm.szO_eq, Am.vd, Nat.reduceEqDiff, Nat.reduceLT, Nat.reduceLeDiff, Nat.reduceMul, Nat.reduceAdd, reduceCtorEq]; try omega; done) | omega | (intro _; exact Vm.byRefl (by with_unfolding_all rfl))) only [Vm.wantedD, Am.va, Nat.reduceAdd, Nat.reduceMul, Nat.reduceSub, Nat.reduceLT, Nat.reduceLeDiff, Nat.reduceEqDiff, Int.reduceAdd, Int.reduceLT, Int.reduceLE, Int.reduceNeg, reduceCtorEq, ↓reduceIte, tyfacts])
 rintro ⟨i, ns⟩ ⟨hi, hh, hl, hnd, hm⟩ ih
 simp only at hi hh hl hnd hm ih ⊢
 (repeat (first | with_reducible refine Vm.sk_region _ _ ?_ | simp (maxSteps := 10000000) (disch := first | assumption | (simp only [tyfacts, Vm.szO_eq, Am.vd, Nat.reduceEqDiff, Nat.reduceLT, Nat.reduceLeDiff, Nat.reduceMul, Nat.reduceAdd, reduceCtorEq]; try omega; done) | omega | (intro _; exact Vm.byRefl (by with_unfolding_all rfl))) only [Vm.wantedD, Am.va, Nat.reduceAdd, Nat.reduceMul, Nat.reduceSub, Nat.reduceLT, Nat.reduceLeDiff, Nat.reduceEqDiff, Int.reduceAdd, Int.reduceLT, Int.reduceLE, Int.reduceNeg, reduceCtorEq, ↓reduceIte, tyfacts]))
 refine Vm.sb_dec (fun hq => ?_) (fun hq => ?_)
 · have him : i < m := by omega
   have hg1 := tabD_get (f := W m E []) him
   by_cases hz : (W m E [] i : Int) = 0
   · (repeat (first | with_reducible refine Vm.sk_region _ _ ?_ | simp (maxSteps := 10000000) (disch := first | assumption | (simp only [tyfacts, Vm.szO_eq, Am.vd, Nat.reduceEqDiff, Nat.reduceLT, Nat.reduceLeDiff, Nat.reduceMul, Nat.reduceAdd, reduceCtorEq]; try omega; done) | omega | (intro _; exact Vm.byRefl (by with_unfolding_all rfl))) only [Vm.wantedD, Am.va, Nat.reduceAdd, Nat.reduceMul, Nat.reduceSub, Nat.reduceLT, Nat.reduceLeDiff, Nat.reduceEqDiff, Int.reduceAdd, Int.reduceLT, Int.reduceLE, Int.reduceNeg, reduceCtorEq, ↓reduceIte, tyfacts, hg1, dI, hz]))
     refine Vm.call_mut (R := ?vR1) ?vh1 ?vk1
     case vh1 => refine heapPush_v (k := 2) (j := 1) (ns := ns) (by omega) ?_ ?_ hh (i : Int) (by omega) <;> rfl
     rintro d s ⟨ns', h1, h2, h3⟩
     subst h3
     have hlen := h1.length_eq
     simp only [List.length_cons] at hlen
     (repeat (first | with_reducible refine Vm.sk_region _ _ ?_ | simp (maxSteps := 10000000) (disch := first | assumption | (simp only [tyfacts, Vm.szO_eq, Am.vd, Nat.reduceEqDiff, Nat.reduceLT, Nat.reduceLeDiff, Nat.reduceMul, Nat.reduceAdd, reduceCtorEq]; try omega; done) | omega | (intro _; exact Vm.byRefl (by with_unfolding_all rfl))) only [Vm.wantedD, Am.va, Nat.reduceAdd, Nat.reduceMul, Nat.reduceSub, Nat.reduceLT, Nat.reduceLeDiff, Nat.reduceEqDiff, Int.reduceAdd, Int.reduceLT, Int.reduceLE, Int.reduceNeg, reduceCtorEq, ↓reduceIte, tyfacts]))
     refine ih (i + 1, ns') _ (by dsimp only; omega) ⟨by dsimp only; omega, h2, by dsimp only; omega, ?_, ?_⟩ ?_
     · dsimp only
       rw [h1.nodup_iff, List.nodup_cons]
       exact ⟨fun h => by obtain ⟨k, h1, h2, _⟩ := (hm _).1 h; omega, hnd⟩
     · dsimp only
       intro z
       rw [h1.mem_iff, List.mem_cons, hm]
       constructor
       · rintro (rfl | ⟨k, h1, h2, h3⟩)
         · exact ⟨i, by omega, rfl, by omega⟩
         · exact ⟨k, by omega, h2, h3⟩
       · rintro ⟨k, h1, h2, h3⟩
         by_cases e : k = i
         · subst e; exact .inl h2
         · exact .inr ⟨k, by omega, h2, h3⟩
     · exact Vm.le_ren2 [0,3,2] hG0 rfl (by decide) (by simp (maxSteps := 10000000) (disch := first | assumption | (simp only [tyfacts, Vm.szO_eq, Am.vd, Nat.reduceEqDiff, Nat.reduceLT, Nat.reduceLeDiff, Nat.reduceMul, Nat.reduceAdd, reduceCtorEq]; try omega; done) | omega | (intro _; exact Vm.byRefl (by with_unfolding_all rfl))) only [Vm.wantedD, Am.va, Nat.reduceAdd, Nat.reduceMul, Nat.reduceSub, Nat.reduceLT, Nat.reduceLeDiff, Nat.reduceEqDiff, Int.reduceAdd, Int.reduceLT, Int.reduceLE, Int.reduceNeg, reduceCtorEq, ↓reduceIte, tyfacts, dI])
   · (repeat (first | with_reducible refine Vm.sk_region _ _ ?_ | simp (maxSteps := 10000000) (disch := first | assumption | (simp only [tyfacts, Vm.szO_eq, Am.vd, Nat.reduceEqDiff, Nat.reduceLT, Nat.reduceLeDiff, Nat.reduceMul, Nat.reduceAdd, reduceCtorEq]; try omega; done) | omega | (intro _; exact Vm.byRefl (by with_unfolding_all rfl))) only [Vm.wantedD, Am.va, Nat.reduceAdd, Nat.reduceMul, Nat.reduceSub, Nat.reduceLT, Nat.reduceLeDiff, Nat.reduceEqDiff, Int.reduceAdd, Int.reduceLT, Int.reduceLE, Int.reduceNeg, reduceCtorEq, ↓reduceIte, tyfacts, hg1, dI, hz]))
     refine ih (i + 1, ns) _ (by dsimp only; omega) ⟨by dsimp only; omega, hh, by dsimp only; omega, hnd, ?_⟩ ?_
     · dsimp only
       intro z
       rw [hm]
       constructor
       · rintro ⟨k, h1, h2, h3⟩; exact ⟨k, by omega, h2, h3⟩
       · rintro ⟨k, h1, h2, h3⟩
         have : k ≠ i := fun e => hz (by rw [← e, h3]; rfl)
         exact ⟨k, by omega, h2, h3⟩
     · exact Vm.le_of2 (by rw [hG0]; exact Nat.zero_le _) rfl (by simp (maxSteps := 10000000) (disch := first | assumption | (simp only [tyfacts, Vm.szO_eq, Am.vd, Nat.reduceEqDiff, Nat.reduceLT, Nat.reduceLeDiff, Nat.reduceMul, Nat.reduceAdd, reduceCtorEq]; try omega; done) | omega | (intro _; exact Vm.byRefl (by with_unfolding_all rfl))) only [Vm.wantedD, Am.va, Nat.reduceAdd, Nat.reduceMul, Nat.reduceSub, Nat.reduceLT, Nat.reduceLeDiff, Nat.reduceEqDiff, Int.reduceAdd, Int.reduceLT, Int.reduceLE, Int.reduceNeg, reduceCtorEq, ↓reduceIte, tyfacts, dI])
 clear ih
 obtain rfl : m = i := by omega
 have hrd : Ready m E [] ns := ⟨hnd, fun z => by rw [hm]; simp⟩
 clear hm hnd hl hi hq
 (repeat (first | with_reducible refine Vm.sk_region _ _ ?_ | simp (maxSteps := 10000000) (disch := first | assumption | (simp only [tyfacts, Vm.szO_eq, Am.vd, Nat.reduceEqDiff, Nat.reduceLT, Nat.reduceLeDiff, Nat.reduceMul, Nat.reduceAdd, reduceCtorEq]; try omega; done) | omega | (intro _; exact Vm.byRefl (by with_unfolding_all rfl))) only [Vm.wantedD, Am.va, Nat.reduceAdd, Nat.reduceMul, Nat.reduceSub, Nat.reduceLT, Nat.reduceLeDiff, Nat.reduceEqDiff, Int.reduceAdd, Int.reduceLT, Int.reduceLE, Int.reduceNeg, reduceCtorEq, ↓reduceIte, tyfacts]))
 refine Vm.sk_nil 4 1 (by simp (maxSteps := 10000000) (disch := first | assumption | (simp only [tyfacts, Vm.szO_eq, Am.vd, Nat.reduceEqDiff, Nat.reduceLT, Nat.reduceLeDiff, Nat.reduceMul, Nat.reduceAdd, reduceCtorEq]; try omega; done) | omega | (intro _; exact Vm.byRefl (by with_unfolding_all rfl))) only [Vm.wantedD, Am.va, Nat.reduceAdd, Nat.reduceMul, Nat.reduceSub, Nat.reduceLT, Nat.reduceLeDiff, Nat.reduceEqDiff, Int.reduceAdd, Int.reduceLT, Int.reduceLE, Int.reduceNeg, reduceCtorEq, ↓reduceIte, tyfacts]) ?_
 refine Vm.sk_loop (fun s : List Nat × List Int => m - s.1.length) (fun s => ⟨[(0, .atom (.int .i64 m)), (4, .own 3 s.1.length), (6, .imm 1 (gD (graph m E))), (7, .own 0 m), (8, .rptr 2 0)], [.sl 1 ((tabF m (W m E s.1)).map dI), .sl 1 (s.2.map dI), .cell [.own 1 s.2.length], .sl 1 ((castL s.1).map dI)], 110⟩)
  (fun s => Hp.IsHeap s.2 s.2.length ∧ Ready m E s.1 s.2 ∧ s.1.Nodup ∧ (∀ k, k ∈ s.1 → k < m ∧ W m E s.1 k = 0) ∧ goS m E m [] = goS m E (m - s.1.length) s.1) ([], ns) ?_ ⟨hh, hrd, by simp, by simp, rfl⟩ ?_
 · exact Vm.le_of2 (by rw [hG0]; exact Nat.zero_le _) rfl (by simp (maxSteps := 10000000) (disch := first | assumption | (simp only [tyfacts, Vm.szO_eq, Am.vd, Nat.reduceEqDiff, Nat.reduceLT, Nat.reduceLeDiff, Nat.reduceMul, Nat.reduceAdd, reduceCtorEq]; try omega; done) | omega | (intro _; exact Vm.byRefl (by with_unfolding_all rfl))) only [Vm.wantedD, Am.va, Nat.reduceAdd, Nat.reduceMul, Nat.reduceSub, Nat.reduceLT, Nat.reduceLeDiff, Nat.reduceEqDiff, Int.reduceAdd, Int.reduceLT, Int.reduceLE, Int.reduceNeg, reduceCtorEq, ↓reduceIte, tyfacts, castL])
 clear hh hrd hlen0 ns
 rintro ⟨out, ns⟩ ⟨hh, hrd, hond, hol, hgo⟩ ih
 simp only at hh hrd hond hol hgo ih ⊢
 have hlen0 := tabF_len m (W m E out)
 have hcl := castL_len out
 (repeat (first | with_reducible refine Vm.sk_region _ _ ?_ | simp (maxSteps := 10000000) (disch := first | assumption | (simp only [tyfacts, Vm.szO_eq, Am.vd, Nat.reduceEqDiff, Nat.reduceLT, Nat.reduceLeDiff, Nat.reduceMul, Nat.reduceAdd, reduceCtorEq]; try omega; done) | omega | (intro _; exact Vm.byRefl (by with_unfolding_all rfl))) only [Vm.wantedD, Am.va, Nat.reduceAdd, Nat.reduceMul, Nat.reduceSub, Nat.reduceLT, Nat.reduceLeDiff, Nat.reduceEqDiff, Int.reduceAdd, Int.reduceLT, Int.reduceLE, Int.reduceNeg, reduceCtorEq, ↓reduceIte, tyfacts]))
 refine Vm.call_eq2 (sccLen_v ns) ?_ ?_ <;> (repeat (first | with_reducible refine Vm.sk_region _ _ ?_ | simp (maxSteps := 10000000) (disch := first | assumption | (simp only [tyfacts, Vm.szO_eq, Am.vd, Nat.reduceEqDiff, Nat.reduceLT, Nat.reduceLeDiff, Nat.reduceMul, Nat.reduceAdd, reduceCtorEq]; try omega; done) | omega | (intro _; exact Vm.byRefl (by with_unfolding_all rfl))) only [Vm.wantedD, Am.va, Nat.reduceAdd, Nat.reduceMul, Nat.reduceSub, Nat.reduceLT, Nat.reduceLeDiff, Nat.reduceEqDiff, Int.reduceAdd, Int.reduceLT, Int.reduceLE, Int.reduceNeg, reduceCtorEq, ↓reduceIte, tyfacts]))
 refine Vm.sb_dec (fun hq => ?_) (fun hq => ?_)
 · have hne : ns ≠ [] := fun h => by subst h; simp at hq
   have hnl : ns.length ≤ m := by
    have : (ns.map Int.toNat).Nodup := by
     rw [List.nodup_iff_pairwise_ne, List.pairwise_map]
     refine (List.nodup_iff_pairwise_ne.1 hrd.1).imp_of_mem fun {a b} ha hb hab e => ?_
     obtain ⟨k1, _, rfl, _⟩ := (hrd.2 a).1 ha
     obtain ⟨k2, _, rfl, _⟩ := (hrd.2 b).1 hb
     simp at e; exact hab (by rw [e])
    have h2 := this.length_le_of_subset (l₂ := List.range m) fun k hk => by
     obtain ⟨z, hz, rfl⟩ := List.mem_map.1 hk
     obtain ⟨k1, h1, rfl, _⟩ := (hrd.2 z).1 hz
     simpa using h1
    simpa using h2
   (repeat (first | with_reducible refine Vm.sk_region _ _ ?_ | simp (maxSteps := 10000000) (disch := first | assumption | (simp only [tyfacts, Vm.szO_eq, Am.vd, Nat.reduceEqDiff, Nat.reduceLT, Nat.reduceLeDiff, Nat.reduceMul, Nat.reduceAdd, reduceCtorEq]; try omega; done) | omega | (intro _; exact Vm.byRefl (by with_unfolding_all rfl))) only [Vm.wantedD, Am.va, Nat.reduceAdd, Nat.reduceMul, Nat.reduceSub, Nat.reduceLT, Nat.reduceLeDiff, Nat.reduceEqDiff, Int.reduceAdd, Int.reduceLT, Int.reduceLE, Int.reduceNeg, reduceCtorEq, ↓reduceIte, tyfacts]))
   refine Vm.call_mut (R := ?vR2) ?vh2 ?vk2
   case vh2 => refine heapPop_v (k := 2) (j := 1) (ns := ns) (by omega) ?_ ?_ hh hne (by omega) <;> rfl
   rintro d s ⟨z, ns', hd, h1, h2, h3, h4⟩
   subst hd; subst h4
   obtain ⟨i, him, rfl, hoi, hwi⟩ := (hrd.2 z).1 (h1.mem_iff.2 (by simp))
   have hlt : out.length < m := by
    have h5 : (i :: out).Nodup := List.nodup_cons.2 ⟨by simpa using hoi, hond⟩
    have := h5.length_le_of_subset (l₂ := List.range m) fun k hk => by
     rcases List.mem_cons.1 hk with rfl | hk
     · simpa using him
     · simpa using (hol k hk).1
    simp at this; omega
   have hst : stepS m E out = some i := step_ready c5 him hoi hwi fun k hk h5 h6 => by
    have := h3 k ((hrd.2 k).2 ⟨k, hk, rfl, h5, h6⟩)
    omega
   obtain ⟨kk, hkk⟩ : ∃ k, m - out.length = k + 1 := ⟨m - out.length - 1, by omega⟩
   have hgo2 : goS m E m [] = goS m E kk (out ++ [i]) := by
    rw [hgo, hkk]
    show (match stepS m E out with
     | none => none
     | some i => goS m E kk (out ++ [i])) = _
    rw [hst]
   have hr := row_get (E := E) him
   have hal : (adj m E i).length ≤ m := filter_le _ _
   have hcl2 := castL_len (adj m E i)
   (repeat (first | with_reducible refine Vm.sk_region _ _ ?_ | simp (maxSteps := 10000000) (disch := first | assumption | (simp only [tyfacts, Vm.szO_eq, Am.vd, Nat.reduceEqDiff, Nat.reduceLT, Nat.reduceLeDiff, Nat.reduceMul, Nat.reduceAdd, reduceCtorEq]; try omega; done) | omega | (intro _; exact Vm.byRefl (by with_unfolding_all rfl))) only [Vm.wantedD, Am.va, Nat.reduceAdd, Nat.reduceMul, Nat.reduceSub, Nat.reduceLT, Nat.reduceLeDiff, Nat.reduceEqDiff, Int.reduceAdd, Int.reduceLT, Int.reduceLE, Int.reduceNeg, reduceCtorEq, ↓reduceIte, tyfacts, hr, hcl2]))
   refine Vm.sk_loop (fun s : Nat × List Int => (adj m E i).length - s.1) (fun s => ⟨[(0, .atom (.int .i64 m)), (4, .own 3 (out.length + 1)), (6, .imm 1 (gD (graph m E))), (7, .own 0 m), (8, .rptr 2 0), (82, .imm 1 ((castL (adj m E i)).map dI)), (83, .atom (.int .i64 (adj m E i).length)), (84, .atom (.int .i64 s.1))],
     [.sl 1 ((tabF m (decM m E out ((adj m E i).take s.1))).map dI), .sl 1 (s.2.map dI), .cell [.own 1 s.2.length], .sl 1 ((castL (out ++ [i])).map dI)], 110⟩)
    (fun s => s.1 ≤ (adj m E i).length ∧ Hp.IsHeap s.2 s.2.length ∧ s.2.length ≤ m ∧ s.2.Nodup ∧ ∀ z : Int, z ∈ s.2 ↔ ∃ k : Nat, k < m ∧ z = k ∧ (out ++ [i]).contains k = false ∧ decM m E out ((adj m E i).take s.1) k = 0) (0, ns') ?_ ⟨by simp, h2, ?_, ?_, ?_⟩ ?_
   · have e : tabF m (decM m E out []) = tabF m (W m E out) := tabF_congr fun k _ => by simp [decM]
     exact Vm.le_ren2 [0,4,2,3] hG0 rfl (by decide) (by simp (maxSteps := 10000000) (disch := first | assumption | (simp only [tyfacts, Vm.szO_eq, Am.vd, Nat.reduceEqDiff, Nat.reduceLT, Nat.reduceLeDiff, Nat.reduceMul, Nat.reduceAdd, reduceCtorEq]; try omega; done) | omega | (intro _; exact Vm.byRefl (by with_unfolding_all rfl))) only [Vm.wantedD, Am.va, Nat.reduceAdd, Nat.reduceMul, Nat.reduceSub, Nat.reduceLT, Nat.reduceLeDiff, Nat.reduceEqDiff, Int.reduceAdd, Int.reduceLT, Int.reduceLE, Int.reduceNeg, reduceCtorEq, ↓reduceIte, tyfacts, e, castL_snoc, dI, List.map_append])
   · have := h1.length_eq
     simp only [List.length_cons] at this; dsimp only; omega
   · exact (List.nodup_cons.1 (h1.nodup_iff.1 hrd.1)).2
   · dsimp only
     intro z
     have hn1 := List.nodup_cons.1 (h1.nodup_iff.1 hrd.1)
     have hz := hrd.2 z
     rw [h1.mem_iff, List.mem_cons] at hz
     constructor
     · intro hz2
       obtain ⟨k, a1, a2, a3, a4⟩ := hz.1 (.inr hz2)
       refine ⟨k, a1, a2, ?_, by simp [decM, a4]⟩
       have : k ≠ i := fun e => hn1.1 (by rw [← e, ← a2]; exact hz2)
       simp at a3 ⊢; exact ⟨a3, this⟩
     · rintro ⟨k, a1, a2, a3, a4⟩
       have a5 : out.contains k = false ∧ k ≠ i := by simp at a3 ⊢; exact a3
       have a6 : W m E out k = 0 := by simpa [decM] using a4
       rcases hz.2 ⟨k, a1, a2, a5.1, a6⟩ with h | h
       · rw [a2] at h; have : k = i := by omega
         exact absurd this a5.2
       · exact h
   clear hr h1 h2 h3 hrd hne hnl hq ns'
   rintro ⟨j, ns4⟩ ⟨hj, hh4, hl4, hnd4, hm4⟩ ih2
   simp only at hj hh4 hl4 hnd4 hm4 ih2 ⊢
   have hlen1 := tabF_len m (decM m E out ((adj m E i).take j))
   (repeat (first | with_reducible refine Vm.sk_region _ _ ?_ | simp (maxSteps := 10000000) (disch := first | assumption | (simp only [tyfacts, Vm.szO_eq, Am.vd, Nat.reduceEqDiff, Nat.reduceLT, Nat.reduceLeDiff, Nat.reduceMul, Nat.reduceAdd, reduceCtorEq]; try omega; done) | omega | (intro _; exact Vm.byRefl (by with_unfolding_all rfl))) only [Vm.wantedD, Am.va, Nat.reduceAdd, Nat.reduceMul, Nat.reduceSub, Nat.reduceLT, Nat.reduceLeDiff, Nat.reduceEqDiff, Int.reduceAdd, Int.reduceLT, Int.reduceLE, Int.reduceNeg, reduceCtorEq, ↓reduceIte, tyfacts]))
   refine Vm.sb_dec (fun hq2 => ?_) (fun hq2 => ?_)
   · have hj2 : j < (adj m E i).length := by omega
     obtain ⟨hy, hed⟩ := mem_adj.1 (List.getElem_mem hj2)
     have hg0 := castL_get (adj m E i) j (List.getElem?_eq_getElem hj2)
     have htk : (adj m E i).take (j + 1) = (adj m E i).take j ++ [(adj m E i)[j]] := by rw [List.take_add_one, List.getElem?_eq_getElem hj2]; rfl
     have hnew : ¬ (adj m E i)[j] ∈ (adj m E i).take j := fun hm => by
      obtain ⟨k, hk, he⟩ := List.mem_iff_getElem.1 hm
      rw [List.length_take] at hk
      rw [List.getElem_take] at he
      have := List.pairwise_iff_getElem.1 (adj_strict m E i) k j (by omega) hj2 (by omega)
      omega
     generalize (adj m E i)[j] = y at hy hed hg0 htk hnew
     have hwy := W_pos him hoi hed
     have hwl := W0 out y
     have d1 : decM m E out ((adj m E i).take j) y = W m E out y := by rw [decM, if_neg hnew]; rfl
     have d2 : decM m E out ((adj m E i).take (j + 1)) y = W m E out y - 1 := by rw [decM, if_pos (by rw [htk]; simp)]
     have d3 : ∀ z, z ≠ y → decM m E out ((adj m E i).take (j + 1)) z = decM m E out ((adj m E i).take j) z := fun z hz => by rw [decM, decM, htk]; simp [hz]
     have hg1 := tabD_get (f := decM m E out ((adj m E i).take j)) hy
     rw [d1] at hg1
     have hst2 := tabD_set (f := decM m E out ((adj m E i).take j)) (g := decM m E out ((adj m E i).take (j + 1))) hy ((W m E out y : Int) - 1) (by rw [d2]; omega) (fun z _ hz => d3 z hz)
     have hg2 := tabD_get (f := decM m E out ((adj m E i).take (j + 1))) hy
     have hlen2 := tabF_len m (decM m E out ((adj m E i).take (j + 1)))
     have hyo : (out ++ [i]).contains y = false := by
      cases hc : (out ++ [i]).contains y with
      | false => rfl
      | true =>
        simp at hc
        rcases hc with h | h
        · have := (hol y h).2; omega
        · rw [h] at hwy; omega
     have hyn : ¬ (y : Int) ∈ ns4 := fun h => by
      obtain ⟨k, a1, a2, a3, a4⟩ := (hm4 _).1 h
      have : k = y := by omega
      subst this
      rw [d1] at a4; omega
     by_cases hz : (decM m E out ((adj m E i).take (j + 1)) y : Int) = 0
     · (repeat (first | with_reducible refine Vm.sk_region _ _ ?_ | simp (maxSteps := 10000000) (disch := first | assumption | (simp only [tyfacts, Vm.szO_eq, Am.vd, Nat.reduceEqDiff, Nat.reduceLT, Nat.reduceLeDiff, Nat.reduceMul, Nat.reduceAdd, reduceCtorEq]; try omega; done) | omega | (intro _; exact Vm.byRefl (by with_unfolding_all rfl))) only [Vm.wantedD, Am.va, Nat.reduceAdd, Nat.reduceMul, Nat.reduceSub, Nat.reduceLT, Nat.reduceLeDiff, Nat.reduceEqDiff, Int.reduceAdd, Int.reduceLT, Int.reduceLE, Int.reduceNeg, reduceCtorEq, ↓reduceIte, tyfacts, hg0, dI, hg1, hst2, hg2, hz]))
       have hl5 : ns4.length < 100000 := by omega
       refine Vm.call_mut (R := ?vR3) ?vh3 ?vk3
       case vh3 => refine heapPush_v (k := 2) (j := 1) (ns := ns4) (by omega) ?_ ?_ hh4 (y : Int) hl5 <;> rfl
       rintro d s ⟨ns5, h1, h2, h3⟩
       subst h3
       have hlen5 := h1.length_eq
       simp only [List.length_cons] at hlen5
       have hnd5 : ns5.Nodup := by rw [h1.nodup_iff, List.nodup_cons]; exact ⟨hyn, hnd4⟩
       have hm5 : ∀ z : Int, z ∈ ns5 ↔ ∃ k : Nat, k < m ∧ z = k ∧ (out ++ [i]).contains k = false ∧ decM m E out ((adj m E i).take (j + 1)) k = 0 := by
        intro z
        rw [h1.mem_iff, List.mem_cons, hm4]
        constructor
        · rintro (rfl | ⟨k, a1, a2, a3, a4⟩)
          · exact ⟨y, hy, rfl, hyo, by omega⟩
          · have : k ≠ y := fun e => by subst e; rw [d1] at a4; omega
            exact ⟨k, a1, a2, a3, by rw [d3 k this]; exact a4⟩
        · rintro ⟨k, a1, a2, a3, a4⟩
          by_cases e : k = y
          · subst e; exact .inl a2
          · exact .inr ⟨k, a1, a2, a3, by rw [← d3 k e]; exact a4⟩
       have hl6 : ns5.length ≤ m := by
        have : (ns5.map Int.toNat).Nodup := by
         rw [List.nodup_iff_pairwise_ne, List.pairwise_map]
         refine (List.nodup_iff_pairwise_ne.1 hnd5).imp_of_mem fun {a b} ha hb hab e => ?_
         obtain ⟨k1, _, rfl, _⟩ := (hm5 a).1 ha
         obtain ⟨k2, _, rfl, _⟩ := (hm5 b).1 hb
         simp at e; exact hab (by rw [e])
        have h2 := this.length_le_of_subset (l₂ := List.range m) fun k hk => by
         obtain ⟨z, hz, rfl⟩ := List.mem_map.1 hk
         obtain ⟨k1, h1, rfl, _⟩ := (hm5 z).1 hz
         simpa using h1
        simpa using h2
       (repeat (first | with_reducible refine Vm.sk_region _ _ ?_ | simp (maxSteps := 10000000) (disch := first | assumption | (simp only [tyfacts, Vm.szO_eq, Am.vd, Nat.reduceEqDiff, Nat.reduceLT, Nat.reduceLeDiff, Nat.reduceMul, Nat.reduceAdd, reduceCtorEq]; try omega; done) | omega | (intro _; exact Vm.byRefl (by with_unfolding_all rfl))) only [Vm.wantedD, Am.va, Nat.reduceAdd, Nat.reduceMul, Nat.reduceSub, Nat.reduceLT, Nat.reduceLeDiff, Nat.reduceEqDiff, Int.reduceAdd, Int.reduceLT, Int.reduceLE, Int.reduceNeg, reduceCtorEq, ↓reduceIte, tyfacts]))
       refine ih2 (j + 1, ns5) _ (by dsimp only; omega) ⟨by dsimp only; omega, h2, hl6, hnd5, hm5⟩ ?_
       exact Vm.le_ren2 [0,4,2,3] hG0 rfl (by decide) (by simp (maxSteps := 10000000) (disch := first | assumption | (simp only [tyfacts, Vm.szO_eq, Am.vd, Nat.reduceEqDiff, Nat.reduceLT, Nat.reduceLeDiff, Nat.reduceMul, Nat.reduceAdd, reduceCtorEq]; try omega; done) | omega | (intro _; exact Vm.byRefl (by with_unfolding_all rfl))) only [Vm.wantedD, Am.va, Nat.reduceAdd, Nat.reduceMul, Nat.reduceSub, Nat.reduceLT, Nat.reduceLeDiff, Nat.reduceEqDiff, Int.reduceAdd, Int.reduceLT, Int.reduceLE, Int.reduceNeg, reduceCtorEq, ↓reduceIte, tyfacts, dI])
     · (repeat (first | with_reducible refine Vm.sk_region _ _ ?_ | simp (maxSteps := 10000000) (disch := first | assumption | (simp only [tyfacts, Vm.szO_eq, Am.vd, Nat.reduceEqDiff, Nat.reduceLT, Nat.reduceLeDiff, Nat.reduceMul, Nat.reduceAdd, reduceCtorEq]; try omega; done) | omega | (intro _; exact Vm.byRefl (by with_unfolding_all rfl))) only [Vm.wantedD, Am.va, Nat.reduceAdd, Nat.reduceMul, Nat.reduceSub, Nat.reduceLT, Nat.reduceLeDiff, Nat.reduceEqDiff, Int.reduceAdd, Int.reduceLT, Int.reduceLE, Int.reduceNeg, reduceCtorEq, ↓reduceIte, tyfacts, hg0, dI, hg1, hst2, hg2, hz]))
       refine ih2 (j + 1, ns4) _ (by dsimp only; omega) ⟨by dsimp only; omega, hh4, hl4, hnd4, fun z => ?_⟩ ?_
       · dsimp only
         rw [hm4]
         constructor
         · rintro ⟨k, a1, a2, a3, a4⟩
           have : k ≠ y := fun e => by subst e; rw [d1] at a4; omega
           exact ⟨k, a1, a2, a3, by rw [d3 k this]; exact a4⟩
         · rintro ⟨k, a1, a2, a3, a4⟩
           have : k ≠ y := fun e => by subst e; exact hz (by rw [a4]; rfl)
           exact ⟨k, a1, a2, a3, by rw [← d3 k this]; exact a4⟩
       · exact Vm.le_of2 (by rw [hG0]; exact Nat.zero_le _) rfl (by simp (maxSteps := 10000000) (disch := first | assumption | (simp only [tyfacts, Vm.szO_eq, Am.vd, Nat.reduceEqDiff, Nat.reduceLT, Nat.reduceLeDiff, Nat.reduceMul, Nat.reduceAdd, reduceCtorEq]; try omega; done) | omega | (intro _; exact Vm.byRefl (by with_unfolding_all rfl))) only [Vm.wantedD, Am.va, Nat.reduceAdd, Nat.reduceMul, Nat.reduceSub, Nat.reduceLT, Nat.reduceLeDiff, Nat.reduceEqDiff, Int.reduceAdd, Int.reduceLT, Int.reduceLE, Int.reduceNeg, reduceCtorEq, ↓reduceIte, tyfacts, dI])
   · have hje : j = (adj m E i).length := by omega
     subst hje
     have hW : ∀ k, k < m → decM m E out ((adj m E i).take (adj m E i).length) k = W m E (out ++ [i]) k := fun k hk => by
      rw [decM, List.take_length, W_snoc him hoi]
      have : k ∈ adj m E i ↔ (i, k) ∈ E := ⟨fun h => (mem_adj.1 h).2, fun h => mem_adj.2 ⟨hk, h⟩⟩
      simp only [this]
     have e : tabF m (decM m E out ((adj m E i).take (adj m E i).length)) = tabF m (W m E (out ++ [i])) := tabF_congr hW
     (repeat (first | with_reducible refine Vm.sk_region _ _ ?_ | simp (maxSteps := 10000000) (disch := first | assumption | (simp only [tyfacts, Vm.szO_eq, Am.vd, Nat.reduceEqDiff, Nat.reduceLT, Nat.reduceLeDiff, Nat.reduceMul, Nat.reduceAdd, reduceCtorEq]; try omega; done) | omega | (intro _; exact Vm.byRefl (by with_unfolding_all rfl))) only [Vm.wantedD, Am.va, Nat.reduceAdd, Nat.reduceMul, Nat.reduceSub, Nat.reduceLT, Nat.reduceLeDiff, Nat.reduceEqDiff, Int.reduceAdd, Int.reduceLT, Int.reduceLE, Int.reduceNeg, reduceCtorEq, ↓reduceIte, tyfacts]))
     refine ih (out ++ [i], ns4) _ (by dsimp only; rw [List.length_append, List.length_singleton]; omega) ⟨hh4, ⟨hnd4, fun z => ?_⟩, ?_, ?_, ?_⟩ ?_
     · rw [hm4]
       constructor
       · rintro ⟨k, a1, a2, a3, a4⟩; exact ⟨k, a1, a2, a3, by rw [← hW k a1]; exact a4⟩
       · rintro ⟨k, a1, a2, a3, a4⟩; exact ⟨k, a1, a2, a3, by rw [hW k a1]; exact a4⟩
     · rw [List.nodup_append]
       exact ⟨hond, by simp, fun a ha b hb e9 => by simp at hb hoi; subst hb; subst e9; exact hoi ha⟩
     · intro k hk
       rw [List.mem_append, List.mem_singleton] at hk
       rcases hk with hk | rfl
       · exact ⟨(hol k hk).1, by rw [W_snoc him hoi]; have := (hol k hk).2; omega⟩
       · exact ⟨him, by rw [W_snoc him hoi]; omega⟩
     · dsimp only
       rw [hgo2, List.length_append, List.length_singleton]; congr 1; omega
     · exact Vm.le_of2 (by rw [hG0]; exact Nat.zero_le _) rfl (by simp (maxSteps := 10000000) (disch := first | assumption | (simp only [tyfacts, Vm.szO_eq, Am.vd, Nat.reduceEqDiff, Nat.reduceLT, Nat.reduceLeDiff, Nat.reduceMul, Nat.reduceAdd, reduceCtorEq]; try omega; done) | omega | (intro _; exact Vm.byRefl (by with_unfolding_all rfl))) only [Vm.wantedD, Am.va, Nat.reduceAdd, Nat.reduceMul, Nat.reduceSub, Nat.reduceLT, Nat.reduceLeDiff, Nat.reduceEqDiff, Int.reduceAdd, Int.reduceLT, Int.reduceLE, Int.reduceNeg, reduceCtorEq, ↓reduceIte, tyfacts, e, dI, List.length_append])
 · have hns : ns = [] := List.length_eq_zero_iff.1 (by omega)
   subst hns
   have hle : out.length ≤ m := by
    have := hond.length_le_of_subset (l₂ := List.range m) fun k hk => by simpa using (hol k hk).1
    simpa using this
   (repeat (first | with_reducible refine Vm.sk_region _ _ ?_ | simp (maxSteps := 10000000) (disch := first | assumption | (simp only [tyfacts, Vm.szO_eq, Am.vd, Nat.reduceEqDiff, Nat.reduceLT, Nat.reduceLeDiff, Nat.reduceMul, Nat.reduceAdd, reduceCtorEq]; try omega; done) | omega | (intro _; exact Vm.byRefl (by with_unfolding_all rfl))) only [Vm.wantedD, Am.va, Nat.reduceAdd, Nat.reduceMul, Nat.reduceSub, Nat.reduceLT, Nat.reduceLeDiff, Nat.reduceEqDiff, Int.reduceAdd, Int.reduceLT, Int.reduceLE, Int.reduceNeg, reduceCtorEq, ↓reduceIte, tyfacts]))
   refine Vm.sb_dec (fun hq2 => ?_) (fun hq2 => ?_)
   · have hst : stepS m E out = none := step_none c5 fun k hk h5 h6 => by
      have := (hrd.2 k).2 ⟨k, hk, rfl, h5, h6⟩
      cases this
     obtain ⟨kk, hkk⟩ : ∃ k, m - out.length = k + 1 := ⟨m - out.length - 1, by omega⟩
     have hgo2 : goS m E m [] = none := by
      rw [hgo, hkk]
      show (match stepS m E out with
       | none => none
       | some i => goS m E kk (out ++ [i])) = _
      rw [hst]
     (repeat (first | with_reducible refine Vm.sk_region _ _ ?_ | simp (maxSteps := 10000000) (disch := first | assumption | (simp only [tyfacts, Vm.szO_eq, Am.vd, Nat.reduceEqDiff, Nat.reduceLT, Nat.reduceLeDiff, Nat.reduceMul, Nat.reduceAdd, reduceCtorEq]; try omega; done) | omega | (intro _; exact Vm.byRefl (by with_unfolding_all rfl))) only [Vm.wantedD, Am.va, Nat.reduceAdd, Nat.reduceMul, Nat.reduceSub, Nat.reduceLT, Nat.reduceLeDiff, Nat.reduceEqDiff, Int.reduceAdd, Int.reduceLT, Int.reduceLE, Int.reduceNeg, reduceCtorEq, ↓reduceIte, tyfacts]))
     refine Vm.su_nil 4 1 (by simp (maxSteps := 10000000) (disch := first | assumption | (simp only [tyfacts, Vm.szO_eq, Am.vd, Nat.reduceEqDiff, Nat.reduceLT, Nat.reduceLeDiff, Nat.reduceMul, Nat.reduceAdd, reduceCtorEq]; try omega; done) | omega | (intro _; exact Vm.byRefl (by with_unfolding_all rfl))) only [Vm.wantedD, Am.va, Nat.reduceAdd, Nat.reduceMul, Nat.reduceSub, Nat.reduceLT, Nat.reduceLeDiff, Nat.reduceEqDiff, Int.reduceAdd, Int.reduceLT, Int.reduceLE, Int.reduceNeg, reduceCtorEq, ↓reduceIte, tyfacts]) ?_
     refine Vm.ret_ok (by first | exact .inl rfl | exact .inr rfl) ?_
     simp (maxSteps := 10000000) (disch := first | assumption | (simp only [tyfacts, Vm.szO_eq, Am.vd, Nat.reduceEqDiff, Nat.reduceLT, Nat.reduceLeDiff, Nat.reduceMul, Nat.reduceAdd, reduceCtorEq]; try omega; done) | omega | (intro _; exact Vm.byRefl (by with_unfolding_all rfl))) only [Vm.wantedD, Am.va, Nat.reduceAdd, Nat.reduceMul, Nat.reduceSub, Nat.reduceLT, Nat.reduceLeDiff, Nat.reduceEqDiff, Int.reduceAdd, Int.reduceLT, Int.reduceLE, Int.reduceNeg, reduceCtorEq, ↓reduceIte, tyfacts]
     rw [hgo2]; rfl
   · (repeat (first | with_reducible refine Vm.sk_region _ _ ?_ | simp (maxSteps := 10000000) (disch := first | assumption | (simp only [tyfacts, Vm.szO_eq, Am.vd, Nat.reduceEqDiff, Nat.reduceLT, Nat.reduceLeDiff, Nat.reduceMul, Nat.reduceAdd, reduceCtorEq]; try omega; done) | omega | (intro _; exact Vm.byRefl (by with_unfolding_all rfl))) only [Vm.wantedD, Am.va, Nat.reduceAdd, Nat.reduceMul, Nat.reduceSub, Nat.reduceLT, Nat.reduceLeDiff, Nat.reduceEqDiff, Int.reduceAdd, Int.reduceLT, Int.reduceLE, Int.reduceNeg, reduceCtorEq, ↓reduceIte, tyfacts]))
     refine Vm.ret_ok (by first | exact .inl rfl | exact .inr rfl) ?_
     simp (maxSteps := 10000000) (disch := first | assumption | (simp only [tyfacts, Vm.szO_eq, Am.vd, Nat.reduceEqDiff, Nat.reduceLT, Nat.reduceLeDiff, Nat.reduceMul, Nat.reduceAdd, reduceCtorEq]; try omega; done) | omega | (intro _; exact Vm.byRefl (by with_unfolding_all rfl))) only [Vm.wantedD, Am.va, Nat.reduceAdd, Nat.reduceMul, Nat.reduceSub, Nat.reduceLT, Nat.reduceLeDiff, Nat.reduceEqDiff, Int.reduceAdd, Int.reduceLT, Int.reduceLE, Int.reduceNeg, reduceCtorEq, ↓reduceIte, tyfacts]
     have : m - out.length = 0 := by omega
     rw [hgo, this]; rfl
end Go.Proofs.Ytbhgjikjdblgeaa.W
