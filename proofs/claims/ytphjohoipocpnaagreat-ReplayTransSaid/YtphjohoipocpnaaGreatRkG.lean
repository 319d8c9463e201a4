import Derived.Test.YtphjohoipocpnaaGreatRkF
set_option linter.unusedSimpArgs false
set_option linter.unusedVariables false
set_option maxRecDepth 8000
/- All operations of transactions in an order, one behind the other. No conditions. -/
namespace Go.Proofs.YtphjohoipocpnaaGreat.W
open Go.Am
set_option linter.defProp false in
def xRActs := And.intro @nlR_dI <| And.intro @Vm.nlR_append @nlR_dF
def t0 : Tra := ⟨[], 0, 0, [], []⟩
def actsOf (ts : List Tra) (order : List Int) : List (Int × Act) := order.flatMap fun i => (ts.getD i.toNat t0).acts.map fun a => (i, a)
theorem drop_cons {α : Type} {l : List α} {i : Nat} {x : α} {r : List α} (h : l.drop i = x :: r) : l[i]? = some x ∧ l.drop (i + 1) = r ∧ i < l.length := by
 have h1 := List.getElem?_drop (xs := l) (i := i) (j := 0)
 rw [h] at h1
 refine ⟨h1.symm, by rw [← List.drop_drop, h]; rfl, ?_⟩
 have := congrArg List.length h
 rw [List.length_drop, List.length_cons] at this; omega
theorem acts1_v (ts : List Tra) (order : List Int) (hts : ts.length < 1000000000) (ho : order.length < 1000000000) (hin : ∀ i, i ∈ order → 0 ≤ i ∧ i < ts.length) (ha : ∀ t, t ∈ ts → t.acts.length < 1000000000) :
  Vm.VGC T 60 [.iptr [.imm 1 (order.map dI)] 0, .iptr [.imm 5 (ts.map dT)] 0] [] ((actsOf ts order).map dIA) := by
 intro L K E hK hE hY
 show Vm.VM T 60 [.atom (.func (.yield L) [] []), .iptr [.imm 1 (order.map dI)] 0, .iptr [.imm 5 (ts.map dT)] 0] [.ghost (K 0)] _
 refine Vm.vm_enter (T := T) rfl Tryz.func60 rfl (by simp only [Tryz.f60, List.length_cons, List.length_nil]; decide) fun g hG0 hU => ?_
 simp only [Tryz.f60, Vm.argsTm_cons, Vm.argsTm_nil, Nat.reduceAdd]
 (have hh := xRActs; refine Vm.rn ?_; clear hh; try exact True.intro)
 have hfl : actsOf ts (order.drop 0) = actsOf ts order := rfl
 refine Vm.sk_loop (fun q : Nat × Nat => order.length - q.1) (fun q => ⟨[(0, .atom (.func (.yield L) [] [])), (2, .iptr [.imm 5 (ts.map dT)] 0), (8, .imm 1 (order.map dI)), (9, .atom (.int .i64 order.length)), (10, .atom (.int .i64 q.1))], [.ghost (K q.2)], 31⟩)
  (fun q => q.1 ≤ order.length ∧ q.2 ≤ (actsOf ts order).length ∧ (actsOf ts order).drop q.2 = actsOf ts (order.drop q.1)) (0, 0) ?_ ⟨Nat.zero_le _, Nat.zero_le _, rfl⟩ ?_
 · (have hh := xRActs; exact Vm.lx Vm.cl)
 rintro ⟨k, c⟩ ⟨h1, h2, h3⟩ ih
 dsimp only at h1 h2 h3
 (have hh := xRActs; refine Vm.rn ?_; clear hh; try exact True.intro)
 refine Vm.sb_dec (fun hlt => ?_) (fun hge => ?_)
 · obtain ⟨i, hi, hid⟩ := row_at (f := dI) (l := order) (i := k) (by omega)
   obtain ⟨hi0, hi1⟩ := hin i (List.mem_of_getElem? hi)
   obtain ⟨j, rfl⟩ : ∃ j : Nat, i = j := ⟨i.toNat, by omega⟩
   have hjl : j < ts.length := by omega
   obtain ⟨t, ht, htd⟩ := row_at (f := dT) (l := ts) (i := j) hjl
   have htl := ha t (List.mem_of_getElem? ht)
   have hgd : ts.getD ((j : Int)).toNat t0 = t := by rw [Int.toNat_natCast, List.getD_eq_getElem?_getD, ht]; rfl
   have h4 : (actsOf ts order).drop c = (t.acts.drop 0).map (fun a => ((j : Int), a)) ++ actsOf ts (order.drop (k + 1)) := by
    rw [h3, drop_at hi]
    simp only [actsOf, List.flatMap_cons, hgd, List.drop_zero]
   simp only [dT] at htd
   (have hh := And.intro xRActs <| And.intro @hid <| And.intro @dI.eq_1 @htd; refine Vm.rn ?_; clear hh; try exact True.intro)
   refine Vm.sk_loop (fun q : Nat × Nat => t.acts.length - q.1) (fun q => ⟨[(0, .atom (.func (.yield L) [] [])), (2, .iptr [.imm 5 (ts.map dT)] 0), (8, .imm 1 (order.map dI)), (9, .atom (.int .i64 order.length)), (10, .atom (.int .i64 k)), (5, .atom (.int .i64 j)), (18, .imm 6 (t.acts.map dA)), (19, .atom (.int .i64 t.acts.length)), (20, .atom (.int .i64 q.1))], [.ghost (K q.2)], 31⟩)
    (fun q => q.1 ≤ t.acts.length ∧ q.2 ≤ (actsOf ts order).length ∧ (actsOf ts order).drop q.2 = (t.acts.drop q.1).map (fun a => ((j : Int), a)) ++ actsOf ts (order.drop (k + 1))) (0, c) ?_ ⟨Nat.zero_le _, h2, h4⟩ ?_
   · (have hh := xRActs; exact Vm.lx Vm.cl)
   rintro ⟨m, c2⟩ ⟨h5, h6, h7⟩ ih2
   dsimp only at h5 h6 h7
   (have hh := xRActs; refine Vm.rn ?_; clear hh; try exact True.intro)
   refine Vm.sb_dec (fun hlt2 => ?_) (fun hge2 => ?_)
   · obtain ⟨a, hac, had⟩ := row_at (f := dA) (l := t.acts) (i := m) (by omega)
     rw [drop_at hac, List.map_cons, List.cons_append] at h7
     obtain ⟨g1, g2, g3⟩ := drop_cons h7
     have hx : ((actsOf ts order).map dIA)[c2]? = some (dIA ((j : Int), a)) := by rw [List.getElem?_map, g1]; rfl
     simp only [dIA, dA] at hx
     simp only [dA] at had
     (have hh := And.intro xRActs <| And.intro @had @Vm.overD.eq_1; refine Vm.rn ?_; clear hh; try exact True.intro)
     refine Vm.round_tick (k := 0) rfl (hY c2 _ hx) (hK _) hE rfl ?_ ?_
     · (have hh := xRActs; refine Vm.rn ?_; clear hh; try exact True.intro)
       refine ih2 (m + 1, c2 + 1) _ (by dsimp only; omega) ⟨by dsimp only; omega, by dsimp only; omega, g2⟩ ?_
       (have hh := xRActs; exact Vm.lx Vm.cl)
     · (have hh := xRActs; refine Vm.rn ?_; clear hh; try exact True.intro)
       (have hh := xRActs; refine Vm.rm (Vm.s1 ?_); clear hh; try exact True.intro)
       exact .inr trivial
   · have : m = t.acts.length := by omega
     subst this
     rw [List.drop_length, List.map_nil, List.nil_append] at h7
     (have hh := xRActs; refine Vm.rn ?_; clear hh; try exact True.intro)
     refine ih (k + 1, c2) _ (by dsimp only; omega) ⟨by dsimp only; omega, h6, h7⟩ ?_
     (have hh := xRActs; exact Vm.lx Vm.cl)
 · have : k = order.length := by omega
   subst this
   rw [List.drop_length] at h3
   have h4 : c = (actsOf ts order).length := by
    have := congrArg List.length h3
    rw [List.length_drop] at this
    have e : (actsOf ts []).length = 0 := rfl
    omega
   (have hh := xRActs; refine Vm.rn ?_; clear hh; try exact True.intro)
   (have hh := And.intro xRActs @List.length_map.{0,0}; refine Vm.rm (Vm.s1 ?_); clear hh; try exact True.intro)
   rw [h4]; exact .inl rfl
end Go.Proofs.YtphjohoipocpnaaGreat.W

/- What a transaction leaves, both answers. No conditions. -/
namespace Go.Proofs.YtphjohoipocpnaaGreat.W
open Go.Am
set_option linter.defProp false in
def xRTrans := And.intro @prLL_dI <| And.intro @pr_dF <| And.intro @prLL_dF <| And.intro @nlR_dI <| And.intro @Vm.nlR_append <| And.intro @nlR_dF <| And.intro @Vm.dleD_agg <| And.intro @Vm.dleD_tuple <| And.intro @Vm.dleL_cons <| And.intro @Vm.dleL_nil <| And.intro @Vm.dleD_atom <| And.intro @Vm.dleD_nil <| And.intro @Vm.dleD_fresh @Vm.dleD_imm
theorem trans_v (s : List Sta) (t : Tra) (hl : s.length < 1000000000) (hn : t.acts.length < 1000000000) (hf : FitS s t.acts.length) (hi : ∀ a, a ∈ t.acts → ActI a) :
  Vm.VC T 12 [.imm 3 (s.map dS), .agg (dT t)] fun d => d = dRep (repN s t.acts 0) := by
 have hG := acts1_v [t] [0] (by simp) (by simp) (by simp) (by simpa using hn)
 have e1 : actsOf [t] [0] = t.acts.map fun a => ((0 : Int), a) := by simp [actsOf]
 have e2 : (t.acts.map fun a => ((0 : Int), a)).map (·.2) = t.acts := by simp [Function.comp_def]
 rw [e1] at hG
 simp only [List.map_cons, List.map_nil, dI, dT] at hG
 have hd := done_v s hG rfl rfl hl (by simpa using hn) (by simpa using hf) (fun p hp => by
  obtain ⟨a, h, rfl⟩ := List.mem_map.1 hp
  exact hi a h)
 rw [e2] at hd
 refine Vm.vc_enter (T := T) rfl Tryz.func12 rfl (by simp only [Tryz.f12, List.length_cons, List.length_nil]; decide) fun g hB hG0 hU => ?_
 simp only [Tryz.f12, Vm.argsTm_cons, Vm.argsTm_nil, Nat.reduceAdd]
 (have hh := And.intro xRTrans <| And.intro @dT.eq_1 @Vm.overD.eq_1; refine Vm.rn ?_; clear hh; try exact True.intro)
 refine Vm.call_walk (T := T) rfl Tryz.func39 rfl (by simp only [Tryz.f39, List.length_cons, List.length_nil]; decide) fun _ hUi => ?_
 simp only [Tryz.f39, Vm.argsTm_cons, Vm.argsTm_nil, Nat.reduceAdd]
 (have hh := xRTrans; refine Vm.rn ?_; clear hh; try exact True.intro)
 (have hh := xRTrans; refine Vm.rm (Vm.s1 ?_); clear hh; try exact True.intro)
 (have hh := xRTrans; refine Vm.rn ?_; clear hh; try exact True.intro)
 (have hh := And.intro xRTrans @dRep.eq_1; refine Vm.call_eq2 (hd) Vm.cl (Vm.rn ?_); clear hh; try exact True.intro)
 (have hh := And.intro xRTrans @dRep.eq_1; refine Vm.rx (Vm.s1 ?_); clear hh; try exact True.intro)
theorem rtrans_v (s : List Sta) (t : Tra) (hl : s.length < 1000000000) (hn : t.acts.length < 1000000000) (hf : FitS s t.acts.length) (hi : ∀ a, a ∈ t.acts → ActI a) :
  Vm.VC T 13 [.imm 3 (s.map dS), .agg (dT t)] fun d => d = dRep (repN s t.acts 0) := by
 refine Vm.VC.dl ?_
 refine Vm.vc_enter (T := T) rfl Tryz.func13 rfl (by simp only [Tryz.f13, List.length_cons, List.length_nil]; decide) fun g hB hG0 hU => ?_
 simp only [Tryz.f13, Vm.argsTm_cons, Vm.argsTm_nil, Nat.reduceAdd]
 (have hh := And.intro xRTrans @dT.eq_1; refine Vm.rn ?_; clear hh; try exact True.intro)
 (have hh := xRTrans; refine Vm.call_eq2 (copySs_v s hl hf.one) Vm.cl (Vm.rn ?_); clear hh; try exact True.intro)
 refine Vm.sk_loop (fun q : Nat × List Sta => t.acts.length - q.1) (fun q => ⟨[(3, .rptr 0 0), (7, .own 1 s.length), (8, .atom (.int .i64 q.1))], [.cell [.atom (.str t.name), .atom (.int .i64 t.b), .atom (.int .i64 t.c), .imm 6 (t.acts.map dA), .imm 1 (t.at_.map dI)], .sl 3 (q.2.map dF)], 35⟩)
  (fun q => q.1 ≤ t.acts.length ∧ q.2.length = s.length ∧ FitS q.2 (t.acts.length - q.1) ∧ repN q.2 (t.acts.drop q.1) q.1 = repN s t.acts 0) (0, s) ?_ ⟨Nat.zero_le _, rfl, hf, rfl⟩ ?_
 · (have hh := xRTrans; exact Vm.lx Vm.cl)
 rintro ⟨i, cur⟩ ⟨h1, hcl, hcf, hrep⟩ ih
 dsimp only at h1 hcl hcf hrep
 have hml : (cur.map dF).length = s.length := by rw [List.length_map, hcl]
 (have hh := xRTrans; refine Vm.rn ?_; clear hh; try exact True.intro)
 refine Vm.sb_dec (fun hlt => ?_) (fun hge => ?_)
 · obtain ⟨a, ha, had⟩ := row_at (f := dA) (l := t.acts) (i := i) (by omega)
   obtain ⟨st1, st2⟩ := repN_step ha hrep
   obtain ⟨hi1, hi2⟩ := hi a (List.mem_of_getElem? ha)
   simp only [dA] at had
   (have hh := And.intro xRTrans @had; refine Vm.rn ?_; clear hh; try exact True.intro)
   refine Vm.call_walk (T := T) rfl Tryz.func40 rfl (by simp only [Tryz.f40, List.length_cons, List.length_nil]; decide) fun _ hUi => ?_
   simp only [Tryz.f40, Vm.argsTm_cons, Vm.argsTm_nil, Nat.reduceAdd]
   by_cases g1 : a.o < 0
   · have he : errA cur a = 3 := by rw [errA, if_pos (.inl g1)]
     have hr := st2 (by rw [he]; decide)
     rw [hr, he]
     (have hh := And.intro xRTrans @g1; refine Vm.rn ?_; clear hh; try exact True.intro)
     (have hh := xRTrans; refine Vm.rm (Vm.s1 ?_); clear hh; try exact True.intro)
     (have hh := xRTrans; refine Vm.rn ?_; clear hh; try exact True.intro)
     (have hh := And.intro xRTrans @dRep.eq_1; refine Vm.rx (Vm.s1 ?_); clear hh; try exact True.intro)
   by_cases g2 : (cur.length : Int) ≤ a.o
   · have he : errA cur a = 3 := by rw [errA, if_pos (.inr g2)]
     have g2' : (s.length : Int) ≤ a.o := by omega
     have hr := st2 (by rw [he]; decide)
     rw [hr, he]
     (have hh := And.intro xRTrans <| And.intro @g1 <| And.intro @g2' @hml; refine Vm.rn ?_; clear hh; try exact True.intro)
     (have hh := xRTrans; refine Vm.rm (Vm.s1 ?_); clear hh; try exact True.intro)
     (have hh := xRTrans; refine Vm.rn ?_; clear hh; try exact True.intro)
     (have hh := And.intro xRTrans @dRep.eq_1; refine Vm.rx (Vm.s1 ?_); clear hh; try exact True.intro)
   obtain ⟨j, x, hj, hjl, hxj, hrow, hxm, hact, hnext⟩ := act_at g1 g2
   have g3 : ¬ (s.length : Int) ≤ (j : Int) := by omega
   have g4 : (j : Int) < s.length := by omega
   have g5 : ¬ (j : Int) < 0 := by omega
   have herr : errA cur a = if (appF x a.op.k a.op.a a.op.b).e ≠ 0 then (appF x a.op.k a.op.a a.op.b).e else if (appF x a.op.k a.op.a a.op.b).r ≠ a.op.r then 9 else 0 := by rw [errA, if_neg (by omega), hact]
   rw [hj]
   (have hh := And.intro xRTrans <| And.intro @g3 <| And.intro @g5 @hml; refine Vm.r1 ?_; refine Vm.r1 ?_; refine Vm.r1 ?_; refine Vm.r1 ?_; refine Vm.r1 ?_; clear hh)
   refine Vm.sk_promote 1 j 2 ⟨rfl, rfl, rfl⟩ (by exact rfl) hrow rfl ?_
   simp only [List.set_cons_zero, List.set_cons_succ, List.length_cons, List.length_nil, List.cons_append, List.nil_append, Nat.reduceAdd, List.length_map]
   have hrow2 : ((cur.map dF).set j [Vm.D.atom (V.int IntKind.i64 x.t), Vm.D.atom (V.int IntKind.i64 x.n), Vm.D.own 3 x.l.length])[j]? = some [Vm.D.atom (V.int IntKind.i64 x.t), Vm.D.atom (V.int IntKind.i64 x.n), Vm.D.own 3 x.l.length] := by
    rw [List.getElem?_set_self (by simpa using hjl)]
   have hml2 : ((cur.map dF).set j [Vm.D.atom (V.int IntKind.i64 x.t), Vm.D.atom (V.int IntKind.i64 x.n), Vm.D.own 3 x.l.length]).length = s.length := by rw [List.length_set]; exact hml
   have hset : ∀ q : Ans, (cur.map dF).set j [Vm.D.atom (V.int IntKind.i64 q.s.t), Vm.D.atom (V.int IntKind.i64 q.s.n), Vm.D.fresh 1 (q.s.l.map dI)] = (cur.set j q.s).map dF := fun q => by rw [List.map_set]; rfl
   have hxl := hcf.one x hxm
   refine Vm.sk_draw 16 [0,1,2,3,4,5,6,7,8,9,12,13,10,11,14,15] (by kernel_rfl) (by kernel_rfl) (by decide) ?_
   (have hh := And.intro xRTrans <| And.intro @hrow2 <| And.intro @hml2 <| And.intro @g3 @g4; refine Vm.rn ?_; clear hh; try exact True.intro)
   (have hh := And.intro xRTrans <| And.intro @dS.eq_1 <| And.intro @dO.eq_1 <| And.intro @dLeg.eq_1 <| And.intro @dF.eq_1 <| And.intro @Am.vt @Vm.overD.eq_1; (first | refine Vm.callQ_eq2 (rlegal_v x a.op hxl hi1 hi2) Vm.ct (Vm.rt ?_) | refine Vm.call_eq2 (rlegal_v x a.op hxl hi1 hi2) Vm.ct (Vm.rt ?_)); clear hh; try exact True.intro)
   generalize appF x a.op.k a.op.a a.op.b = q at herr hnext hact
   by_cases he : q.e = 0
   · by_cases hr : q.r = a.op.r
     · have e0 : errA cur a = 0 := by rw [herr, if_neg (by simpa using he), if_neg (by simpa using hr)]
       have hok : okA q a.op.r = true := by simp [okA, he, hr]
       (have hh := And.intro xRTrans <| And.intro @he <| And.intro @hok <| And.intro @hrow2 <| And.intro @hml2 <| And.intro @hml <| And.intro @g3 <| And.intro @g4 @Vm.overD.eq_1; refine Vm.rn ?_; clear hh; try exact True.intro)
       (have hh := xRTrans; refine Vm.rm (Vm.s1 ?_); clear hh; try exact True.intro)
       (have hh := xRTrans; refine Vm.rn ?_; clear hh; try exact True.intro)
       refine ih (i + 1, cur.set j q.s) _ (by dsimp only; omega) ⟨by dsimp only; omega, by simpa using hcl, ?_, ?_⟩ ?_
       · dsimp only
         rw [← hnext]
         refine FitS.next ?_ (by rw [hj]; exact hjl)
         rw [show t.acts.length - (i + 1) + 1 = t.acts.length - i by omega]; exact hcf
       · dsimp only
         rw [← hnext]; exact st1 e0
       (have hh := And.intro xRTrans <| And.intro @hset @List.set_set.{0}; exact Vm.lx Vm.cl)
     · have e0 : errA cur a = 9 := by rw [herr, if_neg (by simpa using he), if_pos hr]
       have hok : okA q a.op.r = false := by simp [okA, he, hr]
       have hr := st2 (by rw [e0]; decide)
       rw [hr, e0]
       (have hh := And.intro xRTrans <| And.intro @he <| And.intro @hok @Vm.overD.eq_1; refine Vm.rn ?_; clear hh; try exact True.intro)
       (have hh := xRTrans; refine Vm.rm (Vm.s1 ?_); clear hh; try exact True.intro)
       (have hh := xRTrans; refine Vm.rn ?_; clear hh; try exact True.intro)
       (have hh := And.intro xRTrans @dRep.eq_1; refine Vm.rx (Vm.s1 ?_); clear hh; try exact True.intro)
   · have e0 : errA cur a = q.e := by rw [herr, if_pos he]
     have hr := st2 (by rw [e0]; exact he)
     rw [hr, e0]
     (have hh := And.intro xRTrans <| And.intro @he @Vm.overD.eq_1; refine Vm.rn ?_; clear hh; try exact True.intro)
     (have hh := xRTrans; refine Vm.rm (Vm.s1 ?_); clear hh; try exact True.intro)
     (have hh := And.intro xRTrans @he; refine Vm.rn ?_; clear hh; try exact True.intro)
     (have hh := And.intro xRTrans @dRep.eq_1; refine Vm.rx (Vm.s1 ?_); clear hh; try exact True.intro)
 · have : i = t.acts.length := by omega
   subst this
   rw [repN_end hrep]
   (have hh := xRTrans; refine Vm.rn ?_; clear hh; try exact True.intro)
   refine Vm.sk_draw 7 [0, 1, 2, 3, 4, 5, 6] (by kernel_rfl) (by kernel_rfl) (by decide) ?_
   (have hh := xRTrans; refine Vm.rn ?_; clear hh; try exact True.intro)
   (have hh := xRTrans; refine Vm.rn ?_; clear hh; try exact True.intro)
   (have hh := And.intro xRTrans <| And.intro @dRep.eq_1 @hml; refine Vm.rx (Vm.s1 ?_); clear hh; try exact True.intro)
end Go.Proofs.YtphjohoipocpnaaGreat.W

/- What the laws share: transactions, lists written over. No conditions. -/
namespace Go.Proofs.YtphjohoipocpnaaGreat.W
open Go.Am
set_option linter.defProp false in
def xRKit2 := And.intro @prLL_dI <| And.intro @pr_dF <| And.intro @prLL_dF <| And.intro @imLL_I <| And.intro @nlR_dI <| And.intro @Vm.nlR_append @nlR_dF
theorem imL_dF (x : Sta) : Vm.imL (dF x) = dS x := by simp only [dF, dS, Vm.imL, Vm.D.im, imLL_I]
theorem imLL_dF : ∀ xs : List Sta, Vm.imLL (xs.map dF) = xs.map dS
 | [] => rfl
 | x :: xs => by simp only [List.map_cons, Vm.imLL, imLL_dF xs, imL_dF]
theorem imLL_A : ∀ xs : List Act, Vm.imLL (xs.map dA) = xs.map dA
 | [] => rfl
 | x :: xs => by simp only [List.map_cons, Vm.imLL, imLL_A xs]; rfl
theorem nlR_dA (xs : List Act) : Vm.nlR (xs.map dA) = true := Vm.nlR_map (fun x => rfl) xs
theorem prLL_dA (xs : List Act) : Vm.prLL (xs.map dA) = true := Vm.prLL_map (fun x => rfl) xs
theorem over_v {so : List Vm.Ob} {k m : Nat} {xs : List Int} (hk : so[k]? = some (.sl 1 (xs.map dI))) (hm : xs.length = m) (hl : m < 1000000000) :
  Vm.VM T 41 [.own k m] so fun d so' => ∃ ys : List Int, ys.length = m ∧ so' = so.set k (.sl 1 (ys.map dI)) := by
 have hself : ∀ x, (so.set k x)[k]? = some x := fun x => by
  rw [List.getElem?_set_self]
  rcases Nat.lt_or_ge k so.length with h | h
  · exact h
  · rw [List.getElem?_eq_none h] at hk; cases hk
 have hsame : so.set k (.sl 1 (xs.map dI)) = so := by
  apply List.ext_getElem?
  intro i
  by_cases h : k = i
  · subst h; rw [hself, hk]
  · rw [List.getElem?_set_ne h]
 refine Vm.vm_enter (T := T) rfl Tryz.func41 rfl (by simp only [Tryz.f41, List.length_cons, List.length_nil]; decide) fun g hG0 hU => ?_
 simp only [Tryz.f41, Vm.argsTm_cons, Vm.argsTm_nil, Nat.reduceAdd]
 (have hh := And.intro xRKit2 <| And.intro @imLL_dF <| And.intro @imLL_A <| And.intro @nlR_dA @prLL_dA; refine Vm.rn ?_; clear hh; try exact True.intro)
 refine Vm.sk_loop (fun p : Nat × List Int => m - p.1) (fun p => ⟨[(0, .own k m), (2, .atom (.int .i64 p.1))], so.set k (.sl 1 (p.2.map dI)), 12⟩) (fun p => p.1 ≤ m ∧ p.2.length = m) (0, xs) ?_ ⟨by simp, hm⟩ ?_
 · rw [hsame]
   (have hh := And.intro xRKit2 <| And.intro @imLL_dF <| And.intro @imLL_A <| And.intro @nlR_dA @prLL_dA; exact Vm.le_tm2 rfl Vm.cl)
 rintro ⟨i, ys⟩ ⟨hi, hy⟩ ih
 simp only at hi hy ⊢
 (have hh := And.intro xRKit2 <| And.intro @imLL_dF <| And.intro @imLL_A <| And.intro @nlR_dA <| And.intro @prLL_dA @hself; refine Vm.rn ?_; clear hh; try exact True.intro)
 refine Vm.sb_dec (fun hc => ?_) (fun hc => ?_)
 · have h1 : i < ys.length := by omega
   have g1 : (ys.map dI)[i]? = some (dI ys[i]) := by simp [h1]
   (have hh := And.intro xRKit2 <| And.intro @imLL_dF <| And.intro @imLL_A <| And.intro @nlR_dA <| And.intro @prLL_dA <| And.intro @hself <| And.intro @g1 @dI.eq_1; refine Vm.rn ?_; clear hh; try exact True.intro)
   have e : (ys.map dI).set i [.atom (.int .i64 (-77))] = (ys.set i (-77)).map dI := by rw [List.map_set]; rfl
   rw [List.set_set, e]
   refine ih (i + 1, ys.set i (-77)) _ (by dsimp only; omega) ⟨by dsimp only; omega, by simpa using hy⟩ ?_
   (have hh := And.intro xRKit2 <| And.intro @imLL_dF <| And.intro @imLL_A <| And.intro @nlR_dA @prLL_dA; exact Vm.le_tm2 rfl Vm.cl)
 · (have hh := And.intro xRKit2 <| And.intro @imLL_dF <| And.intro @imLL_A <| And.intro @nlR_dA @prLL_dA; refine Vm.rn ?_; clear hh; try exact True.intro)
   (have hh := And.intro xRKit2 <| And.intro @imLL_dF <| And.intro @imLL_A <| And.intro @nlR_dA @prLL_dA; refine Vm.rm (Vm.s1 ?_); clear hh; try exact True.intro)
   exact ⟨ys, hy, rfl⟩
def thenO (a b : Option Bool) : Option Bool :=
 match a with
 | some true => b
 | some false => some false
 | none => none
theorem thenO_dec (p : Prop) [Decidable p] (q : Prop) [Decidable q] : thenO (some (decide p)) (some (decide q)) = some (decide (p ∧ q)) := by
 by_cases h1 : p <;> by_cases h2 : q <;> simp [thenO, h1, h2]
theorem eqS_act0 (a b c d e f a' b' c' d' e' f' : Int) : T.eqS 60 [.int .i64 a, .int .i64 b, .int .i64 c, .int .i64 d, .int .i64 e, .int .i64 f] [.int .i64 a', .int .i64 b', .int .i64 c', .int .i64 d', .int .i64 e', .int .i64 f'] =
  thenO (some (decide (a = a'))) (thenO (thenO (some (decide (b = b'))) (thenO (some (decide (c = c'))) (thenO (some (decide (d = d'))) (thenO (thenO (some (decide (e = e'))) (thenO (some (decide (f = f'))) (some true))) (some true))))) (some true)) := by kernel_rfl
theorem eqS_act (x y : Act) : T.eqS 60 [.int .i64 x.o, .int .i64 x.op.k, .int .i64 x.op.a, .int .i64 x.op.b, .int .i64 x.op.r.k, .int .i64 x.op.r.n] [.int .i64 y.o, .int .i64 y.op.k, .int .i64 y.op.a, .int .i64 y.op.b, .int .i64 y.op.r.k, .int .i64 y.op.r.n] = some (decide (x = y)) := by
 have ht : (some true : Option Bool) = some (decide True) := rfl
 rw [eqS_act0, ht]
 simp only [thenO_dec]
 obtain ⟨a, b, c, d, e, f⟩ := x
 obtain ⟨a', b', c', d', e', f'⟩ := y
 simp only [Act.mk.injEq, Opr.mk.injEq, Rt.mk.injEq, and_true]
theorem copyT_v (t : Tra) (h1 : t.acts.length < 1000000000) (h2 : t.at_.length < 1000000000) : Vm.VC T 11 [.agg (dT t)] fun d => d = .agg [.atom (.str t.name), .atom (.int .i64 t.b), .atom (.int .i64 t.c), .fresh 6 (t.acts.map dA), .fresh 1 (t.at_.map dI)] := by
 have htk : (t.acts.map dA).take t.acts.length = t.acts.map dA := List.take_of_length_le (by simp)
 refine Vm.vc_enter (T := T) rfl Tryz.func11 rfl (by simp only [Tryz.f11, List.length_cons, List.length_nil]; decide) fun g hB hG0 hU => ?_
 simp only [Tryz.f11, Vm.argsTm_cons, Vm.argsTm_nil, Nat.reduceAdd]
 (have hh := And.intro xRKit2 <| And.intro @imLL_dF <| And.intro @imLL_A <| And.intro @nlR_dA <| And.intro @prLL_dA <| And.intro @dT.eq_1 <| And.intro @Vm.overD.eq_1 @htk; refine Vm.rn ?_; clear hh; try exact True.intro)
 (have hh := And.intro xRKit2 <| And.intro @imLL_dF <| And.intro @imLL_A <| And.intro @nlR_dA <| And.intro @prLL_dA @Vm.overD.eq_1; refine Vm.call_eq2 (copyI_v t.at_ h2) Vm.cl (Vm.rn ?_); clear hh; try exact True.intro)
 (have hh := And.intro xRKit2 <| And.intro @imLL_dF <| And.intro @imLL_A <| And.intro @nlR_dA @prLL_dA; refine Vm.rx (Vm.s1 ?_); clear hh; try exact True.intro)
theorem sameT_v (s t : Tra) (h1 : s.acts.length < 1000000000) (h2 : s.at_.length < 1000000000) : Vm.VC T 16 [.agg (dT s), .agg (dT t)] fun d => d = .atom (.bool (decide (s = t))) := by
 refine Vm.vc_enter (T := T) rfl Tryz.func16 rfl (by simp only [Tryz.f16, List.length_cons, List.length_nil]; decide) fun g hB hG0 hU => ?_
 simp only [Tryz.f16, Vm.argsTm_cons, Vm.argsTm_nil, Nat.reduceAdd]
 obtain ⟨n, b, c, xs, l⟩ := s
 obtain ⟨n', b', c', ys, l'⟩ := t
 dsimp only at h1 h2
 simp only [Tra.mk.injEq]
 by_cases e1 : n = n'
 · subst e1
   by_cases e2 : b = b'
   · by_cases e3 : c = c'
     · by_cases e4 : (xs.length : Int) = ys.length
       · (have hh := And.intro xRKit2 <| And.intro @imLL_dF <| And.intro @imLL_A <| And.intro @nlR_dA <| And.intro @prLL_dA <| And.intro @dT.eq_1 <| And.intro @e2 <| And.intro @e3 @e4; refine Vm.rn ?_; clear hh; try exact True.intro)
         (have hh := And.intro xRKit2 <| And.intro @imLL_dF <| And.intro @imLL_A <| And.intro @nlR_dA <| And.intro @prLL_dA <| And.intro @dT.eq_1 <| And.intro @e2 <| And.intro @e3 @e4; refine Vm.call_eq2 (sameI_v l l' h2) Vm.cl (Vm.rn ?_); clear hh; try exact True.intro)
         refine Vm.sb_dec (fun e5 => ?_) (fun e5 => ?_)
         · (have hh := And.intro xRKit2 <| And.intro @imLL_dF <| And.intro @imLL_A <| And.intro @nlR_dA @prLL_dA; refine Vm.rn ?_; clear hh; try exact True.intro)
           (have hh := And.intro xRKit2 <| And.intro @imLL_dF <| And.intro @imLL_A <| And.intro @nlR_dA @prLL_dA; refine Vm.rx (Vm.s1 ?_); clear hh; try exact True.intro)
           simp only [e5, and_false, decide_false]
         · have e5' : l = l' := by simpa using e5
           have hle2 : xs.length = ys.length := by omega
           (have hh := And.intro xRKit2 <| And.intro @imLL_dF <| And.intro @imLL_A <| And.intro @nlR_dA <| And.intro @prLL_dA @e4; refine Vm.rn ?_; clear hh; try exact True.intro)
           refine Vm.sk_loop (fun i : Nat => xs.length - i) (fun i => ⟨[(2, .rptr 0 0), (3, .rptr 1 0), (5, .atom (.int .i64 i))], [.cell [.atom (.str n), .atom (.int .i64 b'), .atom (.int .i64 c'), .imm 6 (xs.map dA), .imm 1 (l.map dI)], .cell [.atom (.str n), .atom (.int .i64 b'), .atom (.int .i64 c'), .imm 6 (ys.map dA), .imm 1 (l'.map dI)]], 60⟩) (fun i => i ≤ xs.length ∧ xs.take i = ys.take i) 0 ?_ ⟨by omega, by simp⟩ ?_
           · (have hh := And.intro xRKit2 <| And.intro @imLL_dF <| And.intro @imLL_A <| And.intro @nlR_dA @prLL_dA; exact Vm.lx Vm.cl)
           rintro i ⟨hi, he⟩ ih
           (have hh := And.intro xRKit2 <| And.intro @imLL_dF <| And.intro @imLL_A <| And.intro @nlR_dA <| And.intro @prLL_dA @e4; refine Vm.rn ?_; clear hh; try exact True.intro)
           refine Vm.sb_dec (fun hc => ?_) (fun hc => ?_)
           · obtain ⟨x, hx, g1⟩ := row_at (f := dA) (l := xs) (i := i) (by omega)
             obtain ⟨y, hy, g2⟩ := row_at (f := dA) (l := ys) (i := i) (by omega)
             obtain ⟨s1, s2⟩ := same_step hx hy he
             simp only [dA] at g1 g2
             (have hh := And.intro xRKit2 <| And.intro @imLL_dF <| And.intro @imLL_A <| And.intro @nlR_dA @prLL_dA; refine Vm.rn ?_; clear hh; try exact True.intro)
             refine Vm.sk_draw 11 [0, 1, 2, 3, 4, 5, 6, 7, 8, 9, 10] (by kernel_rfl) (by kernel_rfl) (by decide) ?_
             (have hh := And.intro xRKit2 <| And.intro @imLL_dF <| And.intro @imLL_A <| And.intro @nlR_dA <| And.intro @prLL_dA <| And.intro @g1 <| And.intro @g2 @eqS_act; refine Vm.rn ?_; clear hh; try exact True.intro)
             (have hh := And.intro xRKit2 <| And.intro @imLL_dF <| And.intro @imLL_A <| And.intro @nlR_dA @prLL_dA; refine Vm.rn ?_; clear hh; try exact True.intro)
             refine Vm.sb_dec (fun hb => ?_) (fun hb => ?_)
             · (have hh := And.intro xRKit2 <| And.intro @imLL_dF <| And.intro @imLL_A <| And.intro @nlR_dA @prLL_dA; refine Vm.rn ?_; clear hh; try exact True.intro)
               (have hh := And.intro xRKit2 <| And.intro @imLL_dF <| And.intro @imLL_A <| And.intro @nlR_dA @prLL_dA; refine Vm.rx (Vm.s1 ?_); clear hh; try exact True.intro)
               simp [s2 hb]
             · (have hh := And.intro xRKit2 <| And.intro @imLL_dF <| And.intro @imLL_A <| And.intro @nlR_dA @prLL_dA; refine Vm.rn ?_; clear hh; try exact True.intro)
               refine ih (i + 1) _ (by dsimp only; omega) ⟨by omega, s1 (by simpa using hb)⟩ ?_
               (have hh := And.intro xRKit2 <| And.intro @imLL_dF <| And.intro @imLL_A <| And.intro @nlR_dA @prLL_dA; exact Vm.lx Vm.cl)
           · (have hh := And.intro xRKit2 <| And.intro @imLL_dF <| And.intro @imLL_A <| And.intro @nlR_dA @prLL_dA; refine Vm.rn ?_; clear hh; try exact True.intro)
             (have hh := And.intro xRKit2 <| And.intro @imLL_dF <| And.intro @imLL_A <| And.intro @nlR_dA @prLL_dA; refine Vm.rx (Vm.s1 ?_); clear hh; try exact True.intro)
             simp [same_end hle2 (by omega) he, e2, e3, e5']
       · (have hh := And.intro xRKit2 <| And.intro @imLL_dF <| And.intro @imLL_A <| And.intro @nlR_dA <| And.intro @prLL_dA <| And.intro @dT.eq_1 <| And.intro @e2 <| And.intro @e3 @e4; refine Vm.rn ?_; clear hh; try exact True.intro)
         (have hh := And.intro xRKit2 <| And.intro @imLL_dF <| And.intro @imLL_A <| And.intro @nlR_dA @prLL_dA; refine Vm.rx (Vm.s1 ?_); clear hh; try exact True.intro)
         have : ¬ xs = ys := fun e => e4 (by rw [e])
         simp [this]
     · (have hh := And.intro xRKit2 <| And.intro @imLL_dF <| And.intro @imLL_A <| And.intro @nlR_dA <| And.intro @prLL_dA <| And.intro @dT.eq_1 <| And.intro @e2 @e3; refine Vm.rn ?_; clear hh; try exact True.intro)
       (have hh := And.intro xRKit2 <| And.intro @imLL_dF <| And.intro @imLL_A <| And.intro @nlR_dA <| And.intro @prLL_dA @e3; refine Vm.rx (Vm.s1 ?_); clear hh; try exact True.intro)
   · (have hh := And.intro xRKit2 <| And.intro @imLL_dF <| And.intro @imLL_A <| And.intro @nlR_dA <| And.intro @prLL_dA <| And.intro @dT.eq_1 @e2; refine Vm.rn ?_; clear hh; try exact True.intro)
     (have hh := And.intro xRKit2 <| And.intro @imLL_dF <| And.intro @imLL_A <| And.intro @nlR_dA <| And.intro @prLL_dA @e2; refine Vm.rx (Vm.s1 ?_); clear hh; try exact True.intro)
 · (have hh := And.intro xRKit2 <| And.intro @imLL_dF <| And.intro @imLL_A <| And.intro @nlR_dA <| And.intro @prLL_dA <| And.intro @dT.eq_1 @e1; refine Vm.rn ?_; clear hh; try exact True.intro)
   (have hh := And.intro xRKit2 <| And.intro @imLL_dF <| And.intro @imLL_A <| And.intro @nlR_dA <| And.intro @prLL_dA @e1; refine Vm.rx (Vm.s1 ?_); clear hh; try exact True.intro)
def longSt (l : List Sta) : Bool := ((l.take 9).any fun s => decide (20 < s.l.length)) || decide (8 < l.length)
theorem longSt_v (l : List Sta) : Vm.VC T 8 [.imm 3 (l.map dS)] fun d => d = .atom (.bool (longSt l)) := by
 refine Vm.vc_enter (T := T) rfl Tryz.func8 rfl (by simp only [Tryz.f8, List.length_cons, List.length_nil]; decide) fun g hB hG0 hU => ?_
 simp only [Tryz.f8, Vm.argsTm_cons, Vm.argsTm_nil, Nat.reduceAdd]
 (have hh := And.intro xRKit2 <| And.intro @imLL_dF <| And.intro @imLL_A <| And.intro @nlR_dA @prLL_dA; refine Vm.rn ?_; clear hh; try exact True.intro)
 refine Vm.sk_loop (fun i : Nat => 9 - i) (fun i => ⟨[(3, .atom (.int .i64 i)), (0, .imm 3 (l.map dS))], [], 24⟩) (fun i => i ≤ 9 ∧ ((l.take i).any fun s => decide (20 < s.l.length)) = false) 0 ?_ ⟨by omega, by simp⟩ ?_
 · (have hh := And.intro xRKit2 <| And.intro @imLL_dF <| And.intro @imLL_A <| And.intro @nlR_dA @prLL_dA; exact Vm.lx Vm.cl)
 rintro i ⟨hi, hany⟩ ih
 by_cases h1 : (i : Int) < l.length
 · by_cases h2 : (i : Int) < 9
   · obtain ⟨x, hx, g1⟩ := row_at (f := dS) (l := l) (i := i) (by omega)
     simp only [dS] at g1
     have hst : ((l.take (i + 1)).any fun s => decide (20 < s.l.length)) = decide (20 < x.l.length) := by rw [take_at hx, List.any_append, hany]; simp
     (have hh := And.intro xRKit2 <| And.intro @imLL_dF <| And.intro @imLL_A <| And.intro @nlR_dA <| And.intro @prLL_dA <| And.intro @h1 <| And.intro @h2 @g1; refine Vm.rn ?_; clear hh; try exact True.intro)
     refine Vm.sb_dec (fun h3 => ?_) (fun h3 => ?_)
     · have h4 : ((l.take 9).any fun s => decide (20 < s.l.length)) = true := by
        rw [List.any_eq_true]
        refine ⟨x, ?_, by simp; omega⟩
        refine List.mem_of_getElem? (i := i) ?_
        rw [List.getElem?_take, if_pos (by omega)]; exact hx
       (have hh := And.intro xRKit2 <| And.intro @imLL_dF <| And.intro @imLL_A <| And.intro @nlR_dA @prLL_dA; refine Vm.rn ?_; clear hh; try exact True.intro)
       (have hh := And.intro xRKit2 <| And.intro @imLL_dF <| And.intro @imLL_A <| And.intro @nlR_dA <| And.intro @prLL_dA <| And.intro @longSt.eq_1 @h4; refine Vm.rx (Vm.s1 ?_); clear hh; try exact True.intro)
     · (have hh := And.intro xRKit2 <| And.intro @imLL_dF <| And.intro @imLL_A <| And.intro @nlR_dA @prLL_dA; refine Vm.rn ?_; clear hh; try exact True.intro)
       refine ih (i + 1) _ (by dsimp only; omega) ⟨by omega, by rw [hst]; simp; omega⟩ ?_
       (have hh := And.intro xRKit2 <| And.intro @imLL_dF <| And.intro @imLL_A <| And.intro @nlR_dA @prLL_dA; exact Vm.lx Vm.cl)
   · have : i = 9 := by omega
     subst this
     have h3 : (9 : Int) < l.length := by omega
     (have hh := And.intro xRKit2 <| And.intro @imLL_dF <| And.intro @imLL_A <| And.intro @nlR_dA <| And.intro @prLL_dA @h3; refine Vm.rn ?_; clear hh; try exact True.intro)
     (have hh := And.intro xRKit2 <| And.intro @imLL_dF <| And.intro @imLL_A <| And.intro @nlR_dA <| And.intro @prLL_dA <| And.intro @longSt.eq_1 @hany; refine Vm.rx (Vm.s1 ?_); clear hh; try exact True.intro)
     have : 8 < l.length := by omega
     simp [this]; omega
 · have e : l.take 9 = l.take i := by
    rw [List.take_of_length_le (by omega), List.take_of_length_le (by omega)]
   (have hh := And.intro xRKit2 <| And.intro @imLL_dF <| And.intro @imLL_A <| And.intro @nlR_dA <| And.intro @prLL_dA @h1; refine Vm.rn ?_; clear hh; try exact True.intro)
   (have hh := And.intro xRKit2 <| And.intro @imLL_dF <| And.intro @imLL_A <| And.intro @nlR_dA <| And.intro @prLL_dA <| And.intro @longSt.eq_1 <| And.intro @e @hany; refine Vm.rx (Vm.s1 ?_); clear hh; try exact True.intro)
   simp; omega
theorem awake_v : Vm.VC T 9 [] fun d => d = .atom (.bool true) :=
 Vm.vc_am fun P H vs wf r => by
  obtain ⟨rfl, _⟩ := r.nil_inv
  exact (Vm.prim_to (p := closedTrue) (R := fun r H' => r = .bool true ∧ H' = H) rfl rfl ⟨rfl, rfl⟩).mono fun v H' ⟨h1, h2⟩ => ⟨⟨_, [], rfl, h1 ▸ .atom .nil, by simp, by simp⟩, by subst h2; exact Ext.refl wf⟩
end Go.Proofs.YtphjohoipocpnaaGreat.W
