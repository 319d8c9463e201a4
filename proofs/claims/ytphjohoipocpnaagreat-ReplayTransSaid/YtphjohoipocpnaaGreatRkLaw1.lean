import Derived.Test.YtphjohoipocpnaaGreatRkG
import Derived.Test.YtphjohoipocpnaaGreatRkA
set_option linter.unusedSimpArgs false
set_option linter.unusedVariables false
set_option maxRecDepth 8000
/- The law of transactions replayed. No conditions. -/
namespace Go.Proofs.YtphjohoipocpnaaGreat.W
open Go.Am
set_option linter.defProp false in
def xRLaw1 := And.intro @prLL_dI <| And.intro @pr_dF <| And.intro @prLL_dF <| And.intro @imLL_dF <| And.intro @imLL_I <| And.intro @imLL_A <| And.intro @nlR_dI <| And.intro @nlR_dA <| And.intro @prLL_dA <| And.intro @Vm.nlR_append @nlR_dF
theorem fz_A (k : Nat) (cs : List Vm.D) (xs : List Act) : (xs.map dA).map (Vm.fzL k cs) = xs.map dA := by simp [dA, Vm.fzL, Vm.fzD]
theorem fz_S (k : Nat) (cs : List Vm.D) (xs : List Sta) : (xs.map dS).map (Vm.fzL k cs) = xs.map dS := by simp [dS, Vm.fzL, Vm.fzD]
theorem repN_len : ∀ (acs : List Act) (s : List Sta) (n : Nat), (repN s acs n).1.length ≤ s.length
 | [], s, n => Nat.le_refl _
 | a :: acs, s, n => by
   simp only [repN]
   split
   · have := repN_len acs (nextA s a) (n + 1)
     rw [next_len] at this; exact this
   · exact Nat.zero_le _
theorem repN_many : ∀ (acs : List Act) (s : List Sta) (n : Nat), (repN s acs n).2.1 ≤ n + acs.length
 | [], s, n => Nat.le_refl _
 | a :: acs, s, n => by
   simp only [repN]
   split
   · have := repN_many acs (nextA s a) (n + 1)
     rw [List.length_cons]; omega
   · rw [List.length_cons]; dsimp only; omega
theorem repN_fit : ∀ (acs : List Act) (s : List Sta) (n m : Nat), FitS s (acs.length + m) → FitS (repN s acs n).1 m
 | [], s, n, m, h => by
   simp only [repN]
   intro x hx
   have := h x hx
   simp only [List.length_nil, Nat.zero_add] at this; exact this
 | a :: acs, s, n, m, h => by
   simp only [repN]
   split
   · rename_i he
     refine repN_fit acs (nextA s a) (n + 1) m (FitS.next ?_ ?_)
     · rw [List.length_cons] at h
       rw [show acs.length + m + 1 = acs.length + 1 + m by omega]; exact h
     · unfold errA at he
       split at he
       · cases he
       · omega
   · intro x hx; cases hx
theorem take9 {l : List Sta} (h : longSt l = false) : l.length ≤ 8 ∧ ∀ s, s ∈ l → s.l.length ≤ 20 := by
 simp only [longSt, Bool.or_eq_false_iff, decide_eq_false_iff_not] at h
 obtain ⟨h1, h2⟩ := h
 have hl : l.length ≤ 8 := by omega
 refine ⟨hl, fun s hs => ?_⟩
 rw [List.take_of_length_le (by omega)] at h1
 have := List.any_eq_false.1 h1 s hs
 simp at this; omega
def gone : Sta → List Vm.D := fun _ => [.atom (.int .i64 (-7)), .atom (.int .i64 0), .atom .nilSlice]
theorem replayTrans_v (s : List Sta) (t : Tra) (hi : ∀ a, a ∈ t.acts → ActI a) : Vm.VC T 3 [.imm 3 (s.map dS), .agg (dT t)] fun d => d = .atom (.bool true) := by
 refine Vm.vc_enter (T := T) rfl Tryz.func3 rfl (by simp only [Tryz.f3, List.length_cons, List.length_nil]; decide) fun g hB hG0 hU => ?_
 simp only [Tryz.f3, Vm.argsTm_cons, Vm.argsTm_nil, Nat.reduceAdd]
 (have hh := And.intro xRLaw1 @dT.eq_1; refine Vm.rn ?_; clear hh; try exact True.intro)
 (have hh := xRLaw1; refine Vm.call_eq2 (longSt_v s) Vm.cl (Vm.rn ?_); clear hh; try exact True.intro)
 cases h1 : longSt s with
 | true =>
   (have hh := xRLaw1; refine Vm.rn ?_; clear hh; try exact True.intro)
   (have hh := xRLaw1; refine Vm.call_eq2 (awake_v) Vm.cl (Vm.rn ?_); clear hh; try exact True.intro)
   (have hh := xRLaw1; refine Vm.rx (Vm.s1 ?_); clear hh; try exact True.intro)
 | false =>
   obtain ⟨h5, h6⟩ := take9 h1
   by_cases h2 : (12 : Int) < t.acts.length
   · (have hh := And.intro xRLaw1 @h2; refine Vm.rn ?_; clear hh; try exact True.intro)
     (have hh := xRLaw1; refine Vm.call_eq2 (awake_v) Vm.cl (Vm.rn ?_); clear hh; try exact True.intro)
     (have hh := xRLaw1; refine Vm.rx (Vm.s1 ?_); clear hh; try exact True.intro)
   by_cases h3 : (12 : Int) < t.at_.length
   · (have hh := And.intro xRLaw1 <| And.intro @h2 @h3; refine Vm.rn ?_; clear hh; try exact True.intro)
     (have hh := xRLaw1; refine Vm.call_eq2 (awake_v) Vm.cl (Vm.rn ?_); clear hh; try exact True.intro)
     (have hh := xRLaw1; refine Vm.rx (Vm.s1 ?_); clear hh; try exact True.intro)
   by_cases h4 : (60 : Int) < t.name.length
   · (have hh := And.intro xRLaw1 <| And.intro @h2 <| And.intro @h3 @h4; refine Vm.rn ?_; clear hh; try exact True.intro)
     (have hh := xRLaw1; refine Vm.call_eq2 (awake_v) Vm.cl (Vm.rn ?_); clear hh; try exact True.intro)
     (have hh := xRLaw1; refine Vm.rx (Vm.s1 ?_); clear hh; try exact True.intro)
   have hf : FitS s (t.acts.length + 0) := fun x hx => by have := h6 x hx; omega
   have hf2 := repN_fit t.acts s 0 0 hf
   have hlen := repN_len t.acts s 0
   have hmany := repN_many t.acts s 0
   (have hh := And.intro xRLaw1 <| And.intro @h2 <| And.intro @h3 @h4; refine Vm.rn ?_; clear hh; try exact True.intro)
   (have hh := And.intro xRLaw1 <| And.intro @fz_I <| And.intro @fz_A @fz_S; refine Vm.sk_fz 0 (by exact rfl) Vm.cl (Vm.fz ?_); clear hh)
   refine Vm.sk_draw2 7 [0, 1, 2, 3, 4, 5, 6] [0,1,0,7,0,31,63] (by kernel_rfl) (by kernel_rfl) (by decide) ?_
   (have hh := xRLaw1; refine Vm.rt ?_; clear hh; try exact True.intro)
   (have hh := And.intro xRLaw1 @Am.vt; (first | refine Vm.callQ_eq2 (copySs_v s (by omega) hf.one) Vm.ct (Vm.rt ?_) | refine Vm.call_eq2 (copySs_v s (by omega) hf.one) Vm.ct (Vm.rt ?_)); clear hh; try exact True.intro)
   (have hh := And.intro xRLaw1 <| And.intro @dT.eq_1 <| And.intro @Am.vt @Vm.overD.eq_1; (first | refine Vm.callQ_eq2 (copyT_v t (by omega) (by omega)) Vm.ct (Vm.rt ?_) | refine Vm.call_eq2 (copyT_v t (by omega) (by omega)) Vm.ct (Vm.rt ?_)); clear hh; try exact True.intro)
   (have hh := And.intro xRLaw1 @Vm.overD.eq_1; refine Vm.rn ?_; clear hh; try exact True.intro)
   (have hh := And.intro xRLaw1 <| And.intro @dT.eq_1 @dRep.eq_1; refine Vm.call_eq2 (trans_v s t (by omega) (by omega) hf hi) Vm.cl (Vm.rn ?_); clear hh; try exact True.intro)
   (have hh := And.intro xRLaw1 <| And.intro @dT.eq_1 @dRep.eq_1; refine Vm.call_eq2 (rtrans_v s t (by omega) (by omega) hf hi) Vm.cl (Vm.rn ?_); clear hh; try exact True.intro)
   generalize repN s t.acts 0 = q at hf2 hlen hmany
   (have hh := xRLaw1; refine Vm.call_eq2 (sameSs_v q.1 q.1 (by omega) hf2.one) Vm.cl (Vm.rn ?_); clear hh; try exact True.intro)
   refine Vm.sk_loop (fun i : Nat => q.1.length - i) (fun i => ⟨[(14, .atom (.int .i64 i)), (13, .atom (.bool true)), (7, .own 5 q.1.length), (6, .rptr 4 0), (5, .own 1 s.length), (3, .iptr (dT t) 0), (0, .imm 3 (s.map dS))],
    [.dead, .sl 3 (s.map dF), .sl 6 (t.acts.map dA), .sl 1 (t.at_.map dI), .cell [.atom (.str t.name), .atom (.int .i64 t.b), .atom (.int .i64 t.c), .own 2 t.acts.length, .own 3 t.at_.length], .sl 3 (mix gone dF q.1 i), .sl 3 (q.1.map dF)], 96⟩) (fun i => i ≤ q.1.length) 0 ?_ (Nat.zero_le _) ?_
   · rw [mix_zero]
     (have hh := And.intro xRLaw1 @dT.eq_1; exact Vm.lx Vm.cl)
   intro i hle ih
   have hml := mix_len (f := gone) (g := dF) hle
   (have hh := xRLaw1; refine Vm.rn ?_; clear hh; try exact True.intro)
   refine Vm.sb_dec (fun hlt => ?_) (fun hge => ?_)
   · obtain ⟨y, hy, _⟩ := row_at (f := dS) (l := q.1) (i := i) (by omega)
     obtain ⟨m1, m2⟩ := mix_step (f := gone) (g := dF) hy
     have hnl := mix_nl (f := gone) (g := dF) (fun _ => rfl) (fun _ => rfl) q.1 (i + 1)
     have hyl := hf2.one y (List.mem_of_getElem? hy)
     simp only [dF] at m1
     simp only [gone] at m2
     have hil : i < (mix gone dF q.1 i).length := by rw [hml]; omega
     have m3 : ((mix gone dF q.1 i).set i [Vm.D.atom (V.int IntKind.i64 y.t), Vm.D.atom (V.int IntKind.i64 y.n), Vm.D.own 7 y.l.length])[i]? = some [Vm.D.atom (V.int IntKind.i64 y.t), Vm.D.atom (V.int IntKind.i64 y.n), Vm.D.own 7 y.l.length] := by
      rw [List.getElem?_set_self hil]
     have m4 : ((mix gone dF q.1 i).set i [Vm.D.atom (V.int IntKind.i64 y.t), Vm.D.atom (V.int IntKind.i64 y.n), Vm.D.own 7 y.l.length]).length = q.1.length := by rw [List.length_set, hml]
     refine Vm.sk_promote 5 i 2 ⟨rfl, rfl, rfl⟩ (by exact rfl) m1 rfl ?_
     simp only [List.set_cons_zero, List.set_cons_succ, List.length_cons, List.length_nil, List.cons_append, List.nil_append, Nat.reduceAdd, List.length_map]
     (have hh := And.intro xRLaw1 <| And.intro @m3 @m4; refine Vm.rn ?_; clear hh; try exact True.intro)
     refine Vm.call_walk (T := T) rfl Tryz.func15 rfl (by simp only [Tryz.f15, List.length_cons, List.length_nil]; decide) fun _ hUi => ?_
     simp only [Tryz.f15, Vm.argsTm_cons, Vm.argsTm_nil, Nat.reduceAdd]
     (have hh := xRLaw1; refine Vm.rn ?_; clear hh; try exact True.intro)
     refine Vm.call_mut (R := ?vR1) ?vh1 ?vk1
     case vh1 => refine over_v (m := y.l.length) (xs := y.l) ?_ ?_ hyl <;> rfl
     rintro d so' ⟨ys, hys, rfl⟩
     (have hh := xRLaw1; refine Vm.rn ?_; clear hh; try exact True.intro)
     (have hh := xRLaw1; refine Vm.rm (Vm.s1 ?_); clear hh; try exact True.intro)
     (have hh := And.intro xRLaw1 <| And.intro @m3 <| And.intro @m4 @Vm.overD.eq_1; refine Vm.rn ?_; clear hh; try exact True.intro)
     refine ih (i + 1) _ (by dsimp only; omega) (by omega) ?_
     (have hh := And.intro xRLaw1 <| And.intro @m2 <| And.intro @hnl @List.set_set.{0}; exact Vm.lx Vm.cl)
   · (have hh := And.intro xRLaw1 @dT.eq_1; refine Vm.rn ?_; clear hh; try exact True.intro)
     (have hh := And.intro xRLaw1 @dT.eq_1; refine Vm.call_eq2 (sameSs_v s s (by omega) hf.one) Vm.cl (Vm.rn ?_); clear hh; try exact True.intro)
     (have hh := And.intro xRLaw1 @dT.eq_1; refine Vm.call_eq2 (sameT_v t t (by omega) (by omega)) Vm.cl (Vm.rn ?_); clear hh; try exact True.intro)
     (have hh := xRLaw1; refine Vm.call_eq2 (awake_v) Vm.cl (Vm.rn ?_); clear hh; try exact True.intro)
     (have hh := xRLaw1; refine Vm.rx (Vm.s1 ?_); clear hh; try exact True.intro)
theorem law_replayTrans (e0 : El (.slice shS)) (o0 : okE (.slice shS) e0) (e1 : El shT) (o1 : okE shT e1) : Vm.VC T 3 [argD (.slice shS) e0, argD shT e1] fun d => d = .atom (.bool true) := by
 rw [arg_T, show argD (.slice shS) e0 = _ from arg_Ss e0]
 exact replayTrans_v _ _ (ok_T o1)
end Go.Proofs.YtphjohoipocpnaaGreat.W
