/- The statement 'OrderTells' holds: whatever the arguments, the law returns true, and leaves what was there as it was. No conditions. It is shown by running the law on the small machine, over whatever arguments, which is proved to come to what the model's machine comes to. -/
import Derived.Test.YtkjknmdnehknbaaRows
import Derived.Test.YtkjknmdnehknbaaChecked
import Derived.Test.YtkjknmdnehknbaaAmEnd
import Derived.Test.YtkjknmdnehknbaaAmLay
import Derived.Test.YtkjknmdnehknbaaWkTells
import Derived.Test.YtkjknmdnehknbaaClosed8
import Derived.Test.YtkjknmdnehknbaaClosed4
import Derived.WalkKit
import Derived.ProofKit
import Derived.OpenShut
import Derived.ShutString
import Derived.ChangeOld
import Derived.Below
import Derived.Carry
import Derived.SizedLaws
import Derived.KernelRfl
import Derived.Shelf.SortM.Plain
import Derived.Shelf.SortM.SortNone
import Derived.Ground.SlgmProg
import Derived.Shelf.Slices.CompactI
import Derived.Ground.Names2Prog
import Derived.Test.YtkjknmdnehknbaaLayOrderTells
namespace Go.Proofs.Ytkjknmdnehknbaa.orderTells
open Go.ChangeShapes Go.WideShapes Go.ChangeAt Go.RowKit
open Go.ChangeMaps (open_string shut_string)
set_option linter.unusedVariables false
theorem own : ownKnob Try.prog.godebug = none := by kernel_rfl
theorem mixed : Try.prog.follows .mixedOrders = true := by kernel_rfl
theorem counted : Am.noCount Try.prog = true := by kernel_rfl
theorem laid : laidOutB Try.prog = true := by kernel_rfl
theorem prims : Am.PrimOk Try.prog W.T := by
  intro f g hg xs H v H' e μ w us h hr
  simp only [W.T, Am.tabOf, W.prim] at hg
  rw [Am.cond_beq] at hg
  split at hg
  · rename_i hf; subst hf; cases hg; exact Am.sort_prim (Am.tabOf_ok counted W.prim) Try.func54 rfl (fun blk off cap zs w hH hblk hsz => AnyM.slices_Sort_int Try.orderTellsSort blk off cap zs w hH hblk hsz) (fun p cap w => AnyM.slices_Sort_int_none Try.orderTellsSort p cap w) e h hr
  rw [Am.cond_beq] at hg
  split at hg
  · rename_i hf; subst hf; cases hg; exact Am.compact_prim (Am.tabOf_ok counted W.prim) Try.func51 rfl (fun blk off cap zs w hH hsz hc => Any.slices_Compact_int Try.orderTellsCompact blk off cap zs w hH hsz hc) (fun p cap w => Any.slices_Compact_int_empty Try.orderTellsCompact p cap w) e h hr
  rw [Am.cond_beq] at hg
  split at hg
  · rename_i hf; subst hf; cases hg; exact Am.closed_prim counted Try.func8 rfl Closed.walk8 e h hr
  rw [Am.cond_beq] at hg
  split at hg
  · rename_i hf; subst hf; cases hg; exact Am.closed_prim counted Try.func4 rfl Closed.walk4 e h hr
  cases hg
theorem opened {H : Type} {enc : TypeId × Value → H} {w : World} {t0 t1 t2 t3 : TypeId} {args : Array Value} {ds : List (DataW H)} {ps : List MemPlace} (h : DataW.TrodAll enc Try.prog w 0 (fun _ => true) true [t0, t1, t2, t3] args.toList ds ps) :
    ∃ v0 d0 p0 v1 d1 p1 v2 d2 p2 v3 d3 p3, args = #[v0, v1, v2, v3] ∧ ds = [d0, d1, d2, d3] ∧ ps = p0 ++ (p1 ++ (p2 ++ (p3))) ∧ DataW.Trod enc Try.prog w 0 (fun _ => true) true t0 v0 d0 p0 ∧ DataW.Trod enc Try.prog w 0 (fun _ => true) true t1 v1 d1 p1 ∧ DataW.Trod enc Try.prog w 0 (fun _ => true) true t2 v2 d2 p2 ∧ DataW.Trod enc Try.prog w 0 (fun _ => true) true t3 v3 d3 p3 := by
  obtain ⟨v0, vs0, d0, ds0, p0, q0, e0, f0, g0, h0, r0⟩ := trodAll_cons h
  obtain ⟨v1, vs1, d1, ds1, p1, q1, e1, f1, g1, h1, r1⟩ := trodAll_cons r0
  obtain ⟨v2, vs2, d2, ds2, p2, q2, e2, f2, g2, h2, r2⟩ := trodAll_cons r1
  obtain ⟨v3, vs3, d3, ds3, p3, q3, e3, f3, g3, h3, r3⟩ := trodAll_cons r2
  obtain ⟨e4, f4, g4⟩ := trodAll_nil r3
  subst e4 f4 g4
  subst e3 f3 g3
  subst e2 f2 g2
  subst e1 f1 g1
  subst f0 g0
  exact ⟨v0, d0, p0, v1, d1, p1, v2, d2, p2, v3, d3, p3, by cases args; simp_all, rfl, by simp, h0, h1, h2, h3⟩
set_option maxRecDepth 100000 in
theorem lifted (os : Os) (started : os.Started) (H : Type) (enc : TypeId × Value → H) :
    ReturnsInHanded {} Try.checked os 3 .any (Rows.orderTellsSpec.pre6 enc Try.prog Try.f3 Rows.orderTellsRow.domain false) (Rows.orderTellsSpec.post enc Try.prog Try.f3 false true false false) := by
  refine returnsInHanded_of_change_sized (C := Try.checked) own started (by kernel_rfl) Try.func3
    (ChangeSpec.witness6 (enc := enc) (C := Try.checked) false ⟨#[], #[.slice none 0 0, .slice none 0 0, .int .i64 0, .int .i64 0], []⟩ 8 (by kernel_rfl) (by kernel_rfl) (by kernel_rfl) (by kernel_rfl)) ?_
  intro W base args ds gs before hval0 hW hcnd hsz0 _
  have hW' := hW
  obtain ⟨p, q, hA0, hV, rfl, hfz, hnd⟩ := hW
  have hA : DataW.TrodAll enc Try.prog W 0 (fun _ => true) true Try.f3.params.toList args.toList ds p := hA0
  rw [Try.params3] at hA
  obtain ⟨rfl, rfl⟩ := trodVars_none hV
  clear hA0 hsz0
  obtain ⟨v0, d0, p0, v1, d1, p1, v2, d2, p2, v3, d3, p3, hargs, rfl, hps, h0, h1, h2, h3⟩ := opened hA
  subst hargs
  have hv0 := hval0 0 22 v0 rfl rfl
  obtain ⟨xs0, u0, μ0, H0, L0, x0, m0, r0, s0, w0⟩ := Am.Laid.ints (P := Try.prog) (Am.laid_none W) Try.underlying22 Try.underlying3 (by kernel_rfl) hv0 h0
  have hv1 := hval0 1 22 v1 rfl rfl
  obtain ⟨xs1, u1, μ1, H1, L1, x1, m1, r1, s1, w1⟩ := Am.Laid.ints (P := Try.prog) L0 Try.underlying22 Try.underlying3 (by kernel_rfl) hv1 h1
  have hv2 := hval0 2 3 v2 rfl rfl
  obtain ⟨n2, e2, _, _, w2⟩ := open_int Try.underlying3 hv2 h2
  subst e2
  have hv3 := hval0 3 3 v3 rfl rfl
  obtain ⟨n3, e3, _, _, w3⟩ := open_int Try.underlying3 hv3 h3
  subst e3
  have told := Am.law_walk (w := W) mixed (Am.tabOf_ok counted _) prims (f := 3) rfl L1 (.cons (r0.mono m1) (.cons r1 (.cons (.int _ _) (.cons (.int _ _) .nil)))) ((_root_.Go.Proofs.Ytkjknmdnehknbaa.W.tells_ok L1.wf (s0.mono x1) s1 n2 n3).mono fun r H ⟨h, _⟩ => h)
  refine told.mono fun e W' ⟨he, bel⟩ => ?_
  subst he
  exact ⟨_, rfl, _, _, _, [], _, [], hW', trodAll_mk1 (shut_bool Try.underlying4 _), (trodAll_cons_mk (Below.trod laid (by kernel_rfl) (of_decide_eq_true (by kernel_rfl)) h0 bel (fun x hx => by simpa using hW'.lt x (by rw [hps]; simp [hx]))) (trodAll_cons_mk (Below.trod laid (by kernel_rfl) (of_decide_eq_true (by kernel_rfl)) h1 bel (fun x hx => by simpa using hW'.lt x (by rw [hps]; simp [hx]))) (trodAll_cons_mk (Below.trod laid (by kernel_rfl) (of_decide_eq_true (by kernel_rfl)) h2 bel (fun x hx => by simpa using hW'.lt x (by rw [hps]; simp [hx]))) (trodAll_cons_mk (Below.trod laid (by kernel_rfl) (of_decide_eq_true (by kernel_rfl)) h3 bel (fun x hx => by simpa using hW'.lt x (by rw [hps]; simp [hx]))) trodAll_mk0)))), rfl, bel.frame _, fun h => by cases h⟩
theorem over : Rows.orderTellsRow.holds Try.pinned (OpenSpec.ofChange Rows.orderTellsSpec) :=
  OpenClaim.holds_of_wide 3 Try.f3 rfl rfl rfl rfl rfl rfl rfl ⟨rfl, rfl, rfl, rfl, rfl⟩ rfl rfl rfl rfl rfl (by kernel_rfl) Try.func3 (by kernel_rfl)
    (of_decide_eq_true (by kernel_rfl)) (by unfold Func.isWrapper; first | (rw [if_pos (by decide +kernel)]; kernel_rfl) | (rw [if_neg (by decide +kernel)]; exact ⟨rfl, rfl⟩))
    (fun os started H enc _ => lifted os started H enc)
theorem proved : Rows.OrderTellsSaid := over
#print axioms proved
end Go.Proofs.Ytkjknmdnehknbaa.orderTells
namespace Go.Proofs.Ytkjknmdnehknbaa
/-- The row, under a short name, for the claim. -/
theorem orderTells_holds : Rows.OrderTellsSaid := orderTells.proved
end Go.Proofs.Ytkjknmdnehknbaa
