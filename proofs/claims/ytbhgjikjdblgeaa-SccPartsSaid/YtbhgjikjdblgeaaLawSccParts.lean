/- The statement 'SccParts' holds: whatever the arguments, the law returns true, and leaves what was there as it was. No conditions. It is shown by running the law on the small machine, over whatever arguments, which is proved to come to what the model's machine comes to. -/
import Derived.Test.YtbhgjikjdblgeaaRows
import Derived.Test.YtbhgjikjdblgeaaChecked
import Derived.Test.YtbhgjikjdblgeaaAmF
import Derived.Test.YtbhgjikjdblgeaaAmLay
import Derived.Test.YtbhgjikjdblgeaaGkParts
import Derived.Test.YtbhgjikjdblgeaaAmLaw
import Derived.Test.YtbhgjikjdblgeaaClosed9
import Derived.Test.YtbhgjikjdblgeaaClosed4
import Derived.WalkKit
import Derived.ProofKit
import Derived.OpenShut
import Derived.ShutString
import Derived.ChangeOld
import Derived.Below
import Derived.Carry
import Derived.SizedLaws
import Derived.KernelRfl
import Derived.Shelf.SortM.Plain
import Derived.Shelf.SortM.SortNone
import Derived.Ground.SlgmProg
import Derived.Shelf.Slices.CompactI
import Derived.Ground.Names2Prog
import Derived.Test.YtbhgjikjdblgeaaLaySccParts
namespace Go.Proofs.Ytbhgjikjdblgeaa.sccParts
open Go.ChangeShapes Go.WideShapes Go.ChangeAt Go.RowKit
open Go.ChangeMaps (open_string shut_string)
set_option linter.unusedVariables false
theorem own : ownKnob Try.prog.godebug = none := by kernel_rfl
theorem mixed : Try.prog.follows .mixedOrders = true := by kernel_rfl
theorem counted : Am.noCount Try.prog = true := by kernel_rfl
theorem laid : laidOutB Try.prog = true := by kernel_rfl
theorem prims : Am.PrimOk Try.prog W.T := by
  intro f g hg xs H v H' e μ w us h hr
  simp only [W.T, Am.tabOf, W.prim] at hg
  rw [Am.cond_beq] at hg
  split at hg
  · rename_i hf; subst hf; cases hg; exact Am.sort_prim (Am.tabOf_ok counted W.prim) Try.func43 rfl (fun blk off cap zs w hH hblk hsz => AnyM.slices_Sort_int Try.sccPartsSort blk off cap zs w hH hblk hsz) (fun p cap w => AnyM.slices_Sort_int_none Try.sccPartsSort p cap w) e h hr
  rw [Am.cond_beq] at hg
  split at hg
  · rename_i hf; subst hf; cases hg; exact Am.compact_prim (Am.tabOf_ok counted W.prim) Try.func44 rfl (fun blk off cap zs w hH hsz hc => Any.slices_Compact_int Try.sccPartsCompact blk off cap zs w hH hsz hc) (fun p cap w => Any.slices_Compact_int_empty Try.sccPartsCompact p cap w) e h hr
  rw [Am.cond_beq] at hg
  split at hg
  · rename_i hf; subst hf; cases hg; exact Am.closed_prim counted Try.func9 rfl Closed.walk9 e h hr
  rw [Am.cond_beq] at hg
  split at hg
  · rename_i hf; subst hf; cases hg; exact Am.closed_prim counted Try.func4 rfl Closed.walk4 e h hr
  cases hg
theorem opened {H : Type} {enc : TypeId × Value → H} {w : World} {t0 t1 : TypeId} {args : Array Value} {ds : List (DataW H)} {ps : List MemPlace} (h : DataW.TrodAll enc Try.prog w 0 (fun _ => true) true [t0, t1] args.toList ds ps) :
    ∃ v0 d0 p0 v1 d1 p1, args = #[v0, v1] ∧ ds = [d0, d1] ∧ ps = p0 ++ (p1) ∧ DataW.Trod enc Try.prog w 0 (fun _ => true) true t0 v0 d0 p0 ∧ DataW.Trod enc Try.prog w 0 (fun _ => true) true t1 v1 d1 p1 := by
  obtain ⟨v0, vs0, d0, ds0, p0, q0, e0, f0, g0, h0, r0⟩ := trodAll_cons h
  obtain ⟨v1, vs1, d1, ds1, p1, q1, e1, f1, g1, h1, r1⟩ := trodAll_cons r0
  obtain ⟨e2, f2, g2⟩ := trodAll_nil r1
  subst e2 f2 g2
  subst e1 f1 g1
  subst f0 g0
  exact ⟨v0, d0, p0, v1, d1, p1, by cases args; simp_all, rfl, by simp, h0, h1⟩
set_option maxRecDepth 100000 in
theorem lifted (os : Os) (started : os.Started) (H : Type) (enc : TypeId × Value → H) :
    ReturnsInHanded {} Try.checked os 7 .any (Rows.sccPartsSpec.pre6 enc Try.prog Try.f7 Rows.sccPartsRow.domain false) (Rows.sccPartsSpec.post enc Try.prog Try.f7 false true false false) := by
  refine returnsInHanded_of_change_sized (C := Try.checked) own started (by kernel_rfl) Try.func7
    (ChangeSpec.witness6 (enc := enc) (C := Try.checked) false ⟨#[], #[.int .i64 0, .slice none 0 0], []⟩ 8 (by kernel_rfl) (by kernel_rfl) (by kernel_rfl) (by kernel_rfl)) ?_
  intro W base args ds gs before hval0 hW hcnd hsz0 _
  have hW' := hW
  obtain ⟨p, q, hA0, hV, rfl, hfz, hnd⟩ := hW
  have hA : DataW.TrodAll enc Try.prog W 0 (fun _ => true) true Try.f7.params.toList args.toList ds p := hA0
  rw [Try.params7] at hA
  obtain ⟨rfl, rfl⟩ := trodVars_none hV
  clear hA0 hsz0
  obtain ⟨v0, d0, p0, v1, d1, p1, hargs, rfl, hps, h0, h1⟩ := opened hA
  subst hargs
  have hv0 := hval0 0 3 v0 rfl rfl
  obtain ⟨n0, e0, _, _, w0⟩ := open_int Try.underlying3 hv0 h0
  subst e0
  have hv1 := hval0 1 25 v1 rfl rfl
  obtain ⟨xs1, u1, μ1, H1, L1, x1, m1, r1, s1, w1⟩ := Am.Laid.ints (P := Try.prog) (Am.laid_none W) Try.underlying25 Try.underlying3 (by kernel_rfl) hv1 h1
  have told := Am.law_walk (w := W) mixed (Am.tabOf_ok counted _) prims (f := 7) rfl L1 (.cons (.int _ _) (.cons r1 .nil)) ((Am.Vm.law_of (_root_.Go.Proofs.Ytbhgjikjdblgeaa.W.parts_v n0 xs1) L1.wf (Am.Vm.rl_cons (Am.Vm.rl_int n0) (Am.Vm.rl_ints s1))).mono fun r H ⟨h, _⟩ => h)
  refine told.mono fun e W' ⟨he, bel⟩ => ?_
  subst he
  exact ⟨_, rfl, _, _, _, [], _, [], hW', trodAll_mk1 (shut_bool Try.underlying4 _), (trodAll_cons_mk (Below.trod laid (by kernel_rfl) (of_decide_eq_true (by kernel_rfl)) h0 bel (fun x hx => by simpa using hW'.lt x (by rw [hps]; simp [hx]))) (trodAll_cons_mk (Below.trod laid (by kernel_rfl) (of_decide_eq_true (by kernel_rfl)) h1 bel (fun x hx => by simpa using hW'.lt x (by rw [hps]; simp [hx]))) trodAll_mk0)), rfl, bel.frame _, fun h => by cases h⟩
theorem over : Rows.sccPartsRow.holds Try.pinned (OpenSpec.ofChange Rows.sccPartsSpec) :=
  OpenClaim.holds_of_wide 7 Try.f7 rfl rfl rfl rfl rfl rfl rfl ⟨rfl, rfl, rfl, rfl, rfl⟩ rfl rfl rfl rfl rfl (by kernel_rfl) Try.func7 (by kernel_rfl)
    (of_decide_eq_true (by kernel_rfl)) (by unfold Func.isWrapper; first | (rw [if_pos (by decide +kernel)]; kernel_rfl) | (rw [if_neg (by decide +kernel)]; exact ⟨rfl, rfl⟩))
    (fun os started H enc _ => lifted os started H enc)
theorem proved : Rows.SccPartsSaid := over
#print axioms proved
end Go.Proofs.Ytbhgjikjdblgeaa.sccParts
namespace Go.Proofs.Ytbhgjikjdblgeaa
/-- The row, under a short name, for the claim. -/
theorem sccParts_holds : Rows.SccPartsSaid := sccParts.proved
end Go.Proofs.Ytbhgjikjdblgeaa
