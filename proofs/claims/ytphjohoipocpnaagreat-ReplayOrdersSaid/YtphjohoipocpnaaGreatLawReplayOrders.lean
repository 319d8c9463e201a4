/- The statement 'ReplayOrders' holds: whatever the arguments, the law returns true, and leaves what was there as it was. No conditions. It is shown by running the law on the small machine, over whatever arguments, which is proved to come to what the model's machine comes to. -/
import Derived.Test.YtphjohoipocpnaaGreatRows
import Derived.Test.YtphjohoipocpnaaGreatChecked
import Derived.Test.YtphjohoipocpnaaGreatAmF
import Derived.Test.YtphjohoipocpnaaGreatAmLay
import Derived.Test.YtphjohoipocpnaaGreatRkLaw8
import Derived.Test.YtphjohoipocpnaaGreatAmLaw
import Derived.Test.YtphjohoipocpnaaGreatClosed9
import Derived.WalkKit
import Derived.ProofKit
import Derived.OpenShut
import Derived.ShutString
import Derived.ChangeOld
import Derived.Below
import Derived.Carry
import Derived.SizedLaws
import Derived.KernelRfl
import Derived.Ground.Names2Prog
import Derived.Ground.SlgcProg
import Derived.Ground.SlgmProg
import Derived.Ground.SlsfProg
import Derived.Shelf.SlSortCmp.NoneTotal
import Derived.Shelf.Slices.CompactI
import Derived.Shelf.Slices.Delete
import Derived.Shelf.SlicesG.Cmp
import Derived.Shelf.SortM.Plain
import Derived.Shelf.SortM.SortNone
import Derived.Shelf.Spec.SlicesInsert
import Derived.Shelf.Spec.SlicesInsertGrow
import Derived.Test.YtphjohoipocpnaaGreatLayReplayOrders
namespace Go.Proofs.YtphjohoipocpnaaGreat.replayOrders
open Go.ChangeShapes Go.WideShapes Go.ChangeAt Go.RowKit
set_option linter.unusedVariables false
theorem own : ownKnob Tryz.prog.godebug = none := by kernel_rfl
theorem mixed : Tryz.prog.follows .mixedOrders = true := by kernel_rfl
theorem counted : Am.noCount Tryz.prog = true := by kernel_rfl
theorem laid : laidOutB Tryz.prog = true := by kernel_rfl
theorem five {l : List Value} (h : l.length = 5) : ∃ a b c d e, l = [a, b, c, d, e] := by
  match l, h with
  | [a, b, c, d, e], _ => exact ⟨a, b, c, d, e, rfl⟩
set_option maxHeartbeats 1000000 in
theorem compared (us vs : List Value) (a b : Int) (W : World) (hu : us.length = 5) (hv : vs.length = 5) (h1 : us[1]? = some (.int .i64 a)) (h2 : vs[1]? = some (.int .i64 b)) :
    Calls Tryz.prog 47 #[.agg us.toArray, .agg vs.toArray] W fun e w' => e = .returned (.int .i64 (Lib.compareInt a b)) ∧ ∃ q os', w' = Go.Sort.grow (W.drewN q) os' := by
  obtain ⟨u0, u1, u2, u3, u4, rfl⟩ := five hu
  obtain ⟨v0, v1, v2, v3, v4, rfl⟩ := five hv
  simp only [List.getElem?_cons_succ, List.getElem?_cons_zero, Option.some.injEq] at h1 h2
  subst h1 h2
  have hcon := fun W' => AnyG.cmp_Compare_int Tryz.replayOrdersCmp a b W'
  change ∀ W', Calls Tryz.prog 48 _ _ _ at hcon
  generalize Lib.compareInt a b = r at hcon ⊢
  go_enter Tryz.func47, Tryz.ntmps47
  go_wp2_with (go_at_call 48; refine (hcon _).mono ?_; rintro e w' ⟨rfl, rfl⟩)
  go_ret
  exact ⟨rfl, 0, _, by rw [Go.Sort.alloc_eq_grow, Go.Sort.alloc_eq_grow, Go.Sort.grow_grow]; rfl⟩
theorem sorts : Am.SortsK Tryz.prog 46 47 5 1 := Am.sortsK_of Tryz.replayOrdersSortK Tryz.isAgg26 Tryz.sizeOf26 (Go.Proofs.enters_of Tryz.func47 (by kernel_rfl) rfl) compared
theorem prims : Am.PrimOk Tryz.prog W.T := by
  intro f g hg xs H v H' e μ w us h hr
  simp only [W.T, Am.tabOf, W.prim] at hg
  rw [Am.cond_beq] at hg
  split at hg
  · rename_i hf; subst hf; cases hg; exact Am.sortK_prim (Am.tabOf_ok counted W.prim) (by decide) Tryz.func46 rfl sorts (fun p cap fv w => AnyF.slices_SortFunc_none Tryz.replayOrdersSortK p cap fv w) e h hr
  rw [Am.cond_beq] at hg
  split at hg
  · rename_i hf; subst hf; cases hg; exact Am.sort_prim (Am.tabOf_ok counted W.prim) Tryz.func54 rfl (fun blk off cap zs w hH hblk hsz => AnyM.slices_Sort_int Tryz.replayOrdersSort blk off cap zs w hH hblk hsz) (fun p cap w => AnyM.slices_Sort_int_none Tryz.replayOrdersSort p cap w) e h hr
  rw [Am.cond_beq] at hg
  split at hg
  · rename_i hf; subst hf; cases hg; exact Am.compact_prim (Am.tabOf_ok counted W.prim) Tryz.func55 rfl (fun blk off cap zs w hH hsz hc => Any.slices_Compact_int Tryz.replayOrdersCompact blk off cap zs w hH hsz hc) (fun p cap w => Any.slices_Compact_int_empty Tryz.replayOrdersCompact p cap w) e h hr
  rw [Am.cond_beq] at hg
  split at hg
  · rename_i hf; subst hf; cases hg; exact Am.ins_prim (Am.tabOf_ok counted W.prim) rfl Tryz.func208 rfl (Any2.slices_Insert_int_shift Tryz.replayOrdersIns) (Any2.slices_Insert_int_end_room Tryz.replayOrdersIns) (Any2.slices_Insert_int_end_grow Tryz.replayOrdersIns) (Any2.slices_Insert_int_grow Tryz.replayOrdersIns) e h hr
  rw [Am.cond_beq] at hg
  split at hg
  · rename_i hf; subst hf; cases hg; exact Am.del_prim (Am.tabOf_ok counted W.prim) Tryz.func209 rfl (Any.slices_Delete_int Tryz.replayOrdersDel) e h hr
  rw [Am.cond_beq] at hg
  split at hg
  · rename_i hf; subst hf; cases hg; exact Am.closed_prim counted Tryz.func9 rfl Closed.walk9 e h hr
  cases hg
theorem opened {H : Type} {enc : TypeId × Value → H} {w : World} {t0 t1 : TypeId} {args : Array Value} {ds : List (DataW H)} {ps : List MemPlace} (h : DataW.TrodAll enc Tryz.prog w 0 (fun _ => true) true [t0, t1] args.toList ds ps) :
    ∃ v0 d0 p0 v1 d1 p1, args = #[v0, v1] ∧ ds = [d0, d1] ∧ ps = p0 ++ (p1) ∧ DataW.Trod enc Tryz.prog w 0 (fun _ => true) true t0 v0 d0 p0 ∧ DataW.Trod enc Tryz.prog w 0 (fun _ => true) true t1 v1 d1 p1 := by
  obtain ⟨v0, vs0, d0, ds0, p0, q0, e0, f0, g0, h0, r0⟩ := trodAll_cons h
  obtain ⟨v1, vs1, d1, ds1, p1, q1, e1, f1, g1, h1, r1⟩ := trodAll_cons r0
  obtain ⟨e2, f2, g2⟩ := trodAll_nil r1
  subst e2 f2 g2
  subst e1 f1 g1
  subst f0 g0
  exact ⟨v0, d0, p0, v1, d1, p1, by cases args; simp_all, rfl, by simp, h0, h1⟩
set_option maxRecDepth 100000 in
theorem lifted (os : Os) (started : os.Started) (H : Type) (enc : TypeId × Value → H) :
    ReturnsInHanded {} Tryz.checked os 4 .any (Rows.replayOrdersSpec.pre6 enc Tryz.prog Tryz.f4 Rows.replayOrdersRow.domain false) (Rows.replayOrdersSpec.post enc Tryz.prog Tryz.f4 false true false false) := by
  refine Am.change_sized (C := Tryz.checked) own started (by kernel_rfl) Tryz.func4 (by kernel_rfl)
    (ChangeSpec.witness6 (enc := enc) (C := Tryz.checked) false ⟨#[], #[.agg #[.slice none 0 0, .slice none 0 0, .slice none 0 0], .slice none 0 0], []⟩ 8 (by kernel_rfl) (by kernel_rfl) (by kernel_rfl) (by kernel_rfl)) ?_
  intro W base args ds gs before hd hval0 hW hcnd
  have hW' := hW
  obtain ⟨p, q, hA0, hV, rfl, hfz, hnd⟩ := hW
  have hA : DataW.TrodAll enc Tryz.prog W 0 (fun _ => true) true Tryz.f4.params.toList args.toList ds p := hA0
  rw [Tryz.params4] at hA
  obtain ⟨rfl, rfl⟩ := trodVars_none hV
  clear hA0
  obtain ⟨v0, d0, p0, v1, d1, p1, hargs, rfl, hps, h0, h1⟩ := opened hA
  subst hargs
  obtain ⟨a0, x0, μ0, H0, L0, e0, m0, r0, q0, o0⟩ := Am.layArg (P := Tryz.prog) (s := _root_.Go.Proofs.YtphjohoipocpnaaGreat.W.shC) (t := 43) hd (by kernel_rfl) (hval0 0 43 v0 rfl rfl) h0 (Am.laid_none W)
  obtain ⟨a1, x1, μ1, H1, L1, e1, m1, r1, q1, o1⟩ := Am.layArg (P := Tryz.prog) (s := .slice .int) (t := 24) hd (by kernel_rfl) (hval0 1 24 v1 rfl rfl) h1 L0
  have told := Am.law_walk (w := W) mixed (Am.tabOf_ok counted _) prims (f := 4) rfl L1 (.cons (r0.mono m1) (.cons r1 .nil)) ((Am.Vm.law_of (_root_.Go.Proofs.YtphjohoipocpnaaGreat.W.law_replayOrders a0 o0 a1 o1) L1.wf (Am.Vm.RL.cons (Am.rl_up q0 e1) q1)).mono fun r H ⟨h, _⟩ => h)
  refine told.mono fun e W' ⟨he, bel⟩ => ?_
  subst he
  exact ⟨_, rfl, _, _, _, [], _, [], hW', trodAll_mk1 (shut_bool Tryz.underlying4 _), (trodAll_cons_mk (Below.trod laid (by kernel_rfl) (of_decide_eq_true (by kernel_rfl)) h0 bel (fun x hx => by simpa using hW'.lt x (by rw [hps]; simp [hx]))) (trodAll_cons_mk (Below.trod laid (by kernel_rfl) (of_decide_eq_true (by kernel_rfl)) h1 bel (fun x hx => by simpa using hW'.lt x (by rw [hps]; simp [hx]))) trodAll_mk0)), rfl, bel.frame _, fun h => by cases h⟩
theorem over : Rows.replayOrdersRow.holds Tryz.pinned (OpenSpec.ofChange Rows.replayOrdersSpec) :=
  OpenClaim.holds_of_wide 4 Tryz.f4 rfl rfl rfl rfl rfl rfl rfl ⟨rfl, rfl, rfl, rfl, rfl⟩ rfl rfl rfl rfl rfl (by kernel_rfl) Tryz.func4 (by kernel_rfl)
    (of_decide_eq_true (by kernel_rfl)) (by unfold Func.isWrapper; first | (rw [if_pos (by decide +kernel)]; kernel_rfl) | (rw [if_neg (by decide +kernel)]; exact ⟨rfl, rfl⟩))
    (fun os started H enc _ => lifted os started H enc)
theorem proved : Rows.ReplayOrdersSaid := over
#print axioms proved
end Go.Proofs.YtphjohoipocpnaaGreat.replayOrders
namespace Go.Proofs.YtphjohoipocpnaaGreat
/-- The row, under a short name, for the claim. -/
theorem replayOrders_holds : Rows.ReplayOrdersSaid := replayOrders.proved
end Go.Proofs.YtphjohoipocpnaaGreat
