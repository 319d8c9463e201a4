import Derived.Test.YtkjknmdnehknbaaAmCalls2
set_option linter.unusedSimpArgs false
set_option linter.unusedVariables false
/- Code: regions in the text's order, results, deferred calls. -/
namespace Go.Am
open Go

variable {P : Program} {T : Tab} {μ : Mu} {H : Heap} {w : World}

/-- The fence that lets everything in. -/
def FW (r : Option Nat) : Fence := { fn := fun _ => True, depth := none, alive := false, round := r }
theorem fw_room (r : Option Nat) (n : Nat) : (FW r).room n := fun _ h => by simp [FW] at h
theorem callsIn_fw {r r' : Option Nat} {n n' : Nat} {f : FuncId} {args : Array Value} {w : World} {R : Ending → World → Prop} (h : CallsIn (FW r) n P f args w R) : CallsIn (FW r') n' P f args w R :=
  ⟨trivial, fun cs _ => h.2 cs (fw_room _ _)⟩
theorem roundIn_fw {r r' : Option Nat} {n n' : Nat} {l : Nat} {f : FuncId} {tmps : Array Value} {assign body : Code} {w : World} {R : Ending → World → Prop} (h : RoundIn (FW r) n P l f tmps assign body w R) : RoundIn (FW r') n' P l f tmps assign body w R :=
  ⟨trivial, fun c cs _ => h.2 c cs (fw_room _ _)⟩

inductive ExR (μ : Mu) : Ex → Exit → Prop
  | normal : ExR μ .normal .normal
  | exit (id : Nat) : ExR μ (.exit id) (.exit id)
  | goto (l : Nat) : ExR μ (.goto l) (.goto l)
  | ret : ExR μ .ret .ret
  | panic {v : V} {u : Value} (h : RV μ v u) : ExR μ (.panic v) (.panic [{ v := u, recovered := false }])

inductive RhoR (μ : Mu) : Option Nat → Option Nat → Prop
  | out : RhoR μ none none
  | within {l b y z : Nat} (h : μ l = some (b, y, z)) : RhoR μ (some l) (some b)
theorem RhoR.mono {μ μ' : Mu} (hm : ∀ l x, μ l = some x → μ' l = some x) {ρ r : Option Nat} : RhoR μ ρ r → RhoR μ' ρ r
  | .out => .out
  | .within h => .within (hm _ _ h)

/-- Code is run as the small machine says. -/
def EvOk (P : Program) (ev : Ev) : Prop := ∀ (ρ : Option Nat) (c : Code) (a : A) (H : Heap) (ex : Ex) (a' : A) (H' : Heap), ev ρ c a H = some (ex, a', H') →
  ∀ (μ : Mu) (w : World) (x : Act) (r : Option Nat) (Q : Exit → Act → World → Prop), Sim μ H w → AR μ a x → RhoR μ ρ r →
    (∀ μ' w' x' e', Post μ H w μ' H' w' → AR μ' a' x' → ExR μ' ex e' → Q e' x' w') → c.wpIn (FW r) 0 P Q x w

/-- What a call comes to. -/
def CallPost (μ : Mu) (H : Heap) (w : World) : CR → Ending → World → Prop
  | .returned v H', .returned u, w' => ∃ μ', RV μ' v u ∧ Post μ H w μ' H' w'
  | .panicked v H', .panicked [⟨u, false, false⟩], w' => ∃ μ', RV μ' v u ∧ Post μ H w μ' H' w'
  | _, _, _ => False

/-- A call that is entered, or one of which the model knows the answer. -/
def Entered (P : Program) (μ : Mu) (H : Heap) (w : World) (f : FuncId) (us : List Value) (r : CR) : Prop :=
  (CallsIn (FW none) 0 P f ⟨us⟩ w (CallPost μ H w r) ∧ (callFunc f ⟨us⟩).run P w = .ok (.enter f ⟨us⟩) w) ∨ ∃ u w', (callFunc f ⟨us⟩).run P w = .ok (.value u) w' ∧ CallPost μ H w r (.returned u) w'

def CallOk (P : Program) (T : Tab) (call : FuncId → List V → Heap → CR) : Prop := ∀ (f : FuncId) (as : List V) (H : Heap), call f as H ≠ .stuck →
  ∀ (μ : Mu) (w : World) (us : List Value), Sim μ H w → RVL μ as us → Entered P μ H w f us (call f as H) ∧
    (T.prim f = none → CallsIn (FW none) 0 P f ⟨us⟩ w (CallPost μ H w (call f as H)) ∧ (callFunc f ⟨us⟩).run P w = .ok (.enter f ⟨us⟩) w)

/-- One round of a loop whose record lies at l. -/
def RoundOk (P : Program) (rnd : Nat → List V → Heap → CR) : Prop := ∀ (l : Nat) (as : List V) (H : Heap), rnd l as H ≠ .stuck →
  ∀ (μ : Mu) (w : World) (us : List Value) (b y z : Nat), Sim μ H w → RVL μ as us → μ l = some (b, y, z) →
    ∃ f tmps assign body, (Instr.yield b ⟨us⟩).run P w = .ok (.round b f tmps assign body) w ∧ RoundIn (FW none) 0 P b f tmps assign body w (CallPost μ H w (rnd l as H))

theorem wanted_eq (ops : Array Oper) {a : A} {x : Act} (ha : AR μ a x) (o : Oper) : Region.wanted o (yielded ops x.tmps) = wanted ops a o := by
  unfold Region.wanted wanted yielded
  cases o.guard with
  | none => rfl
  | some p =>
    obtain ⟨j, want⟩ := p
    dsimp only
    cases hd : (ops[j]?).bind (·.dst) with
    | none => simp
    | some d =>
      have hg := ha.tmps.get d
      simp only [Option.bind_some]
      unfold A.tmp
      rw [Array.getD_eq_getD_getElem?] at hg
      cases hx : x.tmps[d]? with
      | none =>
        rw [hx] at hg
        simp only [Option.getD_none] at hg
        generalize a.tmps.get d = q at hg
        unfold Go.undef at hg
        cases hg with
        | tuple h => simp
      | some u =>
        rw [hx] at hg
        simp only [Option.getD_some] at hg
        generalize a.tmps.get d = q at hg
        cases hg <;> simp

theorem Oper.about_true (F : Fence) (h : ∀ f, F.fn f) {o : Oper} {w : World} {ρ : Operand → Value} : ∀ f, o.about P w ρ = some f → F.fn f := fun f _ => h f

theorem semAt_eq {r : Option Nat} {ρ : Operand → Value} {o : Oper} (h : ∀ c, o.op ≠ .defer c) : o.semAt r ρ = Go.execOp ρ o := Oper.semAt_eq r ρ o h

theorem runOps_ok (hT : TabOk P T) {ev : Ev} {fuel : Nat} (hcall : CallOk P T (calls T ev fuel)) (hround : RoundOk P (round ev)) {ops : Array Oper} {ρ : Option Nat} :
    ∀ (idx : List Nat) (a : A) (H : Heap) (ex : Ex) (a' : A) (H' : Heap), runOps T ev fuel ρ ops idx a H = some (ex, a', H') →
    ∀ (μ : Mu) (w : World) (x : Act) (r : Option Nat) (Q : Exit → Act → World → Prop), Sim μ H w → AR μ a x → RhoR μ ρ r →
    (∀ μ' w' x' e', Post μ H w μ' H' w' → AR μ' a' x' → ExR μ' ex e' → Q e' x' w') → wpOpsIn (FW r) 0 P ops Q idx x w := by
  intro idx
  induction idx with
  | nil =>
    intro a H ex a' H' e μ w x r Q h ha hr hQ
    simp only [runOps, Option.some.injEq, Prod.mk.injEq] at e
    obtain ⟨rfl, rfl, rfl⟩ := e
    exact hQ μ w x _ (.refl h) ha .normal
  | cons i rest ih =>
    intro a H ex a' H' e μ w x r Q h ha hr hQ
    unfold runOps at e
    cases ho : ops[i]? with
    | none => rw [ho] at e; cases e
    | some o =>
      rw [ho] at e
      dsimp only at e
      simp only [wpOpsIn, ho]
      have hw := wanted_eq ops ha o
      have next : ∀ {v : V} {u : Value} {μ1 : Mu} {w1 : World} {a1 : A} {H1 : Heap} {x1 : Act}, runOps T ev fuel ρ ops rest (a1.put o.dst v) H1 = some (ex, a', H') → RV μ1 v u → Post μ H w μ1 H1 w1 → AR μ1 a1 x1 →
          wpOpsIn (FW r) 0 P ops Q rest (x1.put o.dst u) w1 := by
        intro v u μ1 w1 a1 H1 x1 e1 hv hp ha1
        exact ih _ _ _ _ _ e1 μ1 w1 (x1.put o.dst u) r Q hp.sim (ha1.put hv _) (hr.mono (hp.ext h)) fun μ' w' x' e' hp' ha' hx' => hQ μ' w' x' e' (hp.trans hp') ha' hx'
      cases hwt : wanted ops a o with
      | false =>
        rw [hwt] at e hw
        simp only [cond_false] at e
        rw [if_neg (by rw [hw]; simp)]
        exact ⟨fun _ _ => trivial, next e (RV.undef μ) (.refl h) ha⟩
      | true =>
        rw [hwt] at e hw
        simp only [cond_true] at e
        rw [if_pos hw]
        refine ⟨fun _ _ => trivial, ?_⟩
        show o.uponIn (FW r) 0 P x (wpOpsIn (FW r) 0 P ops Q rest) Q ((o.semAt r x.eval).run P w)
        split at e
        · -- a value
          rename_i v H1 hex
          obtain ⟨u, w1, μ1, h1, h2, h3⟩ := exec_made (P := P) hT h ha hex
          have hnd : ∀ c, o.op ≠ .defer c := fun c hc => by
            rw [hc] at hex
            rcases defer_kind hex with h | ⟨d, h⟩ <;> cases h
          rw [semAt_eq hnd]
          rcases h1 with h1 | ⟨h1, rfl⟩
          · rw [h1]; exact next e h2 h3 (ha.mono (h3.ext h))
          · rw [h1]; exact next e h2 h3 (ha.mono (h3.ext h))
        · -- a call
          rename_i f as hex
          obtain ⟨c, hc, hco⟩ := exec_is_call hex
          have hnd : ∀ c, o.op ≠ .defer c := fun c' hc' => by rw [hc'] at hc; cases hc
          rw [semAt_eq hnd]
          obtain ⟨us, hus, hrun⟩ := callOp_call (P := P) hT h ha hc hco
          have hne : calls T ev fuel f as H ≠ .stuck := by
            intro hs; rw [hs] at e; simp at e
          rcases (hcall f as H hne μ w us h hus).1 with ⟨hci, hcf⟩ | ⟨u, w1, hcf, hp⟩
          case inr =>
            rw [hrun, hcf]
            split at e
            · rename_i v H1 hcr
              rw [hcr] at hp
              obtain ⟨μ1, hv, hpost⟩ := hp
              exact next e hv hpost (ha.mono (hpost.ext h))
            · rename_i v H1 hcr
              rw [hcr] at hp
              exact hp.elim
            · cases e
          rw [hrun, hcf]
          refine ⟨fun hh => by simp [FW] at hh, ?_⟩
          refine (callsIn_fw hci).mono ?_
          intro en w1 hp
          split at e
          · rename_i v H1 hcr
            rw [hcr] at hp
            cases en with
            | returned u =>
              obtain ⟨μ1, hv, hpost⟩ := hp
              exact next e hv hpost (ha.mono (hpost.ext h))
            | panicked ch => exact hp.elim
            | outgrown => exact hp.elim
          · rename_i v H1 hcr
            rw [hcr] at hp
            simp only [Option.some.injEq, Prod.mk.injEq] at e
            obtain ⟨rfl, rfl, rfl⟩ := e
            cases en with
            | returned u => exact hp.elim
            | outgrown => exact hp.elim
            | panicked ch =>
              unfold CallPost at hp
              split at hp
              · rename_i h1 h2; cases h1
              · rename_i h1 h2
                cases h1; cases h2
                obtain ⟨μ1, hv, hpost⟩ := hp
                exact hQ μ1 _ x _ hpost (ha.mono (hpost.ext h)) (.panic hv)
              · exact hp.elim
          · cases e
        · -- a round
          rename_i l as hex
          obtain ⟨c, hc, hco⟩ := exec_is_round hex
          have hnd : ∀ c, o.op ≠ .defer c := fun c' hc' => by rw [hc'] at hc; cases hc
          rw [semAt_eq hnd]
          obtain ⟨us, b, y, z, hus, hm, hrun⟩ := callOp_round (P := P) hT h ha hc hco
          have hne : round ev l as H ≠ .stuck := by
            intro hs; rw [hs] at e; simp at e
          obtain ⟨f, tmps, assign, body, hy, hri⟩ := hround l as H hne μ w us b y z h hus hm
          rw [hrun, hy]
          refine ⟨fun hh => by simp [FW] at hh, ?_⟩
          refine (roundIn_fw hri).mono ?_
          intro en w1 hp
          split at e
          · rename_i v H1 hcr
            rw [hcr] at hp
            cases en with
            | returned u =>
              obtain ⟨μ1, hv, hpost⟩ := hp
              exact next e hv hpost (ha.mono (hpost.ext h))
            | panicked ch => exact hp.elim
            | outgrown => exact hp.elim
          · cases e
        · -- defer
          rename_i d hex
          cases hρ : ρ.isNone with
          | false => rw [hρ] at e; cases e
          | true =>
            rw [hρ] at e
            simp only [cond_true] at e
            have hρn : ρ = none := by cases ρ <;> simp_all
            subst hρn
            cases hr
            obtain ⟨df, hdr, hrun⟩ := exec_defer (P := P) (w := w) ha hex
            show o.uponIn _ 0 P x _ Q ((Go.execOp x.eval o).run P w)
            rw [hrun]
            refine next (a1 := ⟨a.tmps, d :: a.defers⟩) (x1 := { x with defers := df :: x.defers }) e (RV.undef μ) (.refl h) ⟨ha.tmps, .cons hdr ha.defers⟩
        · -- panic
          rename_i v hex
          simp only [Option.some.injEq, Prod.mk.injEq] at e
          obtain ⟨rfl, rfl, rfl⟩ := e
          obtain ⟨t, z, u, hvz, hv, hrun⟩ := exec_panic (P := P) (w := w) ha hex
          have hnd : ∀ c, o.op ≠ .defer c := fun c hc => by
            rw [hc] at hex
            rcases defer_kind hex with h | ⟨d, h⟩ <;> cases h
          rw [semAt_eq hnd, hrun]
          exact hQ μ w x _ (.refl h) ha (.panic hv)
        · cases e
        · cases e
end Go.Am
