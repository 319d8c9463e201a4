import Derived.Test.YtkjknmdnehknbaaAmOps9
set_option linter.unusedSimpArgs false
set_option linter.unusedVariables false
/- One operation, all kinds. -/
namespace Go.Am
open Go

variable {P : Program} {T : Tab} {μ : Mu} {H : Heap} {w : World}

theorem op1_inv {a : A} {x : Operand} {k : V → OR} {r : OR} (e : op1 a x k = r) (hr : r ≠ .stuck) : ∃ v, a.eval x = some v ∧ k v = r := by
  unfold op1 at e
  split at e
  · rename_i v hv; exact ⟨v, hv, e⟩
  · exact absurd e.symm hr

/-- What an operation that makes a value comes to. -/
def Made (P : Program) (μ : Mu) (H : Heap) (w : World) (s : Sem Next) (v : V) (H' : Heap) : Prop :=
  ∃ u w' μ', (s.run P w = .ok (.value u) w' ∨ (s.run P w = .ok .skip w' ∧ u = Go.undef)) ∧ RV μ' v u ∧ Post μ H w μ' H' w'

theorem VGood.made {s : Sem Value} {v : V} {H' : Heap} (h : VGood P μ H w s v H') : Made P μ H w (do pure (.value (← s))) v H' := by
  obtain ⟨u, w', μ', h1, h2, h3⟩ := h
  exact ⟨u, w', μ', .inl (by simp [h1]), h2, h3⟩
theorem made_unit {s : Sem Unit} {H' : Heap} (h : ∃ w', s.run P w = .ok () w' ∧ Post μ H w μ H' w') : Made P μ H w (do s; pure .skip) undefV H' := by
  obtain ⟨w', h1, h2⟩ := h
  exact ⟨Go.undef, w', μ, .inr ⟨by simp [h1], rfl⟩, RV.undef _, h2⟩
theorem made_same (h : Sim μ H w) {v : V} {u : Value} (hv : RV μ v u) : Made P μ H w (pure (.value u)) v H := ⟨u, w, μ, .inl (by simp), hv, .refl h⟩

theorem ex_move (hT : TabOk P T) (h : Sim μ H w) {a : A} {x : Act} (ha : AR μ a x) {o : Oper} (y : Operand) (ho : o.op = .move y) {v : V} {H' : Heap} (e : execOp T a H (.move y) = .val v H') : Made P μ H w (Go.execOp x.eval o) v H' := by
    have hx : Go.execOp x.eval o = (pure (.value (x.eval y)) : Sem Next) := by unfold Go.execOp; rw [ho]
    simp only [Am.execOp] at e
    rw [hx]
    obtain ⟨u, h1, e0⟩ := op1_inv e (by simp); replace e := e0; clear e0; cases e; exact made_same h (ha.eval h1)

theorem ex_assign (hT : TabOk P T) (h : Sim μ H w) {a : A} {x : Act} (ha : AR μ a x) {o : Oper} (y : Operand) (ho : o.op = .assign y) {v : V} {H' : Heap} (e : execOp T a H (.assign y) = .val v H') : Made P μ H w (Go.execOp x.eval o) v H' := by
    have hx : Go.execOp x.eval o = (pure (.value (x.eval y)) : Sem Next) := by unfold Go.execOp; rw [ho]
    simp only [Am.execOp] at e
    rw [hx]
    obtain ⟨u, h1, e0⟩ := op1_inv e (by simp); replace e := e0; clear e0; cases e; exact made_same h (ha.eval h1)

theorem ex_pick (hT : TabOk P T) (h : Sim μ H w) {a : A} {x : Act} (ha : AR μ a x) {o : Oper} (c y z : Operand) (ho : o.op = .pick c y z) {v : V} {H' : Heap} (e : execOp T a H (.pick c y z) = .val v H') : Made P μ H w (Go.execOp x.eval o) v H' := by
    have hx : Go.execOp x.eval o = (do pure (.value (if ← asBool (x.eval c) then x.eval y else x.eval z)) : Sem Next) := by unfold Go.execOp; rw [ho]
    simp only [Am.execOp] at e
    rw [hx]
    obtain ⟨u, h1, e0⟩ := op1_inv e (by simp); replace e := e0; clear e0
    have hu := ha.eval h1
    split at e
    · obtain ⟨q, h2, e0⟩ := op1_inv e (by simp); replace e := e0; clear e0; cases e
      refine ⟨_, w, μ, .inl ?_, ha.eval h2, .refl h⟩
      rw [hu.bool_inv]; simp [asBool]
    · obtain ⟨q, h2, e0⟩ := op1_inv e (by simp); replace e := e0; clear e0; cases e
      refine ⟨_, w, μ, .inl ?_, ha.eval h2, .refl h⟩
      rw [hu.bool_inv]; simp [asBool]
    · cases e

theorem ex_alloc (hT : TabOk P T) (h : Sim μ H w) {a : A} {x : Act} (ha : AR μ a x) {o : Oper} (t : TypeId) (ho : o.op = .alloc t) {v : V} {H' : Heap} (e : execOp T a H (.alloc t) = .val v H') : Made P μ H w (Go.execOp x.eval o) v H' := by
    have hx : Go.execOp x.eval o = (do pure (.value (← Instr.alloc t true (.tuple #[]))) : Sem Next) := by unfold Go.execOp; rw [ho]
    simp only [Am.execOp] at e
    rw [hx]
    split at e
    · rename_i z hz; cases e; exact (good_alloc hT h hz).made
    · cases e

theorem ex_box (hT : TabOk P T) (h : Sim μ H w) {a : A} {x : Act} (ha : AR μ a x) {o : Oper} (t : TypeId) (y : Operand) (ho : o.op = .box t y) {v : V} {H' : Heap} (e : execOp T a H (.box t y) = .val v H') : Made P μ H w (Go.execOp x.eval o) v H' := by
    have hx : Go.execOp x.eval o = (do pure (.value (← Instr.box t (x.eval y))) : Sem Next) := by unfold Go.execOp; rw [ho]
    simp only [Am.execOp] at e
    rw [hx]
    obtain ⟨u, h1, e0⟩ := op1_inv e (by simp); replace e := e0; clear e0; cases e; exact (good_box h (ha.eval h1)).made

theorem ex_build (hT : TabOk P T) (h : Sim μ H w) {a : A} {x : Act} (ha : AR μ a x) {o : Oper} (t : TypeId) (ps : Array (Nat × Operand)) (ho : o.op = .build t ps) {v : V} {H' : Heap} (e : execOp T a H (.build t ps) = .val v H') : Made P μ H w (Go.execOp x.eval o) v H' := by
    have hx : Go.execOp x.eval o = (do pure (.value (← Instr.build t (ps.map fun p => (p.1, x.eval p.2)))) : Sem Next) := by unfold Go.execOp; rw [ho]
    simp only [Am.execOp] at e
    rw [hx]
    split at e
    · rename_i z qs fs hz hps hu
      cases hs : sizesOk T fs.toList with
      | false => rw [hs] at e; cases e
      | true =>
        rw [hs] at e
        obtain ⟨e0, hH⟩ := OR.ofV_val e; replace e := e0; clear e0; subst hH
        simp only [Option.map_eq_some_iff] at e
        obtain ⟨r, e0, hr0⟩ := e; subst hr0
        refine (good_build_struct (qs := ps.map fun p => (p.1, x.eval p.2)) hT h hz hu hs ?_ e0).made
        simpa using ha.evalParts hps
    · rename_i z qs n el hz hps hu
      split at e
      · rename_i s b hs
        obtain ⟨e0, hH⟩ := OR.ofV_val e; replace e := e0; clear e0; subst hH
        simp only [Option.map_eq_some_iff] at e
        obtain ⟨r, e0, hr0⟩ := e; subst hr0
        refine (good_build_array (qs := ps.map fun p => (p.1, x.eval p.2)) hT h hz hu hs ?_ e0).made
        simpa using ha.evalParts hps
      · cases e
    · cases e

theorem ex_buildSlice (hT : TabOk P T) (h : Sim μ H w) {a : A} {x : Act} (ha : AR μ a x) {o : Oper} (t : TypeId) (n : Nat) (ps : Array (Nat × Operand)) (ho : o.op = .buildSlice t n ps) {v : V} {H' : Heap} (e : execOp T a H (.buildSlice t n ps) = .val v H') : Made P μ H w (Go.execOp x.eval o) v H' := by
    have hx : Go.execOp x.eval o = (do pure (.value (← Instr.buildSlice t n (ps.map fun p => (p.1, x.eval p.2)))) : Sem Next) := by unfold Go.execOp; rw [ho]
    simp only [Am.execOp] at e
    rw [hx]
    split at e
    · rename_i el hu
      split at e
      · rename_i s b z qs hs hz hps
        cases hc : (Nat.ble (n * s) 16777216 && Nat.beq z.length s) with
        | false => rw [hc] at e; cases e
        | true =>
          rw [hc] at e
          simp only [cond_true] at e
          rw [Bool.and_eq_true, Nat.ble_eq, Nat.beq_eq] at hc
          split at e
          · rename_i cs hcs
            cases e
            have hq : PR μ qs (ps.map fun p => (p.1, x.eval p.2)).toList := by simpa using ha.evalParts hps
            obtain ⟨hc1, hc2⟩ := hc
            have g := good_buildSlice (P := P) hT h hu hs hz hq hc1 hc2 hcs
            exact g.made
          · cases e
      · cases e
    · cases e

theorem ex_load (hT : TabOk P T) (h : Sim μ H w) {a : A} {x : Act} (ha : AR μ a x) {o : Oper} (t : TypeId) (y : Operand) (ho : o.op = .load t y) {v : V} {H' : Heap} (e : execOp T a H (.load t y) = .val v H') : Made P μ H w (Go.execOp x.eval o) v H' := by
    have hx : Go.execOp x.eval o = (do pure (.value (← Instr.loadAt t (x.eval y))) : Sem Next) := by unfold Go.execOp; rw [ho]
    simp only [Am.execOp] at e
    rw [hx]
    obtain ⟨u, h1, e0⟩ := op1_inv e (by simp); replace e := e0; clear e0
    split at e
    · obtain ⟨e0, hH⟩ := OR.ofV_val e; replace e := e0; clear e0; subst hH; exact (good_load hT h (ha.eval h1) e).made
    · cases e

theorem ex_store (hT : TabOk P T) (h : Sim μ H w) {a : A} {x : Act} (ha : AR μ a x) {o : Oper} (t : TypeId) (y z : Operand) (ho : o.op = .store t y z) {v : V} {H' : Heap} (e : execOp T a H (.store t y z) = .val v H') : Made P μ H w (Go.execOp x.eval o) v H' := by
    have hx : Go.execOp x.eval o = (do Instr.storeAt t (x.eval y) (x.eval z); pure .skip : Sem Next) := by unfold Go.execOp; rw [ho]
    simp only [Am.execOp] at e
    rw [hx]
    obtain ⟨u, h1, e0⟩ := op1_inv e (by simp); replace e := e0; clear e0
    split at e
    · obtain ⟨u2, h2, e0⟩ := op1_inv e (by simp); replace e := e0; clear e0
      obtain ⟨e0, hH⟩ := OR.ofH_val e; replace e := e0; clear e0; subst hH
      exact made_unit (good_store hT h (ha.eval h1) (ha.eval h2) e)
    · cases e

theorem ex_nilCheck (hT : TabOk P T) (h : Sim μ H w) {a : A} {x : Act} (ha : AR μ a x) {o : Oper} (y : Operand) (ho : o.op = .nilCheck y) {v : V} {H' : Heap} (e : execOp T a H (.nilCheck y) = .val v H') : Made P μ H w (Go.execOp x.eval o) v H' := by
    simp only [Am.execOp] at e
    obtain ⟨u, h1, e0⟩ := op1_inv e (by simp); replace e := e0; clear e0
    have hu := ha.eval h1
    have key : u ≠ .nilPtr → u ≠ .nilIface → u ≠ .nilFunc → (∀ n b c, u = .func (.method n) b c → False) → v = u → H' = H → Made P μ H w (Go.execOp x.eval o) v H' := by
      intro n1 n2 n3 n4 hv hH
      subst hv hH
      refine ⟨x.eval y, w, μ, .inl ?_, hu, .refl h⟩
      unfold Go.execOp
      rw [ho]
      dsimp only
      generalize x.eval y = q at hu
      cases hu <;> first | (exact absurd rfl n1) | (exact absurd rfl n2) | (exact absurd rfl n3) | rfl
    split at e
    · cases e
    · cases e
    · cases e
    · cases e; exact key (by simp) (by simp) (by simp) (by simp) rfl rfl
    · cases e; exact key (by simp) (by simp) (by simp) (by simp) rfl rfl
    · cases e
    · rename_i g1 g2 g3 g4 g5 g6
      cases e
      exact key (fun hh => g1 hh) (fun hh => g2 hh) (fun hh => g3 hh) (fun n b c hh => g6 _ _ _ hh) rfl rfl

theorem ex_binOp (hT : TabOk P T) (h : Sim μ H w) {a : A} {x : Act} (ha : AR μ a x) {o : Oper} (op : BinOp) (t : TypeId) (y z : Operand) (yt : TypeId) (ho : o.op = .binOp op t y z yt) {v : V} {H' : Heap} (e : execOp T a H (.binOp op t y z yt) = .val v H') : Made P μ H w (Go.execOp x.eval o) v H' := by
    have hx : Go.execOp x.eval o = (do pure (.value (← (do Go.eqGuard op t y z (x.eval y) (x.eval z); Go.binOp op t (x.eval y) (x.eval z)))) : Sem Next) := by unfold Go.execOp; rw [ho]
    simp only [Am.execOp] at e
    rw [hx]
    obtain ⟨u, h1, e0⟩ := op1_inv e (by simp); replace e := e0; clear e0
    obtain ⟨u2, h2, e0⟩ := op1_inv e (by simp); replace e := e0; clear e0
    obtain ⟨e0, hH⟩ := OR.ofV_val e; replace e := e0; clear e0; subst hH
    exact (good_binOp hT h (ha.eval h1) (ha.eval h2) e y z (fun h => h)).made

theorem ex_unOp (hT : TabOk P T) (h : Sim μ H w) {a : A} {x : Act} (ha : AR μ a x) {o : Oper} (op : UnOp) (t : TypeId) (y : Operand) (ho : o.op = .unOp op t y) {v : V} {H' : Heap} (e : execOp T a H (.unOp op t y) = .val v H') : Made P μ H w (Go.execOp x.eval o) v H' := by
    have hx : Go.execOp x.eval o = (do pure (.value (← Op.unary op (x.eval y))) : Sem Next) := by unfold Go.execOp; rw [ho]
    simp only [Am.execOp] at e
    rw [hx]
    obtain ⟨u, h1, e0⟩ := op1_inv e (by simp); replace e := e0; clear e0
    obtain ⟨e0, hH⟩ := OR.ofV_val e; replace e := e0; clear e0; subst hH
    exact (good_unOp h (ha.eval h1) e).made

theorem ex_convert (hT : TabOk P T) (h : Sim μ H w) {a : A} {x : Act} (ha : AR μ a x) {o : Oper} (s d : TypeId) (y : Operand) (ho : o.op = .convert s d y) {v : V} {H' : Heap} (e : execOp T a H (.convert s d y) = .val v H') : Made P μ H w (Go.execOp x.eval o) v H' := by
    have hx : Go.execOp x.eval o = (do pure (.value (← Go.convert s d (x.eval y))) : Sem Next) := by unfold Go.execOp; rw [ho]
    simp only [Am.execOp] at e
    rw [hx]
    obtain ⟨u, h1, e0⟩ := op1_inv e (by simp); replace e := e0; clear e0
    exact (good_convert hT h (ha.eval h1) (OR.ofVH_val e)).made

theorem ex_makeInterface (hT : TabOk P T) (h : Sim μ H w) {a : A} {x : Act} (ha : AR μ a x) {o : Oper} (t : TypeId) (y : Operand) (ho : o.op = .makeInterface t y) {v : V} {H' : Heap} (e : execOp T a H (.makeInterface t y) = .val v H') : Made P μ H w (Go.execOp x.eval o) v H' := by
    have hx : Go.execOp x.eval o = (do pure (.value (← Instr.makeInterface t (x.eval y))) : Sem Next) := by unfold Go.execOp; rw [ho]
    simp only [Am.execOp] at e
    rw [hx]
    obtain ⟨u, h1, e0⟩ := op1_inv e (by simp); replace e := e0; clear e0
    split at e
    · cases e
    · cases e
    · rename_i d hn hd; cases e; exact (good_makeInterface hT h (ha.eval h1) hd (fun ms hm => hn ms hm)).made

theorem ex_makeFunc (hT : TabOk P T) (h : Sim μ H w) {a : A} {x : Act} (ha : AR μ a x) {o : Oper} (fn : Fn) (first captured : Array Operand) (ho : o.op = .makeFunc fn first captured) {v : V} {H' : Heap} (e : execOp T a H (.makeFunc fn first captured) = .val v H') : Made P μ H w (Go.execOp x.eval o) v H' := by
    have hx : Go.execOp x.eval o = (do pure (.value (← Instr.makeFunc fn (first.map x.eval) (captured.map x.eval))) : Sem Next) := by unfold Go.execOp; rw [ho]
    simp only [Am.execOp] at e
    split at e
    · rename_i f us vs g1 g2
      cases e
      have r1 := ha.evals g1
      have r2 := ha.evals g2
      rw [hx]
      refine (VGood.same h (u := .func (.func f) (first.map x.eval) (captured.map x.eval)) (by simp [Instr.makeFunc]) ?_).made
      have := RV.func (f := f) r1 r2
      rw [← Array.toList_map, ← Array.toList_map] at this
      exact this
    · cases e

theorem ex_makeMap (hT : TabOk P T) (h : Sim μ H w) {a : A} {x : Act} (ha : AR μ a x) {o : Oper} (t : TypeId) (r : Option Operand) (ho : o.op = .makeMap t r) {v : V} {H' : Heap} (e : execOp T a H (.makeMap t r) = .val v H') : Made P μ H w (Go.execOp x.eval o) v H' := by
    have hx : Go.execOp x.eval o = (do pure (.value (← Instr.makeMap t (r.map x.eval))) : Sem Next) := by unfold Go.execOp; rw [ho]
    simp only [Am.execOp] at e
    cases r with
    | none => simp only at e; cases e; rw [hx]; exact (good_makeMap h t _ (.inl rfl)).made
    | some y =>
      simp only at e
      obtain ⟨u, h1, e0⟩ := op1_inv e (by simp); replace e := e0; clear e0
      split at e
      · rename_i k el j n hd
        cases e
        rw [hx]
        refine (good_makeMap h t _ (.inr ⟨k, el, j, n, hT.und _ _ hd, ?_⟩)).made
        simp [(ha.eval h1).int_inv]
      · cases e

theorem ex_makeSlice (hT : TabOk P T) (h : Sim μ H w) {a : A} {x : Act} (ha : AR μ a x) {o : Oper} (t : TypeId) (y z : Operand) (ho : o.op = .makeSlice t y z) {v : V} {H' : Heap} (e : execOp T a H (.makeSlice t y z) = .val v H') : Made P μ H w (Go.execOp x.eval o) v H' := by
    have hx : Go.execOp x.eval o = (do pure (.value (← Instr.makeSlice t (x.eval y) (x.eval z))) : Sem Next) := by unfold Go.execOp; rw [ho]
    simp only [Am.execOp] at e
    rw [hx]
    obtain ⟨u, h1, e0⟩ := op1_inv e (by simp); replace e := e0; clear e0
    obtain ⟨u2, h2, e0⟩ := op1_inv e (by simp); replace e := e0; clear e0
    split at e
    · rename_i el n c hd hn hc
      split at e
      · rename_i s b zz hs hz
        cases hcc : (Nat.ble n c && Nat.blt (c * b) 17592186044416 && Nat.blt c 17592186044416 && Nat.beq zz.length s && Nat.blt 0 s) with
        | false => rw [hcc] at e; cases e
        | true =>
          rw [hcc] at e
          cases e
          simp only [Bool.and_eq_true, Nat.ble_eq, Nat.blt_eq, Nat.beq_eq] at hcc
          obtain ⟨⟨⟨⟨g1, g2⟩, g3⟩, g4⟩, g5⟩ := hcc
          obtain ⟨k, rfl⟩ := natOf_eq hn
          obtain ⟨k', rfl⟩ := natOf_eq hc
          have := good_makeSlice (P := P) (k := k) (k' := k') hT h hd hs hz g1 g2 g3 g4 g5
          have r1 := (ha.eval h1).int_inv
          have r2 := (ha.eval h2).int_inv
          have hm := this.made
          rw [r1, r2]
          exact hm
      · cases e
    · cases e

theorem ex_slice (hT : TabOk P T) (h : Sim μ H w) {a : A} {x : Act} (ha : AR μ a x) {o : Oper} (t : TypeId) (y : Operand) (lo hi mx : Option Operand) (ho : o.op = .slice t y lo hi mx) {v : V} {H' : Heap} (e : execOp T a H (.slice t y lo hi mx) = .val v H') : Made P μ H w (Go.execOp x.eval o) v H' := by
    have hx : Go.execOp x.eval o = (do pure (.value (← Instr.sliceAt t (x.eval y) (lo.map x.eval) (hi.map x.eval) (mx.map x.eval))) : Sem Next) := by unfold Go.execOp; rw [ho]
    simp only [Am.execOp] at e
    rw [hx]
    obtain ⟨u, h1, e0⟩ := op1_inv e (by simp); replace e := e0; clear e0
    split at e
    · rename_i vlo vhi vmx g1 g2 g3
      obtain ⟨e0, hH⟩ := OR.ofV_val e; replace e := e0; clear e0; subst hH
      exact (good_slice hT h (ha.eval h1) (ha.evalOpt g1) (ha.evalOpt g2) (ha.evalOpt g3) e).made
    · cases e

theorem ex_fieldAddr (hT : TabOk P T) (h : Sim μ H w) {a : A} {x : Act} (ha : AR μ a x) {o : Oper} (t : TypeId) (y : Operand) (i : Nat) (ho : o.op = .fieldAddr t y i) {v : V} {H' : Heap} (e : execOp T a H (.fieldAddr t y i) = .val v H') : Made P μ H w (Go.execOp x.eval o) v H' := by
    have hx : Go.execOp x.eval o = (do pure (.value (← Instr.fieldAt t (x.eval y) i)) : Sem Next) := by unfold Go.execOp; rw [ho]
    simp only [Am.execOp] at e
    rw [hx]
    obtain ⟨u, h1, e0⟩ := op1_inv e (by simp); replace e := e0; clear e0
    split at e
    · split at e
      · rename_i fs hfs
        split at e
        · rename_i f hf
          split at e
          · rename_i n b hs
            simp only [cond_beq] at e
            split at e
            · cases e
            · rename_i hn
              cases e
              refine (good_field_addr hT h (ha.eval h1) ?_ hf hs hn).made
              unfold fieldsOf at hfs
              split at hfs
              · cases hfs; assumption
              · cases hfs
          · cases e
        · cases e
      · cases e
    · cases e

theorem ex_field (hT : TabOk P T) (h : Sim μ H w) {a : A} {x : Act} (ha : AR μ a x) {o : Oper} (t : TypeId) (y : Operand) (i : Nat) (ho : o.op = .field t y i) {v : V} {H' : Heap} (e : execOp T a H (.field t y i) = .val v H') : Made P μ H w (Go.execOp x.eval o) v H' := by
    have hx : Go.execOp x.eval o = (do pure (.value (← Instr.field t (x.eval y) i)) : Sem Next) := by unfold Go.execOp; rw [ho]
    simp only [Am.execOp] at e
    rw [hx]
    obtain ⟨u, h1, e0⟩ := op1_inv e (by simp); replace e := e0; clear e0
    split at e
    · split at e
      · rename_i fs hfs
        split at e
        · rename_i f hf
          obtain ⟨e0, hH⟩ := OR.ofV_val e; replace e := e0; clear e0; subst hH
          refine (good_field hT h (ha.eval h1) ?_ hf e).made
          unfold fieldsOf at hfs
          split at hfs
          · cases hfs; assumption
          · cases hfs
        · cases e
      · cases e
    · cases e

theorem ex_indexAddr (hT : TabOk P T) (h : Sim μ H w) {a : A} {x : Act} (ha : AR μ a x) {o : Oper} (t : TypeId) (y z : Operand) (ho : o.op = .indexAddr t y z) {v : V} {H' : Heap} (e : execOp T a H (.indexAddr t y z) = .val v H') : Made P μ H w (Go.execOp x.eval o) v H' := by
    have hx : Go.execOp x.eval o = (do pure (.value (← Instr.indexAt t (x.eval y) (x.eval z))) : Sem Next) := by unfold Go.execOp; rw [ho]
    simp only [Am.execOp] at e
    rw [hx]
    obtain ⟨u, h1, e0⟩ := op1_inv e (by simp); replace e := e0; clear e0
    obtain ⟨u2, h2, e0⟩ := op1_inv e (by simp); replace e := e0; clear e0
    split at e
    · rename_i el l o n s c j hd hj
      split at e
      · rename_i sz b hs
        cases hc : (Nat.beq sz s && Nat.blt j n) with
        | false => rw [hc] at e; cases e
        | true =>
          rw [hc] at e
          cases e
          rw [Bool.and_eq_true, Nat.beq_eq, Nat.blt_eq] at hc
          obtain ⟨rfl, hjn⟩ := hc
          obtain ⟨k, rfl⟩ := natOf_eq hj
          have hm := (good_indexAddr_slice (P := P) (k := k) hT h (ha.eval h1) hd hs hjn).made
          rw [(ha.eval h2).int_inv]
          exact hm
      · cases e
    · rename_i n el l o j hd hj
      split at e
      · rename_i sz b hs
        simp only [cond_blt] at e
        split at e
        · rename_i hjn
          cases e
          obtain ⟨k, rfl⟩ := natOf_eq hj
          have hm := (good_indexAddr_array (P := P) (k := k) hT h (ha.eval h1) hd hs hjn).made
          rw [(ha.eval h2).int_inv]
          exact hm
        · cases e
      · cases e
    · cases e

theorem ex_index (hT : TabOk P T) (h : Sim μ H w) {a : A} {x : Act} (ha : AR μ a x) {o : Oper} (t : TypeId) (y z : Operand) (ho : o.op = .index t y z) {v : V} {H' : Heap} (e : execOp T a H (.index t y z) = .val v H') : Made P μ H w (Go.execOp x.eval o) v H' := by
    have hx : Go.execOp x.eval o = (do pure (.value (← Instr.index t (x.eval y) (x.eval z))) : Sem Next) := by unfold Go.execOp; rw [ho]
    simp only [Am.execOp] at e
    rw [hx]
    obtain ⟨u, h1, e0⟩ := op1_inv e (by simp); replace e := e0; clear e0
    obtain ⟨u2, h2, e0⟩ := op1_inv e (by simp); replace e := e0; clear e0
    split at e
    · rename_i s j hd hj
      split at e
      · rename_i b hb
        cases e
        obtain ⟨k, rfl⟩ := natOf_eq hj
        have hm := (good_index_str (P := P) (k := k) hT h (ha.eval h1) hd hb).made
        rw [(ha.eval h2).int_inv]
        exact hm
      · cases e
    · rename_i n el cs j hd hj
      split at e
      · rename_i sz b hs
        simp only [cond_blt] at e
        split at e
        · rename_i hjn
          obtain ⟨e0, hH⟩ := OR.ofV_val e; replace e := e0; clear e0; subst hH
          obtain ⟨k, rfl⟩ := natOf_eq hj
          have hm := (good_index_array (P := P) (k := k) hT h (ha.eval h1) hd hs hjn e).made
          rw [(ha.eval h2).int_inv]
          exact hm
        · cases e
      · cases e
    · cases e

theorem ex_lookup (hT : TabOk P T) (h : Sim μ H w) {a : A} {x : Act} (ha : AR μ a x) {o : Oper} (t : TypeId) (y z : Operand) (ok : Bool) (ho : o.op = .lookup t y z ok) {v : V} {H' : Heap} (e : execOp T a H (.lookup t y z ok) = .val v H') : Made P μ H w (Go.execOp x.eval o) v H' := by
    have hx : Go.execOp x.eval o = (do pure (.value (← Instr.lookup t (x.eval y) (x.eval z) ok)) : Sem Next) := by unfold Go.execOp; rw [ho]
    simp only [Am.execOp] at e
    rw [hx]
    obtain ⟨u, h1, e0⟩ := op1_inv e (by simp); replace e := e0; clear e0
    obtain ⟨u2, h2, e0⟩ := op1_inv e (by simp); replace e := e0; clear e0
    obtain ⟨e0, hH⟩ := OR.ofV_val e; replace e := e0; clear e0; subst hH
    exact (good_lookup hT h (ha.eval h1) (ha.eval h2) e).made

theorem ex_mapUpdate (hT : TabOk P T) (h : Sim μ H w) {a : A} {x : Act} (ha : AR μ a x) {o : Oper} (t : TypeId) (m k y : Operand) (ho : o.op = .mapUpdate t m k y) {v : V} {H' : Heap} (e : execOp T a H (.mapUpdate t m k y) = .val v H') : Made P μ H w (Go.execOp x.eval o) v H' := by
    have hx : Go.execOp x.eval o = (do Instr.mapUpdate t (x.eval m) (x.eval k) (x.eval y); pure .skip : Sem Next) := by unfold Go.execOp; rw [ho]
    simp only [Am.execOp] at e
    rw [hx]
    obtain ⟨u, h1, e0⟩ := op1_inv e (by simp); replace e := e0; clear e0
    obtain ⟨u2, h2, e0⟩ := op1_inv e (by simp); replace e := e0; clear e0
    obtain ⟨u3, h3, e0⟩ := op1_inv e (by simp); replace e := e0; clear e0
    obtain ⟨e0, hH⟩ := OR.ofH_val e; replace e := e0; clear e0; subst hH
    exact made_unit (good_mapUpdate hT h (ha.eval h1) (ha.eval h2) (ha.eval h3) e)

theorem ex_insert (hT : TabOk P T) (h : Sim μ H w) {a : A} {x : Act} (ha : AR μ a x) {o : Oper} (t : TypeId) (m k y : Operand) (ho : o.op = .insert t m k y) {v : V} {H' : Heap} (e : execOp T a H (.insert t m k y) = .val v H') : Made P μ H w (Go.execOp x.eval o) v H' := by
    have hx : Go.execOp x.eval o = (do Instr.mapUpdate t (x.eval m) (x.eval k) (x.eval y); pure .skip : Sem Next) := by unfold Go.execOp; rw [ho]
    simp only [Am.execOp] at e
    rw [hx]
    obtain ⟨u, h1, e0⟩ := op1_inv e (by simp); replace e := e0; clear e0
    obtain ⟨u2, h2, e0⟩ := op1_inv e (by simp); replace e := e0; clear e0
    obtain ⟨u3, h3, e0⟩ := op1_inv e (by simp); replace e := e0; clear e0
    obtain ⟨e0, hH⟩ := OR.ofH_val e; replace e := e0; clear e0; subst hH
    exact made_unit (good_mapUpdate hT h (ha.eval h1) (ha.eval h2) (ha.eval h3) e)

theorem ex_typeAssert (hT : TabOk P T) (h : Sim μ H w) {a : A} {x : Act} (ha : AR μ a x) {o : Oper} (y : Operand) (xt u : TypeId) (ok : Bool) (ho : o.op = .typeAssert y xt u ok) {v : V} {H' : Heap} (e : execOp T a H (.typeAssert y xt u ok) = .val v H') : Made P μ H w (Go.execOp x.eval o) v H' := by
    have hx : Go.execOp x.eval o = (do pure (.value (← Instr.typeAssert (x.eval y) xt u ok)) : Sem Next) := by unfold Go.execOp; rw [ho]
    simp only [Am.execOp] at e
    obtain ⟨q, h1, e0⟩ := op1_inv e (by simp); replace e := e0; clear e0
    have hq := ha.eval h1
    rw [hx]
    split at e
    · cases e
    · cases e
    · rename_i d t w' hn hd
      simp only [cond_beq] at e
      split at e
      · rename_i ht; cases e
        exact (good_typeAssert hT h hq hd (fun ms hm => hn ms hm) (.inl ⟨t, w', rfl, .inl ⟨ht, rfl⟩⟩)).made
      · rename_i ht
        cases ok with
        | false => cases e
        | true =>
          simp only [cond_true] at e
          split at e
          · rename_i z hz; cases e
            exact (good_typeAssert hT h hq hd (fun ms hm => hn ms hm) (.inl ⟨t, w', rfl, .inr ⟨ht, rfl, z, hz, rfl⟩⟩)).made
          · cases e
    · rename_i d hn hd
      cases ok with
      | false => cases e
      | true =>
        simp only [cond_true] at e
        split at e
        · rename_i z hz; cases e
          exact (good_typeAssert hT h hq hd (fun ms hm => hn ms hm) (.inr ⟨rfl, rfl, z, hz, rfl⟩)).made
        · cases e
    · cases e

theorem ex_extract (hT : TabOk P T) (h : Sim μ H w) {a : A} {x : Act} (ha : AR μ a x) {o : Oper} (y : Operand) (i : Nat) (ho : o.op = .extract y i) {v : V} {H' : Heap} (e : execOp T a H (.extract y i) = .val v H') : Made P μ H w (Go.execOp x.eval o) v H' := by
    have hx : Go.execOp x.eval o = (do pure (.value (← Instr.extract (x.eval y) i)) : Sem Next) := by unfold Go.execOp; rw [ho]
    simp only [Am.execOp] at e
    rw [hx]
    obtain ⟨u, h1, e0⟩ := op1_inv e (by simp); replace e := e0; clear e0
    split at e
    · obtain ⟨e0, hH⟩ := OR.ofV_val e; replace e := e0; clear e0; subst hH
      exact (good_extract h (ha.eval h1) e).made
    · cases e

theorem exec_val (hT : TabOk P T) (h : Sim μ H w) {a : A} {x : Act} (ha : AR μ a x) {o : Oper} (hc : ∀ c, o.op ≠ .call c) {v : V} {H' : Heap} (e : execOp T a H o.op = .val v H') : Made P μ H w (Go.execOp x.eval o) v H' := by
  cases ho : o.op <;> rw [ho] at e
  case move => exact ex_move hT h ha _ ho e
  case assign => exact ex_assign hT h ha _ ho e
  case pick => exact ex_pick hT h ha _ _ _ ho e
  case alloc => exact ex_alloc hT h ha _ ho e
  case box => exact ex_box hT h ha _ _ ho e
  case build => exact ex_build hT h ha _ _ ho e
  case buildSlice => exact ex_buildSlice hT h ha _ _ _ ho e
  case load => exact ex_load hT h ha _ _ ho e
  case store => exact ex_store hT h ha _ _ _ ho e
  case nilCheck => exact ex_nilCheck hT h ha _ ho e
  case binOp => exact ex_binOp hT h ha _ _ _ _ _ ho e
  case unOp => exact ex_unOp hT h ha _ _ _ ho e
  case convert => exact ex_convert hT h ha _ _ _ ho e
  case makeInterface => exact ex_makeInterface hT h ha _ _ ho e
  case makeFunc => exact ex_makeFunc hT h ha _ _ _ ho e
  case makeMap => exact ex_makeMap hT h ha _ _ ho e
  case makeSlice => exact ex_makeSlice hT h ha _ _ _ ho e
  case slice => exact ex_slice hT h ha _ _ _ _ _ ho e
  case fieldAddr => exact ex_fieldAddr hT h ha _ _ _ ho e
  case field => exact ex_field hT h ha _ _ _ ho e
  case indexAddr => exact ex_indexAddr hT h ha _ _ _ ho e
  case index => exact ex_index hT h ha _ _ _ ho e
  case lookup => exact ex_lookup hT h ha _ _ _ _ ho e
  case mapUpdate => exact ex_mapUpdate hT h ha _ _ _ _ ho e
  case insert => exact ex_insert hT h ha _ _ _ _ ho e
  case typeAssert => exact ex_typeAssert hT h ha _ _ _ _ ho e
  case extract => exact ex_extract hT h ha _ _ ho e
  case call c => exact absurd ho (hc c)
  case defer c =>
    simp only [Am.execOp] at e
    split at e
    · split at e <;> cases e
    · cases e
  case panic y =>
    simp only [Am.execOp] at e
    obtain ⟨u, h1, e0⟩ := op1_inv e (by simp); replace e := e0; clear e0
    split at e <;> cases e
  all_goals (simp only [Am.execOp] at e; cases e)
end Go.Am
