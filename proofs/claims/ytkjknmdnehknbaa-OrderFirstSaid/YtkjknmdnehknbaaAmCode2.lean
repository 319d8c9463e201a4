import Derived.Test.YtkjknmdnehknbaaAmCode
set_option linter.unusedSimpArgs false
set_option linter.unusedVariables false
/- Activations: how they begin, their results, deferred calls, how a frame leaves. -/
namespace Go.Am
open Go

variable {P : Program} {T : Tab} {μ : Mu} {H : Heap} {w : World}

theorem initT_get : ∀ (vs : List V) (i : Nat) (t : Tr V) (j : Nat), (initT vs i t).get j = if i ≤ j ∧ j < i + vs.length then vs[j - i]? else t.get j
  | [], i, t, j => by simp only [initT, List.length_nil, Nat.add_zero]; rw [if_neg (by omega)]
  | v :: vs, i, t, j => by
    simp only [initT]
    rw [initT_get vs (i + 1), Tr.get_set]
    by_cases h1 : i + 1 ≤ j ∧ j < i + 1 + vs.length
    · rw [if_pos h1, if_pos (by simp only [List.length_cons]; omega)]
      have : j - i = (j - (i + 1)) + 1 := by omega
      rw [this]; simp
    · rw [if_neg h1]
      by_cases h2 : i = j
      · subst h2; simp
      · rw [if_neg h2, if_neg (by simp only [List.length_cons]; omega)]

theorem start_rel {as : List V} {us : List Value} {n : Nat} (h : RVL μ as us) (hn : as.length ≤ n) :
    AR μ (start as n) { tmps := (⟨us⟩ : Array Value) ++ Array.replicate (n - us.length) Go.undef, defers := [] } := by
  have hl := h.length
  refine ⟨⟨?_, fun i => ?_⟩, .nil⟩
  · simp [start]; omega
  · show RV μ ((((initT as 0 .leaf).get i)).getD undefV) _
    rw [initT_get]
    rw [Array.getD_eq_getD_getElem?, Array.getElem?_append]
    by_cases hi : i < as.length
    · rw [if_pos ⟨Nat.zero_le _, by omega⟩, if_pos (by simp; omega)]
      have h1 : as[i]? = some as[i] := List.getElem?_eq_getElem hi
      obtain ⟨u, hu, hr⟩ := h.get h1
      have h2 : (⟨us⟩ : Array Value)[i]? = some u := by simpa using hu
      simp only [Nat.sub_zero, h1, h2, Option.getD_some]
      exact hr
    · rw [if_neg (by omega), if_neg (by simp; omega)]
      have : (Array.replicate (n - us.length) Go.undef)[i - (⟨us⟩ : Array Value).size]?.getD Go.undef = Go.undef := by
        rw [Array.getElem?_replicate]; split <;> rfl
      rw [this]
      simp only [Tr.get_leaf, Option.getD_none]
      exact .undef μ

def resOne (tmps : Array Value) : ResultVar → Sem Value
  | .tmp t => pure (tmps.getD t Go.undef)
  | .cell p t => do Go.loadVar t (← asAddr (tmps.getD p Go.undef))

theorem results_eq (fn : Func) (tmps : Array Value) : Go.results fn tmps = (do
    let vs ← fn.results.mapM (resOne tmps)
    pure (if h : vs.size = 1 then vs[0] else .tuple vs)) := by
  unfold Go.results
  congr 2

theorem run_results_list (hT : TabOk P T) (h : Sim μ H w) {a : A} {x : Act} (ha : AR μ a x) : ∀ (rs : List ResultVar) (vs : List V), results T H a rs = some vs →
    ∃ us : List Value, RVL μ vs us ∧ (rs.mapM (resOne x.tmps)).run P w = .ok us w
  | [], vs, e => by
    simp only [results, Option.some.injEq] at e; subst e
    exact ⟨[], .nil, rfl⟩
  | .tmp t :: rs, vs, e => by
    simp only [results] at e
    split at e
    · rename_i vs' hvs
      cases e
      obtain ⟨us, h1, h2⟩ := run_results_list hT h ha rs vs' hvs
      refine ⟨_, .cons (ha.tmps.get t) h1, ?_⟩
      rw [List.mapM_cons]
      simp only [resOne, Sem.run_bind, Sem.run_pure, Result.andThen_ok, h2]
    · cases e
  | .cell p t :: rs, vs, e => by
    simp only [results] at e
    split at e
    · rename_i l o hp
      split at e
      · rename_i v vs' hv hvs
        cases e
        obtain ⟨us, h1, h2⟩ := run_results_list hT h ha rs vs' hvs
        have hr := ha.tmps.get p
        unfold A.tmp at hp
        rw [hp] at hr
        generalize hq : x.tmps.getD p Go.undef = q at hr
        cases hr with
        | ptr hm =>
        obtain ⟨u, hu, hv'⟩ := run_loadVar (P := P) hT h hv hm
        refine ⟨u :: us, .cons hv' h1, ?_⟩
        rw [List.mapM_cons]
        simp only [resOne, Sem.run_bind, hq, asAddr, Sem.run_pure, Result.andThen_ok, hu, h2]
      · cases e
    · cases e

theorem pack_rel {vs : List V} {us : List Value} (h : RVL μ vs us) : RV μ (pack vs) (if h : us.toArray.size = 1 then us.toArray[0] else .tuple us.toArray) := by
  cases h with
  | nil => exact .tuple .nil
  | cons h1 t => cases t with
    | nil => exact h1
    | cons h2 t2 =>
      rw [dif_neg (by simp)]
      exact .tuple (.cons h1 (.cons h2 t2))

theorem run_results (hT : TabOk P T) (h : Sim μ H w) {a : A} {x : Act} (ha : AR μ a x) {fn : Func} {vs : List V} (e : results T H a fn.results.toList = some vs) :
    ∃ u, RV μ (pack vs) u ∧ (Go.results fn x.tmps).run P w = .ok u w := by
  obtain ⟨us, h1, h2⟩ := run_results_list hT h ha _ _ e
  refine ⟨_, pack_rel h1, ?_⟩
  rw [results_eq, Array.mapM_eq_mapM_toList]
  simp only [map_eq_pure_bind, bind_assoc, pure_bind, Sem.run_bind, h2, Result.andThen_ok, Sem.run_pure]
inductive MdR (μ : Mu) : Md → FrameMode → Prop
  | returning : MdR μ .returning .returning
  | panicking {v : V} {u : Value} (h : RV μ v u) : MdR μ (.panicking v) (.panicking [{ v := u, recovered := false }])
  | recovered {v : V} {u : Value} (h : RV μ v u) : MdR μ (.recovered v) (.panicking [{ v := u, recovered := true }])
theorem MdR.mono {μ μ' : Mu} (hm : ∀ l x, μ l = some x → μ' l = some x) {m : Md} {u : FrameMode} : MdR μ m u → MdR μ' m u
  | .returning => .returning
  | .panicking h => .panicking (h.mono hm)
  | .recovered h => .recovered (h.mono hm)
theorem MdR.run {m : Md} {u : FrameMode} (h : MdR μ m u) : u ≠ .run := by cases h <;> simp

theorem exec_recover {a : A} {x : Act} {o : Oper} (e : execOp T a H o.op = .recover) : (Go.execOp x.eval o).run P w = .ok .recover w := by
  rcases exec_kind e (fun h => h) with ⟨c, hc, h⟩ | ⟨c, hc⟩ | ⟨y, ho⟩
  · rw [exec_call_eq hc]
    unfold callOp at h
    split at h
    · cases h
    rename_i args hargs
    split at h
    · rename_i b hb
      unfold Am.builtin at h
      simp only [cond_beq] at h
      repeat' split at h
      all_goals first
        | cases h
        | (unfold OR.ofVH at h; split at h <;> cases h)
        | (unfold OR.ofV at h; split at h <;> cases h)
        | (unfold OR.ofH at h; split at h <;> cases h)
        | skip
      simp only [resolve, hb, Sem.run_bind, Sem.run_pure, Result.andThen_ok, invoke]
      have : c.args.toList = [] := by
        cases hq : c.args.toList with
        | nil => rfl
        | cons q qs =>
          rw [hq] at hargs
          simp only [evals] at hargs
          split at hargs
          · cases hargs
          · split at hargs <;> cases hargs
      have : c.args = #[] := Array.toList_inj.1 this
      rw [this]
      rfl
    · split at h
      · rcases invoked_kind h with h0 | ⟨f, as, h0⟩ <;> cases h0
      · cases h
    · split at h
      · rcases callee_kind h with h0 | ⟨f, as, h0⟩ | ⟨l, as, h0⟩ <;> cases h0
      · cases h
  · rw [hc] at e
    rcases defer_kind e with h | ⟨d, h⟩ <;> cases h
  · rw [ho] at e
    rcases panic_kind e with h | ⟨d, h⟩ <;> cases h

theorem opsD_ok (hT : TabOk P T) {ops : Array Oper} {n : Nat} : ∀ (idx : List Nat) (m : Md) (a : A) (H : Heap) (ex : Ex) (m' : Md) (a' : A) (H' : Heap), opsD T ops idx m a H = some (ex, m', a', H') →
    ∀ (μ : Mu) (w : World) (x : Act) (u : FrameMode) (c₀ : Frame) (cs : List Frame) (Q : Exit → Act → List Frame → World → Prop), Sim μ H w → AR μ a x → MdR μ m u →
    (∀ μ' w' x' u', ex = .normal → Post μ H w μ' H' w' → AR μ' a' x' → a'.defers = a.defers → MdR μ' m' u' → Q .normal x' ({ c₀ with mode := u' } :: cs) w') →
    wpOpsSIn (FW none) n P ops Q idx x ({ c₀ with mode := u } :: cs) w := by
  intro idx
  induction idx with
  | nil =>
    intro m a H ex m' a' H' e μ w x u c₀ cs Q h ha hm hQ
    simp only [opsD, Option.some.injEq, Prod.mk.injEq] at e
    obtain ⟨rfl, rfl, rfl, rfl⟩ := e
    exact hQ μ w x u rfl (.refl h) ha rfl hm
  | cons i rest ih =>
    intro m a H ex m' a' H' e μ w x u c₀ cs Q h ha hm hQ
    unfold opsD at e
    cases ho : ops[i]? with
    | none => rw [ho] at e; cases e
    | some o =>
      rw [ho] at e
      dsimp only at e
      simp only [wpOpsSIn, ho]
      refine ⟨fun _ _ => trivial, ?_⟩
      have hw := wanted_eq ops ha o
      have next : ∀ {v : V} {y : Value} {μ1 : Mu} {w1 : World} {H1 : Heap} {m1 : Md} {u1 : FrameMode}, opsD T ops rest m1 (a.put o.dst v) H1 = some (ex, m', a', H') → RV μ1 v y → Post μ H w μ1 H1 w1 → MdR μ1 m1 u1 →
          wpOpsSIn (FW none) n P ops Q rest (x.put o.dst y) ({ c₀ with mode := u1 } :: cs) w1 := by
        intro v y μ1 w1 H1 m1 u1 e1 hv hp hm1
        refine ih _ _ _ _ _ _ _ e1 μ1 w1 (x.put o.dst y) u1 c₀ cs Q hp.sim ((ha.mono (hp.ext h)).put hv _) hm1 fun μ' w' x' u' hex hp' ha' hd' hm' => hQ μ' w' x' u' hex (hp.trans hp') ha' ?_ hm'
        rw [hd']; cases o.dst <;> rfl
      cases hwt : wanted ops a o with
      | false =>
        rw [hwt] at e hw
        simp only [cond_false] at e
        rw [if_neg (by rw [hw]; simp)]
        exact next e (RV.undef μ) (.refl h) hm
      | true =>
        rw [hwt] at e hw
        simp only [cond_true] at e
        rw [if_pos hw]
        split at e
        · rename_i v H1 hex
          obtain ⟨y, w1, μ1, h1, h2, h3⟩ := exec_made (P := P) hT h ha hex
          rcases h1 with h1 | ⟨h1, rfl⟩
          · rw [h1]; exact next e h2 h3 (hm.mono (h3.ext h))
          · rw [h1]; exact next e h2 h3 (hm.mono (h3.ext h))
        · rename_i hex
          rw [exec_recover (P := P) (w := w) (x := x) hex]
          cases hm with
          | panicking hv =>
            simp only [recoverD]
            exact next e hv (.refl h) (.recovered hv)
          | returning =>
            simp only [recoverD]
            exact next e .nilIface (.refl h) .returning
          | recovered hv =>
            simp only [recoverD]
            exact next e .nilIface (.refl h) (.recovered hv)
        · cases e

theorem evD_ok (hT : TabOk P T) {n : Nat} : ∀ (k : Nat) (c : Code) (m : Md) (a : A) (H : Heap) (ex : Ex) (m' : Md) (a' : A) (H' : Heap), evD T k c m a H = some (ex, m', a', H') →
    ∀ (μ : Mu) (w : World) (x : Act) (u : FrameMode) (c₀ : Frame) (cs : List Frame) (Q : Exit → Act → List Frame → World → Prop), Sim μ H w → AR μ a x → MdR μ m u →
    (∀ μ' w' x' u' e', ((ex = .normal ∧ e' = .normal) ∨ (ex = .ret ∧ e' = .ret)) → Post μ H w μ' H' w' → AR μ' a' x' → a'.defers = a.defers → MdR μ' m' u' → Q e' x' ({ c₀ with mode := u' } :: cs) w') →
    c.wpSIn (FW none) n P Q x ({ c₀ with mode := u } :: cs) w := by
  intro k
  induction k with
  | zero => intro c m a H ex m' a' H' e; simp [evD] at e
  | succ k ih =>
    intro c m a H ex m' a' H' e μ w x u c₀ cs Q h ha hm hQ
    unfold evD at e
    split at e
    · simp only [Option.some.injEq, Prod.mk.injEq] at e
      obtain ⟨rfl, rfl, rfl, rfl⟩ := e
      exact wpSIn_of_wpIn rfl (wpIn_skip (hQ μ w x u _ (.inl ⟨rfl, rfl⟩) (.refl h) ha rfl hm))
    · simp only [Option.some.injEq, Prod.mk.injEq] at e
      obtain ⟨rfl, rfl, rfl, rfl⟩ := e
      exact wpSIn_of_wpIn rfl (wpIn_ret (hQ μ w x u _ (.inr ⟨rfl, rfl⟩) (.refl h) ha rfl hm))
    · rename_i y z
      apply wpSIn_seq
      split at e
      · rename_i m1 a1 H1 h1
        refine ih _ _ _ _ _ _ _ _ h1 μ w x u c₀ cs _ h ha hm ?_
        intro μ1 w1 x1 u1 e1 he1 hp1 ha1 hd1 hm1
        rcases he1 with ⟨_, rfl⟩ | ⟨hh, _⟩
        · refine ih _ _ _ _ _ _ _ _ e μ1 w1 x1 u1 c₀ cs Q hp1.sim ha1 hm1 ?_
          intro μ2 w2 x2 u2 e2 he2 hp2 ha2 hd2 hm2
          exact hQ μ2 w2 x2 u2 e2 he2 (hp1.trans hp2) ha2 (hd2.trans hd1) hm2
        · cases hh
      · rename_i hn
        refine ih _ _ _ _ _ _ _ _ e μ w x u c₀ cs _ h ha hm ?_
        intro μ1 w1 x1 u1 e1 he1 hp1 ha1 hd1 hm1
        rcases he1 with ⟨rfl, rfl⟩ | ⟨rfl, rfl⟩
        · exact absurd e (hn _ _ _)
        · exact hQ μ1 w1 x1 u1 _ (.inr ⟨rfl, rfl⟩) hp1 ha1 hd1 hm1
    · rename_i cnd y z
      split at e
      · rename_i hc
        have hv := ha.eval hc
        generalize hq : x.eval cnd = q at hv
        cases hv
        exact wpSIn_cond hq (ih _ _ _ _ _ _ _ _ e μ w x u c₀ cs Q h ha hm hQ)
      · rename_i hc
        have hv := ha.eval hc
        generalize hq : x.eval cnd = q at hv
        cases hv
        exact wpSIn_cond hq (ih _ _ _ _ _ _ _ _ e μ w x u c₀ cs Q h ha hm hQ)
      · cases e
    · apply wpSIn_region
      refine opsD_ok hT _ _ _ _ _ _ _ _ e μ w x u c₀ cs Q h ha hm ?_
      intro μ' w' x' u' hex hp ha' hd hm'
      exact hQ μ' w' x' u' _ (.inl ⟨hex, rfl⟩) hp ha' hd hm'
    · cases e

theorem callD_ok (hT : TabOk P T) {k : Nat} {f : FuncId} {args : List V} {m m' : Md} {H' : Heap} (e : callD T k f args m H = some (m', H')) (h : Sim μ H w) {us : List Value} (hr : RVL μ args us) {u : FrameMode} (hm : MdR μ m u) :
    CallsDIn (FW none) 0 P f ⟨us⟩ u w (fun e' u' w' => ∃ v, e' = .returned v ∧ ∃ μ', Post μ H w μ' H' w' ∧ MdR μ' m' u') ∧ (callFunc f ⟨us⟩).run P w = .ok (.enter f ⟨us⟩) w := by
  unfold callD at e
  split at e
  · cases e
  rename_i fn hf
  split at e
  · cases e
  rename_i c hb
  rw [cond_ble] at e
  split at e
  · rename_i hle
    have hend : ∀ ex a' , evD T k c m (start args fn.ntmps) H = some (ex, m', a', H') → fn.results.isEmpty = true → CallsDIn (FW none) 0 P f ⟨us⟩ u w (fun e' u' w' => ∃ v, e' = .returned v ∧ ∃ μ', Post μ H w μ' H' w' ∧ MdR μ' m' u') := by
      intro ex a' h1 hre
      have hne : fn.results = #[] := by simpa using hre
      refine callsDIn_of_wpSIn (hT.func _ _ hf).1 hb trivial fun c₀ cs hu => ?_
      have hc : ({ c₀ with mode := u } : Frame) = c₀ := by subst hu; rfl
      have := evD_ok (P := P) (n := 0) hT _ _ _ _ _ _ _ _ _ h1 μ w _ u c₀ cs (bodyPostS P fn c₀ cs (fun e' u' w' => ∃ v, e' = .returned v ∧ ∃ μ', Post μ H w μ' H' w' ∧ MdR μ' m' u')) h (start_rel hr hle) hm ?_
      · rw [hc] at this; exact this
      · intro μ' w' x' u' e' he hp ha' hd hm'
        have hd0 : x'.defers = [] := by
          have h2 := ha'.defers
          rw [hd] at h2
          simp only [start] at h2
          generalize x'.defers = q at h2
          cases h2; rfl
        have hres : (Go.results fn x'.tmps).run P w' = .ok (.tuple #[]) w' := by
          rw [results_eq, hne, Array.mapM_eq_mapM_toList]
          simp [Sem.run_bind, Sem.run_pure, Result.andThen_ok]
        rcases he with ⟨_, rfl⟩ | ⟨_, rfl⟩
        · exact ⟨hd0, u', rfl, _, hres, _, rfl, μ', hp, hm'⟩
        · exact ⟨hd0, u', rfl, _, hres, _, rfl, μ', hp, hm'⟩
    refine ⟨?_, run_callFunc hT hf hb ⟨us⟩⟩
    split at e
    · rename_i m1 a1 H1 h1
      cases hre : fn.results.isEmpty with
      | false => rw [hre] at e; cases e
      | true => rw [hre] at e; cases e; exact hend _ _ h1 hre
    · rename_i m1 a1 H1 h1
      cases hre : fn.results.isEmpty with
      | false => rw [hre] at e; cases e
      | true => rw [hre] at e; cases e; exact hend _ _ h1 hre
    · cases e
  · cases e

theorem MdR.settle {m : Md} {u : FrameMode} (h : MdR μ m u) : MdR μ m.settle (Go.settle u) := by
  cases h with
  | returning => exact .returning
  | panicking h => exact .panicking h
  | recovered h => exact .returning

theorem leave_ok (hT : TabOk P T) {k : Nat} {fn : Func} {a : A} {x : Act} {R : Ending → World → Prop} : ∀ (ds : List D) (m : Md) (H : Heap) (μ : Mu) (w : World) (u : FrameMode) (es : List Deferred), leave T k fn a ds m H ≠ .stuck → (∀ v, m ≠ .recovered v) →
    Sim μ H w → AR μ a x → MdR μ m u → DRL μ ds es → (∀ e w', CallPost μ H w (leave T k fn a ds m H) e w' → R e w') → LeavesInM (FW none) 0 P fn x.tmps R es u w := by
  intro ds
  induction ds with
  | nil =>
    intro m H μ w u es hne hnr h ha hm hds hR
    cases hds
    show LeavesIn _ _ _ _ _ _ [] u w
    cases hm with
    | panicking hv =>
      exact hR _ _ ⟨μ, hv, .refl h⟩
    | returning =>
      unfold leave at hne hR
      cases hr : results T H a fn.results.toList with
      | none => rw [hr] at hne; exact absurd rfl hne
      | some vs =>
        obtain ⟨y, hy, hrun⟩ := run_results (P := P) hT h ha hr
        rw [hr] at hR
        exact ⟨y, hrun, hR (.returned y) w ⟨μ, hy, .refl h⟩⟩
    | recovered hv => exact absurd rfl (hnr _)
  | cons d ds ih =>
    intro m H μ w u es hne hnr h ha hm hds hR
    cases hds with
    | cons hd hds =>
    rename_i dd es
    refine ⟨hm.run, ?_⟩
    cases hd with
    | collected hmr =>
      left
      simp only [leave] at hne hR
      split at hne
      · rename_i hget
        rw [hget] at hR
        dsimp only at hR
        obtain ⟨b', x', y', e1, e2, _⟩ := h.obj _ _ hget
        rw [hmr] at e1; cases e1
        have htk := run_takeDeferred (P := P) e2
        have hp : Post μ H w μ (H.put _ (.deferred none)) (w.putObj _ (.deferred none)) :=
          Post.turn h hget rfl hmr (.deferred none) ⟨_, _, _, hmr, World.putObj_heap_same (by
            rcases Nat.lt_or_ge _ w.heap.size with h' | h'
            · exact h'
            · rw [Array.getElem?_eq_none h'] at e2; cases e2), by simp⟩
        refine ⟨_, _, rfl, htk, ih _ _ μ _ u es hne hnr hp.sim ha hm hds ?_⟩
        intro e w' hc
        refine hR e w' ?_
        revert hc
        unfold CallPost
        split
        · exact fun ⟨μ', q1, q2⟩ => ⟨μ', q1, hp.trans q2⟩
        · exact fun ⟨μ', q1, q2⟩ => ⟨μ', q1, hp.trans q2⟩
        · exact id
      · exact absurd rfl hne
    | fn hargs =>
      right
      rename_i g args as cap
      simp only [leave] at hne hR
      split at hne
      · rename_i m1 H1 hcall
        rw [hcall] at hR
        dsimp only at hR
        obtain ⟨hcd, hcf⟩ := callD_ok (P := P) hT hcall h hargs hm
        refine ⟨fun q => by simp [FW] at q, .func g, ⟨cap⟩, g, ⟨as ++ cap⟩, rfl, ?_, fun _ _ => trivial, ?_⟩
        · simp only [invoke]
          have : (⟨as⟩ : Array Value) ++ ⟨cap⟩ = ⟨as ++ cap⟩ := by apply Array.toList_inj.1; simp
          rw [this]; exact hcf
        · refine hcd.mono ?_
          rintro e' u' w' ⟨v, rfl, μ1, hp, hm1⟩
          refine ih _ _ μ1 w' _ es hne (by cases m1 <;> simp [Md.settle]) hp.sim (ha.mono (hp.ext h)) hm1.settle (hds.mono (hp.ext h)) ?_
          intro e w'' hc
          refine hR e w'' ?_
          revert hc
          unfold CallPost
          split
          · exact fun ⟨μ', q1, q2⟩ => ⟨μ', q1, hp.trans q2⟩
          · exact fun ⟨μ', q1, q2⟩ => ⟨μ', q1, hp.trans q2⟩
          · exact id
      · exact absurd rfl hne
end Go.Am
