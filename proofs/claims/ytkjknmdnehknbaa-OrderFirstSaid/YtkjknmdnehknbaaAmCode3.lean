import Derived.Test.YtkjknmdnehknbaaAmCode2
set_option linter.unusedSimpArgs false
set_option linter.unusedVariables false
/- Calls, rounds, ranges over functions; every piece of code but a region that draws. -/
namespace Go.Am
open Go

variable {P : Program} {T : Tab} {μ : Mu} {H : Heap} {w : World}

/-- The functions that are not walked do what the tables say. -/
def PrimOk (P : Program) (T : Tab) : Prop := ∀ (f : FuncId) (g : List V → Heap → Option (V × Heap)), T.prim f = some g → ∀ (as : List V) (H : Heap) (v : V) (H' : Heap), g as H = some (v, H') →
  ∀ (μ : Mu) (w : World) (us : List Value), Sim μ H w → RVL μ as us → Entered P μ H w f us (.returned v H')

theorem CallPost.before {μ1 : Mu} {H1 : Heap} {w1 : World} {r : CR} {e : Ending} {w' : World} (hp : Post μ H w μ1 H1 w1) (h : CallPost μ1 H1 w1 r e w') : CallPost μ H w r e w' := by
  revert h
  unfold CallPost
  split
  · exact fun ⟨μ', q1, q2⟩ => ⟨μ', q1, hp.trans q2⟩
  · exact fun ⟨μ', q1, q2⟩ => ⟨μ', q1, hp.trans q2⟩
  · exact id

theorem enter_ok (hT : TabOk P T) {ev : Ev} (hev : EvOk P ev) {fuel : Nat} {f : FuncId} {as : List V} {H : Heap} (hne : enter T ev fuel f as H ≠ .stuck) {μ : Mu} {w : World} {us : List Value} (h : Sim μ H w) (hr : RVL μ as us) :
    CallsIn (FW none) 0 P f ⟨us⟩ w (CallPost μ H w (enter T ev fuel f as H)) ∧ (callFunc f ⟨us⟩).run P w = .ok (.enter f ⟨us⟩) w := by
  have hne0 := hne
  unfold enter at hne
  split at hne
  · exact absurd rfl hne
  rename_i fn hf
  split at hne
  · exact absurd rfl hne
  rename_i c hb
  rw [cond_ble] at hne
  split at hne
  · rename_i hle
    refine ⟨?_, run_callFunc hT hf hb ⟨us⟩⟩
    refine callsIn_of_wp_marks (hT.func _ _ hf).1 hb trivial ?_
    have hs := start_rel hr hle
    split at hne
    · rename_i a H' he
      refine hev none c _ H _ _ _ he μ w _ none _ h hs .out ?_
      intro μ' w' x' e' hp ha hx
      cases hx
      refine leave_ok hT _ _ H' μ' w' _ _ hne (by simp) hp.sim ha .returning ha.defers ?_
      intro e w'' hc
      have : enter T ev fuel f as H = leave T fuel fn a a.defers .returning H' := by
        unfold enter; simp only [hf, hb, cond_ble, if_pos hle, he]
      rw [this]
      exact hc.before hp
    · rename_i a H' he
      refine hev none c _ H _ _ _ he μ w _ none _ h hs .out ?_
      intro μ' w' x' e' hp ha hx
      cases hx
      refine leave_ok hT _ _ H' μ' w' _ _ hne (by simp) hp.sim ha .returning ha.defers ?_
      intro e w'' hc
      have : enter T ev fuel f as H = leave T fuel fn a a.defers .returning H' := by
        unfold enter; simp only [hf, hb, cond_ble, if_pos hle, he]
      rw [this]
      exact hc.before hp
    · rename_i v a H' he
      refine hev none c _ H _ _ _ he μ w _ none _ h hs .out ?_
      intro μ' w' x' e' hp ha hx
      cases hx with
      | panic hv =>
      refine leave_ok hT _ _ H' μ' w' _ _ hne (by simp) hp.sim ha (.panicking hv) ha.defers ?_
      intro e w'' hc
      have : enter T ev fuel f as H = leave T fuel fn a a.defers (.panicking v) H' := by
        unfold enter; simp only [hf, hb, cond_ble, if_pos hle, he]
      rw [this]
      exact hc.before hp
    · exact absurd rfl hne
  · exact absurd rfl hne

theorem calls_ok (hT : TabOk P T) (hP : PrimOk P T) {ev : Ev} (hev : EvOk P ev) {fuel : Nat} : CallOk P T (calls T ev fuel) := by
  intro f as H hne μ w us h hr
  cases hg : T.prim f with
  | some g =>
    cases hgv : g as H with
    | some p =>
      obtain ⟨v, H'⟩ := p
      have : calls T ev fuel f as H = .returned v H' := by unfold calls; rw [hg]; dsimp only; rw [hgv]
      rw [this]
      exact ⟨hP f g hg as H v H' hgv μ w us h hr, fun h0 => by cases h0⟩
    | none =>
      refine absurd ?_ hne
      unfold calls; rw [hg]; dsimp only; rw [hgv]
  | none =>
    have : calls T ev fuel f as H = enter T ev fuel f as H := by unfold calls; rw [hg]
    rw [this] at hne ⊢
    have := enter_ok hT hev hne h hr
    exact ⟨.inl this, fun _ => this⟩

theorem zip_put {ps : List Tmp} {as : List V} {us : List Value} (hr : RVL μ as us) : ∀ {t : Ts} {x : Array Value}, TsR μ t x → TsR μ ((ps.zip as).foldl (fun t (x : Tmp × V) => t.put x.1 x.2) t) ((ps.zip us).foldl (fun tmps (y : Tmp × Value) => tmps.setIfInBounds y.1 y.2) x) := by
  induction ps generalizing as us with
  | nil => intro t x h; simpa using h
  | cons p ps ih =>
    intro t x h
    cases hr with
    | nil => simpa using h
    | cons h1 h2 => simpa using ih h2 (h.put h1 p)

theorem lt_of_get {b : Nat} {z : Obj} (e : w.heap[b]? = some z) : b < w.heap.size := by
  rcases Nat.lt_or_ge b w.heap.size with h' | h'
  · exact h'
  · rw [Array.getElem?_eq_none h'] at e; cases e

/-- A loop's record is turned. -/
theorem turn_loop (h : Sim μ H w) {l : Nat} {st st' : LoopState} {p p' : Option Code} {fn : FuncId} {tmps : Ts} {ps : List Tmp} {as bo : Code} {ds b y z : Nat} {r : Loop} (hl : H.get l = some (.loop st p fn tmps ps as bo ds)) (hm : μ l = some (b, y, z)) (hb : w.heap[b]? = some (.loop r)) :
    Post μ H w μ (H.put l (.loop st' p' fn tmps ps as bo ds)) (w.putObj b (.loop { r with state := st', pending := p' })) := by
  obtain ⟨b', y', z', r', db, q1, q2, e1, e2, e3, e4, e5, e6, e7, e8, e9, e10⟩ := h.obj _ _ hl
  rw [hm] at e1; cases e1
  rw [hb] at e2; cases e2
  exact Post.turn h hl rfl hm _ ⟨_, _, _, _, db, q1, q2, hm, World.putObj_heap_same (lt_of_get hb), rfl, rfl, e5, e6, e7, e8, e9, e10⟩

noncomputable def roundOut (H2 : Heap) (l : Nat) (fn2 : FuncId) (tmps2 : Ts) (ps2 : List Tmp) (as2 bo2 : Code) (ds2 : Nat) : Ex → CR
  | .normal => .returned (.bool true) (H2.put l (.loop .ready none fn2 tmps2 ps2 as2 bo2 ds2))
  | .ret => .returned (.bool false) (H2.put l (.loop .done (some .ret) fn2 tmps2 ps2 as2 bo2 ds2))
  | .exit id => .returned (.bool false) (H2.put l (.loop .done (some (.exit id)) fn2 tmps2 ps2 as2 bo2 ds2))
  | _ => .stuck

theorem round_end {b : Nat} {r : Loop} {j : Option Code} (hm : w.heap[b]? = some (.loop r)) : (Instr.endRound b j).run P w = .ok (.bool j.isNone) (w.putObj b (.loop { r with state := if j.isNone then .ready else .done, pending := j })) := run_endRound j hm

theorem round_ok {ev : Ev} (hev : EvOk P ev) : RoundOk P (round ev) := by
  intro l as H hne μ w us b y z h hr hm
  have hne0 := hne
  unfold round at hne
  split at hne
  · rename_i p fn tmps params assign body ds hl
    rw [cond_beq] at hne
    split at hne
    · rename_i hlen
      obtain ⟨b', y', z', r, db, q1, q2, e1, e2, e3, e4, e5, e6, e7, e8, e9, e10⟩ := h.obj _ _ hl
      rw [hm] at e1; cases e1
      have hsz : (⟨us⟩ : Array Value).size = r.params.size := by
        have h1 := hr.length
        have h2 : r.params.size = params.length := by rw [← e6]; simp
        simp; omega
      refine ⟨r.fn, _, r.assign, r.body, run_yield e2 hsz, ?_⟩
      have hz : TsR μ ((params.zip as).foldl (fun t (x : Tmp × V) => t.put x.1 x.2) tmps) ((r.params.zip ⟨us⟩).foldl (fun tmps (t, a) => tmps.setIfInBounds t a) r.tmps) := by
        have := zip_put (ps := params) hr e5
        rw [← Array.foldl_toList, Array.toList_zip, e6]
        exact this
      refine roundIn_of_wpIn trivial ?_
      dsimp only at hne
      split at hne
      · rename_i a1 H1 he1
        rw [e7]
        refine hev (some l) assign _ H _ _ _ he1 μ w _ (some b) _ h ⟨hz, .nil⟩ (.within hm) ?_
        intro μ1 w1 x1 ex1 hp1 ha1 hx1
        cases hx1
        have hm1 := hp1.ext h _ _ hm
        split at hne
        · rename_i p1 fn1 tmps1 ps1 as1 bo1 ds1 hl1
          obtain ⟨b1, y1, z1, r1, db1, q11, q21, f1, f2, f3, f4, f5, f6, f7, f8, f9, f10⟩ := hp1.sim.obj _ _ hl1
          rw [hm1] at f1; cases f1
          refine ⟨_, run_beginRound f2 f3, ?_⟩
          have hpt : Post μ1 H1 w1 μ1 (H1.put l (.loop .busy p1 fn1 tmps1 ps1 as1 bo1 ds1)) (w1.putObj b (.loop { r1 with state := .busy })) := by
            have := turn_loop hp1.sim (st' := .busy) (p' := p1) hl1 hm1 f2
            rw [show ({ r1 with state := .busy } : Loop) = { r1 with state := .busy, pending := p1 } by rw [← f4]]
            exact this
          split at hne
          · rename_i e a2 H2 he2
            rw [e8]
            refine hev (some l) body _ _ _ _ _ he2 μ1 _ x1 (some b) _ hpt.sim ha1 (.within hm1) ?_
            intro μ2 w2 x2 ex2 hp2 ha2 hx2
            have hm2 := hp2.ext hpt.sim _ _ hm1
            have hall := (hp1.trans hpt).trans hp2
            split at hne
            · rename_i p2 fn2 tmps2 ps2 as2 bo2 ds2 hl2
              obtain ⟨b2, y2, z2, r2, db2, q12, q22, g1, g2, g3, g4, g5, g6, g7, g8, g9, g10⟩ := hp2.sim.obj _ _ hl2
              rw [hm2] at g1; cases g1
              have hrd : round ev l as H = roundOut H2 l fn2 tmps2 ps2 as2 bo2 ds2 e := by
                unfold round
                rw [hl]
                dsimp only
                rw [cond_beq, if_pos hlen, he1]
                dsimp only
                rw [hl1]
                dsimp only
                rw [he2]
                dsimp only
                rw [hl2]
                cases e <;> rfl
              rw [hrd]
              split at hne
              · cases hx2
                exact ⟨_, _, round_end g2, μ2, .bool true, hall.trans (turn_loop hp2.sim hl2 hm2 g2)⟩
              · cases hx2
                exact ⟨_, _, round_end g2, μ2, .bool false, hall.trans (turn_loop hp2.sim hl2 hm2 g2)⟩
              · cases hx2
                exact ⟨_, _, round_end g2, μ2, .bool false, hall.trans (turn_loop hp2.sim hl2 hm2 g2)⟩
              · exact absurd rfl hne
            · exact absurd rfl hne
          · exact absurd rfl hne
        · exact absurd rfl hne
      · exact absurd rfl hne
    · exact absurd rfl hne
  · exact absurd rfl hne
end Go.Am
