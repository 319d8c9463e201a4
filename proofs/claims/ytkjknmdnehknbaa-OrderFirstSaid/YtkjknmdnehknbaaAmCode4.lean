import Derived.Test.YtkjknmdnehknbaaAmCode3
import Derived.RangeFuncNested
set_option linter.unusedSimpArgs false
set_option linter.unusedVariables false
/- Code, all of it, but for the regions that draw. -/
namespace Go.Am
open Go

variable {P : Program} {T : Tab} {μ : Mu} {H : Heap} {w : World}

section
variable {F : Fence} {n : Nat} {Q : Exit → Act → World → Prop} {a : Act} {b : Frame} {k : List Item} {cs : List Frame}
theorem stepR_scope' {c : Code} : Go.step P (lone (b.atR a (.code (.scope c) :: k)) cs w) = .next (lone (b.atR a (.code c :: .inScope c :: k)) cs w) :=
  step_lone_go (by simp [stepG, stepG.exec, Frame.atR])
theorem stepR_inScope' {c : Code} : Go.step P (lone (b.atR a (.inScope c :: k)) cs w) = .next (lone (b.atR a k) cs w) :=
  step_lone_go (by simp [stepG, stepG.exec, Frame.atR])

theorem wpIn_scope' {c : Code} (h : c.wpIn F n P (Exit.noGoto Q) a w) : (Code.scope c).wpIn F n P Q a w := by
  intro b k cs hro hb hr
  have h0 : (lone (b.atR a (.code (.scope c) :: k)) cs w).fenced P F := fenced_calm hb hr rfl
  obtain ⟨e, a₁, w₁, hq, harr⟩ := h b (.inScope c :: k) cs hro hb hr
  have hx : ∀ id, exitTo id (.inScope c :: k) = exitTo id k := fun id => by simp [exitTo]
  cases e with
  | normal => exact ⟨.normal, a₁, w₁, hq, .head h0 stepR_scope' (StepsIn.trans harr (.one (fenced_calm hb hr rfl) stepR_inScope'))⟩
  | exit id => exact ⟨.exit id, a₁, w₁, hq, fun k' hk => .head h0 stepR_scope' (harr.1 k' (by rw [hx]; exact hk)),
        fun hr' hk => let ⟨k₁, h1, h2⟩ := harr.2 hr' (by rw [hx]; exact hk); ⟨k₁, h1, .head h0 stepR_scope' h2⟩⟩
  | goto l => exact hq.elim
  | ret => exact ⟨_, a₁, w₁, hq, .of_steps (.one h0 stepR_scope') harr⟩
  | panic ch => exact ⟨_, a₁, w₁, hq, .of_steps (.one h0 stepR_scope') harr⟩
  | outgrown => exact ⟨_, a₁, w₁, hq, .of_steps (.one h0 stepR_scope') harr⟩
end

/-- Regions that draw. -/
def DrawOk (P : Program) (T : Tab) (ev : Ev) (fuel : Nat) : Prop := ∀ (id : Nat) (ops : Array Oper) (a : A) (H : Heap) (a' : A) (H' : Heap), drawOk ops = true → H.clean ops.size = true →
  runDraw T ev fuel ops (Region.before ops) H.n (sched ops (Region.before ops)) [] a (H.keep ops.size) = some (a', H') →
  ∀ (μ : Mu) (w : World) (x : Act) (r : Option Nat) (Q : Exit → Act → World → Prop), Sim μ H w → AR μ a x →
    (∀ μ' w' x', Post μ H w μ' H' w' → AR μ' a' x' → Q .normal x' w') → (Code.region id ops true).wpIn (FW r) 0 P Q x w

theorem range_ok (hT : TabOk P T) {ev : Ev} {fuel : Nat} (hcall : CallOk P T (calls T ev fuel)) {f : Operand} {params : Array Tmp} {assign body : Code} {ρ : Option Nat} {a a' : A} {ex : Ex} {H' : Heap}
    (e : Am.step T ev fuel ρ (.rangeFunc f params assign body) a H = some (ex, a', H')) {x : Act} {r : Option Nat} {Q : Exit → Act → World → Prop} (h : Sim μ H w) (ha : AR μ a x) (hr : RhoR μ ρ r)
    (hQ : ∀ μ' w' x' e', Post μ H w μ' H' w' → AR μ' a' x' → ExR μ' ex e' → Q e' x' w') : (Code.rangeFunc f params assign body).wpIn (FW r) 0 P Q x w := by
  simp only [Am.step] at e
  split at e
  · cases e
  rename_i g hg
  split at e
  · cases e
  rename_i ds mark H1 hH1
  apply wpIn_rangeFunc
  intro fn _
  -- the record is laid
  have enter : ∃ (marks : List Deferred) (w0 : World) (rec : Loop) (μ0 : Mu), Post μ H w μ0 H1 w0 ∧ DRL μ0 mark marks ∧ (∃ db q1 q2, μ0 ds = some (db, q1, q2) ∧ rec.defers = db) ∧
      rec.state = .ready ∧ rec.pending = none ∧ rec.tmps = x.tmps ∧ rec.params = params ∧ rec.assign = assign ∧ rec.body = body ∧
      (Instr.enterLoop fn x.tmps params assign body r).run P w = .ok (w0.heap.size, marks) (w0.alloc (.loop rec)) := by
    cases hr with
    | out =>
      simp only [Option.some.injEq, Prod.mk.injEq] at hH1
      obtain ⟨rfl, rfl, rfl⟩ := hH1
      have hp : Post μ H w (upd μ H.n (w.heap.size, 0, 0)) (H.push (.deferred (some []))) (w.alloc (.deferred (some []))) :=
        Post.alloc h ⟨_, _, _, upd_same _ _ _, World.alloc_heap_new _ _, by simp⟩
      refine ⟨_, _, { state := .ready, pending := none, fn := fn, tmps := x.tmps, params := params, assign := assign, body := body, defers := w.heap.size }, _, hp, .cons (.collected (upd_same _ _ _)) .nil, ⟨_, _, _, upd_same _ _ _, rfl⟩, rfl, rfl, rfl, rfl, rfl, rfl, ?_⟩
      rw [run_enterLoop_outer]
      simp only [World.size_alloc]
    | within hm =>
      dsimp only at hH1
      split at hH1
      · rename_i st p fn0 tmps0 ps0 as0 bo0 ds0 hl
        simp only [Option.some.injEq, Prod.mk.injEq] at hH1
        obtain ⟨rfl, rfl, rfl⟩ := hH1
        obtain ⟨b', y', z', r', db, q1, q2, e1, e2, e3, e4, e5, e6, e7, e8, e9, e10⟩ := h.obj _ _ hl
        rw [hm] at e1; cases e1
        exact ⟨_, _, { state := .ready, pending := none, fn := fn, tmps := x.tmps, params := params, assign := assign, body := body, defers := r'.defers }, _, .refl h, .nil, ⟨_, _, _, e9, e10⟩, rfl, rfl, rfl, rfl, rfl, rfl, run_enterLoop_inner e2 fn x.tmps params assign body⟩
      · cases hH1
  obtain ⟨marks, w0, rec, μ0, hp0, hmk, ⟨db, q1, q2, hds, hrd⟩, r1, r2, r3, r4, r5, r6, hen⟩ := enter
  have ha0 := ha.mono (hp0.ext h)
  have hp1 : Post μ0 H1 w0 (upd μ0 H1.n (w0.heap.size, 0, 0)) (H1.push (.loop .ready none 0 a.tmps params.toList assign body ds)) (w0.alloc (.loop rec)) := by
    have hext := upd_ext hp0.sim (w0.heap.size, 0, 0)
    exact Post.alloc hp0.sim ⟨_, _, _, rec, db, q1, q2, upd_same _ _ _, World.alloc_heap_new _ _, r1, r2, by rw [r3]; exact ha0.tmps.mono hext, by rw [r4], r5, r6, hext _ _ hds, hrd⟩
  have hp01 := hp0.trans hp1
  have ha1 := ha0.mono (hp1.ext hp0.sim)
  split at e
  · rename_i k args hcl
    obtain ⟨first, captured, rfl, rfl⟩ := callee_call hcl
    have hv := ha1.eval hg
    generalize hq : x.eval f = q at hv
    cases hv with
    | func h1 h2 =>
    rename_i u1 u2
    have hyl : RVL (upd μ0 H1.n (w0.heap.size, 0, 0)) [.func (.yield H1.n) [] []] [.func (.yield w0.heap.size) #[] #[]] := .cons (.yield (upd_same _ _ _)) .nil
    have hargs := (h1.append hyl).append h2
    have hres := run_value_call (P := P) (w := w0.alloc (.loop rec)) (c := rangeCall f w0.heap.size) (g := f) (ty := 0) (us := [.func (.yield w0.heap.size) #[] #[]]) rfl hq (by simp [Act.eval])
    cases hpk : T.prim k with
    | some q => rw [hpk] at e; cases e
    | none =>
    rw [hpk] at e
    simp only [Option.isSome_none, cond_false] at e
    split at e
    · rename_i vr H2 hcr
      obtain ⟨hci, hcf⟩ := (hcall k _ _ (by rw [hcr]; simp) _ _ _ hp01.sim hargs).2 hpk
      rw [hcr] at hci
      refine ⟨w0.heap.size, marks, w0.alloc (.loop rec), { target := .fn (.func k) ⟨u2⟩, args := ⟨u1 ++ [Value.func (.yield w0.heap.size) #[] #[]]⟩ }, w0.alloc (.loop rec), k, ⟨u1 ++ [Value.func (.yield w0.heap.size) #[] #[]] ++ u2⟩, w0.alloc (.loop rec), hen, hres, fun _ _ => trivial, ?_, fun hh => by simp [FW] at hh, ?_⟩
      · simp only [invoke]
        rw [show (⟨u1 ++ [Value.func (.yield w0.heap.size) #[] #[]]⟩ : Array Value) ++ ⟨u2⟩ = ⟨u1 ++ [Value.func (.yield w0.heap.size) #[] #[]] ++ u2⟩ by apply Array.toList_inj.1; simp]
        exact hcf
      · refine (callsIn_fw hci).mono ?_
        intro en w2 hc
        cases en with
        | panicked ch => exact hc.elim
        | outgrown => exact hc.elim
        | returned u =>
        obtain ⟨μ2, _, hp2⟩ := hc
        have hm2 := hp2.ext hp01.sim _ _ (upd_same μ0 H1.n (w0.heap.size, 0, 0))
        split at e
        · rename_i st p fn2 tmps2 ps2 as2 bo2 ds2 hl2
          obtain ⟨b', y', z', r', db', q1', q2', e1, e2, e3, e4, e5, e6, e7, e8, e9, e10⟩ := hp2.sim.obj _ _ hl2
          rw [hm2] at e1; cases e1
          have hsb : st ≠ .busy := by rintro rfl; simp at e
          replace e : (match (generalizing := false) p with
                | none => some (Ex.normal, (⟨a.tmps, mark ++ a.defers⟩ : A), H2.put H1.n (.loop .exhausted p fn2 tmps2 ps2 as2 bo2 ds2))
                | some .ret => some (.ret, ⟨a.tmps, mark ++ a.defers⟩, H2.put H1.n (.loop .exhausted p fn2 tmps2 ps2 as2 bo2 ds2))
                | some (.exit id) => some (.exit id, ⟨a.tmps, mark ++ a.defers⟩, H2.put H1.n (.loop .exhausted p fn2 tmps2 ps2 as2 bo2 ds2))
                | some _ => none) = some (ex, a', H') := by
            cases st <;> first | exact absurd rfl hsb | exact e
          have hnb : r'.state ≠ .busy := by rw [e3]; exact hsb
          have hend := run_endLoop (P := P) e2 hnb
          have hp3 : Post μ2 H2 w2 μ2 (H2.put H1.n (.loop .exhausted p fn2 tmps2 ps2 as2 bo2 ds2)) (w2.putObj w0.heap.size (.loop { r' with state := .exhausted })) := by
            have := turn_loop hp2.sim (st' := .exhausted) (p' := p) hl2 hm2 e2
            rw [show ({ r' with state := .exhausted } : Loop) = { r' with state := .exhausted, pending := p } by rw [← e4]]
            exact this
          have hall := (hp01.trans hp2).trans hp3
          have ha' : AR μ2 ⟨a.tmps, mark ++ a.defers⟩ { x with defers := marks ++ x.defers } := by
            have ext2 := (hp2.trans hp3).ext hp01.sim
            refine ⟨(ha1.tmps.mono ext2), DRL.append ?_ (ha1.defers.mono ext2)⟩
            exact (hmk.mono (hp1.ext hp0.sim)).mono ext2
          refine ⟨_, _, hend, ?_⟩
          rw [e4] at hall ⊢
          split at e
          · cases e
            exact hQ _ _ _ _ hall ha' .normal
          · cases e
            exact wpIn_ret (hQ _ _ _ _ hall ha' .ret)
          · cases e
            exact wpIn_exit (hQ _ _ _ _ hall ha' (.exit _))
          · cases e
        · cases e
    · cases e
  · cases e

theorem seq_ok {ev : Ev} (hev : EvOk P ev) {y z : Code} {ρ : Option Nat} {a a' : A} {ex : Ex} {H' : Heap}
    (e : (match ev ρ y a H with
      | some (.normal, a', H') => ev ρ z a' H'
      | r => r) = some (ex, a', H')) {x : Act} {r : Option Nat} {Q : Exit → Act → World → Prop} (h : Sim μ H w) (ha : AR μ a x) (hr : RhoR μ ρ r)
    (hQ : ∀ μ' w' x' e', Post μ H w μ' H' w' → AR μ' a' x' → ExR μ' ex e' → Q e' x' w') : (Code.seq y z).wpIn (FW r) 0 P Q x w := by
  apply wpIn_seq
  split at e
  · rename_i a1 H1 h1
    refine hev ρ y a H _ _ _ h1 μ w x r _ h ha hr ?_
    intro μ1 w1 x1 e1 hp1 ha1 he1
    cases he1
    refine hev ρ z a1 H1 _ _ _ e μ1 w1 x1 r _ hp1.sim ha1 (hr.mono (hp1.ext h)) ?_
    intro μ2 w2 x2 e2 hp2 ha2 he2
    exact hQ μ2 w2 x2 e2 (hp1.trans hp2) ha2 he2
  · rename_i hn
    refine hev ρ y a H _ _ _ e μ w x r _ h ha hr ?_
    intro μ1 w1 x1 e1 hp1 ha1 he1
    have hq := hQ μ1 w1 x1 e1 hp1 ha1 he1
    cases he1 with
    | normal => exact absurd e (hn _ _)
    | exit id => exact hq
    | goto l => exact hq
    | ret => exact hq
    | panic hv => exact hq

theorem loop_ok {N : Nat} (ih : ∀ k, k ≤ N → EvOk P (ev T k)) {r : Option Nat} {Q : Exit → Act → World → Prop} {b : Code} {ρ : Option Nat} {ex : Ex} {a' : A} {H' : Heap} :
    ∀ (k : Nat), k ≤ N + 1 → ∀ (a : A) (H : Heap), ev T k ρ (.loop b) a H = some (ex, a', H') → ∀ (μ : Mu) (w : World) (x : Act), Sim μ H w → AR μ a x → RhoR μ ρ r →
    (∀ μ' w' x' e', Post μ H w μ' H' w' → AR μ' a' x' → ExR μ' ex e' → Q e' x' w') → ∀ (fr : Frame) (kk : List Item) (cs : List Frame), fr.roundOf = r →
    ∃ e x' w', Q e x' w' ∧ ArrivesIn (Machine.fenced P (FW r)) P (lone (fr.atR x (.code b :: .inLoop b :: kk)) cs w) fr kk cs e x' w' := by
  intro k
  induction k with
  | zero => intro _ a H e; simp [ev] at e
  | succ k ihk =>
    intro hk a H e μ w x h ha hr hQ fr kk cs hfr
    rw [ev, Am.step] at e
    have hb := ih k (by omega)
    split at e
    · rename_i a1 H1 h1
      obtain ⟨e1, x1, w1, ⟨he1, μ1, hp1, ha1⟩, harr⟩ := hb ρ b a H _ _ _ h1 μ w x r (fun e1 x1 w1 => e1 = .normal ∧ ∃ μ1, Post μ H w μ1 H1 w1 ∧ AR μ1 a1 x1) h ha hr
        (fun μ1 w1 x1 e1 hp1 ha1 he1 => by cases he1; exact ⟨rfl, μ1, hp1, ha1⟩) fr (.inLoop b :: kk) cs hfr trivial (fw_room _ _)
      subst he1
      obtain ⟨e2, x2, w2, hq, harr2⟩ := ihk (by omega) a1 H1 e μ1 w1 x1 hp1.sim ha1 (hr.mono (hp1.ext h)) (fun μ2 w2 x2 e2 hp2 ha2 he2 => hQ μ2 w2 x2 e2 (hp1.trans hp2) ha2 he2) fr kk cs hfr
      exact ⟨e2, x2, w2, hq, .of_steps (StepsIn.trans harr (.one (fenced_calm (F := FW r) (n := 0) trivial (fw_room _ _) rfl) stepR_inLoop)) harr2⟩
    · rename_i hn
      obtain ⟨e1, x1, w1, ⟨hne, hq⟩, harr⟩ := hb ρ b a H _ _ _ e μ w x r (fun e1 x1 w1 => e1 ≠ .normal ∧ Q e1 x1 w1) h ha hr
        (fun μ1 w1 x1 e1 hp1 ha1 he1 => by
          refine ⟨?_, hQ μ1 w1 x1 e1 hp1 ha1 he1⟩
          rintro rfl
          cases he1
          exact hn _ _ e) fr (.inLoop b :: kk) cs hfr trivial (fw_room _ _)
      exact ⟨e1, x1, w1, hq, .pass (x := .inLoop b) rfl (fun _ _ => .inl hne) harr⟩

theorem ev_ok (hT : TabOk P T) (hP : PrimOk P T) (hD : ∀ (ev : Ev) (fuel : Nat), CallOk P T (calls T ev fuel) → RoundOk P (round ev) → DrawOk P T ev fuel) : ∀ n, EvOk P (ev T n) := by
  intro n
  induction n using Nat.strongRecOn with
  | _ n ih =>
  cases n with
  | zero => intro ρ c a H ex a' H' e; simp [ev] at e
  | succ n =>
  have hev := ih n (by omega)
  have hcall := calls_ok hT hP hev (fuel := n)
  have hround := round_ok hev
  intro ρ c a H ex a' H' e μ w x r Q h ha hr hQ
  have e0 := e
  rw [ev] at e
  have e1 := e
  unfold Am.step at e
  split at e
  · cases e; exact wpIn_skip (hQ _ _ _ _ (.refl h) ha .normal)
  · cases e; exact wpIn_label (hQ _ _ _ _ (.refl h) ha .normal)
  · cases e; exact wpIn_ret (hQ _ _ _ _ (.refl h) ha .ret)
  · cases e; exact wpIn_exit (hQ _ _ _ _ (.refl h) ha (.exit _))
  · exact seq_ok hev e h ha hr hQ
  · rename_i cnd y z
    split at e
    · rename_i hc
      have hv := ha.eval hc
      generalize hq : x.eval cnd = q at hv
      cases hv
      exact wpIn_cond_true hq (hev ρ y a H _ _ _ e μ w x r Q h ha hr hQ)
    · rename_i hc
      have hv := ha.eval hc
      generalize hq : x.eval cnd = q at hv
      cases hv
      exact wpIn_cond_false hq (hev ρ z a H _ _ _ e μ w x r Q h ha hr hQ)
    · cases e
  · rename_i id b
    apply wpIn_block
    split at e
    · rename_i j a1 H1 h1
      rw [cond_beq] at e
      split at e
      · rename_i hj
        cases e
        refine hev ρ b a H _ _ _ h1 μ w x r _ h ha hr ?_
        intro μ1 w1 x1 e1 hp1 ha1 he1
        cases he1
        simp only [Exit.inBlock, hj, if_true]
        exact hQ μ1 w1 x1 _ hp1 ha1 .normal
      · rename_i hj
        cases e
        refine hev ρ b a H _ _ _ h1 μ w x r _ h ha hr ?_
        intro μ1 w1 x1 e1 hp1 ha1 he1
        cases he1
        simp only [Exit.inBlock, if_neg hj]
        exact hQ μ1 w1 x1 _ hp1 ha1 (.exit _)
    · rename_i hn
      refine hev ρ b a H _ _ _ e μ w x r _ h ha hr ?_
      intro μ1 w1 x1 e1 hp1 ha1 he1
      have hq := hQ μ1 w1 x1 e1 hp1 ha1 he1
      cases he1 with
      | normal => exact hq
      | exit id => exact absurd e (hn _ _ _)
      | goto l => exact hq
      | ret => exact hq
      | panic hv => exact hq
  · rename_i b
    intro fr kk cs hro hb hroom
    obtain ⟨e', x', w', hq, harr⟩ := loop_ok (P := P) (T := T) (N := n) (fun k hk => ih k (by omega)) (n + 1) (Nat.le_refl _) a H e0 μ w x h ha hr hQ fr kk cs hro
    exact ⟨e', x', w', hq, .of_steps (.one (fenced_calm hb hroom rfl) stepR_loop) harr⟩
  · rename_i b
    apply wpIn_scope'
    split at e
    · cases e
    · rename_i hn
      refine hev ρ b a H _ _ _ e μ w x r _ h ha hr ?_
      intro μ1 w1 x1 e1 hp1 ha1 he1
      have hq := hQ μ1 w1 x1 e1 hp1 ha1 he1
      cases he1 with
      | normal => exact hq
      | exit id => exact hq
      | goto l => exact absurd e (hn _ _ _)
      | ret => exact hq
      | panic hv => exact hq
  · exact wpIn_region (runOps_ok hT hcall hround _ _ _ _ _ _ e μ w x r Q h ha hr hQ)
  · rename_i id ops
    cases hc : (drawOk ops && H.clean ops.size) with
    | false => rw [hc] at e; cases e
    | true =>
      rw [hc] at e
      simp only [cond_true] at e
      rw [Bool.and_eq_true] at hc
      split at e
      · rename_i a1 H1 h1
        cases e
        exact hD (ev T n) n hcall hround id ops a H _ _ hc.1 hc.2 h1 μ w x r Q h ha fun μ1 w1 x1 hp1 ha1 => hQ μ1 w1 x1 _ hp1 ha1 .normal
      · cases e
  · exact range_ok hT hcall e1 h ha hr hQ
  · cases e
end Go.Am
