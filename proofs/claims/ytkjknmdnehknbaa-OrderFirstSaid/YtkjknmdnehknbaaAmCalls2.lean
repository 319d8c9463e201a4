import Derived.Test.YtkjknmdnehknbaaAmCalls
set_option linter.unusedSimpArgs false
set_option linter.unusedVariables false
/- Which function a call leads to. -/
namespace Go.Am
open Go

variable {P : Program} {T : Tab} {μ : Mu} {H : Heap} {w : World}

theorem exec_call_eq {ρ : Operand → Value} {o : Oper} {c : Call} (ho : o.op = .call c) : Go.execOp ρ o = (do let d ← resolve ρ c o.type; invoke d.target d.args) := by
  unfold Go.execOp; rw [ho]

theorem run_callFunc (hT : TabOk P T) {f : FuncId} {fn : Func} {c : Code} (hf : T.func f = some fn) (hb : fn.body = some c) (us : Array Value) : (callFunc f us).run P w = .ok (.enter f us) w := by
  obtain ⟨h1, h2⟩ := hT.func _ _ hf
  simp only [callFunc, Sem.run_bind, run_program, Result.andThen_ok, h1, h2, hb, Bool.false_eq_true, if_false, Option.isNone_some, Sem.run_pure]

theorem evals_run {a : A} {x : Act} (ha : AR μ a x) {c : Call} {args : List V} (he : evals a c.args.toList = some args) : ∃ us : List Value, RVL μ args us ∧ c.args.map x.eval = ⟨us⟩ := by
  have := ha.evals he
  exact ⟨_, this, by apply Array.toList_inj.1; simp⟩

theorem callee_call {f : V} {args : List V} {g : FuncId} {as : List V} (e : callee f args = .call g as) : ∃ first captured, f = .func (.func g) first captured ∧ as = first ++ args ++ captured := by
  unfold callee at e
  split at e
  · cases e; exact ⟨_, _, rfl, rfl⟩
  · cases e
  · cases e
theorem callee_round {f : V} {args : List V} {l : Nat} {as : List V} (e : callee f args = .round l as) : f = .func (.yield l) [] [] ∧ as = args := by
  unfold callee at e
  split at e
  · cases e
  · cases e; exact ⟨rfl, rfl⟩
  · cases e

theorem run_value_call {ρ : Operand → Value} {c : Call} {g : Operand} {ty : TypeId} {f : FuncId} {first captured us : List Value} (hc : c.callee = .value g) (hg : ρ g = .func (.func f) ⟨first⟩ ⟨captured⟩) (hargs : c.args.map ρ = ⟨us⟩) :
    (resolve ρ c ty).run P w = .ok { target := .fn (.func f) ⟨captured⟩, args := ⟨first ++ us⟩ } w := by
  unfold resolve
  rw [hc, hargs]
  simp [Deferred.ofValue, hg]

theorem run_wrap (xt : TypeId) (ad : Addr) (s m : ByteArray) : (Builtin.ssaWrapNilChk_ #[xt] xt #[.pointer (some ad), .string s, .string m]).run P w = .ok (.pointer (some ad)) w := rfl

/-- Where a receiver is. -/
inductive PlR (μ : Mu) : Pl → Place → Prop
  | val {v : V} {u : Value} (h : RV μ v u) : PlR μ (.val v) (.val u)
  | var {l o b base tot : Nat} (h : μ l = some (b, base, tot)) : PlR μ (.var l o) (.var ⟨b, base + o, none⟩)

theorem run_place (hT : TabOk P T) (h : Sim μ H w) {t : TypeId} {x : Pl} {X : Place} {v : V} (hx : PlR μ x X) (e : x.get T H t = some v) : ∃ u, (X.get t).run P w = .ok u w ∧ RV μ v u := by
  cases hx with
  | val hv =>
    simp only [Pl.get, Option.some.injEq] at e; subst e
    exact ⟨_, by simp [Place.get], hv⟩
  | var hm =>
    obtain ⟨u, hr, hv⟩ := run_loadVar (P := P) hT h e hm
    exact ⟨u, by simpa [Place.get] using hr, hv⟩

theorem run_fieldPlace (hT : TabOk P T) {f : Field} {n bs b off : Nat} (hs : T.size f.type = some (n, bs)) (hn : ¬ n = 0) : (fieldPlace ⟨b, off, none⟩ f).run P w = .ok ⟨b, off + f.offset, none⟩ w := by
  obtain ⟨i, hi, h1, _⟩ := hT.size _ _ _ hs
  have : ¬ i.size = 0 := by omega
  simp [fieldPlace, run_size hi, this, add_eq]

theorem run_follow (hT : TabOk P T) (h : Sim μ H w) : ∀ (path : List FieldStep) (t : TypeId) (x : Pl) (X : Place) (r : TypeId × Pl), PlR μ x X → follow T H path t x = some r → ∃ Y, (Go.follow path t X).run P w = .ok (r.1, Y) w ∧ PlR μ r.2 Y
  | [], t, x, X, r, hx, e => by
    simp only [Am.follow, Option.some.injEq] at e; subst e
    exact ⟨X, by simp [Go.follow], hx⟩
  | s :: rest, t, x, X, r, hx, e => by
    unfold Am.follow at e
    split at e
    · rename_i fs hu
      split at e
      · rename_i f hf
        split at e
        · rename_i n bs hs
          rw [cond_beq] at e
          split at e
          · cases e
          rename_i hn
          cases hd : s.deref with
          | true =>
            rw [hd] at e
            dsimp only at e
            split at e
            · rename_i l o hg
              obtain ⟨u, hr, hv⟩ := run_place (P := P) hT h hx hg
              cases hv with
              | ptr hm =>
              obtain ⟨Y, h1, h2⟩ := run_follow hT h rest f.type _ _ r (.var (o := o + f.offset) hm) e
              refine ⟨Y, ?_, h2⟩
              rw [← Nat.add_assoc] at h1
              simp [Go.follow, run_und (hT.und _ _ hu), hf, hd, hr, asAddr, run_fieldPlace hT hs hn, h1]
            · cases e
          | false =>
            rw [hd] at e
            dsimp only at e
            split at e
            · rename_i l o
              cases hx with
              | var hm =>
              obtain ⟨Y, h1, h2⟩ := run_follow hT h rest f.type _ _ r (.var (o := o + f.offset) hm) e
              refine ⟨Y, ?_, h2⟩
              rw [← Nat.add_assoc] at h1
              simp [Go.follow, run_und (hT.und _ _ hu), hf, hd, run_fieldPlace hT hs hn, h1]
            · rename_i cs
              split at e
              · rename_i v hp
                cases hx with
                | val hv =>
                cases hv with
                | agg hv =>
                obtain ⟨u, hr, hv'⟩ := run_part (P := P) (w := w) hT hv hp
                obtain ⟨Y, h1, h2⟩ := run_follow hT h rest f.type _ _ r (.val hv') e
                refine ⟨Y, ?_, h2⟩
                simp [Go.follow, run_und (hT.und _ _ hu), hf, hd, hr, h1]
              · cases e
            · cases e
        · cases e
      · cases e
    · cases e

theorem run_receiver (hT : TabOk P T) (h : Sim μ H w) {t : TypeId} {x : Pl} {X : Place} {p : Bool} {y : V} (hx : PlR μ x X) (e : receiver T H t x p = some y) (wr : Option String) : ∃ u, (receiverAt t X p wr).run P w = .ok u w ∧ RV μ y u := by
  unfold receiver at e
  split at e
  · rename_i el hd
    split at e
    · obtain ⟨u, hr, hv⟩ := run_place (P := P) hT h hx e
      exact ⟨u, by simp [receiverAt, run_und (hT.und _ _ hd), hr], hv⟩
    · split at e
      · rename_i l o hg
        obtain ⟨u, hr, hv⟩ := run_place (P := P) hT h hx hg
        cases hv with
        | ptr hm =>
        obtain ⟨u', hr', hv'⟩ := run_loadVar (P := P) hT h e hm
        refine ⟨u', ?_, hv'⟩
        cases wr with
        | none => simp [receiverAt, run_und (hT.und _ _ hd), hr, asAddr, hr']
        | some name => simp [receiverAt, run_und (hT.und _ _ hd), hr, strVal, run_wrap, asAddr, hr']
      · cases e
  · rename_i d hn hd
    split at e
    · rename_i l o
      cases e
      cases hx with
      | var hm =>
      refine ⟨_, ?_, .ptr hm⟩
      unfold receiverAt
      rw [Sem.run_bind, run_und (hT.und _ _ hd), Result.andThen_ok]
      cases d <;> first | exact absurd rfl (hn _) | simp
    · obtain ⟨u, hr, hv⟩ := run_place (P := P) hT h hx e
      refine ⟨u, ?_, hv⟩
      unfold receiverAt
      rw [Sem.run_bind, run_und (hT.und _ _ hd), Result.andThen_ok]
      cases d <;> first | exact absurd rfl (hn _) | simpa using hr
    · cases e
  · cases e

theorem run_method (hT : TabOk P T) (h : Sim μ H w) {t : TypeId} {name : String} {path : List FieldStep} {f : FuncId} {p : Bool} {v y : V} {u : Value} {r : TypeId × Pl} (hv : RV μ v u) (hm : T.meth t name = some (path, f, p))
    (hf : follow T H path t (.val v) = some r) (hy : receiver T H r.1 r.2 p = some y) (n : Nat) :
    ∃ u', (method (n + 1) t u name).run P w = .ok (f, u') w ∧ RV μ y u' := by
  obtain ⟨i, m, hi, hfi, hp, hmf⟩ := hT.meth _ _ _ _ _ hm
  obtain ⟨Y, h1, h2⟩ := run_follow (P := P) hT h path t (.val v) (.val u) r (.val hv) hf
  rw [← hp] at h1
  obtain ⟨u', h3, h4⟩ := run_receiver (P := P) hT h h2 hy (if m.path.isEmpty then some ((name.splitOn ".").getLastD name) else none)
  refine ⟨u', ?_, h4⟩
  simp only [method, Sem.run_bind, run_info hi, Result.andThen_ok, hfi, h1, hmf, h3, Sem.run_pure]

theorem invoked_call {r : V} {name : String} {args as : List V} {f : FuncId} (e : invoked T H r name args = .call f as) : ∃ t v path p q y, r = .iface t v ∧ T.meth t name = some (path, f, p) ∧ follow T H path t (.val v) = some q ∧ receiver T H q.1 q.2 p = some y ∧ as = y :: args := by
  unfold invoked at e
  split at e
  · rename_i t v
    split at e
    · rename_i path f' p hm
      split at e
      · rename_i xt x hf
        split at e
        · rename_i y hy
          cases e
          exact ⟨t, v, path, p, (xt, x), y, rfl, hm, hf, hy, rfl⟩
        · cases e
      · cases e
    · cases e
  · cases e
theorem invoked_kind {r : V} {name : String} {args : List V} {q : OR} (e : invoked T H r name args = q) : q = .stuck ∨ ∃ f as, q = .call f as := by
  subst e
  unfold invoked
  repeat' split
  all_goals first | exact .inl rfl | exact .inr ⟨_, _, rfl⟩
theorem callee_kind {f : V} {args : List V} {q : OR} (e : callee f args = q) : q = .stuck ∨ (∃ f as, q = .call f as) ∨ ∃ l as, q = .round l as := by
  subst e
  unfold callee
  repeat' split
  all_goals first | exact .inl rfl | exact .inr (.inl ⟨_, _, rfl⟩) | exact .inr (.inr ⟨_, _, rfl⟩)

theorem callOp_val (hT : TabOk P T) (h : Sim μ H w) {a : A} {x : Act} (ha : AR μ a x) {o : Oper} {c : Call} (ho : o.op = .call c) {v : V} {H' : Heap} (e : callOp T a H c = .val v H') : Made P μ H w (Go.execOp x.eval o) v H' := by
  rw [exec_call_eq ho]
  unfold callOp at e
  split at e
  · cases e
  rename_i args hargs
  obtain ⟨us, hr, hus⟩ := evals_run ha hargs
  split at e
  · rename_i b hc
    have hb := builtin_val (P := P) (cs := c.args.map fun | .const _ => true | _ => false) (ty := o.type) hT h hr e
    obtain ⟨u, w', μ', h1, h2, h3⟩ := hb
    refine ⟨u, w', μ', ?_, h2, h3⟩
    simp only [resolve, hc, hus, Sem.run_bind, Sem.run_pure, Result.andThen_ok, invoke]
    exact h1
  · split at e
    · rcases invoked_kind e with h0 | ⟨f, as, h0⟩ <;> cases h0
    · cases e
  · split at e
    · rcases callee_kind e with h0 | ⟨f, as, h0⟩ | ⟨l, as, h0⟩ <;> cases h0
    · cases e

theorem callOp_call (hT : TabOk P T) (h : Sim μ H w) {a : A} {x : Act} (ha : AR μ a x) {o : Oper} {c : Call} (ho : o.op = .call c) {f : FuncId} {as : List V} (e : callOp T a H c = .call f as) :
    ∃ us, RVL μ as us ∧ (Go.execOp x.eval o).run P w = (callFunc f ⟨us⟩).run P w := by
  rw [exec_call_eq ho]
  unfold callOp at e
  split at e
  · cases e
  rename_i args hargs
  obtain ⟨us, hr, hus⟩ := evals_run ha hargs
  split at e
  · rcases builtin_kind e with h0 | h0 | ⟨v, H', h0⟩ <;> cases h0
  · rename_i r name hc
    split at e
    · rename_i rv hrv
      obtain ⟨t, v, path, p, q, y, rfl, hm, hf, hy, rfl⟩ := invoked_call e
      have hv := ha.eval hrv
      generalize hq : x.eval r = q' at hv
      cases hv with
      | iface hv =>
      rename_i uv
      have hfuel : P.types.size + Made.depth = (P.types.size + 99) + 1 := rfl
      obtain ⟨u', hmr, hv'⟩ := run_method (P := P) hT h hv hm hf hy (P.types.size + 99)
      refine ⟨u' :: us, .cons hv' hr, ?_⟩
      simp only [resolve, hc, hus, Sem.run_bind, Sem.run_pure, Result.andThen_ok, invoke, hq]
      simp [callMethod, hfuel, hmr]
    · cases e
  · rename_i g hc
    split at e
    · rename_i fv hfv
      obtain ⟨first, captured, rfl, rfl⟩ := callee_call e
      have hv := ha.eval hfv
      generalize hq : x.eval g = q at hv
      cases hv with
      | func h1 h2 =>
      rename_i u1 u2
      refine ⟨u1 ++ us ++ u2, (h1.append hr).append h2, ?_⟩
      rw [Sem.run_bind, run_value_call hc hq hus, Result.andThen_ok]
      simp [invoke]
    · cases e

theorem callOp_round (hT : TabOk P T) (h : Sim μ H w) {a : A} {x : Act} (ha : AR μ a x) {o : Oper} {c : Call} (ho : o.op = .call c) {l : Nat} {as : List V} (e : callOp T a H c = .round l as) :
    ∃ us b y z, RVL μ as us ∧ μ l = some (b, y, z) ∧ (Go.execOp x.eval o).run P w = (Instr.yield b ⟨us⟩).run P w := by
  rw [exec_call_eq ho]
  unfold callOp at e
  split at e
  · cases e
  rename_i args hargs
  obtain ⟨us, hr, hus⟩ := evals_run ha hargs
  split at e
  · rcases builtin_kind e with h0 | h0 | ⟨v, H', h0⟩ <;> cases h0
  · split at e
    · rcases invoked_kind e with h0 | ⟨f, as, h0⟩ <;> cases h0
    · cases e
  · rename_i g hc
    split at e
    · rename_i fv hfv
      obtain ⟨rfl, rfl⟩ := callee_round e
      have hv := ha.eval hfv
      generalize hq : x.eval g = q at hv
      cases hv with
      | yield hm =>
      refine ⟨us, _, _, _, hr, hm, ?_⟩
      simp [resolve, hc, hus, Deferred.ofValue, hq, invoke]
    · cases e

/-- Every operation that makes a value. -/
theorem exec_made (hT : TabOk P T) (h : Sim μ H w) {a : A} {x : Act} (ha : AR μ a x) {o : Oper} {v : V} {H' : Heap} (e : execOp T a H o.op = .val v H') : Made P μ H w (Go.execOp x.eval o) v H' := by
  by_cases hc : ∃ c, o.op = .call c
  · obtain ⟨c, ho⟩ := hc
    rw [ho] at e
    exact callOp_val hT h ha ho e
  · exact exec_val hT h ha (fun c ho => hc ⟨c, ho⟩) e

def OR.quiet : OR → Prop
  | .val _ _ | .stuck => True
  | _ => False
theorem op1_quiet {a : A} {x : Operand} {k : V → OR} (h : ∀ v, (k v).quiet) : (op1 a x k).quiet := by
  unfold op1; split
  · exact h _
  · trivial
theorem ofV_quiet (H : Heap) (v : Option V) : (OR.ofV H v).quiet := by cases v <;> trivial
theorem ofH_quiet (H : Option Heap) : (OR.ofH H).quiet := by cases H <;> trivial
theorem ofVH_quiet (v : Option (V × Heap)) : (OR.ofVH v).quiet := by cases v <;> trivial
theorem cond_quiet {b : Bool} {x y : OR} (hx : x.quiet) (hy : y.quiet) : (cond b x y).quiet := by cases b <;> assumption

theorem exec_quiet {a : A} {o : Op} (hc : ∀ c, o ≠ .call c) (hd : ∀ c, o ≠ .defer c) (hp : ∀ x, o ≠ .panic x) : (execOp T a H o).quiet := by
  cases o
  case call c => exact absurd rfl (hc c)
  case defer c => exact absurd rfl (hd c)
  case panic c => exact absurd rfl (hp c)
  case makeMap t r =>
    cases r with
    | none => exact trivial
    | some x =>
      simp only [Am.execOp]
      refine op1_quiet fun v => ?_
      split <;> trivial
  all_goals
    simp only [Am.execOp]
    repeat' first
      | exact trivial
      | exact ofV_quiet _ _
      | exact ofH_quiet _
      | exact ofVH_quiet _
      | refine cond_quiet ?_ ?_
      | (refine op1_quiet fun v => ?_)
      | split

theorem defer_kind {a : A} {c : Call} {q : OR} (e : execOp T a H (.defer c) = q) : q = .stuck ∨ ∃ d, q = .defer d := by
  subst e
  simp only [Am.execOp]
  repeat' split
  all_goals first | exact .inl rfl | exact .inr ⟨_, rfl⟩
theorem panic_kind {a : A} {x : Operand} {q : OR} (e : execOp T a H (.panic x) = q) : q = .stuck ∨ ∃ d, q = .panic d := by
  subst e
  simp only [Am.execOp, op1]
  repeat' split
  all_goals first | exact .inl rfl | exact .inr ⟨_, rfl⟩
theorem call_kind {a : A} {c : Call} {q : OR} (e : callOp T a H c = q) : q = .stuck ∨ q = .recover ∨ (∃ v H', q = .val v H') ∨ (∃ f as, q = .call f as) ∨ ∃ l as, q = .round l as := by
  unfold callOp at e
  split at e
  · exact .inl e.symm
  · split at e
    · rcases builtin_kind e with h | h | h
      · exact .inl h
      · exact .inr (.inl h)
      · exact .inr (.inr (.inl h))
    · split at e
      · rcases invoked_kind e with h | h
        · exact .inl h
        · exact .inr (.inr (.inr (.inl h)))
      · exact .inl e.symm
    · split at e
      · rcases callee_kind e with h | h | h
        · exact .inl h
        · exact .inr (.inr (.inr (.inl h)))
        · exact .inr (.inr (.inr (.inr h)))
      · exact .inl e.symm

theorem exec_kind {a : A} {o : Op} {q : OR} (e : execOp T a H o = q) (hq : ¬ q.quiet) : (∃ c, o = .call c ∧ callOp T a H c = q) ∨ (∃ c, o = .defer c) ∨ ∃ x, o = .panic x := by
  by_cases hc : ∃ c, o = .call c
  · obtain ⟨c, rfl⟩ := hc; exact .inl ⟨c, rfl, e⟩
  · by_cases hd : ∃ c, o = .defer c
    · exact .inr (.inl hd)
    · by_cases hp : ∃ x, o = .panic x
      · exact .inr (.inr hp)
      · exact absurd (e ▸ exec_quiet (T := T) (H := H) (a := a) (o := o) (fun c h => hc ⟨c, h⟩) (fun c h => hd ⟨c, h⟩) (fun c h => hp ⟨c, h⟩)) hq
theorem exec_is_call {a : A} {o : Op} {f : FuncId} {as : List V} (e : execOp T a H o = .call f as) : ∃ c, o = .call c ∧ callOp T a H c = .call f as := by
  rcases exec_kind e (fun h => h) with h | ⟨c, rfl⟩ | ⟨x, rfl⟩
  · exact h
  · rcases defer_kind e with h | ⟨d, h⟩ <;> cases h
  · rcases panic_kind e with h | ⟨d, h⟩ <;> cases h
theorem exec_is_round {a : A} {o : Op} {l : Nat} {as : List V} (e : execOp T a H o = .round l as) : ∃ c, o = .call c ∧ callOp T a H c = .round l as := by
  rcases exec_kind e (fun h => h) with h | ⟨c, rfl⟩ | ⟨x, rfl⟩
  · exact h
  · rcases defer_kind e with h | ⟨d, h⟩ <;> cases h
  · rcases panic_kind e with h | ⟨d, h⟩ <;> cases h

theorem exec_panic {a : A} {x : Act} (ha : AR μ a x) {o : Oper} {v : V} (e : execOp T a H o.op = .panic v) : ∃ t z u, v = .iface t z ∧ RV μ v u ∧ (Go.execOp x.eval o).run P w = .halt (.panic u) w := by
  rcases exec_kind e (fun h => h) with ⟨c, _, h⟩ | ⟨c, hc⟩ | ⟨y, ho⟩
  · rcases call_kind h with h | h | ⟨_, _, h⟩ | ⟨_, _, h⟩ | ⟨_, _, h⟩ <;> cases h
  · rw [hc] at e
    rcases defer_kind e with h | ⟨d, h⟩ <;> cases h
  · rw [ho] at e
    simp only [Am.execOp] at e
    obtain ⟨u, h1, e0⟩ := op1_inv e (by simp)
    split at e0
    · rename_i t z
      cases e0
      have hv := ha.eval h1
      refine ⟨t, z, _, rfl, hv, ?_⟩
      unfold Go.execOp
      rw [ho]
      generalize hq : x.eval y = q at hv
      cases hv with
      | iface hv => simp [Instr.panic, hq]
    · cases e0

theorem exec_defer {a : A} {x : Act} (ha : AR μ a x) {o : Oper} {d : D} (e : execOp T a H o.op = .defer d) : ∃ df, DR μ d df ∧ (Go.execOp x.eval o).run P w = .ok (.defer df) w := by
  have key : ∃ c, o.op = .defer c ∧ execOp T a H (.defer c) = .defer d := by
    rcases exec_kind e (fun h => h) with ⟨c, _, h⟩ | ⟨c, hc⟩ | ⟨y, ho⟩
    · rcases call_kind h with h | h | ⟨_, _, h⟩ | ⟨_, _, h⟩ | ⟨_, _, h⟩ <;> cases h
    · exact ⟨c, hc, hc ▸ e⟩
    · rw [ho] at e
      rcases panic_kind e with h | ⟨d, h⟩ <;> cases h
  obtain ⟨c, ho, e⟩ := key
  simp only [Am.execOp] at e
  split at e
  · rename_i g args hc hargs
    obtain ⟨us, hr, hus⟩ := evals_run ha hargs
    split at e
    · rename_i f first captured hg
      cases e
      have hv := ha.eval hg
      generalize hq : x.eval g = q at hv
      cases hv with
      | func h1 h2 =>
      rename_i u1 u2
      refine ⟨{ target := .fn (.func f) ⟨u2⟩, args := ⟨u1 ++ us⟩ }, .fn ((h1.append hr).append h2), ?_⟩
      unfold Go.execOp
      rw [ho]
      simp only [Sem.run_bind, run_value_call hc hq hus, Result.andThen_ok, Sem.run_pure]
    · cases e
  · cases e
end Go.Am
