import Derived.Test.YtkjknmdnehknbaaAmDraw1
set_option linter.unusedSimpArgs false
set_option linter.unusedVariables false
/- An operation looks at nothing but its temporaries; where in a run of steps an operation stands. -/
namespace Go.Am
open Go

variable {T : Tab} {ev : Ev} {fuel : Nat} {ops : Array Oper} {k : Nat}

/-! ### Congruence -/
theorem eval_congr {a b : A} {x : Operand} (h : ∀ t, x = .tmp t → a.tmps.get t = b.tmps.get t) : a.eval x = b.eval x := by
  cases x with
  | tmp t => simp only [A.eval, A.tmp, h t rfl]
  | const v => rfl
  | global g => rfl
  | func f => rfl
theorem evals_congr {a b : A} : ∀ {xs : List Operand}, (∀ x ∈ xs, a.eval x = b.eval x) → evals a xs = evals b xs
  | [], _ => rfl
  | x :: xs, h => by
    simp only [evals]
    rw [h x (by simp), evals_congr fun y hy => h y (by simp [hy])]
theorem evalParts_congr {a b : A} : ∀ {xs : List (Nat × Operand)}, (∀ x ∈ xs, a.eval x.2 = b.eval x.2) → evalParts a xs = evalParts b xs
  | [], _ => rfl
  | (i, x) :: xs, h => by
    simp only [evalParts]
    rw [h (i, x) (by simp), evalParts_congr fun y hy => h y (by simp [hy])]
theorem evalOpt_congr {a b : A} {x : Option Operand} (h : ∀ y, x = some y → a.eval y = b.eval y) : evalOpt a x = evalOpt b x := by
  cases x with
  | none => rfl
  | some y => simp only [evalOpt, h y rfl]
theorem op1_congr {a b : A} {x : Operand} {f g : V → OR} (h : a.eval x = b.eval x) (hf : ∀ v, f v = g v) : op1 a x f = op1 b x g := by
  unfold op1; rw [h]
  cases b.eval x with
  | none => rfl
  | some v => exact hf v

theorem callOp_congr {a b : A} {H : Heap} {c : Call} (h : ∀ x ∈ c.operands, a.eval x = b.eval x) : callOp T a H c = callOp T b H c := by
  have h1 : evals a c.args.toList = evals b c.args.toList := evals_congr fun x hx => h x (by
    unfold Call.operands
    cases c.callee <;> simp <;> first | exact Array.mem_toList_iff.1 hx | exact .inr (Array.mem_toList_iff.1 hx))
  unfold callOp
  rw [h1]
  cases hc : c.callee with
  | builtin f => rfl
  | invoke r name =>
    have : a.eval r = b.eval r := h r (by unfold Call.operands; rw [hc]; simp)
    simp only [this]
  | value f =>
    have : a.eval f = b.eval f := h f (by unfold Call.operands; rw [hc]; simp)
    simp only [this]

theorem exec_congr {a b : A} {H : Heap} {o : Op} (h : ∀ x ∈ o.operands, a.eval x = b.eval x) : execOp T a H o = execOp T b H o := by
  cases o
  case call c => exact callOp_congr (by simpa [Op.operands] using h)
  case defer c =>
    have hc : ∀ x ∈ c.operands, a.eval x = b.eval x := h
    have h1 : evals a c.args.toList = evals b c.args.toList := evals_congr fun x hx => hc x (by
      unfold Call.operands
      cases c.callee <;> simp <;> first | exact Array.mem_toList_iff.1 hx | exact .inr (Array.mem_toList_iff.1 hx))
    simp only [Am.execOp]
    rw [h1]
    cases hcl : c.callee with
    | builtin f => rfl
    | invoke r name => rfl
    | value f =>
      have : a.eval f = b.eval f := hc f (by unfold Call.operands; rw [hcl]; simp)
      cases evals b c.args.toList with
      | none => rfl
      | some args => simp only [this]
  case build t ps =>
    have h1 : evalParts a ps.toList = evalParts b ps.toList := evalParts_congr fun x hx => h x.2 (by
      simp only [Op.operands, List.mem_toArray, List.mem_map]; exact ⟨x, hx, rfl⟩)
    simp only [Am.execOp, h1]
  case buildSlice t n ps =>
    have h1 : evalParts a ps.toList = evalParts b ps.toList := evalParts_congr fun x hx => h x.2 (by
      simp only [Op.operands, List.mem_toArray, List.mem_map]; exact ⟨x, hx, rfl⟩)
    simp only [Am.execOp, h1]
  case makeFunc fn first captured =>
    have h1 : evals a first.toList = evals b first.toList := evals_congr fun x hx => h x (by simp only [Op.operands, Array.mem_append]; exact .inl (Array.mem_toList_iff.1 hx))
    have h2 : evals a captured.toList = evals b captured.toList := evals_congr fun x hx => h x (by simp only [Op.operands, Array.mem_append]; exact .inr (Array.mem_toList_iff.1 hx))
    simp only [Am.execOp, h1, h2]
  case makeMap t r =>
    cases r with
    | none => rfl
    | some y =>
      simp only [Am.execOp]
      exact op1_congr (h y (by simp [Op.operands])) fun v => rfl
  case slice t x lo hi mx =>
    simp only [Am.execOp]
    refine op1_congr (h x (by simp [Op.operands])) fun v => ?_
    rw [evalOpt_congr (x := lo) fun y hy => h y (by simp [Op.operands, hy]), evalOpt_congr (x := hi) fun y hy => h y (by simp [Op.operands, hy]), evalOpt_congr (x := mx) fun y hy => h y (by simp [Op.operands, hy])]
  all_goals
    simp only [Am.execOp] <;>
    first
      | rfl
      | (simp only [Op.operands, List.mem_cons, List.mem_singleton, List.not_mem_nil, or_false, List.mem_toArray, forall_eq_or_imp, forall_eq] at h
         first
           | (refine op1_congr h fun v => ?_; rfl)
           | (obtain ⟨h1, h2, h3⟩ := h
              refine op1_congr h1 fun v => ?_
              first
                | (refine op1_congr h2 fun v => ?_; refine op1_congr h3 fun v => ?_; rfl)
                | (rcases v with _ | _ <;> first | rfl | (rename_i q; cases q <;> first | (exact op1_congr h2 fun v => rfl) | (exact op1_congr h3 fun v => rfl) | rfl)))
           | (obtain ⟨h1, h2⟩ := h
              refine op1_congr h1 fun v => ?_
              first
                | (refine op1_congr h2 fun v => ?_; rfl)
                | (cases v <;> first | rfl | (exact op1_congr h2 fun v => rfl))))

theorem looks_eval {a b : A} {o : Oper} (h : ∀ t, t ∈ looks ops o → a.tmps.get t = b.tmps.get t) : ∀ x ∈ o.op.operands, a.eval x = b.eval x := by
  intro x hx
  refine eval_congr fun t ht => h t ?_
  unfold looks
  rw [List.mem_append]
  left
  unfold tmpsOf
  rw [List.mem_filterMap]
  exact ⟨x, Array.mem_toList_iff.2 hx, by rw [ht]⟩

theorem wanted_congr {a b : A} {o : Oper} (h : ∀ t, t ∈ looks ops o → a.tmps.get t = b.tmps.get t) : wanted ops a o = wanted ops b o := by
  unfold wanted
  cases hg : o.guard with
  | none => rfl
  | some p =>
    obtain ⟨j, want⟩ := p
    dsimp only
    cases hd : (ops[j]?).bind (·.dst) with
    | none => rfl
    | some d =>
      dsimp only
      unfold A.tmp
      rw [h d]
      unfold looks
      rw [List.mem_append]
      right
      rw [hg]
      dsimp only
      rw [hd]
      simp
end Go.Am
