import Derived.Test.YtkjknmdnehknbaaAmOps
import Derived.Lib.Strings
set_option linter.unusedSimpArgs false
set_option linter.unusedVariables false
/- Operations on values. -/
namespace Go.Am
open Go

variable {P : Program} {T : Tab} {μ : Mu} {H : Heap} {w : World}

theorem natOf_eq {v : V} {n : Nat} (h : natOf v = some n) : ∃ k, v = .int k (n : Int) := by
  unfold natOf at h
  split at h
  · rename_i k m
    split at h
    · cases h; exact ⟨k, rfl⟩
    · cases h
  · cases h
theorem RV.int_inv {k : IntKind} {n : Int} {u : Value} (h : RV μ (.int k n) u) : u = .int k n := by cases h; rfl
theorem RV.bool_inv {b : Bool} {u : Value} (h : RV μ (.bool b) u) : u = .bool b := by cases h; rfl
theorem RV.str_inv {s : List UInt8} {u : Value} (h : RV μ (.str s) u) : u = .string ⟨⟨s⟩⟩ := by cases h; rfl

theorem pureInt_run {s : Sem Value} {v : V} (h : pureInt s = some v) : ∃ u, s = .pure u ∧ ∀ μ, RV μ v u := by
  unfold pureInt at h
  split at h
  · cases h; exact ⟨_, rfl, fun _ => .int _ _⟩
  · cases h; exact ⟨_, rfl, fun _ => .bool _⟩
  · cases h

theorem good_intOp {op : BinOp} {k : IntKind} {a b : Int} {v : V} {t : TypeId} (e : intOp op k a b = some v) (hop : op ≠ .shl ∧ op ≠ .shr) :
    ∃ u, (Go.binOp op t (.int k a) (.int k b)).run P w = .ok u w ∧ ∀ μ, RV μ v u := by
  cases op <;> simp only [intOp, Option.some.injEq, reduceCtorEq] at e
  case add => subst e; exact ⟨_, by simp [Go.binOp, Op.intArith], fun _ => .int _ _⟩
  case sub => subst e; exact ⟨_, by simp [Go.binOp, Op.intArith], fun _ => .int _ _⟩
  case mul => subst e; exact ⟨_, by simp [Go.binOp, Op.intArith], fun _ => .int _ _⟩
  case quo =>
    by_cases hb : b = 0
    · simp [hb] at e
    · simp [hb] at e; subst e; exact ⟨_, by simp [Go.binOp, Op.intDiv, hb], fun _ => .int _ _⟩
  case rem =>
    by_cases hb : b = 0
    · simp [hb] at e
    · simp [hb] at e; subst e; exact ⟨_, by simp [Go.binOp, Op.intDiv, hb], fun _ => .int _ _⟩
  case eql => subst e; exact ⟨.bool (a == b), by simp [Go.binOp, Op.intCmp], fun _ => by
    have : (a == b) = decide (a = b) := by rw [Bool.eq_iff_iff]; simp
    rw [this]; exact RV.bool _⟩
  case neq => subst e; exact ⟨.bool (a != b), by simp [Go.binOp, Op.intCmp], fun _ => by
    have : (a != b) = !decide (a = b) := by rw [Bool.eq_iff_iff]; simp
    rw [this]; exact RV.bool _⟩
  case lss => subst e; exact ⟨_, by simp [Go.binOp, Op.intCmp], fun _ => .bool _⟩
  case leq => subst e; exact ⟨_, by simp [Go.binOp, Op.intCmp], fun _ => .bool _⟩
  case gtr => subst e; exact ⟨_, by simp [Go.binOp, Op.intCmp], fun _ => .bool _⟩
  case geq => subst e; exact ⟨_, by simp [Go.binOp, Op.intCmp], fun _ => .bool _⟩
  case and => obtain ⟨u, e1, e2⟩ := pureInt_run e; exact ⟨u, by simp [Go.binOp, e1], e2⟩
  case or => obtain ⟨u, e1, e2⟩ := pureInt_run e; exact ⟨u, by simp [Go.binOp, e1], e2⟩
  case xor => obtain ⟨u, e1, e2⟩ := pureInt_run e; exact ⟨u, by simp [Go.binOp, e1], e2⟩
  case andNot => obtain ⟨u, e1, e2⟩ := pureInt_run e; exact ⟨u, by simp [Go.binOp, e1], e2⟩

theorem toList_mk (s : List UInt8) : (⟨⟨s⟩⟩ : ByteArray).toList = s := by
  rw [Lib.toList_data]

theorem good_strOp {op : BinOp} {x y : List UInt8} {v : V} {t : TypeId} (e : strOp op x y = some v) :
    ∃ u, (Go.binOp op t (.string ⟨⟨x⟩⟩) (.string ⟨⟨y⟩⟩)).run P w = .ok u w ∧ ∀ μ, RV μ v u := by
  cases op <;> simp only [strOp, Option.some.injEq, reduceCtorEq] at e
  case add =>
    simp only [cond_blt] at e
    split at e
    · rename_i hlt
      cases e
      refine ⟨.string (⟨⟨x⟩⟩ ++ ⟨⟨y⟩⟩), ?_, fun μ => ?_⟩
      · have : ¬ (((⟨⟨x⟩⟩ : ByteArray).size + (⟨⟨y⟩⟩ : ByteArray).size : Nat) : Int) > IntKind.i64.max := by
          have h1 : (⟨⟨x⟩⟩ : ByteArray).size = x.length := rfl
          have h2 : (⟨⟨y⟩⟩ : ByteArray).size = y.length := rfl
          have h3 : IntKind.i64.max = 9223372036854775807 := by decide
          rw [h1, h2, h3]; omega
        simp only [Go.binOp, Op.stringOp, if_neg this, Sem.run_pure]
      · have : (⟨⟨x⟩⟩ ++ ⟨⟨y⟩⟩ : ByteArray) = ⟨⟨x ++ y⟩⟩ := by
          apply ByteArray.ext
          simp
        rw [this]; exact .str _
    · cases e
  all_goals (subst e; refine ⟨_, by simp [Go.binOp, Op.stringOp, toList_mk], fun _ => RV.bool _⟩)

theorem equal_of {t : TypeId} {u v : Value} {r : Bool} (h : ∀ d, (Op.equalIn (d + 1) t u v).run P w = .ok r w) : (Op.equal t u v).run P w = .ok r w := h 9999

theorem good_equal (hT : TabOk P T) {t : TypeId} {k : Bool} {x y : V} {r : Bool} {u v : Value} (hu : RV μ x u) (hv : RV μ y v) (e : equal T t k x y = some r) (ox oy : Operand)
    (hk : k = true → (isConst ox || isConst oy) = true) (op : BinOp) (hop : op = .eql ∨ op = .neq) :
    (Go.eqGuard op t ox oy u v).run P w = .ok () w ∧ (Op.equal t u v).run P w = .ok r w := by
  have hg : ∀ {u v : Value}, (∀ a b, ¬ (u = .agg a ∧ v = .agg b)) → ¬ (u = .nilIface ∧ v = .nilIface) → (Go.eqGuard op t ox oy u v).run P w = .ok () w := by
    intro u v h1 h2
    unfold Go.eqGuard
    rcases hop with rfl | rfl <;> simp <;> split <;> first | rfl | (exact absurd ⟨rfl, rfl⟩ h2) | (exact absurd ⟨rfl, rfl⟩ (h1 _ _))
  unfold Am.equal at e
  split at e <;> rename_i hd
  case h_1 =>
    split at e <;> first | (cases e; done) | (cases e; cases hu; cases hv; refine ⟨hg (by simp) (by simp), ?_⟩; exact equal_of fun d => by simp [Op.equalIn, run_und (hT.und _ _ hd)])
  case h_2 =>
    split at e <;> first | (cases e; done) | (cases e; cases hu; cases hv; refine ⟨hg (by simp) (by simp), ?_⟩; exact equal_of fun d => by simp [Op.equalIn, run_und (hT.und _ _ hd)])
  case h_3 =>
    split at e <;> first | (cases e; done) | (cases e; cases hu; cases hv; refine ⟨hg (by simp) (by simp), ?_⟩; exact equal_of fun d => by simp [Op.equalIn, run_und (hT.und _ _ hd)])
  case h_4 =>
    split at e <;> first | (cases e; done) | (cases e; cases hu <;> cases hv <;> (refine ⟨hg (by simp) (by simp), ?_⟩; exact equal_of fun d => by simp [Op.equalIn, run_und (hT.und _ _ hd)]))
  case h_5 =>
    split at e
    · cases e; cases hu; cases hv; refine ⟨hg (by simp) (by simp), ?_⟩; exact equal_of fun d => by simp [Op.equalIn, run_und (hT.und _ _ hd)]
    · cases e; cases hu; cases hv; refine ⟨hg (by simp) (by simp), ?_⟩; exact equal_of fun d => by simp [Op.equalIn, run_und (hT.und _ _ hd)]
    · cases k with
      | false => cases e
      | true =>
        cases e; cases hu; cases hv
        refine ⟨?_, equal_of fun d => by simp [Op.equalIn, run_und (hT.und _ _ hd)]⟩
        have := hk rfl
        unfold Go.eqGuard
        rcases hop with rfl | rfl <;> cases ox <;> cases oy <;> first | (simp [isConst] at this; done) | simp
    · cases e
  case h_6 =>
    split at e
    · rename_i xs ys
      cases hu with
      | agg hu => cases hv with
        | agg hv =>
          obtain ⟨h1, h2⟩ := hT.eqS _ _ _ _ e
          refine ⟨?_, h2 μ w _ _ hu hv⟩
          unfold Go.eqGuard
          rcases hop with rfl | rfl <;> simp [h1]
    · cases e
  case h_7 =>
    split at e
    · cases e; cases hu; cases hv; refine ⟨hg (by simp) (by simp), ?_⟩; exact equal_of fun d => by simp [Op.equalIn, run_und (hT.und _ _ hd)]
    · cases e
  case h_8 => cases e
end Go.Am
