import Derived.Test.YtkjknmdnehknbaaAmOps2
set_option linter.unusedSimpArgs false
set_option linter.unusedVariables false
/- Operations on values, the second part. -/
namespace Go.Am
open Go

variable {P : Program} {T : Tab} {μ : Mu} {H : Heap} {w : World}

theorem good_binOp (hT : TabOk P T) (h : Sim μ H w) {t : TypeId} {x y : V} {r : V} {u v : Value} {op : BinOp} {k : Bool} (hu : RV μ x u) (hv : RV μ y v) (e : binOp T op t k x y = some r) (ox oy : Operand)
    (hk : k = true → (isConst ox || isConst oy) = true) : VGood P μ H w (do Go.eqGuard op t ox oy u v; Go.binOp op t u v) r H := by
  have heq : ∀ {b : Bool}, equal T t k x y = some b → (op = .eql ∨ op = .neq) → (∀ j a, ¬ (u = .int j a)) → (∀ s, ¬ (u = .string s)) → (∀ j a, ¬ (u = .float j a)) → (∀ j a b, ¬ (u = .complex j a b)) →
      (do Go.eqGuard op t ox oy u v; Go.binOp op t u v : Sem Value).run P w = .ok (.bool (if op = .eql then b else !b)) w := by
    intro b hb hop h1 h2 h3 h4
    obtain ⟨g1, g2⟩ := good_equal (P := P) (w := w) hT hu hv hb ox oy hk op hop
    rw [Sem.run_bind, g1, Result.andThen_ok]
    have hb1 : Go.binOp .eql t u v = (do pure (.bool (← Op.equal t u v)) : Sem Value) := by
      unfold Go.binOp
      cases u <;> first | (exact absurd rfl (h1 _ _)) | (exact absurd rfl (h2 _)) | (exact absurd rfl (h3 _ _)) | (exact absurd rfl (h4 _ _ _)) | rfl
    have hb2 : Go.binOp .neq t u v = (do pure (.bool (!(← Op.equal t u v))) : Sem Value) := by
      unfold Go.binOp
      cases u <;> first | (exact absurd rfl (h1 _ _)) | (exact absurd rfl (h2 _)) | (exact absurd rfl (h3 _ _)) | (exact absurd rfl (h4 _ _ _)) | rfl
    rcases hop with rfl | rfl
    · rw [hb1]; simp [g2]
    · rw [hb2]; simp [g2]
  have hguard : ∀ {j : IntKind} {a : Int}, u = .int j a → (Go.eqGuard op t ox oy u v).run P w = .ok () w := by
    intro j a hj; subst hj
    unfold Go.eqGuard
    cases op <;> simp
  have hguard2 : ∀ {s : ByteArray}, u = .string s → (Go.eqGuard op t ox oy u v).run P w = .ok () w := by
    intro s hj; subst hj
    unfold Go.eqGuard
    cases op <;> simp
  unfold Am.binOp at e
  split at e
  · rename_i j a j' b
    obtain rfl := hu.int_inv
    obtain rfl := hv.int_inv
    have hg := hguard rfl
    split at e
    · by_cases hb : b < 0
      · simp [hb] at e
      · simp only [decide_eq_false hb, cond_false] at e
        obtain ⟨z, e1, e2⟩ := pureInt_run e
        exact .same h (by simp only [Sem.run_bind, hg, Result.andThen, Go.binOp, e1, Sem.run_pure']) (e2 μ)
    · by_cases hb : b < 0
      · simp [hb] at e
      · simp only [decide_eq_false hb, cond_false] at e
        obtain ⟨z, e1, e2⟩ := pureInt_run e
        exact .same h (by simp only [Sem.run_bind, hg, Result.andThen, Go.binOp, e1, Sem.run_pure']) (e2 μ)
    · rename_i h1 h2
      by_cases hj : j = j'
      · subst hj
        simp only [decide_true, cond_true] at e
        obtain ⟨z, e1, e2⟩ := good_intOp (P := P) (w := w) (t := t) e ⟨fun h => h1 h, fun h => h2 h⟩
        exact .same h (by simp only [Sem.run_bind, hg, Result.andThen, e1]) (e2 μ)
      · simp [hj] at e
  · rename_i a b
    obtain rfl := hu.str_inv
    obtain rfl := hv.str_inv
    obtain ⟨z, e1, e2⟩ := good_strOp (P := P) (w := w) (t := t) e
    exact .same h (by simp only [Sem.run_bind, hguard2 rfl, Result.andThen, e1]) (e2 μ)
  · rename_i h1 h2
    have hne : ∀ {b : Bool}, equal T t k x y = some b → (∀ j a, ¬ (u = .int j a)) ∧ (∀ s, ¬ (u = .string s)) ∧ (∀ j a, ¬ (u = .float j a)) ∧ (∀ j a b, ¬ (u = .complex j a b)) := by
      intro b hb
      cases hu <;> simp
      all_goals (unfold Am.equal at hb; split at hb <;> (first | (cases hb; done) | (split at hb <;> simp_all)))
    split at e
    · simp only [Option.map_eq_some_iff] at e
      obtain ⟨b, hb, rfl⟩ := e
      obtain ⟨n1, n2, n3, n4⟩ := hne hb
      exact .same h (heq hb (.inl rfl) n1 n2 n3 n4) (by simpa using RV.bool b)
    · simp only [Option.map_eq_some_iff] at e
      obtain ⟨b, hb, rfl⟩ := e
      obtain ⟨n1, n2, n3, n4⟩ := hne hb
      exact .same h (heq hb (.inr rfl) n1 n2 n3 n4) (by simpa using RV.bool (!b))
    · cases e

theorem good_unOp (h : Sim μ H w) {op : UnOp} {x r : V} {u : Value} (hu : RV μ x u) (e : unOp op x = some r) : VGood P μ H w (Op.unary op u) r H := by
  unfold unOp at e
  split at e
  · cases e; obtain rfl := hu.int_inv; exact .same h (by simp [Op.unary, Op.intArith]) (.int _ _)
  · cases e; obtain rfl := hu.bool_inv; exact .same h (by simp [Op.unary]) (.bool _)
  · cases e
end Go.Am
