import Derived.Test.YtkjknmdnehknbaaAmDraw7
import Derived.MapKept
set_option linter.unusedSimpArgs false
set_option linter.unusedVariables false
/- The tables of a program are what they say. -/
namespace Go.Am
open Go

variable {P : Program} {T : Tab} {μ : Mu} {H : Heap} {w : World}

def noCount (P : Program) : Bool := P.funcs.all fun fn => !(fn.name == "runtime.NumGoroutine")

theorem tab0_ok (hn : noCount P = true) : TabOk P (tab0 P) where
  und _ _ h := h
  size t n b h := by
    simp only [tab0, Option.map_eq_some_iff, Prod.mk.injEq] at h
    obtain ⟨i, h1, h2, h3⟩ := h
    exact ⟨i, h1, h2, h3⟩
  zero t zs h := by
    simp only [tab0] at h
    split at h
    · rename_i i hi
      split at h
      · rename_i z hz
        split at h
        · rename_i v hv
          cases h
          exact ⟨i, z, hi, hz, fun μ => (RV.ofVal μ hv).cells⟩
        · cases h
      · cases h
    · cases h
  zeroV t v h := by
    simp only [tab0] at h
    split at h
    · rename_i i hi
      split at h
      · rename_i z hz
        exact ⟨i, z, hi, hz, fun μ => RV.ofVal μ h⟩
      · cases h
    · cases h
  eqS t xs ys r h := by cases h
  meth t name path f b h := by
    simp only [tab0] at h
    split at h
    · rename_i i hi
      split at h
      · rename_i m hm
        split at h
        · rename_i f' p' hf
          cases h
          exact ⟨i, m, hi, hm, rfl, hf⟩
        · cases h
      · cases h
    · cases h
  func f fn h := by
    refine ⟨h, ?_⟩
    unfold noCount at hn
    rw [Array.all_eq_true_iff_forall_mem] at hn
    have := hn fn (Array.mem_of_getElem? h)
    simpa using this

theorem bytes_mk (a b : List UInt8) : ((⟨⟨a⟩⟩ : ByteArray) == ⟨⟨b⟩⟩) = (a == b) := by
  rw [Bool.eq_iff_iff, MapKept.bytes_beq]
  simp
def eqBody (n : Nat) (xs ys : Array Value) (f : Field) : Sem (ForInStep (Option Bool × Unit)) :=
  if f.name ≠ "_" then do
    let a ← Go.part f.type xs f.offset
    let b ← Go.part f.type ys f.offset
    let c ← Op.equalIn n f.type a b
    if (!c) = true then pure (ForInStep.done (some false, ())) else pure (ForInStep.yield (none, ()))
  else pure (ForInStep.yield (none, ()))
theorem equalIn_struct {n : Nat} {t : TypeId} {fs : Array Field} {xs ys : Array Value} (h : (underlying t).run P w = .ok (.struct fs) w) (hs : P.stoodInHeld t = false) {r : Bool}
    (hb : (forIn fs.toList ((none, ()) : Option Bool × Unit) fun f _ => eqBody n xs ys f).run P w = .ok (if r then (none, ()) else (some false, ())) w) : (Op.equalIn (n + 1) t (.agg xs) (.agg ys)).run P w = .ok r w := by
  simp only [Op.equalIn, Sem.run_bind, h, Result.andThen_ok, run_program, hs, Bool.false_eq_true, if_false]
  rw [← Array.forIn_toList]
  unfold eqBody at hb
  rw [hb]
  cases r <;> rfl
theorem eqBody_cons {n : Nat} {xs ys : Array Value} {f : Field} {fs : List Field} (hn : (f.name == "_") = false) {u v : Value} (h1 : (Go.part f.type xs f.offset).run P w = .ok u w) (h2 : (Go.part f.type ys f.offset).run P w = .ok v w) {c : Bool} (h3 : (Op.equalIn n f.type u v).run P w = .ok c w) :
    (forIn (f :: fs) ((none, ()) : Option Bool × Unit) fun f _ => eqBody n xs ys f).run P w = if c then (forIn fs ((none, ()) : Option Bool × Unit) fun f _ => eqBody n xs ys f).run P w else .ok (some false, ()) w := by
  have hn' : f.name ≠ "_" := by simpa using hn
  rw [List.forIn_cons]
  simp only [eqBody, Sem.run_bind, hn', ne_eq, not_false_eq_true, if_true, h1, h2, h3, Result.andThen_ok]
  cases c <;> simp [Sem.run_bind]

theorem eqF_ok (hT : TabOk P T) {n : Nat} {eq : TypeId → V → V → Option Bool} {xs ys : List V} {us vs : List Value} (hu : RVL μ xs us) (hv : RVL μ ys vs)
    (ih : ∀ (t : TypeId) (x y : V) (r : Bool), eq t x y = some r → ∀ (u v : Value), RV μ x u → RV μ y v → (Op.equalIn n t u v).run P w = .ok r w) : ∀ (fs : List Field) (r : Bool), eqF eq T xs ys fs = some r →
    (forIn fs ((none, ()) : Option Bool × Unit) fun f _ => eqBody n ⟨us⟩ ⟨vs⟩ f).run P w = .ok (if r then (none, ()) else (some false, ())) w
  | [], r, e => by simp only [eqF, Option.some.injEq] at e; subst e; rfl
  | f :: fs, r, e => by
    simp only [eqF] at e
    cases hn : f.name == "_" with
    | true => rw [hn] at e; cases e
    | false =>
      rw [hn] at e
      simp only [cond_false] at e
      split at e
      · rename_i x y hx hy
        obtain ⟨u, hu1, hu2⟩ := run_part (P := P) (w := w) hT hu hx
        obtain ⟨v, hv1, hv2⟩ := run_part (P := P) (w := w) hT hv hy
        split at e
        · rename_i hc
          rw [eqBody_cons hn hu1 hv1 (ih _ _ _ _ hc u v hu2 hv2)]
          exact eqF_ok hT hu hv ih fs r e
        · rename_i hc
          cases e
          rw [eqBody_cons hn hu1 hv1 (ih _ _ _ _ hc u v hu2 hv2)]
          rfl
        · cases e
      · cases e

theorem eqV_ok (hn : noCount P = true) : ∀ (d n : Nat) (t : TypeId) (x y : V) (r : Bool), d ≤ n → eqV P (tab0 P) d t x y = some r → ∀ (μ : Mu) (w : World) (u v : Value), RV μ x u → RV μ y v → (Op.equalIn n t u v).run P w = .ok r w := by
  intro d
  induction d with
  | zero => intro n t x y r _ e; simp [eqV] at e
  | succ d ih =>
    intro n t x y r hd e μ w u v hu hv
    obtain ⟨n, rfl⟩ : ∃ m, n = m + 1 := ⟨n - 1, by omega⟩
    have hT := tab0_ok hn
    unfold eqV at e
    split at e
    · rename_i h
      split at e
      · cases e; cases hu; cases hv
        simp [Op.equalIn, run_und (hT.und _ _ h)]
      · cases e
    · rename_i k h
      split at e
      · rename_i j a k b
        cases hjk : decide (j = k) with
        | false => rw [hjk] at e; cases e
        | true =>
          rw [hjk] at e
          cases e; cases hu; cases hv
          have : j = k := by simpa using hjk
          subst this
          simp [Op.equalIn, run_und (hT.und _ _ h)]
          rw [Bool.eq_iff_iff]
          simp
      · cases e
    · rename_i h
      split at e
      · cases e; cases hu; cases hv
        simp [Op.equalIn, run_und (hT.und _ _ h), bytes_mk]
      · cases e
    · rename_i fs h
      split at e
      · rename_i xs ys
        cases hs : P.stoodInHeld t with
        | true => rw [hs] at e; cases e
        | false =>
          rw [hs] at e
          simp only [cond_false] at e
          cases hu with
          | agg hu => cases hv with
            | agg hv =>
            exact equalIn_struct (run_und (hT.und _ _ h)) hs (eqF_ok hT hu hv (fun t x y r e u v hu hv => ih n t x y r (by omega) e μ w u v hu hv) _ _ e)
      · cases e
    · cases e

theorem tabOf_ok (hn : noCount P = true) (prim : FuncId → Option (List V → Heap → Option (V × Heap))) : TabOk P (tabOf P prim) where
  und := (tab0_ok hn).und
  size := (tab0_ok hn).size
  zero := (tab0_ok hn).zero
  zeroV := (tab0_ok hn).zeroV
  meth := (tab0_ok hn).meth
  func := (tab0_ok hn).func
  eqS t xs ys r h := by
    simp only [tabOf] at h
    cases hg : P.eqGuardType P.depth t with
    | true => rw [hg] at h; cases h
    | false =>
      rw [hg] at h
      simp only [cond_false] at h
      exact ⟨rfl, fun μ w us vs hu hv => eqV_ok hn 9 _ _ _ _ _ (by simp [Op.maxDepth]) h μ w _ _ (.agg hu) (.agg hv)⟩
end Go.Am
