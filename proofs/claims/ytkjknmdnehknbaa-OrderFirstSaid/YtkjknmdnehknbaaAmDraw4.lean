import Derived.Test.YtkjknmdnehknbaaAmDraw3
set_option linter.unusedSimpArgs false
set_option linter.unusedVariables false
/- Quiet operations: they look at no object; an object that they make can have any place. -/
namespace Go.Am
open Go

variable {P : Program} {T : Tab} {μ : Mu} {H : Heap} {w : World}

mutual
def V.top : V → Nat
  | .ptr l _ => l + 1
  | .slice l _ _ _ _ => l + 1
  | .map r => r + 1
  | .func (.yield l) us vs => max (l + 1) (max (V.tops us) (V.tops vs))
  | .func _ us vs => max (V.tops us) (V.tops vs)
  | .iface _ v => v.top
  | .agg cs => V.tops cs
  | .tuple cs => V.tops cs
  | _ => 0
def V.tops : List V → Nat
  | [] => 0
  | v :: vs => max v.top (V.tops vs)
end

mutual
theorem RV.low {μ μ' : Mu} {N : Nat} (hm : ∀ l, l < N → μ' l = μ l) : ∀ {v : V} {u : Value}, RV μ' v u → v.top ≤ N → RV μ v u
  | _, _, .bool b, _ => .bool b
  | _, _, .int k n, _ => .int k n
  | _, _, .str s, _ => .str s
  | _, _, .ptr (l := l) h, ht => .ptr (by rw [← hm l (by simp only [V.top] at ht; omega)]; exact h)
  | _, _, .nilPtr, _ => .nilPtr
  | _, _, .slice (l := l) h hn hc htt ho, ht => .slice (by rw [← hm l (by simp only [V.top] at ht; omega)]; exact h) hn hc htt ho
  | _, _, .nilSlice, _ => .nilSlice
  | _, _, .map (r := l) h, ht => .map (by rw [← hm l (by simp only [V.top] at ht; omega)]; exact h)
  | _, _, .nilMap, _ => .nilMap
  | _, _, .func h1 h2, ht => .func (RVL.low hm h1 (by simp only [V.top] at ht; omega)) (RVL.low hm h2 (by simp only [V.top] at ht; omega))
  | _, _, .yield (l := l) h, ht => .yield (by rw [← hm l (by simp only [V.top] at ht; omega)]; exact h)
  | _, _, .nilFunc, _ => .nilFunc
  | _, _, .iface h, ht => .iface (RV.low hm h (by simpa [V.top] using ht))
  | _, _, .nilIface, _ => .nilIface
  | _, _, .agg h, ht => .agg (RVL.low hm h (by simpa [V.top] using ht))
  | _, _, .tuple h, ht => .tuple (RVL.low hm h (by simpa [V.top] using ht))
theorem RVL.low {μ μ' : Mu} {N : Nat} (hm : ∀ l, l < N → μ' l = μ l) : ∀ {v : List V} {u : List Value}, RVL μ' v u → V.tops v ≤ N → RVL μ v u
  | _, _, .nil, _ => .nil
  | _, _, .cons h t, ht => .cons (RV.low hm h (by simp only [V.tops] at ht; omega)) (RVL.low hm t (by simp only [V.tops] at ht; omega))
end

theorem V.top_le_tops : ∀ {vs : List V} {j : Nat} {v : V}, vs[j]? = some v → v.top ≤ V.tops vs
  | [], _, _, h => by simp at h
  | x :: xs, 0, v, h => by simp at h; subst h; simp only [V.tops]; omega
  | x :: xs, j + 1, v, h => by
    have := V.top_le_tops (vs := xs) (j := j) (v := v) (by simpa using h)
    simp only [V.tops]; omega

inductive PlaceFn : (Nat → V) → Prop
  | ptr : PlaceFn fun n => .ptr n 0
  | slice (m s : Nat) (c : Option Nat) : PlaceFn fun n => .slice n 0 m s c
  | map : PlaceFn fun n => .map n
inductive PlaceOb : O → Prop
  | cells (vs : List V) : PlaceOb (.cells false vs)
  | map : PlaceOb (.map [])

theorem ofV_val {H H' : Heap} {x : Option V} {v : V} (e : OR.ofV H x = .val v H') : x = some v ∧ H' = H := by
  cases x with
  | none => cases e
  | some y => cases e; exact ⟨rfl, rfl⟩

/-- What a quiet operation comes to, wherever. -/
def Quiet (T : Tab) (a : A) (o : Op) (v : V) (k : Nat) (H' : Heap) : Prop :=
  (H' = ⟨k, .leaf⟩ ∧ ∀ K, execOp T a K o = .val v K) ∨ ∃ f ob, PlaceFn f ∧ PlaceOb ob ∧ v = f k ∧ H' = Heap.push ⟨k, .leaf⟩ ob ∧ ∀ K : Heap, execOp T a K o = .val (f K.n) (K.push ob)

theorem leaf_get (k l : Nat) : (⟨k, .leaf⟩ : Heap).get l = none := by
  simp only [Heap.get_eq, Tr.get_leaf]; split <;> rfl

theorem slice_indep {t : TypeId} {x : V} {lo hi mx : Option V} {k : Nat} {v : V} (e : sliceOp T ⟨k, .leaf⟩ t x lo hi mx = some v) (K : Heap) : sliceOp T K t x lo hi mx = some v := by
  unfold sliceOp at e ⊢
  split at e
  · exact e
  · exact e
  · have : ∀ l, cellsAt ⟨k, .leaf⟩ l = none := fun l => by unfold cellsAt; rw [leaf_get]
    split at e
    · rw [this] at e
      split at e
      · rename_i h; cases h
      · cases e
    · cases e
  · cases e

theorem quiet_indep {a : A} {o : Op} {k : Nat} {v : V} {H' : Heap} (hq : quiet o = true) (e : execOp T a ⟨k, .leaf⟩ o = .val v H') : Quiet T a o v k H' := by
  cases o
  case alloc t =>
    simp only [Am.execOp] at e
    split at e
    · rename_i z hz
      cases e
      exact .inr ⟨_, _, .ptr, .cells z, rfl, rfl, fun K => by simp only [Am.execOp, hz]⟩
    · cases e
  case box t y =>
    simp only [Am.execOp] at e
    obtain ⟨u, h1, e0⟩ := op1_inv e (by simp)
    cases e0
    exact .inr ⟨_, _, .ptr, .cells _, rfl, rfl, fun K => by simp only [Am.execOp, op1, h1]⟩
  case buildSlice t n ps =>
    simp only [Am.execOp] at e
    split at e
    · rename_i el hu
      split at e
      · rename_i s b z qs hs hz hps
        cases hc : (Nat.ble (n * s) 16777216 && Nat.beq z.length s) with
        | false => rw [hc] at e; cases e
        | true =>
          rw [hc] at e
          simp only [cond_true] at e
          split at e
          · rename_i cs hcs
            cases e
            exact .inr ⟨_, _, .slice n s (some n), .cells cs, rfl, rfl, fun K => by simp only [Am.execOp, hu, hs, hz, hps, hc, cond_true, hcs]⟩
          · cases e
      · cases e
    · cases e
  case makeMap t r =>
    simp only [Am.execOp] at e
    cases r with
    | none => cases e; exact .inr ⟨_, _, .map, .map, rfl, rfl, fun K => rfl⟩
    | some y =>
      obtain ⟨u, h1, e0⟩ := op1_inv e (by simp)
      split at e0
      · rename_i kt el j n hd
        cases e0
        exact .inr ⟨_, _, .map, .map, rfl, rfl, fun K => by simp only [Am.execOp, op1, h1, hd]⟩
      · cases e0
  case makeSlice t y z =>
    simp only [Am.execOp] at e
    obtain ⟨u, h1, e0⟩ := op1_inv e (by simp)
    replace e := e0; clear e0
    obtain ⟨u2, h2, e0⟩ := op1_inv e (by simp)
    replace e := e0; clear e0
    split at e
    · rename_i el n c hd hn hc
      split at e
      · rename_i s b zz hs hz
        cases hcc : (Nat.ble n c && Nat.blt (c * b) 17592186044416 && Nat.blt c 17592186044416 && Nat.beq zz.length s && Nat.blt 0 s) with
        | false => rw [hcc] at e; cases e
        | true =>
          rw [hcc] at e
          cases e
          exact .inr ⟨_, _, .slice n s (some c), .cells _, rfl, rfl, fun K => by simp only [Am.execOp, op1, h1, h2, hd, hn, hc, hs, hz, hcc, cond_true]⟩
      · cases e
    · cases e
  all_goals (try (simp [quiet] at hq; done))
  case call c =>
    have hb : c.callee = .builtin .len ∨ c.callee = .builtin .cap ∨ c.callee = .builtin .min ∨ c.callee = .builtin .max := by
      obtain ⟨cal, args, ats⟩ := c
      unfold quiet at hq
      split at hq <;> simp_all
    left
    simp only [Am.execOp, callOp] at e ⊢
    split at e
    · cases e
    rename_i args hargs
    rcases hb with hb | hb | hb | hb <;> rw [hb] at e <;> simp only [hb, hargs] <;> dsimp only at e
    all_goals
      simp only [Am.builtin] at e ⊢
      repeat' split at e
    all_goals first
      | contradiction
      | (cases e; done)
      | (cases e; exact ⟨rfl, fun K => by simp only [*]⟩)
      | (obtain ⟨h1, rfl⟩ := ofV_val e; exact ⟨rfl, fun K => by simp only [*, OR.ofV]⟩)
      | (rename_i hg; rw [leaf_get] at hg; cases hg)
  case slice t x lo hi mx =>
    left
    simp only [Am.execOp, op1] at e ⊢
    repeat' split at e
    all_goals first
      | (cases e; done)
      | skip
    obtain ⟨h1, rfl⟩ := ofV_val e
    refine ⟨rfl, fun K => ?_⟩
    rw [slice_indep h1 K]
    rfl
  all_goals
    left
    simp only [Am.execOp, op1, Bool.cond_eq_ite] at e ⊢
    repeat' split at e
  all_goals first
    | (cases e; done)
    | (cases e; refine ⟨rfl, fun K => ?_⟩; simp only [*]; done)
    | (cases e; refine ⟨rfl, fun K => ?_⟩; simp only [*, if_true, Bool.false_eq_true, if_false]; done)
    | (obtain ⟨h1, rfl⟩ := ofV_val e; refine ⟨rfl, fun K => ?_⟩; simp only [*, OR.ofV]; done)
    | (obtain ⟨h1, rfl⟩ := ofV_val e; refine ⟨rfl, fun K => ?_⟩; simp only [*, OR.ofV, if_true, Bool.false_eq_true, if_false]; done)
end Go.Am
