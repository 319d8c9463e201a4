import Derived.Test.YtkjknmdnehknbaaAmDefs
/- The persistent array and the heap: what a read finds behind a write. -/
namespace Go.Am

theorem cond_beq {α : Type} (a b : Nat) (x y : α) : cond (Nat.beq a b) x y = if a = b then x else y := by
  by_cases h : a = b
  · subst h; simp
  · have : Nat.beq a b = false := by rw [← Bool.not_eq_true, Nat.beq_eq]; exact h
    simp [this, h]
theorem cond_blt {α : Type} (a b : Nat) (x y : α) : cond (Nat.blt a b) x y = if a < b then x else y := by
  by_cases h : a < b
  · have : Nat.blt a b = true := by rw [Nat.blt_eq]; exact h
    simp [this, h]
  · have : Nat.blt a b = false := by rw [← Bool.not_eq_true, Nat.blt_eq]; exact h
    simp [this, h]
theorem cond_ble {α : Type} (a b : Nat) (x y : α) : cond (Nat.ble a b) x y = if a ≤ b then x else y := by
  by_cases h : a ≤ b
  · have : Nat.ble a b = true := by rw [Nat.ble_eq]; exact h
    simp [this, h]
  · have : Nat.ble a b = false := by rw [← Bool.not_eq_true, Nat.ble_eq]; exact h
    simp [this, h]

theorem Tr.get_leaf {α : Type} (i : Nat) : (Tr.leaf : Tr α).get i = none := rfl
theorem Tr.get_node {α : Type} (v : Option α) (l r : Tr α) (i : Nat) :
    (Tr.node v l r).get i = if i = 0 then v else if i % 2 = 1 then l.get (i / 2) else r.get (i / 2 - 1) := by
  show cond (Nat.beq i 0) v (cond (Nat.beq (i % 2) 1) (l.get (i / 2)) (r.get (i / 2 - 1))) = _
  simp only [cond_beq]
theorem Tr.set_leaf {α : Type} (i : Nat) (a : α) : (Tr.leaf : Tr α).set i a = Tr.mk (i + 1) i a := rfl
theorem Tr.set_node {α : Type} (v : Option α) (l r : Tr α) (i : Nat) (a : α) :
    (Tr.node v l r).set i a = cond (Nat.beq i 0) (.node (some a) l r) (cond (Nat.beq (i % 2) 1) (.node v (l.set (i / 2) a) r) (.node v l (r.set (i / 2 - 1) a))) := rfl

theorem Tr.get_mk {α : Type} (a : α) : ∀ (f i j : Nat), i < f → (Tr.mk f i a).get j = if i = j then some a else none := by
  intro f
  induction f with
  | zero => intro i j h; omega
  | succ f ih =>
    intro i j h
    simp only [Tr.mk, cond_beq]
    by_cases hi : i = 0
    · rw [if_pos hi, Tr.get_node]
      by_cases hj : j = 0
      · simp [hi, hj]
      · have hij : ¬ i = j := by omega
        rw [if_neg hj, if_neg hij]; simp [Tr.get_leaf]
    · rw [if_neg hi]
      by_cases ho : i % 2 = 1
      · rw [if_pos ho, Tr.get_node]
        by_cases hj : j = 0
        · rw [if_pos hj, if_neg (by omega)]
        · rw [if_neg hj]
          by_cases hjo : j % 2 = 1
          · rw [if_pos hjo, ih _ _ (by omega)]
            by_cases e : i = j
            · subst e; simp
            · rw [if_neg (by omega), if_neg e]
          · rw [if_neg hjo, Tr.get_leaf, if_neg (by omega)]
      · rw [if_neg ho, Tr.get_node]
        by_cases hj : j = 0
        · rw [if_pos hj, if_neg (by omega)]
        · rw [if_neg hj]
          by_cases hjo : j % 2 = 1
          · rw [if_pos hjo, Tr.get_leaf, if_neg (by omega)]
          · rw [if_neg hjo, ih _ _ (by omega)]
            by_cases e : i = j
            · subst e; simp
            · rw [if_neg (by omega), if_neg e]

theorem Tr.get_set {α : Type} (a : α) : ∀ (t : Tr α) (i j : Nat), (t.set i a).get j = if i = j then some a else t.get j := by
  intro t
  induction t with
  | leaf => intro i j; rw [Tr.set_leaf]; rw [Tr.get_mk a (i + 1) i j (by omega), Tr.get_leaf]
  | node v l r ihl ihr =>
    intro i j
    simp only [Tr.set_node, cond_beq]
    by_cases hi : i = 0
    · rw [if_pos hi, Tr.get_node, Tr.get_node]
      by_cases hj : j = 0
      · simp [hi, hj]
      · have hij : ¬ i = j := by omega
        rw [if_neg hj, if_neg hj, if_neg hij]
    · rw [if_neg hi]
      by_cases ho : i % 2 = 1
      · rw [if_pos ho, Tr.get_node, Tr.get_node]
        by_cases hj : j = 0
        · rw [if_pos hj, if_pos hj, if_neg (by omega)]
        · rw [if_neg hj, if_neg hj]
          by_cases hjo : j % 2 = 1
          · rw [if_pos hjo, if_pos hjo, ihl]
            by_cases e : i = j
            · subst e; simp
            · rw [if_neg (by omega), if_neg e]
          · rw [if_neg hjo, if_neg hjo, if_neg (by omega)]
      · rw [if_neg ho, Tr.get_node, Tr.get_node]
        by_cases hj : j = 0
        · rw [if_pos hj, if_pos hj, if_neg (by omega)]
        · rw [if_neg hj, if_neg hj]
          by_cases hjo : j % 2 = 1
          · rw [if_pos hjo, if_pos hjo, if_neg (by omega)]
          · rw [if_neg hjo, if_neg hjo, ihr]
            by_cases e : i = j
            · subst e; simp
            · rw [if_neg (by omega), if_neg e]

theorem Heap.get_eq (H : Heap) (l : Nat) : H.get l = if l < H.n then H.t.get l else none := by simp only [Heap.get, cond_blt]
theorem Heap.lt {H : Heap} {l : Nat} {o : O} (h : H.get l = some o) : l < H.n := by
  rw [Heap.get_eq] at h
  split at h
  · assumption
  · cases h
theorem Heap.get_push (H : Heap) (o : O) (l : Nat) : (H.push o).get l = if l = H.n then some o else H.get l := by
  simp only [Heap.get_eq, Heap.push, Tr.get_set]
  by_cases h : l = H.n
  · subst h; simp
  · rw [if_neg h]
    by_cases h2 : l < H.n
    · rw [if_pos (by omega), if_neg (by omega), if_pos h2]
    · rw [if_neg (by omega), if_neg h2]
theorem Heap.get_put {H : Heap} {l : Nat} (hl : l < H.n) (o : O) (k : Nat) : (H.put l o).get k = if k = l then some o else H.get k := by
  simp only [Heap.get_eq, Heap.put, Tr.get_set]
  by_cases h : k = l
  · subst h; simp [hl]
  · have h' : ¬ l = k := fun e => h e.symm
    simp only [if_neg h, if_neg h']
@[simp] theorem Heap.n_push (H : Heap) (o : O) : (H.push o).n = H.n + 1 := rfl
@[simp] theorem Heap.n_put (H : Heap) (l : Nat) (o : O) : (H.put l o).n = H.n := rfl

theorem Ts.get_put (s : Ts) (i : Nat) (v : V) (j : Nat) : (s.put i v).get j = if i = j ∧ i < s.n then v else s.get j := by
  simp only [Ts.put, Ts.get, cond_blt]
  by_cases h : i < s.n
  · rw [if_pos h]; simp only [Tr.get_set]
    by_cases e : i = j <;> simp [e, h]
    intro h'; omega
  · rw [if_neg h, if_neg (fun e => h e.2)]
@[simp] theorem Ts.n_put (s : Ts) (i : Nat) (v : V) : (s.put i v).n = s.n := by
  simp only [Ts.put, cond_blt]; split <;> rfl
end Go.Am
