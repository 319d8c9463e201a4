import Derived.Test.YtkjknmdnehknbaaAmCode3
set_option linter.unusedSimpArgs false
set_option linter.unusedVariables false
/- Regions that draw their order: what stands ahead of what; the small machine's own order as a list of steps. -/
namespace Go.Am
open Go

/-! ### Ancestors -/
def bits (acc : Array Nat) (o : Oper) : Nat := o.after.foldl (fun s e => if Region.binds .any e then s ||| 2 ^ e.on ||| acc.getD e.on 0 else s) 0

theorem before_eq (ops : Array Oper) : Region.before ops = ops.toList.foldl (fun acc o => acc.push (bits acc o)) #[] := by
  unfold Region.before bits
  rw [← Array.foldl_toList]

theorem before_go : ∀ (l : List Oper) (acc : Array Nat), 
    (l.foldl (fun acc o => acc.push (bits acc o)) acc).size = acc.size + l.length ∧
    (∀ i, i < acc.size → (l.foldl (fun acc o => acc.push (bits acc o)) acc).getD i 0 = acc.getD i 0) ∧
    (∀ j o, l[j]? = some o → ∃ acc' : Array Nat, acc'.size = acc.size + j ∧ (∀ i, i < acc'.size → acc'.getD i 0 = (l.foldl (fun acc o => acc.push (bits acc o)) acc).getD i 0) ∧
      (l.foldl (fun acc o => acc.push (bits acc o)) acc).getD (acc.size + j) 0 = bits acc' o)
  | [], acc => ⟨rfl, fun _ _ => rfl, fun j o h => by simp at h⟩
  | o :: l, acc => by
    obtain ⟨h1, h2, h3⟩ := before_go l (acc.push (bits acc o))
    simp only [List.foldl_cons]
    have hlow : ∀ i, i < acc.size → (l.foldl (fun acc o => acc.push (bits acc o)) (acc.push (bits acc o))).getD i 0 = acc.getD i 0 := by
      intro i hi
      rw [h2 i (by simp; omega), Array.getD_eq_getD_getElem?, Array.getD_eq_getD_getElem?, Array.getElem?_push, if_neg (by omega)]
    refine ⟨by rw [h1]; simp; omega, hlow, ?_⟩
    intro j o' hj
    cases j with
    | zero =>
      simp at hj; subst hj
      refine ⟨acc, rfl, fun i hi => (hlow i hi).symm, ?_⟩
      rw [Nat.add_zero, h2 _ (by simp), Array.getD_eq_getD_getElem?]
      simp
    | succ j =>
      obtain ⟨acc', e1, e2, e3⟩ := h3 j o' (by simpa using hj)
      refine ⟨acc', by rw [e1]; simp; omega, e2, ?_⟩
      rw [← e3]; congr 1; simp; omega

theorem bits_testBit (acc : Array Nat) (k : Nat) : ∀ (l : List Edge) (s : Nat), (l.foldl (fun s e => if Region.binds .any e then s ||| 2 ^ e.on ||| acc.getD e.on 0 else s) s).testBit k = true ↔
    s.testBit k = true ∨ ∃ e ∈ l, Region.binds .any e = true ∧ (e.on = k ∨ (acc.getD e.on 0).testBit k = true)
  | [], s => by simp
  | e :: l, s => by
    simp only [List.foldl_cons]
    rw [bits_testBit acc k l]
    by_cases hb : Region.binds .any e = true
    · rw [if_pos hb]
      simp only [Nat.testBit_or, Bool.or_eq_true, Nat.testBit_two_pow, decide_eq_true_eq, List.mem_cons]
      constructor
      · rintro (((h | h) | h) | ⟨e', he', h⟩)
        · exact .inl h
        · exact .inr ⟨e, .inl rfl, hb, .inl h⟩
        · exact .inr ⟨e, .inl rfl, hb, .inr h⟩
        · exact .inr ⟨e', .inr he', h⟩
      · rintro (h | ⟨e', rfl | he', h1, h2⟩)
        · exact .inl (.inl (.inl h))
        · rcases h2 with h2 | h2
          · exact .inl (.inl (.inr h2))
          · exact .inl (.inr h2)
        · exact .inr ⟨e', he', h1, h2⟩
    · rw [if_neg hb]
      constructor
      · rintro (h | ⟨e', he', h⟩)
        · exact .inl h
        · exact .inr ⟨e', List.mem_cons_of_mem _ he', h⟩
      · rintro (h | ⟨e', he', h1, h2⟩)
        · exact .inl h
        · rcases List.mem_cons.1 he' with rfl | he'
          · exact absurd h1 hb
          · exact .inr ⟨e', he', h1, h2⟩

/-- i must come ahead of j. -/
def Bef (ops : Array Oper) (j i : Nat) : Prop := ((Region.before ops).getD j 0).testBit i = true

theorem bef_iff {ops : Array Oper} {j : Nat} {o : Oper} (ho : ops[j]? = some o) (hback : ∀ e ∈ o.after, Region.binds .any e = true → e.on < j) (k : Nat) :
    Bef ops j k ↔ ∃ e ∈ o.after, Region.binds .any e = true ∧ (e.on = k ∨ Bef ops e.on k) := by
  unfold Bef
  have h := (before_go ops.toList #[]).2.2 j o (by simpa using ho)
  rw [← before_eq] at h
  obtain ⟨acc', e1, e2, e3⟩ := h
  simp only [List.size_toArray, List.length_nil, Nat.zero_add] at e1 e3
  rw [e3]
  unfold bits
  rw [← Array.foldl_toList, bits_testBit]
  simp only [Nat.zero_testBit, Bool.false_eq_true, false_or, Array.mem_toList_iff]
  constructor
  · rintro ⟨e, he, hb, h⟩
    refine ⟨e, he, hb, ?_⟩
    rw [← e2 _ (by rw [e1]; exact hback e he hb)]
    exact h
  · rintro ⟨e, he, hb, h⟩
    refine ⟨e, he, hb, ?_⟩
    rw [e2 _ (by rw [e1]; exact hback e he hb)]
    exact h

/-! ### What 'drawOk' says -/
structure Static (ops : Array Oper) (σ : List Nat) : Prop where
  apart : ∀ (i j : Nat) (x y : Oper), i ≠ j → ops[i]? = some x → ops[j]? = some y → ¬ Bef ops i j → ¬ Bef ops j i → apart ops x y = true ∨ apart ops y x = true
  back : ∀ (j : Nat) (o : Oper), ops[j]? = some o → ∀ e ∈ o.after, Region.binds .any e = true → e.on < j
  guard : ∀ (j : Nat) (o : Oper) (g : Nat) (b : Bool), ops[j]? = some o → o.guard = some (g, b) → Bef ops j g
  order : σ.Pairwise fun i j => i ≠ j ∧ ¬ Bef ops i j ∧ ∃ o, ops[j]? = some o ∧ (loud o.op = true → Bef ops j i)
  dsts : ∀ (i j : Nat) (x y : Oper) (d : Tmp), i ≠ j → ops[i]? = some x → ops[j]? = some y → x.dst = some d → y.dst ≠ some d
  all : ∀ i, i < ops.size → i ∈ σ
  mem : ∀ i, i ∈ σ → i < ops.size

theorem dstsOk_spec {ops : Array Oper} : ∀ {l : List Nat}, dstsOk ops l = true → l.Pairwise fun i j => ∀ d, (ops[i]?).bind (·.dst) = some d → (ops[j]?).bind (·.dst) ≠ some d
  | [], _ => .nil
  | i :: l, h => by
    simp only [dstsOk, Bool.and_eq_true] at h
    refine .cons ?_ (dstsOk_spec h.2)
    intro j hj d hd
    have h1 := h.1
    rw [hd] at h1
    simp only [List.all_eq_true] at h1
    have := h1 j hj
    simpa using this

theorem orderOk_spec {ops : Array Oper} : ∀ {l : List Nat}, orderOk ops (Region.before ops) l = true → l.Pairwise fun i j => i ≠ j ∧ ¬ Bef ops i j ∧ ∃ o, ops[j]? = some o ∧ (loud o.op = true → Bef ops j i)
  | [], _ => .nil
  | i :: l, h => by
    simp only [orderOk, Bool.and_eq_true, List.all_eq_true] at h
    refine .cons ?_ (orderOk_spec h.2)
    intro j hj
    have h1 := h.1 j hj
    obtain ⟨⟨h2, h3⟩, h4⟩ := h1
    refine ⟨?_, ?_, ?_⟩
    · intro e
      subst e
      simp at h2
    · unfold Bef
      intro hb
      rw [hb] at h3; cases h3
    · cases ho : ops[j]? with
      | none => rw [ho] at h4; cases h4
      | some o =>
        rw [ho] at h4
        refine ⟨o, rfl, fun hl => ?_⟩
        dsimp only at h4
        rw [hl] at h4
        simpa [Bef] using h4

theorem static_of {ops : Array Oper} (h : drawOk ops = true) : Static ops (sched ops (Region.before ops)) := by
  simp only [drawOk, Bool.and_eq_true] at h
  obtain ⟨⟨⟨⟨⟨h1, h2⟩, h3⟩, h4⟩, h5⟩, h6⟩ := h
  have hlt : ∀ {i : Nat} {x : Oper}, ops[i]? = some x → i < ops.size := fun {i x} e => by
    rcases Nat.lt_or_ge i ops.size with h' | h'
    · exact h'
    · rw [Array.getElem?_eq_none h'] at e; cases e
  have hap : ∀ (i j : Nat) (x y : Oper), i < j → ops[i]? = some x → ops[j]? = some y → ¬ Bef ops j i → apart ops x y = true := by
    intro i j x y hij hx hy hb
    unfold pairsOk at h1
    simp only [List.all_eq_true, List.mem_range] at h1
    have := h1 j (hlt hy) i hij
    rw [Bool.or_eq_true] at this
    rcases this with h | h
    · exact absurd h hb
    · rw [hx, hy] at h; exact h
  have hedge : ∀ (j : Nat) (o : Oper), ops[j]? = some o → (o.after.all fun e => !Region.binds .any e || Nat.blt e.on j) = true ∧ ∀ g b, o.guard = some (g, b) → Bef ops j g := by
    intro j o ho
    unfold edgesOk at h2
    simp only [List.all_eq_true, List.mem_range] at h2
    have := h2 j (hlt ho)
    rw [ho] at this
    dsimp only at this
    rw [Bool.and_eq_true] at this
    refine ⟨this.1, fun g b hg => ?_⟩
    have h7 := this.2
    rw [hg] at h7
    exact h7
  refine ⟨?_, ?_, ?_, orderOk_spec h3, ?_, ?_, ?_⟩
  · intro i j x y hne hx hy hb1 hb2
    rcases Nat.lt_or_gt_of_ne hne with hl | hl
    · exact .inl (hap i j x y hl hx hy hb2)
    · exact .inr (hap j i y x hl hy hx hb1)
  · intro j o ho e he hb
    have := (hedge j o ho).1
    rw [Array.all_eq_true_iff_forall_mem] at this
    have := this e he
    rw [hb] at this
    simpa using this
  · intro j o g b ho hg
    exact (hedge j o ho).2 g b hg
  · intro i j x y d hne hx hy hd hd'
    have hp := dstsOk_spec h4
    have hnd : ∀ i j, i < j → j < ops.size → ∀ d, (ops[i]?).bind (·.dst) = some d → (ops[j]?).bind (·.dst) ≠ some d := by
      intro i j hij hj
      rw [List.pairwise_iff_getElem] at hp
      have := hp i j (by simp; omega) (by simpa using hj) hij
      simpa using this
    rcases Nat.lt_or_gt_of_ne hne with hl | hl
    · exact hnd i j hl (hlt hy) d (by rw [hx]; exact hd) (by rw [hy]; exact hd')
    · exact hnd j i hl (hlt hx) d (by rw [hy]; exact hd') (by rw [hx]; exact hd)
  · intro i hi
    rw [List.all_eq_true] at h5
    have := h5 i (by simpa using hi)
    simpa using this
  · intro i hi
    rw [List.all_eq_true] at h6
    have := h6 i hi
    simpa using this

/-- Of two operations of which neither must come first, each keeps off the other's temporaries. -/
theorem Static.off {ops : Array Oper} {σ : List Nat} (hs : Static ops σ) {i j : Nat} {x y : Oper} (hne : i ≠ j) (hx : ops[i]? = some x) (hy : ops[j]? = some y) (h1 : ¬ Bef ops i j) (h2 : ¬ Bef ops j i)
    {d : Tmp} (hd : x.dst = some d) : d ∉ looks ops y := by
  rcases hs.apart i j x y hne hx hy h1 h2 with h | h
  · unfold Am.apart at h
    rw [hd] at h
    simp only [Bool.and_eq_true] at h
    have := h.1.1.1
    simpa using this
  · unfold Am.apart at h
    rw [hd] at h
    simp only [Bool.and_eq_true] at h
    have := h.1.2
    simpa using this

/-! ### The small machine's own order, step by step -/
inductive Eff where
  | still
  | made (o : O)
  | loud (H : Heap)

section
variable (T : Tab) (ev : Ev) (fuel : Nat) (ops : Array Oper) (k : Nat)

noncomputable def stepD (i : Nat) (o : Oper) (sn : List (Nat × Heap)) (a : A) (H : Heap) : Option (V × Eff) :=
  cond (wanted ops a o) (
    cond (quiet o.op) (match quietAt T a (k + i) o.op with
      | some (v, none) => some (v, .still)
      | some (v, some ob) => some (v, .made ob)
      | none => none)
    (cond (reads o.op) (match execOp T a H o.op with
      | .val v _ => cond (stood T a o v ((Region.before ops).getD i 0) sn) (some (v, .still)) none
      | _ => none)
    (match execOp T a H o.op with
      | .val v H' => some (v, .loud H')
      | .call f args => match calls T ev fuel f args H with
        | .returned v H' => some (v, .loud H')
        | _ => none
      | .round l args => match round ev l args H with
        | .returned v H' => some (v, .loud H')
        | _ => none
      | _ => none))) (some (undefV, .still))

noncomputable def nextH (i : Nat) (H : Heap) : Eff → Heap
  | .still => H
  | .made ob => H.put (k + i) ob
  | .loud H' => H'
noncomputable def nextS (i : Nat) (H : Heap) (sn : List (Nat × Heap)) : Eff → List (Nat × Heap)
  | .loud _ => (i, H) :: sn
  | _ => sn

/-- The step of operation e, in a run of these. -/
noncomputable def atD : List Nat → List (Nat × Heap) → A → Heap → Nat → Option (V × Eff × A × Heap × List (Nat × Heap))
  | [], _, _, _, _ => none
  | i :: rest, sn, a, H, e => match ops[i]? with
    | none => none
    | some o => match stepD T ev fuel ops k i o sn a H with
      | none => none
      | some (v, f) => cond (Nat.beq i e) (some (v, f, a, H, sn)) (atD rest (nextS i H sn f) (a.put o.dst v) (nextH k i H f) e)
end

variable {T : Tab} {ev : Ev} {fuel : Nat} {ops : Array Oper} {k : Nat}

theorem reads_same {a : A} {o : Op} {H H' : Heap} {v : V} (hr : reads o = true) (e : execOp T a H o = .val v H') : H' = H := by
  unfold reads at hr
  split at hr
  · simp only [Am.execOp] at e
    obtain ⟨u, h1, e0⟩ := op1_inv e (by simp)
    split at e0
    · unfold OR.ofV at e0
      split at e0
      · cases e0; rfl
      · cases e0
    · cases e0
  · cases hr

theorem runDraw_cons {i : Nat} {rest : List Nat} {sn : List (Nat × Heap)} {a : A} {H : Heap} {r : A × Heap} (e : runDraw T ev fuel ops (Region.before ops) k (i :: rest) sn a H = some r) :
    ∃ o v f, ops[i]? = some o ∧ stepD T ev fuel ops k i o sn a H = some (v, f) ∧ runDraw T ev fuel ops (Region.before ops) k rest (nextS i H sn f) (a.put o.dst v) (nextH k i H f) = some r := by
  unfold runDraw at e
  cases ho : ops[i]? with
  | none => rw [ho] at e; cases e
  | some o =>
    rw [ho] at e
    dsimp only at e
    refine ⟨o, ?_⟩
    unfold stepD
    cases hw : wanted ops a o with
    | false => rw [hw] at e; exact ⟨_, _, by trivial, rfl, e⟩
    | true =>
      rw [hw] at e
      simp only [cond_true] at e ⊢
      cases hq : quiet o.op with
      | true =>
        rw [hq] at e
        simp only [cond_true] at e ⊢
        split at e
        · rename_i v h1; rw [h1]; exact ⟨_, _, by trivial, rfl, e⟩
        · rename_i v ob h1; rw [h1]; exact ⟨_, _, by trivial, rfl, e⟩
        · cases e
      | false =>
        rw [hq] at e
        simp only [cond_false] at e ⊢
        cases hr : reads o.op with
        | true =>
          rw [hr] at e
          simp only [cond_true] at e ⊢
          split at e
          · rename_i v H' h1
            have := reads_same hr h1; subst this
            cases hst : stood T a o v ((Region.before ops).getD i 0) sn with
            | false => rw [hst] at e; cases e
            | true => rw [hst] at e; rw [h1]; dsimp only; rw [hst]; exact ⟨_, _, by trivial, rfl, e⟩
          · cases e
        | false =>
          rw [hr] at e
          simp only [cond_false] at e ⊢
          split at e
          · rename_i v H' h1; rw [h1]; exact ⟨_, _, by trivial, rfl, e⟩
          · rename_i g args h1
            rw [h1]
            dsimp only
            split at e
            · rename_i v H' h2; rw [h2]; exact ⟨_, _, by trivial, rfl, e⟩
            · cases e
          · rename_i l args h1
            rw [h1]
            dsimp only
            split at e
            · rename_i v H' h2; rw [h2]; exact ⟨_, _, by trivial, rfl, e⟩
            · cases e
          · cases e
end Go.Am
