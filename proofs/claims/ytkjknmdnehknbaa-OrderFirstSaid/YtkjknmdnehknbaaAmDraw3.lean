import Derived.Test.YtkjknmdnehknbaaAmDraw2
set_option linter.unusedSimpArgs false
set_option linter.unusedVariables false
/- Where in a run of steps an operation stands. -/
namespace Go.Am
open Go

variable {T : Tab} {ev : Ev} {fuel : Nat} {ops : Array Oper} {k : Nat}

theorem Heap.get_put' (H : Heap) (q : Nat) (ob : O) (l : Nat) : (H.put q ob).get l = if l = q ∧ q < H.n then some ob else H.get l := by
  simp only [Heap.get_eq, Heap.put, Tr.get_set]
  by_cases h : l = q ∧ q < H.n
  · obtain ⟨rfl, hq⟩ := h
    simp [hq]
  · rw [if_neg h]
    by_cases h2 : l < H.n
    · rw [if_pos h2, if_pos h2, if_neg (fun e : q = l => h ⟨e.symm, by omega⟩)]
    · rw [if_neg h2, if_neg h2]

theorem put_get (a : A) (d : Option Tmp) (v : V) (t : Tmp) : (a.put d v).tmps.get t = if d = some t ∧ t < a.tmps.n then v else a.tmps.get t := by
  cases d with
  | none => simp [A.put]
  | some d =>
    simp only [A.put, Ts.get_put, Option.some.injEq]
    by_cases h : d = t
    · subst h; rfl
    · rw [if_neg (fun e => h e.1), if_neg (fun e => h e.1)]
@[simp] theorem put_n (a : A) (d : Option Tmp) (v : V) : (a.put d v).tmps.n = a.tmps.n := by cases d <;> simp [A.put]
@[simp] theorem put_defers (a : A) (d : Option Tmp) (v : V) : (a.put d v).defers = a.defers := by cases d <;> rfl

theorem step_loud {i : Nat} {o : Oper} {sn : List (Nat × Heap)} {a : A} {H H' : Heap} {v : V} (e : stepD T ev fuel ops k i o sn a H = some (v, .loud H')) : loud o.op = true ∧ wanted ops a o = true := by
  unfold stepD at e
  cases hw : wanted ops a o with
  | false => rw [hw] at e; cases e
  | true =>
    rw [hw] at e
    refine ⟨?_, rfl⟩
    unfold loud
    cases hq : quiet o.op with
    | true =>
      rw [hq] at e
      simp only [cond_true] at e
      split at e <;> cases e
    | false =>
      rw [hq] at e
      simp only [cond_true, cond_false] at e
      cases hr : reads o.op with
      | true =>
        rw [hr] at e
        simp only [cond_true] at e
        split at e
        · cases hst : stood T a o _ ((Region.before ops).getD i 0) sn with
          | false => rw [hst] at e; cases e
          | true => rw [hst] at e; cases e
        · cases e
      | false => rfl

structure Split (T : Tab) (ev : Ev) (fuel : Nat) (ops : Array Oper) (k : Nat) (σ : List Nat) (sn : List (Nat × Heap)) (a : A) (H : Heap) (i : Nat) (v : V) (f : Eff) (ai : A) (Hi : Heap) (sni : List (Nat × Heap)) (pre post : List Nat) : Prop where
  eq : σ = pre ++ i :: post
  step : ∃ o, ops[i]? = some o ∧ stepD T ev fuel ops k i o sni ai Hi = some (v, f)
  env : ∀ t, (∀ p ∈ pre, ∀ o, ops[p]? = some o → o.dst = some t → ¬ t < a.tmps.n) → ai.tmps.get t = a.tmps.get t
  env2 : ∀ p ∈ pre, ∀ o t, ops[p]? = some o → o.dst = some t → t < a.tmps.n → ∃ vp fp ap Hp sp, atD T ev fuel ops k σ sn a H p = some (vp, fp, ap, Hp, sp) ∧ ai.tmps.get t = vp
  n : ai.tmps.n = a.tmps.n
  heap : ∃ Ĥ, (∀ l o, Heap.get Ĥ l = some o → H.get l = some o ∨ ∃ p ∈ pre, l = k + p ∧ ∃ vp ap Hp sp, atD T ev fuel ops k σ sn a H p = some (vp, .made o, ap, Hp, sp)) ∧
    (Ĥ = Hi ∨ ∃ h ∈ pre, (h, Ĥ) ∈ sni ∧ ∃ vh H' ah Hh sh, atD T ev fuel ops k σ sn a H h = some (vh, .loud H', ah, Hh, sh))
  sub : ∀ q ∈ sn, q ∈ sni

theorem at_cons {i : Nat} {rest : List Nat} {sn : List (Nat × Heap)} {a : A} {H : Heap} {e : Nat} {o : Oper} {v : V} {f : Eff} (ho : ops[i]? = some o) (hs : stepD T ev fuel ops k i o sn a H = some (v, f)) :
    atD T ev fuel ops k (i :: rest) sn a H e = if i = e then some (v, f, a, H, sn) else atD T ev fuel ops k rest (nextS i H sn f) (a.put o.dst v) (nextH k i H f) e := by
  simp only [atD, ho, hs, cond_beq]

theorem at_inv {i : Nat} {rest : List Nat} {sn : List (Nat × Heap)} {a : A} {H : Heap} {e : Nat} {r : V × Eff × A × Heap × List (Nat × Heap)} (h : atD T ev fuel ops k (i :: rest) sn a H e = some r) :
    ∃ o v f, ops[i]? = some o ∧ stepD T ev fuel ops k i o sn a H = some (v, f) := by
  unfold atD at h
  split at h
  · cases h
  · rename_i o ho
    split at h
    · cases h
    · rename_i v f hs; exact ⟨o, v, f, ho, hs⟩

theorem at_mem : ∀ {σ : List Nat} {sn : List (Nat × Heap)} {a : A} {H : Heap} {e : Nat} {r : V × Eff × A × Heap × List (Nat × Heap)}, atD T ev fuel ops k σ sn a H e = some r → e ∈ σ
  | [], _, _, _, _, _, h => by simp [atD] at h
  | i :: rest, sn, a, H, e, r, h => by
    obtain ⟨o, v, f, ho, hs⟩ := at_inv h
    rw [at_cons ho hs] at h
    split at h
    · rename_i hi; subst hi; simp
    · exact List.mem_cons_of_mem _ (at_mem h)

theorem at_some : ∀ {σ : List Nat} {sn : List (Nat × Heap)} {a : A} {H : Heap} {r : A × Heap} {e : Nat}, runDraw T ev fuel ops (Region.before ops) k σ sn a H = some r → e ∈ σ → ∃ r, atD T ev fuel ops k σ sn a H e = some r
  | [], _, _, _, _, _, _, h => by simp at h
  | i :: rest, sn, a, H, r, e, hr, h => by
    obtain ⟨o, v, f, ho, hs, hr'⟩ := runDraw_cons hr
    rw [at_cons ho hs]
    split
    · exact ⟨_, rfl⟩
    · rename_i hi
      rcases List.mem_cons.1 h with rfl | h
      · exact absurd rfl hi
      · exact at_some hr' h

theorem at_split (hd : ∀ (i j : Nat) (x y : Oper) (d : Tmp), i ≠ j → ops[i]? = some x → ops[j]? = some y → x.dst = some d → y.dst ≠ some d) : ∀ {σ : List Nat} {sn : List (Nat × Heap)} {a : A} {H : Heap} {i : Nat} {v : V} {f : Eff} {ai : A} {Hi : Heap} {sni : List (Nat × Heap)}, σ.Nodup →
    atD T ev fuel ops k σ sn a H i = some (v, f, ai, Hi, sni) → ∃ pre post, Split T ev fuel ops k σ sn a H i v f ai Hi sni pre post
  | [], _, _, _, _, _, _, _, _, _, _, h => by simp [atD] at h
  | p :: rest, sn, a, H, i, v, f, ai, Hi, sni, hn, h => by
    obtain ⟨o, vp, fp, ho, hs⟩ := at_inv h
    have h0 := h
    rw [at_cons ho hs] at h
    split at h
    · rename_i hi; subst hi
      simp only [Option.some.injEq, Prod.mk.injEq] at h
      obtain ⟨rfl, rfl, rfl, rfl, rfl⟩ := h
      exact ⟨[], rest, rfl, ⟨o, ho, hs⟩, fun _ _ => rfl, fun _ h => by simp at h, rfl, ⟨H, fun _ _ e => .inl e, .inl rfl⟩, fun _ h => h⟩
    · rename_i hi
      rw [List.nodup_cons] at hn
      obtain ⟨pre, post, ih⟩ := at_split hd hn.2 h
      have hpre : ∀ q ∈ pre, q ≠ p := fun q hq e => hn.1 (by rw [ih.eq, ← e]; exact List.mem_append_left _ hq)
      have hat : ∀ q, q ≠ p → atD T ev fuel ops k (p :: rest) sn a H q = atD T ev fuel ops k rest (nextS p H sn fp) (a.put o.dst vp) (nextH k p H fp) q := fun q hq => by
        rw [at_cons ho hs, if_neg (Ne.symm hq)]
      refine ⟨p :: pre, post, by rw [ih.eq]; rfl, ih.step, ?_, ?_, by rw [ih.n]; simp, ?_, ?_⟩
      · intro t ht
        rw [ih.env t fun q hq o' ho' hd' => by rw [put_n]; exact ht q (List.mem_cons_of_mem _ hq) o' ho' hd', put_get]
        rw [if_neg]
        rintro ⟨h1, h2⟩
        exact ht p (by simp) o ho h1 h2
      · intro q hq o' t ho' hd' ht
        rcases List.mem_cons.1 hq with rfl | hq
        · refine ⟨vp, fp, a, H, sn, by rw [at_cons ho hs, if_pos rfl], ?_⟩
          rw [ho] at ho'; cases ho'
          rw [ih.env t fun q' hq' o'' ho'' hd'' => absurd hd'' (hd q q' o o'' t (Ne.symm (hpre q' hq')) ho ho'' hd'), put_get, if_pos ⟨hd', ht⟩]
        · obtain ⟨v1, f1, a1, H1, s1, e1, e2⟩ := ih.env2 q hq o' t ho' hd' (by rw [put_n]; exact ht)
          exact ⟨v1, f1, a1, H1, s1, by rw [hat q (hpre q hq)]; exact e1, e2⟩
      · obtain ⟨Ĥ, g1, g2⟩ := ih.heap
        have lift : ∀ l o1, (∃ q ∈ pre, l = k + q ∧ ∃ vq ap Hp sp, atD T ev fuel ops k rest (nextS p H sn fp) (a.put o.dst vp) (nextH k p H fp) q = some (vq, .made o1, ap, Hp, sp)) →
            ∃ q ∈ p :: pre, l = k + q ∧ ∃ vp ap Hp sp, atD T ev fuel ops k (p :: rest) sn a H q = some (vp, .made o1, ap, Hp, sp) := by
          rintro l o1 ⟨q, hq, hl, v1, a1, H1, s1, e⟩
          exact ⟨q, List.mem_cons_of_mem _ hq, hl, v1, a1, H1, s1, by rw [hat q (hpre q hq)]; exact e⟩
        cases fp with
        | still =>
          refine ⟨Ĥ, fun l o1 e => (g1 l o1 e).imp id (lift l o1), g2.imp id ?_⟩
          rintro ⟨q, hq, h1, v1, H1, a1, H2, s1, e⟩
          exact ⟨q, List.mem_cons_of_mem _ hq, h1, v1, H1, a1, H2, s1, by rw [hat q (hpre q hq)]; exact e⟩
        | made ob =>
          refine ⟨Ĥ, fun l o1 e => ?_, g2.imp id ?_⟩
          · rcases g1 l o1 e with h1 | h1
            · simp only [nextH] at h1
              rw [Heap.get_put'] at h1
              split at h1
              · rename_i hl
                cases h1
                exact .inr ⟨p, by simp, hl.1, vp, a, H, sn, by rw [at_cons ho hs, if_pos rfl]⟩
              · exact .inl h1
            · exact .inr (lift l o1 h1)
          · rintro ⟨q, hq, h1, v1, H1, a1, H2, s1, e⟩
            exact ⟨q, List.mem_cons_of_mem _ hq, h1, v1, H1, a1, H2, s1, by rw [hat q (hpre q hq)]; exact e⟩
        | loud H' => exact ⟨H, fun _ _ e => .inl e, .inr ⟨p, by simp, ih.sub _ (by simp [nextS]), vp, H', a, H, sn, by rw [at_cons ho hs, if_pos rfl]⟩⟩
      · intro q hq
        refine ih.sub q ?_
        cases fp <;> simp [nextS, hq]
end Go.Am
