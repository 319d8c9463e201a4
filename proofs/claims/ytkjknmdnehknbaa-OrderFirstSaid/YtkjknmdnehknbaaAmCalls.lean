import Derived.Test.YtkjknmdnehknbaaAmExec
set_option linter.unusedSimpArgs false
set_option linter.unusedVariables false
/- Calls: built-in functions, functions, methods, yield. -/
namespace Go.Am
open Go

variable {P : Program} {T : Tab} {μ : Mu} {H : Heap} {w : World}

theorem len_congr {ts : Array TypeId} {t : TypeId} (h : ts[0]? = some t) (ty : TypeId) (us : Array Value) : Builtin.len_ ts ty us = Builtin.len_ #[t] ty us := by
  unfold Builtin.len_; rw [h]; rfl
theorem cap_congr {ts : Array TypeId} {t : TypeId} (h : ts[0]? = some t) (ty : TypeId) (us : Array Value) : Builtin.cap_ ts ty us = Builtin.cap_ #[t] ty us := by
  unfold Builtin.cap_; rw [h]; rfl
theorem append_congr {ts : Array TypeId} {t t' : TypeId} (h : ts[0]? = some t) (h' : ts[1]? = some t') (ty : TypeId) (us : Array Value) : Builtin.append_ ts ty us = Builtin.append_ #[t, t'] ty us := by
  unfold Builtin.append_; rw [h, h']; rfl

theorem RVL.one {x : V} {us : List Value} (h : RVL μ [x] us) : ∃ u, us = [u] ∧ RV μ x u := by
  cases h with
  | cons h t => cases t; exact ⟨_, rfl, h⟩
theorem RVL.two {x y : V} {us : List Value} (h : RVL μ [x, y] us) : ∃ u v, us = [u, v] ∧ RV μ x u ∧ RV μ y v := by
  cases h with
  | cons h t => cases t with
    | cons h2 t => cases t; exact ⟨_, _, rfl, h, h2⟩

theorem builtin_len (hT : TabOk P T) (h : Sim μ H w) {ts : Array TypeId} {ty : TypeId} {cs : Array Bool} {x : V} {us : List Value} {v : V} {H' : Heap} (hr : RVL μ [x] us) (e : builtin T H .len ts [x] = .val v H') : Made P μ H w (Go.builtin .len ts ty cs ⟨us⟩) v H' := by
  obtain ⟨u, rfl, hu⟩ := hr.one
  simp only [Am.builtin] at e
  split at e
  · cases e
  rename_i t ht
  show Made P μ H w (do pure (.value (← Builtin.len_ ts ty #[u]))) v H'
  rw [len_congr ht]
  split at e
  · rename_i hd
    split at e
    · rename_i s; cases e; exact (good_len hT h hu hd (.inl ⟨s, rfl, rfl, rfl⟩)).made
    · cases e
  · rename_i el hd
    split at e
    · rename_i l o n s c; cases e; exact (good_len hT h hu hd (.inr (.inl ⟨el, rfl, .inl ⟨l, o, s, c, rfl⟩⟩))).made
    · cases e; exact (good_len hT h hu hd (.inr (.inl ⟨el, rfl, .inr ⟨rfl, rfl⟩⟩))).made
    · cases e
  · rename_i k el hd
    split at e
    · cases e; exact (good_len hT h hu hd (.inr (.inr ⟨k, el, rfl, .inl ⟨rfl, rfl⟩⟩))).made
    · rename_i r
      split at e
      · rename_i es hg; cases e; exact (good_len hT h hu hd (.inr (.inr ⟨k, el, rfl, .inr ⟨r, es, rfl, hg, rfl⟩⟩))).made
      · cases e
    · cases e
  · cases e

theorem builtin_cap (hT : TabOk P T) (h : Sim μ H w) {ts : Array TypeId} {ty : TypeId} {cs : Array Bool} {x : V} {us : List Value} {v : V} {H' : Heap} (hr : RVL μ [x] us) (e : builtin T H .cap ts [x] = .val v H') : Made P μ H w (Go.builtin .cap ts ty cs ⟨us⟩) v H' := by
  obtain ⟨u, rfl, hu⟩ := hr.one
  simp only [Am.builtin] at e
  split at e
  · cases e
  rename_i t ht
  show Made P μ H w (do pure (.value (← Builtin.cap_ ts ty #[u]))) v H'
  rw [cap_congr ht]
  split at e
  · rename_i el hd
    split at e
    · rename_i l o n s c; cases e; exact (good_cap hT h hu hd (.inl ⟨l, o, n, s, rfl⟩)).made
    · cases e; exact (good_cap hT h hu hd (.inr ⟨rfl, rfl⟩)).made
    · cases e
  · cases e

theorem builtin_append (hT : TabOk P T) (h : Sim μ H w) {ts : Array TypeId} {ty : TypeId} {cs : Array Bool} {x y : V} {us : List Value} {v : V} {H' : Heap} (hr : RVL μ [x, y] us) (e : builtin T H .append ts [x, y] = .val v H') : Made P μ H w (Go.builtin .append ts ty cs ⟨us⟩) v H' := by
  obtain ⟨u, u2, rfl, hu, hu2⟩ := hr.two
  simp only [Am.builtin] at e
  split at e
  · rename_i t0 t1 h0 h1
    show Made P μ H w (do pure (.value (← Builtin.append_ ts ty #[u, u2]))) v H'
    rw [append_congr h0 h1]
    exact (good_append hT h hu hu2 (OR.ofVH_val e)).made
  · cases e

theorem builtin_copy (hT : TabOk P T) (h : Sim μ H w) {ts : Array TypeId} {ty : TypeId} {cs : Array Bool} {x y : V} {us : List Value} {v : V} {H' : Heap} (hr : RVL μ [x, y] us) (e : builtin T H .copy ts [x, y] = .val v H') : Made P μ H w (Go.builtin .copy ts ty cs ⟨us⟩) v H' := by
  obtain ⟨u, u2, rfl, hu, hu2⟩ := hr.two
  simp only [Am.builtin] at e
  split at e
  · rename_i t0 h0
    show Made P μ H w (do pure (.value (← Builtin.copy_ ts ty #[u, u2]))) v H'
    exact (good_copy hT h h0 hu hu2 (OR.ofVH_val e)).made
  · cases e

theorem builtin_clear (hT : TabOk P T) (h : Sim μ H w) {ts : Array TypeId} {ty : TypeId} {cs : Array Bool} {x : V} {us : List Value} {v : V} {H' : Heap} (hr : RVL μ [x] us) (e : builtin T H .clear ts [x] = .val v H') : Made P μ H w (Go.builtin .clear ts ty cs ⟨us⟩) v H' := by
  obtain ⟨u, rfl, hu⟩ := hr.one
  simp only [Am.builtin] at e
  split at e
  · rename_i t0 h0
    show Made P μ H w (do pure (.value (← Builtin.clear_ ts ty #[u]))) v H'
    split at e
    · rename_i el hd; cases e; exact (good_clear0 hT h h0 hu hd (.inl rfl)).made
    · rename_i el l o n s c hd
      split at e
      · rename_i z hz
        simp only [cond_beq] at e
        split at e
        · rename_i hzl
          split at e
          · rename_i hn; subst hn; cases e; exact (good_clear0 hT h h0 hu hd (.inr ⟨l, o, s, c, rfl⟩)).made
          · rename_i hn
            obtain ⟨e0, hH⟩ := OR.ofH_val e
            subst hH
            exact (good_clear hT h h0 hu hd hz hzl hn e0).made
        · cases e
      · cases e
    · cases e
  · cases e

theorem builtin_minmax (h : Sim μ H w) {b : Builtin} (hb : b = .min ∨ b = .max) {ts : Array TypeId} {ty : TypeId} {cs : Array Bool} {x : V} {xs : List V} {us : List Value} {v : V} {H' : Heap} (hr : RVL μ (x :: xs) us) (e : builtin T H b ts (x :: xs) = .val v H') :
    Made P μ H w (Go.builtin b ts ty cs ⟨us⟩) v H' := by
  cases hr with
  | cons hx t =>
  rcases hb with rfl | rfl
  · have e' : OR.ofV H (extremum (fun b a => decide (b < a)) x xs) = .val v H' := by
      cases xs <;> simpa [Am.builtin] using e
    obtain ⟨e0, hH⟩ := OR.ofV_val e'
    subst hH
    obtain ⟨u', h1, h2⟩ := good_min (P := P) h t hx e0
    have g : VGood P μ H' w (Builtin.min_ ts ty ⟨_ :: _⟩) v H' := .same h (by simpa [Builtin.min_] using h1) h2
    exact g.made
  · have e' : OR.ofV H (extremum (fun b a => decide (b > a)) x xs) = .val v H' := by
      cases xs <;> simpa [Am.builtin] using e
    obtain ⟨e0, hH⟩ := OR.ofV_val e'
    subst hH
    obtain ⟨u', h1, h2⟩ := good_max (P := P) h t hx e0
    have g : VGood P μ H' w (Builtin.max_ ts ty ⟨_ :: _⟩) v H' := .same h (by simpa [Builtin.max_] using h1) h2
    exact g.made

theorem builtin_val (hT : TabOk P T) (h : Sim μ H w) {b : Builtin} {ts : Array TypeId} {ty : TypeId} {cs : Array Bool} {args : List V} {us : List Value} {v : V} {H' : Heap} (hr : RVL μ args us)
    (e : builtin T H b ts args = .val v H') : Made P μ H w (Go.builtin b ts ty cs ⟨us⟩) v H' := by
  have e' := e
  unfold Am.builtin at e
  split at e
  · exact builtin_len hT h hr e'
  · exact builtin_cap hT h hr e'
  · exact builtin_append hT h hr e'
  · exact builtin_copy hT h hr e'
  · exact builtin_clear hT h hr e'
  · exact builtin_minmax h (.inl rfl) hr e'
  · exact builtin_minmax h (.inr rfl) hr e'
  · cases e
  · cases e

theorem builtin_kind {b : Builtin} {ts : Array TypeId} {args : List V} {r : OR} (e : builtin T H b ts args = r) : r = .stuck ∨ r = .recover ∨ ∃ v H', r = .val v H' := by
  subst e
  unfold Am.builtin
  simp only [cond_beq]
  repeat' split
  all_goals first | exact .inl rfl | exact .inr (.inl rfl) | exact .inr (.inr ⟨_, _, rfl⟩) | (unfold OR.ofVH; split <;> first | exact .inl rfl | exact .inr (.inr ⟨_, _, rfl⟩)) | (unfold OR.ofV; split <;> first | exact .inl rfl | exact .inr (.inr ⟨_, _, rfl⟩)) | (unfold OR.ofH; split <;> first | exact .inl rfl | exact .inr (.inr ⟨_, _, rfl⟩))
end Go.Am
