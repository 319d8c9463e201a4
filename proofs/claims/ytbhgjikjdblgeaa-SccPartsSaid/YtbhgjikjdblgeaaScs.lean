import Derived.Test.YtbhgjikjdblgeaaOrd
set_option linter.unusedVariables false
set_option linter.unusedSimpArgs false
/- Graphs: how far one node leads to another one. No conditions. -/
namespace Go.Am.Scc
open Go.Am.Ord
abbrev Es := List (Nat × Nat)
def wk (E : Es) : Nat → Nat → Nat → Prop
 | 0, x, y => x = y
 | k + 1, x, y => ∃ z, wk E k x z ∧ (z, y) ∈ E
theorem wk_one {E : Es} {x y : Nat} : wk E 1 x y ↔ (x, y) ∈ E := by
 constructor
 · rintro ⟨z, rfl, h⟩; exact h
 · exact fun h => ⟨x, rfl, h⟩
theorem wk_add {E : Es} {k x y : Nat} (h : wk E k x y) : ∀ {m z : Nat}, wk E m y z → wk E (k + m) x z
 | 0, _, e => by cases e; exact h
 | m + 1, z, ⟨u, h1, h2⟩ => ⟨u, wk_add h h1, h2⟩
theorem wk_split {E : Es} {k x : Nat} : ∀ {m z : Nat}, wk E (k + m) x z → ∃ y, wk E k x y ∧ wk E m y z
 | 0, z, h => ⟨z, h, rfl⟩
 | m + 1, z, ⟨u, h1, h2⟩ => by
   obtain ⟨y, h3, h4⟩ := wk_split h1
   exact ⟨y, h3, u, h4, h2⟩
theorem wk_lt {E : Es} {n : Nat} (hE : ∀ p, p ∈ E → p.1 < n ∧ p.2 < n) {k x y : Nat} (hk : 0 < k) (h : wk E k x y) : y < n := by
 cases k with
 | zero => omega
 | succ k => obtain ⟨z, _, h2⟩ := h; exact (hE _ h2).2
def tr (E : Es) : Es := E.map fun p => (p.2, p.1)
theorem mem_tr {E : Es} {x y : Nat} : (x, y) ∈ tr E ↔ (y, x) ∈ E := by
 simp only [tr, List.mem_map, Prod.mk.injEq]
 constructor
 · rintro ⟨⟨a, b⟩, h, rfl, rfl⟩; exact h
 · exact fun h => ⟨_, h, rfl, rfl⟩
theorem wk_tr {E : Es} : ∀ {k x y : Nat}, wk (tr E) k x y ↔ wk E k y x
 | 0, x, y => ⟨Eq.symm, Eq.symm⟩
 | k + 1, x, y => by
   constructor
   · rintro ⟨z, h1, h2⟩
     have := wk_add (wk_one.2 (mem_tr.1 h2)) (wk_tr.1 h1)
     rwa [Nat.add_comm] at this
   · intro h
     obtain ⟨z, h1, h2⟩ := wk_split (k := 1) (m := k) (by rwa [Nat.add_comm])
     exact ⟨z, wk_tr.2 h2, mem_tr.2 (wk_one.1 h1)⟩
def IsDist (E : Es) (x y d : Nat) : Prop := (0 < d ∧ wk E d x y ∧ ∀ d', 0 < d' → wk E d' x y → d ≤ d') ∨ (d = 0 ∧ ∀ d', 0 < d' → ¬ wk E d' x y)
theorem IsDist.unique {E : Es} {x y d e : Nat} (h : IsDist E x y d) (h' : IsDist E x y e) : d = e := by
 rcases h with ⟨h1, h2, h3⟩ | ⟨rfl, h2⟩
 · rcases h' with ⟨k1, k2, k3⟩ | ⟨rfl, k2⟩
   · have := h3 e k1 k2; have := k3 d h1 h2; omega
   · exact absurd h2 (k2 d h1)
 · rcases h' with ⟨k1, k2, k3⟩ | ⟨rfl, k2⟩
   · exact absurd k2 (h2 e k1)
   · rfl
theorem least {p : Nat → Prop} : ∀ d, p d → ∃ m, p m ∧ ∀ e, p e → m ≤ e := by
 intro d
 induction d using Nat.strongRecOn with
 | ind d ih =>
   intro h
   rcases Classical.em (∃ e, e < d ∧ p e) with ⟨e, h1, h2⟩ | h1
   · exact ih e h1 h2
   · exact ⟨d, h, fun e he => by
      rcases Nat.lt_or_ge e d with h2 | h2
      · exact absurd ⟨e, h2, he⟩ h1
      · exact h2⟩
theorem exists_dist (E : Es) (x y : Nat) : ∃ d, IsDist E x y d := by
 rcases Classical.em (∃ d, 0 < d ∧ wk E d x y) with ⟨d, h⟩ | h
 · obtain ⟨m, ⟨h1, h2⟩, h3⟩ := least (p := fun d => 0 < d ∧ wk E d x y) d h
   exact ⟨m, .inl ⟨h1, h2, fun e he hw => h3 e ⟨he, hw⟩⟩⟩
 · exact ⟨0, .inr ⟨rfl, fun d hd hw => h ⟨d, hd, hw⟩⟩⟩
noncomputable def dist (E : Es) (x y : Nat) : Nat := Classical.choose (exists_dist E x y)
theorem dist_is (E : Es) (x y : Nat) : IsDist E x y (dist E x y) := Classical.choose_spec (exists_dist E x y)
theorem dist_eq {E : Es} {x y d : Nat} (h : IsDist E x y d) : dist E x y = d := (dist_is E x y).unique h
theorem dist_pos {E : Es} {x y : Nat} : 0 < dist E x y ↔ ∃ d, 0 < d ∧ wk E d x y := by
 rcases dist_is E x y with ⟨h1, h2, h3⟩ | ⟨h1, h2⟩
 · exact ⟨fun _ => ⟨_, h1, h2⟩, fun _ => h1⟩
 · exact ⟨fun h => by omega, fun ⟨d, hd, hw⟩ => absurd hw (h2 d hd)⟩
/-! ### The queue: what one node leads to, nearest first -/
structure Bfs (E : Es) (x : Nat) (out : Nat → Nat) (w : List Nat) (i : Nat) : Prop where
 head : w[0]? = some x
 told : ∀ y, 0 < out y ↔ y ∈ w.drop 1
 nodup : (w.drop 1).Nodup
 way : ∀ y, 0 < out y → wk E (out y) x y
 rising : ∀ j k (hj : j < k) (hk : k < w.length), (if j = 0 then 0 else out w[j]) ≤ (if k = 0 then 0 else out w[k])
 done : ∀ j (hj : j < i) (hw : j < w.length) y, (w[j], y) ∈ E → 0 < out y ∧ out y ≤ (if j = 0 then 0 else out w[j]) + 1
theorem Bfs.all {E : Es} {x : Nat} {out : Nat → Nat} {w : List Nat} {i : Nat} (h : Bfs E x out w i) (hi : w.length ≤ i) (y : Nat) : out y = dist E x y := by
 have key : ∀ d, 0 < d → ∀ y, wk E d x y → 0 < out y ∧ out y ≤ d := by
  intro d
  induction d with
  | zero => intro hd; omega
  | succ d ih =>
    intro _ y hw
    obtain ⟨z, h1, h2⟩ := hw
    by_cases hd : d = 0
    · subst hd
      cases h1
      have hl : 0 < w.length := by
       rcases Nat.lt_or_ge 0 w.length with h' | h'
       · exact h'
       · have := h.head; rw [List.getElem?_eq_none h'] at this; cases this
      have hx : w[0] = x := by have := h.head; rw [List.getElem?_eq_getElem hl] at this; exact Option.some.inj this
      have := h.done 0 (by omega) hl y (by rw [hx]; exact h2)
      simpa using this
    · obtain ⟨a, b⟩ := ih (by omega) z h1
      obtain ⟨j, hj, e⟩ := List.mem_iff_getElem.1 ((h.told z).1 a)
      have hj' : j + 1 < w.length := by simp only [List.length_drop] at hj; omega
      have e' : w[j + 1] = z := by rw [← e, List.getElem_drop]; congr 1; omega
      have := h.done (j + 1) (by omega) hj' y (by rw [e']; exact h2)
      rw [if_neg (by omega), e'] at this
      omega
 refine (dist_eq ?_).symm
 rcases Nat.eq_zero_or_pos (out y) with h0 | h0
 · refine .inr ⟨h0, fun d hd hw => ?_⟩
   have := (key d hd y hw).1; omega
 · exact .inl ⟨h0, h.way y h0, fun d hd hw => (key d hd y hw).2⟩
def dk (out : Nat → Nat) (w : List Nat) (k : Nat) : Nat := if k = 0 then 0 else out (w.getD k 0)
theorem dk_eq {out : Nat → Nat} {w : List Nat} {k : Nat} (h : k < w.length) : (if k = 0 then 0 else out w[k]) = dk out w k := by
 unfold dk
 split
 · rfl
 · simp [List.getD_eq_getElem?_getD, h]
structure Mid (E : Es) (x : Nat) (out : Nat → Nat) (w : List Nat) (i : Nat) (S : List Nat) : Prop where
 bfs : Bfs E x out w i
 lt : i < w.length
 near : ∀ k, k < w.length → dk out w k ≤ dk out w i + 1
 seen : ∀ y, y ∈ S → 0 < out y ∧ out y ≤ dk out w i + 1
 low : ∀ k, k < w.length → dk out w k ≤ k
theorem Bfs.pos {E : Es} {x : Nat} {out : Nat → Nat} {w : List Nat} {i : Nat} (h : Bfs E x out w i) {k : Nat} (h0 : k ≠ 0) (hk : k < w.length) : 0 < out w[k] :=
 (h.told _).2 (List.mem_iff_getElem.2 ⟨k - 1, by simp; omega, by rw [List.getElem_drop]; congr 1; omega⟩)
theorem Mid.old {E : Es} {x : Nat} {out : Nat → Nat} {w : List Nat} {i : Nat} {S : List Nat} (h : Mid E x out w i S) {y : Nat} (hy : 0 < out y) : Mid E x out w i (S ++ [y]) := by
 refine ⟨h.bfs, h.lt, h.near, fun z hz => ?_, h.low⟩
 rcases List.mem_append.1 hz with hz | hz
 · exact h.seen z hz
 · have : z = y := by simpa using hz
   subst this
   obtain ⟨j, hj, e⟩ := List.mem_iff_getElem.1 ((h.bfs.told z).1 hy)
   have hj' : j + 1 < w.length := by simp only [List.length_drop] at hj; omega
   have e' : w[j + 1] = z := by rw [← e, List.getElem_drop]; congr 1; omega
   have := h.near (j + 1) hj'
   rw [← dk_eq hj', if_neg (by omega), e'] at this
   exact ⟨hy, this⟩
def updN (out : Nat → Nat) (y d : Nat) : Nat → Nat := fun z => if z = y then d else out z
theorem Mid.new {E : Es} {x : Nat} {out : Nat → Nat} {w : List Nat} {i : Nat} {S : List Nat} (h : Mid E x out w i S) {y : Nat} (hy : out y = 0) (he : (w[i]'h.lt, y) ∈ E) :
  Mid E x (updN out y (dk out w i + 1)) (w ++ [y]) i (S ++ [y]) := by
 have hlt := h.lt
 have hne : ∀ k (h0 : k ≠ 0) (hk : k < w.length), w[k] ≠ y := fun k h0 hk e => by have := h.bfs.pos h0 hk; rw [e] at this; omega
 have hdk : ∀ k, k < w.length → dk (updN out y (dk out w i + 1)) (w ++ [y]) k = dk out w k := by
  intro k hk
  rw [← dk_eq (by simp; omega), ← dk_eq hk]
  by_cases h0 : k = 0
  · rw [if_pos h0, if_pos h0]
  · rw [if_neg h0, if_neg h0, List.getElem_append_left hk]
    simp only [updN]
    rw [if_neg (hne k h0 hk)]
 have hdl : dk (updN out y (dk out w i + 1)) (w ++ [y]) w.length = dk out w i + 1 := by
  rw [← dk_eq (by simp), if_neg (by omega)]
  simp [updN]
 have hup : ∀ z, 0 < out z → updN out y (dk out w i + 1) z = out z := fun z hz => by
  simp only [updN]
  rw [if_neg (fun e => by rw [e] at hz; omega)]
 have hdrop : (w ++ [y]).drop 1 = w.drop 1 ++ [y] := by rw [List.drop_append_of_le_length (by omega)]
 refine ⟨⟨?_, ?_, ?_, ?_, ?_, ?_⟩, by simp; omega, ?_, ?_, ?_⟩
 · rw [List.getElem?_append_left (by omega)]; exact h.bfs.head
 · intro z
   rw [hdrop, List.mem_append, List.mem_singleton]
   by_cases e : z = y
   · subst e; simp [updN]
   · simp only [updN, if_neg e, e, or_false]; exact h.bfs.told z
 · rw [hdrop, List.nodup_append]
   refine ⟨h.bfs.nodup, by simp, fun a ha b hb e => ?_⟩
   have : b = y := by simpa using hb
   subst this; subst e
   have := (h.bfs.told a).2 ha; omega
 · intro z hz
   by_cases e : z = y
   · subst e
     simp only [updN, if_true]
     refine ⟨w[i], ?_, he⟩
     rw [← dk_eq hlt]
     by_cases h0 : i = 0
     · subst h0
       rw [if_pos rfl]
       have := h.bfs.head
       rw [List.getElem?_eq_getElem hlt] at this
       exact (Option.some.inj this).symm
     · rw [if_neg h0]; exact h.bfs.way _ (h.bfs.pos h0 hlt)
   · simp only [updN, if_neg e] at hz ⊢
     exact h.bfs.way z hz
 · intro j k hj hk
   rw [dk_eq (by omega), dk_eq hk]
   by_cases e : k < w.length
   · rw [hdk j (by omega), hdk k e]
     have := h.bfs.rising j k hj e
     rwa [dk_eq (by omega), dk_eq e] at this
   · have : k = w.length := by simp at hk; omega
     subst this
     rw [hdk j hj, hdl]
     exact h.near j hj
 · intro j hj hw z hz
   rw [dk_eq hw, hdk j (by omega)]
   rw [List.getElem_append_left (by omega)] at hz
   have := h.bfs.done j hj (by omega) z hz
   rw [dk_eq (by omega)] at this
   rw [hup z this.1]; exact this
 · intro k hk
   rw [hdk i hlt]
   by_cases e : k < w.length
   · rw [hdk k e]; exact h.near k e
   · have : k = w.length := by simp at hk; omega
     subst this
     rw [hdl]; exact Nat.le_refl _
 · intro z hz
   rw [hdk i hlt]
   rcases List.mem_append.1 hz with hz | hz
   · have := h.seen z hz
     rw [hup z this.1]; exact this
   · have : z = y := by simpa using hz
     subst this
     simp [updN]
 · intro k hk
   by_cases e : k < w.length
   · rw [hdk k e]; exact h.low k e
   · have : k = w.length := by simp at hk; omega
     subst this
     rw [hdl]
     have := h.low i hlt
     omega
theorem Mid.next {E : Es} {x : Nat} {out : Nat → Nat} {w : List Nat} {i : Nat} {S : List Nat} (h : Mid E x out w i S) (hS : ∀ y, (w[i]'h.lt, y) ∈ E → y ∈ S) :
  Bfs E x out w (i + 1) ∧ (i + 1 < w.length → Mid E x out w (i + 1) []) := by
 have hb : Bfs E x out w (i + 1) := ⟨h.bfs.head, h.bfs.told, h.bfs.nodup, h.bfs.way, h.bfs.rising, fun j hj hw y hy => by
  by_cases e : j = i
  · subst e
    rw [dk_eq hw]
    exact h.seen y (hS y hy)
  · exact h.bfs.done j (by omega) hw y hy⟩
 refine ⟨hb, fun hl => ⟨hb, hl, fun k hk => ?_, fun y hy => (by cases hy), h.low⟩⟩
 have a := h.near k hk
 have b := h.bfs.rising i (i + 1) (by omega) hl
 rw [dk_eq h.lt, dk_eq hl] at b
 omega
theorem Bfs.start (E : Es) (x : Nat) : Mid E x (fun _ => 0) [x] 0 [] :=
 ⟨⟨rfl, by simp, by simp, fun y h => by omega, fun j k hj hk => by simp at hk; omega, fun j hj => by omega⟩, by simp, fun k hk => by simp at hk; subst hk; simp [dk], fun y hy => (by cases hy), fun k hk => by simp at hk; subst hk; simp [dk]⟩
theorem Bfs.short {E : Es} {x n : Nat} {out : Nat → Nat} {w : List Nat} {i : Nat} (h : Bfs E x out w i) (hE : ∀ p, p ∈ E → p.1 < n ∧ p.2 < n) : w.length ≤ n + 1 := by
 have := sub_length (w.drop 1) (List.range n) h.nodup fun y hy => by
  have hp := (h.told y).2 hy
  exact List.mem_range.2 (wk_lt hE hp (h.way y hp))
 rw [List.length_range, List.length_drop] at this
 omega
/-! ### Step by step, as the document has it -/
noncomputable def qual (E : Es) (x s : Nat) (p : Nat × Nat) : Bool := if s = 0 then decide (p.1 = x) else decide (dist E x p.1 = s)
noncomputable def outS (E : Es) (x s j y : Nat) : Nat := if 0 < dist E x y ∧ dist E x y ≤ s then dist E x y else if (E.take j).any (fun p => decide (p.2 = y) && qual E x s p) then s + 1 else 0
/-! ### Going through a graph: what is marked -/
structure Dfs (E : Es) (f f' : Nat → Bool) (x : Nat) : Prop where
 mono : ∀ y, f y = true → f' y = true
 here : f' x = true
 way : ∀ y, f' y = true → f y = true ∨ ∃ k, wk E k x y
 closed : ∀ y z, f' y = true → f y = false → (y, z) ∈ E → f' z = true
theorem Dfs.stop {E : Es} {f : Nat → Bool} {x : Nat} (h : f x = true) : Dfs E f f x := ⟨fun _ h => h, h, fun _ h => .inl h, fun y z h1 h2 => by rw [h1] at h2; cases h2⟩
def markN (f : Nat → Bool) (x : Nat) : Nat → Bool := fun y => decide (y = x) || f y
structure DfsMid (E : Es) (f g : Nat → Bool) (x : Nat) (S : List Nat) : Prop where
 mono : ∀ y, markN f x y = true → g y = true
 way : ∀ y, g y = true → markN f x y = true ∨ ∃ k, wk E k x y
 closed : ∀ y z, g y = true → markN f x y = false → (y, z) ∈ E → g z = true
 seen : ∀ y, y ∈ S → g y = true
theorem DfsMid.start (E : Es) (f : Nat → Bool) (x : Nat) : DfsMid E f (markN f x) x [] := ⟨fun _ h => h, fun _ h => .inl h, fun y z h1 h2 => (by rw [h1] at h2; cases h2), fun y h => (by cases h)⟩
theorem DfsMid.step {E : Es} {f g g' : Nat → Bool} {x k : Nat} {S : List Nat} (h : DfsMid E f g x S) (d : Dfs E g g' k) (he : (x, k) ∈ E) : DfsMid E f g' x (S ++ [k]) := by
 refine ⟨fun y hy => d.mono y (h.mono y hy), fun y hy => ?_, fun y z hy hm hz => ?_, fun y hy => ?_⟩
 · rcases d.way y hy with h1 | ⟨m, h1⟩
   · exact h.way y h1
   · exact .inr ⟨1 + m, wk_add (wk_one.2 he) h1⟩
 · cases hg : g y with
   | true => exact d.mono z (h.closed y z hg hm hz)
   | false => exact d.closed y z hy hg hz
 · rcases List.mem_append.1 hy with hy | hy
   · exact d.mono y (h.seen y hy)
   · have : y = k := by simpa using hy
     subst this; exact d.here
theorem DfsMid.done {E : Es} {f g : Nat → Bool} {x : Nat} {S : List Nat} (h : DfsMid E f g x S) (hS : ∀ y, (x, y) ∈ E → y ∈ S) : Dfs E f g x := by
 refine ⟨fun y hy => h.mono y (by simp [markN, hy]), h.mono x (by simp [markN]), fun y hy => ?_, fun y z hy hf hz => ?_⟩
 · rcases h.way y hy with h1 | h1
   · simp only [markN, Bool.or_eq_true, decide_eq_true_eq] at h1
     rcases h1 with rfl | h1
     · exact .inr ⟨0, rfl⟩
     · exact .inl h1
   · exact .inr h1
 · by_cases e : y = x
   · subst e; exact h.seen z (hS z hz)
   · exact h.closed y z hy (by simp [markN, e, hf]) hz
theorem Dfs.all {E : Es} {f' : Nat → Bool} {x : Nat} (h : Dfs E (fun _ => false) f' x) (y : Nat) : f' y = true ↔ ∃ k, wk E k x y := by
 constructor
 · intro hy
   rcases h.way y hy with h1 | h1
   · cases h1
   · exact h1
 · rintro ⟨k, hk⟩
   induction k generalizing y with
   | zero => cases hk; exact h.here
   | succ k ih =>
     obtain ⟨z, h1, h2⟩ := hk
     exact h.closed z y (ih z h1) rfl h2
def unseen (n : Nat) (f : Nat → Bool) : Nat := ((List.range n).filter fun y => !f y).length
theorem filter_mono_len {p q : Nat → Bool} : ∀ (l : List Nat), (∀ y, p y = true → q y = true) → (l.filter p).length ≤ (l.filter q).length
 | [], _ => Nat.le_refl _
 | x :: l, h => by
   have ih := filter_mono_len l h
   simp only [List.filter_cons]
   cases hp : p x with
   | true => rw [h x hp]; simp only [if_true, List.length_cons]; omega
   | false =>
     cases q x <;> simp only [Bool.false_eq_true, if_false, if_true, List.length_cons] <;> omega
theorem unseen_mono {n : Nat} {f g : Nat → Bool} (h : ∀ y, f y = true → g y = true) : unseen n g ≤ unseen n f := by
 refine filter_mono_len _ fun y hy => ?_
 cases hf : f y with
 | false => rfl
 | true => rw [h y hf] at hy; cases hy
theorem unseen_mark {n x : Nat} {f : Nat → Bool} (hx : x < n) (h : f x = false) : unseen n (markN f x) < unseen n f := by
 have key : ∀ l : List Nat, x ∈ l → (l.filter fun y => !markN f x y).length < (l.filter fun y => !f y).length := by
  intro l
  induction l with
  | nil => intro h; cases h
  | cons y l ih =>
    intro hm
    have hle := filter_mono_len (p := fun y => !markN f x y) (q := fun y => !f y) l fun y hy => by
     simp only [markN, Bool.not_or, Bool.and_eq_true] at hy; exact hy.2
    simp only [List.filter_cons]
    by_cases e : y = x
    · subst e
      simp only [markN, h, decide_true, Bool.true_or, Bool.not_true, Bool.not_false, Bool.false_eq_true, if_false, if_true, List.length_cons]
      simp only [markN] at hle; omega
    · have := ih (by rcases List.mem_cons.1 hm with h' | h'
                     · exact absurd h'.symm e
                     · exact h')
      have hmk : markN f x y = f y := by simp [markN, e]
      rw [hmk]
      cases f y <;> simp only [Bool.not_true, Bool.not_false, Bool.false_eq_true, if_false, if_true, List.length_cons] <;> omega
 exact key _ (List.mem_range.2 hx)
/-! ### Components -/
def Mut (E : Es) (x y : Nat) : Prop := x = y ∨ ((∃ k, 0 < k ∧ wk E k x y) ∧ ∃ k, 0 < k ∧ wk E k y x)
theorem Mut.refl (E : Es) (x : Nat) : Mut E x x := .inl rfl
theorem Mut.symm {E : Es} {x y : Nat} (h : Mut E x y) : Mut E y x := by
 rcases h with rfl | ⟨a, b⟩
 · exact .inl rfl
 · exact .inr ⟨b, a⟩
theorem Mut.trans {E : Es} {x y z : Nat} (h : Mut E x y) (h' : Mut E y z) : Mut E x z := by
 rcases h with rfl | ⟨⟨a, a1, a2⟩, b, b1, b2⟩
 · exact h'
 · rcases h' with rfl | ⟨⟨c, c1, c2⟩, d, d1, d2⟩
   · exact .inr ⟨⟨a, a1, a2⟩, b, b1, b2⟩
   · exact .inr ⟨⟨a + c, by omega, wk_add a2 c2⟩, d + b, by omega, wk_add d2 b2⟩
theorem mut_dist {E : Es} {x y : Nat} : Mut E x y ↔ x = y ∨ (0 < dist E x y ∧ 0 < dist E y x) := by
 unfold Mut
 rw [dist_pos, dist_pos]
theorem mut_ways {E : Es} {x y : Nat} : Mut E x y ↔ (∃ k, wk E k x y) ∧ ∃ k, wk (tr E) k x y := by
 constructor
 · rintro (rfl | ⟨⟨a, _, a2⟩, b, _, b2⟩)
   · exact ⟨⟨0, rfl⟩, 0, rfl⟩
   · exact ⟨⟨a, a2⟩, b, wk_tr.2 b2⟩
 · rintro ⟨⟨a, a2⟩, b, b2⟩
   by_cases e : x = y
   · exact .inl e
   · refine .inr ⟨⟨a, ?_, a2⟩, b, ?_, wk_tr.1 b2⟩
     · rcases Nat.eq_zero_or_pos a with rfl | h
       · exact absurd a2 e
       · exact h
     · rcases Nat.eq_zero_or_pos b with rfl | h
       · exact absurd b2 e
       · exact h
theorem exists_comp (E : Es) (x : Nat) : ∃ m, Mut E x m ∧ ∀ j, Mut E x j → m ≤ j := least (p := fun j => Mut E x j) x (Mut.refl E x)
noncomputable def comp (E : Es) (x : Nat) : Nat := Classical.choose (exists_comp E x)
theorem comp_mut (E : Es) (x : Nat) : Mut E x (comp E x) := (Classical.choose_spec (exists_comp E x)).1
theorem comp_le {E : Es} {x j : Nat} (h : Mut E x j) : comp E x ≤ j := (Classical.choose_spec (exists_comp E x)).2 j h
theorem comp_self (E : Es) (x : Nat) : comp E x ≤ x := comp_le (Mut.refl E x)
theorem comp_eq {E : Es} {x y : Nat} (h : Mut E x y) : comp E x = comp E y := by
 have a := comp_le (h.trans (comp_mut E y))
 have b := comp_le (h.symm.trans (comp_mut E x))
 omega
theorem comp_iff {E : Es} {x y : Nat} : comp E x = comp E y ↔ Mut E x y := by
 constructor
 · intro h
   have := comp_mut E y
   rw [← h] at this
   exact (comp_mut E x).trans this.symm
 · exact comp_eq
theorem comp_comp (E : Es) (x : Nat) : comp E (comp E x) = comp E x := (comp_eq (comp_mut E x)).symm
noncomputable def cmpTo (n : Nat) (E : Es) (i : Nat) : List Int := (List.range n).map fun k => if comp E k < i then (comp E k : Int) else -1
theorem cmpTo_len (n : Nat) (E : Es) (i : Nat) : (cmpTo n E i).length = n := by simp [cmpTo]
theorem cmpTo_all (n : Nat) (E : Es) : cmpTo n E n = tabF n (comp E) := by
 apply List.ext_getElem
 · simp [cmpTo, tabF]
 · intro k h1 h2
   have hk : k < n := by simpa [cmpTo] using h1
   have := comp_self E k
   simp only [cmpTo, tabF, List.getElem_map, List.getElem_range]
   rw [if_pos (by omega)]
theorem cmpTo_skip {n i : Nat} {E : Es} (h : comp E i < i) : cmpTo n E (i + 1) = cmpTo n E i := by
 apply List.ext_getElem
 · simp [cmpTo]
 · intro k h1 h2
   simp only [cmpTo, List.getElem_map, List.getElem_range]
   have : ¬ comp E k = i := fun e => by
    have := comp_comp E k
    rw [e] at this; omega
   by_cases e : comp E k < i
   · rw [if_pos e, if_pos (by omega)]
   · rw [if_neg e, if_neg (by omega)]
noncomputable def cmpMid (n : Nat) (E : Es) (i k : Nat) : List Int := (List.range n).map fun j => if comp E j < i then (comp E j : Int) else if comp E j = i ∧ j < k then (i : Int) else -1
theorem cmpMid_len (n : Nat) (E : Es) (i k : Nat) : (cmpMid n E i k).length = n := by simp [cmpMid]
theorem cmpMid_zero (n : Nat) (E : Es) (i : Nat) : cmpMid n E i 0 = cmpTo n E i := by simp [cmpMid, cmpTo]
theorem cmpMid_all (n : Nat) (E : Es) (i : Nat) : cmpMid n E i n = cmpTo n E (i + 1) := by
 apply List.ext_getElem
 · simp [cmpMid, cmpTo]
 · intro k h1 h2
   have hk : k < n := by simpa [cmpMid] using h1
   simp only [cmpMid, cmpTo, List.getElem_map, List.getElem_range]
   by_cases e : comp E k < i
   · rw [if_pos e, if_pos (by omega)]
   · rw [if_neg e]
     by_cases e2 : comp E k = i
     · rw [if_pos ⟨e2, hk⟩, if_pos (by omega), e2]
     · rw [if_neg (fun h => e2 h.1), if_neg (by omega)]
theorem cmpMid_set {n i k : Nat} {E : Es} (hk : k < n) (h : comp E k = i) : (cmpMid n E i k).set k (i : Int) = cmpMid n E i (k + 1) := by
 apply List.ext_getElem
 · simp [cmpMid]
 · intro j h1 h2
   simp only [cmpMid, List.getElem_set, List.getElem_map, List.getElem_range]
   by_cases e : k = j
   · subst e
     rw [if_pos rfl, if_neg (by omega), if_pos ⟨h, by omega⟩]
   · rw [if_neg e]
     by_cases e1 : comp E j < i
     · rw [if_pos e1, if_pos e1]
     · rw [if_neg e1, if_neg e1]
       by_cases e2 : comp E j = i ∧ j < k
       · rw [if_pos e2, if_pos ⟨e2.1, by omega⟩]
       · rw [if_neg e2, if_neg (fun h => e2 ⟨h.1, by omega⟩)]
theorem cmpMid_skip {n i k : Nat} {E : Es} (h : ¬ comp E k = i) : cmpMid n E i (k + 1) = cmpMid n E i k := by
 apply List.ext_getElem
 · simp [cmpMid]
 · intro j h1 h2
   simp only [cmpMid, List.getElem_map, List.getElem_range]
   by_cases e1 : comp E j < i
   · rw [if_pos e1, if_pos e1]
   · rw [if_neg e1, if_neg e1]
     by_cases e2 : comp E j = i ∧ j < k
     · rw [if_pos e2, if_pos ⟨e2.1, by omega⟩]
     · rw [if_neg e2, if_neg (fun h' => e2 ⟨h'.1, by
        rcases Nat.lt_or_ge j k with h3 | h3
        · exact h3
        · have : j = k := by omega
          subst this; exact absurd h'.1 h⟩)]
end Go.Am.Scc

/- Orders of a graph: how many a node waits for. Plain law. -/
namespace Go.Am.Scc
def W (n : Nat) (E : Es) (out : List Nat) (k : Nat) : Nat := ((List.range n).filter fun x => decide ((x, k) ∈ E) && !out.contains x).length
def cntTo (E : Es) (i k : Nat) : Nat := ((List.range i).filter fun x => decide ((x, k) ∈ E)).length
end Go.Am.Scc
