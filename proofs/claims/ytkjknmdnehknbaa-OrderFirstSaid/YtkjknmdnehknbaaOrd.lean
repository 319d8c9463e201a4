import Derived.Test.YtkjknmdnehknbaaAmDefs
/- What the functions of the order of transactions answer, over plain lists. No conditions. -/
namespace Go.Am.Ord
open Go.Am

/-- A transaction's cells. -/
structure Tr5 where
  nm : V
  b : Int
  c : Int
  acts : V
  at_ : V
def Tr5.cells (t : Tr5) : List V := [t.nm, .int .i64 t.b, .int .i64 t.c, t.acts, t.at_]
def Tr5.Good (t : Tr5) : Prop := t.nm.one = true ∧ t.acts.one = true ∧ t.at_.one = true
def Tr5.bad (t : Tr5) : Bool := decide (t.b < 0 ∨ t.c < t.b)

def checkF (ts : List Tr5) : Int := if 4096 < ts.length then 4 else if ts.any Tr5.bad then 2 else 0
/-- Does the i-th precede the k-th? -/
def prec (ts : List Tr5) (i k : Nat) : Bool :=
  match ts[i]?, ts[k]? with
  | some t, some u => decide (t.c < u.b)
  | _, _ => false
def inR (ts : List Tr5) (i : Int) : Bool := decide (0 ≤ i) && decide (i < ts.length)
def precF (ts : List Tr5) (i k : Int) : Bool × Int :=
  if checkF ts ≠ 0 then (false, checkF ts) else if inR ts i && inR ts k then (prec ts i.toNat k.toNat, 0) else (false, 3)
/-- All pairs of which the one precedes the other, in order. -/
def pairsF (ts : List Tr5) : List (Nat × Nat) := (List.range ts.length).flatMap fun i => ((List.range ts.length).filter fun k => prec ts i k).map fun k => (i, k)
def edgesF (ts : List Tr5) : List (Nat × Nat) × Int := if checkF ts ≠ 0 then ([], checkF ts) else (pairsF ts, 0)
/-- Does one stand there of whom one that precedes it is not ahead? -/
def late (ts : List Tr5) (o : List Int) : Bool :=
  (List.range o.length).any fun j => (List.range ts.length).any fun i => prec ts i (o.getD j 0).toNat && !decide ((i : Int) ∈ o.take j)
def keepsF (ts : List Tr5) (o : List Int) : Int :=
  if checkF ts ≠ 0 then checkF ts else if o.any (fun i => !inR ts i) then 3 else if ¬ o.Nodup then 2 else if late ts o then 13 else 0
def nextF (ts : List Tr5) (o : List Int) : List Int × Int :=
  if keepsF ts o ≠ 0 then ([], keepsF ts o) else
    (((List.range ts.length).filter (fun i : Nat => !decide ((i : Int) ∈ o) && decide (keepsF ts (o ++ [(i : Int)]) = 0))).map (fun i : Nat => (i : Int)), 0)
/-- The least order, n places further. -/
def goOn (ts : List Tr5) : Nat → List Int → List Int
  | 0, o => o
  | n + 1, o => goOn ts n (o ++ [(nextF ts o).1.headD 0])
def firstF (ts : List Tr5) : List Int × Int := if checkF ts ≠ 0 then ([], checkF ts) else (goOn ts ts.length [], 0)

/-! ### The pairs, one behind the other -/
def row (ts : List Tr5) (i : Nat) : List (Nat × Nat) := ((List.range ts.length).filter fun k => prec ts i k).map fun k => (i, k)
/-- The pairs ahead of (i, k). -/
def pre (ts : List Tr5) (i k : Nat) : List (Nat × Nat) := (List.range i).flatMap (row ts) ++ ((List.range k).filter fun k => prec ts i k).map fun k => (i, k)
theorem pre_row (ts : List Tr5) (i : Nat) : pre ts i ts.length = pre ts (i + 1) 0 := by
  simp [pre, List.range_succ, row]
theorem pre_zero (ts : List Tr5) : pre ts 0 0 = [] := rfl
theorem pre_succ (ts : List Tr5) (i k : Nat) : pre ts i (k + 1) = pre ts i k ++ if prec ts i k then [(i, k)] else [] := by
  simp only [pre, List.range_succ, List.filter_append, List.map_append, List.append_assoc]
  congr 2
  cases h : prec ts i k <;> simp [h]
theorem pre_all (ts : List Tr5) : pre ts ts.length 0 = pairsF ts := by simp [pre, pairsF]; rfl
theorem pre_prefix_row (ts : List Tr5) (i : Nat) : ∀ d k, k + d = ts.length → pre ts i k <+: pre ts (i + 1) 0
  | 0, k, h => by have : k = ts.length := by omega
                  subst this; rw [pre_row]; exact List.prefix_refl _
  | d + 1, k, h => List.IsPrefix.trans ⟨_, (pre_succ ts i k).symm⟩ (pre_prefix_row ts i d (k + 1) (by omega))
theorem pre_prefix (ts : List Tr5) : ∀ d i k, i + d = ts.length → k ≤ ts.length → 0 < d → pre ts i k <+: pairsF ts
  | 0, i, k, h, hk, hd => by omega
  | 1, i, k, h, hk, _ => by
    have := pre_prefix_row ts i (ts.length - k) k (by omega)
    rw [show i + 1 = ts.length by omega, pre_all] at this
    exact this
  | d + 2, i, k, h, hk, _ => (pre_prefix_row ts i (ts.length - k) k (by omega)).trans (pre_prefix ts (d + 1) (i + 1) 0 (by omega) (by omega) (by omega))
theorem pre_get {ts : List Tr5} {i k : Nat} (hi : i < ts.length) (hk : k < ts.length) (hp : prec ts i k = true) : (pairsF ts)[(pre ts i k).length]? = some (i, k) := by
  obtain ⟨r, hr⟩ := pre_prefix ts (ts.length - i) i (k + 1) (by omega) (by omega) (by omega)
  rw [← hr, pre_succ, if_pos hp]
  simp

theorem pairs_length (ts : List Tr5) : (pairsF ts).length ≤ ts.length * ts.length := by
  have : ∀ (l : List Nat), (l.flatMap (row ts)).length ≤ l.length * ts.length := by
    intro l
    induction l with
    | nil => simp
    | cons i l ih =>
      have h1 : (row ts i).length ≤ ts.length := by
        simp only [row, List.length_map]
        exact Nat.le_trans (List.length_filter_le _ _) (by simp)
      simp only [List.flatMap_cons, List.length_append, List.length_cons, Nat.add_mul]; omega
  have h := this (List.range ts.length)
  rw [List.length_range] at h
  exact h

def fitsF (ts : List Tr5) (o : List Int) : Int :=
  if checkF ts ≠ 0 then checkF ts else if o.any (fun i => !inR ts i) then 3 else if ¬ o.Nodup then 2 else 0
theorem keepsF_eq (ts : List Tr5) (o : List Int) : keepsF ts o = if fitsF ts o ≠ 0 then fitsF ts o else if late ts o then 13 else 0 := by
  unfold keepsF fitsF
  by_cases h1 : checkF ts ≠ 0
  · simp only [if_pos h1]
  · simp only [if_neg h1]
    cases h2 : o.any fun i => !inR ts i with
    | true => simp
    | false =>
      simp only [Bool.false_eq_true, if_false]
      by_cases h3 : ¬ o.Nodup
      · simp [h3]
      · simp [h3]

theorem mem_pairsF {ts : List Tr5} {p : Nat × Nat} : p ∈ pairsF ts ↔ p.1 < ts.length ∧ p.2 < ts.length ∧ prec ts p.1 p.2 = true := by
  obtain ⟨i, k⟩ := p
  simp only [pairsF, List.mem_flatMap, List.mem_range, List.mem_map, List.mem_filter, Prod.mk.injEq]
  constructor
  · rintro ⟨i', hi, k', ⟨hk, hp⟩, rfl, rfl⟩; exact ⟨hi, hk, hp⟩
  · rintro ⟨hi, hk, hp⟩; exact ⟨i, hi, k, ⟨hk, hp⟩, rfl, rfl⟩
theorem mem_take_idx : ∀ (o : List Int) (x : Int) (j : Nat), x ∈ o.take j ↔ o.idxOf x < j ∧ o.idxOf x < o.length
  | [], x, j => by simp
  | y :: o, x, 0 => by simp
  | y :: o, x, j + 1 => by
    simp only [List.take_succ_cons, List.mem_cons, List.idxOf_cons, List.length_cons]
    by_cases h : y = x
    · subst h; simp
    · have hb : (y == x) = false := by simpa using h
      rw [hb]
      simp only [cond_false]
      rw [mem_take_idx o x j]
      constructor
      · rintro (h' | ⟨h1, h2⟩)
        · exact absurd h'.symm h
        · omega
      · rintro ⟨h1, h2⟩; exact .inr ⟨by omega, by omega⟩
theorem idx_of_get {o : List Int} (hn : o.Nodup) {j : Nat} (hj : j < o.length) : o.idxOf o[j] = j := List.Nodup.idxOf_getElem hn j hj
theorem check_zero {ts : List Tr5} (h : checkF ts = 0) : ts.length ≤ 4096 ∧ ∀ t, t ∈ ts → 0 ≤ t.b ∧ t.b ≤ t.c := by
  unfold checkF at h
  split at h
  · cases h
  · rename_i h1
    split at h
    · cases h
    · rename_i h2
      refine ⟨by omega, fun t ht => ?_⟩
      have : t.bad = false := by
        cases hb : t.bad with
        | false => rfl
        | true => exact absurd (List.any_eq_true.2 ⟨t, ht, hb⟩) h2
      simp only [Tr5.bad, decide_eq_false_iff_not, not_or] at this
      omega
theorem prec_irrefl {ts : List Tr5} (h : checkF ts = 0) (i : Nat) : prec ts i i = false := by
  unfold prec
  cases hi : ts[i]? with
  | none => rfl
  | some t =>
    have := (check_zero h).2 t (List.mem_of_getElem? hi)
    simp; omega
theorem late_eq {ts : List Tr5} {o : List Int} (hc : checkF ts = 0) (hr : ∀ i, i ∈ o → inR ts i = true) (hn : o.Nodup) :
    late ts o = (pairsF ts).any fun p => decide (o.idxOf (p.2 : Int) < o.length) && decide (o.idxOf (p.2 : Int) < o.idxOf (p.1 : Int)) := by
  rw [Bool.eq_iff_iff]
  simp only [late, List.any_eq_true, List.mem_range, Bool.and_eq_true, Bool.not_eq_true', decide_eq_false_iff_not, decide_eq_true_eq]
  constructor
  · rintro ⟨j, hj, i, hi, hp, hm⟩
    have hg : o.getD j 0 = o[j] := by simp [List.getD_eq_getElem?_getD, hj]
    rw [hg] at hp
    have hin := hr o[j] (List.getElem_mem hj)
    simp only [inR, Bool.and_eq_true, decide_eq_true_eq] at hin
    have hk : ((o[j].toNat : Nat) : Int) = o[j] := by omega
    refine ⟨(i, o[j].toNat), mem_pairsF.2 ⟨hi, by omega, hp⟩, ?_⟩
    simp only [hk, idx_of_get hn hj]
    refine ⟨hj, ?_⟩
    rw [mem_take_idx] at hm
    have hne : ¬ o.idxOf (i : Int) = j := by
      intro e
      have h2 : o[o.idxOf (i : Int)]'(by rw [e]; exact hj) = (i : Int) := List.getElem_idxOf _
      have h3 : o[j] = (i : Int) := by rw [← h2]; congr 1; exact e.symm
      rw [h3] at hp
      rw [show ((i : Int)).toNat = i by omega, prec_irrefl hc] at hp
      cases hp
    rcases Nat.lt_or_ge (o.idxOf (i : Int)) o.length with h4 | h4
    · omega
    · omega
  · rintro ⟨⟨i, k⟩, hm, h1, h2⟩
    obtain ⟨hi, hk, hp⟩ := mem_pairsF.1 hm
    simp only at hi hk hp h1 h2
    refine ⟨o.idxOf (k : Int), h1, i, hi, ?_, ?_⟩
    · rw [show o.getD (o.idxOf (k : Int)) 0 = (k : Int) by simp [List.getD_eq_getElem?_getD, h1]]
      rw [show ((k : Int)).toNat = k by omega]; exact hp
    · rw [mem_take_idx]; omega
theorem fits_zero {ts : List Tr5} {o : List Int} (h : fitsF ts o = 0) : checkF ts = 0 ∧ (∀ i, i ∈ o → inR ts i = true) ∧ o.Nodup := by
  unfold fitsF at h
  split at h
  · rename_i h1; exact absurd h h1
  · rename_i h1
    split at h
    · cases h
    · rename_i h2
      split at h
      · cases h
      · rename_i h3
        refine ⟨by simpa using h1, fun i hi => ?_, by simpa using h3⟩
        cases hb : inR ts i with
        | true => rfl
        | false => exact absurd (List.any_eq_true.2 ⟨i, hi, by simp [hb]⟩) h2
end Go.Am.Ord

set_option linter.unusedVariables false
set_option linter.unusedSimpArgs false
/- The least order: what is told by going on with the least that may be next. No conditions. -/
namespace Go.Am.Ord

def castL (l : List Nat) : List Int := l.map fun i : Nat => (i : Int)
theorem mem_castL {l : List Nat} {i : Nat} : (i : Int) ∈ castL l ↔ i ∈ l := by
  simp only [castL, List.mem_map]
  exact ⟨fun ⟨j, h, e⟩ => by have : j = i := by omega
                             exact this ▸ h, fun h => ⟨i, h, rfl⟩⟩
theorem castL_append (a b : List Nat) : castL (a ++ b) = castL a ++ castL b := by simp [castL]
theorem castL_len (a : List Nat) : (castL a).length = a.length := by simp [castL]
theorem castL_nodup {l : List Nat} : (castL l).Nodup ↔ l.Nodup := by
  simp only [castL, List.Nodup, List.pairwise_map]
  constructor
  · exact fun h => h.imp fun h e => h (by rw [e])
  · exact fun h => h.imp fun h e => h (by omega)

def rdy (ts : List Tr5) (o : List Nat) (i : Nat) : Bool := !decide (i ∈ o) && (List.range ts.length).all fun j => !prec ts j i || decide (j ∈ o)
def R (ts : List Tr5) (o : List Nat) : List Nat := (List.range ts.length).filter (rdy ts o)
theorem rdy_iff {ts : List Tr5} {o : List Nat} {i : Nat} : rdy ts o i = true ↔ ¬ i ∈ o ∧ ∀ j, j < ts.length → prec ts j i = true → j ∈ o := by
  simp only [rdy, Bool.and_eq_true, Bool.not_eq_true', decide_eq_false_iff_not, List.all_eq_true, List.mem_range, Bool.or_eq_true, decide_eq_true_eq]
  constructor
  · rintro ⟨h1, h2⟩
    refine ⟨h1, fun j hj hp => ?_⟩
    rcases h2 j hj with h | h
    · rw [hp] at h; cases h
    · exact h
  · rintro ⟨h1, h2⟩
    refine ⟨h1, fun j hj => ?_⟩
    cases hp : prec ts j i with
    | false => exact .inl rfl
    | true => exact .inr (h2 j hj hp)
theorem mem_R {ts : List Tr5} {o : List Nat} {i : Nat} : i ∈ R ts o ↔ i < ts.length ∧ ¬ i ∈ o ∧ ∀ j, j < ts.length → prec ts j i = true → j ∈ o := by
  simp [R, List.mem_filter, rdy_iff]
theorem R_sorted (ts : List Tr5) (o : List Nat) : (R ts o).Pairwise (· < ·) := List.pairwise_lt_range.sublist List.filter_sublist
theorem sorted_nodup {l : List Nat} (h : l.Pairwise (· < ·)) : l.Nodup := h.imp fun h e => by omega

theorem getD_app {o : List Int} {x : Int} {j : Nat} (h : j < o.length) : (o ++ [x]).getD j 0 = o.getD j 0 := by
  simp only [List.getD_eq_getElem?_getD, List.getElem?_append_left h]
theorem late_snoc (ts : List Tr5) (o : List Int) (x : Int) : late ts (o ++ [x]) = (late ts o || (List.range ts.length).any fun i => prec ts i x.toNat && !decide ((i : Int) ∈ o)) := by
  simp only [late, List.length_append, List.length_cons, List.length_nil, List.range_succ, List.any_append, List.any_cons, List.any_nil, Bool.or_false]
  congr 1
  · rw [Bool.eq_iff_iff, List.any_eq_true, List.any_eq_true]
    constructor
    · rintro ⟨j, hj, h⟩
      refine ⟨j, hj, ?_⟩
      have hj' := List.mem_range.1 hj
      rw [List.take_append_of_le_length (by omega), getD_app hj'] at h
      exact h
    · rintro ⟨j, hj, h⟩
      refine ⟨j, hj, ?_⟩
      have hj' := List.mem_range.1 hj
      rw [List.take_append_of_le_length (by omega), getD_app hj']
      exact h
  · have h1 : (o ++ [x]).getD o.length 0 = x := by simp [List.getD_eq_getElem?_getD]
    have h2 : (o ++ [x]).take o.length = o := by simp
    rw [h1, h2]
theorem keeps_zero {ts : List Tr5} {o : List Int} : keepsF ts o = 0 ↔ checkF ts = 0 ∧ (∀ i, i ∈ o → inR ts i = true) ∧ o.Nodup ∧ late ts o = false := by
  rw [keepsF_eq]
  constructor
  · intro h
    split at h
    · rename_i h1; exact absurd h h1
    · rename_i h1
      have h2 : fitsF ts o = 0 := by omega
      obtain ⟨h3, h4, h5⟩ := fits_zero h2
      refine ⟨h3, h4, h5, ?_⟩
      split at h
      · cases h
      · rename_i h6; simpa using h6
  · rintro ⟨h1, h2, h3, h4⟩
    have h5 : fitsF ts o = 0 := by
      have h6 : (o.any fun i => !inR ts i) = false := by
        rw [Bool.eq_false_iff]
        intro h
        obtain ⟨i, hi, h⟩ := List.any_eq_true.1 h
        rw [h2 i hi] at h; cases h
      simp [fitsF, h1, h6, h3]
    simp [h5, h4]
theorem inR_cast {ts : List Tr5} {i : Nat} : inR ts (i : Int) = true ↔ i < ts.length := by simp [inR]
theorem keeps_snoc {ts : List Tr5} {o : List Nat} {i : Nat} (h : keepsF ts (castL o) = 0) (hi : i < ts.length) (hm : ¬ i ∈ o) : keepsF ts (castL o ++ [(i : Int)]) = 0 ↔ rdy ts o i = true := by
  obtain ⟨h1, h2, h3, h4⟩ := keeps_zero.1 h
  rw [keeps_zero, late_snoc, h4, Bool.false_or, rdy_iff]
  constructor
  · rintro ⟨_, _, _, h5⟩
    refine ⟨hm, fun j hj hp => ?_⟩
    rw [Bool.eq_false_iff] at h5
    rcases Classical.em (j ∈ o) with h6 | h6
    · exact h6
    · refine absurd (List.any_eq_true.2 ⟨j, List.mem_range.2 hj, ?_⟩) h5
      rw [show ((i : Int)).toNat = i by omega, hp]
      simp [mem_castL, h6]
  · rintro ⟨_, h5⟩
    refine ⟨h1, ?_, ?_, ?_⟩
    · intro x hx
      rcases List.mem_append.1 hx with hx | hx
      · exact h2 x hx
      · have : x = (i : Int) := by simpa using hx
        rw [this]; exact inR_cast.2 hi
    · rw [List.nodup_append]
      refine ⟨h3, by simp, ?_⟩
      intro a ha b hb e
      have : b = (i : Int) := by simpa using hb
      subst this; subst e
      exact hm (mem_castL.1 ha)
    · rw [Bool.eq_false_iff]
      intro h6
      obtain ⟨j, hj, h7⟩ := List.any_eq_true.1 h6
      rw [show ((i : Int)).toNat = i by omega] at h7
      simp only [Bool.and_eq_true, Bool.not_eq_true', decide_eq_false_iff_not, mem_castL] at h7
      exact h7.2 (h5 j (List.mem_range.1 hj) h7.1)
theorem next_eq {ts : List Tr5} {o : List Nat} (h : keepsF ts (castL o) = 0) : (nextF ts (castL o)).1 = castL (R ts o) := by
  rw [nextF, if_neg (by omega)]
  simp only [castL, R]
  congr 1
  apply List.filter_congr
  intro i hi
  have hi' := List.mem_range.1 hi
  rw [Bool.eq_iff_iff]
  by_cases hm : i ∈ o
  · have h1 : (i : Int) ∈ castL o := mem_castL.2 hm
    have h2 : rdy ts o i = false := by
      rw [Bool.eq_false_iff]; intro h; exact (rdy_iff.1 h).1 hm
    rw [h2]
    simp only [castL] at h1
    simp [h1]
  · have h1 : ¬ (i : Int) ∈ castL o := fun e => hm (mem_castL.1 e)
    have := keeps_snoc h hi' hm
    simp only [castL] at h1 this
    simp [h1, this]
theorem sub_length : ∀ (l o : List Nat), l.Nodup → (∀ x, x ∈ l → x ∈ o) → l.length ≤ o.length
  | [], o, _, _ => by simp
  | x :: l, o, hn, hs => by
    have h1 := List.nodup_cons.1 hn
    have h2 := sub_length l (o.erase x) h1.2 fun y hy => (List.mem_erase_of_ne (fun e => by subst e; exact h1.1 hy)).2 (hs y (by simp [hy]))
    rw [List.length_erase_of_mem (hs x (by simp))] at h2
    have := List.length_pos_of_mem (hs x (by simp))
    simp only [List.length_cons]; omega
/-- There is one that may be next. -/
theorem exists_ready {ts : List Tr5} {o : List Nat} (hc : checkF ts = 0) (hl : o.length < ts.length) : R ts o ≠ [] := by
  -- one that is not there, of the least commit
  have h1 : ∃ i, i < ts.length ∧ ¬ i ∈ o := by
    rcases Classical.em (∃ i, i < ts.length ∧ ¬ i ∈ o) with h | h
    · exact h
    · have := sub_length (List.range ts.length) o List.nodup_range fun x hx => by
        rcases Classical.em (x ∈ o) with h2 | h2
        · exact h2
        · exact absurd ⟨x, List.mem_range.1 hx, h2⟩ h
      rw [List.length_range] at this; omega
  have key : ∀ (m : Nat) (i : Nat) (hi : i < ts.length), ¬ i ∈ o → ts[i].c.toNat ≤ m → ∃ i, i ∈ R ts o := by
    intro m
    induction m with
    | zero =>
      intro i hi hm hc0
      refine ⟨i, mem_R.2 ⟨hi, hm, fun j hj hp => ?_⟩⟩
      have a1 := (check_zero hc).2 ts[i] (List.getElem_mem hi)
      have a2 := (check_zero hc).2 ts[j] (List.getElem_mem hj)
      simp only [prec, List.getElem?_eq_getElem hj, List.getElem?_eq_getElem hi, decide_eq_true_eq] at hp
      omega
    | succ m ih =>
      intro i hi hm hc0
      rcases Classical.em (∃ j, j < ts.length ∧ prec ts j i = true ∧ ¬ j ∈ o) with ⟨j, hj, hp, hjm⟩ | h
      · refine ih j hj hjm ?_
        have a1 := (check_zero hc).2 ts[i] (List.getElem_mem hi)
        have a2 := (check_zero hc).2 ts[j] (List.getElem_mem hj)
        simp only [prec, List.getElem?_eq_getElem hj, List.getElem?_eq_getElem hi, decide_eq_true_eq] at hp
        omega
      · refine ⟨i, mem_R.2 ⟨hi, hm, fun j hj hp => ?_⟩⟩
        rcases Classical.em (j ∈ o) with h2 | h2
        · exact h2
        · exact absurd ⟨j, hj, hp, h2⟩ h
  obtain ⟨i, hi, hm⟩ := h1
  obtain ⟨i', hi'⟩ := key _ i hi hm (Nat.le_refl _)
  exact List.ne_nil_of_mem hi'

/-- What holds of the order so far. -/
structure Inv (ts : List Tr5) (o : List Nat) : Prop where
  check : checkF ts = 0
  nodup : o.Nodup
  low : ∀ x, x ∈ o → x < ts.length
  closed : ∀ x, x ∈ o → ∀ j, j < ts.length → prec ts j x = true → j ∈ o
  keeps : keepsF ts (castL o) = 0
  goes : o.length ≤ ts.length ∧ goOn ts ts.length [] = goOn ts (ts.length - o.length) (castL o)
theorem Inv.nil {ts : List Tr5} (h : checkF ts = 0) : Inv ts [] :=
  ⟨h, by simp, by simp, by simp, keeps_zero.2 ⟨h, by simp [castL], by simp [castL], rfl⟩, by simp [castL]⟩
theorem head_least {l : List Nat} {m : Nat} (hs : l.Pairwise (· < ·)) (hm : m ∈ l) (hl : ∀ y, y ∈ l → m ≤ y) : (castL l).headD 0 = (m : Int) := by
  cases l with
  | nil => cases hm
  | cons x l =>
    have h1 := hl x (by simp)
    have h2 := List.pairwise_cons.1 hs
    have : m = x := by
      rcases List.mem_cons.1 hm with h | h
      · exact h
      · have := h2.1 m h; omega
    subst this; rfl
theorem Inv.step {ts : List Tr5} {o : List Nat} {m : Nat} (h : Inv ts o) (hm : m ∈ R ts o) (hl : ∀ y, y ∈ R ts o → m ≤ y) : Inv ts (o ++ [m]) := by
  obtain ⟨h1, h2, h3⟩ := mem_R.1 hm
  have hnd : (o ++ [m]).Nodup := by
    rw [List.nodup_append]
    refine ⟨h.nodup, by simp, fun a ha b hb e => ?_⟩
    have : b = m := by simpa using hb
    subst this; subst e; exact h2 ha
  have hlow : ∀ x, x ∈ o ++ [m] → x < ts.length := by
    intro x hx
    rcases List.mem_append.1 hx with hx | hx
    · exact h.low x hx
    · have : x = m := by simpa using hx
      omega
  have hlen : (o ++ [m]).length ≤ ts.length := by
    have := sub_length (o ++ [m]) (List.range ts.length) hnd fun x hx => List.mem_range.2 (hlow x hx)
    rwa [List.length_range] at this
  refine ⟨h.check, hnd, hlow, ?_, ?_, hlen, ?_⟩
  · intro x hx j hj hp
    rcases List.mem_append.1 hx with hx | hx
    · exact List.mem_append.2 (.inl (h.closed x hx j hj hp))
    · have : x = m := by simpa using hx
      subst this; exact List.mem_append.2 (.inl (h3 j hj hp))
  · rw [castL_append]
    exact (keeps_snoc h.keeps h1 h2).2 (rdy_iff.2 ⟨h2, h3⟩)
  · rw [h.goes.2]
    have e : ts.length - o.length = (ts.length - (o ++ [m]).length) + 1 := by simp only [List.length_append, List.length_cons, List.length_nil] at hlen ⊢; omega
    rw [e, goOn, next_eq h.keeps, head_least (R_sorted ts o) hm hl, castL_append]
    rfl
theorem Inv.done {ts : List Tr5} {o : List Nat} (h : Inv ts o) (hr : R ts o = []) : firstF ts = (castL o, 0) := by
  have hl : ¬ o.length < ts.length := fun e => exists_ready h.check e hr
  have h2 := h.goes.2
  rw [show ts.length - o.length = 0 by omega] at h2
  rw [firstF, if_neg (by have := h.check; omega), h2]; rfl

/-! ### How many one still waits for -/
def cnt (ts : List Tr5) (o : List Nat) (k : Nat) : Nat := ((List.range ts.length).filter fun i => prec ts i k && !decide (i ∈ o)).length
theorem cnt_zero {ts : List Tr5} {o : List Nat} {k : Nat} : cnt ts o k = 0 ↔ ∀ j, j < ts.length → prec ts j k = true → j ∈ o := by
  simp only [cnt, List.length_eq_zero_iff, List.filter_eq_nil_iff, List.mem_range, Bool.and_eq_true, Bool.not_eq_true', decide_eq_false_iff_not, not_and, Classical.not_not]
theorem filter_ne_len {p : Nat → Bool} {m : Nat} : ∀ {l : List Nat}, l.Nodup → m ∈ l → (l.filter p).length = (l.filter fun i => p i && !decide (i = m)).length + if p m then 1 else 0
  | [], _, h => by cases h
  | x :: l, hn, hm => by
    have h1 := List.nodup_cons.1 hn
    by_cases e : x = m
    · subst e
      have h2 : l.filter (fun i => p i && !decide (i = x)) = l.filter p := by
        apply List.filter_congr
        intro i hi
        have : ¬ i = x := fun e => by subst e; exact h1.1 hi
        simp [this]
      simp only [List.filter_cons, h2, decide_true, Bool.not_true, Bool.and_false, Bool.false_eq_true, if_false]
      cases hp : p x <;> simp
    · have h2 : m ∈ l := by
        rcases List.mem_cons.1 hm with h | h
        · exact absurd h.symm e
        · exact h
      have ih := filter_ne_len (p := p) h1.2 h2
      simp only [List.filter_cons, e, decide_false, Bool.not_false, Bool.and_true]
      cases hp : p x <;> simp [ih]
      omega
theorem cnt_snoc {ts : List Tr5} {o : List Nat} {m : Nat} (hm : m < ts.length) (ho : ¬ m ∈ o) (k : Nat) : cnt ts o k = cnt ts (o ++ [m]) k + if prec ts m k then 1 else 0 := by
  unfold cnt
  rw [filter_ne_len (m := m) List.nodup_range (List.mem_range.2 hm)]
  congr 1
  · congr 1
    apply List.filter_congr
    intro i _
    by_cases e1 : i ∈ o <;> by_cases e2 : i = m <;> simp [e1, e2]
  · simp [ho]
/-- Those that wait for nobody any more, once m is there. -/
def newly (ts : List Tr5) (o : List Nat) (m k : Nat) : List Nat := (List.range k).filter fun j => prec ts m j && decide (cnt ts (o ++ [m]) j = 0)
theorem newly_succ (ts : List Tr5) (o : List Nat) (m k : Nat) : newly ts o m (k + 1) = newly ts o m k ++ if prec ts m k = true ∧ cnt ts (o ++ [m]) k = 0 then [k] else [] := by
  simp only [newly, List.range_succ, List.filter_append]
  congr 1
  by_cases h : prec ts m k = true ∧ cnt ts (o ++ [m]) k = 0
  · rw [if_pos h]; simp [h.1, h.2]
  · rw [if_neg h, List.filter_cons_of_neg, List.filter_nil]
    simpa using h
theorem newly_all {ts : List Tr5} {o : List Nat} {m : Nat} (h : Inv ts o) (hm : m ∈ R ts o) : ((R ts o).erase m ++ newly ts o m ts.length).Perm (R ts (o ++ [m])) := by
  obtain ⟨h1, h2, h3⟩ := mem_R.1 hm
  have n1 : (R ts o).Nodup := sorted_nodup (R_sorted ts o)
  have n2 : (newly ts o m ts.length).Nodup := List.Nodup.sublist List.filter_sublist List.nodup_range
  have hd : ∀ a, a ∈ (R ts o).erase m → ∀ b, b ∈ newly ts o m ts.length → a ≠ b := by
    rintro a ha b hb rfl
    have ha' := (List.Nodup.mem_erase_iff n1).1 ha
    simp only [newly, List.mem_filter, List.mem_range, Bool.and_eq_true, decide_eq_true_eq] at hb
    exact h2 ((mem_R.1 ha'.2).2.2 m h1 hb.2.1)
  rw [List.perm_ext_iff_of_nodup (List.nodup_append.2 ⟨n1.erase m, n2, hd⟩) (sorted_nodup (R_sorted _ _))]
  intro x
  rw [List.mem_append, List.Nodup.mem_erase_iff n1, mem_R, mem_R]
  simp only [newly, List.mem_filter, List.mem_range, Bool.and_eq_true, decide_eq_true_eq, cnt_zero, List.mem_append, List.mem_cons, List.not_mem_nil, or_false, not_or]
  constructor
  · rintro (⟨e, a1, a2, a3⟩ | ⟨a1, a2, a3⟩)
    · exact ⟨a1, ⟨a2, e⟩, fun j hj hp => .inl (a3 j hj hp)⟩
    · refine ⟨a1, ⟨fun hx => h2 (h.closed x hx m h1 a2), ?_⟩, a3⟩
      rintro rfl
      rw [prec_irrefl h.check] at a2; cases a2
  · rintro ⟨a1, ⟨a2, a3⟩, a4⟩
    by_cases hp : prec ts m x = true
    · exact .inr ⟨a1, hp, a4⟩
    · refine .inl ⟨a3, a1, a2, fun j hj hpj => ?_⟩
      rcases a4 j hj hpj with h | h
      · exact h
      · subst h; exact absurd hpj hp
theorem R_nil (ts : List Tr5) : R ts [] = (List.range ts.length).filter fun k => decide (cnt ts [] k = 0) := by
  apply List.filter_congr
  intro i _
  rw [Bool.eq_iff_iff, rdy_iff, decide_eq_true_eq, cnt_zero]
  simp

/-! ### Counting the pairs -/
def cntP (ts : List Tr5) (j k : Nat) : Nat := (((pairsF ts).take j).filter fun p => decide (p.2 = k)).length
theorem row_count {i k : Nat} {q : Nat → Bool} : ∀ {l : List Nat}, l.Nodup → (((l.filter q).map fun k => (i, k)).filter fun p : Nat × Nat => decide (p.2 = k)).length = if k ∈ l ∧ q k = true then 1 else 0
  | [], _ => by simp
  | x :: l, hn => by
    have h1 := List.nodup_cons.1 hn
    have ih := row_count (i := i) (k := k) (q := q) h1.2
    by_cases hq : q x = true
    · rw [List.filter_cons_of_pos hq, List.map_cons]
      by_cases e : x = k
      · subst e
        rw [List.filter_cons_of_pos (by simp), List.length_cons, ih]
        simp [h1.1, hq]
      · rw [List.filter_cons_of_neg (by simpa using e), ih]
        have : ¬ k = x := fun h => e h.symm
        simp [this]
    · rw [List.filter_cons_of_neg hq, ih]
      by_cases e : k = x
      · subst e; simp [hq]
      · simp [e]
theorem pairs_count {ts : List Tr5} {k : Nat} (hk : k < ts.length) : ∀ l : List Nat, ((l.flatMap (row ts)).filter fun p => decide (p.2 = k)).length = (l.filter fun i => prec ts i k).length
  | [] => rfl
  | i :: l => by
    rw [List.flatMap_cons, List.filter_append, List.length_append, pairs_count hk l, row, row_count List.nodup_range]
    by_cases h : prec ts i k = true
    · rw [if_pos ⟨List.mem_range.2 hk, h⟩]; simp only [List.filter_cons, h, if_true, List.length_cons]; omega
    · rw [if_neg (fun e => h e.2)]; simp only [List.filter_cons, h]; simp
theorem cntP_all {ts : List Tr5} {k : Nat} (hk : k < ts.length) : cntP ts (pairsF ts).length k = cnt ts [] k := by
  rw [cntP, List.take_length]
  have := pairs_count hk (List.range ts.length)
  rw [show (List.range ts.length).flatMap (row ts) = pairsF ts from rfl] at this
  rw [this, cnt]; simp
theorem cntP_succ {ts : List Tr5} {j : Nat} (hj : j < (pairsF ts).length) (k : Nat) : cntP ts (j + 1) k = cntP ts j k + if (pairsF ts)[j].2 = k then 1 else 0 := by
  rw [cntP, cntP, List.take_add_one, List.getElem?_eq_getElem hj, List.filter_append, List.length_append]
  congr 1
  simp only [Option.toList_some, List.filter_cons, List.filter_nil]
  by_cases h : (pairsF ts)[j].2 = k <;> simp [h]
theorem cntP_le (ts : List Tr5) (j k : Nat) : cntP ts j k ≤ (pairsF ts).length :=
  Nat.le_trans (List.length_filter_le _ _) (by rw [List.length_take]; omega)
theorem cnt_le (ts : List Tr5) (o : List Nat) (k : Nat) : cnt ts o k ≤ ts.length :=
  Nat.le_trans (List.length_filter_le _ _) (by rw [List.length_range]; omega)
/-- A list by its places. -/
def tabF (n : Nat) (f : Nat → Nat) : List Int := (List.range n).map fun k : Nat => (f k : Int)
theorem tabF_len (n : Nat) (f : Nat → Nat) : (tabF n f).length = n := by simp [tabF]
theorem tabF_get {n : Nat} {f : Nat → Nat} {k : Nat} (h : k < n) : (tabF n f)[k]'(by rw [tabF_len]; exact h) = (f k : Int) := by simp [tabF]
theorem tabF_set {n : Nat} {f g : Nat → Nat} {k : Nat} {z : Int} (h : k < n) (hz : z = g k) (hg : ∀ j, j < n → j ≠ k → g j = f j) : (tabF n f).set k z = tabF n g := by
  apply List.ext_getElem
  · simp [tabF]
  · intro i h1 h2
    have hi : i < n := by simpa [tabF] using h2
    simp only [tabF, List.getElem_set, List.getElem_map, List.getElem_range]
    by_cases e : k = i
    · subst e; rw [if_pos rfl, hz]
    · rw [if_neg e, hg i hi (fun h => e h.symm)]
theorem tabF_congr {n : Nat} {f g : Nat → Nat} (h : ∀ j, j < n → g j = f j) : tabF n g = tabF n f := by
  apply List.ext_getElem
  · simp [tabF]
  · intro i h1 h2
    have hi : i < n := by simpa [tabF] using h2
    simp [tabF, h i hi]
theorem tabF_zero (n : Nat) : List.replicate n (0 : Int) = tabF n fun _ => 0 := by
  apply List.ext_getElem
  · simp [tabF]
  · intro i h1 h2; simp [tabF]
end Go.Am.Ord

/- Heaps in a list: the least one on top. No conditions. -/
namespace Go.Am.Hp

/-- The i-th. -/
def at_ (l : List Int) (i : Nat) : Int := l.getD i 0
def IsHeap (l : List Int) (n : Nat) : Prop := ∀ k, 0 < k → k < n → at_ l ((k - 1) / 2) ≤ at_ l k
def UpInv (l : List Int) (n j : Nat) : Prop := (∀ k, 0 < k → k < n → k ≠ j → at_ l ((k - 1) / 2) ≤ at_ l k) ∧ ∀ k, 0 < k → k < n → (k - 1) / 2 = j → 0 < j → at_ l ((j - 1) / 2) ≤ at_ l k
def DownInv (l : List Int) (n i : Nat) : Prop := (∀ k, 0 < k → k < n → (k - 1) / 2 ≠ i → at_ l ((k - 1) / 2) ≤ at_ l k) ∧ ∀ k, 0 < k → k < n → (k - 1) / 2 = i → 0 < i → at_ l ((i - 1) / 2) ≤ at_ l k
def swap (l : List Int) (i j : Nat) : List Int := (l.set i (at_ l j)).set j (at_ l i)
theorem at_get {l : List Int} {i : Nat} (h : i < l.length) : at_ l i = l[i] := by simp [at_, List.getD_eq_getElem?_getD, h]
theorem swap_len (l : List Int) (i j : Nat) : (swap l i j).length = l.length := by simp [swap]
theorem swap_at {l : List Int} {i j : Nat} (hi : i < l.length) (hj : j < l.length) (k : Nat) : at_ (swap l i j) k = if k = j then at_ l i else if k = i then at_ l j else at_ l k := by
  simp only [swap, at_, List.getD_eq_getElem?_getD, List.getElem?_set, List.length_set]
  by_cases h1 : k = j
  · subst h1; simp [hj]
  · rw [if_neg (fun e => h1 e.symm), if_neg h1]
    by_cases h2 : k = i
    · subst h2; simp [hi]
    · rw [if_neg (fun e => h2 e.symm), if_neg h2]
theorem swap_perm {l : List Int} {i j : Nat} (hi : i < l.length) (hj : j < l.length) : (swap l i j).Perm l := by
  unfold swap
  rw [at_get hi, at_get hj]
  exact List.set_set_perm hi hj
theorem up_step {l : List Int} {n j : Nat} (hn : n = l.length) (hj : j < n) (h0 : 0 < j) (h : UpInv l n j) (hlt : at_ l j < at_ l ((j - 1) / 2)) : UpInv (swap l ((j - 1) / 2) j) n ((j - 1) / 2) := by
  obtain ⟨h1, h2⟩ := h
  have hi : (j - 1) / 2 < l.length := by omega
  have hj' : j < l.length := by omega
  generalize hp : (j - 1) / 2 = i at *
  have hij : i ≠ j := by omega
  constructor
  · intro k hk hkn hki
    rw [swap_at hi hj', swap_at hi hj']
    have a1 := h1 k hk hkn
    have a2 := h2 k hk hkn
    by_cases e1 : k = j
    · subst e1; rw [hp, if_neg hij, if_pos rfl, if_pos rfl]; omega
    · rw [if_neg e1, if_neg hki]
      by_cases e2 : (k - 1) / 2 = j
      · rw [if_pos e2]; exact a2 e2 h0
      · rw [if_neg e2]
        have := a1 e1
        split
        · rename_i e3; rw [e3] at this; omega
        · exact this
  · intro k hk hkn hpk hi0
    rw [swap_at hi hj', swap_at hi hj']
    have a1 := h1 k hk hkn
    have a3 := h1 i hi0 (by omega) hij
    rw [if_neg (by omega), if_neg (by omega)]
    split
    · exact a3
    · rename_i e
      have := a1 e
      rw [hpk] at this
      split <;> omega
theorem up_stop {l : List Int} {n j : Nat} (h : UpInv l n j) (hs : j = 0 ∨ at_ l ((j - 1) / 2) ≤ at_ l j) : IsHeap l n := by
  intro k hk hkn
  by_cases e : k = j
  · subst e
    rcases hs with hs | hs
    · omega
    · exact hs
  · exact h.1 k hk hkn e
theorem down_step {l : List Int} {n i j : Nat} (hn : n ≤ l.length) (hj : j < n) (hp : (j - 1) / 2 = i) (h0 : 0 < j) (h : DownInv l n i) (hmin : ∀ k, 0 < k → k < n → (k - 1) / 2 = i → at_ l j ≤ at_ l k) (hlt : at_ l j < at_ l i) : DownInv (swap l i j) n j := by
  obtain ⟨h1, h2⟩ := h
  have hi' : i < l.length := by omega
  have hj' : j < l.length := by omega
  have hij : i ≠ j := by omega
  constructor
  · intro k hk hkn hne
    rw [swap_at hi' hj', swap_at hi' hj', if_neg hne]
    have a1 := h1 k hk hkn
    by_cases e1 : (k - 1) / 2 = i
    · rw [if_pos e1]
      by_cases e2 : k = j
      · rw [if_pos e2]; omega
      · rw [if_neg e2, if_neg (by omega)]; exact hmin k hk hkn e1
    · rw [if_neg e1]
      have := a1 e1
      by_cases e2 : k = j
      · subst e2; exact absurd hp e1
      · rw [if_neg e2]
        split
        · rename_i e3; subst e3; exact h2 j h0 hj hp hk
        · exact this
  · intro k hk hkn hpk _
    rw [hp, swap_at hi' hj', swap_at hi' hj', if_neg hij, if_pos rfl, if_neg (by omega), if_neg (by omega)]
    have := h1 k hk hkn (by omega)
    rw [hpk] at this; exact this
theorem down_stop {l : List Int} {n i : Nat} (h : DownInv l n i) (hs : ∀ k, 0 < k → k < n → (k - 1) / 2 = i → at_ l i ≤ at_ l k) : IsHeap l n := by
  intro k hk hkn
  by_cases e : (k - 1) / 2 = i
  · rw [e]; exact hs k hk hkn e
  · exact h.1 k hk hkn e
theorem heap_min {l : List Int} {n : Nat} (h : IsHeap l n) : ∀ m k, k ≤ m → k < n → at_ l 0 ≤ at_ l k := by
  intro m
  induction m with
  | zero => intro k hk _; have : k = 0 := by omega
            subst this; exact Int.le_refl _
  | succ m ih =>
    intro k hk hkn
    by_cases e : k = 0
    · subst e; exact Int.le_refl _
    · exact Int.le_trans (ih ((k - 1) / 2) (by omega) (by omega)) (h k (by omega) hkn)
theorem at_append {l : List Int} {x : Int} {k : Nat} (h : k < l.length) : at_ (l ++ [x]) k = at_ l k := by simp [at_, List.getD_eq_getElem?_getD, List.getElem?_append, h]
theorem push_inv {l : List Int} {x : Int} (h : IsHeap l l.length) : UpInv (l ++ [x]) (l.length + 1) l.length := by
  constructor
  · intro k hk hkn hne
    rw [at_append (by omega), at_append (by omega)]
    exact h k hk (by omega)
  · intro k hk hkn hp _
    omega
theorem at_take {l : List Int} {n k : Nat} (h : k < n) (hn : n ≤ l.length) : at_ (l.take n) k = at_ l k := by simp [at_, List.getD_eq_getElem?_getD, List.getElem?_take, h]
theorem take_heap {l : List Int} {n : Nat} (hn : n ≤ l.length) (h : IsHeap l n) : IsHeap (l.take n) n := by
  intro k hk hkn
  rw [at_take (by omega) hn, at_take hkn hn]; exact h k hk hkn
/-- The first and the last one changed, the rest is a heap but for its top. -/
theorem pop_inv {l : List Int} {n : Nat} (hn : l.length = n + 1) (h : IsHeap l (n + 1)) : DownInv (swap l 0 n) n 0 := by
  constructor
  · intro k hk hkn hne
    rw [swap_at (by omega) (by omega), swap_at (by omega) (by omega), if_neg (by omega), if_neg (by omega), if_neg (by omega), if_neg (by omega)]
    exact h k hk (by omega)
  · intro k hk hkn hp h0; omega
end Go.Am.Hp
