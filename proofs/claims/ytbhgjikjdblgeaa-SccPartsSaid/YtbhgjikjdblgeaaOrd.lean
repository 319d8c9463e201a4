import Derived.Test.YtbhgjikjdblgeaaAmA
/- What the functions of the order of transactions answer, over plain lists. No conditions. -/
namespace Go.Am.Ord
open Go.Am
structure Tr5 where
 nm : V
 b : Int
 c : Int
 acts : V
 at_ : V
def Tr5.cells (t : Tr5) : List V := [t.nm, .int .i64 t.b, .int .i64 t.c, t.acts, t.at_]
def Tr5.Good (t : Tr5) : Prop := t.nm.one = true ∧ t.acts.one = true ∧ t.at_.one = true
def Tr5.bad (t : Tr5) : Bool := decide (t.b < 0 ∨ t.c < t.b)
def checkF (ts : List Tr5) : Int := if 4096 < ts.length then 4 else if ts.any Tr5.bad then 2 else 0
def prec (ts : List Tr5) (i k : Nat) : Bool :=
 match ts[i]?, ts[k]? with
 | some t, some u => decide (t.c < u.b)
 | _, _ => false
def inR (ts : List Tr5) (i : Int) : Bool := decide (0 ≤ i) && decide (i < ts.length)
def precF (ts : List Tr5) (i k : Int) : Bool × Int :=
 if checkF ts ≠ 0 then (false, checkF ts) else if inR ts i && inR ts k then (prec ts i.toNat k.toNat, 0) else (false, 3)
def pairsF (ts : List Tr5) : List (Nat × Nat) := (List.range ts.length).flatMap fun i => ((List.range ts.length).filter fun k => prec ts i k).map fun k => (i, k)
def edgesF (ts : List Tr5) : List (Nat × Nat) × Int := if checkF ts ≠ 0 then ([], checkF ts) else (pairsF ts, 0)
def late (ts : List Tr5) (o : List Int) : Bool :=
 (List.range o.length).any fun j => (List.range ts.length).any fun i => prec ts i (o.getD j 0).toNat && !decide ((i : Int) ∈ o.take j)
def keepsF (ts : List Tr5) (o : List Int) : Int :=
 if checkF ts ≠ 0 then checkF ts else if o.any (fun i => !inR ts i) then 3 else if ¬ o.Nodup then 2 else if late ts o then 13 else 0
def nextF (ts : List Tr5) (o : List Int) : List Int × Int :=
 if keepsF ts o ≠ 0 then ([], keepsF ts o) else
  (((List.range ts.length).filter (fun i : Nat => !decide ((i : Int) ∈ o) && decide (keepsF ts (o ++ [(i : Int)]) = 0))).map (fun i : Nat => (i : Int)), 0)
def goOn (ts : List Tr5) : Nat → List Int → List Int
 | 0, o => o
 | n + 1, o => goOn ts n (o ++ [(nextF ts o).1.headD 0])
def firstF (ts : List Tr5) : List Int × Int := if checkF ts ≠ 0 then ([], checkF ts) else (goOn ts ts.length [], 0)
/-! ### The pairs, one behind the other -/
def row (ts : List Tr5) (i : Nat) : List (Nat × Nat) := ((List.range ts.length).filter fun k => prec ts i k).map fun k => (i, k)
def pre (ts : List Tr5) (i k : Nat) : List (Nat × Nat) := (List.range i).flatMap (row ts) ++ ((List.range k).filter fun k => prec ts i k).map fun k => (i, k)
def fitsF (ts : List Tr5) (o : List Int) : Int :=
 if checkF ts ≠ 0 then checkF ts else if o.any (fun i => !inR ts i) then 3 else if ¬ o.Nodup then 2 else 0
theorem keepsF_eq (ts : List Tr5) (o : List Int) : keepsF ts o = if fitsF ts o ≠ 0 then fitsF ts o else if late ts o then 13 else 0 := by
 unfold keepsF fitsF
 by_cases h1 : checkF ts ≠ 0
 · simp only [if_pos h1]
 · simp only [if_neg h1]
   cases h2 : o.any fun i => !inR ts i with
   | true => simp
   | false =>
     simp only [Bool.false_eq_true, if_false]
     by_cases h3 : ¬ o.Nodup
     · simp [h3]
     · simp [h3]
theorem check_zero {ts : List Tr5} (h : checkF ts = 0) : ts.length ≤ 4096 ∧ ∀ t, t ∈ ts → 0 ≤ t.b ∧ t.b ≤ t.c := by
 unfold checkF at h
 split at h
 · cases h
 · rename_i h1
   split at h
   · cases h
   · rename_i h2
     refine ⟨by omega, fun t ht => ?_⟩
     have : t.bad = false := by
      cases hb : t.bad with
      | false => rfl
      | true => exact absurd (List.any_eq_true.2 ⟨t, ht, hb⟩) h2
     simp only [Tr5.bad, decide_eq_false_iff_not, not_or] at this
     omega
theorem fits_zero {ts : List Tr5} {o : List Int} (h : fitsF ts o = 0) : checkF ts = 0 ∧ (∀ i, i ∈ o → inR ts i = true) ∧ o.Nodup := by
 unfold fitsF at h
 split at h
 · rename_i h1; exact absurd h h1
 · rename_i h1
   split at h
   · cases h
   · rename_i h2
     split at h
     · cases h
     · rename_i h3
       refine ⟨by simpa using h1, fun i hi => ?_, by simpa using h3⟩
       cases hb : inR ts i with
       | true => rfl
       | false => exact absurd (List.any_eq_true.2 ⟨i, hi, by simp [hb]⟩) h2
end Go.Am.Ord

set_option linter.unusedVariables false
set_option linter.unusedSimpArgs false
/- The least order: what is told by going on with the least that may be next. No conditions. -/
namespace Go.Am.Ord
def castL (l : List Nat) : List Int := l.map fun i : Nat => (i : Int)
theorem mem_castL {l : List Nat} {i : Nat} : (i : Int) ∈ castL l ↔ i ∈ l := by
 simp only [castL, List.mem_map]
 exact ⟨fun ⟨j, h, e⟩ => by have : j = i := by omega
                            exact this ▸ h, fun h => ⟨i, h, rfl⟩⟩
theorem castL_append (a b : List Nat) : castL (a ++ b) = castL a ++ castL b := by simp [castL]
theorem castL_len (a : List Nat) : (castL a).length = a.length := by simp [castL]
def rdy (ts : List Tr5) (o : List Nat) (i : Nat) : Bool := !decide (i ∈ o) && (List.range ts.length).all fun j => !prec ts j i || decide (j ∈ o)
def R (ts : List Tr5) (o : List Nat) : List Nat := (List.range ts.length).filter (rdy ts o)
theorem rdy_iff {ts : List Tr5} {o : List Nat} {i : Nat} : rdy ts o i = true ↔ ¬ i ∈ o ∧ ∀ j, j < ts.length → prec ts j i = true → j ∈ o := by
 simp only [rdy, Bool.and_eq_true, Bool.not_eq_true', decide_eq_false_iff_not, List.all_eq_true, List.mem_range, Bool.or_eq_true, decide_eq_true_eq]
 constructor
 · rintro ⟨h1, h2⟩
   refine ⟨h1, fun j hj hp => ?_⟩
   rcases h2 j hj with h | h
   · rw [hp] at h; cases h
   · exact h
 · rintro ⟨h1, h2⟩
   refine ⟨h1, fun j hj => ?_⟩
   cases hp : prec ts j i with
   | false => exact .inl rfl
   | true => exact .inr (h2 j hj hp)
theorem mem_R {ts : List Tr5} {o : List Nat} {i : Nat} : i ∈ R ts o ↔ i < ts.length ∧ ¬ i ∈ o ∧ ∀ j, j < ts.length → prec ts j i = true → j ∈ o := by
 simp [R, List.mem_filter, rdy_iff]
theorem R_sorted (ts : List Tr5) (o : List Nat) : (R ts o).Pairwise (· < ·) := List.pairwise_lt_range.sublist List.filter_sublist
theorem sorted_nodup {l : List Nat} (h : l.Pairwise (· < ·)) : l.Nodup := h.imp fun h e => by omega
theorem getD_app {o : List Int} {x : Int} {j : Nat} (h : j < o.length) : (o ++ [x]).getD j 0 = o.getD j 0 := by
 simp only [List.getD_eq_getElem?_getD, List.getElem?_append_left h]
theorem late_snoc (ts : List Tr5) (o : List Int) (x : Int) : late ts (o ++ [x]) = (late ts o || (List.range ts.length).any fun i => prec ts i x.toNat && !decide ((i : Int) ∈ o)) := by
 simp only [late, List.length_append, List.length_cons, List.length_nil, List.range_succ, List.any_append, List.any_cons, List.any_nil, Bool.or_false]
 congr 1
 · rw [Bool.eq_iff_iff, List.any_eq_true, List.any_eq_true]
   constructor
   · rintro ⟨j, hj, h⟩
     refine ⟨j, hj, ?_⟩
     have hj' := List.mem_range.1 hj
     rw [List.take_append_of_le_length (by omega), getD_app hj'] at h
     exact h
   · rintro ⟨j, hj, h⟩
     refine ⟨j, hj, ?_⟩
     have hj' := List.mem_range.1 hj
     rw [List.take_append_of_le_length (by omega), getD_app hj']
     exact h
 · have h1 : (o ++ [x]).getD o.length 0 = x := by simp [List.getD_eq_getElem?_getD]
   have h2 : (o ++ [x]).take o.length = o := by simp
   rw [h1, h2]
theorem keeps_zero {ts : List Tr5} {o : List Int} : keepsF ts o = 0 ↔ checkF ts = 0 ∧ (∀ i, i ∈ o → inR ts i = true) ∧ o.Nodup ∧ late ts o = false := by
 rw [keepsF_eq]
 constructor
 · intro h
   split at h
   · rename_i h1; exact absurd h h1
   · rename_i h1
     have h2 : fitsF ts o = 0 := by omega
     obtain ⟨h3, h4, h5⟩ := fits_zero h2
     refine ⟨h3, h4, h5, ?_⟩
     split at h
     · cases h
     · rename_i h6; simpa using h6
 · rintro ⟨h1, h2, h3, h4⟩
   have h5 : fitsF ts o = 0 := by
    have h6 : (o.any fun i => !inR ts i) = false := by
     rw [Bool.eq_false_iff]
     intro h
     obtain ⟨i, hi, h⟩ := List.any_eq_true.1 h
     rw [h2 i hi] at h; cases h
    simp [fitsF, h1, h6, h3]
   simp [h5, h4]
theorem inR_cast {ts : List Tr5} {i : Nat} : inR ts (i : Int) = true ↔ i < ts.length := by simp [inR]
theorem keeps_snoc {ts : List Tr5} {o : List Nat} {i : Nat} (h : keepsF ts (castL o) = 0) (hi : i < ts.length) (hm : ¬ i ∈ o) : keepsF ts (castL o ++ [(i : Int)]) = 0 ↔ rdy ts o i = true := by
 obtain ⟨h1, h2, h3, h4⟩ := keeps_zero.1 h
 rw [keeps_zero, late_snoc, h4, Bool.false_or, rdy_iff]
 constructor
 · rintro ⟨_, _, _, h5⟩
   refine ⟨hm, fun j hj hp => ?_⟩
   rw [Bool.eq_false_iff] at h5
   rcases Classical.em (j ∈ o) with h6 | h6
   · exact h6
   · refine absurd (List.any_eq_true.2 ⟨j, List.mem_range.2 hj, ?_⟩) h5
     rw [show ((i : Int)).toNat = i by omega, hp]
     simp [mem_castL, h6]
 · rintro ⟨_, h5⟩
   refine ⟨h1, ?_, ?_, ?_⟩
   · intro x hx
     rcases List.mem_append.1 hx with hx | hx
     · exact h2 x hx
     · have : x = (i : Int) := by simpa using hx
       rw [this]; exact inR_cast.2 hi
   · rw [List.nodup_append]
     refine ⟨h3, by simp, ?_⟩
     intro a ha b hb e
     have : b = (i : Int) := by simpa using hb
     subst this; subst e
     exact hm (mem_castL.1 ha)
   · rw [Bool.eq_false_iff]
     intro h6
     obtain ⟨j, hj, h7⟩ := List.any_eq_true.1 h6
     rw [show ((i : Int)).toNat = i by omega] at h7
     simp only [Bool.and_eq_true, Bool.not_eq_true', decide_eq_false_iff_not, mem_castL] at h7
     exact h7.2 (h5 j (List.mem_range.1 hj) h7.1)
theorem next_eq {ts : List Tr5} {o : List Nat} (h : keepsF ts (castL o) = 0) : (nextF ts (castL o)).1 = castL (R ts o) := by
 rw [nextF, if_neg (by omega)]
 simp only [castL, R]
 congr 1
 apply List.filter_congr
 intro i hi
 have hi' := List.mem_range.1 hi
 rw [Bool.eq_iff_iff]
 by_cases hm : i ∈ o
 · have h1 : (i : Int) ∈ castL o := mem_castL.2 hm
   have h2 : rdy ts o i = false := by
    rw [Bool.eq_false_iff]; intro h; exact (rdy_iff.1 h).1 hm
   rw [h2]
   simp only [castL] at h1
   simp [h1]
 · have h1 : ¬ (i : Int) ∈ castL o := fun e => hm (mem_castL.1 e)
   have := keeps_snoc h hi' hm
   simp only [castL] at h1 this
   simp [h1, this]
theorem sub_length : ∀ (l o : List Nat), l.Nodup → (∀ x, x ∈ l → x ∈ o) → l.length ≤ o.length
 | [], o, _, _ => by simp
 | x :: l, o, hn, hs => by
   have h1 := List.nodup_cons.1 hn
   have h2 := sub_length l (o.erase x) h1.2 fun y hy => (List.mem_erase_of_ne (fun e => by subst e; exact h1.1 hy)).2 (hs y (by simp [hy]))
   rw [List.length_erase_of_mem (hs x (by simp))] at h2
   have := List.length_pos_of_mem (hs x (by simp))
   simp only [List.length_cons]; omega
theorem exists_ready {ts : List Tr5} {o : List Nat} (hc : checkF ts = 0) (hl : o.length < ts.length) : R ts o ≠ [] := by
 -- one that is not there, of the least commit
 have h1 : ∃ i, i < ts.length ∧ ¬ i ∈ o := by
  rcases Classical.em (∃ i, i < ts.length ∧ ¬ i ∈ o) with h | h
  · exact h
  · have := sub_length (List.range ts.length) o List.nodup_range fun x hx => by
     rcases Classical.em (x ∈ o) with h2 | h2
     · exact h2
     · exact absurd ⟨x, List.mem_range.1 hx, h2⟩ h
    rw [List.length_range] at this; omega
 have key : ∀ (m : Nat) (i : Nat) (hi : i < ts.length), ¬ i ∈ o → ts[i].c.toNat ≤ m → ∃ i, i ∈ R ts o := by
  intro m
  induction m with
  | zero =>
    intro i hi hm hc0
    refine ⟨i, mem_R.2 ⟨hi, hm, fun j hj hp => ?_⟩⟩
    have a1 := (check_zero hc).2 ts[i] (List.getElem_mem hi)
    have a2 := (check_zero hc).2 ts[j] (List.getElem_mem hj)
    simp only [prec, List.getElem?_eq_getElem hj, List.getElem?_eq_getElem hi, decide_eq_true_eq] at hp
    omega
  | succ m ih =>
    intro i hi hm hc0
    rcases Classical.em (∃ j, j < ts.length ∧ prec ts j i = true ∧ ¬ j ∈ o) with ⟨j, hj, hp, hjm⟩ | h
    · refine ih j hj hjm ?_
      have a1 := (check_zero hc).2 ts[i] (List.getElem_mem hi)
      have a2 := (check_zero hc).2 ts[j] (List.getElem_mem hj)
      simp only [prec, List.getElem?_eq_getElem hj, List.getElem?_eq_getElem hi, decide_eq_true_eq] at hp
      omega
    · refine ⟨i, mem_R.2 ⟨hi, hm, fun j hj hp => ?_⟩⟩
      rcases Classical.em (j ∈ o) with h2 | h2
      · exact h2
      · exact absurd ⟨j, hj, hp, h2⟩ h
 obtain ⟨i, hi, hm⟩ := h1
 obtain ⟨i', hi'⟩ := key _ i hi hm (Nat.le_refl _)
 exact List.ne_nil_of_mem hi'
structure Inv (ts : List Tr5) (o : List Nat) : Prop where
 check : checkF ts = 0
 nodup : o.Nodup
 low : ∀ x, x ∈ o → x < ts.length
 closed : ∀ x, x ∈ o → ∀ j, j < ts.length → prec ts j x = true → j ∈ o
 keeps : keepsF ts (castL o) = 0
 goes : o.length ≤ ts.length ∧ goOn ts ts.length [] = goOn ts (ts.length - o.length) (castL o)
theorem Inv.nil {ts : List Tr5} (h : checkF ts = 0) : Inv ts [] :=
 ⟨h, by simp, by simp, by simp, keeps_zero.2 ⟨h, by simp [castL], by simp [castL], rfl⟩, by simp [castL]⟩
theorem head_least {l : List Nat} {m : Nat} (hs : l.Pairwise (· < ·)) (hm : m ∈ l) (hl : ∀ y, y ∈ l → m ≤ y) : (castL l).headD 0 = (m : Int) := by
 cases l with
 | nil => cases hm
 | cons x l =>
   have h1 := hl x (by simp)
   have h2 := List.pairwise_cons.1 hs
   have : m = x := by
    rcases List.mem_cons.1 hm with h | h
    · exact h
    · have := h2.1 m h; omega
   subst this; rfl
theorem Inv.step {ts : List Tr5} {o : List Nat} {m : Nat} (h : Inv ts o) (hm : m ∈ R ts o) (hl : ∀ y, y ∈ R ts o → m ≤ y) : Inv ts (o ++ [m]) := by
 obtain ⟨h1, h2, h3⟩ := mem_R.1 hm
 have hnd : (o ++ [m]).Nodup := by
  rw [List.nodup_append]
  refine ⟨h.nodup, by simp, fun a ha b hb e => ?_⟩
  have : b = m := by simpa using hb
  subst this; subst e; exact h2 ha
 have hlow : ∀ x, x ∈ o ++ [m] → x < ts.length := by
  intro x hx
  rcases List.mem_append.1 hx with hx | hx
  · exact h.low x hx
  · have : x = m := by simpa using hx
    omega
 have hlen : (o ++ [m]).length ≤ ts.length := by
  have := sub_length (o ++ [m]) (List.range ts.length) hnd fun x hx => List.mem_range.2 (hlow x hx)
  rwa [List.length_range] at this
 refine ⟨h.check, hnd, hlow, ?_, ?_, hlen, ?_⟩
 · intro x hx j hj hp
   rcases List.mem_append.1 hx with hx | hx
   · exact List.mem_append.2 (.inl (h.closed x hx j hj hp))
   · have : x = m := by simpa using hx
     subst this; exact List.mem_append.2 (.inl (h3 j hj hp))
 · rw [castL_append]
   exact (keeps_snoc h.keeps h1 h2).2 (rdy_iff.2 ⟨h2, h3⟩)
 · rw [h.goes.2]
   have e : ts.length - o.length = (ts.length - (o ++ [m]).length) + 1 := by simp only [List.length_append, List.length_cons, List.length_nil] at hlen ⊢; omega
   rw [e, goOn, next_eq h.keeps, head_least (R_sorted ts o) hm hl, castL_append]
   rfl
theorem Inv.done {ts : List Tr5} {o : List Nat} (h : Inv ts o) (hr : R ts o = []) : firstF ts = (castL o, 0) := by
 have hl : ¬ o.length < ts.length := fun e => exists_ready h.check e hr
 have h2 := h.goes.2
 rw [show ts.length - o.length = 0 by omega] at h2
 rw [firstF, if_neg (by have := h.check; omega), h2]; rfl
/-! ### How many one still waits for -/
def cnt (ts : List Tr5) (o : List Nat) (k : Nat) : Nat := ((List.range ts.length).filter fun i => prec ts i k && !decide (i ∈ o)).length
def newly (ts : List Tr5) (o : List Nat) (m k : Nat) : List Nat := (List.range k).filter fun j => prec ts m j && decide (cnt ts (o ++ [m]) j = 0)
/-! ### Counting the pairs -/
def cntP (ts : List Tr5) (j k : Nat) : Nat := (((pairsF ts).take j).filter fun p => decide (p.2 = k)).length
def tabF (n : Nat) (f : Nat → Nat) : List Int := (List.range n).map fun k : Nat => (f k : Int)
theorem tabF_len (n : Nat) (f : Nat → Nat) : (tabF n f).length = n := by simp [tabF]
theorem tabF_set {n : Nat} {f g : Nat → Nat} {k : Nat} {z : Int} (h : k < n) (hz : z = g k) (hg : ∀ j, j < n → j ≠ k → g j = f j) : (tabF n f).set k z = tabF n g := by
 apply List.ext_getElem
 · simp [tabF]
 · intro i h1 h2
   have hi : i < n := by simpa [tabF] using h2
   simp only [tabF, List.getElem_set, List.getElem_map, List.getElem_range]
   by_cases e : k = i
   · subst e; rw [if_pos rfl, hz]
   · rw [if_neg e, hg i hi (fun h => e h.symm)]
theorem tabF_congr {n : Nat} {f g : Nat → Nat} (h : ∀ j, j < n → g j = f j) : tabF n g = tabF n f := by
 apply List.ext_getElem
 · simp [tabF]
 · intro i h1 h2
   have hi : i < n := by simpa [tabF] using h2
   simp [tabF, h i hi]
theorem tabF_zero (n : Nat) : List.replicate n (0 : Int) = tabF n fun _ => 0 := by
 apply List.ext_getElem
 · simp [tabF]
 · intro i h1 h2; simp [tabF]
end Go.Am.Ord

/- Heaps in a list: the least one on top. No conditions. -/
namespace Go.Am.Hp
def at_ (l : List Int) (i : Nat) : Int := l.getD i 0
def IsHeap (l : List Int) (n : Nat) : Prop := ∀ k, 0 < k → k < n → at_ l ((k - 1) / 2) ≤ at_ l k
def UpInv (l : List Int) (n j : Nat) : Prop := (∀ k, 0 < k → k < n → k ≠ j → at_ l ((k - 1) / 2) ≤ at_ l k) ∧ ∀ k, 0 < k → k < n → (k - 1) / 2 = j → 0 < j → at_ l ((j - 1) / 2) ≤ at_ l k
def DownInv (l : List Int) (n i : Nat) : Prop := (∀ k, 0 < k → k < n → (k - 1) / 2 ≠ i → at_ l ((k - 1) / 2) ≤ at_ l k) ∧ ∀ k, 0 < k → k < n → (k - 1) / 2 = i → 0 < i → at_ l ((i - 1) / 2) ≤ at_ l k
def swap (l : List Int) (i j : Nat) : List Int := (l.set i (at_ l j)).set j (at_ l i)
end Go.Am.Hp
