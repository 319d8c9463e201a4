import Derived.Test.YtkjknmdnehknbaaAmMem
import Derived.Laws.Tables
import Derived.WalkKit
set_option linter.unusedSimpArgs false
set_option linter.unusedVariables false
/- One operation: what the small machine makes of it, the model makes of it. -/
namespace Go.Am
open Go

variable {P : Program} {T : Tab} {μ : Mu} {H : Heap} {w : World}

/-- A value's run. -/
def VGood (P : Program) (μ : Mu) (H : Heap) (w : World) (s : Sem Value) (v : V) (H' : Heap) : Prop :=
  ∃ u w' μ', s.run P w = .ok u w' ∧ RV μ' v u ∧ Post μ H w μ' H' w'

theorem VGood.same (h : Sim μ H w) {s : Sem Value} {v : V} {u : Value} (hr : s.run P w = .ok u w) (hv : RV μ v u) : VGood P μ H w s v H :=
  ⟨u, w, μ, hr, hv, .refl h⟩

theorem OR.ofV_val {H H' : Heap} {x : Option V} {v : V} (e : OR.ofV H x = .val v H') : x = some v ∧ H' = H := by
  cases x with
  | none => simp [OR.ofV] at e
  | some y => simp [OR.ofV] at e; exact ⟨by rw [e.1], e.2.symm⟩
theorem OR.ofH_val {H' : Heap} {x : Option Heap} {v : V} (e : OR.ofH x = .val v H') : x = some H' ∧ v = undefV := by
  cases x with
  | none => simp [OR.ofH] at e
  | some y => simp [OR.ofH] at e; exact ⟨by rw [e.2], e.1.symm⟩
theorem OR.ofVH_val {H' : Heap} {x : Option (V × Heap)} {v : V} (e : OR.ofVH x = .val v H') : x = some (v, H') := by
  cases x with
  | none => simp [OR.ofVH] at e
  | some y => obtain ⟨a, b⟩ := y; simp [OR.ofVH] at e; rw [e.1, e.2]

theorem good_load (hT : TabOk P T) (h : Sim μ H w) {t : TypeId} {l o : Nat} {v : V} {u : Value} (hu : RV μ (.ptr l o) u) (e : loadVar T H t l o = some v) :
    VGood P μ H w (Instr.loadAt t u) v H := by
  cases hu with
  | ptr hm =>
    obtain ⟨u', hr, hv⟩ := run_loadVar (P := P) hT h e hm
    exact .same h (by simp [Instr.loadAt, Instr.sureAddr, hr]) hv

theorem good_store (hT : TabOk P T) (h : Sim μ H w) {t : TypeId} {l o : Nat} {v : V} {x u : Value} {H' : Heap} (hx : RV μ (.ptr l o) x) (hu : RV μ v u) (e : storeVar T H t l o v = some H') :
    ∃ w', (Instr.storeAt t x u).run P w = .ok () w' ∧ Post μ H w μ H' w' := by
  cases hx with
  | ptr hm =>
    obtain ⟨w', hr, hp⟩ := run_storeVar (P := P) hT h e hu hm
    exact ⟨w', by simp [Instr.storeAt, Instr.sureAddr, hr], hp⟩

theorem good_newVar (h : Sim μ H w) {vs : List V} {u : Value} (hr : RVL μ vs u.cells.toList) (t : TypeId) :
    ∃ w' μ', (newVar t u).run P w = .ok ⟨w.heap.size, 0, none⟩ w' ∧ RV μ' (.ptr H.n 0) (.pointer (some ⟨w.heap.size, 0, none⟩)) ∧ Post μ H w μ' (H.push (.cells false vs)) w' :=
  ⟨_, _, by rw [newVar, run_newRow], by simpa using RV.ptr (μ := upd μ H.n (w.heap.size, 0, u.cells.size)) (o := 0) (upd_same _ _ _), .newCells h hr t⟩

theorem good_alloc (hT : TabOk P T) (h : Sim μ H w) {t : TypeId} {z : List V} (e : T.zero t = some z) :
    VGood P μ H w (Instr.alloc t true (.tuple #[])) (.ptr H.n 0) (H.push (.cells false z)) := by
  obtain ⟨i, zv, hi, hz, hr⟩ := hT.zero _ _ e
  obtain ⟨w', μ', h1, h2, h3⟩ := good_newVar (P := P) h (hr μ) t
  exact ⟨_, w', μ', by simp [Instr.alloc, run_zero hi hz, h1], h2, h3⟩

theorem good_box (h : Sim μ H w) {t : TypeId} {v : V} {u : Value} (hv : RV μ v u) :
    VGood P μ H w (Instr.box t u) (.ptr H.n 0) (H.push (.cells false v.cells)) := by
  obtain ⟨w', μ', h1, h2, h3⟩ := good_newVar (P := P) h hv.cells t
  exact ⟨_, w', μ', by simp [Instr.box, h1], h2, h3⟩

/-! ### Literals -/
inductive PR (μ : Mu) : List (Nat × V) → List (Nat × Value) → Prop
  | nil : PR μ [] []
  | cons {i : Nat} {v : V} {u : Value} {ps : List (Nat × V)} {qs : List (Nat × Value)} (h : RV μ v u) (t : PR μ ps qs) : PR μ ((i, v) :: ps) ((i, u) :: qs)

theorem AR.evalParts {a : A} {x : Act} (h : AR μ a x) : ∀ {os : List (Nat × Operand)} {vs : List (Nat × V)}, evalParts a os = some vs → PR μ vs (os.map fun p => (p.1, x.eval p.2))
  | [], _, e => by simp only [Am.evalParts, Option.some.injEq] at e; subst e; exact .nil
  | (i, o) :: os, _, e => by
    simp only [Am.evalParts] at e
    split at e
    · cases e
    · rename_i v hv
      split at e
      · cases e
      · rename_i vs hvs
        simp only [Option.some.injEq] at e; subst e
        exact .cons (h.eval hv) (h.evalParts hvs)

theorem overA_eq_foldl (us : List Value) : ∀ (off j : Nat) (cs : Array Value), (us.zipIdx j).foldl (fun cs (p : Value × Nat) => cs.setIfInBounds (off + p.2) p.1) cs = overA cs (off + j) us := by
  induction us with
  | nil => intro off j cs; rfl
  | cons u us ih => intro off j cs; simp only [List.zipIdx_cons, List.foldl_cons, overA]; rw [ih]; rfl

theorem foldl_zipIdx (c : Array Value) (off : Nat) (cs : Array Value) : c.zipIdx.foldl (fun cs (p : Value × Nat) => cs.setIfInBounds (off + p.2) p.1) cs = overA cs off c.toList := by
  rw [← Array.foldl_toList, Array.toList_zipIdx]
  exact overA_eq_foldl c.toList off 0 cs

theorem RVL.over {vs : List V} {cs : Array Value} (h : RVL μ vs cs.toList) {o : Nat} {as : List V} {us : List Value} (ho : o + as.length ≤ vs.length) (hr : RVL μ as us) :
    RVL μ (Am.over vs o as) (overA cs o us).toList := by
  have h1 := h.length
  have h2 := hr.length
  rw [Array.length_toList] at h1
  refine RVL.of_get (by rw [Array.length_toList, overA_size, over_length, h1]) ?_
  intro j v hv
  rw [over_get _ _ _ _ ho] at hv
  rw [Array.getElem?_toList, overA_get _ _ _ _ (by omega)]
  by_cases e : o ≤ j ∧ j < o + as.length
  · rw [if_pos e] at hv
    obtain ⟨u, hu, hr'⟩ := hr.get hv
    exact ⟨u, by rw [if_pos (by omega)]; exact hu, hr'⟩
  · rw [if_neg e] at hv
    obtain ⟨u, hu, hr'⟩ := h.get hv
    exact ⟨u, by rw [if_neg (by omega)]; simpa using hu, hr'⟩

theorem good_fill {place : Nat → Option (Nat × Nat)} {place' : Nat → Option (Nat × Nat)} (hp : ∀ i x, place i = some x → place' i = some x) :
    ∀ {ps : List (Nat × V)} {qs : List (Nat × Value)} {vs r : List V} {cs : Array Value}, PR μ ps qs → RVL μ vs cs.toList → fill place vs ps = some r →
    ∃ r', Instr.fill place' cs qs = some r' ∧ RVL μ r r'.toList
  | _, _, vs, r, cs, .nil, hv, e => by simp only [Am.fill, Option.some.injEq] at e; subst e; exact ⟨cs, rfl, hv⟩
  | _, _, vs, r, cs, .cons (i := i) (v := v) (u := u) (ps := ps) h t, hv, e => by
    unfold Am.fill at e
    split at e
    · cases e
    rename_i off size hpl
    cases hc : (Nat.beq v.cells.length size && Nat.ble (off + size) vs.length) with
    | false => rw [hc] at e; cases e
    | true =>
      rw [hc] at e
      simp only [cond_true] at e
      rw [Bool.and_eq_true, Nat.beq_eq, Nat.ble_eq] at hc
      have h1 := h.cells.length
      rw [Array.length_toList] at h1
      have h2 := hv.length
      rw [Array.length_toList] at h2
      obtain ⟨r', e1, e2⟩ := good_fill hp t (hv.over (by omega) h.cells) e
      refine ⟨r', ?_, e2⟩
      rw [Instr.fill, hp _ _ hpl]
      simp only [h1, hc.1, ne_eq, not_true_eq_false, decide_false, Bool.false_or, h2, gt_iff_lt]
      rw [if_neg (by simp; omega), foldl_zipIdx]
      exact e1

theorem sizes_mapM (hT : TabOk P T) : ∀ (fs : List Field), sizesOk T fs = true → ∃ places, fs.mapM (fun f => (P.info? f.type).map fun i => (f.offset, i.size)) = some places ∧
    ∀ (i : Nat) (f : Field) (n b : Nat), fs[i]? = some f → T.size f.type = some (n, b) → places[i]? = some (f.offset, n)
  | [], _ => ⟨[], rfl, fun i f n b h => by simp at h⟩
  | f :: fs, h => by
    unfold sizesOk at h
    split at h
    · rename_i x hx
      obtain ⟨n0, b0⟩ := x
      obtain ⟨i0, hi0, hn0, _⟩ := hT.size _ _ _ hx
      obtain ⟨places, h1, h2⟩ := sizes_mapM hT fs h
      refine ⟨(f.offset, i0.size) :: places, by simp [List.mapM_cons, hi0, h1], ?_⟩
      intro i g n b hg hs
      cases i with
      | zero =>
        simp at hg; subst hg
        obtain ⟨i1, hi1, hn1, _⟩ := hT.size _ _ _ hs
        rw [hi0] at hi1; cases hi1
        simp [hn1]
      | succ i => simpa using h2 i g n b (by simpa using hg) hs
    · cases h

theorem good_build_struct (hT : TabOk P T) (h : Sim μ H w) {t : TypeId} {z : List V} {fs : Array Field} {ps : List (Nat × V)} {qs : Array (Nat × Value)} {r : List V} (hz : T.zero t = some z) (hu : T.und t = some (.struct fs))
    (hs : sizesOk T fs.toList = true) (hp : PR μ ps qs.toList)
    (e : fill (placeOf T fs) z ps = some r) : VGood P μ H w (Instr.build t qs) (.agg r) H := by
  obtain ⟨i, zv, hi, hzv, hr⟩ := hT.zero _ _ hz
  obtain ⟨places, h1, h2⟩ := sizes_mapM hT _ hs
  obtain ⟨r', e1, e2⟩ := good_fill (place' := (places.toArray[·]?)) (by
    intro j x hx
    unfold placeOf at hx
    split at hx
    · rename_i f hf
      split at hx
      · rename_i n b hn
        cases hx
        simpa using h2 j f n b (by simpa using hf) hn
      · cases hx
    · cases hx) hp (hr μ) e
  refine .same h (run_build w t qs r' ?_) (.agg e2)
  simp only [Program.built, hi, hT.und _ _ hu, hzv, h1]
  exact e1

theorem good_build_array (hT : TabOk P T) (h : Sim μ H w) {t : TypeId} {z : List V} {m : Nat} {el : TypeId} {s b : Nat} {ps : List (Nat × V)} {qs : Array (Nat × Value)} {r : List V} (hz : T.zero t = some z) (hu : T.und t = some (.array m el))
    (hs : T.size el = some (s, b)) (hp : PR μ ps qs.toList) (e : fill (fun i => some (i * s, s)) z ps = some r) : VGood P μ H w (Instr.build t qs) (.agg r) H := by
  obtain ⟨i, zv, hi, hzv, hr⟩ := hT.zero _ _ hz
  obtain ⟨ie, hie, hn, _⟩ := hT.size _ _ _ hs
  obtain ⟨r', e1, e2⟩ := good_fill (place' := fun i => some (i * ie.size, ie.size)) (by intro j x hx; rw [hn]; exact hx) hp (hr μ) e
  refine .same h (run_build w t qs r' ?_) (.agg e2)
  simp only [Program.built, hi, hT.und _ _ hu, hzv, hie]
  exact e1

theorem zeros_length (z : List V) : ∀ n, (zeros z n).length = n * z.length
  | 0 => by simp [zeros]
  | n + 1 => by simp [zeros, zeros_length z n, Nat.succ_mul]; omega

theorem zeros_get (z : List V) : ∀ (n j : Nat), j < n * z.length → (zeros z n)[j]? = z[j % z.length]?
  | 0, j, h => by simp at h
  | n + 1, j, h => by
    rw [zeros]
    by_cases hj : j < z.length
    · rw [List.getElem?_append_left hj, Nat.mod_eq_of_lt hj]
    · rw [List.getElem?_append_right (by omega), zeros_get z n (j - z.length) (by rw [Nat.succ_mul] at h; omega)]
      congr 1
      rw [Nat.mod_eq_sub_mod (a := j) (by omega)]

/-- The model's row of zero values. -/
theorem RVL.zeros {z : List V} {zc : Array Value} (h : RVL μ z zc.toList) (n : Nat) : RVL μ (Am.zeros z n) ((Array.range (n * zc.size)).map fun i => zc[i % zc.size]!).toList := by
  have hl := h.length
  rw [Array.length_toList] at hl
  refine RVL.of_get (by simp [zeros_length, hl]) ?_
  intro j v hv
  have hj : j < n * z.length := by
    rcases Nat.lt_or_ge j (n * z.length) with h' | h'
    · exact h'
    · rw [List.getElem?_eq_none (by rw [zeros_length]; omega)] at hv; cases hv
  rw [zeros_get z n j hj] at hv
  obtain ⟨u, hu, hr⟩ := h.get hv
  refine ⟨u, ?_, hr⟩
  rw [Array.getElem?_toList] at hu ⊢
  rw [Array.getElem?_map, Array.getElem?_range, if_pos (by rw [hl]; exact hj)]
  simp only [Option.map_some, Option.some.injEq]
  rw [hl, getElem!_def, hu]

theorem good_buildSlice (hT : TabOk P T) (h : Sim μ H w) {t el : TypeId} {n s b : Nat} {z : List V} {ps : List (Nat × V)} {qs : Array (Nat × Value)} {cs : List V} (hu : T.und t = some (.slice el)) (hs : T.size el = some (s, b))
    (hz : T.zero el = some z) (hp : PR μ ps qs.toList) (hle : n * s ≤ 16777216) (hzl : z.length = s) (e : fill (fun i => some (i * s, s)) (Am.zeros z n) ps = some cs) :
    VGood P μ H w (Instr.buildSlice t n qs) (.slice H.n 0 n s (some n)) (H.push (.cells false cs)) := by
  obtain ⟨i, zv, hi, hzv, hr⟩ := hT.zero _ _ hz
  obtain ⟨ie, hie, hn, _⟩ := hT.size _ _ _ hs
  rw [hi] at hie; cases hie
  have hzs : zv.cells.size = s := by have := (hr μ).length; rw [Array.length_toList] at this; omega
  have hzz : RVL μ (Am.zeros z n) ((Array.range (n * i.size)).map fun i => (if n * s = 0 then #[] else zv.cells)[i % (if n * s = 0 then #[] else zv.cells).size]!).toList := by
    by_cases h0 : n * s = 0
    · have : Am.zeros z n = [] := by rw [← List.length_eq_zero_iff, zeros_length, hzl]; exact h0
      rw [this]
      simp [hn, h0]; exact .nil
    · have := (hr μ).zeros n
      rw [hzs] at this
      simpa [hn, h0, hzs] using this
  obtain ⟨r', e1, e2⟩ := good_fill (place' := fun i => some (i * s, s)) (fun _ _ h => h) hp hzz e
  have hrl := e2.length
  rw [Array.length_toList] at hrl
  refine ⟨.slice (some ⟨w.heap.size, 0, none⟩) n n, _, _, ?_, ?_, .newCells h e2 el⟩
  · have h2 : ¬ (n * s > 2 ^ 24) := by omega
    by_cases h0 : n * s = 0
    · simp [h0, hn] at e1
      simp [Instr.buildSlice, run_und (hT.und _ _ hu), run_size hi, hn, h0, e1, run_newRow]
    · simp only [h0, if_false, hn] at e1
      simp [Instr.buildSlice, run_und (hT.und _ _ hu), run_size hi, hn, h2, h0, run_zero hi hzv, e1, run_newRow]
  · have hlen : cs.length = n * s := by
      have key : ∀ {ps : List (Nat × V)} {vs r : List V}, fill (fun i => some (i * s, s)) vs ps = some r → r.length = vs.length := by
        intro ps
        induction ps with
        | nil => intro vs r e; simp only [Am.fill, Option.some.injEq] at e; rw [e]
        | cons p ps ih =>
          intro vs r e
          obtain ⟨i, v⟩ := p
          unfold Am.fill at e
          simp only at e
          cases hc : (Nat.beq v.cells.length s && Nat.ble (i * s + s) vs.length) with
          | false => rw [hc] at e; cases e
          | true => rw [hc] at e; rw [ih e, over_length]
      rw [key e, zeros_length, hzl]
    refine RV.slice (upd_same _ _ _) (Nat.le_refl _) (fun m hm => by cases hm; rfl) ?_ (.inr rfl)
    omega
end Go.Am
