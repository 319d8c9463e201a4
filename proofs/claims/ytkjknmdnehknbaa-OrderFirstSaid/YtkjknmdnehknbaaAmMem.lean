import Derived.Test.YtkjknmdnehknbaaAmRel
/- Cells read and written: the model's runs beside the small machine's. -/
set_option linter.unusedSimpArgs false
set_option linter.unusedVariables false
namespace Go.Am
open Go

variable {P : Program} {μ : Mu} {H : Heap} {w : World}

theorem run_und {t : TypeId} {d : TypeDesc} (h : P.underlying t = some d) : (underlying t).run P w = .ok d w := by
  simp [underlying, Sem.run_bind, Result.andThen, program, Sem.run, h, pure]
theorem run_info {t : TypeId} {i : TypeInfo} (h : P.info? t = some i) : (typeInfo t).run P w = .ok i w := by
  simp [typeInfo, Sem.run_bind, Result.andThen, program, Sem.run, h, pure]
theorem run_size {t : TypeId} {i : TypeInfo} (h : P.info? t = some i) : (sizeOf t).run P w = .ok i.size w := by
  simp [Go.sizeOf, Sem.run_bind, Result.andThen, run_info h]
theorem run_zero {t : TypeId} {i : TypeInfo} {z : Value} (h : P.info? t = some i) (hz : i.zero = some z) : (zeroValue t).run P w = .ok z w := by
  simp [zeroValue, Sem.run_bind, Result.andThen, run_info h, hz]

/-- What is known of the tables. -/
structure TabOk (P : Program) (T : Tab) : Prop where
  und : ∀ t d, T.und t = some d → P.underlying t = some d
  size : ∀ t n b, T.size t = some (n, b) → ∃ i, P.info? t = some i ∧ i.size = n ∧ i.bytes = b
  zero : ∀ t zs, T.zero t = some zs → ∃ i z, P.info? t = some i ∧ i.zero = some z ∧ ∀ μ, RVL μ zs z.cells.toList
  zeroV : ∀ t v, T.zeroV t = some v → ∃ i z, P.info? t = some i ∧ i.zero = some z ∧ ∀ μ, RV μ v z
  eqS : ∀ t xs ys r, T.eqS t xs ys = some r → P.eqGuardType P.depth t = false ∧ ∀ (μ : Mu) (w : World) (us vs : List Value), RVL μ xs us → RVL μ ys vs →
    (Op.equal t (.agg ⟨us⟩) (.agg ⟨vs⟩)).run P w = .ok r w
  meth : ∀ t name path f b, T.meth t name = some (path, f, b) → ∃ i m, P.info? t = some i ∧ i.methods.find? (·.name == name) = some m ∧ m.path.toList = path ∧ m.func = some (f, b)
  func : ∀ f fn, T.func f = some fn → P.funcs[f]? = some fn ∧ (fn.name == "runtime.NumGoroutine") = false

variable {T : Tab}

theorem run_agg (hT : TabOk P T) {t : TypeId} {b : Bool} (h : isAgg? T t = some b) : (isAgg t).run P w = .ok b w := by
  unfold isAgg? at h
  split at h <;> first | (rename_i hd; cases h; simp [Go.isAgg, Sem.run_bind, Result.andThen, run_und (hT.und _ _ hd)]) | (cases h)

theorem add_eq (b off n : Nat) : Addr.add ⟨b, off, none⟩ n = ⟨b, off + n, none⟩ := by
  unfold Addr.add; split <;> simp_all

theorem cell_eq {b : Nat} {cs : Array Value} {ty : TypeId} {fr : Nat × Nat} (h : w.heap[b]? = some (.cells cs ty fr)) (off : Nat) : w.cell? ⟨b, off, none⟩ = cs[off]? := by
  simp [World.cell?, h]
theorem frozen_eq {b : Nat} {cs : Array Value} {ty : TypeId} {fr : Nat × Nat} (h : w.heap[b]? = some (.cells cs ty fr)) (off : Nat) : w.frozen? ⟨b, off, none⟩ = (decide (fr.1 ≤ off) && decide (off < fr.2)) := by
  obtain ⟨lo, hi⟩ := fr
  simp [World.frozen?, h]
theorem setCell_eq {b : Nat} {cs : Array Value} {ty : TypeId} {fr : Nat × Nat} (h : w.heap[b]? = some (.cells cs ty fr)) (off : Nat) (v : Value) :
    w.setCell ⟨b, off, none⟩ v = w.putObj b (.cells (cs.setIfInBounds off v) ty fr) := by
  unfold World.setCell World.putObj
  congr 1
  apply Array.ext_getElem?
  intro i
  rw [Array.getElem?_modify, Array.getElem?_setIfInBounds]
  by_cases e : b = i
  · subst e
    have hb : b < w.heap.size := by
      rcases Nat.lt_or_ge b w.heap.size with h' | h'
      · exact h'
      · rw [Array.getElem?_eq_none h'] at h; cases h
    rw [Array.getElem?_eq_getElem hb] at h
    simp only [Option.some.injEq] at h
    simp [h, hb]
  · simp [e]

theorem freeze_eq {b : Nat} {cs : Array Value} {ty : TypeId} {fr : Nat × Nat} (h : w.heap[b]? = some (.cells cs ty fr)) (off : Nat) :
    w.freeze ⟨b, off, none⟩ 1 = w.putObj b (.cells cs ty (if fr.1 == fr.2 then (off, off + 1) else (min fr.1 off, max fr.2 (off + 1)))) := by
  unfold World.freeze World.putObj
  rw [if_neg (by omega)]
  congr 1
  apply Array.ext_getElem?
  intro i
  rw [Array.getElem?_modify, Array.getElem?_setIfInBounds]
  by_cases e : b = i
  · subst e
    have hb : b < w.heap.size := by
      rcases Nat.lt_or_ge b w.heap.size with h' | h'
      · exact h'
      · rw [Array.getElem?_eq_none h'] at h; cases h
    rw [Array.getElem?_eq_getElem hb] at h
    simp only [Option.some.injEq] at h
    obtain ⟨lo, hi⟩ := fr
    simp [h, hb]
  · simp [e]

theorem take?_eq {vs r : List V} {o n : Nat} (h : take? vs o n = some r) : r = (vs.drop o).take n ∧ r.length = n := by
  unfold take? at h
  simp only [cond_beq] at h
  split at h
  · rename_i e; cases h; exact ⟨rfl, e⟩
  · cases h

theorem take?_get {vs r : List V} {o n : Nat} (h : take? vs o n = some r) (j : Nat) (hj : j < n) : r[j]? = vs[o + j]? := by
  obtain ⟨rfl, _⟩ := take?_eq h
  rw [List.getElem?_take_of_lt hj, List.getElem?_drop]

theorem CellsR.take {ro : Bool} {vs : List V} {base tot : Nat} {cs : Array Value} {fr : Nat × Nat} (h : CellsR μ ro vs base tot cs fr) {o n : Nat} {r : List V}
    (ht : take? vs o n = some r) : ∃ us, us.length = n ∧ RVL μ r us ∧ ∀ (j : Nat) (u : Value), us[j]? = some u → cs[base + o + j]? = some u := by
  have hl := (take?_eq ht).2
  have hcell : ∀ j, j < n → ∃ v u, r[j]? = some v ∧ cs[base + o + j]? = some u ∧ RV μ v u := by
    intro j hj
    have h1 : r[j]? = some r[j] := List.getElem?_eq_getElem (by omega)
    have h2 := take?_get ht j hj
    rw [h1] at h2
    obtain ⟨u, hu, hr⟩ := h.cell (o + j) _ h2.symm
    exact ⟨_, u, h1, by rw [show base + o + j = base + (o + j) from by omega]; exact hu, hr⟩
  refine ⟨(cs.toList.drop (base + o)).take n, ?_, ?_, ?_⟩
  · simp only [List.length_take, List.length_drop, Array.length_toList]
    rcases Nat.eq_zero_or_pos n with h0 | h0
    · omega
    · obtain ⟨v, u, _, hu, _⟩ := hcell (n - 1) (by omega)
      have : base + o + (n - 1) < cs.size := by
        rcases Nat.lt_or_ge (base + o + (n - 1)) cs.size with h' | h'
        · exact h'
        · rw [Array.getElem?_eq_none h'] at hu; cases hu
      omega
  · refine RVL.of_get ?_ ?_
    · rw [hl]
      simp only [List.length_take, List.length_drop, Array.length_toList]
      rcases Nat.eq_zero_or_pos n with h0 | h0
      · omega
      · obtain ⟨v, u, _, hu, _⟩ := hcell (n - 1) (by omega)
        have : base + o + (n - 1) < cs.size := by
          rcases Nat.lt_or_ge (base + o + (n - 1)) cs.size with h' | h'
          · exact h'
          · rw [Array.getElem?_eq_none h'] at hu; cases hu
        omega
    · intro j v hv
      have hj : j < n := by
        rcases Nat.lt_or_ge j n with h' | h'
        · exact h'
        · rw [List.getElem?_eq_none (by omega)] at hv; cases hv
      obtain ⟨v', u, h1, h2, h3⟩ := hcell j hj
      rw [hv] at h1; cases h1
      exact ⟨u, by rw [List.getElem?_take_of_lt hj, List.getElem?_drop]; simpa using h2, h3⟩
  · intro j u hu
    have hj : j < n := by
      rcases Nat.lt_or_ge j n with h' | h'
      · exact h'
      · rw [List.getElem?_take_eq_none h'] at hu; cases hu
    rw [List.getElem?_take_of_lt hj, List.getElem?_drop] at hu
    simpa using hu

theorem run_load {a : Addr} {v : Value} (h : w.cell? a = some v) : (load a).run P w = .ok v w := by simp [load, Sem.run, h]

theorem run_loadCellsFrom {b off : Nat} : ∀ (us : List Value) (i : Nat) (acc : Array Value), (∀ (j : Nat) (u : Value), us[j]? = some u → w.cell? ⟨b, off + (i + j), none⟩ = some u) →
    (loadCellsFrom ⟨b, off, none⟩ i us.length acc).run P w = .ok (acc ++ us.toArray) w
  | [], i, acc, _ => by simp [loadCellsFrom, Sem.run, pure]
  | u :: us, i, acc, h => by
    have h0 : w.cell? ⟨b, off + i, none⟩ = some u := by simpa using h 0 u rfl
    simp only [List.length_cons, loadCellsFrom, Sem.run_bind, add_eq, run_load h0, Result.andThen]
    rw [run_loadCellsFrom us (i + 1) (acc.push u) fun j u' hu => by
      have := h (j + 1) u' (by simpa using hu)
      rw [show off + (i + 1 + j) = off + (i + (j + 1)) from by omega]; exact this]
    simp

theorem run_loadCells {b off : Nat} {us : List Value} (h : ∀ (j : Nat) (u : Value), us[j]? = some u → w.cell? ⟨b, off + j, none⟩ = some u) :
    (loadCells ⟨b, off, none⟩ us.length).run P w = .ok us.toArray w := by
  rw [loadCells, run_loadCellsFrom us 0 #[] fun j u hu => by simpa using h j u hu]; simp

/-- What a cells object says of its block. -/
theorem Sim.cells (h : Sim μ H w) {l : Nat} {vs : List V} (e : cellsAt H l = some vs) :
    ∃ ro b base tot cs ty fr, H.get l = some (.cells ro vs) ∧ μ l = some (b, base, tot) ∧ w.heap[b]? = some (.cells cs ty fr) ∧ CellsR μ ro vs base tot cs fr := by
  unfold cellsAt at e
  split at e
  · rename_i ro vs' e1
    cases e
    obtain ⟨b, base, tot, cs, ty, fr, h1, h2, h3⟩ := h.obj l _ e1
    exact ⟨ro, b, base, tot, cs, ty, fr, e1, h1, h2, h3⟩
  · cases e

theorem run_loadVar (hT : TabOk P T) (h : Sim μ H w) {t : TypeId} {l o : Nat} {v : V} (e : loadVar T H t l o = some v) {b base tot : Nat} (hm : μ l = some (b, base, tot)) :
    ∃ u, (Go.loadVar t ⟨b, base + o, none⟩).run P w = .ok u w ∧ RV μ v u := by
  unfold Am.loadVar at e
  split at e
  · cases e
  rename_i vs hvs
  obtain ⟨ro, b', base', tot', cs, ty, fr, hg, hm', hb, hc⟩ := h.cells hvs
  rw [hm] at hm'; cases hm'
  split at e
  · rename_i hag
    split at e
    · rename_i n by' hsz
      obtain ⟨i, hi, hin, _⟩ := hT.size _ _ _ hsz
      simp only [Option.map_eq_some_iff] at e
      obtain ⟨r, hr, rfl⟩ := e
      obtain ⟨us, hl, hrv, hcs⟩ := hc.take hr
      refine ⟨.agg us.toArray, ?_, .agg hrv⟩
      have := run_loadCells (P := P) (w := w) (b := b) (off := base + o) (us := us) fun j u hu => by rw [cell_eq hb]; exact hcs j u hu
      simp only [Go.loadVar, Sem.run_bind, run_agg hT hag, Result.andThen, if_true, run_size hi, hin]
      rw [hl] at this
      simp [this, Sem.run, pure]
    · cases e
  · rename_i hag
    obtain ⟨u, hu, hr⟩ := hc.cell o v e
    refine ⟨u, ?_, hr⟩
    simp only [Go.loadVar, Sem.run_bind, run_agg hT hag, Result.andThen]
    simp only [Bool.false_eq_true, if_false]
    exact run_load (by rw [cell_eq hb]; exact hu)
  · cases e

/-! ### Writing -/
def overA : Array Value → Nat → List Value → Array Value
  | cs, _, [] => cs
  | cs, o, v :: vs => overA (cs.setIfInBounds o v) (o + 1) vs

@[simp] theorem overA_size : ∀ (us : List Value) (cs : Array Value) (o : Nat), (overA cs o us).size = cs.size
  | [], _, _ => rfl
  | _ :: us, cs, o => by rw [overA, overA_size us]; simp
theorem overA_get : ∀ (us : List Value) (cs : Array Value) (o j : Nat), o + us.length ≤ cs.size → (overA cs o us)[j]? = if o ≤ j ∧ j < o + us.length then us[j - o]? else cs[j]?
  | [], cs, o, j, _ => by
    rw [overA, if_neg (by simp)]
  | u :: us, cs, o, j, h => by
    simp only [List.length_cons] at h ⊢
    rw [overA, overA_get us _ _ _ (by simp; omega)]
    by_cases e : j = o
    · subst e
      rw [if_neg (by omega), if_pos (by omega), Array.getElem?_setIfInBounds, if_pos rfl, if_pos (by omega)]; simp
    · by_cases e2 : o + 1 ≤ j ∧ j < o + 1 + us.length
      · rw [if_pos e2, if_pos (by omega), show j - o = (j - (o + 1)) + 1 from by omega]; simp
      · rw [if_neg e2, if_neg (by omega), Array.getElem?_setIfInBounds, if_neg (by omega)]

theorem over_length : ∀ (vs : List V) (o : Nat) (cs : List V), (over vs o cs).length = vs.length
  | [], _, _ => by unfold over; split <;> simp_all
  | v :: vs, 0, [] => by simp [over]
  | v :: vs, 0, c :: cs => by simp [over, over_length vs 0 cs]
  | v :: vs, o + 1, cs => by simp [over, over_length vs o cs]
theorem over_get : ∀ (vs : List V) (o : Nat) (cs : List V) (j : Nat), o + cs.length ≤ vs.length → (over vs o cs)[j]? = if o ≤ j ∧ j < o + cs.length then cs[j - o]? else vs[j]?
  | [], o, cs, j, h => by
    have h1 : cs = [] := by cases cs <;> simp_all
    have h2 : o = 0 := by simp at h; omega
    subst h1 h2
    simp [over]
  | v :: vs, 0, [], j, h => by rw [over, if_neg (by simp)]
  | v :: vs, 0, c :: cs, j, h => by
    simp only [List.length_cons] at h
    rw [over]
    cases j with
    | zero => simp
    | succ j =>
      rw [List.getElem?_cons_succ, over_get vs 0 cs j (by omega)]
      by_cases e : j < cs.length
      · rw [if_pos (by omega), if_pos (by simp; omega)]; simp
      · rw [if_neg (by omega), if_neg (by simp; omega)]; simp
  | v :: vs, o + 1, cs, j, h => by
    simp only [List.length_cons] at h
    rw [over]
    cases j with
    | zero => rw [if_neg (by omega)]; simp
    | succ j =>
      rw [List.getElem?_cons_succ, over_get vs o cs j (by omega)]
      by_cases e : o ≤ j ∧ j < o + cs.length
      · rw [if_pos e, if_pos (by omega)]; congr 1; omega
      · rw [if_neg e, if_neg (by omega)]; simp

theorem CellsR.over {ro : Bool} {vs : List V} {base tot : Nat} {cs : Array Value} {fr : Nat × Nat} (h : CellsR μ ro vs base tot cs fr) {o : Nat} {as : List V} {us : List Value}
    (ho : o + as.length ≤ vs.length) (hr : RVL μ as us) : CellsR μ ro (Am.over vs o as) base tot (overA cs (base + o) us) fr := by
  have hul := hr.length
  have h1 := h.len
  have h2 := h.room
  refine ⟨by rw [over_length]; exact h.len, by simpa using h.room, ?_, by simpa using h.free⟩
  intro j v hv
  rw [over_get _ _ _ _ ho] at hv
  rw [overA_get _ _ _ _ (by omega)]
  by_cases e : o ≤ j ∧ j < o + as.length
  · rw [if_pos e] at hv
    obtain ⟨u, hu, hr'⟩ := hr.get hv
    exact ⟨u, by rw [if_pos (by omega), show base + j - (base + o) = j - o from by omega]; exact hu, hr'⟩
  · rw [if_neg e] at hv
    obtain ⟨u, hu, hr'⟩ := h.cell j v hv
    exact ⟨u, by rw [if_neg (by omega)]; exact hu, hr'⟩

theorem RV.one {v : V} {u : Value} (h : RV μ v u) (h1 : v.one = true) : (∀ c, u ≠ .agg c) ∧ (∀ c, u ≠ .tuple c) := by
  cases h <;> simp_all [V.one]

theorem run_store {a : Addr} {v old : Value} (h1 : (∀ c, v ≠ .agg c) ∧ (∀ c, v ≠ .tuple c)) (hc : w.cell? a = some old) (hf : w.frozen? a = false) :
    (store a v).run P w = .ok () (w.setCell a v) := by
  unfold store
  cases v <;> first | (simp [Sem.run, hc, hf]; done) | (exact absurd rfl (h1.1 _)) | (exact absurd rfl (h1.2 _))

theorem putObj_self {b : Nat} {z : Obj} (h : w.heap[b]? = some z) : w.putObj b z = w := by
  unfold World.putObj
  have : w.heap.setIfInBounds b z = w.heap := by
    apply Array.ext_getElem?
    intro i
    rw [Array.getElem?_setIfInBounds]
    split
    · rename_i e; subst e
      split
      · exact h.symm
      · rename_i hs; rw [Array.getElem?_eq_none (by omega)]
    · rfl
  rw [this]
theorem putObj_putObj (w : World) (b : Nat) (z z' : Obj) : (w.putObj b z).putObj b z' = w.putObj b z' := by
  unfold World.putObj
  simp

theorem run_storeCells {b off : Nat} {ty : TypeId} {fr : Nat × Nat} : ∀ (us : List Value) (i : Nat) (w : World) (cs : Array Value), w.heap[b]? = some (.cells cs ty fr) →
    (∀ u, u ∈ us → (∀ c, u ≠ .agg c) ∧ (∀ c, u ≠ .tuple c)) → off + i + us.length ≤ cs.size → (∀ j, off + i ≤ j → j < off + i + us.length → (decide (fr.1 ≤ j) && decide (j < fr.2)) = false) →
    (storeCells ⟨b, off, none⟩ us i).run P w = .ok () (w.putObj b (.cells (overA cs (off + i) us) ty fr))
  | [], i, w, cs, hb, _, _, _ => by simp [storeCells, Sem.run, pure, overA, putObj_self hb]
  | u :: us, i, w, cs, hb, h1, hsz, hfr => by
    simp only [List.length_cons] at hsz hfr
    have hc : ∃ old, w.cell? ⟨b, off + i, none⟩ = some old := by
      rw [cell_eq hb]
      have hlt : off + i < cs.size := by omega
      exact ⟨_, Array.getElem?_eq_getElem hlt⟩
    obtain ⟨old, hc⟩ := hc
    have hst := run_store (P := P) (h1 u (by simp)) hc (by rw [frozen_eq hb]; exact hfr _ (by omega) (by omega))
    rw [setCell_eq hb] at hst
    have hb' : (w.putObj b (.cells (cs.setIfInBounds (off + i) u) ty fr)).heap[b]? = some (.cells (cs.setIfInBounds (off + i) u) ty fr) := by
      apply World.putObj_heap_same
      rcases Nat.lt_or_ge b w.heap.size with h' | h'
      · exact h'
      · rw [Array.getElem?_eq_none h'] at hb; cases hb
    have ih := run_storeCells (off := off) us (i + 1) (w.putObj b (.cells (cs.setIfInBounds (off + i) u) ty fr)) (cs.setIfInBounds (off + i) u) hb' (fun u' hu' => h1 u' (by simp [hu'])) (by rw [Array.size_setIfInBounds]; omega) fun j h2 h3 => hfr j (by omega) (by omega)
    simp only [storeCells, Sem.run_bind, add_eq, hst, Result.andThen]
    rw [ih, putObj_putObj]
    rfl

theorem all_one {as : List V} {us : List Value} (hr : RVL μ as us) (h : as.all V.one = true) : ∀ u, u ∈ us → (∀ c, u ≠ .agg c) ∧ (∀ c, u ≠ .tuple c) := by
  induction as generalizing us with
  | nil => cases hr; simp
  | cons a as ih =>
    cases hr with
    | cons h1 t =>
      simp only [List.all_cons, Bool.and_eq_true] at h
      intro u hu
      rcases List.mem_cons.1 hu with rfl | hu
      · exact h1.one h.1
      · exact ih t h.2 u hu

theorem run_putCells (h : Sim μ H w) {l o : Nat} {as : List V} {us : List Value} {H' : Heap} (e : putCells H l o as = some H') (hr : RVL μ as us) {b base tot : Nat} (hm : μ l = some (b, base, tot)) :
    ∃ w', (storeCells ⟨b, base + o, none⟩ us).run P w = .ok () w' ∧ Post μ H w μ H' w' := by
  unfold putCells at e
  split at e
  · rename_i vs hg
    cases hcnd : (Nat.ble (o + as.length) vs.length && as.all V.one) with
    | false => rw [hcnd] at e; cases e
    | true =>
      rw [hcnd] at e
      simp only [cond_true, Option.some.injEq] at e
      subst e
      rw [Bool.and_eq_true, Nat.ble_eq] at hcnd
      obtain ⟨b', base', tot', cs, ty, fr, hm', hb, hc⟩ := h.obj l _ hg
      rw [hm] at hm'; cases hm'
      have hl := hr.length
      have h1 := hc.len
      have h2 := hc.room
      refine ⟨_, run_storeCells us 0 w cs hb (all_one hr hcnd.2) (by omega) (fun j h3 h4 => hc.thaw rfl (by omega)), ?_⟩
      refine Post.turn h hg rfl hm _ ⟨b, base, tot, _, ty, fr, hm, World.putObj_heap_same ?_, ?_⟩
      · rcases Nat.lt_or_ge b w.heap.size with h' | h'
        · exact h'
        · rw [Array.getElem?_eq_none h'] at hb; cases hb
      · simpa using hc.over hcnd.1 hr
  · cases e

theorem RV.cells {v : V} {u : Value} (h : RV μ v u) : RVL μ v.cells u.cells.toList := by
  cases h <;> first | (rename_i h; exact h) | (refine .cons ?_ .nil; first | exact .bool _ | exact .int _ _ | exact .str _ | exact .nilPtr | exact .nilSlice | exact .nilMap | exact .nilFunc | exact .nilIface | (constructor <;> assumption))

theorem run_storeVar (hT : TabOk P T) (h : Sim μ H w) {t : TypeId} {l o : Nat} {v : V} {u : Value} {H' : Heap} (e : storeVar T H t l o v = some H') (hv : RV μ v u) {b base tot : Nat} (hm : μ l = some (b, base, tot)) :
    ∃ w', (Go.storeVar t ⟨b, base + o, none⟩ u).run P w = .ok () w' ∧ Post μ H w μ H' w' := by
  unfold Am.storeVar at e
  split at e
  · rename_i n by' hsz
    simp only [cond_beq] at e
    split at e
    · rename_i hn
      obtain ⟨i, hi, hin, _⟩ := hT.size _ _ _ hsz
      obtain ⟨w', hrun, hp⟩ := run_putCells (P := P) h e hv.cells hm
      refine ⟨w', ?_, hp⟩
      have hl := hv.cells.length
      have hs : u.cells.size = n := by rw [← Array.length_toList, hl, hn]
      simp only [Go.storeVar, Sem.run_bind, run_size hi, Result.andThen, hin, hs]
      simpa using hrun
    · cases e
  · cases e

/-- A new block of cells. -/
theorem Post.newCells (h : Sim μ H w) {vs : List V} {cs : Array Value} (hr : RVL μ vs cs.toList) (ty : TypeId) :
    Post μ H w (upd μ H.n (w.heap.size, 0, cs.size)) (H.push (.cells false vs)) (w.alloc (.cells cs ty)) := by
  refine Post.alloc h ⟨w.heap.size, 0, cs.size, cs, ty, (0, 0), upd_same _ _ _, World.alloc_heap_new _ _, ?_⟩
  have hl := hr.length
  rw [Array.length_toList] at hl
  refine ⟨by omega, Nat.le_refl _, ?_, fun _ => .inl rfl⟩
  intro j v hv
  obtain ⟨u, hu, hr'⟩ := (hr.mono (upd_ext h _)).get hv
  exact ⟨u, by simpa using hu, hr'⟩

theorem run_newRow (ty : TypeId) (cs : Array Value) : (newRow ty cs).run P w = .ok ⟨w.heap.size, 0, none⟩ (w.alloc (.cells cs ty)) := by
  simp only [newRow, Sem.run_bind, run_newObj_alloc, Result.andThen, Sem.run_pure]
end Go.Am
