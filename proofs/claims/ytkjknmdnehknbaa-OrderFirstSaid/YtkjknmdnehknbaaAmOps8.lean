import Derived.Test.YtkjknmdnehknbaaAmOps7
set_option linter.unusedSimpArgs false
set_option linter.unusedVariables false
/- append and copy in the small machine. -/
namespace Go.Am
open Go

variable {P : Program} {T : Tab} {μ : Mu} {H : Heap} {w : World}

theorem zeroCells_size (z : Array Value) (n : Nat) : (Builtin.zeroCells z n).size = n * z.size := by simp [Builtin.zeroCells]

theorem take_of_take? {vs r : List V} {o n : Nat} (h : take? vs o n = some r) : r.length = n := (take?_eq h).2

theorem good_append (hT : TabOk P T) (h : Sim μ H w) {t0 t1 ty : TypeId} {x y r : V} {ux uy : Value} {H' : Heap} (hx : RV μ x ux) (hy : RV μ y uy) (e : append T H t0 t1 x y = some (r, H')) :
    VGood P μ H w (Builtin.append_ #[t0, t1] ty #[ux, uy]) r H' := by
  unfold Am.append at e
  split at e
  case h_2 => cases e
  rename_i el u1 hd0 hd1
  split at e
  case h_2 => cases e
  rename_i s bytes z hs hz
  simp only [cond_beq] at e
  split at e
  case isFalse => cases e
  rename_i hzl
  obtain ⟨i, zv, hi, hzv, hr⟩ := hT.zero _ _ hz
  obtain ⟨ie, hie, hin, hby⟩ := hT.size _ _ _ hs
  rw [hi] at hie; cases hie
  have hzs : zv.cells.size = s := by have := (hr μ).length; rw [Array.length_toList] at this; omega
  split at e
  · cases e
  rename_i n new hap
  obtain ⟨us, hrv, hA⟩ := good_appended (P := P) hT h hs hz hzl hy hap
  subst hin
  have hnl := hrv.length
  have hul := hA.len
  have hu0 := hT.und _ _ hd0
  have hu1 := hT.und _ _ hd1
  -- a new row
  have grow : ∀ {base : Option Addr} {sLen sCap : Nat} {old : List V} {olds : List Value} (H1 : Heap), Sim μ H1 w → RVL μ old olds → olds.length = sLen * i.size → sCap < sLen + n → sLen + n < 17592186044416 → (sLen + n) * bytes < 17592186044416 →
      (Builtin.firstCells i.size sLen (.slice base sLen sCap)).run P { w with drawn := w.drawn + 1 } = .ok olds.toArray { w with drawn := w.drawn + 1 } →
      ∃ u' w' μ', (Builtin.append_ #[t0, t1] ty #[.slice base sLen sCap, uy]).run P w = .ok u' w' ∧ RV μ' (.slice H1.n 0 (sLen + n) i.size none) u' ∧ Post μ H1 w μ' (H1.push (.cells false (old ++ new))) w' := by
    intro base sLen sCap old olds H1 hS1 hro hol hroom hsm hsb hold
    obtain ⟨newCap, hge, hrun⟩ := run_append_new (P := P) hT hu0 hu1 hi hzv hby hA hroom hsm hsb hold (ty := ty)
    have hd1 : Sim μ H1 { w with drawn := w.drawn + 1 } := hS1.drawn _
    have hP := Post.newCellsM hd1 (hro.append hrv) (cs := olds.toArray ++ us.toArray ++ Builtin.zeroCells zv.cells (newCap - (sLen + n))) (by
      intro j u' hu'
      have hj : j < (olds ++ us).length := by
        rcases Nat.lt_or_ge j (olds ++ us).length with h' | h'
        · exact h'
        · rw [List.getElem?_eq_none h'] at hu'; cases hu'
      rw [Array.getElem?_append_left (by simpa using hj)]
      rw [← hu']
      simp only [List.append_toArray, List.getElem?_toArray]) (by simp) el (0, 0) (.inl rfl)
    refine ⟨_, _, _, hrun, ?_, (Post.drawn hS1 _).trans hP⟩
    refine RV.slice (upd_same _ _ _) hge (fun m hm => by cases hm) ?_ (.inr rfl)
    have hm : (newCap - (sLen + n)) * i.size + (sLen + n) * i.size = newCap * i.size := by rw [← Nat.add_mul]; congr 1; omega
    have hm2 : (sLen + n) * i.size = sLen * i.size + n * i.size := Nat.add_mul _ _ _
    simp only [Array.size_append, List.size_toArray, zeroCells_size, hzs, hol, hul]
    omega
  split at e
  · cases hc : (Nat.blt n 17592186044416 && Nat.blt (n * bytes) 17592186044416) with
    | false => rw [hc] at e; cases e
    | true =>
      rw [hc] at e
      simp only [cond_true, cond_beq] at e
      rw [Bool.and_eq_true, Nat.blt_eq, Nat.blt_eq] at hc
      cases hx
      split at e
      · rename_i h0
        subst h0
        cases e
        refine .same h (u := .slice none 0 0) ?_ .nilSlice
        exact run_append_in (P := P) hT hu0 hu1 hi hby hA (by omega) (by simp)
      · rename_i h0
        cases e
        have := grow (base := none) (sLen := 0) (sCap := 0) (old := []) (olds := []) H h .nil (by simp) (by omega) (by omega) (by simpa using hc.2) (by simp [Builtin.firstCells])
        simpa [VGood] using this
  · rename_i l o m s' c
    cases hc : (Nat.beq i.size s' && Nat.blt (m + n) 17592186044416 && Nat.blt ((m + n) * bytes) 17592186044416) with
    | false => rw [hc] at e; cases e
    | true =>
      rw [hc] at e
      simp only [cond_true, cond_beq] at e
      simp only [Bool.and_eq_true, Nat.beq_eq, Nat.blt_eq] at hc
      obtain ⟨⟨rfl, hmn⟩, hmb⟩ := hc
      split at e
      · rename_i h0
        subst h0
        cases e
        have husn : us = [] := by
          have : us.length = 0 := by rw [hul]; simp
          exact List.length_eq_zero_iff.1 this
        subst husn
        have hx' := hx
        cases hx with
        | slice hm hn hcap ht ho =>
        refine .same h ?_ hx'
        refine run_append_in (P := P) hT hu0 hu1 hi hby hA (by omega) ?_
        simp [storeCells]
      · rename_i h0
        split at e
        · cases e
        rename_i old hold
        obtain ⟨olds, hol, hro, horun⟩ := good_firstCells (P := P) h hx (m := m) rfl (Nat.le_refl _) hold
        have hx' := hx
        cases hx with
        | slice hm hn hcap ht ho =>
        rename_i b0 base tot cap off
        have hdr := horun { w with drawn := w.drawn + 1 } rfl
        split at e
        · rename_i q
          have := hcap q rfl
          subst this
          simp only [cond_ble] at e
          split at e
          · rename_i hle
            simp only [Option.map_eq_some_iff] at e
            obtain ⟨H2, hput, e⟩ := e
            cases e
            have hoff : off = base + o := by rcases ho with h1 | h1 <;> omega
            subst hoff
            obtain ⟨w', hst, hp⟩ := run_putCells (P := P) h hput hrv hm
            refine ⟨_, w', μ, run_append_in (P := P) hT hu0 hu1 hi hby hA hle (w' := w') ?_, ?_, hp⟩
            · simp only [add_eq]
              rw [show base + o + m * i.size = base + (o + m * i.size) from by omega]
              exact hst
            · exact .slice hm hle (fun m hm => by cases hm; rfl) ht (.inr rfl)
          · rename_i hle
            cases e
            exact grow H h hro hol (by omega) hmn hmb hdr
        · cases hone : new.all V.one with
          | false => rw [hone] at e; cases e
          | true =>
            rw [hone] at e
            simp only [cond_true] at e
            split at e
            · rename_i H1 hret
              cases e
              unfold retire at hret
              split at hret
              · rename_i vs hg
                cases hret
                by_cases hle : m + n ≤ cap
                · -- in place
                  have hoff : off = base + o := by rcases ho with h1 | h1 <;> omega
                  subst hoff
                  obtain ⟨b', base', tot', cs, tyb, fr, hm', hb, hcl⟩ := h.obj l _ hg
                  rw [hm] at hm'; cases hm'
                  have hmul : (m + n) * i.size ≤ cap * i.size := Nat.mul_le_mul_right _ hle
                  have hmn2 : (m + n) * i.size = m * i.size + n * i.size := Nat.add_mul _ _ _
                  have hroom := hcl.room
                  have hst := run_storeCells (P := P) (off := base + o + m * i.size) us 0 w cs hb (all_one hrv hone) (by omega) (fun j h3 h4 => hcl.thaw rfl (by omega))
                  refine ⟨_, _, upd μ H.n (b0, base + o, tot), run_append_in (P := P) hT hu0 hu1 hi hby hA hle (by simp only [add_eq]; exact hst), ?_, ?_⟩
                  · refine .slice (upd_same _ _ _) hle (fun m hm => by cases hm) (by omega) (.inr rfl)
                  · have hbs : b0 < w.heap.size := by
                      rcases Nat.lt_or_ge b0 w.heap.size with h' | h'
                      · exact h'
                      · rw [Array.getElem?_eq_none h'] at hb; cases hb
                    refine Post.regrow h hg rfl hm _ ⟨b0, base + o, tot, _, tyb, fr, upd_same _ _ _, World.putObj_heap_same hbs, ?_⟩
                    have hext := upd_ext h (b0, base + o, tot)
                    unfold firstCells at hold
                    simp only at hold
                    split at hold
                    · rename_i vs' hv
                      have hvs : vs' = vs := by
                        unfold cellsAt at hv
                        rw [hg] at hv
                        cases hv; rfl
                      subst hvs
                      have hol2 := take_of_take? hold
                      refine ⟨by rw [List.length_append, hol2, ← hnl, hul]; omega, by rw [overA_size]; omega, ?_, fun _ => by have := hcl.free rfl; simpa using this⟩
                      intro j v hv2
                      rw [overA_get _ _ _ _ (by omega)]
                      by_cases hj : j < m * i.size
                      · rw [List.getElem?_append_left (by omega), take?_get hold j hj] at hv2
                        obtain ⟨u', hu', hr'⟩ := hcl.cell _ _ hv2
                        refine ⟨u', ?_, hr'.mono hext⟩
                        rw [if_neg (by omega)]
                        rw [show base + o + j = base + (o + j) from by omega]; exact hu'
                      · rw [List.getElem?_append_right (by omega), hol2] at hv2
                        obtain ⟨u', hu', hr'⟩ := hrv.get hv2
                        have hj2 : j - m * i.size < us.length := by
                          rcases Nat.lt_or_ge (j - m * i.size) us.length with h' | h'
                          · exact h'
                          · rw [List.getElem?_eq_none h'] at hu'; cases hu'
                        refine ⟨u', ?_, hr'.mono hext⟩
                        rw [if_pos (by omega)]
                        rw [show base + o + j - (base + o + m * i.size + 0) = j - m * i.size from by omega]; exact hu'
                    · cases hold
                · have hret := Post.retire h hg
                  obtain ⟨u', w', μ', h1, h2, h3⟩ := grow (H.put l .stale) hret.sim hro hol (by omega) hmn hmb hdr
                  exact ⟨u', w', μ', h1, h2, hret.trans h3⟩
              · cases hret
            · cases e
  · cases e

theorem good_copy (hT : TabOk P T) (h : Sim μ H w) {t0 ty : TypeId} {ts : Array TypeId} (hts : ts[0]? = some t0) {x y r : V} {ux uy : Value} {H' : Heap} (hx : RV μ x ux) (hy : RV μ y uy) (e : copy T H t0 x y = some (r, H')) :
    VGood P μ H w (Builtin.copy_ ts ty #[ux, uy]) r H' := by
  unfold Am.copy at e
  split at e
  case h_2 => cases e
  rename_i el hd
  split at e
  case h_2 => cases e
  rename_i s b m n hs hm hn
  obtain ⟨ie, hie, hin, hby⟩ := hT.size _ _ _ hs
  subst hin
  dsimp only at e
  have hlx := hm
  split at e
  · rename_i cs hc
    obtain ⟨us, hl, hrv, hrun⟩ := good_firstCells (P := P) h hy hn (Nat.min_le_left n m) hc
    cases e
    cases hx
    simp only [lenOf, Option.some.injEq] at hm
    subst hm
    refine .same h (u := .int .i64 0) ?_ (.int _ _)
    have := hrun w rfl
    rw [Nat.min_zero] at this
    simp [Builtin.copy_, hts, run_und (hT.und _ _ hd), run_lenOf hy hn, run_size hie, this, goInt]
  · rename_i cs l o m' s' c hc
    obtain ⟨us, hl, hrv, hrun⟩ := good_firstCells (P := P) h hy hn (Nat.min_le_left n m) hc
    simp only [cond_beq] at e
    split at e
    case isFalse => cases e
    rename_i hss
    subst hss
    simp only [lenOf, Option.some.injEq] at hm
    subst hm
    cases hx with
    | slice hm hn' hcap ht ho =>
    rename_i b0 base tot cap off
    have hmin : min n m' = Nat.min n m' := rfl
    split at e
    · rename_i h0
      cases e
      have husn : us = [] := by
        have : us.length = 0 := by rw [hl, h0]; simp
        exact List.length_eq_zero_iff.1 this
      subst husn
      refine .same h (u := .int .i64 0) ?_ (.int _ _)
      have := hrun w rfl
      have h0' : Nat.min n m' = 0 := h0
      rw [h0] at this
      simp [Builtin.copy_, hts, run_und (hT.und _ _ hd), run_lenOf hy hn, run_size hie, goInt, h0', this, storeCells]
    · rename_i h0
      simp only [Option.map_eq_some_iff] at e
      obtain ⟨H2, hput, e⟩ := e
      cases e
      have hoff : off = base + o := by
        rcases ho with h1 | h1
        · have := Nat.min_le_right n m'; omega
        · exact h1
      subst hoff
      obtain ⟨w', hst, hp⟩ := run_putCells (P := P) h hput hrv hm
      refine ⟨.int .i64 ((min n m' : Nat) : Int), w', μ, ?_, .int _ _, hp⟩
      have := hrun w rfl
      simp only [Builtin.copy_, hts, List.getElem?_toArray, List.getElem?_cons_zero, List.getElem?_cons_succ, Sem.run_bind, run_und (hT.und _ _ hd), Result.andThen_ok, run_lenOf hy hn, run_size hie]
      rw [show Nat.min n m' = min n m' from rfl, this]
      simp [hst, goInt]
  · cases e

theorem good_clear (hT : TabOk P T) (h : Sim μ H w) {t0 ty el : TypeId} {ts : Array TypeId} (hts : ts[0]? = some t0) {l o n s : Nat} {c : Option Nat} {z : List V} {ux : Value} {H' : Heap} (hx : RV μ (.slice l o n s c) ux) (hd : T.und t0 = some (.slice el)) (hz : T.zero el = some z)
    (hzl : z.length = s) (hn : n ≠ 0) (e : putCells H l o (zeros z n) = some H') : VGood P μ H w (Builtin.clear_ ts ty #[ux]) undefV H' := by
  obtain ⟨i, zv, hi, hzv, hr⟩ := hT.zero _ _ hz
  cases hx with
  | slice hm hn' hcap ht ho =>
  rename_i b0 base tot cap off
  have hoff : off = base + o := by rcases ho with h1 | h1 <;> omega
  subst hoff
  obtain ⟨w', hst, hp⟩ := run_putCells (P := P) h e ((hr μ).zeros n) hm
  refine ⟨.tuple #[], w', μ, ?_, RV.undef _, hp⟩
  obtain ⟨n, rfl⟩ : ∃ k, n = k + 1 := ⟨n - 1, by omega⟩
  simp only [Builtin.clear_, hts, List.getElem?_toArray, List.getElem?_cons_zero, Sem.run_bind, run_und (hT.und _ _ hd), Result.andThen_ok, run_zero hi hzv, Builtin.zeroCells]
  rw [hst]
  simp
theorem good_clear0 (hT : TabOk P T) (h : Sim μ H w) {t0 ty el : TypeId} {ts : Array TypeId} (hts : ts[0]? = some t0) {x : V} {ux : Value} (hx : RV μ x ux) (hd : T.und t0 = some (.slice el)) (e : x = .nilSlice ∨ ∃ l o s c, x = .slice l o 0 s c) :
    VGood P μ H w (Builtin.clear_ ts ty #[ux]) undefV H := by
  refine .same h (u := .tuple #[]) ?_ (RV.undef _)
  rcases e with rfl | ⟨l, o, s, c, rfl⟩
  · cases hx; simp [Builtin.clear_, hts, run_und (hT.und _ _ hd)]
  · cases hx; simp [Builtin.clear_, hts, run_und (hT.und _ _ hd)]
end Go.Am
