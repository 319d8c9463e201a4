import Derived.Test.YtkjknmdnehknbaaAmOps6
import Derived.Laws.Append
set_option linter.unusedSimpArgs false
set_option linter.unusedVariables false
/- append and copy. -/
namespace Go.Am
open Go

variable {P : Program} {T : Tab} {μ : Mu} {H : Heap} {w : World}

theorem cell_heap {w w1 : World} (h : w1.heap = w.heap) (a : Addr) : w1.cell? a = w.cell? a := by unfold World.cell?; rw [h]

theorem good_firstCells (h : Sim μ H w) {y : V} {u : Value} {s n m : Nat} {new : List V} (hu : RV μ y u) (hm : lenOf y = some m) (hn : n ≤ m) (e : firstCells H s n y = some new) :
    ∃ us, us.length = n * s ∧ RVL μ new us ∧ ∀ w1 : World, w1.heap = w.heap → (Builtin.firstCells s n u).run P w1 = .ok us.toArray w1 := by
  unfold Am.firstCells at e
  split at e
  · rename_i l o n' s' c
    split at e
    · rename_i vs hv
      cases hu with
      | slice hm' hn' hcap ht ho =>
      rename_i b0 base tot cap off
      simp only [lenOf, Option.some.injEq] at hm
      subst hm
      obtain ⟨ro, b', base', tot', cs, ty, fr, hg, hm2, hb', hcl⟩ := h.cells hv
      rw [hm'] at hm2; cases hm2
      obtain ⟨us, hl, hrv, hcell⟩ := hcl.take e
      refine ⟨us, hl, hrv, fun w1 hw1 => ?_⟩
      simp only [Builtin.firstCells]
      rw [← hl]
      by_cases h0 : cap = 0
      · have : us = [] := by
          have : us.length = 0 := by rw [hl, show n = 0 from by omega]; simp
          exact List.length_eq_zero_iff.1 this
        subst this
        exact run_loadCells fun j u' hu' => by simp at hu'
      · have hoff : off = base + o := ho.resolve_left h0
        subst hoff
        exact run_loadCells fun j u' hu' => by rw [cell_heap hw1, cell_eq hb']; exact hcell j u' hu'
    · cases e
  · simp only [cond_beq] at e
    split at e
    · rename_i h0; cases e; cases hu; subst h0
      exact ⟨[], by simp, .nil, fun w1 _ => by simp [Builtin.firstCells]⟩
    · cases e
  · rename_i x
    cases hc : (Nat.beq s 1 && Nat.ble n x.length) with
    | false => rw [hc] at e; cases e
    | true =>
      rw [hc] at e
      simp only [cond_true, Option.some.injEq] at e
      rw [Bool.and_eq_true, Nat.beq_eq, Nat.ble_eq] at hc
      obtain ⟨rfl, hle⟩ := hc
      subst e
      obtain rfl := hu.str_inv
      refine ⟨(x.take n).map fun b => .int .u8 b.toNat, by simp; omega, ?_, fun w1 _ => ?_⟩
      · have : ∀ l : List UInt8, RVL μ (l.map fun b => V.int .u8 (b.toNat : Int)) (l.map fun b => Value.int .u8 (b.toNat : Int)) := by
          intro l
          induction l with
          | nil => exact .nil
          | cons b l ih => exact .cons (.int _ _) ih
        exact this _
      · simp only [Builtin.firstCells, extract_mk, Sem.run_pure, List.drop_zero]
        simp
  · cases e

theorem run_lenOf {y : V} {u : Value} {n : Nat} (hu : RV μ y u) (e : lenOf y = some n) : (Builtin.lenOf u).run P w = .ok n w := by
  unfold Am.lenOf at e
  split at e
  · cases e; cases hu; simp [Builtin.lenOf]
  · cases e; cases hu; simp [Builtin.lenOf]
  · cases e; obtain rfl := hu.str_inv; simp [Builtin.lenOf]; rfl
  · cases e

/-- The first part of append: how many, and their cells. -/
structure Appends (P : Program) (w : World) (u1 : TypeDesc) (bytes s : Nat) (e : TypeId) (u : Value) (n : Nat) (us : List Value) : Prop where
  count : (∃ k k', u1 = .int k ∧ u = .int k' (n : Int) ∧ n < 17592186044416 ∧ n * bytes < 17592186044416 ∧
      ∀ w1 : World, w1.heap = w.heap → (if n * s = 0 then pure #[] else do pure (Builtin.zeroCells (← zeroValue e).cells n) : Sem (Array Value)).run P w1 = .ok us.toArray w1) ∨
    ((∀ k, u1 ≠ .int k) ∧ (∀ w1 : World, (Builtin.lenOf u).run P w1 = .ok n w1) ∧ ∀ w1 : World, w1.heap = w.heap → (Builtin.firstCells s n u).run P w1 = .ok us.toArray w1)
  len : us.length = n * s

theorem good_appended (hT : TabOk P T) (h : Sim μ H w) {u1 : TypeDesc} {e : TypeId} {s bytes : Nat} {z : List V} {y : V} {u : Value} {n : Nat} {new : List V} (hs : T.size e = some (s, bytes)) (hz : T.zero e = some z) (hzl : z.length = s)
    (hu : RV μ y u) (ea : appended H u1 s bytes z y = some (n, new)) : ∃ us, RVL μ new us ∧ Appends P w u1 bytes s e u n us := by
  obtain ⟨i, zv, hi, hzv, hr⟩ := hT.zero _ _ hz
  obtain ⟨ie, hie, hin, hby⟩ := hT.size _ _ _ hs
  rw [hi] at hie; cases hie
  have hzs : zv.cells.size = s := by have := (hr μ).length; rw [Array.length_toList] at this; omega
  unfold Am.appended at ea
  split at ea
  · rename_i k
    split at ea
    · rename_i n' hn'
      cases hc : (Nat.blt n' 17592186044416 && Nat.blt (n' * bytes) 17592186044416) with
      | false => rw [hc] at ea; cases ea
      | true =>
        rw [hc] at ea
        simp only [cond_true, Option.some.injEq, Prod.mk.injEq] at ea
        obtain ⟨rfl, rfl⟩ := ea
        rw [Bool.and_eq_true, Nat.blt_eq, Nat.blt_eq] at hc
        obtain ⟨k', rfl⟩ := natOf_eq hn'
        obtain rfl := hu.int_inv
        have hrow := (hr μ).zeros n'
        refine ⟨_, hrow, ⟨.inl ⟨k, k', rfl, rfl, hc.1, hc.2, ?_⟩, ?_⟩⟩
        · intro w1 hw1
          by_cases h0 : n' * s = 0
          · simp [h0, hzs]
          · simp only [if_neg h0, Sem.run_bind, run_zero hi hzv, Result.andThen_ok, Sem.run_pure, Builtin.zeroCells]
        · simp [hzs]
    · cases ea
  · rename_i hne
    split at ea
    · rename_i n' hn'
      simp only [Option.map_eq_some_iff] at ea
      obtain ⟨cs, hcs, ea⟩ := ea
      simp only [Prod.mk.injEq] at ea
      obtain ⟨rfl, rfl⟩ := ea
      obtain ⟨us, hl, hrv, hrun⟩ := good_firstCells (P := P) h hu hn' (Nat.le_refl _) hcs
      exact ⟨us, hrv, ⟨.inr ⟨fun k hk => hne k hk, fun w1 => run_lenOf hu hn', hrun⟩, hl⟩⟩
    · cases ea

/-- append, where there is room. -/
theorem run_append_in (hT : TabOk P T) {t0 t1 ty e : TypeId} {u1 : TypeDesc} {i : TypeInfo} {bytes : Nat} (hd0 : P.underlying t0 = some (.slice e)) (hd1 : P.underlying t1 = some u1) (hi : P.info? e = some i) (hby : i.bytes = bytes) {u : Value} {n : Nat} {us : List Value}
    (ha : Appends P w u1 bytes i.size e u n us) {base : Option Addr} {sLen sCap : Nat} (hroom : sLen + n ≤ sCap) {w' : World}
    (hst : (match base with | some a => storeCells (a.add (sLen * i.size)) us | none => pure () : Sem Unit).run P w = .ok () w') :
    (Builtin.append_ #[t0, t1] ty #[.slice base sLen sCap, u]).run P w = .ok (.slice base (sLen + n) sCap) w' := by
  rcases ha.count with ⟨k, k', rfl, rfl, hn1, hn2, hcs⟩ | ⟨hne, hlen, hcs⟩
  · have hw : IntKind.i64.wrap (n : Int) = n := wrap64_of (by omega) (by omega)
    have h1 : ¬ ((n : Int) < 0) := by omega
    have h2 : ¬ ((n : Int) * (i.bytes : Int) > 2 ^ 48) := by
      rw [hby]
      have : ((n : Int) * (bytes : Int)) = ((n * bytes : Nat) : Int) := by push_cast; rfl
      rw [this]; omega
    have hc := hcs w rfl
    simp only [Builtin.append_, List.getElem?_toArray, List.getElem?_cons_zero, List.getElem?_cons_succ, Sem.run_bind, run_und hd0, run_und hd1, run_size hi, run_info hi, Result.andThen_ok, Sem.run_pure, if_true, asInt, asIntOf, hw, if_neg h1, if_neg h2, Int.toNat_natCast,
      if_pos hroom, Bool.not_true, Bool.false_eq_true, if_false, hc]
    cases base with
    | none => simp at hst ⊢; exact hst
    | some a => simp at hst ⊢; simp [hst]
  · have hc := hcs w rfl
    cases u1 <;> first | (exact absurd rfl (hne _)) | skip
    all_goals
    simp only [Builtin.append_, List.getElem?_toArray, List.getElem?_cons_zero, List.getElem?_cons_succ, Sem.run_bind, run_und hd0, run_und hd1, run_size hi, run_info hi, Result.andThen_ok, Sem.run_pure, Bool.false_eq_true, if_false, hlen,
      if_pos hroom, Bool.not_false, if_true, hc]
    cases base with
    | none => simp at hst ⊢; exact hst
    | some a => simp at hst ⊢; simp [hst]

/-- append, where a new row is made. -/
theorem run_append_new (hT : TabOk P T) {t0 t1 ty e : TypeId} {u1 : TypeDesc} {i : TypeInfo} {zv : Value} {bytes : Nat} (hd0 : P.underlying t0 = some (.slice e)) (hd1 : P.underlying t1 = some u1) (hi : P.info? e = some i) (hz : i.zero = some zv) (hby : i.bytes = bytes) {u : Value} {n : Nat} {us olds : List Value}
    (ha : Appends P w u1 bytes i.size e u n us) {base : Option Addr} {sLen sCap : Nat} (hroom : sCap < sLen + n) (hsm : sLen + n < 17592186044416) (hsb : (sLen + n) * bytes < 17592186044416)
    (hold : (Builtin.firstCells i.size sLen (.slice base sLen sCap)).run P { w with drawn := w.drawn + 1 } = .ok olds.toArray { w with drawn := w.drawn + 1 }) :
    ∃ newCap, sLen + n ≤ newCap ∧ (Builtin.append_ #[t0, t1] ty #[.slice base sLen sCap, u]).run P w = .ok (.slice (some ⟨w.heap.size, 0, none⟩) (sLen + n) newCap)
      (World.alloc { w with drawn := w.drawn + 1 } (.cells (olds.toArray ++ us.toArray ++ Builtin.zeroCells zv.cells (newCap - (sLen + n))) e)) := by
  refine ⟨(Question.appendCap (sLen + n) sCap e).cut (w.tape w.drawn (.appendCap (sLen + n) sCap e)), by simp [Question.cut], ?_⟩
  have g1 : ¬ (((sLen + n : Nat) : Int) > IntKind.i64.max) := by
    have h3 : IntKind.i64.max = 9223372036854775807 := by decide
    rw [h3]; omega
  have g2 : ¬ (Builtin.nextslicecap (sLen + n) sCap * i.bytes > 2 ^ 48) := by
    have := growslice_fits (bytes := i.bytes) hroom (by rw [hby]; omega)
    omega
  have hq : (Question.appendCap (sLen + n) sCap e).forced = false := rfl
  have hno : ¬ (sLen + n ≤ sCap) := by omega
  rcases ha.count with ⟨k, k', rfl, rfl, hn1, hn2, hcs⟩ | ⟨hne, hlen, hcs⟩
  · have hw : IntKind.i64.wrap (n : Int) = n := wrap64_of (by omega) (by omega)
    have h1 : ¬ ((n : Int) < 0) := by omega
    have h2 : ¬ ((n : Int) * (i.bytes : Int) > 2 ^ 48) := by
      rw [hby]
      have : ((n : Int) * (bytes : Int)) = ((n * bytes : Nat) : Int) := by push_cast; rfl
      rw [this]; omega
    have hc := hcs { w with drawn := w.drawn + 1 } rfl
    simp only [Builtin.append_, List.getElem?_toArray, List.getElem?_cons_zero, List.getElem?_cons_succ, Sem.run_bind, run_und hd0, run_und hd1, run_size hi, run_info hi, Result.andThen_ok, Sem.run_pure, if_true, asInt, asIntOf, hw, if_neg h1, if_neg h2, Int.toNat_natCast,
      if_neg hno, g1, false_and, if_neg g2, if_false, run_choose, hq, Bool.false_eq_true, run_askRoom, hold, Bool.not_true, hc, run_zero hi hz, run_newRow]
  · have hc := hcs { w with drawn := w.drawn + 1 } rfl
    cases u1 <;> first | (exact absurd rfl (hne _)) | skip
    all_goals
    simp only [Builtin.append_, List.getElem?_toArray, List.getElem?_cons_zero, List.getElem?_cons_succ, Sem.run_bind, run_und hd0, run_und hd1, run_size hi, run_info hi, Result.andThen_ok, Sem.run_pure, Bool.false_eq_true, if_false, hlen,
      if_neg hno, g1, false_and, if_neg g2, run_choose, hq, run_askRoom, hold, Bool.not_false, if_true, hc, run_zero hi hz, run_newRow]
end Go.Am
