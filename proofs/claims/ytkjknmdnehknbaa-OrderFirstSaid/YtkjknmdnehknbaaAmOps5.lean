import Derived.Test.YtkjknmdnehknbaaAmOps4
import Derived.Lib.ConvBytes
set_option linter.unusedSimpArgs false
set_option linter.unusedVariables false
/- Slicing, conversions, maps. -/
namespace Go.Am
open Go

variable {P : Program} {T : Tab} {μ : Mu} {H : Heap} {w : World}

inductive OptR (μ : Mu) : Option V → Option Value → Prop
  | none : OptR μ none none
  | some {v : V} {u : Value} (h : RV μ v u) : OptR μ (some v) (some u)

theorem AR.evalOpt {a : A} {x : Act} (h : AR μ a x) {o : Option Operand} {v : Option V} (e : evalOpt a o = some v) : OptR μ v (o.map x.eval) := by
  cases o with
  | none => simp [Am.evalOpt] at e; subst e; exact .none
  | some o =>
    simp only [Am.evalOpt, Option.map_eq_some_iff] at e
    obtain ⟨v, hv, rfl⟩ := e
    exact .some (h.eval hv)

theorem run_bound {k : IntKind} {n y : Nat} (h : n ≤ y) (code : BoundsCode) : (Instr.sliceBound (.int k n) y code).run P w = .ok n w := by
  have : (0 : Int) ≤ (n : Int) ∧ (n : Int) ≤ (y : Int) := ⟨by omega, by omega⟩
  simp [Instr.sliceBound, asIntOf, h]

theorem optNat_inv {v : Option V} {u : Option Value} (h : OptR μ v u) {d n : Nat} (e : optNat v d = some n) : (u = none ∧ v = none ∧ n = d) ∨ ∃ k, u = some (.int k n) ∧ v = some (.int k n) := by
  cases h with
  | none => simp [optNat] at e; exact .inl ⟨rfl, rfl, e.symm⟩
  | some h =>
    obtain ⟨k, rfl⟩ := natOf_eq (show natOf _ = some n from e)
    exact .inr ⟨k, by rw [h.int_inv], rfl⟩

/-- The bounds of a slice expression without a third index. -/
theorem run_bounds2 {isSl : Bool} {len cap a b : Nat} {lo hi : Option V} {ulo uhi : Option Value} (h1 : OptR μ lo ulo) (h2 : OptR μ hi uhi) (e1 : optNat lo 0 = some a) (e2 : optNat hi len = some b)
    (hab : a ≤ b) (hb : b ≤ cap) : (Instr.sliceBounds isSl len cap ulo uhi none).run P w = .ok (a, b, cap) w := by
  rcases optNat_inv h1 e1 with ⟨rfl, _, rfl⟩ | ⟨k1, rfl, _⟩ <;> rcases optNat_inv h2 e2 with ⟨rfl, _, rfl⟩ | ⟨k2, rfl, _⟩ <;> simp [Instr.sliceBounds, run_bound hab, run_bound hb]

theorem run_bounds3 {len cap a b m : Nat} {lo hi : Option V} {v : V} {ulo uhi : Option Value} {u : Value} (h1 : OptR μ lo ulo) (h2 : OptR μ hi uhi) (h3 : RV μ v u) (e1 : optNat lo 0 = some a) (e2 : optNat hi len = some b)
    (e3 : natOf v = some m) (hab : a ≤ b) (hb : b ≤ m) (hm : m ≤ cap) (his : hi.isSome = true) : (Instr.sliceBounds true len cap ulo uhi (some u)).run P w = .ok (a, b, m) w := by
  obtain ⟨k3, rfl⟩ := natOf_eq e3
  obtain rfl := h3.int_inv
  rcases optNat_inv h2 e2 with ⟨rfl, rfl, rfl⟩ | ⟨k2, rfl, _⟩
  · simp at his
  · rcases optNat_inv h1 e1 with ⟨rfl, _, rfl⟩ | ⟨k1, rfl, _⟩ <;> simp [Instr.sliceBounds, run_bound hab, run_bound hb, run_bound hm]

theorem extract_mk (s : List UInt8) (a b : Nat) : (⟨⟨s⟩⟩ : ByteArray).extract a b = ⟨⟨(s.take b).drop a⟩⟩ := by
  apply ByteArray.ext
  apply Array.toList_inj.1
  simp [ByteArray.data_extract, List.extract_eq_take_drop, List.drop_take]

theorem good_slice (hT : TabOk P T) (h : Sim μ H w) {t : TypeId} {x r : V} {u : Value} {lo hi mx : Option V} {ulo uhi umx : Option Value} (hu : RV μ x u) (h1 : OptR μ lo ulo) (h2 : OptR μ hi uhi) (h3 : OptR μ mx umx)
    (e : sliceOp T H t x lo hi mx = some r) : VGood P μ H w (Instr.sliceAt t u ulo uhi umx) r H := by
  unfold Am.sliceOp at e
  split at e
  · rename_i hd
    split at e
    · rename_i s a ha
      cases h3
      split at e
      · rename_i b hb
        cases hc : (Nat.ble a b && Nat.ble b s.length) with
        | false => rw [hc] at e; cases e
        | true =>
          rw [hc] at e
          simp only [cond_true, Option.some.injEq] at e
          subst e
          rw [Bool.and_eq_true, Nat.ble_eq, Nat.ble_eq] at hc
          obtain rfl := hu.str_inv
          have hsz : (⟨⟨s⟩⟩ : ByteArray).size = s.length := rfl
          refine .same h (u := .string ⟨⟨(s.take b).drop a⟩⟩) ?_ (.str _)
          have := run_bounds2 (P := P) (w := w) (isSl := false) (cap := s.length) h1 h2 ha hb hc.1 hc.2
          simp [Instr.sliceAt, Instr.slice, run_und (hT.und _ _ hd), hsz, this, extract_mk]
      · cases e
    · cases e
  · rename_i el hd
    split at e
    · rename_i p a hs ha
      obtain ⟨sz, by'⟩ := p
      obtain ⟨ie, hie, hin, _⟩ := hT.size _ _ _ hs
      split at e
      · rename_i b hb
        cases h3
        cases hc : (Nat.beq a 0 && Nat.beq b 0) with
        | false => rw [hc] at e; cases e
        | true =>
          rw [hc] at e
          simp only [cond_true, Option.some.injEq] at e
          subst e
          rw [Bool.and_eq_true, Nat.beq_eq, Nat.beq_eq] at hc
          obtain ⟨rfl, rfl⟩ := hc
          cases hu
          refine .same h (u := .slice none 0 0) ?_ .nilSlice
          have := run_bounds2 (P := P) (w := w) (isSl := true) (cap := 0) h1 h2 ha hb (Nat.le_refl _) (Nat.le_refl _)
          simp [Instr.sliceAt, Instr.slice, run_und (hT.und _ _ hd), this, run_size hie]
      · cases e
    · rename_i l o n s c sz by' a hs ha
      obtain ⟨ie, hie, hin, _⟩ := hT.size _ _ _ hs
      cases hu with
      | slice hm hn hcap ht ho =>
      rename_i b0 base tot cap off
      have hcd : c.getD n ≤ cap := by cases c with
        | none => exact hn
        | some q => rw [Option.getD_some, hcap q rfl]; exact Nat.le_refl _
      split at e
      · rename_i b hb
        cases h3
        cases hc : (Nat.beq sz s && Nat.ble a b && Nat.ble b (c.getD n)) with
        | false => rw [hc] at e; cases e
        | true =>
          rw [hc] at e
          simp only [cond_true, Option.some.injEq] at e
          simp only [Bool.and_eq_true, Nat.ble_eq, Nat.beq_eq] at hc
          obtain ⟨⟨rfl, hab⟩, hbc⟩ := hc
          have hrun := run_bounds2 (P := P) (w := w) (isSl := true) (cap := cap) h1 h2 ha hb hab (by omega)
          have hR : (Instr.sliceAt t (.slice (some ⟨b0, off, none⟩) n cap) ulo uhi none).run P w = .ok (.slice (some (if cap = a then ⟨b0, off, none⟩ else ⟨b0, off + a * sz, none⟩)) (b - a) (cap - a)) w := by
            simp only [Instr.sliceAt, Instr.slice, Sem.run_bind, run_und (hT.und _ _ hd), Result.andThen_ok, hrun, run_size hie, hin, Sem.run_pure]
            split <;> simp [add_eq]
          refine .same h hR ?_
          cases c with
          | some q =>
            have hq := hcap q rfl
            subst hq
            simp only [cond_beq] at e
            by_cases hqa : cap = a
            · rw [if_pos hqa] at e ⊢
              subst e
              subst hqa
              have : b - cap = 0 := by simp at hbc; omega
              rw [this, Nat.sub_self]
              exact .slice hm (Nat.le_refl _) (fun m hm => by cases hm; rfl) (by have := Nat.zero_le (cap * sz); omega) (.inl rfl)
            · rw [if_neg hqa] at e ⊢
              subst e
              refine .slice hm (by simp at hbc; omega) (fun m hm => by cases hm; rfl) ?_ (.inr ?_)
              · have : (cap - a) * sz + a * sz = cap * sz := by rw [← Nat.add_mul]; congr 1; simp at hbc; omega
                omega
              · rcases ho with h0 | h0
                · simp at hbc; omega
                · omega
          | none =>
            subst e
            have hac : a ≤ cap := by simp at hbc; omega
            have hmul : (cap - a) * sz + a * sz = cap * sz := by rw [← Nat.add_mul]; congr 1; omega
            by_cases hqa : cap = a
            · rw [if_pos hqa]
              refine .slice hm (by simp at hbc; omega) (fun m hm => by cases hm) ?_ (.inl (by omega))
              omega
            · rw [if_neg hqa]
              refine .slice hm (by simp at hbc; omega) (fun m hm => by cases hm) ?_ (.inr ?_)
              · omega
              · rcases ho with h0 | h0 <;> omega
      · rename_i b v hb
        cases h3 with
        | @some _ u' h3 =>
        split at e
        · rename_i m hmm
          cases hc : (Nat.beq sz s && Nat.ble a b && Nat.ble b m && Nat.ble m (c.getD n) && hi.isSome) with
          | false => rw [hc] at e; cases e
          | true =>
            rw [hc] at e
            simp only [cond_true, Option.some.injEq] at e
            simp only [Bool.and_eq_true, Nat.ble_eq, Nat.beq_eq] at hc
            obtain ⟨⟨⟨⟨rfl, hab⟩, hbm⟩, hmc⟩, his⟩ := hc
            have hrun := run_bounds3 (P := P) (w := w) (cap := cap) h1 h2 h3 ha hb hmm hab hbm (by omega) his
            have hR : (Instr.sliceAt t (.slice (some ⟨b0, off, none⟩) n cap) ulo uhi (some u')).run P w = .ok (.slice (some (if m = a then ⟨b0, off, none⟩ else ⟨b0, off + a * sz, none⟩)) (b - a) (m - a)) w := by
              simp only [Instr.sliceAt, Instr.slice, Sem.run_bind, run_und (hT.und _ _ hd), Result.andThen_ok, hrun, run_size hie, hin, Sem.run_pure]
              split <;> simp [add_eq]
            refine .same h hR ?_
            simp only [cond_beq] at e
            have hle : m * sz ≤ cap * sz := Nat.mul_le_mul_right _ (by omega)
            by_cases hqa : m = a
            · rw [if_pos hqa] at e ⊢
              subst e
              have e0 : b - a = 0 := by omega
              have e1 : m - a = 0 := by omega
              rw [e0, e1]
              exact .slice hm (Nat.le_refl _) (fun m hm => by cases hm; rfl) (by omega) (.inl rfl)
            · rw [if_neg hqa] at e ⊢
              subst e
              refine .slice hm (by omega) (fun m hm => by cases hm; rfl) ?_ (.inr ?_)
              · have : (m - a) * sz + a * sz = m * sz := by rw [← Nat.add_mul]; congr 1; omega
                omega
              · rcases ho with h0 | h0 <;> omega
        · cases e
      · cases e
    · cases e
  · rename_i n el hd
    split at e
    · rename_i l o s by' a hs ha
      obtain ⟨ie, hie, hin, _⟩ := hT.size _ _ _ hs
      split at e
      · rename_i b vs hb hv
        cases h3
        cases hc : (Nat.ble a b && Nat.ble b n && Nat.ble (o + n * s) vs.length) with
        | false => rw [hc] at e; cases e
        | true =>
          rw [hc] at e
          simp only [cond_true, Option.some.injEq] at e
          simp only [Bool.and_eq_true, Nat.ble_eq] at hc
          obtain ⟨⟨hab, hbn⟩, hle⟩ := hc
          cases hu with
          | ptr hm =>
          rename_i b0 base tot
          obtain ⟨ro, b', base', tot', cs, ty, fr, hg, hm', hb', hcl⟩ := h.cells hv
          rw [hm] at hm'; cases hm'
          have hlen := hcl.len
          have hrun := run_bounds2 (P := P) (w := w) (isSl := false) (cap := n) h1 h2 ha hb hab hbn
          have hR : (Instr.sliceAt t (.pointer (some ⟨b0, base + o, none⟩)) ulo uhi none).run P w = .ok (.slice (some (if n = a then ⟨b0, base + o, none⟩ else ⟨b0, base + o + a * s, none⟩)) (b - a) (n - a)) w := by
            simp only [Instr.sliceAt, Sem.run_bind, run_und (hT.und _ _ hd), Result.andThen_ok, Instr.sureAddr, Sem.run_pure, hrun, run_size hie, hin]
            split <;> simp [add_eq]
          refine .same h hR ?_
          simp only [cond_beq] at e
          by_cases hqa : n = a
          · rw [if_pos hqa] at e ⊢
            subst e
            have e0 : b - a = 0 := by omega
            have e1 : n - a = 0 := by omega
            rw [e0, e1]
            exact .slice hm (Nat.le_refl _) (fun m hm => by cases hm; rfl) (by omega) (.inl rfl)
          · rw [if_neg hqa] at e ⊢
            subst e
            refine .slice hm (by omega) (fun m hm => by cases hm; rfl) ?_ (.inr (by omega))
            have : (n - a) * s + a * s = n * s := by rw [← Nat.add_mul]; congr 1; omega
            omega
      · cases e
    · cases e
  · cases e
end Go.Am
