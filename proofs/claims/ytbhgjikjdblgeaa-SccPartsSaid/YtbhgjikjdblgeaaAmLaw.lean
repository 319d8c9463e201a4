import Derived.Test.YtbhgjikjdblgeaaAmLay
import Derived.Test.YtbhgjikjdblgeaaVmC
import Derived.Deep.SlicePairs
set_option linter.unusedSimpArgs false
set_option linter.unusedVariables false
/- More arguments: lists of pairs; and arguments as deep values. No conditions. -/
namespace Go.Am
open Go Go.ChangeShapes
variable {P : Program} {T : Tab} {μ : Mu} {H : Heap} {w w' : World}
def pairV (p : Int × Int) : List V := [.int .i64 p.1, .int .i64 p.2]
theorem pairs_at : ∀ (ps : List (Int × Int)) (j : Nat), (ps.map pairV).flatten[j]? = (ps[j / 2]?).map fun p => .int .i64 (if j % 2 = 0 then p.1 else p.2)
 | [], j => by simp
 | p :: ps, 0 => by simp [pairV]
 | p :: ps, 1 => by simp [pairV]
 | p :: ps, j + 2 => by
   have e1 : (j + 2) / 2 = j / 2 + 1 := by omega
   have e2 : (j + 2) % 2 = j % 2 := by omega
   rw [e1, e2, List.getElem?_cons_succ, ← pairs_at ps j]
   simp [pairV]
theorem Laid.pairs {K : Type} {enc : TypeId × Value → K} (h : Laid μ H w) {base : Nat} {t e : TypeId} {f0 f1 : Field} {u : Value} {d : DataW K} {ps : List MemPlace} (ht : P.underlying t = some (.slice e)) (he : P.underlying e = some (.struct #[f0, f1]))
  (ce : P.cellsOf e = 2) (o0 : f0.offset = 0) (o1 : f1.offset = 1) (c0 : P.cellsOf f0.type = 1) (c1 : P.cellsOf f1.type = 1) (u0 : P.underlying f0.type = some (.int .i64)) (u1 : P.underlying f1.type = some (.int .i64))
  (hv : Value.okWide P w .any base t u) (hd : DataW.Trod enc P w 0 (fun _ => true) true t u d ps) :
  ∃ (xs : List (Int × Int)) (v : V) (μ' : Mu) (H' : Heap), Laid μ' H' w ∧ Ext H H' ∧ (∀ l x, μ l = some x → μ' l = some x) ∧ RV μ' v u ∧ Sl H' v 2 (xs.map pairV) ∧ True := by
 have hshape : ∀ (t : TypeId) (v : Value), v.cells.toList = [v] ∨ ∃ cs, v = .agg cs := by
  intro t v; cases v <;> first | exact .inl rfl | exact .inr ⟨_, rfl⟩
 obtain ⟨fuel, hd⟩ := hd
 have hcell : Cell.ok P w .any base t u := by
  unfold Value.okWide at hv
  simp only [ht] at hv
  unfold Cell.okWide at hv
  simp only [ht] at hv
  exact hv
 unfold Cell.ok at hcell
 simp only [ht] at hcell
 rcases Deep.open_slice_pairs ht he ce o0 o1 c0 c1 hd with ⟨h1, h2⟩ | ⟨a, len, cap, m, fu, V0, V1, D0, D1, P0, P1, h1, h2, h3, h4, h5, h6, h7⟩
 · have hu : u = .slice none 0 0 := by
    rcases hshape t u with h' | ⟨cs, rfl⟩
    · rw [h'] at h1; simpa using h1
    · simp at hcell
   subst hu
   exact ⟨[], .nilSlice, μ, H, h, Ext.refl h.wf, fun _ _ h => h, .nilSlice, Sl.nil _ _, trivial⟩
 · have hu : u = .slice (some a) len cap := by
    rcases hshape t u with h' | ⟨cs, rfl⟩
    · rw [h'] at h1; simpa using h1
    · simp at hcell
   subst hu
   simp only [if_true] at h5
   subst h5
   simp only at hcell
   obtain ⟨_, _, _, hspot, row, cells, hsh, _⟩ := hcell
   obtain ⟨b, off, spot⟩ := a
   simp only at hspot
   subst hspot
   simp only [World.shape?] at hsh
   split at hsh
   · rename_i cs el fr hb
     have hz : ∀ i, i < m → ∃ p : Int × Int, cs[off + i * 2]? = some (.int .i64 p.1) ∧ cs[off + i * 2 + 1]? = some (.int .i64 p.2) := by
      intro i hi
      obtain ⟨g1, g2, g3, g4⟩ := h7 i hi
      obtain ⟨x, e1, _⟩ := DataW.trod_int u0 g3
      obtain ⟨y, e2, _⟩ := DataW.trod_int u1 g4
      have e1' : V0 i = .int .i64 x := by simpa using e1
      have e2' : V1 i = .int .i64 y := by simpa using e2
      rw [e1', Go.WideShapes.add_plain] at g1
      rw [e2', Go.WideShapes.add_plain] at g2
      simp only [World.cell?, hb] at g1 g2
      exact ⟨(x, y), by simpa using g1, by simpa [Nat.add_assoc] using g2⟩
     obtain ⟨p, hp⟩ := Deep.choose_lt hz
     by_cases hcap : m = 0
     · have hl0 : len = 0 := by omega
       subst hcap
       subst hl0
       refine ⟨[], .slice H.n 0 0 2 none, _, _, h.push (b := b) (base := 0) (tot := 0) (vs := []) hb ⟨by simp, Nat.zero_le _, by simp, fun h => by cases h⟩, (Ext.refl h.wf).push _, upd_ext h.sim _, ?_, ?_, trivial⟩
       · exact .slice (b := b) (base := 0) (tot := 0) (cap := 0) (off := off) (upd_same _ _ _) (Nat.le_refl _) (fun m hm => by cases hm) (by simp) (.inl rfl)
       · exact ⟨by simp, .inr ⟨H.n, 0, none, true, [], rfl, by simp [Heap.get_push], rfl, fun m hm => by cases hm⟩⟩
     · have hroom : off + m * 2 ≤ cs.size := by
        have := (hp (m - 1) (by omega)).2
        rcases Nat.lt_or_ge (off + (m - 1) * 2 + 1) cs.size with h' | h'
        · omega
        · rw [Array.getElem?_eq_none h'] at this; cases this
       have hfl : ((((List.range len).map p).map pairV).flatten).length = len * 2 := by
        rw [List.length_flatten, List.map_map, List.map_map]
        have : (List.length ∘ pairV) ∘ p = fun _ => 2 := rfl
        rw [this, List.map_const', List.sum_replicate_nat, List.length_range]
       refine ⟨(List.range len).map p, .slice H.n 0 len 2 none, _, _, h.push (b := b) (base := off) (tot := off + m * 2) (vs := (((List.range len).map p).map pairV).flatten) hb ⟨by rw [hfl]; omega, hroom, ?_, fun h => by cases h⟩, (Ext.refl h.wf).push _, upd_ext h.sim _, ?_, ?_, trivial⟩
       · intro j v hj
         rw [pairs_at, Option.map_eq_some_iff] at hj
         obtain ⟨z, hz1, rfl⟩ := hj
         rw [List.getElem?_map, Option.map_eq_some_iff] at hz1
         obtain ⟨i, hi, rfl⟩ := hz1
         have hil : j / 2 < len := by
          rcases Nat.lt_or_ge (j / 2) len with h' | h'
          · exact h'
          · rw [List.getElem?_eq_none (by simp; omega)] at hi; cases hi
         have hij : i = j / 2 := by
          rw [List.getElem?_range hil] at hi; exact (Option.some.inj hi).symm
         subst hij
         obtain ⟨q1, q2⟩ := hp (j / 2) (by omega)
         by_cases e : j % 2 = 0
         · rw [if_pos e]
           exact ⟨_, by rw [show off + j = off + j / 2 * 2 by omega]; exact q1, .int _ _⟩
         · rw [if_neg e]
           exact ⟨_, by rw [show off + j = off + j / 2 * 2 + 1 by omega]; exact q2, .int _ _⟩
       · exact .slice (b := b) (base := off) (tot := off + m * 2) (cap := m) (off := off) (upd_same _ _ _) h3 (fun m hm => by cases hm) (by omega) (.inr (by omega))
       · refine ⟨fun e he => by obtain ⟨z, _, rfl⟩ := List.mem_map.1 he; rfl, .inr ⟨H.n, 0, none, true, (((List.range len).map p).map pairV).flatten, ?_, get_push_same _ _, ?_, fun m hm => by cases hm⟩⟩
         · simp
         · have : (((List.range len).map p).map pairV).length * 2 = (((List.range len).map p).map pairV).flatten.length := by rw [hfl]; simp
           rw [this, take?, List.drop_zero, List.take_length, Nat.beq_refl]; rfl
   · cases hsh
namespace Vm
def Live (H : Heap) : Nat → Prop := fun l => ∃ o, H.get l = some o
theorem rl_ints {v : V} {xs : List Int} (h : Sl H v 1 (xs.map fun z => [V.int .i64 z])) : RL (Live H) H [] [.imm 1 (xs.map fun z => [.atom (.int .i64 z)])] [v] [] := by
 have := imm_of_sl (P := Live H) (μ := []) h (all_flatten fun e he => by obtain ⟨z, _, rfl⟩ := List.mem_map.1 he; rfl) fun l o e => ⟨o, e⟩
 simpa [aR, Function.comp_def] using this
theorem rl_pairs {v : V} {xs : List (Int × Int)} (h : Sl H v 2 (xs.map pairV)) : RL (Live H) H [] [.imm 2 (xs.map fun p => [.atom (.int .i64 p.1), .atom (.int .i64 p.2)])] [v] [] := by
 have := imm_of_sl (P := Live H) (μ := []) h (all_flatten fun e he => by obtain ⟨z, _, rfl⟩ := List.mem_map.1 he; rfl) fun l o e => ⟨o, e⟩
 simpa [aR, pairV, Function.comp_def] using this
theorem rl_int (n : Int) : RL (Live H) H [] [.atom (.int .i64 n)] [.int .i64 n] [] := .atom1 _
theorem rl_cons {d : D} {v : V} {ds : List D} {vs : List V} (h : RL (Live H) H [] [d] [v] []) (h' : RL (Live H) H [] ds vs []) : RL (Live H) H [] (d :: ds) (v :: vs) [] := by
 simpa using h.cons h'
end Vm
end Go.Am
