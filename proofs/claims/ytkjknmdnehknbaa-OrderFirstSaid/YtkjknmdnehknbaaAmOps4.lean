import Derived.Test.YtkjknmdnehknbaaAmOps3
set_option linter.unusedSimpArgs false
set_option linter.unusedVariables false
/- Addresses, slices, conversions. -/
namespace Go.Am
open Go

variable {P : Program} {T : Tab} {μ : Mu} {H : Heap} {w : World}

theorem wrap64_of {n : Int} (h : 0 ≤ n) (h2 : n < 9223372036854775808) : IntKind.i64.wrap n = n := by
  rw [IntKind.wrap_i64]; omega

theorem good_makeSlice (hT : TabOk P T) (h : Sim μ H w) {t el : TypeId} {k k' : IntKind} {n c s b : Nat} {z : List V} (hu : T.und t = some (.slice el)) (hs : T.size el = some (s, b)) (hz : T.zero el = some z)
    (hnc : n ≤ c) (hb : c * b < 17592186044416) (hc : c < 17592186044416) (hzl : z.length = s) (hs0 : 0 < s) :
    VGood P μ H w (Instr.makeSlice t (.int k n) (.int k' c)) (.slice H.n 0 n s (some c)) (H.push (.cells false (Am.zeros z c))) := by
  obtain ⟨i, zv, hi, hzv, hr⟩ := hT.zero _ _ hz
  obtain ⟨ie, hie, hn, hby⟩ := hT.size _ _ _ hs
  rw [hi] at hie; cases hie
  have hzs : zv.cells.size = s := by have := (hr μ).length; rw [Array.length_toList] at this; omega
  have w1 : IntKind.i64.wrap (n : Int) = n := wrap64_of (by omega) (by omega)
  have w2 : IntKind.i64.wrap (c : Int) = c := wrap64_of (by omega) (by omega)
  have hbig : ¬ ((i.bytes : Int) * (c : Int) > 2 ^ 48) := by
    rw [hby]
    have : ((b : Int) * (c : Int)) = ((c * b : Nat) : Int) := by push_cast; exact Int.mul_comm _ _
    rw [this]; omega
  have hcond : ((decide ((c : Int) < 0) || decide ((i.bytes : Int) * (c : Int) > 2 ^ 48)) || decide ((n : Int) < 0) || decide ((n : Int) > (c : Int))) = false := by
    simp only [Bool.or_eq_false_iff, decide_eq_false_iff_not]
    exact ⟨⟨⟨by omega, hbig⟩, by omega⟩, by omega⟩
  have hrow : RVL μ (Am.zeros z c) ((Array.range (c * s)).map fun j => (if c * s = 0 then #[] else zv.cells)[j % (if c * s = 0 then #[] else zv.cells).size]!).toList := by
    by_cases h0 : c * s = 0
    · have : Am.zeros z c = [] := by rw [← List.length_eq_zero_iff, zeros_length, hzl]; exact h0
      rw [this]
      simp [h0]; exact .nil
    · have := (hr μ).zeros c
      rw [hzs] at this
      simpa [h0, hzs] using this
  refine ⟨.slice (some ⟨w.heap.size, 0, none⟩) n c, _, _, ?_, ?_, .newCells h hrow el⟩
  · simp only [Instr.makeSlice, Sem.run_bind, run_und (hT.und _ _ hu), Result.andThen_ok, asInt, asIntOf, Sem.run_pure, run_info hi, w1, w2]
    simp only [hcond, Bool.false_eq_true, if_false, Sem.run_bind, run_askRoom, Result.andThen_ok, run_size hi, hn, Int.toNat_natCast]
    by_cases h0 : c * s = 0
    · simp [h0, run_newRow]
    · simp [h0, run_zero hi hzv, run_newRow]
  · refine RV.slice (upd_same _ _ _) hnc (fun m hm => by cases hm; rfl) ?_ (.inr rfl)
    simp

theorem good_field_addr (hT : TabOk P T) (h : Sim μ H w) {t : TypeId} {fs : Array Field} {f : Field} {i l o n b : Nat} {u : Value} (hu : RV μ (.ptr l o) u) (hf : T.und t = some (.struct fs)) (hi : fs[i]? = some f)
    (hs : T.size f.type = some (n, b)) (hn : n ≠ 0) : VGood P μ H w (Instr.fieldAt t u i) (.ptr l (o + f.offset)) H := by
  cases hu with
  | ptr hm =>
    obtain ⟨ie, hie, hin, _⟩ := hT.size _ _ _ hs
    refine .same h (u := .pointer (some ⟨_, _ + (o + f.offset), none⟩)) ?_ (.ptr hm)
    simp [Instr.fieldAt, run_und (hT.und _ _ hf), hi, Instr.sureAddr, fieldPlace, run_size hie, hin, hn, add_eq, Nat.add_assoc]

theorem run_part (hT : TabOk P T) {t : TypeId} {cs : List V} {us : List Value} (hr : RVL μ cs us) {o : Nat} {v : V} (e : part T t cs o = some v) :
    ∃ u, (Go.part t ⟨us⟩ o).run P w = .ok u w ∧ RV μ v u := by
  unfold Am.part at e
  split at e
  · rename_i hag
    split at e
    · rename_i n b hs
      obtain ⟨ie, hie, hin, _⟩ := hT.size _ _ _ hs
      simp only [Option.map_eq_some_iff] at e
      obtain ⟨r, hr', rfl⟩ := e
      obtain ⟨rfl, _⟩ := take?_eq hr'
      refine ⟨.agg ⟨(us.drop o).take n⟩, ?_, .agg ((hr.drop o).take n)⟩
      simp only [Go.part, Sem.run_bind, run_agg hT hag, Result.andThen_ok, if_true, run_size hie, hin, Sem.run_pure]
      congr 2
      apply Array.toList_inj.1
      simp [List.extract_eq_take_drop]
    · cases e
  · rename_i hag
    obtain ⟨u, hu, hr'⟩ := hr.get e
    refine ⟨u, ?_, hr'⟩
    simp only [Go.part, Sem.run_bind, run_agg hT hag, Result.andThen_ok]
    simp [hu]
  · cases e

theorem good_field (hT : TabOk P T) (h : Sim μ H w) {t : TypeId} {fs : Array Field} {f : Field} {i : Nat} {cs : List V} {v : V} {u : Value} (hu : RV μ (.agg cs) u) (hf : T.und t = some (.struct fs)) (hi : fs[i]? = some f)
    (e : part T f.type cs f.offset = some v) : VGood P μ H w (Instr.field t u i) v H := by
  cases hu with
  | agg hr =>
    obtain ⟨u, h1, h2⟩ := run_part (P := P) (w := w) hT hr e
    exact .same h (by simp [Instr.field, run_und (hT.und _ _ hf), hi, asAgg, h1]) h2

theorem good_indexAddr_slice (hT : TabOk P T) (h : Sim μ H w) {t el : TypeId} {l o n s b j : Nat} {c : Option Nat} {k : IntKind} {u : Value} (hu : RV μ (.slice l o n s c) u) (hd : T.und t = some (.slice el))
    (hs : T.size el = some (s, b)) (hj : j < n) : VGood P μ H w (Instr.indexAt t u (.int k j)) (.ptr l (o + j * s)) H := by
  cases hu with
  | slice hm hn hc ht ho =>
    rename_i b0 base tot cap off
    obtain ⟨ie, hie, hin, _⟩ := hT.size _ _ _ hs
    have hoff : off = base + o := by rcases ho with h0 | h0 <;> omega
    subst hoff
    refine .same h (u := .pointer (some ⟨b0, base + (o + j * s), none⟩)) ?_ (.ptr hm)
    have : (0 : Int) ≤ (j : Int) ∧ (j : Int) < (n : Int) := ⟨by omega, by omega⟩
    simp [Instr.indexAt, asIntOf, run_und (hT.und _ _ hd), this, run_size hie, hin, add_eq, Nat.add_assoc, hj]

theorem good_indexAddr_array (hT : TabOk P T) (h : Sim μ H w) {t el : TypeId} {l o n s b j : Nat} {k : IntKind} {u : Value} (hu : RV μ (.ptr l o) u) (hd : T.und t = some (.array n el))
    (hs : T.size el = some (s, b)) (hj : j < n) : VGood P μ H w (Instr.indexAt t u (.int k j)) (.ptr l (o + j * s)) H := by
  cases hu with
  | ptr hm =>
    rename_i b0 base tot
    obtain ⟨ie, hie, hin, _⟩ := hT.size _ _ _ hs
    refine .same h (u := .pointer (some ⟨b0, base + (o + j * s), none⟩)) ?_ (.ptr hm)
    simp [Instr.indexAt, asIntOf, run_und (hT.und _ _ hd), run_size hie, hin, add_eq, Nat.add_assoc, hj, Instr.sureAddr]

theorem good_index_str (hT : TabOk P T) (h : Sim μ H w) {t : TypeId} {s : List UInt8} {j : Nat} {k : IntKind} {u : Value} {b : UInt8} (hu : RV μ (.str s) u) (hd : T.und t = some .string) (hj : s[j]? = some b) :
    VGood P μ H w (Instr.index t u (.int k j)) (.int .u8 b.toNat) H := by
  obtain rfl := hu.str_inv
  have hlt : j < s.length := by
    rcases Nat.lt_or_ge j s.length with h' | h'
    · exact h'
    · rw [List.getElem?_eq_none h'] at hj; cases hj
  have hb : (⟨⟨s⟩⟩ : ByteArray)[j]? = some b := by
    have hs : j < (⟨⟨s⟩⟩ : ByteArray).size := hlt
    rw [List.getElem?_eq_getElem hlt] at hj
    rw [getElem?_pos (⟨⟨s⟩⟩ : ByteArray) j hs]
    exact hj
  refine .same h (u := .int .u8 b.toNat) ?_ (.int _ _)
  simp [Instr.index, asIntOf, run_und (hT.und _ _ hd), hb]

theorem good_index_array (hT : TabOk P T) (h : Sim μ H w) {t el : TypeId} {cs : List V} {n s b j : Nat} {k : IntKind} {u : Value} {v : V} (hu : RV μ (.agg cs) u) (hd : T.und t = some (.array n el))
    (hs : T.size el = some (s, b)) (hj : j < n) (e : part T el cs (j * s) = some v) : VGood P μ H w (Instr.index t u (.int k j)) v H := by
  cases hu with
  | agg hr =>
    obtain ⟨ie, hie, hin, _⟩ := hT.size _ _ _ hs
    obtain ⟨u, h1, h2⟩ := run_part (P := P) (w := w) hT hr e
    refine .same h (u := u) ?_ h2
    have : (0 : Int) ≤ (j : Int) ∧ (j : Int) < (n : Int) := ⟨by omega, by omega⟩
    simp [Instr.index, asIntOf, run_und (hT.und _ _ hd), hj, run_size hie, hin, h1]

theorem good_makeInterface (hT : TabOk P T) (h : Sim μ H w) {t : TypeId} {d : TypeDesc} {v : V} {u : Value} (hu : RV μ v u) (hd : T.und t = some d) (hn : ∀ ms, d ≠ .interface ms) :
    VGood P μ H w (Instr.makeInterface t u) (.iface t v) H := by
  refine .same h (u := .iface t u) ?_ (.iface hu)
  simp only [Instr.makeInterface, Sem.run_bind, run_und (hT.und _ _ hd), Result.andThen_ok]
  cases d <;> first | rfl | (exact absurd rfl (hn _))

theorem good_extract (h : Sim μ H w) {vs : List V} {i : Nat} {v : V} {u : Value} (hu : RV μ (.tuple vs) u) (e : vs[i]? = some v) : VGood P μ H w (Instr.extract u i) v H := by
  cases hu with
  | tuple hr =>
    obtain ⟨u, h1, h2⟩ := hr.get e
    exact .same h (by simp [Instr.extract, h1]) h2

theorem good_makeMap (h : Sim μ H w) (t : TypeId) (r : Option Value) (hr : r = none ∨ ∃ k e j n, P.underlying t = some (.map k e) ∧ r = some (.int j n)) :
    VGood P μ H w (Instr.makeMap t r) (.map H.n) (H.push (.map [])) := by
  refine ⟨.map (some w.heap.size), _, upd μ H.n (w.heap.size, 0, 0), ?_, .map (upd_same _ _ _), Post.alloc h ⟨w.heap.size, 0, 0, #[], 0, upd_same _ _ _, World.alloc_heap_new _ _, .nil⟩⟩
  rcases hr with rfl | ⟨k, e, j, n, hd, rfl⟩
  · simp [Instr.makeMap]
  · simp [Instr.makeMap, run_und hd, asInt, asIntOf]

end Go.Am
