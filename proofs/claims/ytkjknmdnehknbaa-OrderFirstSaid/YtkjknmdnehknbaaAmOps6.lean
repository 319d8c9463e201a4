import Derived.Test.YtkjknmdnehknbaaAmOps5
import Derived.Laws.BytesString
import Derived.MapKept
set_option linter.unusedSimpArgs false
set_option linter.unusedVariables false
/- Conversions, maps, the small builtins. -/
namespace Go.Am
open Go

variable {P : Program} {T : Tab} {μ : Mu} {H : Heap} {w : World}

theorem getMap {r : Nat} {es : Array MapEntry} {clock : Nat} (h : w.heap[r]? = some (.map es clock)) : (getObj r).run P w = .ok (.map es clock) w := by simp [getObj, Sem.run, h]
theorem setMap {r : Nat} {es : Array MapEntry} {clock : Nat} (o : Obj) (h : w.heap[r]? = some (.map es clock)) : (setObj r o).run P w = .ok () (w.putObj r o) := by simp [setObj, Sem.run, h, World.putObj]

/-- A new block of cells, some of which are not the object's yet; a mark behind its last cell. -/
theorem Post.newCellsM (h : Sim μ H w) {vs : List V} {cs : Array Value} {pre : List Value} (hr : RVL μ vs pre) (hp : ∀ (j : Nat) (u : Value), pre[j]? = some u → cs[j]? = some u) (hle : pre.length ≤ cs.size) (ty : TypeId) (fr : Nat × Nat)
    (hfr : fr.1 = fr.2 ∨ cs.size ≤ fr.1) :
    Post μ H w (upd μ H.n (w.heap.size, 0, cs.size)) (H.push (.cells false vs)) (w.alloc (.cells cs ty fr)) := by
  refine Post.alloc h ⟨w.heap.size, 0, cs.size, cs, ty, fr, upd_same _ _ _, World.alloc_heap_new _ _, ?_⟩
  have hl := hr.length
  refine ⟨by omega, Nat.le_refl _, ?_, fun _ => hfr⟩
  intro j v hv
  obtain ⟨u, hu, hr'⟩ := (hr.mono (upd_ext h _)).get hv
  exact ⟨u, by simpa using hp j u hu, hr'⟩

theorem bytesOf_eq : ∀ {cs : List V} {s : List UInt8}, bytesOf cs = some s → ∃ ns : List Int, cs = ns.map (V.int .u8) ∧ s = ns.map fun n => UInt8.ofNat n.toNat
  | [], s, h => by simp [bytesOf] at h; exact ⟨[], rfl, by simp [h]⟩
  | v :: vs, s, h => by
    unfold bytesOf at h
    split at h
    · cases ‹v :: vs = []›
    · rename_i n vs' e
      cases e
      simp only [Option.map_eq_some_iff] at h
      obtain ⟨s', h1, rfl⟩ := h
      obtain ⟨ns, e1, e2⟩ := bytesOf_eq h1
      exact ⟨n :: ns, by rw [e1]; rfl, by rw [e2]; rfl⟩
    · cases h

theorem RVL.ints : ∀ {ns : List Int} {k : IntKind} {us : List Value}, RVL μ (ns.map (V.int k)) us → us = ns.map (Value.int k)
  | [], _, _, .nil => rfl
  | _ :: _, _, _, .cons h t => by rw [h.int_inv, RVL.ints t]; rfl

theorem foldl_push : ∀ (ns : List Int) (s : List UInt8), ns.foldl (fun r n => r.push (UInt8.ofNat n.toNat)) (⟨⟨s⟩⟩ : ByteArray) = ⟨⟨s ++ ns.map fun n => UInt8.ofNat n.toNat⟩⟩
  | [], s => by simp
  | n :: ns, s => by
    rw [List.foldl_cons]
    have : (⟨⟨s⟩⟩ : ByteArray).push (UInt8.ofNat n.toNat) = ⟨⟨s ++ [UInt8.ofNat n.toNat]⟩⟩ := by
      unfold ByteArray.push; simp
    rw [this, foldl_push ns]; simp

theorem good_convert (hT : TabOk P T) (h : Sim μ H w) {src dst : TypeId} {x r : V} {u : Value} {H' : Heap} (hu : RV μ x u) (e : convert T H src dst x = some (r, H')) :
    VGood P μ H w (Go.convert src dst u) r H' := by
  unfold Am.convert at e
  split at e
  case h_2 => cases e
  rename_i us ud hs hd
  split at e
  · rename_i k j n
    cases e
    obtain rfl := hu.int_inv
    exact .same h (by simp [Go.convert, run_und (hT.und _ _ hs), run_und (hT.und _ _ hd), Conv.intToInt]) (.int _ _)
  · rename_i s
    cases e
    obtain rfl := hu.str_inv
    refine .same h (u := .string ⟨⟨s⟩⟩) ?_ (.str _)
    simp [Go.convert, run_und (hT.und _ _ hs), run_und (hT.und _ _ hd)]
  · rename_i el s
    split at e
    · rename_i he
      simp only [Option.some.injEq, Prod.mk.injEq] at e
      obtain ⟨rfl, rfl⟩ := e
      obtain rfl := hu.str_inv
      let cap := (Question.appendCap s.length 0 el).cut (w.tape w.drawn (.appendCap s.length 0 el))
      have hcap : s.length ≤ cap := by simp [cap, Question.cut]
      let pre : List Value := s.map fun b => .int .u8 b.toNat
      let cs : Array Value := (⟨s⟩ : Array UInt8).map (fun b => Value.int .u8 b.toNat) ++ Array.replicate (cap - s.length) (.int .u8 0)
      have hsz : cs.size = cap := by simp [cs]; omega
      have hd1 : Sim μ H { w with drawn := w.drawn + 1 } := h.drawn _
      have hpre : RVL μ (s.map fun b => V.int .u8 b.toNat) pre := by
        have : ∀ l : List UInt8, RVL μ (l.map fun b => V.int .u8 (b.toNat : Int)) (l.map fun b => Value.int .u8 (b.toNat : Int)) := by
          intro l
          induction l with
          | nil => exact .nil
          | cons b l ih => exact .cons (.int _ _) ih
        exact this s
      have hP := Post.newCellsM hd1 hpre (cs := cs) (by
        intro j v hv
        simp only [cs, pre] at hv ⊢
        rw [Array.getElem?_append_left]
        · simpa using hv
        · simp
          rcases Nat.lt_or_ge j s.length with h' | h'
          · exact h'
          · rw [List.getElem?_eq_none (by simpa using h')] at hv; cases hv) (by simp [pre]; omega) el (cap, cap + 1) (.inr (by rw [hsz]; exact Nat.le_refl _))
      refine ⟨.slice (some ⟨w.heap.size, 0, none⟩) s.length cap, _, _, ?_, ?_, (Post.drawn h _).trans hP⟩
      · have hf : ∀ (w1 : World), (w1.alloc (.cells cs el)).freeze { block := w1.heap.size, off := cap } 1 = w1.alloc (.cells cs el (cap, cap + 1)) := by
          intro w1
          unfold World.freeze
          rw [if_neg (by omega)]
          have : (w1.alloc (.cells cs el)).heap.modify w1.heap.size (fun
              | .cells c elem (lo, hi) => .cells c elem (if lo == hi then (cap, cap + 1) else (min lo cap, max hi (cap + 1)))
              | o => o) = (w1.alloc (.cells cs el (cap, cap + 1))).heap := by
            apply Array.ext_getElem?
            intro i
            rw [Array.getElem?_modify]
            show (if w1.heap.size = i then Option.map _ (w1.heap.push _)[i]? else (w1.heap.push _)[i]?) = (w1.heap.push _)[i]?
            rw [Array.getElem?_push, Array.getElem?_push]
            by_cases hi : w1.heap.size = i
            · rw [if_pos hi, if_pos hi.symm, if_pos hi.symm]; simp
            · rw [if_neg hi, if_neg (fun q => hi q.symm), if_neg (fun q => hi q.symm)]
          exact congrArg (fun hp => ({ (w1.alloc (.cells cs el)) with heap := hp } : World)) this
        have hsh : ∀ (w1 : World), (w1.alloc (.cells cs el)).shape? w1.heap.size = some (el, cap) := by
          intro w1
          unfold World.shape?
          rw [World.alloc_heap_new]
          simp [hsz]
        have hss : (⟨⟨s⟩⟩ : ByteArray).size = s.length := rfl
        have hq : (Question.appendCap s.length 0 el).forced = false := rfl
        have hrow : (newRow el cs).run P { w with drawn := w.drawn + 1 } = .ok ⟨w.heap.size, 0, none⟩ (World.alloc { w with drawn := w.drawn + 1 } (.cells cs el)) := run_newRow el cs
        simp only [Go.convert, Sem.run_bind, run_und (hT.und _ _ hs), run_und (hT.und _ _ hd), Result.andThen_ok, run_und (hT.und _ _ he), Conv.stringToBytes, hss, run_choose, hq, Bool.false_eq_true, if_false]
        rw [show ((⟨⟨s⟩⟩ : ByteArray).data.map fun b => Value.int .u8 (b.toNat : Int)) ++ Array.replicate (cap - s.length) (.int .u8 0) = cs from rfl, hrow]
        simp only [Result.andThen_ok, markStringish, Sem.run_bind, run_shape, hsh { w with drawn := w.drawn + 1 }, run_freeze, hf { w with drawn := w.drawn + 1 }, Sem.run_pure]
        rfl
      · refine RV.slice (upd_same _ _ _) hcap (fun m hm => by cases hm) ?_ (.inr rfl)
        rw [hsz]; omega
    · cases e
  · rename_i el0 el l o n s c
    rw [cond_beq] at e
    split at e
    · rename_i hsd
      subst hsd
      split at e
      · rename_i vs he hg
        cases e
        cases hu with
        | slice hm hn hcap ht ho =>
        rename_i b base tot cap off
        obtain ⟨b', base', tot', cs, ty, fr, h1, h2, h3⟩ := h.obj _ _ hg
        rw [hm] at h1; cases h1
        have hsh : w.shape? b = some (ty, cs.size) := by unfold World.shape?; rw [h2]
        have hel : el0 = el := by rw [hs] at hd; cases hd; rfl
        subst hel
        refine ⟨.slice (some ⟨b, off, none⟩) n cap, w.freeze ⟨b, cs.size, none⟩ 1, μ, ?_, .slice hm hn hcap ht ho, ?_⟩
        · simp [Go.convert, run_und (hT.und _ _ hs), run_und (hT.und _ _ he), markStringish, hsh]
        · rw [freeze_eq h2]
          refine Post.turn h hg rfl hm _ ⟨b, base, tot, cs, ty, _, hm, World.putObj_heap_same ?_, ⟨h3.len, h3.room, h3.cell, fun hro => ?_⟩⟩
          · rcases Nat.lt_or_ge b w.heap.size with h' | h'
            · exact h'
            · rw [Array.getElem?_eq_none h'] at h2; cases h2
          · right
            rcases h3.free hro with h4 | h4
            · simp [h4]
            · split
              · simp
              · simp; omega
      · cases e
    · cases e
  · rename_i el hn1
    split at e
    · rename_i he
      cases e
      cases hu
      refine .same h (u := .string .empty) ?_ (.str [])
      rw [run_convert_bytes_string w src dst el _ _ _ (hT.und _ _ hs) (hT.und _ _ he) (hT.und _ _ hd)]
      simp [Conv.bytesToString]
    · rename_i l o n s c he
      split at e
      · rename_i vs hv
        split at e
        · rename_i cs hcs
          simp only [Option.map_eq_some_iff] at e
          obtain ⟨bs, hbs, e⟩ := e
          simp only [Prod.mk.injEq] at e
          obtain ⟨rfl, rfl⟩ := e
          cases hu with
          | slice hm hn hcap ht ho =>
          rename_i b0 base tot cap off
          obtain ⟨ro, b', base', tot', ccs, ty, fr, hg, hm', hb', hcl⟩ := h.cells hv
          rw [hm] at hm'; cases hm'
          obtain ⟨us, hl, hrv, hcell⟩ := hcl.take hcs
          obtain ⟨ns, e1, e2⟩ := bytesOf_eq hbs
          subst e1
          have hus := hrv.ints
          subst hus
          have hoff : off = base + o ∨ n = 0 := by rcases ho with h0 | h0 <;> omega
          have hld : (loadCells ⟨b0, off, none⟩ n).run P w = .ok (ns.map (Value.int .u8)).toArray w := by
            rw [← hl]
            rcases hoff with rfl | h0
            · exact run_loadCells fun j u' hu' => by rw [cell_eq hb']; exact hcell j u' hu'
            · have : ns = [] := by simpa [h0] using hl
              subst this
              exact run_loadCells fun j u' hu' => by simp at hu'
          refine .same h (u := .string ⟨⟨bs⟩⟩) ?_ (.str _)
          rw [run_convert_bytes_string w src dst el _ _ _ (hT.und _ _ hs) (hT.und _ _ he) (hT.und _ _ hd), run_bytesToString w _ n cap ns hld]
          have := foldl_push ns []
          rw [List.nil_append, ← e2] at this
          rw [show (ByteArray.empty : ByteArray) = ⟨⟨[]⟩⟩ from rfl, this]
        · cases e
      · cases e
    · cases e
  · cases e

theorem good_len (hT : TabOk P T) (h : Sim μ H w) {t ty : TypeId} {d : TypeDesc} {x : V} {u : Value} {n : Nat} (hu : RV μ x u) (hd : T.und t = some d)
    (e : (∃ s, x = .str s ∧ n = s.length ∧ d = .string) ∨ (∃ el, d = .slice el ∧ ((∃ l o s c, x = .slice l o n s c) ∨ (x = .nilSlice ∧ n = 0))) ∨
      (∃ k el, d = .map k el ∧ ((x = .nilMap ∧ n = 0) ∨ ∃ r es, x = .map r ∧ H.get r = some (.map es) ∧ n = es.length))) :
    VGood P μ H w (Builtin.len_ #[t] ty #[u]) (.int .i64 n) H := by
  refine .same h (u := .int .i64 n) ?_ (.int _ _)
  rcases e with ⟨s, rfl, rfl, rfl⟩ | ⟨el, rfl, ⟨l, o, s, c, rfl⟩ | ⟨rfl, rfl⟩⟩ | ⟨k, el, rfl, ⟨rfl, rfl⟩ | ⟨r, es, rfl, hg, rfl⟩⟩
  · obtain rfl := hu.str_inv
    have : (⟨⟨s⟩⟩ : ByteArray).size = s.length := rfl
    simp [Builtin.len_, run_und (hT.und _ _ hd), goInt, this]
  · cases hu; simp [Builtin.len_, run_und (hT.und _ _ hd), goInt]
  · cases hu; simp [Builtin.len_, run_und (hT.und _ _ hd), goInt]
  · cases hu; simp [Builtin.len_, run_und (hT.und _ _ hd), goInt]
  · cases hu with
    | map hm =>
      obtain ⟨b, x, y, fs, clock, h1, h2, h3⟩ := h.obj _ _ hg
      rw [hm] at h1; cases h1
      simp [Builtin.len_, run_und (hT.und _ _ hd), goInt, getMap h2, ← Array.length_toList, h3.length]

theorem good_cap (hT : TabOk P T) (h : Sim μ H w) {t ty : TypeId} {el : TypeId} {x : V} {u : Value} {n : Nat} (hu : RV μ x u) (hd : T.und t = some (.slice el))
    (e : (∃ l o m s, x = .slice l o m s (some n)) ∨ (x = .nilSlice ∧ n = 0)) : VGood P μ H w (Builtin.cap_ #[t] ty #[u]) (.int .i64 n) H := by
  refine .same h (u := .int .i64 n) ?_ (.int _ _)
  rcases e with ⟨l, o, m, s, rfl⟩ | ⟨rfl, rfl⟩
  · cases hu with
    | slice hm hn hc ht ho =>
      have := hc n rfl
      subst this
      simp [Builtin.cap_, run_und (hT.und _ _ hd), goInt]
  · cases hu; simp [Builtin.cap_, run_und (hT.und _ _ hd), goInt]

theorem good_max (h : Sim μ H w) : ∀ {vs : List V} {us : List Value} {x r : V} {u : Value}, RVL μ vs us → RV μ x u → extremum (fun b a => decide (b > a)) x vs = some r →
    ∃ u', (us.foldlM Builtin.max2 u).run P w = .ok u' w ∧ RV μ r u'
  | [], _, x, r, u, .nil, hx, e => by simp [extremum] at e; subst e; exact ⟨u, by simp, hx⟩
  | v :: vs, _, x, r, u, .cons hv t, hx, e => by
    unfold extremum at e
    split at e
    · cases ‹v :: vs = []›
    · rename_i k a k' b vs' e1
      cases e1
      by_cases hk : k = k'
      · subst hk
        simp only [decide_true, cond_true] at e
        obtain rfl := hx.int_inv
        obtain rfl := hv.int_inv
        have hx' : RV μ (.int k (cond (decide (b > a)) b a)) (.int k (if b > a then b else a)) := by
          by_cases hc : b > a
          · simp only [hc, decide_true, cond_true, if_true]; exact .int _ _
          · simp only [hc, decide_false, cond_false, if_false]; exact .int _ _
        obtain ⟨u', h1, h2⟩ := good_max h t hx' e
        refine ⟨u', ?_, h2⟩
        rw [List.foldlM_cons, Sem.run_bind]
        simp only [Builtin.max2, Sem.run_pure, Result.andThen_ok]
        exact h1
      · simp [hk] at e
    · cases e

theorem good_min (h : Sim μ H w) : ∀ {vs : List V} {us : List Value} {x r : V} {u : Value}, RVL μ vs us → RV μ x u → extremum (fun b a => decide (b < a)) x vs = some r →
    ∃ u', (us.foldlM Builtin.min2 u).run P w = .ok u' w ∧ RV μ r u'
  | [], _, x, r, u, .nil, hx, e => by simp [extremum] at e; subst e; exact ⟨u, by simp, hx⟩
  | v :: vs, _, x, r, u, .cons hv t, hx, e => by
    unfold extremum at e
    split at e
    · cases ‹v :: vs = []›
    · rename_i k a k' b vs' e1
      cases e1
      by_cases hk : k = k'
      · subst hk
        simp only [decide_true, cond_true] at e
        obtain rfl := hx.int_inv
        obtain rfl := hv.int_inv
        have hx' : RV μ (.int k (cond (decide (b < a)) b a)) (.int k (if b < a then b else a)) := by
          by_cases hc : b < a
          · simp only [hc, decide_true, cond_true, if_true]; exact .int _ _
          · simp only [hc, decide_false, cond_false, if_false]; exact .int _ _
        obtain ⟨u', h1, h2⟩ := good_min h t hx' e
        refine ⟨u', ?_, h2⟩
        rw [List.foldlM_cons, Sem.run_bind]
        simp only [Builtin.min2, Sem.run_pure, Result.andThen_ok]
        exact h1
      · simp [hk] at e
    · cases e
end Go.Am
