import Derived.Test.YtkjknmdnehknbaaAmOps8
set_option linter.unusedSimpArgs false
set_option linter.unusedVariables false
/- Maps, assertions. -/
namespace Go.Am
open Go

variable {P : Program} {T : Tab} {μ : Mu} {H : Heap} {w : World}

def KeyAt (d : TypeDesc) (k : V) : Prop := (∃ j n, d = .int j ∧ k = .int j n) ∨ (∃ s, d = .string ∧ k = .str s) ∨ (∃ b, d = .bool ∧ k = .bool b)

theorem keyOk_at {kt : TypeId} {k : V} (h : keyOk T kt k = true) : ∃ d, T.und kt = some d ∧ KeyAt d k := by
  unfold keyOk at h
  split at h
  · rename_i j j' n hd
    have : j = j' := by simpa using h
    subst this
    exact ⟨_, hd, .inl ⟨j, n, rfl, rfl⟩⟩
  · rename_i s hd; exact ⟨_, hd, .inr (.inl ⟨s, rfl, rfl⟩)⟩
  · rename_i b hd; exact ⟨_, hd, .inr (.inr ⟨b, rfl, rfl⟩)⟩
  · cases h

theorem sameNow_of {d : TypeDesc} {k k' : V} {u u' : Value} {r : Bool} (hk : KeyAt d k) (hu : RV μ k u) (hu' : RV μ k' u') (e : sameCell k k' = some r) : Instr.sameNow d u u' = some r := by
  rcases hk with ⟨j, n, rfl, rfl⟩ | ⟨s, rfl, rfl⟩ | ⟨b, rfl, rfl⟩
  · obtain rfl := hu.int_inv
    unfold sameCell at e
    split at e
    · rename_i j' a k' b e1 
      cases e1
      by_cases hj : j = k'
      · subst hj
        simp only [decide_true, cond_true, Option.some.injEq] at e
        obtain rfl := hu'.int_inv
        subst e
        simp only [Instr.sameNow, if_true, Option.some.injEq]
        rw [Bool.eq_iff_iff]; simp
      · simp [hj] at e
    · rename_i e1; cases e1
    · rename_i e1; cases e1
    · cases e
  · obtain rfl := hu.str_inv
    cases hu' <;> simp [sameCell] at e
    rename_i s'
    simp [Instr.sameNow, ← e]
    rw [Bool.eq_iff_iff, MapKept.bytes_beq]
    simp
  · obtain rfl := hu.bool_inv
    cases hu' <;> simp [sameCell] at e
    simp [Instr.sameNow, ← e]

theorem find_of {d : TypeDesc} {k : V} {u : Value} (hk : KeyAt d k) (hu : RV μ k u) : ∀ {es : List (V × V)} {fs : List MapEntry} (i : Nat) {r : Option V}, MR μ es fs → mapFind k es = some r →
    match r with
    | none => Instr.findNow d u fs i = some none
    | some v => ∃ j e, Instr.findNow d u fs i = some (some (i + j, e.val)) ∧ fs[j]? = some e ∧ RV μ v e.val
  | _, _, i, r, .nil, e => by simp [mapFind] at e; subst e; rfl
  | _, _, i, r, .cons (k := k') (v := v) (e := e0) (es := es) (fs := fs) hk' hv t, e => by
    unfold mapFind at e
    split at e
    · rename_i hs
      cases e
      exact ⟨0, e0, by simp [Instr.findNow, sameNow_of hk hu hk' hs], rfl, hv⟩
    · rename_i hs
      have ih := find_of hk hu (i + 1) t e
      have hn := sameNow_of hk hu hk' hs
      cases r with
      | none => simp only [Instr.findNow, hn]; exact ih
      | some v' =>
        obtain ⟨j, e1, h1, h2, h3⟩ := ih
        exact ⟨j + 1, e1, by simp only [Instr.findNow, hn, h1]; congr 3; omega, by simpa using h2, h3⟩
    · cases e

theorem run_checkKey_of (hT : TabOk P T) {kt : TypeId} {d : TypeDesc} {k : V} {u : Value} (hd : T.und kt = some d) (hk : KeyAt d k) (hu : RV μ k u) (b : Bool) (n : Nat) : (Instr.checkKey b (n + 1) kt u).run P w = .ok () w := by
  unfold Instr.checkKey
  rcases hk with ⟨j, n', rfl, rfl⟩ | ⟨s, rfl, rfl⟩ | ⟨b', rfl, rfl⟩
  · obtain rfl := hu.int_inv; simp [run_und (hT.und _ _ hd)]
  · obtain rfl := hu.str_inv; simp [run_und (hT.und _ _ hd)]
  · obtain rfl := hu.bool_inv; simp [run_und (hT.und _ _ hd)]

theorem run_findKey_of (hT : TabOk P T) {kt : TypeId} {d : TypeDesc} {u : Value} (hd : T.und kt = some d) {fs : List MapEntry} {r : Option (Nat × Value)} (h : Instr.findNow d u fs 0 = some r) : (Instr.findKey kt u fs).run P w = .ok r w := by
  simp [Instr.findKey, run_und (hT.und _ _ hd), h]

theorem lookup_run (hT : TabOk P T) {t kt et : TypeId} (hd : T.und t = some (.map kt et)) {um uk : Value} {es : Array MapEntry} {fr : Option (Nat × Value)} {ok : Bool}
    (hes : (um = .map none ∧ es = #[]) ∨ ∃ b clock, um = .map (some b) ∧ w.heap[b]? = some (.map es clock)) (hck : ∀ b, (Instr.checkKey b 10000 kt uk).run P w = .ok () w)
    (hf : (Instr.findKey kt uk es.toList).run P w = .ok fr w) {zv : Value} (hz : fr = none → (zeroValue et).run P w = .ok zv w) :
    (Instr.lookup t um uk ok).run P w = .ok (match fr with
      | some (_, v) => if ok then .tuple #[v, .bool true] else v
      | none => if ok then .tuple #[zv, .bool false] else zv) w := by
  rcases hes with ⟨rfl, rfl⟩ | ⟨b, clock, rfl, hb⟩
  · cases fr with
    | none => simp at hf; simp [Instr.lookup, run_und (hT.und _ _ hd), hck, hf, hz rfl]
    | some p => obtain ⟨i, v⟩ := p; simp at hf; simp [Instr.lookup, run_und (hT.und _ _ hd), hck, hf]
  · cases fr with
    | none => simp [Instr.lookup, run_und (hT.und _ _ hd), getMap hb, hck, hf, hz rfl]
    | some p => obtain ⟨i, v⟩ := p; simp [Instr.lookup, run_und (hT.und _ _ hd), getMap hb, hck, hf]

theorem mapGet_inv {m k : V} {x : Option V} (e : mapGet H m k = some x) : (m = .nilMap ∧ x = none) ∨ ∃ r es, m = .map r ∧ H.get r = some (.map es) ∧ mapFind k es = some x := by
  cases m <;> simp [mapGet] at e
  case nilMap => exact .inl ⟨rfl, e.symm⟩
  case map r =>
    cases hg : H.get r with
    | none => simp [hg] at e
    | some o => cases o <;> simp [hg] at e; rename_i es; exact .inr ⟨r, es, rfl, hg, e⟩

theorem mapGet_run (hT : TabOk P T) (h : Sim μ H w) {kt : TypeId} {d : TypeDesc} {m k : V} {um uk : Value} (hm : RV μ m um) (hk : RV μ k uk) (hkd : T.und kt = some d) (hka : KeyAt d k) {x : Option V} (e : mapGet H m k = some x) :
    ∃ es : Array MapEntry, ((um = .map none ∧ es = #[]) ∨ ∃ b clock, um = .map (some b) ∧ w.heap[b]? = some (.map es clock)) ∧
      match x with
      | none => (Instr.findKey kt uk es.toList).run P w = .ok none w
      | some v => ∃ i u, (Instr.findKey kt uk es.toList).run P w = .ok (some (i, u)) w ∧ RV μ v u := by
  rcases mapGet_inv e with ⟨rfl, rfl⟩ | ⟨r, es, rfl, hg, e'⟩
  · cases hm
    exact ⟨#[], .inl ⟨rfl, rfl⟩, run_findKey_of hT hkd (by simp [Instr.findNow])⟩
  · cases hm with
    | map hmm =>
    rename_i b x1 y1
    obtain ⟨b', x1', y1', fs, clock, h1, h2, h3⟩ := h.obj _ _ hg
    rw [hmm] at h1; cases h1
    have hf := find_of hka hk 0 h3 e'
    refine ⟨fs, .inr ⟨b, clock, rfl, h2⟩, ?_⟩
    cases x with
    | none => exact run_findKey_of hT hkd hf
    | some v =>
      obtain ⟨j, e1, g1, g2, g3⟩ := hf
      exact ⟨_, _, run_findKey_of hT hkd g1, g3⟩

theorem good_lookup (hT : TabOk P T) (h : Sim μ H w) {t : TypeId} {m k r : V} {ok : Bool} {um uk : Value} (hm : RV μ m um) (hk : RV μ k uk) (e : lookup T H t m k ok = some r) : VGood P μ H w (Instr.lookup t um uk ok) r H := by
  unfold Am.lookup at e
  split at e
  case h_2 => cases e
  rename_i kt et hd
  cases hko : keyOk T kt k with
  | false => rw [hko] at e; cases e
  | true =>
    rw [hko] at e
    simp only [cond_true] at e
    obtain ⟨d, hkd, hka⟩ := keyOk_at hko
    have hck : ∀ b, (Instr.checkKey b 10000 kt uk).run P w = .ok () w := fun b => run_checkKey_of hT hkd hka hk b 9999
    split at e
    · cases e
    · rename_i v hv
      obtain ⟨es, h1, i, u, h2, h3⟩ := mapGet_run hT h hm hk hkd hka hv
      cases e
      refine .same h (lookup_run hT hd h1 hck h2 (zv := .nilIface) (by simp)) ?_
      cases ok with
      | true => exact .tuple (.cons h3 (.cons (.bool _) .nil))
      | false => exact h3
    · rename_i hv
      obtain ⟨es, h1, h2⟩ := mapGet_run hT h hm hk hkd hka hv
      split at e
      · rename_i z hz
        cases e
        obtain ⟨i, zv, hi, hzv, hr⟩ := hT.zeroV _ _ hz
        refine .same h (lookup_run hT hd h1 hck h2 (zv := zv) fun _ => run_zero hi hzv) ?_
        cases ok with
        | true => exact .tuple (.cons (hr μ) (.cons (.bool _) .nil))
        | false => exact hr μ
      · cases e

theorem sameCell_true {a b : V} (h : sameCell a b = some true) : a = b := by
  unfold sameCell at h
  split at h
  · rename_i j a k b
    by_cases hj : j = k
    · subst hj
      simp only [decide_true, cond_true, Option.some.injEq, decide_eq_true_eq] at h
      rw [h]
    · simp [hj] at h
  · simp at h; rw [h]
  · simp at h; rw [h]
  · cases h
theorem key_unique {d : TypeDesc} {k : V} {u u' : Value} (hk : KeyAt d k) (h : RV μ k u) (h' : RV μ k u') : u = u' := by
  rcases hk with ⟨j, n, rfl, rfl⟩ | ⟨s, rfl, rfl⟩ | ⟨b, rfl, rfl⟩
  · rw [h.int_inv, h'.int_inv]
  · rw [h.str_inv, h'.str_inv]
  · rw [h.bool_inv, h'.bool_inv]

theorem set_of {d : TypeDesc} {k x : V} {uk ux : Value} (hk : KeyAt d k) (hu : RV μ k uk) (hx : RV μ x ux) : ∀ {es es' : List (V × V)} {fs : List MapEntry} (i : Nat), MR μ es fs → mapSet k x es = some es' →
    (Instr.findNow d uk fs i = some none ∧ ∀ b, MR μ es' (fs ++ [{ key := uk, val := ux, born := b }])) ∨
    ∃ j e, Instr.findNow d uk fs i = some (some (i + j, e.val)) ∧ fs[j]? = some e ∧ e.key = uk ∧ MR μ es' (fs.modify j fun e => { e with key := uk, val := ux })
  | _, _, _, i, .nil, e => by
    simp [mapSet] at e; subst e
    exact .inl ⟨rfl, fun b => .cons hu hx .nil⟩
  | _, es', _, i, .cons (k := k') (v := v) (e := e0) (es := es) (fs := fs) hk' hv t, e => by
    unfold mapSet at e
    split at e
    · rename_i hs
      cases e
      refine .inr ⟨0, e0, by simp [Instr.findNow, sameNow_of hk hu hk' hs], rfl, ?_, by simpa using MR.cons hu hx t⟩
      obtain rfl := sameCell_true hs
      exact key_unique hk hk' hu
    · rename_i hs
      simp only [Option.map_eq_some_iff] at e
      obtain ⟨es1, h1, rfl⟩ := e
      have hn := sameNow_of hk hu hk' hs
      rcases set_of hk hu hx (i + 1) t h1 with ⟨g1, g2⟩ | ⟨j, e1, g1, g2, g3, g4⟩
      · exact .inl ⟨by simp only [Instr.findNow, hn]; exact g1, fun b => .cons hk' hv (g2 b)⟩
      · exact .inr ⟨j + 1, e1, by simp only [Instr.findNow, hn, g1]; congr 3; omega, by simpa using g2, g3, by simpa using MR.cons hk' hv g4⟩
    · cases e

theorem sameBits_key {d : TypeDesc} {k : V} {u : Value} (hk : KeyAt d k) (hu : RV μ k u) (n : Nat) : Instr.sameBits n u u = true := by
  rcases hk with ⟨j, n', rfl, rfl⟩ | ⟨s, rfl, rfl⟩ | ⟨b', rfl, rfl⟩
  · obtain rfl := hu.int_inv; cases n <;> simp [Instr.sameBits]
  · obtain rfl := hu.str_inv; cases n <;> simp [Instr.sameBits, MapKept.bytes_beq]
  · obtain rfl := hu.bool_inv; cases n <;> simp [Instr.sameBits]

theorem good_mapUpdate (hT : TabOk P T) (h : Sim μ H w) {t : TypeId} {m k x : V} {um uk ux : Value} {H' : Heap} (hm : RV μ m um) (hk : RV μ k uk) (hx : RV μ x ux) (e : mapUpdate T H t m k x = some H') :
    ∃ w', (Instr.mapUpdate t um uk ux).run P w = .ok () w' ∧ Post μ H w μ H' w' := by
  unfold Am.mapUpdate at e
  split at e
  case h_2 => cases e
  rename_i kt et r hd
  cases hko : keyOk T kt k with
  | false => rw [hko] at e; cases e
  | true =>
    rw [hko] at e
    simp only [cond_true] at e
    obtain ⟨d, hkd, hka⟩ := keyOk_at hko
    have hck : (Instr.checkKey false 10000 kt uk).run P w = .ok () w := run_checkKey_of hT hkd hka hk false 9999
    split at e
    case h_2 => cases e
    rename_i es hg
    simp only [Option.map_eq_some_iff] at e
    obtain ⟨es', hs, rfl⟩ := e
    cases hm with
    | map hmm =>
    rename_i b x1 y1
    obtain ⟨b', x1', y1', fs, clock, h1, h2, h3⟩ := h.obj _ _ hg
    rw [hmm] at h1; cases h1
    have hlt : b < w.heap.size := by
      rcases Nat.lt_or_ge b w.heap.size with h' | h'
      · exact h'
      · rw [Array.getElem?_eq_none h'] at h2; cases h2
    rcases set_of hka hk hx 0 h3 hs with ⟨g1, g2⟩ | ⟨j, e1, g1, g2, g3, g4⟩
    · refine ⟨w.putObj b (.map (fs.push { key := uk, val := ux, born := clock }) (clock + 1)), ?_, ?_⟩
      · simp [Instr.mapUpdate, run_und (hT.und _ _ hd), getMap h2, hck, run_findKey_of hT hkd g1, setMap _ h2]
      · refine Post.turn h hg rfl hmm _ ⟨b, x1, y1, _, _, hmm, World.putObj_heap_same hlt, ?_⟩
        simpa using g2 clock
    · refine ⟨w.putObj b (.map (fs.modify j fun e => { e with key := uk, val := ux }) clock), ?_, ?_⟩
      · have hkey : (((fs[j]?).map (·.key)).getD uk) = uk := by
          have : fs[j]? = some e1 := by simpa using g2
          rw [this]; exact g3
        have hkt : (Instr.keyThatStays uk uk).run P w = .ok uk w := by simp [Instr.keyThatStays, sameBits_key hka hk]
        simp only [Nat.zero_add] at g1
        simp only [Instr.mapUpdate, Sem.run_bind, run_und (hT.und _ _ hd), Result.andThen_ok, getMap h2, hck, run_findKey_of hT hkd g1, hkey, hkt, setMap _ h2]
      · refine Post.turn h hg rfl hmm _ ⟨b, x1, y1, _, _, hmm, World.putObj_heap_same hlt, ?_⟩
        simpa using g4

theorem good_typeAssert (hT : TabOk P T) (h : Sim μ H w) {xt u : TypeId} {d : TypeDesc} {ok : Bool} {x r : V} {ux : Value} (hx : RV μ x ux) (hd : T.und u = some d) (hn : ∀ ms, d ≠ .interface ms)
    (e : (∃ t v, x = .iface t v ∧ ((t = u ∧ r = cond ok (.tuple [v, .bool true]) v) ∨ (t ≠ u ∧ ok = true ∧ ∃ z, T.zeroV u = some z ∧ r = .tuple [z, .bool false]))) ∨ (x = .nilIface ∧ ok = true ∧ ∃ z, T.zeroV u = some z ∧ r = .tuple [z, .bool false])) :
    VGood P μ H w (Instr.typeAssert ux xt u ok) r H := by
  rcases e with ⟨t, v, rfl, ⟨rfl, rfl⟩ | ⟨hne, rfl, z, hz, rfl⟩⟩ | ⟨rfl, rfl, z, hz, rfl⟩
  · cases hx with
    | iface hv =>
    rename_i uv
    cases ok with
    | true =>
      refine .same h (u := .tuple #[uv, .bool true]) ?_ (.tuple (.cons hv (.cons (.bool _) .nil)))
      simp only [Instr.typeAssert, Sem.run_bind, run_und (hT.und _ _ hd), Result.andThen_ok]
      cases d <;> first | (exact absurd rfl (hn _)) | simp
    | false =>
      refine .same h (u := uv) ?_ hv
      simp only [Instr.typeAssert, Sem.run_bind, run_und (hT.und _ _ hd), Result.andThen_ok]
      cases d <;> first | (exact absurd rfl (hn _)) | simp
  · obtain ⟨i, zv, hi, hzv, hr⟩ := hT.zeroV _ _ hz
    cases hx with
    | iface hv =>
    refine .same h (u := .tuple #[zv, .bool false]) ?_ (.tuple (.cons (hr μ) (.cons (.bool _) .nil)))
    simp only [Instr.typeAssert, Sem.run_bind, run_und (hT.und _ _ hd), Result.andThen_ok]
    cases d <;> first | (exact absurd rfl (hn _)) | simp [hne, run_zero hi hzv]
  · obtain ⟨i, zv, hi, hzv, hr⟩ := hT.zeroV _ _ hz
    cases hx
    refine .same h (u := .tuple #[zv, .bool false]) ?_ (.tuple (.cons (hr μ) (.cons (.bool _) .nil)))
    simp only [Instr.typeAssert, Sem.run_bind, run_und (hT.und _ _ hd), Result.andThen_ok]
    cases d <;> first | (exact absurd rfl (hn _)) | simp [run_zero hi hzv]
end Go.Am
