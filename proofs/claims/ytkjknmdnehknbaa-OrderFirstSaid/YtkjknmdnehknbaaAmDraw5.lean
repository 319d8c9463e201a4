import Derived.Test.YtkjknmdnehknbaaAmDraw4
set_option linter.unusedSimpArgs false
set_option linter.unusedVariables false
/- Objects made ahead of their turn. -/
namespace Go.Am
open Go

variable {P : Program} {T : Tab} {ev : Ev} {fuel : Nat} {ops : Array Oper} {k : Nat} {μ : Mu} {H : Heap} {w : World}

theorem sim_empty (h : Sim μ H w) {N : Nat} (hN : H.n ≤ N) : Sim μ ⟨N, .leaf⟩ w :=
  ⟨fun l o e => by (rw [leaf_get] at e; cases e), fun l l' o o' b x y b' x' y' e => by (rw [leaf_get] at e; cases e), fun l x e => Nat.lt_of_lt_of_le (h.dom l x e) hN⟩

def O.topp : O → Nat
  | .cells _ vs => V.tops vs
  | _ => 0

theorem PlaceOb.own {ob : O} (h : PlaceOb ob) : ob.own = true := by cases h <;> rfl

theorem placed (hT : TabOk P T) (h : Sim μ H w) {s : A} {x : Act} (ha : AR μ s x) {o : Oper} {q : Nat} {f : Nat → V} {ob : O} (hf : PlaceFn f) (hob : PlaceOb ob)
    (hall : ∀ K : Heap, execOp T s K o.op = .val (f K.n) (K.push ob)) (hq : μ q = none) :
    ∃ u w' X, ((Go.execOp x.eval o).run P w = .ok (.value u) w' ∨ ((Go.execOp x.eval o).run P w = .ok .skip w' ∧ u = Go.undef)) ∧ RV (upd μ q X) (f q) u ∧ ObjR (upd μ q X) w' q ob ∧
      w.heap.size ≤ X.1 ∧ X.1 < w'.heap.size ∧ (∀ b, b < w.heap.size → w'.heap[b]? = w.heap[b]?) ∧ w.heap.size ≤ w'.heap.size ∧ w'.os = w.os ∧ w'.tape = w.tape ∧ w'.output = w.output := by
  have hN1 : H.n ≤ max H.n ob.topp := Nat.le_max_left _ _
  have hN2 : ob.topp ≤ max H.n ob.topp := Nat.le_max_right _ _
  generalize max H.n ob.topp = N at hN1 hN2
  have hs := sim_empty h hN1
  obtain ⟨u, w', μ', hrun, hv, hp⟩ := exec_made (P := P) hT hs ha (hall ⟨N, .leaf⟩)
  have hget : (Heap.push ⟨N, .leaf⟩ ob).get N = some ob := by rw [Heap.get_push, if_pos rfl]
  have hno : ∀ b, ¬ Owned μ ⟨N, .leaf⟩ b := fun b ⟨l, o, x, y, e, _⟩ => by rw [leaf_get] at e; cases e
  have hobj := hp.sim.obj N ob hget
  obtain ⟨b, y, z, hm, hlt⟩ := hobj.block (O.live_of_own hob.own)
  have hge : w.heap.size ≤ b := by
    rcases Nat.lt_or_ge b w.heap.size with h' | h'
    · exact absurd (hp.own b h' ⟨N, ob, y, z, hget, hob.own, hm⟩) (hno b)
    · exact h'
  have hext : ∀ l x, μ l = some x → upd μ q (b, y, z) l = some x := fun l x e => by
    rw [upd_other _ (fun h => by rw [h, hq] at e; cases e)]; exact e
  refine ⟨u, w', (b, y, z), hrun, ?_, ?_, hge, hlt, fun b' hb' => hp.kept b' hb' (hno b'), hp.size, hp.os, hp.tape, hp.output⟩
  · cases hf with
    | ptr =>
      cases hv with
      | ptr h1 => rw [hm] at h1; cases h1; exact .ptr (upd_same _ _ _)
    | slice m s c =>
      cases hv with
      | slice h1 hn hc ht ho => rw [hm] at h1; cases h1; exact .slice (upd_same _ _ _) hn hc ht ho
    | map =>
      cases hv with
      | map h1 => rw [hm] at h1; cases h1; exact .map (upd_same _ _ _)
  · cases hob with
    | cells vs =>
      obtain ⟨b', base, tot, cs, ty, fr, h1, h2, h3⟩ := hobj
      rw [hm] at h1; cases h1
      refine ⟨b, y, z, cs, ty, fr, upd_same _ _ _, h2, h3.len, h3.room, ?_, h3.free⟩
      intro j v hv'
      obtain ⟨u', e1, e2⟩ := h3.cell j v hv'
      refine ⟨u', e1, (RV.low (N := N) (fun l hl => hp.agree l hl) e2 ?_).mono hext⟩
      have := V.top_le_tops hv'
      simp only [O.topp] at hN2
      omega
    | map =>
      obtain ⟨b', y', z', fs, clock, h1, h2, h3⟩ := hobj
      rw [hm] at h1; cases h1
      refine ⟨b, y, z, fs, clock, upd_same _ _ _, h2, ?_⟩
      generalize fs.toList = q at h3
      cases h3; exact .nil

theorem Sim.join (h : Sim μ H w) {q : Nat} {ob : O} {b y z : Nat} (hq : q < H.n) (hm : μ q = some (b, y, z)) (ho : ObjR μ w q ob) (hb : ¬ Live μ H b) : Sim μ (H.put q ob) w := by
  refine ⟨?_, ?_, by simpa using h.dom⟩
  · intro l o e
    rw [Heap.get_put hq] at e
    split at e
    · rename_i el; subst el; cases e; exact ho
    · exact h.obj l o e
  · intro l l' o o' b1 x1 y1 b2 x2 y2 e1 e2 ho1 ho2 m1 m2 hbb
    rw [Heap.get_put hq] at e1 e2
    split at e1
    · rename_i el; subst el
      split at e2
      · rename_i el2; exact el2.symm
      · rw [hm] at m1; cases m1; subst hbb
        exact absurd ⟨l', o', x2, y2, e2, ho2, m2⟩ hb
    · split at e2
      · rename_i el2; subst el2
        rw [hm] at m2; cases m2; subst hbb
        exact absurd ⟨l, o, x1, y1, e1, O.live_of_own ho1, m1⟩ hb
      · exact h.inj l l' o o' b1 x1 y1 b2 x2 y2 e1 e2 ho1 ho2 m1 m2 hbb

theorem Post.join {μ0 : Mu} {H0 : Heap} {w0 : World} (p : Post μ0 H0 w0 μ H w) {q : Nat} {ob : O} {b y z : Nat} (hq : q < H.n) (hm : μ q = some (b, y, z)) (ho : ObjR μ w q ob) (hb : ¬ Live μ H b)
    (hk : H0.n ≤ q) (hb0 : w0.heap.size ≤ b) : Post μ0 H0 w0 μ (H.put q ob) w := by
  refine ⟨p.sim.join hq hm ho hb, p.os, p.tape, p.output, p.size, by simpa using p.n, p.agree, p.kept, ?_, ?_, ?_⟩
  · intro b' hb' ⟨l, o, x1, y1, e1, e2, e3⟩
    rw [Heap.get_put hq] at e1
    split at e1
    · rename_i el; subst el; rw [hm] at e3; cases e3; omega
    · exact p.own b' hb' ⟨l, o, x1, y1, e1, e2, e3⟩
  · intro b' hb' ⟨l, o, x1, y1, e1, e2, e3⟩
    rw [Heap.get_put hq] at e1
    split at e1
    · rename_i el; subst el; rw [hm] at e3; cases e3; omega
    · exact p.live b' hb' ⟨l, o, x1, y1, e1, e2, e3⟩
  · intro l hl e
    rw [Heap.get_put hq, if_neg (by omega)]
    exact p.hole l hl e

theorem Post.place {μ0 : Mu} {H0 : Heap} {w0 w' : World} (p : Post μ0 H0 w0 μ H w) {q : Nat} {X : Nat × Nat × Nat} (hμ : μ q = none) (hq : q < H.n) (hg : H.get q = none) (hk : H0.n ≤ q)
    (hkeep : ∀ b, b < w.heap.size → w'.heap[b]? = w.heap[b]?) (hs : w.heap.size ≤ w'.heap.size) (h1 : w'.os = w.os) (h2 : w'.tape = w.tape) (h3 : w'.output = w.output) : Post μ0 H0 w0 (upd μ q X) H w' := by
  have hne : ∀ {l : Nat} {o : O}, H.get l = some o → l ≠ q := fun {l o} e h => by rw [h, hg] at e; cases e
  have hext : ∀ l x, μ l = some x → upd μ q X l = some x := fun l x e => by
    rw [upd_other _ (fun h => by rw [h, hμ] at e; cases e)]; exact e
  refine ⟨⟨?_, ?_, ?_⟩, h1.trans p.os, h2.trans p.tape, h3.trans p.output, Nat.le_trans p.size hs, p.n, ?_, ?_, ?_, ?_, p.hole⟩
  · intro l o e
    refine (p.sim.obj l o e).mono hext fun b x y m hl => hkeep b ?_
    obtain ⟨b', x', y', m', hlt⟩ := (p.sim.obj l o e).block hl
    rw [m] at m'; cases m'; exact hlt
  · intro l l' o o' b x1 y1 b' x2 y2 e1 e2 ho1 ho2 m1 m2 hbb
    rw [upd_other _ (hne e1)] at m1
    rw [upd_other _ (hne e2)] at m2
    exact p.sim.inj l l' o o' b x1 y1 b' x2 y2 e1 e2 ho1 ho2 m1 m2 hbb
  · intro l x e
    by_cases el : l = q
    · subst el; exact hq
    · rw [upd_other _ el] at e; exact p.sim.dom l x e
  · intro l hl
    rw [upd_other _ (by omega)]
    exact p.agree l hl
  · intro b hb hn
    exact (hkeep b (Nat.lt_of_lt_of_le hb p.size)).trans (p.kept b hb hn)
  · intro b hb ⟨l, o, x1, y1, e1, e2, e3⟩
    rw [upd_other _ (hne e1)] at e3
    exact p.own b hb ⟨l, o, x1, y1, e1, e2, e3⟩
  · intro b hb ⟨l, o, x1, y1, e1, e2, e3⟩
    rw [upd_other _ (hne e1)] at e3
    exact p.live b hb ⟨l, o, x1, y1, e1, e2, e3⟩

theorem Post.keep (h : Sim μ H w) {n : Nat} (hc : H.clean n = true) : Post μ H w μ (H.keep n) w := by
  have hg : ∀ l, (H.keep n).get l = H.get l := by
    intro l
    simp only [Heap.get_eq, Heap.keep]
    by_cases h1 : l < H.n
    · rw [if_pos h1, if_pos (by omega)]
    · rw [if_neg h1]
      split
      · rename_i h2
        unfold Heap.clean at hc
        simp only [List.all_eq_true, List.mem_range] at hc
        have := hc (l - H.n) (by omega)
        rw [show H.n + (l - H.n) = l by omega] at this
        simpa using this
      · rfl
  refine ⟨⟨fun l o e => h.obj l o (by rw [← hg]; exact e), fun l l' o o' b x y b' x' y' e1 e2 => h.inj l l' o o' b x y b' x' y' (by rw [← hg]; exact e1) (by rw [← hg]; exact e2), fun l x e => ?_⟩, rfl, rfl, rfl, Nat.le_refl _, ?_, fun _ _ => rfl, fun _ _ _ => rfl, ?_, ?_, ?_⟩
  · have := h.dom l x e; simp only [Heap.keep]; omega
  · simp [Heap.keep]
  · rintro b _ ⟨l, o, x, y, e1, e2, e3⟩; exact ⟨l, o, x, y, by rw [← hg]; exact e1, e2, e3⟩
  · rintro b _ ⟨l, o, x, y, e1, e2, e3⟩; exact ⟨l, o, x, y, by rw [← hg]; exact e1, e2, e3⟩
  · intro l _ e; rw [hg]; exact e

/-! ### The kinds of steps -/
inductive Kind (T : Tab) (ev : Ev) (fuel : Nat) (ops : Array Oper) (k : Nat) (i : Nat) (o : Oper) (sn : List (Nat × Heap)) (a : A) (H : Heap) : V → Eff → Prop
  | off (hw : wanted ops a o = false) : Kind T ev fuel ops k i o sn a H undefV .still
  | still {v : V} (hw : wanted ops a o = true) (hx : ∀ K, execOp T a K o.op = .val v K) : Kind T ev fuel ops k i o sn a H v .still
  | made {f : Nat → V} {ob : O} (hw : wanted ops a o = true) (hf : PlaceFn f) (hob : PlaceOb ob) (hx : ∀ K : Heap, execOp T a K o.op = .val (f K.n) (K.push ob)) : Kind T ev fuel ops k i o sn a H (f (k + i)) (.made ob)
  | read {v : V} (hw : wanted ops a o = true) (hr : reads o.op = true) (hx : execOp T a H o.op = .val v H) (hst : stood T a o v ((Region.before ops).getD i 0) sn = true) : Kind T ev fuel ops k i o sn a H v .still
  | val {v : V} {H' : Heap} (hw : wanted ops a o = true) (hl : loud o.op = true) (hx : execOp T a H o.op = .val v H') : Kind T ev fuel ops k i o sn a H v (.loud H')
  | call {v : V} {H' : Heap} {g : FuncId} {args : List V} (hw : wanted ops a o = true) (hl : loud o.op = true) (hx : execOp T a H o.op = .call g args) (hc : calls T ev fuel g args H = .returned v H') : Kind T ev fuel ops k i o sn a H v (.loud H')
  | round {v : V} {H' : Heap} {l : Nat} {args : List V} (hw : wanted ops a o = true) (hl : loud o.op = true) (hx : execOp T a H o.op = .round l args) (hc : round ev l args H = .returned v H') : Kind T ev fuel ops k i o sn a H v (.loud H')

theorem quietAt_spec {a : A} {o : Op} {q : Nat} {v : V} {ob : Option O} (hq : quiet o = true) (e : quietAt T a q o = some (v, ob)) :
    (ob = none ∧ ∀ K, execOp T a K o = .val v K) ∨ ∃ f ob', ob = some ob' ∧ PlaceFn f ∧ PlaceOb ob' ∧ v = f q ∧ ∀ K : Heap, execOp T a K o = .val (f K.n) (K.push ob') := by
  unfold quietAt at e
  split at e
  · rename_i v1 H1 hx
    rw [cond_beq] at e
    rcases quiet_indep hq hx with ⟨rfl, h2⟩ | ⟨f, ob', h1, h2, rfl, rfl, h5⟩
    · rw [if_pos rfl] at e
      cases e
      exact .inl ⟨rfl, h2⟩
    · rw [if_neg (by simp)] at e
      rw [Heap.get_push, if_pos rfl] at e
      cases e
      exact .inr ⟨f, ob', rfl, h1, h2, rfl, h5⟩
  · cases e

theorem step_kind {i : Nat} {o : Oper} {sn : List (Nat × Heap)} {a : A} {H : Heap} {v : V} {f : Eff} (e : stepD T ev fuel ops k i o sn a H = some (v, f)) : Kind T ev fuel ops k i o sn a H v f := by
  have e0 := e
  unfold stepD at e
  cases hw : wanted ops a o with
  | false => rw [hw] at e; cases e; exact .off hw
  | true =>
    rw [hw] at e
    simp only [cond_true] at e
    cases hq : quiet o.op with
    | true =>
      rw [hq] at e
      simp only [cond_true] at e
      split at e
      · rename_i v1 h1
        cases e
        rcases quietAt_spec hq h1 with ⟨_, h2⟩ | ⟨f, ob', h2, _⟩
        · exact .still hw h2
        · cases h2
      · rename_i v1 ob h1
        cases e
        rcases quietAt_spec hq h1 with ⟨h2, _⟩ | ⟨f, ob', h2, h3, h4, rfl, h6⟩
        · cases h2
        · cases h2; exact .made hw h3 h4 h6
      · cases e
    | false =>
      rw [hq] at e
      simp only [cond_false] at e
      cases hr : reads o.op with
      | true =>
        rw [hr] at e
        simp only [cond_true] at e
        split at e
        · rename_i v1 H1 h1
          have := reads_same hr h1; subst this
          cases hst : stood T a o v1 ((Region.before ops).getD i 0) sn with
          | false => rw [hst] at e; cases e
          | true => rw [hst] at e; cases e; exact .read hw hr h1 hst
        · cases e
      | false =>
        have hl : loud o.op = true := by unfold loud; rw [hq, hr]; rfl
        rw [hr] at e
        simp only [cond_false] at e
        split at e
        · rename_i v1 H1 h1; cases e; exact .val hw hl h1
        · rename_i g args h1
          split at e
          · rename_i v1 H1 h2; cases e; exact .call hw hl h1 h2
          · cases e
        · rename_i l args h1
          split at e
          · rename_i v1 H1 h2; cases e; exact .round hw hl h1 h2
          · cases e
        · cases e

/-- What was read equals what would have been read at a loud operation that need not come first. -/
theorem same1_eq {x y : V} (h : sameV.same1 x y = true) : x = y := by
  unfold sameV.same1 at h
  split at h <;> simp_all
theorem sameVs_eq : ∀ {xs ys : List V}, sameV.sameVs xs ys = true → xs = ys
  | [], [], _ => rfl
  | [], _ :: _, h => by simp [sameV.sameVs] at h
  | _ :: _, [], h => by simp [sameV.sameVs] at h
  | x :: xs, y :: ys, h => by
    simp only [sameV.sameVs, Bool.and_eq_true] at h
    rw [same1_eq h.1, sameVs_eq h.2]
theorem sameV_eq {x y : V} (h : sameV x y = true) : x = y := by
  unfold sameV at h
  split at h
  · rw [sameVs_eq h]
  · exact same1_eq h

theorem stood_spec {a : A} {o : Oper} {v : V} {mask : Nat} : ∀ {sn : List (Nat × Heap)}, stood T a o v mask sn = true → ∀ h K, (h, K) ∈ sn → mask.testBit h = false → ∃ K', execOp T a K o.op = .val v K'
  | [], _, h, K, hm, _ => by simp at hm
  | (h1, K1) :: sn, hs, h, K, hm, hb => by
    simp only [stood, Bool.and_eq_true, Bool.or_eq_true] at hs
    rcases List.mem_cons.1 hm with he | hm
    · cases he
      rcases hs.1 with h2 | h2
      · rw [hb] at h2; cases h2
      · split at h2
        · rename_i u K' hx
          have := sameV_eq h2; subst this
          exact ⟨_, hx⟩
        · cases h2
    · exact stood_spec hs.2 h K hm hb
end Go.Am
