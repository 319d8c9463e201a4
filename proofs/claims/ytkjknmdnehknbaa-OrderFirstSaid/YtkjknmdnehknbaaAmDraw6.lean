import Derived.Test.YtkjknmdnehknbaaAmDraw5
set_option linter.unusedSimpArgs false
set_option linter.unusedVariables false
/- Regions that draw: how the machine stands to the small machine's own order. -/
namespace Go.Am
open Go

variable {P : Program} {T : Tab} {ev : Ev} {fuel : Nat} {ops : Array Oper} {k : Nat} {μ : Mu} {H : Heap} {w : World}

def Early (μ : Mu) (H : Heap) (w w0 : World) (q : Nat) (ob : O) : Prop := ∃ b y z, μ q = some (b, y, z) ∧ ObjR μ w q ob ∧ ¬ Live μ H b ∧ w0.heap.size ≤ b ∧ b < w.heap.size

structure Inv (T : Tab) (ev : Ev) (fuel : Nat) (ops : Array Oper) (μ0 : Mu) (H0 : Heap) (w0 : World) (r : A × Heap) (σ : List Nat) (sn : List (Nat × Heap)) (a : A) (H : Heap) (s : A) (μ : Mu) (w : World) (x : Act) (L : Nat → Bool) : Prop where
  run : runDraw T ev fuel ops (Region.before ops) H0.n σ sn a H = some r
  pw : σ.Pairwise fun i j => i ≠ j ∧ ¬ Bef ops i j ∧ ∃ o, ops[j]? = some o ∧ (loud o.op = true → Bef ops j i)
  mem : ∀ i ∈ σ, i < ops.size
  out : ∀ i, i < ops.size → i ∉ σ → L i = true
  closed : ∀ i j, L i = true → Bef ops i j → L j = true
  post : Post μ0 H0 w0 μ H w
  room : H0.n + ops.size ≤ H.n
  res : ∀ i ∈ σ, H.get (H0.n + i) = none
  fresh : ∀ i, i < ops.size → L i = false → μ (H0.n + i) = none
  early : ∀ e ∈ σ, L e = true → ∃ v f ae He se, atD T ev fuel ops H0.n σ sn a H e = some (v, f, ae, He, se) ∧ ((f = .still ∧ μ (H0.n + e) = none) ∨ ∃ ob, f = .made ob ∧ Early μ H w w0 (H0.n + e) ob) ∧
    ∀ o d, ops[e]? = some o → o.dst = some d → d < a.tmps.n → s.tmps.get d = v
  dist : ∀ e e' b y z y' z', e ∈ σ → e' ∈ σ → L e = true → L e' = true → μ (H0.n + e) = some (b, y, z) → μ (H0.n + e') = some (b, y', z') → e = e'
  rel : AR μ s x
  sn : s.tmps.n = a.tmps.n
  sd : s.defers = a.defers
  env : ∀ t, (∀ e ∈ σ, L e = true → ∀ o, ops[e]? = some o → o.dst = some t → ¬ t < a.tmps.n) → s.tmps.get t = a.tmps.get t

variable {μ0 : Mu} {H0 : Heap} {w0 : World} {r : A × Heap} {σ σs : List Nat} {sn : List (Nat × Heap)} {a s : A} {x : Act} {L : Nat → Bool}

theorem Inv.nodup (h : Inv T ev fuel ops μ0 H0 w0 r σ sn a H s μ w x L) : σ.Nodup := h.pw.imp fun h => h.1

/-- The temporaries that an operation looks at hold what they hold in the small machine's own order. -/
theorem Inv.looks (hst : Static ops σs) (h : Inv T ev fuel ops μ0 H0 w0 r σ sn a H s μ w x L) {i : Nat} {v : V} {f : Eff} {ai : A} {Hi : Heap} {si : List (Nat × Heap)} (hi : L i = false) (hanc : ∀ j, Bef ops i j → L j = true)
    (hat : atD T ev fuel ops H0.n σ sn a H i = some (v, f, ai, Hi, si)) {o : Oper} (ho : ops[i]? = some o) : ∀ t, t ∈ looks ops o → s.tmps.get t = ai.tmps.get t := by
  intro t ht
  obtain ⟨pre, post, sp⟩ := at_split hst.dsts h.nodup hat
  have hpw := h.pw
  rw [sp.eq, List.pairwise_append, List.pairwise_cons] at hpw
  obtain ⟨_, ⟨hpost, _⟩, hpre⟩ := hpw
  by_cases hw : ∃ p ∈ pre, ∃ op, ops[p]? = some op ∧ op.dst = some t ∧ t < a.tmps.n
  · obtain ⟨p, hp, op, hop, hd, htn⟩ := hw
    obtain ⟨hne, hb, _⟩ := hpre p hp i (by simp)
    by_cases hbi : Bef ops i p
    · have hL := hanc p hbi
      obtain ⟨vp, fp, ap, Hp, sp', hatp, _, hget⟩ := h.early p (by rw [sp.eq]; exact List.mem_append_left _ hp) hL
      obtain ⟨vp', fp', ap', Hp', sp'', hatp', hai⟩ := sp.env2 p hp op t hop hd htn
      rw [hatp] at hatp'
      cases hatp'
      rw [hget op t hop hd htn, hai]
    · exact absurd ht (hst.off hne hop ho hb hbi hd)
  · rw [sp.env t fun p hp op hop hd htn => hw ⟨p, hp, op, hop, hd, htn⟩]
    refine h.env t fun e he hLe oe hoe hd htn => ?_
    rw [sp.eq] at he
    rcases List.mem_append.1 he with he | he
    · exact hw ⟨e, he, oe, hoe, hd, htn⟩
    · rcases List.mem_cons.1 he with rfl | he
      · rw [hi] at hLe; cases hLe
      · obtain ⟨hne, hb, _⟩ := hpost e he
        have hb2 : ¬ Bef ops e i := fun hb2 => by rw [h.closed e i hLe hb2] at hi; cases hi
        exact absurd ht (hst.off (Ne.symm hne) hoe ho hb2 hb hd)

theorem at_next {i : Nat} {rest : List Nat} {o : Oper} {v : V} {f : Eff} (ho : ops[i]? = some o) (hs : stepD T ev fuel ops k i o sn a H = some (v, f)) {e : Nat} (he : e ≠ i) :
    atD T ev fuel ops k (i :: rest) sn a H e = atD T ev fuel ops k rest (nextS i H sn f) (a.put o.dst v) (nextH k i H f) e := by
  rw [at_cons ho hs, if_neg (Ne.symm he)]

/-- The head of the order has been taken ahead: the small machine takes its step. -/
theorem Inv.join {p : Nat} {rest : List Nat} (h : Inv T ev fuel ops μ0 H0 w0 r (p :: rest) sn a H s μ w x L) (hL : L p = true) :
    ∃ sn' a' H', Inv T ev fuel ops μ0 H0 w0 r rest sn' a' H' s μ w x L := by
  obtain ⟨o, v, f, ho, hs, hrun⟩ := runDraw_cons h.run
  obtain ⟨v1, f1, a1, H1, s1, hat, hkind, hget⟩ := h.early p (by simp) hL
  rw [at_cons ho hs, if_pos rfl] at hat
  simp only [Option.some.injEq, Prod.mk.injEq] at hat
  obtain ⟨rfl, rfl, rfl, rfl, rfl⟩ := hat
  have hpw := h.pw
  rw [List.pairwise_cons] at hpw
  have hne : ∀ e ∈ rest, e ≠ p := fun e he heq => (hpw.1 e he).1 heq.symm
  have hps : H0.n + p < H.n := by have := h.mem p (by simp); have := h.room; omega
  refine ⟨nextS p H sn f, a.put o.dst v, nextH H0.n p H f, hrun, hpw.2, fun i hi => h.mem i (List.mem_cons_of_mem _ hi), ?_, h.closed, ?_, ?_, ?_, h.fresh, ?_, ?_, h.rel, ?_, ?_, ?_⟩
  · intro i hi hn
    by_cases hip : i = p
    · subst hip; exact hL
    · exact h.out i hi (by simp [hip, hn])
  · rcases hkind with ⟨rfl, _⟩ | ⟨ob, rfl, b, y, z, h1, h2, h3, h4, h5⟩
    · exact h.post
    · exact h.post.join hps h1 h2 h3 (by omega) h4
  · rcases hkind with ⟨rfl, _⟩ | ⟨ob, rfl, _⟩
    · exact h.room
    · simpa [nextH] using h.room
  · intro i hi
    rcases hkind with ⟨rfl, _⟩ | ⟨ob, rfl, _⟩
    · exact h.res i (List.mem_cons_of_mem _ hi)
    · simp only [nextH]
      rw [Heap.get_put hps, if_neg (by have := hne i hi; omega)]
      exact h.res i (List.mem_cons_of_mem _ hi)
  · intro e he hLe
    obtain ⟨v1, f1, a1, H1, s1, e1, e2, e3⟩ := h.early e (List.mem_cons_of_mem _ he) hLe
    rw [at_next ho hs (hne e he)] at e1
    refine ⟨v1, f1, a1, H1, s1, e1, ?_, by simpa using e3⟩
    refine e2.imp id ?_
    rintro ⟨ob, rfl, b, y, z, h1, h2, h3, h4, h5⟩
    refine ⟨ob, rfl, b, y, z, h1, h2, ?_, h4, h5⟩
    rcases hkind with ⟨rfl, _⟩ | ⟨ob', rfl, b', y', z', g1, g2, g3, g4, g5⟩
    · exact h3
    · rintro ⟨l, o', x1, y1, m1, m2, m3⟩
      simp only [nextH] at m1
      rw [Heap.get_put hps] at m1
      split at m1
      · rename_i el; subst el
        rw [g1] at m3; cases m3
        exact hne e he (h.dist e p _ _ _ _ _ (List.mem_cons_of_mem _ he) (by simp) hLe hL h1 g1)
      · exact h3 ⟨l, o', x1, y1, m1, m2, m3⟩
  · intro e e' b y z y' z' he he'
    exact h.dist e e' b y z y' z' (List.mem_cons_of_mem _ he) (List.mem_cons_of_mem _ he')
  · rw [put_n]; exact h.sn
  · rw [put_defers]; exact h.sd
  · intro t ht
    rw [put_get]
    split
    · rename_i hc
      exact hget o t ho hc.1 hc.2
    · rename_i hc
      refine h.env t fun e he hLe oe hoe hd htn => ?_
      rcases List.mem_cons.1 he with rfl | he
      · rw [ho] at hoe; cases hoe; exact hc ⟨hd, htn⟩
      · exact ht e he hLe oe hoe hd (by rw [put_n]; exact htn)

theorem Inv.settle : ∀ {σ : List Nat} {sn : List (Nat × Heap)} {a : A} {H : Heap}, Inv T ev fuel ops μ0 H0 w0 r σ sn a H s μ w x L →
    ∃ σ' sn' a' H', Inv T ev fuel ops μ0 H0 w0 r σ' sn' a' H' s μ w x L ∧ ∀ p rest, σ' = p :: rest → L p = false
  | [], sn, a, H, h => ⟨[], sn, a, H, h, fun _ _ e => by cases e⟩
  | p :: rest, sn, a, H, h => by
    cases hL : L p with
    | false => exact ⟨p :: rest, sn, a, H, h, fun _ _ e => by cases e; exact hL⟩
    | true =>
      obtain ⟨sn', a', H', h'⟩ := h.join hL
      exact Inv.settle h'

/-- One more is taken, out of turn. -/
def also (L : Nat → Bool) (i : Nat) : Nat → Bool := fun j => if j = i then true else L j

theorem Inv.take (h : Inv T ev fuel ops μ0 H0 w0 r σ sn a H s μ w x L) {i : Nat} {o : Oper} {v : V} {u : Value} {f : Eff} {ai : A} {Hi : Heap} {si : List (Nat × Heap)} (hi : L i = false) (him : i ∈ σ) (hanc : ∀ j, Bef ops i j → L j = true)
    (ho : ops[i]? = some o) (hat : atD T ev fuel ops H0.n σ sn a H i = some (v, f, ai, Hi, si)) {μ' : Mu} {w' : World} (hd : ∀ (i j : Nat) (x y : Oper) (d : Tmp), i ≠ j → ops[i]? = some x → ops[j]? = some y → x.dst = some d → y.dst ≠ some d)
    (hpost : Post μ0 H0 w0 μ' H w') (hext : ∀ l y, μ l = some y → μ' l = some y) (hv : RV μ' v u)
    (hsame : ∀ j, j < ops.size → j ≠ i → μ' (H0.n + j) = μ (H0.n + j))
    (hearly : ∀ q ob, Early μ H w w0 q ob → Early μ' H w' w0 q ob)
    (hnew : (f = .still ∧ μ' (H0.n + i) = none) ∨ ∃ ob, f = .made ob ∧ Early μ' H w' w0 (H0.n + i) ob ∧ ∀ b y z, μ' (H0.n + i) = some (b, y, z) → w.heap.size ≤ b)
    (hlow : ∀ e b y z, e ∈ σ → L e = true → μ (H0.n + e) = some (b, y, z) → b < w.heap.size) :
    Inv T ev fuel ops μ0 H0 w0 r σ sn a H (s.put o.dst v) μ' w' (x.put o.dst u) (also L i) := by
  have hL : ∀ j, also L i j = true → j = i ∨ L j = true := fun j hj => by
    unfold also at hj
    split at hj
    · rename_i e; exact .inl e
    · exact .inr hj
  have hL' : ∀ j, L j = true → also L i j = true := fun j hj => by
    unfold also
    split
    · rfl
    · exact hj
  refine ⟨h.run, h.pw, h.mem, fun j hj hn => hL' j (h.out j hj hn), ?_, hpost, h.room, h.res, ?_, ?_, ?_, (h.rel.mono hext).put hv _, by rw [put_n]; exact h.sn, by rw [put_defers]; exact h.sd, ?_⟩
  · intro j l hj hb
    rcases hL j hj with rfl | hj
    · exact hL' l (hanc l hb)
    · exact hL' l (h.closed j l hj hb)
  · intro j hj hf
    have hji : j ≠ i := fun e => by unfold also at hf; rw [if_pos e] at hf; cases hf
    rw [hsame j hj hji]
    refine h.fresh j hj ?_
    unfold also at hf; rw [if_neg hji] at hf; exact hf
  · intro e he hLe
    rcases hL e hLe with rfl | hLe'
    · refine ⟨v, f, ai, Hi, si, hat, ?_, ?_⟩
      · rcases hnew with h1 | ⟨ob, h1, h2, _⟩
        · exact .inl h1
        · exact .inr ⟨ob, h1, h2⟩
      · intro o' d ho' hdd hdn
        rw [ho] at ho'; cases ho'
        rw [put_get, if_pos ⟨hdd, by rw [h.sn]; exact hdn⟩]
    · by_cases hei : e = i
      · subst hei; rw [hi] at hLe'; cases hLe'
      · obtain ⟨v1, f1, a1, H1, s1, e1, e2, e3⟩ := h.early e he hLe'
        refine ⟨v1, f1, a1, H1, s1, e1, ?_, ?_⟩
        · rcases e2 with ⟨e2, e2'⟩ | ⟨ob, e2, e2'⟩
          · exact .inl ⟨e2, by rw [hsame e (h.mem e he) hei]; exact e2'⟩
          · exact .inr ⟨ob, e2, hearly _ _ e2'⟩
        · intro o' d ho' hdd hdn
          rw [put_get, if_neg (fun hc => hd i e o o' d (Ne.symm hei) ho ho' hc.1 hdd)]
          exact e3 o' d ho' hdd hdn
  · have clash : ∀ e b y z y' z', e ∈ σ → L e = true → e ≠ i → μ' (H0.n + i) = some (b, y, z) → μ' (H0.n + e) = some (b, y', z') → False := by
      intro e b y z y' z' he hLe hei h1 h2
      rw [hsame e (h.mem e he) hei] at h2
      have := hlow e b y' z' he hLe h2
      rcases hnew with ⟨_, h3⟩ | ⟨ob, _, _, h3⟩
      · rw [h3] at h1; cases h1
      · have := h3 b y z h1; omega
    intro e e' b y z y' z' he he' hLe hLe' h1 h2
    by_cases hei : e = i
    · subst hei
      by_cases hei' : e' = e
      · exact hei'.symm
      · rcases hL e' hLe' with h3 | h3
        · exact absurd h3 hei'
        · exact (clash e' b y z y' z' he' h3 hei' h1 h2).elim
    · by_cases hei' : e' = i
      · subst hei'
        rcases hL e hLe with h3 | h3
        · exact absurd h3 hei
        · exact (clash e b y' z' y z he h3 hei h2 h1).elim
      · rcases hL e hLe with h3 | h3
        · exact absurd h3 hei
        rcases hL e' hLe' with h4 | h4
        · exact absurd h4 hei'
        rw [hsame e (h.mem e he) hei] at h1
        rw [hsame e' (h.mem e' he') hei'] at h2
        exact h.dist e e' b y z y' z' he he' h3 h4 h1 h2
  · intro t ht
    rw [put_get, if_neg (fun hc => ht i him (by unfold also; rw [if_pos rfl]) o ho hc.1 (by rw [← h.sn]; exact hc.2))]
    exact h.env t fun e he hLe => ht e he (hL' e hLe)
end Go.Am
