import Derived.Test.YtkjknmdnehknbaaAmDraw6
import Derived.Test.YtkjknmdnehknbaaAmCode4
set_option linter.unusedSimpArgs false
set_option linter.unusedVariables false
/- Regions that draw: whichever way they go. -/
namespace Go.Am
open Go

variable {P : Program} {T : Tab} {ev : Ev} {fuel : Nat} {ops : Array Oper} {k : Nat} {μ : Mu} {H : Heap} {w : World}
variable {μ0 : Mu} {H0 : Heap} {w0 : World} {r : A × Heap} {σ σs : List Nat} {sn : List (Nat × Heap)} {a s : A} {x : Act} {L : Nat → Bool}

theorem Early.post {μ' : Mu} {H' : Heap} {w' : World} (hs : Sim μ H w) (p : Post μ H w μ' H' w') {q : Nat} {ob : O} (h : Early μ H w w0 q ob) : Early μ' H' w' w0 q ob := by
  obtain ⟨b, y, z, h1, h2, h3, h4, h5⟩ := h
  refine ⟨b, y, z, p.ext hs _ _ h1, h2.mono (p.ext hs) ?_, fun hl => h3 (p.live b h5 hl), h4, Nat.lt_of_lt_of_le h5 p.size⟩
  intro b' x' y' m _
  rw [h1] at m; cases m
  exact p.kept b h5 fun ho => h3 ho.live

theorem Inv.low (h : Inv T ev fuel ops μ0 H0 w0 r σ sn a H s μ w x L) {e b y z : Nat} (he : e ∈ σ) (hL : L e = true) (hm : μ (H0.n + e) = some (b, y, z)) : b < w.heap.size := by
  obtain ⟨v, f, ae, He, se, _, hk, _⟩ := h.early e he hL
  rcases hk with ⟨_, h1⟩ | ⟨ob, _, b', y', z', h1, _, _, _, h5⟩
  · rw [h1] at hm; cases hm
  · rw [h1] at hm; cases hm; exact h5

theorem loadVar_congr {H K : Heap} {t : TypeId} {l off : Nat} (h : H.get l = K.get l) : loadVar T H t l off = loadVar T K t l off := by
  unfold loadVar cellsAt; rw [h]

/-- A reading operation, taken out of turn. -/
theorem Inv.read (hT : TabOk P T) (hst : Static ops σs) (h : Inv T ev fuel ops μ0 H0 w0 r σ sn a H s μ w x L) {i : Nat} {o : Oper} {v : V} {f : Eff} {ai : A} {Hi : Heap} {si : List (Nat × Heap)} (hi : L i = false) (hanc : ∀ j, Bef ops i j → L j = true)
    (ho : ops[i]? = some o) (hat : atD T ev fuel ops H0.n σ sn a H i = some (v, f, ai, Hi, si)) (hr : reads o.op = true) (hx : execOp T ai Hi o.op = .val v Hi) (hsd : stood T ai o v ((Region.before ops).getD i 0) si = true) :
    ∃ u, (Go.execOp x.eval o).run P w = .ok (.value u) w ∧ RV μ v u := by
  obtain ⟨pre, post, sp⟩ := at_split hst.dsts h.nodup hat
  obtain ⟨Ĥ, hH, hcase⟩ := sp.heap
  have hx' : ∃ K', execOp T ai Ĥ o.op = .val v K' := by
    rcases hcase with rfl | ⟨q, hq, hqs, vh, H', ah, Hh, sh, hath⟩
    · exact ⟨_, hx⟩
    · refine stood_spec hsd q Ĥ hqs ?_
      cases hb : ((Region.before ops).getD i 0).testBit q with
      | false => rfl
      | true =>
        obtain ⟨v1, f1, a1, H1, s1, e1, e2, _⟩ := h.early q (by rw [sp.eq]; exact List.mem_append_left _ hq) (hanc q hb)
        rw [hath] at e1
        cases e1
        rcases e2 with ⟨e2, _⟩ | ⟨ob, e2, _⟩ <;> cases e2
  obtain ⟨K', hx'⟩ := hx'
  have hlk := h.looks hst hi hanc hat ho
  rw [← exec_congr (looks_eval hlk)] at hx'
  unfold reads at hr
  split at hr
  · rename_i t y hop
    have hex : Go.execOp x.eval o = (do pure (.value (← Instr.loadAt t (x.eval y))) : Sem Next) := by unfold Go.execOp; rw [hop]
    rw [hop] at hx'
    simp only [Am.execOp] at hx'
    obtain ⟨p, h1, e0⟩ := op1_inv hx' (by simp)
    split at e0
    · rename_i l off
      obtain ⟨hl, _⟩ := OR.ofV_val e0
      have hp := h.rel.eval h1
      generalize hq : x.eval y = q at hp
      cases hp with
      | ptr hm =>
      have key : ∃ K, Sim μ K w ∧ loadVar T K t l off = some v := by
        cases hg : Ĥ.get l with
        | none =>
          unfold loadVar cellsAt at hl
          rw [hg] at hl; cases hl
        | some ob =>
          rcases hH l ob hg with h2 | ⟨p, hpp, rfl, vp, ap, Hp, sp', hatp⟩
          · exact ⟨H, h.post.sim, by rw [loadVar_congr (h2.trans hg.symm)]; exact hl⟩
          · have hps : p ∈ σ := by rw [sp.eq]; exact List.mem_append_left _ hpp
            cases hLp : L p with
            | false =>
              rw [h.fresh p (h.mem p hps) hLp] at hm; cases hm
            | true =>
              obtain ⟨v1, f1, a1, H1, s1, e1, e2, _⟩ := h.early p hps hLp
              rw [hatp] at e1
              cases e1
              rcases e2 with ⟨e2, _⟩ | ⟨ob', e2, b', y', z', g1, g2, g3, g4, g5⟩
              · cases e2
              · cases e2
                have hlt : H0.n + p < H.n := by have := h.mem p hps; have := h.room; omega
                refine ⟨H.put (H0.n + p) ob, h.post.sim.join hlt g1 g2 g3, ?_⟩
                rw [loadVar_congr (show (H.put (H0.n + p) ob).get (H0.n + p) = Ĥ.get (H0.n + p) by rw [Heap.get_put hlt, if_pos rfl, hg])]
                exact hl
      obtain ⟨K, hs, hlK⟩ := key
      obtain ⟨u, hrun, hv⟩ := run_loadVar (P := P) hT hs hlK hm
      refine ⟨u, ?_, hv⟩
      rw [hex, hq]
      simp [Instr.loadAt, Instr.sureAddr, hrun]
    · cases e0
  · cases hr

/-- A loud operation takes its turn. -/
theorem Inv.loud {i : Nat} {rest : List Nat} (h : Inv T ev fuel ops μ0 H0 w0 r (i :: rest) sn a H s μ w x L) {o : Oper} {v : V} {u : Value} {H' : Heap} (hi : L i = false) (hanc : ∀ j, Bef ops i j → L j = true)
    (hd : ∀ (i j : Nat) (x y : Oper) (d : Tmp), i ≠ j → ops[i]? = some x → ops[j]? = some y → x.dst = some d → y.dst ≠ some d)
    (ho : ops[i]? = some o) (hs : stepD T ev fuel ops H0.n i o sn a H = some (v, .loud H')) {μ' : Mu} {w' : World} (p : Post μ H w μ' H' w') (hv : RV μ' v u) :
    Inv T ev fuel ops μ0 H0 w0 r rest ((i, H) :: sn) (a.put o.dst v) H' (s.put o.dst v) μ' w' (x.put o.dst u) (also L i) := by
  obtain ⟨o', v', f', ho', hs', hrun⟩ := runDraw_cons h.run
  rw [ho] at ho'; cases ho'
  rw [hs] at hs'; cases hs'
  have hpw := h.pw
  rw [List.pairwise_cons] at hpw
  have hne : ∀ e ∈ rest, e ≠ i := fun e he heq => (hpw.1 e he).1 heq.symm
  have hL : ∀ j, also L i j = true → j = i ∨ L j = true := fun j hj => by
    unfold also at hj
    split at hj
    · rename_i e; exact .inl e
    · exact .inr hj
  have hL' : ∀ j, L j = true → also L i j = true := fun j hj => by
    unfold also
    split
    · rfl
    · exact hj
  have hag : ∀ j, j < ops.size → μ' (H0.n + j) = μ (H0.n + j) := fun j hj => p.agree _ (by have := h.room; omega)
  have hLr : ∀ e ∈ rest, also L i e = true → L e = true := fun e he hLe => (hL e hLe).resolve_left (hne e he)
  refine ⟨hrun, hpw.2, fun j hj => h.mem j (List.mem_cons_of_mem _ hj), ?_, ?_, h.post.trans p, Nat.le_trans h.room p.n, ?_, ?_, ?_, ?_, (h.rel.mono (p.ext h.post.sim)).put hv _, by rw [put_n, put_n]; exact h.sn, by rw [put_defers, put_defers]; exact h.sd, ?_⟩
  · intro j hj hn
    by_cases hji : j = i
    · subst hji; unfold also; rw [if_pos rfl]
    · exact hL' j (h.out j hj (by simp [hji, hn]))
  · intro j l hj hb
    rcases hL j hj with rfl | hj
    · exact hL' l (hanc l hb)
    · exact hL' l (h.closed j l hj hb)
  · intro j hj
    exact p.hole _ (by have := h.room; have := h.mem j (List.mem_cons_of_mem _ hj); omega) (h.res j (List.mem_cons_of_mem _ hj))
  · intro j hj hf
    rw [hag j hj]
    refine h.fresh j hj ?_
    unfold also at hf
    split at hf
    · cases hf
    · exact hf
  · intro e he hLe
    obtain ⟨v1, f1, a1, H1, s1, e1, e2, e3⟩ := h.early e (List.mem_cons_of_mem _ he) (hLr e he hLe)
    rw [at_next ho hs (hne e he)] at e1
    refine ⟨v1, f1, a1, H1, s1, e1, ?_, ?_⟩
    · rcases e2 with ⟨e2, e2'⟩ | ⟨ob, e2, e2'⟩
      · exact .inl ⟨e2, by rw [hag e (h.mem e (List.mem_cons_of_mem _ he))]; exact e2'⟩
      · exact .inr ⟨ob, e2, e2'.post h.post.sim p⟩
    · intro oe d hoe hdd hdn
      rw [put_get, if_neg (fun hc => hd i e o oe d (Ne.symm (hne e he)) ho hoe hc.1 hdd)]
      exact e3 oe d hoe hdd (by simpa using hdn)
  · intro e e' b y z y' z' he he' hLe hLe' h1 h2
    rw [hag e (h.mem e (List.mem_cons_of_mem _ he))] at h1
    rw [hag e' (h.mem e' (List.mem_cons_of_mem _ he'))] at h2
    exact h.dist e e' b y z y' z' (List.mem_cons_of_mem _ he) (List.mem_cons_of_mem _ he') (hLr e he hLe) (hLr e' he' hLe') h1 h2
  · intro t ht
    rw [put_get, put_get, h.sn]
    by_cases hc : o.dst = some t ∧ t < a.tmps.n
    · rw [if_pos hc, if_pos hc]
    · rw [if_neg hc, if_neg hc]
      refine h.env t fun e he hLe oe hoe hdd htn => ?_
      rcases List.mem_cons.1 he with rfl | he
      · rw [hi] at hLe; cases hLe
      · exact ht e he (hL' e hLe) oe hoe hdd (by rw [put_n]; exact htn)

/-- What the machine may go on from. -/
def Ready (T : Tab) (ev : Ev) (fuel : Nat) (ops : Array Oper) (μ0 : Mu) (H0 : Heap) (w0 : World) (r : A × Heap) (L : Nat → Bool) (x : Act) (w : World) : Prop :=
  ∃ σ sn a H s μ, Inv T ev fuel ops μ0 H0 w0 r σ sn a H s μ w x L ∧ ∀ p rest, σ = p :: rest → L p = false

/-- One operation, whichever is ready. -/
theorem ready_op (hT : TabOk P T) (hcall : CallOk P T (calls T ev fuel)) (hround : RoundOk P (round ev)) (hst : Static ops σs) {rd : Option Nat} {Q : Exit → Act → World → Prop} {K : Act → World → Prop}
    (h : Ready T ev fuel ops μ0 H0 w0 r L x w) {i : Nat} (hi : L i = false) (his : i < ops.size) (hanc : ∀ j, Bef ops i j → L j = true)
    (hK : ∀ x' w', Ready T ev fuel ops μ0 H0 w0 r (also L i) x' w' → K x' w') : wpOpIn (FW rd) 0 P ops Q i K x w := by
  obtain ⟨σ, sn, a, H, s, μ, h, hhead⟩ := h
  have him : i ∈ σ := by
    refine Classical.byContradiction fun hn => ?_
    rw [h.out i his hn] at hi; cases hi
  obtain ⟨⟨v, f, ai, Hi, si⟩, hat⟩ := at_some h.run him
  obtain ⟨pre, post, sp⟩ := at_split hst.dsts h.nodup hat
  obtain ⟨o, ho, hs⟩ := sp.step
  have hlk := h.looks hst hi hanc hat ho
  have hw1 := wanted_eq ops h.rel o
  have hw2 := wanted_congr hlk
  have hxc : ∀ K, execOp T s K o.op = execOp T ai K o.op := fun K => exec_congr (looks_eval hlk)
  unfold wpOpIn
  rw [ho]
  dsimp only
  have settle : ∀ {σ : List Nat} {sn : List (Nat × Heap)} {a : A} {H : Heap} {s : A} {μ : Mu} {w : World} {x : Act}, Inv T ev fuel ops μ0 H0 w0 r σ sn a H s μ w x (also L i) → K x w := by
    intro σ sn a H s μ w x h
    obtain ⟨σ', sn', a', H', h', hh'⟩ := h.settle
    exact hK _ _ ⟨σ', sn', a', H', s, μ, h', hh'⟩
  have hfi := h.fresh i his hi
  have hqi : H0.n + i < H.n := by have := h.room; omega
  -- taken out of turn, no object made
  have still : ∀ {u : Value} {μ' : Mu} {w' : World}, f = .still → Post μ H w μ' H w' → RV μ' v u → K (x.put o.dst u) w' := by
    intro u μ' w' hf p hv
    refine settle (h.take hi him hanc ho hat hst.dsts (h.post.trans p) (p.ext h.post.sim) hv (fun j hj _ => p.agree _ (by have := h.room; omega)) (fun q ob he => he.post h.post.sim p)
      (.inl ⟨hf, by rw [p.agree _ hqi]; exact hfi⟩) fun e b y z he hL hm => h.low he hL hm)
  -- a loud one stands at the head
  have head : loud o.op = true → ∃ rest, σ = i :: rest ∧ ai = a ∧ Hi = H ∧ si = sn := by
    intro hl
    have hpre : pre = [] := by
      cases hp : pre with
      | nil => rfl
      | cons p ps =>
        have hpw := h.pw
        rw [sp.eq, List.pairwise_append] at hpw
        obtain ⟨_, _, o', ho', hb⟩ := hpw.2.2 p (by rw [hp]; simp) i (by simp)
        rw [ho] at ho'; cases ho'
        have h1 := hanc p (hb hl)
        have h2 := hhead p (ps ++ i :: post) (by rw [sp.eq, hp]; rfl)
        rw [h1] at h2; cases h2
    have he : σ = i :: post := by have := sp.eq; rw [hpre] at this; exact this
    subst he
    obtain ⟨o1, v1, f1, ho1, hs1⟩ := at_inv hat
    rw [at_cons ho1 hs1] at hat
    simp only [if_true, Option.some.injEq, Prod.mk.injEq] at hat
    obtain ⟨_, _, rfl, rfl, rfl⟩ := hat
    exact ⟨post, rfl, rfl, rfl, rfl⟩
  have after : ∀ {H' : Heap} {u : Value} {μ' : Mu} {w' : World}, loud o.op = true → f = .loud H' → Post μ Hi w μ' H' w' → RV μ' v u → K (x.put o.dst u) w' := by
    intro H' u μ' w' hl hf p hv
    obtain ⟨rest, rfl, rfl, rfl, rfl⟩ := head hl
    subst hf
    exact settle (h.loud hi hanc hst.dsts ho hs p hv)
  have hnd : ∀ {q : OR}, execOp T s H o.op = q → (∀ d, q ≠ .defer d) → q ≠ .stuck → ∀ c, o.op ≠ .defer c := by
    intro q hq h1 h2 c hc
    rw [hc] at hq
    rcases defer_kind hq with h | ⟨d, h⟩
    · exact h2 h
    · exact h1 d h
  cases step_kind hs with
  | off hw =>
    rw [if_neg (by rw [hw1, hw2, hw]; simp)]
    exact ⟨fun _ _ => trivial, still rfl (.refl h.post.sim) (.undef μ)⟩
  | still hw hx =>
    rw [if_pos (by rw [hw1, hw2, hw])]
    refine ⟨fun _ _ => trivial, ?_⟩
    have hxs := (hxc H).trans (hx H)
    rw [semAt_eq (hnd hxs (by simp) (by simp))]
    obtain ⟨u, w1, μ1, h1, h2, h3⟩ := exec_made (P := P) hT h.post.sim h.rel hxs
    rcases h1 with h1 | ⟨h1, rfl⟩
    · rw [h1]; exact still rfl h3 h2
    · rw [h1]; exact still rfl h3 h2
  | made hw hf hob hx =>
    rename_i fv ob
    rw [if_pos (by rw [hw1, hw2, hw])]
    refine ⟨fun _ _ => trivial, ?_⟩
    have hxs := (hxc H).trans (hx H)
    rw [semAt_eq (hnd hxs (by simp) (by simp))]
    obtain ⟨u, w1, X, hrun, hv, hobj, hge, hlt, hkeep, hsz, o1, o2, o3⟩ := placed (P := P) (q := H0.n + i) hT h.post.sim h.rel hf hob (fun K => (hxc K).trans (hx K)) hfi
    have hg := h.res i him
    have hext : ∀ l y, μ l = some y → upd μ (H0.n + i) X l = some y := fun l y e => by
      rw [upd_other _ (fun h => by rw [h, hfi] at e; cases e)]; exact e
    have hlive : ∀ b, Live (upd μ (H0.n + i) X) H b → Live μ H b := by
      rintro b ⟨l, o', x1, y1, m1, m2, m3⟩
      refine ⟨l, o', x1, y1, m1, m2, ?_⟩
      rw [upd_other _ (fun e => by rw [e, hg] at m1; cases m1)] at m3
      exact m3
    have hlt' : ∀ b, Live μ H b → b < w.heap.size := by
      rintro b ⟨l, o', x1, y1, m1, m2, m3⟩
      obtain ⟨b', x', y', m', hlt⟩ := (h.post.sim.obj l o' m1).block m2
      rw [m3] at m'; cases m'; exact hlt
    have hnew := settle (h.take (u := u) hi him hanc ho hat hst.dsts (h.post.place hfi hqi hg (by omega) hkeep hsz o1 o2 o3) hext hv (fun j hj hji => upd_other _ (by omega))
      (fun q ob' ⟨b, y, z, e1, e2, e3, e4, e5⟩ => ⟨b, y, z, hext _ _ e1, e2.mono hext fun b' x' y' m _ => by rw [e1] at m; cases m; exact hkeep b e5, fun hl => e3 (hlive b hl), e4, Nat.lt_of_lt_of_le e5 hsz⟩)
      (.inr ⟨ob, rfl, ⟨X.1, X.2.1, X.2.2, upd_same _ _ _, hobj, fun hl => by have := hlt' _ (hlive _ hl); omega, Nat.le_trans h.post.size hge, hlt⟩, fun b y z hm => by rw [upd_same] at hm; cases hm; exact hge⟩)
      fun e b y z he hL hm => h.low he hL hm)
    rcases hrun with hrun | ⟨hrun, rfl⟩
    · rw [hrun]; exact hnew
    · rw [hrun]; exact hnew
  | read hw hr hx hsd =>
    rw [if_pos (by rw [hw1, hw2, hw])]
    refine ⟨fun _ _ => trivial, ?_⟩
    obtain ⟨u, hrun, hv⟩ := h.read (P := P) hT hst hi hanc ho hat hr hx hsd
    rw [semAt_eq (fun c hc => by rw [hc] at hr; simp [reads] at hr), hrun]
    exact still rfl (.refl h.post.sim) hv
  | val hw hl hx =>
    rw [if_pos (by rw [hw1, hw2, hw])]
    refine ⟨fun _ _ => trivial, ?_⟩
    obtain ⟨rest, _, _, rfl, _⟩ := head hl
    have hxs := (hxc _).trans hx
    rw [semAt_eq (hnd hxs (by simp) (by simp))]
    obtain ⟨u, w1, μ1, h1, h2, h3⟩ := exec_made (P := P) hT h.post.sim h.rel hxs
    rcases h1 with h1 | ⟨h1, rfl⟩
    · rw [h1]; exact after hl rfl h3 h2
    · rw [h1]; exact after hl rfl h3 h2
  | call hw hl hx hc =>
    rename_i H' g args
    rw [if_pos (by rw [hw1, hw2, hw])]
    refine ⟨fun _ _ => trivial, ?_⟩
    obtain ⟨rest, _, _, rfl, _⟩ := head hl
    have hxs := (hxc _).trans hx
    rw [semAt_eq (hnd hxs (by simp) (by simp))]
    obtain ⟨c, hc', hco⟩ := exec_is_call hxs
    obtain ⟨us, hus, hrun⟩ := callOp_call (P := P) hT h.post.sim h.rel hc' hco
    rcases (hcall g args _ (by rw [hc]; simp) μ w us h.post.sim hus).1 with ⟨hci, hcf⟩ | ⟨u, w1, hcf, hp⟩
    case inr =>
      rw [hrun, hcf]
      rw [hc] at hp
      obtain ⟨μ1, hv, hpost⟩ := hp
      exact after hl rfl hpost hv
    rw [hrun, hcf]
    refine ⟨fun hh => by simp [FW] at hh, ?_⟩
    refine (callsIn_fw hci).mono ?_
    intro en w1 hp
    rw [hc] at hp
    cases en with
    | returned u =>
      obtain ⟨μ1, hv, hpost⟩ := hp
      exact after hl rfl hpost hv
    | panicked ch => exact hp.elim
    | outgrown => exact hp.elim
  | round hw hl hx hc =>
    rename_i H' l args
    rw [if_pos (by rw [hw1, hw2, hw])]
    refine ⟨fun _ _ => trivial, ?_⟩
    obtain ⟨rest, _, _, rfl, _⟩ := head hl
    have hxs := (hxc _).trans hx
    rw [semAt_eq (hnd hxs (by simp) (by simp))]
    obtain ⟨c, hc', hco⟩ := exec_is_round hxs
    obtain ⟨us, b, y, z, hus, hm, hrun⟩ := callOp_round (P := P) hT h.post.sim h.rel hc' hco
    obtain ⟨fn, tmps, assign, body, hy, hri⟩ := hround l args _ (by rw [hc]; simp) μ w us b y z h.post.sim hus hm
    rw [hrun, hy]
    refine ⟨fun hh => by simp [FW] at hh, ?_⟩
    refine (roundIn_fw hri).mono ?_
    intro en w1 hp
    rw [hc] at hp
    cases en with
    | returned u =>
      obtain ⟨μ1, hv, hpost⟩ := hp
      exact after hl rfl hpost hv
    | panicked ch => exact hp.elim
    | outgrown => exact hp.elim

/-! ### All of them -/
def lst (listed : Array Bool) : Nat → Bool := fun i => listed.getD i false

theorem lst_set {listed : Array Bool} {i : Nat} (hi : i < listed.size) : lst (listed.setIfInBounds i true) = also (lst listed) i := by
  funext j
  show (listed.setIfInBounds i true).getD j false = if j = i then true else listed.getD j false
  rw [Array.getD_eq_getD_getElem?, Array.getElem?_setIfInBounds, Array.getD_eq_getD_getElem?]
  by_cases e : i = j
  · subst e; simp [hi]
  · rw [if_neg e, if_neg (Ne.symm e)]

def left (L : Nat → Bool) (n : Nat) : Nat := (List.range n).countP fun i => !L i

theorem left_also {L : Nat → Bool} {i n : Nat} (hi : i < n) (hL : L i = false) : left (also L i) n < left L n := by
  unfold left
  have key : ∀ l : List Nat, l.countP (fun j => !also L i j) ≤ l.countP (fun j => !L j) ∧ (i ∈ l → l.countP (fun j => !also L i j) < l.countP (fun j => !L j)) := by
    intro l
    induction l with
    | nil => simp
    | cons j l ih =>
      simp only [List.countP_cons]
      by_cases e : j = i
      · subst e
        have h1 : also L j j = true := by simp [also]
        simp only [h1, hL]
        constructor
        · simp; omega
        · intro _; simp; omega
      · have h1 : also L i j = L j := by simp [also, e]
        simp only [h1]
        refine ⟨by omega, fun hm => ?_⟩
        have := ih.2 ((List.mem_cons.1 hm).resolve_left (Ne.symm e))
        omega
  exact (key (List.range n)).2 (by simpa using hi)

theorem ready_all (hT : TabOk P T) (hcall : CallOk P T (calls T ev fuel)) (hround : RoundOk P (round ev)) (hst : Static ops σs) {rd : Option Nat} {Q : Exit → Act → World → Prop}
    (hQ : ∀ μ' w' x', Post μ0 H0 w0 μ' r.2 w' → AR μ' r.1 x' → Q .normal x' w') :
    ∀ (n : Nat) (listed : Array Bool) (x : Act) (w : World), listed.size = ops.size → left (lst listed) ops.size ≤ n → Ready T ev fuel ops μ0 H0 w0 r (lst listed) x w →
      wpAnyIn (FW rd) 0 P .any ops Q n listed x w := by
  have done : ∀ (listed : Array Bool) (x : Act) (w : World), Ready T ev fuel ops μ0 H0 w0 r (lst listed) x w → (∀ i, i < ops.size → lst listed i = true) → Q .normal x w := by
    intro listed x w h hall
    obtain ⟨σ, sn, a, H, s, μ, h, hhead⟩ := h
    cases σ with
    | cons p rest =>
      have h1 := hhead p rest rfl
      rw [hall p (h.mem p (by simp))] at h1; cases h1
    | nil =>
      have hrun := h.run
      simp only [runDraw, Option.some.injEq] at hrun
      have hp := h.post
      refine hQ μ w x (by rw [← hrun]; exact hp) ?_
      rw [← hrun]
      refine ⟨⟨by rw [h.rel.tmps.size, h.sn], fun t => ?_⟩, by rw [← h.sd]; exact h.rel.defers⟩
      have := h.rel.tmps.get t
      rw [h.env t fun e he => by simp at he] at this
      exact this
  have none_ready : ∀ (listed : Array Bool), listed.size = ops.size → Region.ready .any ops listed = [] → ∀ i, i < ops.size → lst listed i = true := by
    intro listed hsz hr i
    induction i using Nat.strongRecOn with
    | _ i ih =>
      intro hi
      cases hl : lst listed i with
      | true => rfl
      | false =>
        have : i ∈ Region.ready .any ops listed := by
          rw [mem_ready]
          refine ⟨?_, ops[i], by simp [hi], fun e he hb => ih e.on (hst.back i ops[i] (by simp [hi]) e he hb) ?_⟩
          · unfold lst at hl
            rw [Array.getD_eq_getD_getElem?] at hl ⊢
            rw [Array.getElem?_eq_getElem (by omega)] at hl ⊢
            exact hl
          · have := hst.back i ops[i] (by simp [hi]) e he hb; omega
        rw [hr] at this; simp at this
  intro n
  induction n with
  | zero =>
    intro listed x w hsz hn h
    have hall : ∀ i, i < ops.size → lst listed i = true := by
      intro i hi
      cases hl : lst listed i with
      | true => rfl
      | false => have := left_also hi hl; omega
    refine ⟨?_, done listed x w h hall⟩
    rw [List.eq_nil_iff_forall_not_mem]
    intro j hj
    rw [mem_ready] at hj
    obtain ⟨h1, o, ho, _⟩ := hj
    have hjs : j < ops.size := by
      rcases Nat.lt_or_ge j ops.size with h' | h'
      · exact h'
      · rw [Array.getElem?_eq_none h'] at ho; cases ho
    have h2 := hall j hjs
    unfold lst at h2
    rw [Array.getD_eq_getD_getElem?] at h1 h2
    rw [Array.getElem?_eq_getElem (by omega)] at h1 h2
    simp only [Option.getD_some] at h1 h2
    rw [h1] at h2; cases h2
  | succ n ih =>
    intro listed x w hsz hn h
    refine ⟨fun hr => done listed x w h (none_ready listed hsz hr), fun i hi => ?_⟩
    rw [mem_ready] at hi
    obtain ⟨h1, o, ho, hedge⟩ := hi
    have his : i < ops.size := by
      rcases Nat.lt_or_ge i ops.size with h' | h'
      · exact h'
      · rw [Array.getElem?_eq_none h'] at ho; cases ho
    have hLi : lst listed i = false := by
      unfold lst
      rw [Array.getD_eq_getD_getElem?] at h1 ⊢
      rw [Array.getElem?_eq_getElem (by omega)] at h1 ⊢
      exact h1
    have hanc : ∀ j, Bef ops i j → lst listed j = true := by
      intro j hj
      rw [bef_iff ho (hst.back i o ho)] at hj
      obtain ⟨e, he, hb, hc⟩ := hj
      have hon := hedge e he hb
      rcases hc with rfl | hc
      · exact hon
      · obtain ⟨σ, sn, a, H, s, μ, h, _⟩ := h
        exact h.closed e.on j hon hc
    refine ready_op hT hcall hround hst h hLi his hanc fun x' w' h' => ?_
    rw [← lst_set (by omega)] at h'
    refine ih _ _ _ (by simpa using hsz) ?_ h'
    rw [lst_set (by omega)]
    have := left_also his hLi
    omega

theorem draw_ok (hmix : P.follows .mixedOrders = true) (hT : TabOk P T) (hcall : CallOk P T (calls T ev fuel)) (hround : RoundOk P (round ev)) : DrawOk P T ev fuel := by
  intro id ops a H a' H' hd hc hrun μ w x rd Q h ha hQ
  have hst := static_of hd
  apply wpIn_region_any hmix
  have hp0 := (Post.keep h hc).trans (Post.drawn (Post.keep h hc).sim (w.drawn + 1))
  have hlf : lst (Array.replicate ops.size false) = fun _ => false := by
    funext j
    unfold lst
    rw [Array.getD_eq_getD_getElem?, Array.getElem?_replicate]
    split <;> rfl
  have hkg : ∀ i, (H.keep ops.size).get (H.n + i) = none ∨ ops.size ≤ i := by
    intro i
    rcases Nat.lt_or_ge i ops.size with hi | hi
    · left
      unfold Heap.clean at hc
      simp only [List.all_eq_true, List.mem_range] at hc
      have := hc i hi
      simp only [Heap.get_eq, Heap.keep]
      rw [if_pos (by omega)]
      simpa using this
    · exact .inr hi
  refine ready_all (μ0 := μ) (H0 := H) (w0 := w) (r := (a', H')) hT hcall hround hst (fun μ' w' x' hp ha' => hQ μ' w' x' hp ha') _ _ _ _ (by simp) ?_ ⟨_, _, _, _, a, μ, ⟨hrun, hst.order, hst.mem, ?_, ?_, hp0, ?_, ?_, ?_, ?_, ?_, ha, rfl, rfl, fun _ _ => rfl⟩, ?_⟩
  · unfold left
    exact Nat.le_trans List.countP_le_length (by simp)
  · intro i hi hn; exact absurd (hst.all i hi) hn
  · intro i j hL; rw [hlf] at hL; cases hL
  · simp [Heap.keep]
  · intro i hi
    rcases hkg i with h1 | h1
    · exact h1
    · have := hst.mem i hi; omega
  · intro i hi _
    cases hm : μ (H.n + i) with
    | none => rfl
    | some q => have := h.dom _ _ hm; omega
  · intro e he hL; rw [hlf] at hL; cases hL
  · intro e e' b y z y' z' he he' hL; rw [hlf] at hL; cases hL
  · intro p rest _; rw [hlf]

/-- **WHAT THE SMALL MACHINE COMES TO, THE MODEL'S MACHINE COMES TO.** -/
theorem run_ok (hmix : P.follows .mixedOrders = true) (hT : TabOk P T) (hP : PrimOk P T) {n : Nat} {f : FuncId} {as : List V} {H : Heap} (hpf : T.prim f = none) (hne : run T n f as H ≠ .stuck) {us : List Value} (h : Sim μ H w) (hr : RVL μ as us) :
    Calls P f ⟨us⟩ w (CallPost μ H w (run T n f as H)) :=
  callsIn_wide.1 ((calls_ok hT hP (ev_ok hT hP (fun ev fuel hc hr => draw_ok hmix hT hc hr) n) f as H hne μ w us h hr).2 hpf).1
end Go.Am
