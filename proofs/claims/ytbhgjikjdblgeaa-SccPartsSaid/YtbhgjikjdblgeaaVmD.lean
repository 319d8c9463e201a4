import Derived.Test.YtbhgjikjdblgeaaVmC
set_option linter.unusedVariables false
set_option linter.unusedSimpArgs false
/- A range over a function, in depth: who hands on, and who takes. No conditions. -/
namespace Go.Am.Vm
open Go.Am
variable {T : Tab} {P P' : Nat → Prop} {H H' : Heap} {μ μ' μ0 : List Hd} {ds es cs : List D} {vs ws us : List V} {F G X F' X' : List Nat} {d : D} {v : V} {so so' : List Ob} {ob : Ob} {g : Gh} {st : St} {a : A} {k : List Fr} {Q : Qt}
theorem nodup3 {A B C : List Nat} : (A ++ (B ++ C)).Nodup ↔ A.Nodup ∧ B.Nodup ∧ C.Nodup ∧ (∀ x, x ∈ A → ¬ x ∈ B ∧ ¬ x ∈ C) ∧ ∀ x, x ∈ B → ¬ x ∈ C := by
 simp only [List.nodup_append, List.mem_append]
 constructor
 · rintro ⟨h1, ⟨h2, h3, h4⟩, h5⟩
   exact ⟨h1, h2, h3, fun x hx => ⟨fun h => h5 x hx x (.inl h) rfl, fun h => h5 x hx x (.inr h) rfl⟩, fun x hx h => h4 x hx x h rfl⟩
 · rintro ⟨h1, h2, h3, h4, h5⟩
   exact ⟨h1, ⟨h2, h3, fun x hx y hy e => h5 x hx (e ▸ hy)⟩, fun x hx y hy e => hy.elim (fun h => (h4 x hx).1 (e ▸ h)) fun h => (h4 x hx).2 (e ▸ h)⟩
abbrev Kp := (Nat → Prop) → List Nat → Heap → Prop
theorem OL.ghostInv {x : Hd} {K : Kp} (h : OL P H μ0 [x] [.ghost K] F) : x = .dead ∧ Stb K ∧ K P F H ∧ ∀ l, l ∈ F → ∃ o, H.get l = some o := by
 cases h with
 | ghost s kk e h => cases h; exact ⟨rfl, s, by simpa using kk, by simpa using e⟩
theorem set_same_hd {μ : List Hd} {k : Nat} {x : Hd} (h : μ[k]? = some x) : μ.set k x = μ := by
 apply List.ext_getElem?
 intro i
 by_cases hi : k = i
 · subst hi; rw [List.getElem?_set_self (get_lt h), h]
 · rw [List.getElem?_set_ne hi]
def Chg (P P' : Nat → Prop) (F F' : List Nat) (H H' : Heap) : Prop :=
 F'.Nodup ∧ (∀ l, l ∈ F' → ¬ P' l ∧ (l ∈ F ∨ H.n ≤ l) ∧ l < H'.n) ∧ (∀ l, l ∈ F' → ∃ o, H'.get l = some o) ∧ (∀ l, P l → P' l) ∧ (∀ l, P' l → (P l ∨ l ∈ F ∨ H.n ≤ l) ∧ ∃ o, H'.get l = some o) ∧ ExtB (fun l => l ∈ F) H H'
theorem Rl.swap (r : Rl g st a H P μ F []) {k : Nat} {K : Kp} (hk : st.so[k]? = some (.ghost K)) : ∃ Fk, K P Fk H ∧ Fk.Nodup ∧ (∀ l, l ∈ Fk → ¬ P l ∧ l < H.n) ∧
  ∀ (K1 : Kp) (H' : Heap) (P' : Nat → Prop) (F' : List Nat), Stb K1 → K1 P' F' H' → Chg P P' Fk F' H H' → ∃ F2, Rl g ⟨st.tm, st.so.set k (.ghost K1), st.n⟩ a H' P' μ F2 [] := by
 obtain ⟨x, F1, Fk, F2, hx, rfl, o1, put⟩ := r.obs.at hk
 obtain ⟨rfl, s, kk, ex⟩ := o1.ghostInv
 have nd := r.nodup
 rw [List.nil_append] at nd
 have n3 := nodup3.1 nd
 refine ⟨Fk, kk, n3.2.1, fun l hl => ⟨r.apart l (by simp [hl]), r.lt l (by simp [hl])⟩, ?_⟩
 rintro K1 H' P' F' s1 k1 ⟨nd1, q1, ex1, q3, q4, q5⟩
 have keep : ∀ l o, (P l ∨ l ∈ F1 ∨ l ∈ F2) → H.get l = some o → H'.get l = some o := fun l o hl e => q5.get l o (fun hf => by
  rcases hl with h | h | h
  · exact r.apart l (by simp [hf]) h
  · exact (n3.2.2.2.1 l h).1 hf
  · exact n3.2.2.2.2 l hf h) e
 have o2 := put P' H' .dead (.ghost K1) F' q3 (by simpa using OL.ghost (hs := []) (obs := []) (G := []) s1 k1 ex1 .nil) keep
 rw [set_same_hd hx] at o2
 have old : ∀ l, l ∈ F1 ∨ l ∈ Fk ∨ l ∈ F2 → g.B l ∨ g.H0.n ≤ l := fun l h => r.old l (by simpa using h)
 have lt : ∀ l, l ∈ F1 ∨ l ∈ Fk ∨ l ∈ F2 → l < H.n := fun l h => r.lt l (by simpa using h)
 have notP : ∀ l, l ∈ F1 ∨ l ∈ F2 → ¬ P' l := fun l h p => by
  rcases (q4 l p).1 with p | p | p
  · exact r.apart l (by simp; rcases h with h | h <;> simp [h]) p
  · rcases h with h | h
    · exact (n3.2.2.2.1 l h).1 p
    · exact n3.2.2.2.2 l p h
  · have := lt l (h.imp id .inr); omega
 refine ⟨F1 ++ (F' ++ F2), { wf := q5.wf, nt := r.nt, nd := ?_, tms := fun t => ((r.tms t).keep fun l o hl e => keep l o (hl.imp id fun h => by cases h) e).weakP q3, obs := o2, nodup := ?_, apart := ?_, old := ?_, lt := ?_, p1 := fun l p => q3 l (r.p1 l p), p2 := ?_, pl := fun l p => (q4 l p).2, ext := r.ext.trans' q5 fun l h => old l (.inr (.inl h)), gl := r.gl }⟩
 · refine r.nd.to (fun j u e _ hj => ⟨q5.get _ _ (fun h => hj (by simp [h])) e, u⟩) (fun l p => (q4 l p).1.imp id fun h => h.imp (fun h => by simp [h]) id) fun l h => ?_
   simp only [List.nil_append, List.mem_append] at h ⊢
   rcases h with h | h | h
   · exact .inl (.inl h)
   · exact (q1 l h).2.1.elim (fun h => .inl (.inr (.inl h))) .inr
   · exact .inl (.inr (.inr h))
 · rw [List.nil_append, nodup3]
   refine ⟨n3.1, nd1, n3.2.2.1, fun x hx => ⟨fun h => ?_, (n3.2.2.2.1 x hx).2⟩, fun x hx h => ?_⟩
   · rcases (q1 x h).2.1 with h | h
     · exact (n3.2.2.2.1 x hx).1 h
     · have := lt x (.inl hx); omega
   · rcases (q1 x hx).2.1 with h1 | h1
     · exact n3.2.2.2.2 x h1 h
     · have := lt x (.inr (.inr h)); omega
 · intro l h
   simp only [List.nil_append, List.mem_append] at h
   rcases h with h | h | h
   · exact notP l (.inl h)
   · exact (q1 l h).1
   · exact notP l (.inr h)
 · intro l h
   simp only [List.nil_append, List.mem_append] at h
   rcases h with h | h | h
   · exact old l (.inl h)
   · rcases (q1 l h).2.1 with h | h
     · exact old l (.inr (.inl h))
     · exact .inr (Nat.le_trans r.ext.n h)
   · exact old l (.inr (.inr h))
 · intro l h
   simp only [List.nil_append, List.mem_append] at h
   have hn := q5.n
   rcases h with h | h | h
   · have := lt l (.inl h); omega
   · exact (q1 l h).2.2
   · have := lt l (.inr (.inr h)); omega
 · intro l p
   rcases (q4 l p).1 with p | p | p
   · exact r.p2 l p
   · exact .inr (old l (.inr (.inl p)))
   · exact .inr (.inr (Nat.le_trans r.ext.n p))
/-! ### Who hands on -/
def Yl (T : Tab) (l : Nat) (x : List D) (K K1 E : Kp) : Prop :=
 ∀ (P : Nat → Prop) (H : Heap) (vs : List V) (F : List Nat), H.WF → (∀ l, P l → ∃ o, H.get l = some o) → K P F H → F.Nodup → (∀ l, l ∈ F → ¬ P l ∧ l < H.n) → RL P H [] x vs [] →
   RoundTo T l vs H fun r H' => ∃ P' F', (r = .bool true ∧ K1 P' F' H' ∨ r = .bool false ∧ E P' F' H') ∧ Chg P P' F F' H H'
def VG (T : Tab) (f : FuncId) (cells : List (List D)) (xs : List (List D)) : Prop :=
 ∀ (l : Nat) (K : Nat → Kp) (E : Kp), (∀ i, Stb (K i)) → Stb E → (∀ i x, xs[i]? = some x → Yl T l x (K i) (K (i + 1)) E) →
   VM T f (.atom (.func (.yield l) [] []) :: (List.range cells.length).map fun k => .rptr k 0) (cells.map Ob.cell ++ [.ghost (K 0)]) fun _ so' => so'[cells.length]? = some (.ghost (K xs.length)) ∨ so'[cells.length]? = some (.ghost E)
/-! ### A round, of who takes -/
def EndQ (g : Gh) (N : List Ob → Prop) (Xe : Ex → List Ob → Prop) : Qt := fun e a H => ∃ st P μ F, Rl g st a H P μ F [] ∧ match e with
 | .normal => N st.so
 | .ret => Xe .ret st.so
 | .exit id => Xe (.exit id) st.so
 | _ => False
def MidQ (T : Tab) (g : Gh) (body : Code) (N : List Ob → Prop) (Xe : Ex → List Ob → Prop) : Qt := fun e a H => match e with
 | .normal => ∃ st P μ F, Rl g st a H P μ F [] ∧ ∀ g2, Rho g2 → (∃ l, g2.ρ = some l) → SK g2 T body [] st (EndQ g2 N Xe)
 | _ => False
def RB (T : Tab) (assign body : Code) (st : St) (N : List Ob → Prop) (Xe : Ex → List Ob → Prop) : Prop := ∀ g, Rho g → (∃ l, g.ρ = some l) → SK g T assign [] st (MidQ T g body N Xe)
variable {N : List Ob → Prop} {Xe : Ex → List Ob → Prop} {body assign : Code}
def exP : Ex → Option Code
 | .ret => some .ret
 | .exit id => some (.exit id)
 | _ => none
def KS (tm : List (Nat × D)) (a : A) (l : Nat) (ex : List Nat) (C : LC) (μ0 : List Hd) (sl : LoopState) (p : Option Code) (S : List Ob → Prop) : Kp := fun P F H =>
 ∃ so μ F0, S so ∧ F = l :: (ex ++ F0) ∧ OL P H μ μ so F0 ∧ (∀ t, RL P H μ [tget tm t] [a.tmp t] []) ∧ GoesL μ0 μ ∧ H.get l = some (loopO sl p C) ∧ ∀ r, r ∈ ex → H.get r = some (.deferred (some []))
theorem KS.stb (tm : List (Nat × D)) (a : A) (l : Nat) (ex : List Nat) (C : LC) (μ0 : List Hd) (sl : LoopState) (p : Option Code) (S : List Ob → Prop) : Stb (KS tm a l ex C μ0 sl p S) := by
 rintro P P' F H H' ⟨so, μ, F0, hS, rfl, ol, tms, gl, hl, hex⟩ hp kp
 exact ⟨so, μ, F0, hS, rfl, (ol.keep fun j o hj e => kp j o (hj.imp id fun h => by simp [h]) e).weakP hp, fun t => ((tms t).keep fun j o hj e => kp j o (hj.imp id fun h => by cases h) e).weakP hp, gl, kp _ _ (.inr (by simp)) hl, fun r hr => kp _ _ (.inr (by simp [hr])) (hex r hr)⟩
def KE (tm : List (Nat × D)) (a : A) (l : Nat) (ex : List Nat) (C : LC) (μ0 : List Hd) (Xe : Ex → List Ob → Prop) : Kp := fun P F H => ∃ e p, exP e = some p ∧ KS tm a l ex C μ0 .done (some p) (Xe e) P F H
theorem KE.stb (tm : List (Nat × D)) (a : A) (l : Nat) (ex : List Nat) (C : LC) (μ0 : List Hd) (Xe : Ex → List Ob → Prop) : Stb (KE tm a l ex C μ0 Xe) := by
 rintro P P' F H H' ⟨e, p, he, h⟩ hp kp
 exact ⟨e, p, he, KS.stb _ _ _ _ _ _ _ _ _ P P' F H H' h hp kp⟩
def putAllD (st : St) : List (Tmp × D) → St
 | [] => st
 | (t, d) :: xs => putAllD (st.put (some t) d) xs
theorem Rl.putAll : ∀ {ps : List Tmp} {ds : List D} {vs : List V} {st : St} {a : A}, Rl g st a H P μ F X → RL P H μ ds vs [] → Rl g (putAllD st (ps.zip ds)) (Am.putAll a (ps.zip vs)) H P μ F X
 | [], ds, vs, st, a, r, hv => r
 | p :: ps, [], vs, st, a, r, hv => by obtain ⟨rfl, _⟩ := hv.nil_inv; exact r
 | p :: ps, d :: ds, vs, st, a, r, hv => by
   obtain ⟨v, vs', G1, G2, rfl, hF, q1, q2⟩ := hv.uncons
   have hF' := hF.symm
   rw [List.append_eq_nil_iff] at hF'
   rw [hF'.1] at q1; rw [hF'.2] at q2
   have := Rl.putAll (ps := ps) (r.putOk (some p) q1) q2
   exact this
end Go.Am.Vm

/- A range over a function, in depth: the whole of it. No conditions. -/
namespace Go.Am.Vm
open Go.Am
variable {T : Tab} {P P' : Nat → Prop} {H H' : Heap} {μ μ' μ0 : List Hd} {ds es cs : List D} {vs ws us : List V} {F G X F' X' : List Nat} {d : D} {v : V} {so so' : List Ob} {ob : Ob} {g : Gh} {st : St} {a : A} {k : List Fr} {Q : Qt}
/-! ### Variables are handed on -/
def kills (so : List Ob) (ks : List Nat) : List Ob := ks.foldl (fun so k => so.set k .dead) so
def cellsAre (so : List Ob) : List Nat → List (List D) → Prop
 | [], [] => True
 | j :: ks, cs :: cells => so[j]? = some (.cell cs) ∧ nlL cs = true ∧ cellsAre so ks cells
 | _, _ => False
end Go.Am.Vm

/- What is known of a state, said otherwise: things are forgotten; a slice in a row gets a name, and gives it up; variables are no longer written to. No conditions. -/
namespace Go.Am.Vm
open Go.Am
variable {T : Tab} {P P' : Nat → Prop} {H H' : Heap} {μ μ' μ0 : List Hd} {ds es cs : List D} {vs ws us : List V} {F G X F' X' : List Nat} {d : D} {v : V} {so so' : List Ob} {ob : Ob} {hs gs : List Hd} {obs ots : List Ob} {g : Gh} {st : St} {a : A} {kf : List Fr} {Q : Qt} {tm : List (Nat × D)} {n : Nat}
theorem set_eq_split {α : Type} {l : List α} {p : Nat} {x : α} (h : l[p]? = some x) : l = l.take p ++ x :: l.drop (p + 1) ∧ ∀ y, l.set p y = l.take p ++ y :: l.drop (p + 1) := by
 have hlt := get_lt h
 have hx : l[p] = x := by rw [List.getElem?_eq_getElem hlt] at h; exact Option.some.inj h
 have e : l = l.take p ++ x :: l.drop (p + 1) := by
  conv => lhs; rw [← List.take_append_drop p l]
  rw [List.drop_eq_getElem_cons hlt, hx]
 refine ⟨e, fun y => ?_⟩
 conv => lhs; rw [e]
 rw [List.set_append_right _ _ (by rw [List.length_take]; omega), List.length_take, Nat.min_eq_left (Nat.le_of_lt hlt), Nat.sub_self, List.set_cons_zero]
theorem RL.atF (h : RL P H μ ds vs F) {p : Nat} (hp : ds[p]? = some d) : ∃ v F1 Fv F2, F = F1 ++ (Fv ++ F2) ∧ vs[p]? = some v ∧ RL P H μ [d] [v] Fv ∧ ∀ (ν : List Hd) (d' : D) (Fv' : List Nat), GoesL μ ν → RL P H ν [d'] [v] Fv' → RL P H ν (ds.set p d') vs (F1 ++ (Fv' ++ F2)) := by
 obtain ⟨e1, e2⟩ := set_eq_split hp
 rw [e1] at h
 obtain ⟨w1, w2, F1, F2, rfl, rfl, r1, r2⟩ := h.split
 obtain ⟨v, w3, F3, F4, rfl, rfl, r3, r4⟩ := r2.uncons
 have hl := r1.len
 rw [List.length_take, Nat.min_eq_left (Nat.le_of_lt (get_lt hp))] at hl
 refine ⟨v, F1, F3, F4, rfl, by rw [List.getElem?_append_right (by omega), ← hl]; simp, r3, fun ν d' Fv' hg r5 => ?_⟩
 rw [e2]
 have := (r1.goes hg).app (r5.app (r4.goes hg))
 simpa using this
theorem flat_set {s : Nat} : ∀ {rows : List (List D)} (he : ∀ e, e ∈ rows → e.length = s) {j c : Nat} {e : List D} (hj : rows[j]? = some e) (hc : c < s), rows.flatten[j * s + c]? = e[c]? ∧ ∀ d, (rows.set j (e.set c d)).flatten = rows.flatten.set (j * s + c) d
 | [], _, _, _, _, hj, _ => by simp at hj
 | x :: rows, he, 0, c, e, hj, hc => by
   simp only [List.getElem?_cons_zero, Option.some.injEq] at hj
   subst hj
   have hx := he x (by simp)
   refine ⟨?_, fun d => ?_⟩
   · rw [Nat.zero_mul, Nat.zero_add, List.flatten_cons, List.getElem?_append_left (by omega)]
   · rw [Nat.zero_mul, Nat.zero_add, List.set_cons_zero, List.flatten_cons, List.flatten_cons, List.set_append_left _ _ (by omega)]
 | x :: rows, he, j + 1, c, e, hj, hc => by
   simp only [List.getElem?_cons_succ] at hj
   have hx := he x (by simp)
   obtain ⟨h1, h2⟩ := flat_set (fun e h => he e (by simp [h])) hj hc
   have e1 : (j + 1) * s + c = x.length + (j * s + c) := by rw [hx, Nat.add_mul]; omega
   refine ⟨?_, fun d => ?_⟩
   · rw [e1, List.flatten_cons, List.getElem?_append_right (by omega), Nat.add_sub_cancel_left, h1]
   · rw [List.set_cons_succ, List.flatten_cons, List.flatten_cons, h2, e1, List.set_append_right _ _ (by omega), Nat.add_sub_cancel_left]
theorem OL.atG {k : Nat} (h : OL P H μ0 hs obs F) (hk : obs[k]? = some ob) : ∃ x F1 Fk F2, hs[k]? = some x ∧ F = F1 ++ (Fk ++ F2) ∧ OL P H μ0 [x] [ob] Fk ∧
  ∀ (ν : List Hd) (P' : Nat → Prop) (H' : Heap) (x' : Hd) (ob' : Ob) (F' : List Nat), GoesL μ0 ν → (∀ l, P l → P' l) → OL P' H' ν [x'] [ob'] F' → (∀ l o, (P l ∨ l ∈ F1 ∨ l ∈ F2) → H.get l = some o → H'.get l = some o) → OL P' H' ν (hs.set k x') (obs.set k ob') (F1 ++ (F' ++ F2)) := by
 have hlt : k < obs.length := by
  rcases Nat.lt_or_ge k obs.length with h | h
  · exact h
  · rw [List.getElem?_eq_none h] at hk; cases hk
 have hd : obs[k] = ob := by rw [List.getElem?_eq_getElem hlt] at hk; exact Option.some.inj hk
 have e : obs = obs.take k ++ ob :: obs.drop (k + 1) := by rw [← hd]; simp
 rw [e] at h
 obtain ⟨h1, h2, F1, F2, rfl, rfl, o1, o2⟩ := h.split
 obtain ⟨x, h3, F3, F4, rfl, rfl, o3, o4⟩ := o2.uncons
 have hl := o1.len
 rw [List.length_take, Nat.min_eq_left (Nat.le_of_lt hlt)] at hl
 refine ⟨x, F1, F3, F4, by rw [List.getElem?_append_right (by omega), hl]; simp, rfl, o3, ?_⟩
 intro ν P' H' x' ob' F' hg hp o5 hk'
 have e2 : (h1 ++ x :: h3).set k x' = h1 ++ x' :: h3 := by rw [List.set_append_right _ _ (by omega), hl]; simp
 have e3 : obs.set k ob' = obs.take k ++ ob' :: obs.drop (k + 1) := by
  conv => lhs; rw [e]
  rw [List.set_append_right _ _ (by rw [List.length_take]; omega), List.length_take, Nat.min_eq_left (Nat.le_of_lt hlt)]; simp
 rw [e2, e3]
 have o1' := ((o1.keep (H' := H') fun l o hl => hk' l o (hl.imp id .inl)).weakP hp).goes hg
 have o4' := ((o4.keep (H' := H') fun l o hl => hk' l o (hl.imp id .inr)).weakP hp).goes hg
 have := o1'.app (o5.app o4')
 simpa using this
theorem le_promote {k s j c s' : Nat} {rs : List (List D)} {e : List D} {rows : List (List D)} (hk : so[k]? = some (.sl s rs)) (hj : rs[j]? = some e) (hc : e[c]? = some (.fresh s' rows)) :
  Le g ⟨tm, so, n⟩ ⟨tm, so.set k (.sl s (rs.set j (e.set c (.own so.length rows.length)))) ++ [.sl s' rows], n⟩ := by
 intro a H P μ F r
 obtain ⟨x, F1, Fk, F2, hx, rfl, o1, put⟩ := r.obs.atG hk
 rcases o1.slInv with ⟨_, rfl, _⟩ | ⟨l, q, ws, rest, F', rfl, rfl, g', r', el, u1, cq⟩
 · simp at hj
 have hcs : c < s := by have := get_lt hc; rw [el e (List.mem_of_getElem? hj)] at this; exact this
 obtain ⟨f1, f2⟩ := flat_set el hj hcs
 rw [hc] at f1
 obtain ⟨v, A, Fv, B, rfl, ev, q1, put2⟩ := r'.atF f1
 have hlen : μ.length = so.length := r.obs.len
 have key : ∃ y, (∀ ν : List Hd, OL P H ν [y] [.sl s' rows] Fv) ∧ ∀ ν : List Hd, ν[so.length]? = some y → RL P H ν [.own so.length rows.length] [v] [] := by
  rcases q1.freshInv with ⟨rfl, rfl, rfl⟩ | ⟨l2, q2, ws2, rest2, F2', rfl, rfl, h1, h2, h3, h4, h5⟩
  · exact ⟨.sl .nilSlice 0 s', fun ν => .slNil .nil, fun ν hν => RL.own1 hν fun w m z e => by cases e; exact ⟨Nat.le_refl _, fun _ => rfl⟩⟩
  · exact ⟨.sl (.slice l2 0 rows.length s' q2) rows.length s', fun ν => by simpa using OL.sl (μ0 := ν) (hs := []) (obs := []) (G := []) h1 h2.any h3 h4 h5 .nil, fun ν hν => RL.own1 hν fun w m z e => by cases e; exact ⟨Nat.le_refl _, fun _ => rfl⟩⟩
 obtain ⟨y, oy, qy⟩ := key
 have gl : GoesL μ (μ ++ [y]) := GoesL.app μ [y]
 have hy : (μ ++ [y])[so.length]? = some y := by rw [← hlen, List.getElem?_append_right (Nat.le_refl _)]; simp
 have row2 := put2 (μ ++ [y]) _ [] gl (qy _ hy)
 rw [← f2] at row2
 have el2 : ∀ e', e' ∈ rs.set j (e.set c (.own so.length rows.length)) → e'.length = s := fun e' he' => by
  rcases List.mem_or_eq_of_mem_set he' with h | rfl
  · exact el _ h
  · rw [List.length_set]; exact el e (List.mem_of_getElem? hj)
 have ok : OL P H (μ ++ [y]) [.sl (.slice l 0 rs.length s q) rs.length s] [.sl s (rs.set j (e.set c (.own so.length rows.length)))] (l :: (A ++ B)) := by
  have := OL.sl (hs := []) (obs := []) (G := []) g' row2 el2 u1 (fun m hm => by rw [List.length_set]; exact cq m hm) .nil
  rw [List.length_set] at this
  simpa using this
 have o2 := put (μ ++ [y]) P H _ _ _ gl (fun l h => h) ok fun l o _ e => e
 rw [set_same_hd hx] at o2
 have cnt : ∀ z, ([] ++ ((F1 ++ (l :: (A ++ B) ++ F2)) ++ Fv)).count z ≤ ([] ++ (F1 ++ (l :: (A ++ (Fv ++ B)) ++ F2))).count z := fun z => by simp only [List.count_append, List.count_cons, List.count_nil, List.cons_append]; omega
 exact ⟨P, μ ++ [y], (F1 ++ (l :: (A ++ B) ++ F2)) ++ Fv, { wf := r.wf, nt := r.nt, nd := r.nd.same fun j h => mem_le cnt h, tms := fun t => (r.tms t).goes gl, obs := o2.app (oy _), nodup := nodup_le r.nodup cnt, apart := fun j h => r.apart j (mem_le cnt h), old := fun j h => r.old j (mem_le cnt h), lt := fun j h => r.lt j (mem_le cnt h), p1 := r.p1, p2 := r.p2, pl := r.pl, ext := r.ext, gl := r.gl.trans gl }⟩
theorem sk_promote {c0 : Code} {k s j c s' : Nat} {rs : List (List D)} {e : List D} {rows : List (List D)} (k' : Nat) (j' c' : Nat) (hkj : k' = k ∧ j' = j ∧ c' = c) (hk : so[k]? = some (.sl s rs)) (hj : rs[j]? = some e) (hc : e[c]? = some (.fresh s' rows))
  (h : SK g T c0 kf ⟨tm, so.set k (.sl s (rs.set j (e.set c (.own so.length rows.length)))) ++ [.sl s' rows], n⟩ Q) : SK g T c0 kf ⟨tm, so, n⟩ Q := sk_le (le_promote hk hj hc) h
theorem le_demote {k s j c s' K m : Nat} {rs : List (List D)} {e : List D} {rows : List (List D)} (hk : so[k]? = some (.sl s rs)) (hj : rs[j]? = some e) (hc : e[c]? = some (.own K m)) (hK : so[K]? = some (.sl s' rows)) (hm : rows.length = m) (hn : nlR rows = true) :
  Le g ⟨tm, so, n⟩ ⟨tm, (so.set K .dead).set k (.sl s (rs.set j (e.set c (.fresh s' rows)))), n⟩ := by
 intro a H P μ F r
 have hne : K ≠ k := by
  rintro rfl
  rw [hK] at hk
  cases hk
  have := nlR_mem.1 hn e (List.mem_of_getElem? hj)
  have h2 : ∀ {l : List D} {c : Nat} {d : D}, nlL l = true → l[c]? = some d → D.nl d = true := by
   intro l
   induction l with
   | nil => intro c d _ h; simp at h
   | cons x l ih =>
     intro c d h1 h
     simp only [nlL, Bool.and_eq_true] at h1
     cases c with
     | zero => simp only [List.getElem?_cons_zero, Option.some.injEq] at h; subst h; exact h1.1
     | succ c => exact ih h1.2 (by simpa using h)
  have := h2 this hc
  simp [D.nl] at this
 obtain ⟨x, F1, Fk, F2, hx, rfl, o1, put⟩ := r.obs.atG hk
 rcases o1.slInv with ⟨_, rfl, _⟩ | ⟨l, q, ws, rest, F', rfl, rfl, g', r', el, u1, cq⟩
 · simp at hj
 have hcs : c < s := by have := get_lt hc; rw [el e (List.mem_of_getElem? hj)] at this; exact this
 obtain ⟨f1, f2⟩ := flat_set el hj hcs
 rw [hc] at f1
 obtain ⟨v, A, Fv, B, rfl, ev, q1, put2⟩ := r'.atF f1
 have hFv : Fv = [] := q1.ownInv.1
 subst hFv
 obtain ⟨μ1, G1, K1, r1, q2, g1⟩ := r.give hK hn (v := v) (by rw [hm]; exact q1)
 -- the row again, in what is left
 obtain ⟨x2, E1, Ek, E2, hx2, rfl, o3, put3⟩ := r1.obs.atG (k := k) (ob := .sl s rs) (by rw [List.getElem?_set_ne hne]; exact hk)
 rcases o3.slInv with ⟨_, rfl, _⟩ | ⟨l2, qq, ws2, rest2, F3, rfl, rfl, g2, r2, el2, u2, cq2⟩
 · simp at hj
 obtain ⟨v2, A2, Fv2, B2, rfl, ev2, q3, put4⟩ := r2.atF f1
 have hFv2 : Fv2 = [] := q3.ownInv.1
 subst hFv2
 obtain ⟨h', e1, gk⟩ := g1 k _ hx
 rw [hx2] at e1
 cases e1
 have esl : V.slice l2 0 rs.length s qq = V.slice l 0 rs.length s q := by
  rcases gk.1 _ _ _ rfl with h | ⟨w0, m0, h, hlt⟩
  · cases h; rfl
  · cases h; omega
 cases esl
 rw [g'] at g2
 have ews : ws = ws2 := by
  have h1 := r'.len
  have h2 := r2.len
  have h3 : ws ++ rest = ws2 ++ rest2 := by injection (Option.some.inj g2)
  exact (List.append_inj h3 (by omega)).1
 subst ews
 rw [ev] at ev2
 cases ev2
 have row2 := put4 μ1 _ K1 (GoesL.refl μ1) q2.any
 rw [← f2] at row2
 have el3 : ∀ e', e' ∈ rs.set j (e.set c (.fresh s' rows)) → e'.length = s := fun e' he' => by
  rcases List.mem_or_eq_of_mem_set he' with h | rfl
  · exact el _ h
  · rw [List.length_set]; exact el e (List.mem_of_getElem? hj)
 have ok : OL P H μ1 [.sl (.slice l 0 rs.length s q) rs.length s] [.sl s (rs.set j (e.set c (.fresh s' rows)))] (l :: (A2 ++ (K1 ++ B2))) := by
  have := OL.sl (hs := []) (obs := []) (G := []) g' row2 el3 u1 (fun m hm => by rw [List.length_set]; exact cq m hm) .nil
  rw [List.length_set] at this
  simpa using this
 have o4 := put3 μ1 P H _ _ _ (GoesL.refl μ1) (fun l h => h) ok fun l o _ e => e
 rw [set_same_hd hx2] at o4
 have cnt : ∀ z, ([] ++ (E1 ++ (l :: (A2 ++ (K1 ++ B2)) ++ E2))).count z ≤ (K1 ++ [] ++ (E1 ++ (l :: (A2 ++ ([] ++ B2)) ++ E2))).count z := fun z => by simp only [List.count_append, List.count_cons, List.count_nil, List.cons_append]; omega
 exact ⟨P, μ1, E1 ++ (l :: (A2 ++ (K1 ++ B2)) ++ E2), { wf := r1.wf, nt := r1.nt, nd := r1.nd.same fun j h => mem_le cnt h, tms := r1.tms, obs := o4, nodup := nodup_le r1.nodup cnt, apart := fun j h => r1.apart j (mem_le cnt h), old := fun j h => r1.old j (mem_le cnt h), lt := fun j h => r1.lt j (mem_le cnt h), p1 := r1.p1, p2 := r1.p2, pl := r1.pl, ext := r1.ext, gl := r1.gl }⟩
/-! ### Variables that are no longer written to -/
/- In reach of a variable: pointers to it are pointers to what is only read. -/
mutual
def fzD (k : Nat) (cs : List D) : D → D
 | .rptr j c => if j = k then .iptr cs c else .rptr j c
 | .agg ds => .agg (fzL k cs ds)
 | .tuple ds => .tuple (fzL k cs ds)
 | .iface t d => .iface t (fzD k cs d)
 | .fn f u w => .fn f (fzL k cs u) (fzL k cs w)
 | d => d
def fzL (k : Nat) (cs : List D) : List D → List D
 | [] => []
 | d :: ds => fzD k cs d :: fzL k cs ds
end
theorem fzL_len (k : Nat) (cs : List D) : ∀ ds : List D, (fzL k cs ds).length = ds.length
 | [] => rfl
 | d :: ds => by simp [fzL, fzL_len k cs ds]
theorem RL.fz {l k : Nat} {cs : List D} {ws : List V} (hp : ∀ j, P j → P' j) (hl : P' l) (hg : H.get l = some (.cells false ws)) (hc : RL P' H [] cs ws []) (hk : μ[k]? = some (.cell l)) (h : RL P H μ ds vs F) : RL P' H (μ.set k .dead) (fzL k cs ds) vs F := by
 have gl : GoesL μ (μ.set k .dead) := GoesL.set hk (Goes.dead _)
 induction h with
 | nil => exact .nil
 | unk h ih => exact .unk (ih hk gl)
 | atom h ih => exact .atom (ih hk gl)
 | agg h1 h2 i1 i2 => exact .agg (i1 hk gl) (i2 hk gl)
 | tuple h1 h2 i1 i2 => exact .tuple (i1 hk gl) (i2 hk gl)
 | iface h1 h2 i1 i2 => exact .iface (i1 hk gl) (i2 hk gl)
 | fn h1 h2 h3 i1 i2 i3 => exact .fn (i1 hk gl) (i2 hk gl) (i3 hk gl)
 | immNil h ih => exact .immNil (ih hk gl)
 | imm p g t r e u c h ir ih => exact .imm (hp _ p) g t (r.weakP hp) e u c (ih hk gl)
 | iptr p g t r h ir ih => exact .iptr (hp _ p) g t (r.weakP hp) (ih hk gl)
 | own m c h ih => obtain ⟨h', e, g1, g2⟩ := gl _ _ m; exact .own e (fun w m s e => by
   rcases g1 w m s e with rfl | ⟨w0, m0, rfl, hl⟩
   · exact c _ _ _ rfl
   · have := (c _ _ _ rfl).1; exact ⟨by omega, fun h => by omega⟩) (ih hk gl)
 | optr m c h ih => obtain ⟨h', e, g1, g2⟩ := gl _ _ m; exact .optr e (fun w m s e => by
   rcases g1 w m s e with rfl | ⟨w0, m0, rfl, hl⟩
   · exact c _ _ _ rfl
   · have := (c _ _ _ rfl).1; exact ⟨by omega, fun h => by omega⟩) (ih hk gl)
 | @rptr μ j c h v ds vs F m c' h ih =>
   simp only [fzL, fzD]
   split
   · rename_i e
     subst e
     rw [hk] at m; cases m
     rw [c' l rfl]
     have hlen := hc.len
     have tk : take? ws 0 cs.length = some ws := by simp only [take?, cond_beq, hlen, List.drop_zero, List.take_length, if_true]
     have := RL.iptr (μ := μ.set j .dead) (b := 0) (o := c) hl hg tk hc (ih hk gl)
     rw [Nat.zero_add] at this
     exact this
   · obtain ⟨h', e, g1, g2⟩ := gl _ _ m
     exact .rptr e (fun l e => c' l (g2 l e)) (ih hk gl)
 | freshNil h ih => exact .freshNil (ih hk gl)
 | fresh g r e u c h ir ih => exact .fresh g (r.weakP hp) e u c (ih hk gl)
def fzO (k : Nat) (cs : List D) : Ob → Ob
 | .cell ds => .cell (fzL k cs ds)
 | .sl s es => .sl s (es.map (fzL k cs))
 | .dead => .dead
 | .ghost K => .ghost K
def fzT (k : Nat) (cs : List D) (tm : List (Nat × D)) : List (Nat × D) := tm.map fun p => (p.1, fzD k cs p.2)
theorem fzL_flatten (k : Nat) (cs : List D) : ∀ es : List (List D), (es.map (fzL k cs)).flatten = fzL k cs es.flatten
 | [] => rfl
 | e :: es => by
   have app : ∀ a b : List D, fzL k cs (a ++ b) = fzL k cs a ++ fzL k cs b := fun a => by
    induction a with
    | nil => intro b; rfl
    | cons d a ih => intro b; simp only [List.cons_append, fzL, ih]
   simp only [List.map_cons, List.flatten_cons, app, fzL_flatten k cs es]
theorem OL.fz {l k : Nat} {cs : List D} {ws : List V} (hp : ∀ j, P j → P' j) (hl : P' l) (hg : H.get l = some (.cells false ws)) (hc : RL P' H [] cs ws []) (hk : μ0[k]? = some (.cell l)) (h : OL P H μ0 hs obs F) : OL P' H (μ0.set k .dead) hs (obs.map (fzO k cs)) F := by
 induction h with
 | nil => exact .nil
 | dead h ih => exact .dead ih
 | ghost s kk e h ih => exact .ghost s (s _ _ _ _ _ kk hp fun l o _ e => e) e ih
 | slNil h ih => exact .slNil ih
 | @sl l s q ws rest es hs obs F G g r e u c h ih =>
   have := OL.sl (rest := rest) (es := es.map (fzL k cs)) (q := q) (s := s) g (by rw [fzL_flatten]; exact RL.fz hp hl hg hc hk r) (fun e' he' => by
    obtain ⟨e0, h0, rfl⟩ := List.mem_map.1 he'
    rw [fzL_len]; exact e e0 h0) u (by rw [List.length_map]; exact c) ih
   rw [List.length_map] at this
   exact this
 | cell g r h ih => exact .cell g (RL.fz hp hl hg hc hk r) ih
end Go.Am.Vm
