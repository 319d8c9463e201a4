import Derived.Test.YtphjohoipocpnaaGreatVmC
import Derived.Test.YtphjohoipocpnaaGreatAmLay
import Derived.KernelRfl
set_option linter.unusedVariables false
set_option linter.unusedSimpArgs false
/- A range over a function, in depth: who hands on, and who takes. No conditions. -/
namespace Go.Am.Vm
open Go.Am
variable {T:Tab} {P P':Nat→Prop} {H H':Heap} {μ μ' μ0:List Hd} {ds es cs:List D} {vs ws us:List V} {F G X F' X':List Nat} {d:D} {v:V} {so so':List Ob} {ob:Ob} {g:Gh} {st:St} {a:A} {k:List Fr} {Q:Qt}
theorem WpK.mono0 {ρ:Option Nat} {c:Code} {Q':Qt} (h:WpK T ρ c [] a H Q) (hq:∀ e a' H',Q e a' H'→Q' e a' H'):WpK T ρ c [] a H Q':=Wp.mono h fun e a' H' h=>hq e a' H' h
theorem nodup3 {A B C:List Nat}:(A++(B++C)).Nodup↔A.Nodup∧B.Nodup∧C.Nodup∧(∀ x,x∈A→¬ x∈B∧¬ x∈C)∧∀ x,x∈B→¬ x∈C:=by
 simp only [List.nodup_append,List.mem_append];constructor
 ·rintro ⟨h1,⟨h2,h3,h4⟩,h5⟩;exact ⟨h1,h2,h3,fun x hx=>⟨fun h=>h5 x hx x (.inl h) rfl,fun h=>h5 x hx x (.inr h) rfl⟩,fun x hx h=>h4 x hx x h rfl⟩
 ·rintro ⟨h1,h2,h3,h4,h5⟩;exact ⟨h1,⟨h2,h3,fun x hx y hy e=>h5 x hx (e ▸ hy)⟩,fun x hx y hy e=>hy.elim (fun h=>(h4 x hx).1 (e ▸ h)) fun h=>(h4 x hx).2 (e ▸ h)⟩
abbrev Kp:=(Nat→Prop)→List Nat→Heap→Prop
theorem OL.ghostInv {x:Hd} {K:Kp} (h:OL P H μ0 [x] [.ghost K] F):x=.dead∧Stb K∧K P F H∧∀ l,l∈F→∃ o,H.get l=some o:=by
 cases h with
 | ghost s kk e h=>cases h;exact ⟨rfl,s,by simpa using kk,by simpa using e⟩
theorem set_same_hd {μ:List Hd} {k:Nat} {x:Hd} (h:μ[k]?=some x):μ.set k x=μ:=by
 apply List.ext_getElem?;intro i
 by_cases hi:k=i
 ·subst hi;rw [List.getElem?_set_self (get_lt h),h]
 ·rw [List.getElem?_set_ne hi]
def Chg (P P':Nat→Prop) (F F':List Nat) (H H':Heap):Prop:=
 F'.Nodup∧(∀ l,l∈F'→¬ P' l∧(l∈F∨H.n≤l)∧l<H'.n)∧(∀ l,l∈F'→∃ o,H'.get l=some o)∧(∀ l,P l→P' l)∧(∀ l,P' l→(P l∨l∈F∨H.n≤l)∧∃ o,H'.get l=some o)∧ExtB (fun l=>l∈F) H H'
theorem Rl.swap (r:Rl g st a H P μ F []) {k:Nat} {K:Kp} (hk:st.so[k]?=some (.ghost K)):∃ Fk,K P Fk H∧Fk.Nodup∧(∀ l,l∈Fk→¬ P l∧l<H.n) ∧
  ∀ (K1:Kp) (H':Heap) (P':Nat→Prop) (F':List Nat),Stb K1→K1 P' F' H'→Chg P P' Fk F' H H'→∃ F2,Rl g ⟨st.tm,st.so.set k (.ghost K1),st.n⟩ a H' P' μ F2 []:=by
 obtain ⟨x,F1,Fk,F2,hx,rfl,o1,put⟩:=r.obs.at hk;obtain ⟨rfl,s,kk,ex⟩:=o1.ghostInv;have nd:=r.nodup;rw [List.nil_append] at nd;have n3:=nodup3.1 nd;refine ⟨Fk,kk,n3.2.1,fun l hl=>⟨r.apart l (by simp [hl]),r.lt l (by simp [hl])⟩,?_⟩;rintro K1 H' P' F' s1 k1 ⟨nd1,q1,ex1,q3,q4,q5⟩
 have keep:∀ l o,(P l∨l∈F1∨l∈F2)→H.get l=some o→H'.get l=some o:=fun l o hl e=>q5.get l o (fun hf=>by
  rcases hl with h | h | h
  ·exact r.apart l (by simp [hf]) h
  ·exact (n3.2.2.2.1 l h).1 hf
  ·exact n3.2.2.2.2 l hf h) e
 have o2:=put P' H' .dead (.ghost K1) F' q3 (by simpa using OL.ghost (hs:=[]) (obs:=[]) (G:=[]) s1 k1 ex1 .nil) keep;rw [set_same_hd hx] at o2;have old:∀ l,l∈F1∨l∈Fk∨l∈F2→g.B l∨g.H0.n≤l:=fun l h=>r.old l (by simpa using h);have lt:∀ l,l∈F1∨l∈Fk∨l∈F2→l<H.n:=fun l h=>r.lt l (by simpa using h)
 have notP:∀ l,l∈F1∨l∈F2→¬ P' l:=fun l h p=>by
  rcases (q4 l p).1 with p | p | p
  ·exact r.apart l (by simp;rcases h with h | h <;> simp [h]) p
  ·rcases h with h | h
   ·exact (n3.2.2.2.1 l h).1 p
   ·exact n3.2.2.2.2 l p h
  ·have:=lt l (h.imp id .inr);omega
 refine ⟨F1++(F'++F2),{ wf:=q5.wf,nt:=r.nt,nd:=?_,tms:=fun t=>((r.tms t).keep fun l o hl e=>keep l o (hl.imp id fun h=>by cases h) e).weakP q3,obs:=o2,nodup:=?_,apart:=?_,old:=?_,lt:=?_,p1:=fun l p=>q3 l (r.p1 l p),p2:=?_,pl:=fun l p=>(q4 l p).2,ext:=r.ext.trans' q5 fun l h=>old l (.inr (.inl h)),gl:=r.gl }⟩
 ·refine r.nd.to (fun j u e _ hj=>⟨q5.get _ _ (fun h=>hj (by simp [h])) e,u⟩) (fun l p=>(q4 l p).1.imp id fun h=>h.imp (fun h=>by simp [h]) id) fun l h=>?_;simp only [List.nil_append,List.mem_append] at h ⊢;rcases h with h | h | h
  ·exact .inl (.inl h)
  ·exact (q1 l h).2.1.elim (fun h=>.inl (.inr (.inl h))) .inr
  ·exact .inl (.inr (.inr h))
 ·rw [List.nil_append,nodup3];refine ⟨n3.1,nd1,n3.2.2.1,fun x hx=>⟨fun h=>?_,(n3.2.2.2.1 x hx).2⟩,fun x hx h=>?_⟩
  ·rcases (q1 x h).2.1 with h | h
   ·exact (n3.2.2.2.1 x hx).1 h
   ·have:=lt x (.inl hx);omega
  ·rcases (q1 x hx).2.1 with h1 | h1
   ·exact n3.2.2.2.2 x h1 h
   ·have:=lt x (.inr (.inr h));omega
 ·intro l h;simp only [List.nil_append,List.mem_append] at h;rcases h with h | h | h
  ·exact notP l (.inl h)
  ·exact (q1 l h).1
  ·exact notP l (.inr h)
 ·intro l h;simp only [List.nil_append,List.mem_append] at h;rcases h with h | h | h
  ·exact old l (.inl h)
  ·rcases (q1 l h).2.1 with h | h
   ·exact old l (.inr (.inl h))
   ·exact .inr (Nat.le_trans r.ext.n h)
  ·exact old l (.inr (.inr h))
 ·intro l h;simp only [List.nil_append,List.mem_append] at h;have hn:=q5.n;rcases h with h | h | h
  ·have:=lt l (.inl h);omega
  ·exact (q1 l h).2.2
  ·have:=lt l (.inr (.inr h));omega
 ·intro l p;rcases (q4 l p).1 with p | p | p
  ·exact r.p2 l p
  ·exact .inr (old l (.inr (.inl p)))
  ·exact .inr (.inr (Nat.le_trans r.ext.n p))
/-! ### Who hands on -/
def Yl (T:Tab) (l:Nat) (x:List D) (K K1 E:Kp):Prop:=
 ∀ (P:Nat→Prop) (H:Heap) (vs:List V) (F:List Nat),H.WF→(∀ l,P l→∃ o,H.get l=some o)→K P F H→F.Nodup→(∀ l,l∈F→¬ P l∧l<H.n)→RL P H [] x vs [] →
   RoundTo T l vs H fun r H'=>∃ P' F',(r=.bool true∧K1 P' F' H'∨r=.bool false∧E P' F' H')∧Chg P P' F F' H H'
theorem round_tick {l k:Nat} {K K1 E:Kp} {N:D→List Ob→Prop} (hk:st.so[k]?=some (.ghost K)) (hy:Yl T l ds K K1 E) (s1:Stb K1) (s2:Stb E) (hn:nlL ds=true) (h1:N (.atom (.bool true)) (st.so.set k (.ghost K1)))
  (h2:N (.atom (.bool false)) (st.so.set k (.ghost E))):RoundP T st l ds N:=by
 intro g a H P μ F vs r hv;obtain ⟨Fk,kk,nd,q,put⟩:=r.swap hk;refine (hy P H vs Fk r.wf r.pl kk nd q (hv.nl hn)).mono fun v H' ⟨P',F',hc,hg⟩=>?_;rcases hc with ⟨rfl,hc⟩ | ⟨rfl,hc⟩
 ·obtain ⟨F2,r2⟩:=put _ _ _ _ s1 hc hg;exact ⟨_,_,_,_,_,h1,r2,.atom .nil⟩
 ·obtain ⟨F2,r2⟩:=put _ _ _ _ s2 hc hg;exact ⟨_,_,_,_,_,h2,r2,.atom .nil⟩
def VGC (T:Tab) (f:FuncId) (ca:List D) (cells:List (List D)) (xs:List (List D)):Prop:=
 ∀ (l:Nat) (K:Nat→Kp) (E:Kp),(∀ i,Stb (K i))→Stb E→(∀ i x,xs[i]?=some x→Yl T l x (K i) (K (i+1)) E) →
   VM T f (.atom (.func (.yield l) [] [])::ca) (cells.map Ob.cell++[.ghost (K 0)]) fun _ so'=>so'[cells.length]?=some (.ghost (K xs.length))∨so'[cells.length]?=some (.ghost E)
def VG (T:Tab) (f:FuncId) (cells:List (List D)) (xs:List (List D)):Prop:=VGC T f ((List.range cells.length).map fun k=>.rptr k 0) cells xs
/-! ### A round, of who takes -/
def EndQ (g:Gh) (N:List Ob→Prop) (Xe:Ex→List Ob→Prop):Qt:=fun e a H=>∃ st P μ F,Rl g st a H P μ F []∧match e with
 | .normal=>N st.so
 | .ret=>Xe .ret st.so
 | .exit id=>Xe (.exit id) st.so
 | _=>False
def MidQ (T:Tab) (g:Gh) (body:Code) (N:List Ob→Prop) (Xe:Ex→List Ob→Prop):Qt:=fun e a H=>match e with
 | .normal=>∃ st P μ F,Rl g st a H P μ F []∧∀ g2,Rho g2→(∃ l,g2.ρ=some l)→g2.μ0.length=g.μ0.length→SK g2 T body [] st (EndQ g2 N Xe)
 | _=>False
def RB (T:Tab) (assign body:Code) (st:St) (N:List Ob→Prop) (Xe:Ex→List Ob→Prop):Prop:=∀ g,Rho g→(∃ l,g.ρ=some l)→g.μ0.length=st.so.length→SK g T assign [] st (MidQ T g body N Xe)
variable {N:List Ob→Prop} {Xe:Ex→List Ob→Prop} {body assign:Code}
theorem mid_ok (h:∀ g2,Rho g2→(∃ l,g2.ρ=some l)→g2.μ0.length=g.μ0.length→SK g2 T body [] st (EndQ g2 N Xe)):SU g T [] .normal (MidQ T g body N Xe) st:=fun a H P μ F r=>by rw [unw_nil];exact ⟨st,P,μ,F,r,h⟩
theorem end_normal (h:N st.so):SU g T [] .normal (EndQ g N Xe) st:=fun a H P μ F r=>by rw [unw_nil];exact ⟨st,P,μ,F,r,h⟩
theorem end_exit {id:Nat} (h:Xe (.exit id) st.so):SU g T [] (.exit id) (EndQ g N Xe) st:=fun a H P μ F r=>by rw [unw_nil];exact ⟨st,P,μ,F,r,h⟩
def exP:Ex→Option Code
 | .ret=>some .ret
 | .exit id=>some (.exit id)
 | _=>none
def KS (tm:List (Nat×D)) (a:A) (l:Nat) (ex:List Nat) (C:LC) (μ0:List Hd) (sl:LoopState) (p:Option Code) (S:List Ob→Prop):Kp:=fun P F H =>
 ∃ so μ F0,S so∧F=l::(ex++F0)∧OL P H μ μ so F0∧(∀ t,RL P H μ [tget tm t] [a.tmp t] [])∧GoesL μ0 μ∧H.get l=some (loopO sl p C)∧∀ r,r∈ex→H.get r=some (.deferred (some []))
theorem KS.stb (tm:List (Nat×D)) (a:A) (l:Nat) (ex:List Nat) (C:LC) (μ0:List Hd) (sl:LoopState) (p:Option Code) (S:List Ob→Prop):Stb (KS tm a l ex C μ0 sl p S):=by
 rintro P P' F H H' ⟨so,μ,F0,hS,rfl,ol,tms,gl,hl,hex⟩ hp kp;exact ⟨so,μ,F0,hS,rfl,(ol.keep fun j o hj e=>kp j o (hj.imp id fun h=>by simp [h]) e).weakP hp,fun t=>((tms t).keep fun j o hj e=>kp j o (hj.imp id fun h=>by cases h) e).weakP hp,gl,kp _ _ (.inr (by simp)) hl,fun r hr=>kp _ _ (.inr (by simp [hr])) (hex r hr)⟩
def KE (tm:List (Nat×D)) (a:A) (l:Nat) (ex:List Nat) (C:LC) (μ0:List Hd) (Xe:Ex→List Ob→Prop):Kp:=fun P F H=>∃ e p,exP e=some p∧KS tm a l ex C μ0 .done (some p) (Xe e) P F H
theorem KE.stb (tm:List (Nat×D)) (a:A) (l:Nat) (ex:List Nat) (C:LC) (μ0:List Hd) (Xe:Ex→List Ob→Prop):Stb (KE tm a l ex C μ0 Xe):=by
 rintro P P' F H H' ⟨e,p,he,h⟩ hp kp;exact ⟨e,p,he,KS.stb _ _ _ _ _ _ _ _ _ P P' F H H' h hp kp⟩
def putAllD (st:St):List (Tmp×D)→St
 | []=>st
 | (t,d)::xs=>putAllD (st.put (some t) d) xs
theorem putAllD_nil:putAllD st []=st:=Eq.trans rfl rfl
theorem putAllD_cons (t:Tmp) (d:D) (xs:List (Tmp×D)):putAllD st ((t,d)::xs)=putAllD (st.put (some t) d) xs:=Eq.trans rfl rfl
theorem Rl.putAll:∀ {ps:List Tmp} {ds:List D} {vs:List V} {st:St} {a:A},Rl g st a H P μ F X→RL P H μ ds vs []→Rl g (putAllD st (ps.zip ds)) (Am.putAll a (ps.zip vs)) H P μ F X
 | [],ds,vs,st,a,r,hv=>r
 | p::ps,[],vs,st,a,r,hv=>by obtain ⟨rfl,_⟩:=hv.nil_inv;exact r
 | p::ps,d::ds,vs,st,a,r,hv=>by
   obtain ⟨v,vs',G1,G2,rfl,hF,q1,q2⟩:=hv.uncons;have hF':=hF.symm;rw [List.append_eq_nil_iff] at hF';rw [hF'.1] at q1;rw [hF'.2] at q2;have:=Rl.putAll (ps:=ps) (r.putOk (some p) q1) q2;exact this
theorem putAllD_so:∀ (xs:List (Tmp×D)) (st:St),(putAllD st xs).so=st.so
 | [],st=>rfl
 | (t,d)::xs,st=>by
   rw [putAllD_cons,putAllD_so xs];simp only [St.put];split <;> rfl
theorem yl_of {tm:List (Nat×D)} {n:Nat} {a0:A} {l:Nat} {ex:List Nat} {C:LC} {μ0:List Hd} {S S1:List Ob→Prop} {x:List D} (ht:C.tmps=a0.tmps) (hn:a0.tmps.n=n) (hx:x.length=C.params.length)
  (h:∀ so,S so→RB T C.assign C.body (putAllD ⟨tm,so,n⟩ (C.params.zip x)) S1 Xe):Yl T l x (KS tm a0 l ex C μ0 .ready none S) (KS tm a0 l ex C μ0 .ready none S1) (KE tm a0 l ex C μ0 Xe):=by
 rintro P H vs F wf pl ⟨so,μ,F0,hS,rfl,ol,tms,gl,hl,hex⟩ nd hF hv;have nd':(([l]++(ex++F0)):List Nat).Nodup:=nd;have n3:=nodup3.1 nd';have hvl:=hv.len;have ltl:=Heap.lt hl;have lF0:¬ l∈F0:=(n3.2.2.2.1 l (by simp)).2;have lP:¬ P l:=(hF l (by simp)).1;have ltF:∀ j,j∈F0→j<H.n:=fun j hj=>(hF j (by simp [hj])).2;refine round_to hl (by omega) ?_;have rho1:Rho ⟨H,P,fun j=>j∈F0,μ,some l,fun _=>False⟩:=⟨fun l' e=>(by cases e;exact ⟨lF0,_,_,_,hl⟩),fun r h=>h.elim,fun e=>(by cases e),fun _ _ _ h=>h⟩
 have r0:Rl ⟨H,P,fun j=>j∈F0,μ,some l,fun _=>False⟩ ⟨tm,so,n⟩ ⟨C.tmps,[]⟩ H P μ F0 []:=
  { wf:=wf,nt:=by rw [ht];exact hn,nd:=Dfr.nil _ _ _ _,tms:=fun t=>by have:=tms t;simp only [A.tmp] at this ⊢;rw [ht];exact this,obs:=ol,nodup:=n3.2.2.1,apart:=fun j h=>(hF j (by simp at h;simp [h])).1,old:=fun j h=>.inl (by simpa using h),lt:=fun j h=>ltF j (by simpa using h),p1:=fun j p=>p,p2:=fun j p=>.inl p,pl:=pl,ext:=(Ext.refl wf).but _,gl:=GoesL.refl _ }
 have r1:=r0.putAll (ps:=C.params) (hv.any);rw [rTmps_eq];refine WpK.mono0 (h so hS _ rho1 ⟨l,rfl⟩ (by rw [putAllD_so];exact ol.len) _ _ _ _ _ r1) fun e a1 H1 hm=>?_
 cases e with
 | normal =>
   obtain ⟨st1,P1,μ1,F1,r2,hb⟩:=hm;have l1:¬ l∈F1:=fun hj=>(r2.old l (by simp [hj])).elim lF0 fun h=>by have:H.n≤l:=h;omega
   have lP1:¬ P1 l:=fun p=>(r2.p2 l p).elim lP fun h=>h.elim lF0 fun h=>by have:H.n≤l:=h;omega
   have hl1:=r2.ext.get _ _ lF0 hl;have lt1:=Heap.lt hl1;refine ⟨hl1,?_⟩
   have k1:∀ j o,(P1 j∨j∈F1)→H1.get j=some o→(H1.put l (loopO .busy none C)).get j=some o:=fun j o hj e=>by
    rw [Heap.get_put_ne (show ¬ j=l from fun e=>hj.elim (e ▸ lP1) (e ▸ l1))];exact e
   have hbz:(H1.put l (loopO .busy none C)).get l=some (loopO .busy none C):=get_put_same lt1 _;have rho2:Rho ⟨H1.put l (loopO .busy none C),P1,fun j=>j∈F1,μ,some l,fun _=>False⟩:=⟨fun l' e=>(by cases e;exact ⟨l1,_,_,_,hbz⟩),fun r h=>h.elim,fun e=>(by cases e),fun _ _ _ h=>h⟩
   have nd0:a1.defers=[]:=by
    obtain ⟨ds,_,e,k⟩:=r2.nd
    cases ds with
    | nil=>exact e
    | cons x ds=>exact (k x (by simp)).2.1.elim
   have r3:Rl ⟨H1.put l (loopO .busy none C),P1,fun j=>j∈F1,μ,some l,fun _=>False⟩ st1 a1 (H1.put l (loopO .busy none C)) P1 μ1 F1 []:=
    { wf:=r2.wf.put lt1 _,nt:=r2.nt,nd:=by rw [nd0];exact Dfr.nil _ _ _ _,tms:=fun t=>(r2.tms t).keep fun j o hj e=>k1 j o (hj.imp id fun h=>by cases h) e,obs:=r2.obs.keep k1,nodup:=r2.nodup,apart:=r2.apart,old:=fun j h=>.inl (by simpa using h),lt:=fun j h=>by rw [Heap.n_put];exact r2.lt j h,p1:=fun j p=>p,p2:=fun j p=>.inl p,pl:=fun j p=>(r2.pl j p).elim fun o e=>⟨o,k1 j o (.inl p) e⟩,ext:=(Ext.refl (r2.wf.put lt1 _)).but _,gl:=r2.gl }
   refine WpK.mono0 (hb _ rho2 ⟨l,rfl⟩ rfl _ _ _ _ _ r3) fun e a2 H2 hm=>?_;obtain ⟨st2,P2,μ2,F2,r4,hend⟩:=hm;have l2:¬ l∈F2:=fun hj=>(r4.old l (by simp [hj])).elim l1 fun h=>by have:(H1.put l (loopO .busy none C)).n≤l:=h;rw [Heap.n_put] at this;omega
   have lP2:¬ P2 l:=fun p=>(r4.p2 l p).elim lP1 fun h=>h.elim l1 fun h=>by have:(H1.put l (loopO .busy none C)).n≤l:=h;rw [Heap.n_put] at this;omega
   have hl2:=r4.ext.get _ _ l1 hbz;have lt2:=Heap.lt hl2;have nn:H.n≤H1.n∧H1.n≤H2.n:=⟨r2.ext.n,by have:=r4.ext.n;simpa [Heap.n_put] using this⟩
   refine ⟨hl2,?_⟩;have F1F:∀ j,j∈F1→j∈F0∨H.n≤j:=fun j hj=>r2.old j (by simp [hj]);have F2F:∀ j,j∈F2→j∈F0∨H.n≤j:=fun j hj=>(r4.old j (by simp [hj])).elim (F1F j) fun h=>.inr (by have:(H1.put l (loopO .busy none C)).n≤j:=h;rw [Heap.n_put] at this;omega);have P2P:∀ j,P2 j→P j∨j∈F0∨H.n≤j:=fun j p=>(r4.p2 j p).elim (fun p=>r2.p2 j p) fun h=>h.elim (fun h=>.inr (F1F j h)) fun h=>.inr (.inr (by have:(H1.put l (loopO .busy none C)).n≤j:=h;rw [Heap.n_put] at this;omega))
   have far:∀ (ob:O) j o,j<H.n→¬ j∈F0→¬ j=l→H.get j=some o→(H2.put l ob).get j=some o:=fun ob j o h1 h2 h3 e=>by
    rw [Heap.get_put_ne h3];refine r4.ext.get _ _ (fun h=>(F1F j h).elim h2 fun h=>by omega) ?_;rw [Heap.get_put_ne h3];exact r2.ext.get _ _ h2 e
   have exn:∀ r,r∈ex→¬ r∈F0∧¬ r=l∧r<H.n:=fun r hr=>⟨n3.2.2.2.2 r hr,fun e=>(n3.2.2.2.1 l (by simp)).1 (e ▸ hr),Heap.lt (hex r hr)⟩
   have fin:∀ (sl:LoopState) (p:Option Code) (S2:List Ob→Prop),S2 st2.so→∃ P' F',KS tm a0 l ex C μ0 sl p S2 P' F' (H2.put l (loopO sl p C))∧Chg P P' (l::(ex++F0)) F' H (H2.put l (loopO sl p C)):=by
    intro sl p S2 hS2
    have k2:∀ j o,(P2 j∨j∈F2)→H2.get j=some o→(H2.put l (loopO sl p C)).get j=some o:=fun j o hj e=>by
     rw [Heap.get_put_ne (show ¬ j=l from fun e=>hj.elim (e ▸ lP2) (e ▸ l2))];exact e
    refine ⟨P2,l::(ex++F2),⟨st2.so,μ2,F2,hS2,rfl,r4.obs.keep k2,fun t=>?_,gl.trans r4.gl,get_put_same lt2 _,fun r hr=>far _ r _ (exn r hr).2.2 (exn r hr).1 (exn r hr).2.1 (hex r hr)⟩,?_⟩
    ·refine (((tms t).goes r4.gl).keep fun j o hj e=>far _ j o (Heap.lt e) (fun h=>?_) (fun h=>?_) e).weakP fun j p=>r4.p1 j (r2.p1 j p)
     ·rcases hj with hj | hj
      ·exact (hF j (by simp [h])).1 hj
      ·cases hj
     ·rcases hj with hj | hj
      ·exact lP (h ▸ hj)
      ·cases hj
    ·have m2:∀ j,j∈l::(ex++F2)→j=l∨j∈ex∨j∈F2:=fun j h=>by simpa using h
     refine ⟨?_,?_,?_,fun j p=>r4.p1 j (r2.p1 j p),fun j p=>⟨?_,(r4.pl j p).elim fun o e=>⟨o,k2 j o (.inl p) e⟩⟩,?_⟩
     ·show ([l]++(ex++F2)).Nodup;rw [nodup3];refine ⟨by simp,n3.2.1,by simpa using r4.nodup,fun j hj=>?_,fun j hj h=>?_⟩
      ·have:j=l:=by simpa using hj
       subst this;exact ⟨(n3.2.2.2.1 _ (by simp)).1,l2⟩
      ·have h1:=exn j hj;rcases F2F j h with h | h
       ·exact h1.1 h
       ·omega
     ·intro j hj;rw [Heap.n_put];rcases m2 j hj with rfl | h | h
      ·exact ⟨lP2,.inl (by simp),lt2⟩
      ·have h1:=exn j h;refine ⟨fun p=>?_,.inl (by simp [h]),by omega⟩;rcases P2P j p with p | p | p
       ·exact (hF j (by simp [h])).1 p
       ·exact h1.1 p
       ·omega
      ·exact ⟨r4.apart j (by simp [h]),(F2F j h).imp (fun h=>by simp [h]) id,r4.lt j (by simp [h])⟩
     ·intro j hj;rcases m2 j hj with rfl | h | h
      ·exact ⟨_,get_put_same lt2 _⟩
      ·exact ⟨_,far _ j _ (exn j h).2.2 (exn j h).1 (exn j h).2.1 (hex j h)⟩
      ·obtain ⟨o,e⟩:=r4.obs.get j h;exact ⟨o,k2 j o (.inr h) e⟩
     ·exact (P2P j p).imp id fun h=>h.imp (fun h=>by simp [h]) id
     ·have e1:ExtB (fun j=>j∈l::(ex++F0)) H H1:=r2.ext.weaken fun j hj=>by have:j∈F0:=hj;simp [this]
      have e2:ExtB (fun j=>j∈l::(ex++F0)) H (H1.put l (loopO .busy none C)):=e1.put (.inl (by simp)) lt1 _;have e3:ExtB (fun j=>j∈l::(ex++F0)) H H2:=e2.trans' r4.ext fun j hj=>(F1F j hj).imp (fun h=>by simp [h]) id;exact e3.put (.inl (by simp)) lt2 _
   cases e with
   | normal =>
     obtain ⟨P',F',h1,h2⟩:=fin .ready none S1 hend;exact ⟨P',F',.inl ⟨rfl,h1⟩,h2⟩
   | ret =>
     obtain ⟨P',F',h1,h2⟩:=fin .done (some .ret) (Xe .ret) hend;exact ⟨P',F',.inr ⟨rfl,.ret,.ret,rfl,h1⟩,h2⟩
   | exit id =>
     obtain ⟨P',F',h1,h2⟩:=fin .done (some (.exit id)) (Xe (.exit id)) hend;exact ⟨P',F',.inr ⟨rfl,.exit id,.exit id,rfl,h1⟩,h2⟩
   | _=>exact hend.elim
 | _=>exact hm.elim
end Go.Am.Vm

namespace Go.Am.Vm
open Go.Am
variable {T:Tab} {P P':Nat→Prop} {H H':Heap} {μ μ' μ0:List Hd} {ds es cs:List D} {vs ws us:List V} {F G X F' X':List Nat} {d:D} {v:V} {so so':List Ob} {ob:Ob} {g:Gh} {st:St} {a:A} {k:List Fr} {Q:Qt}
theorem wpK_rangeFunc2 {l0:Nat} {s0:LoopState} {p0:Option Code} {C0:LC} (hl0:H.get l0=some (loopO s0 p0 C0)) {x:Operand} {params:Array Tmp} {assign body:Code} {g:V} {kf:FuncId} {args:List V} (hx:a.eval x=some g)
  (hc:callee g [.func (.yield H.n) [] []]=.call kf args) (hp:T.prim kf=none)
  (h:CallsTo T kf args (H.push (loopO .ready none ⟨0,a.tmps,params.toList,assign,body,C0.ds⟩)) fun _ H2=>∃ st p C,H2.get H.n=some (loopO st p C)∧st≠.busy ∧
   after T (some l0) k Q p ⟨a.tmps,a.defers⟩ (H2.put H.n (loopO .exhausted p C))):WpK T (some l0) (.rangeFunc x params assign body) k a H Q:=by
 obtain ⟨n,v,H2,h1,st,p,C,h2,h3,h4⟩:=h
 have key:∀ r,(match p with
   | none=>some (Ex.normal,A.mk a.tmps a.defers,H2.put H.n (loopO .exhausted p C))
   | some .ret=>some (.ret,A.mk a.tmps a.defers,H2.put H.n (loopO .exhausted p C))
   | some (.exit id)=>some (.exit id,A.mk a.tmps a.defers,H2.put H.n (loopO .exhausted p C))
   | some _=>none)=some r→step T (ev T n) n (some l0) (.rangeFunc x params assign body) a H=some r:=by
  intro r hr;simp only [loopO] at hl0;simp only [step,hx,hl0,hc,hp,Option.isSome_none,cond_false];unfold run at h1;simp only [loopO] at h1 h2 hr;rw [h1];simp only;rw [h2];simp only
  cases st <;> first | exact absurd rfl h3 | (simp only [cond_false,List.nil_append];rw [← hr];cases p with
   | none=>rfl
   | some q=>cases q <;> rfl)
 rw [WpK,wp_step]
 cases p with
 | none=>exact ⟨n,_,_,_,key _ rfl,h4⟩
 | some q =>
   cases q <;> first | exact h4.elim | exact ⟨n,_,_,_,key _ rfl,h4⟩
/-! ### Variables are handed on -/
theorem Rl.giveC (r:Rl g st a H P μ F X) {k:Nat} (hk:st.so[k]?=some (.cell cs)) (hn:nlL cs=true) :
  ∃ μ' F' l ws,Rl g ⟨st.tm,st.so.set k .dead,st.n⟩ a H P μ' F' (l::X)∧H.get l=some (.cells false ws)∧RL P H [] cs ws []∧(∀ v,RL P H μ [.rptr k 0] [v] []→v=.ptr l 0)∧GoesL μ μ':=by
 obtain ⟨x,F1,Fk,F2,hx,rfl,o1,put⟩:=r.obs.at hk;obtain ⟨l,ws,rfl,rfl,g',r'⟩:=o1.cellInv;have gl:GoesL μ (μ.set k .dead):=GoesL.set hx (Goes.dead _);have o2:=(put P H .dead .dead [] (fun l h=>h) (.dead .nil) fun l o _ h=>h).goes gl
 have perm:(X++(F1++([l]++F2))).Perm ([l]++X++(F1++([]++F2))):=by
  rw [List.nil_append,← List.append_assoc F1,← List.append_assoc X,← List.append_assoc X];refine (List.perm_append_comm (l₁:=X++F1) (l₂:=[l])).append_right F2 |>.trans ?_;simp
 have m:∀ j,j∈[l]++X++(F1++([]++F2))→j∈X++(F1++([l]++F2)):=fun l h=>perm.mem_iff.2 h;refine ⟨μ.set k .dead,F1++([]++F2),l,ws,{ wf:=r.wf,nt:=r.nt,nd:=r.nd.same m,tms:=fun t=>(r.tms t).goes gl,obs:=o2,nodup:=perm.nodup r.nodup,apart:=fun l h=>r.apart l (m l h),old:=fun l h=>r.old l (m l h),lt:=fun l h=>r.lt l (m l h),p1:=r.p1,p2:=r.p2,pl:=r.pl,ext:=r.ext,gl:=r.gl.trans gl },g',r'.nl hn,fun v hv=>?_,gl⟩;obtain ⟨_,y,hy,hc⟩:=hv.rptrInv;rw [hx] at hy;cases hy;exact hc l rfl
def kills (so:List Ob) (ks:List Nat):List Ob:=ks.foldl (fun so k=>so.set k .dead) so
theorem kills_nil:kills so []=so:=Eq.trans rfl rfl
theorem kills_cons (j:Nat) (ks:List Nat):kills so (j::ks)=kills (so.set j .dead) ks:=Eq.trans rfl rfl
def cellsAre (so:List Ob):List Nat→List (List D)→Prop
 | [],[]=>True
 | j::ks,cs::cells=>so[j]?=some (.cell cs)∧nlL cs=true∧cellsAre so ks cells
 | _,_=>False
theorem cellsAre_set {j:Nat}:∀ {ks:List Nat} {cells:List (List D)},¬ j∈ks→cellsAre so ks cells→cellsAre (so.set j .dead) ks cells
 | [],[],_,h=>trivial
 | i::ks,cs::cells,hj,h=>by
   obtain ⟨h1,h2,h3⟩:=h;refine ⟨by rw [List.getElem?_set_ne (fun e=>hj (by simp [e]))];exact h1,h2,cellsAre_set (fun h=>hj (by simp [h])) h3⟩
 | [],_::_,_,h=>h.elim
 | _::_,[],_,h=>h.elim
theorem Rl.giveCs:∀ {ks:List Nat} {cells:List (List D)} {st:St} {μ:List Hd} {F X:List Nat},Rl g st a H P μ F X→ks.Nodup→cellsAre st.so ks cells →
  ∃ μ' F' ls,Rl g ⟨st.tm,kills st.so ks,st.n⟩ a H P μ' F' (ls++X)∧ls.length=cells.length∧(∀ ν:List Hd,OL P H ν (ls.map .cell) (cells.map .cell) ls)∧(∀ vs,RL P H μ (ks.map fun j=>.rptr j 0) vs []→vs=ls.map fun l=>.ptr l 0)∧GoesL μ μ'
 | [],[],st,μ,F,X,r,_,_=>⟨μ,F,[],r,rfl,fun ν=>.nil,fun vs h=>h.nil_inv.1,GoesL.refl μ⟩
 | j::ks,cs::cells,st,μ,F,X,r,nd,h=>by
   rw [List.nodup_cons] at nd;obtain ⟨h1,h2,h3⟩:=h;obtain ⟨μ1,F1,l,ws,r1,hl,q1,hp,g1⟩:=r.giveC h1 h2;obtain ⟨μ2,F2,ls,r2,e2,o2,hp2,g2⟩:=Rl.giveCs (st:=⟨st.tm,st.so.set j .dead,st.n⟩) r1 nd.2 (cellsAre_set nd.1 h3);refine ⟨μ2,F2,l::ls,r2.permX ?_,by simp [e2],fun ν=>?_,fun vs hv=>?_,g1.trans g2⟩
   ·simp only [List.cons_append];exact List.perm_middle
   ·simpa using OL.cell (μ0:=ν) hl q1.any (o2 ν)
   ·obtain ⟨v,vs',G1,G2,rfl,hF,k1,k2⟩:=hv.uncons;have hF':=hF.symm;rw [List.append_eq_nil_iff] at hF';rw [hF'.1] at k1;rw [hF'.2] at k2;rw [hp v k1,hp2 vs' (k2.goes g1)];rfl
 | [],_::_,_,_,_,_,_,_,h=>h.elim
 | _::_,[],_,_,_,_,_,_,h=>h.elim
theorem ptrs_ok {ls:List Nat} {ν:List Hd}:∀ {n:Nat} {js:List Nat},js.length=n→(∀ i (hi:i<js.length),∃ l,ls[i]?=some l∧ν[js[i]]?=some (.cell l))→ls.length=n→RL P H ν (js.map fun j=>.rptr j 0) (ls.map fun l=>.ptr l 0) []:=by
 intro n js
 induction js generalizing ls n with
 | nil =>
   intro h1 _ h3;have:ls=[]:=List.length_eq_zero_iff.1 (by simp at h1;omega);subst this;exact .nil
 | cons j js ih =>
   intro h1 h2 h3
   cases ls with
   | nil=>simp at h1 h3;omega
   | cons l ls =>
     obtain ⟨l',e1,e2⟩:=h2 0 (by simp);simp only [List.getElem?_cons_zero,Option.some.injEq] at e1;subst e1;refine .rptr e2 (fun l e=>by cases e;rfl) (ih (n:=js.length) rfl (fun i hi=>?_) (by simp at h1 h3;omega));obtain ⟨l',e1,e2⟩:=h2 (i+1) (by simpa using hi);exact ⟨l',by simpa using e1,by simpa using e2⟩
theorem range_core {kf:FuncId} {ca:List D} {cv:List V} {cells xs:List (List D)} (hG:VGC T kf ca cells xs) {S:Nat→List Ob→Prop} {Xe:Ex→List Ob→Prop} {tm:List (Nat×D)} {n:Nat} {l:Nat} {ls ex:List Nat} {C:LC} (ht:C.tmps=a.tmps)
  (h0:S 0 so) (hx:∀ x,x∈xs→x.length=C.params.length) (hs:∀ i x so',xs[i]?=some x→S i so'→RB T C.assign C.body (putAllD ⟨tm,so',n⟩ (C.params.zip x)) (S (i+1)) Xe)
  (r:Rl g ⟨tm,so,n⟩ a H P μ F (l::(ex++ls))) (hl:H.get l=some (loopO .ready none C)) (hex:∀ r,r∈ex→H.get r=some (.deferred (some []))) (hU:∀ r,r∈ex→g.U r) (hls:ls.length=cells.length)
  (ol:∀ ν:List Hd,OL P H ν (ls.map .cell) (cells.map .cell) ls) (hca:RL P H (ls.map .cell++[.dead]) ca cv []) :
  CallsTo T kf (.func (.yield l) [] []::cv) H fun _ H2=>∃ sl p e so3 P3 μ3 F3,H2.get l=some (loopO sl p C)∧sl≠.busy∧(p=none∧e=.normal∧S xs.length so3∨exP e=p∧p.isSome∧Xe e so3) ∧
   Rl g ⟨tm,so3,n⟩ ⟨a.tmps,ex.map Go.Am.D.collected++a.defers⟩ (H2.put l (loopO .exhausted p C)) P3 μ3 F3 []:=by
 have hn:a.tmps.n=n:=r.nt;have hv:=hG l (fun i=>KS tm a l ex C μ .ready none (S i)) (KE tm a l ex C μ Xe) (fun i=>KS.stb _ _ _ _ _ _ _ _ _) (KE.stb _ _ _ _ _ _ _) (fun i x hix=>yl_of ht hn (hx x (List.mem_of_getElem? hix)) fun so' hS=>hs i x so' hix hS)
 have perm:((l::(ex++ls))++F).Perm (ls++((l::(ex++F))++[])):=by
  rw [List.append_nil,List.cons_append,List.append_assoc];refine List.Perm.trans (List.Perm.cons l ?_) List.perm_middle.symm;rw [← List.append_assoc,← List.append_assoc];exact List.perm_append_comm.append_right F
 have hmem:∀ j,j∈ls++((l::(ex++F))++[])→j∈(l::(ex++ls))++F:=fun j h=>perm.mem_iff.2 h;have hk0:KS tm a l ex C μ .ready none (S 0) P (l::(ex++F)) H:=⟨so,μ,F,h0,rfl,r.obs,r.tms,GoesL.refl μ,hl,hex⟩
 have olit:OL P H (ls.map .cell++[.dead]) (ls.map .cell++[.dead]) (cells.map .cell++[.ghost (KS tm a l ex C μ .ready none (S 0))]) (ls++((l::(ex++F))++[])):=by
  refine (ol _).app (.ghost (KS.stb _ _ _ _ _ _ _ _ _) hk0 (fun j hj=>?_) .nil);have:j=l∨j∈ex∨j∈F:=by simpa using hj
  rcases this with rfl | h | h
  ·exact ⟨_,hl⟩
  ·exact ⟨_,hex j h⟩
  ·exact r.obs.get j h
 have hargs:RL P H (ls.map .cell++[.dead]) (.atom (.func (.yield l) [] [])::ca) (.func (.yield l) [] []::cv) []:=.atom hca;refine (hv P H _ _ _ r.wf r.pl olit (perm.nodup r.nodup) (fun j hj=>⟨r.apart j (hmem j hj),r.lt j (hmem j hj)⟩) hargs).mono fun v H2 hpost=>?_;obtain ⟨d2,so2,P2,μ2,F2,hR,_,ol2,gl2,nd2,q2,q3,q4,q5⟩:=hpost
 have q2':∀ j,j∈F2→¬ P2 j∧(j∈(l::(ex++ls))++F∨H.n≤j)∧j<H2.n:=fun j hj=>by
  obtain ⟨h1,h2,h3⟩:=q2 j hj;exact ⟨h1,h2.imp (hmem j) id,h3⟩
 have q4':∀ j,P2 j→(P j∨j∈(l::(ex++ls))++F∨H.n≤j)∧∃ o,H2.get j=some o:=fun j hj=>by
  obtain ⟨h1,h2⟩:=q4 j hj;exact ⟨h1.imp id fun h=>h.imp (hmem j) id,h2⟩
 have q5':ExtB (fun j=>j∈(l::(ex++ls))++F) H H2:=q5.weaken hmem
 have fin:∀ (sl:LoopState) (p:Option Code) (S':List Ob→Prop) (Fk:List Nat),KS tm a l ex C μ sl p S' P2 Fk H2→(∀ j,j∈Fk→j∈F2)→Fk.Nodup→∃ so3 P3 μ3 F3,H2.get l=some (loopO sl p C)∧S' so3 ∧
   Rl g ⟨tm,so3,n⟩ ⟨a.tmps,ex.map Go.Am.D.collected++a.defers⟩ (H2.put l (loopO .exhausted p C)) P3 μ3 F3 []:=by
  rintro sl p S' Fk ⟨so3,μ3,F3,hS,rfl,ol3,tms3,gl3,hl3,hex3⟩ sub ndk;have ndk':([l]++(ex++F3)).Nodup:=ndk;have n5:=nodup3.1 ndk';have lt2:=Heap.lt hl3;have lF3:¬ l∈F3:=(n5.2.2.2.1 l (by simp)).2;have lP2:¬ P2 l:=(q2' l (sub l (by simp))).1
  have k3:∀ j o,(P2 j∨j∈F3)→H2.get j=some o→(H2.put l (loopO .exhausted p C)).get j=some o:=fun j o hj e=>by
   rw [Heap.get_put_ne (show ¬ j=l from fun e=>hj.elim (e ▸ lP2) (e ▸ lF3))];exact e
  have s3:∀ j,j∈F3→j∈F2:=fun j h=>sub j (by simp [h]);refine ⟨so3,P2,μ3,F3,hl3,hS,{ wf:=q5.wf.put lt2 _,nt:=hn,nd:=?_,tms:=fun t=>(tms3 t).keep fun j o hj e=>k3 j o (hj.imp id fun h=>by cases h) e,obs:=ol3.keep k3,nodup:=n5.2.2.1,apart:=fun j h=>(q2' j (s3 j h)).1,old:=fun j h=>?_,lt:=fun j h=>by rw [Heap.n_put];exact (q2' j (s3 j h)).2.2,p1:=fun j p=>q3 j (r.p1 j p),p2:=fun j p=>?_,pl:=fun j p=>(q4' j p).2.elim fun o e=>⟨o,k3 j o (.inl p) e⟩,ext:=(r.ext.trans' q5' fun j h=>r.old j h).put (r.old l (by simp)) lt2 _,gl:=r.gl.trans gl3 }⟩
  ·obtain ⟨ds,d1,d2,d3⟩:=r.nd;refine ⟨ex++ds,?_,by simp [d2],fun j hj=>?_⟩
   ·rw [List.nodup_append];exact ⟨n5.2.1,d1,fun x hx y hy e=>by subst e;exact (d3 x hy).2.2.2 (by simp [hx])⟩
   ·rcases List.mem_append.1 hj with h | h
    ·exact ⟨by rw [Heap.get_put_ne (show ¬ j=l from fun e=>(n5.2.2.2.1 l (by simp)).1 (e ▸ h))];exact hex3 j h,hU j h,(q2' j (sub j (by simp [h]))).1,by simpa using n5.2.2.2.2 j h⟩
    ·obtain ⟨e1,e2,e3,e4⟩:=d3 j h;have ltj:=Heap.lt e1;refine ⟨?_,e2,fun p=>?_,fun m=>?_⟩
     ·rw [Heap.get_put_ne (show ¬ j=l from fun e=>e4 (by simp [e]))];exact q5'.get _ _ e4 e1
     ·rcases (q4' j p).1 with h | h | h
      ·exact e3 h
      ·exact e4 h
      ·omega
     ·rcases (q2' j (s3 j (by simpa using m))).2.1 with h | h
      ·exact e4 h
      ·omega
  ·rcases (q2' j (s3 j h)).2.1 with h | h
   ·exact r.old j h
   ·exact .inr (Nat.le_trans r.ext.n h)
  ·rcases (q4' j p).1 with h | h | h
   ·exact r.p2 j h
   ·exact .inr (r.old j h)
   ·exact .inr (.inr (Nat.le_trans r.ext.n h))
 rcases hR with hR | hR
 ·obtain ⟨x,A,Fk,B,hx',rfl,o1,_⟩:=ol2.at hR;obtain ⟨rfl,_,kk,_⟩:=o1.ghostInv;obtain ⟨so3,P3,μ3,F3,h1,h2,h3⟩:=fin .ready none _ Fk kk (fun j h=>by simp [h]) (nodup3.1 nd2).2.1;exact ⟨.ready,none,.normal,so3,P3,μ3,F3,h1,by simp,.inl ⟨rfl,rfl,h2⟩,h3⟩
 ·obtain ⟨x,A,Fk,B,hx',rfl,o1,_⟩:=ol2.at hR;obtain ⟨rfl,_,⟨e,p,he,kk⟩,_⟩:=o1.ghostInv;obtain ⟨so3,P3,μ3,F3,h1,h2,h3⟩:=fin .done (some p) _ Fk kk (fun j h=>by simp [h]) (nodup3.1 nd2).2.1;exact ⟨.done,some p,e,so3,P3,μ3,F3,h1,by simp,.inr ⟨he,rfl,h2⟩,h3⟩
theorem range_go {t:Tmp} {params:Array Tmp} {assign body:Code} {kf:FuncId} {ca:List D} {cv:List V} {cells xs:List (List D)} {so1:List Ob} {μ1:List Hd} {F1 ls:List Nat} (hG:VGC T kf ca cells xs) (hp:T.prim kf=none) (hU:Rho g) (S:Nat→List Ob→Prop) (Xe:Ex→List Ob→Prop)
  (hx:∀ x,x∈xs→x.length=params.size) (h0:S 0 so1)
  (hs:∀ i x so',xs[i]?=some x→S i so'→RB T assign body (putAllD ⟨st.tm,so',st.n⟩ (params.toList.zip x)) (S (i+1)) Xe)
  (h1:∀ so',S xs.length so'→SU g T k .normal Q ⟨st.tm,so',st.n⟩) (h2:∀ e so',Xe e so'→SU g T k e Q ⟨st.tm,so',st.n⟩)
  (r:ExtB g.B g.H0 H) (hl0:∀ l,g.ρ=some l→∃ s p C,H.get l=some (loopO s p C)) (r1:Rl g ⟨st.tm,so1,st.n⟩ a H P μ1 F1 ls) (e1:ls.length=cells.length) (ol:∀ ν:List Hd,OL P H ν (ls.map .cell) (cells.map .cell) ls)
  (hca:∀ H',Ext H H'→RL P H' (ls.map .cell++[.dead]) ca cv []) (hev:a.eval (.tmp t)=some (.func (.func kf) [] cv)):WpK T g.ρ (.rangeFunc (.tmp t) params assign body) k a H Q:=by
 have fin:∀ {C:LC} {H2:Heap} {l:Nat} {ex:List Nat},(∃ sl p e so3 P3 μ3 F3,H2.get l=some (loopO sl p C)∧sl≠.busy∧(p=none∧e=.normal∧S xs.length so3∨exP e=p∧p.isSome∧Xe e so3) ∧
   Rl g ⟨st.tm,so3,st.n⟩ ⟨a.tmps,ex.map Go.Am.D.collected++a.defers⟩ (H2.put l (loopO .exhausted p C)) P3 μ3 F3 [])→∃ sl p C,H2.get l=some (loopO sl p C)∧sl≠.busy∧after T g.ρ k Q p ⟨a.tmps,ex.map Go.Am.D.collected++a.defers⟩ (H2.put l (loopO .exhausted p C)):=by
  rintro C H2 l ex ⟨sl,p,e,so3,P3,μ3,F3,hg,hb,hh,r3⟩;refine ⟨sl,p,C,hg,hb,?_⟩;rcases hh with ⟨rfl,rfl,hS⟩ | ⟨he,hsm,hX⟩
  ·exact h1 so3 hS _ _ _ _ _ r3
  ·have:=h2 e so3 hX _ _ _ _ _ r3
   cases e with
   | ret=>cases he;exact this
   | exit id=>cases he;exact this
   | _=>simp only [exP] at he;rw [← he] at hsm;cases hsm
 cases hρ:g.ρ with
 | none =>
   refine wpK_rangeFunc (kf:=kf) (args:=.func (.yield (H.n+1)) [] []::cv) hev rfl hp ?_;obtain ⟨r2,e2⟩:=r1.push (.deferred (some []));obtain ⟨r3,e3⟩:=r2.push (loopO .ready none ⟨0,a.tmps,params.toList,assign,body,H.n⟩)
   have hd:((H.push (.deferred (some []))).push (loopO .ready none ⟨0,a.tmps,params.toList,assign,body,H.n⟩)).get H.n=some (.deferred (some [])):=by
    rw [Heap.get_push,if_neg (by simp)];exact e2
   have:=range_core (a:=a) (C:=⟨0,a.tmps,params.toList,assign,body,H.n⟩) (ex:=[H.n]) (l:=H.n+1) hG (S:=S) (Xe:=Xe) rfl h0 (by simpa using hx) hs (by simpa using r3) (by simpa using e3) (by simpa using hd) (by simpa using hU.no hρ H.n r.n) e1 (fun ν=>(ol ν).keep fun j o _ e=>by
    have ltj:=Heap.lt e;rw [Heap.get_push,if_neg (by simp;omega),Heap.get_push,if_neg (by omega)];exact e) (hca _ (((Ext.refl r1.wf).push _).push _))
   refine this.mono fun v H2 hh=>?_;have:=fin (ex:=[H.n]) hh;rw [hρ] at this;exact this
 | some l0 =>
   obtain ⟨s0,p0,C0,hC⟩:=hl0 l0 hρ;refine wpK_rangeFunc2 hC (kf:=kf) (args:=.func (.yield H.n) [] []::cv) hev rfl hp ?_;obtain ⟨r3,e3⟩:=r1.push (loopO .ready none ⟨0,a.tmps,params.toList,assign,body,C0.ds⟩)
   have:=range_core (a:=a) (C:=⟨0,a.tmps,params.toList,assign,body,C0.ds⟩) (ex:=[]) (l:=H.n) hG (S:=S) (Xe:=Xe) rfl h0 (by simpa using hx) hs (by simpa using r3) e3 (by simp) (by simp) e1 (fun ν=>(ol ν).keep fun j o _ e=>by
    have ltj:=Heap.lt e;rw [Heap.get_push,if_neg (by omega)];exact e) (hca _ ((Ext.refl r1.wf).push _))
   refine this.mono fun v H2 hh=>?_;have:=fin (ex:=[]) hh;rw [hρ] at this;exact this
theorem sk_range {t:Tmp} {params:Array Tmp} {assign body:Code} {kf:FuncId} {cells xs:List (List D)} (ks:List Nat) (hG:VG T kf cells xs) (hp:T.prim kf=none) (hU:Rho g) (S:Nat→List Ob→Prop) (Xe:Ex→List Ob→Prop)
  (ht:tget st.tm t=.fn kf [] (ks.map fun j=>.rptr j 0)) (hks:ks.Nodup) (hc:cellsAre st.so ks cells) (hx:∀ x,x∈xs→x.length=params.size) (h0:S 0 (kills st.so ks))
  (hs:∀ i x so',xs[i]?=some x→S i so'→RB T assign body (putAllD ⟨st.tm,so',st.n⟩ (params.toList.zip x)) (S (i+1)) Xe)
  (h1:∀ so',S xs.length so'→SU g T k .normal Q ⟨st.tm,so',st.n⟩) (h2:∀ e so',Xe e so'→SU g T k e Q ⟨st.tm,so',st.n⟩):SK g T (.rangeFunc (.tmp t) params assign body) k st Q:=by
 intro a H P μ F r;have hv:=r.tms t;rw [ht] at hv;obtain ⟨us,ws,G1,G2,ev,hF,q1,q2⟩:=hv.fnInv;have hF':=hF.symm;rw [List.append_eq_nil_iff] at hF';rw [hF'.2] at q2;obtain ⟨rfl,_⟩:=q1.nil_inv;obtain ⟨μ1,F1,ls,r1,e1,ol,hptr,g1⟩:=r.giveCs hks hc;have ew:=hptr ws q2;subst ew;have hev:a.eval (.tmp t)=some (.func (.func kf) [] (ls.map fun l=>.ptr l 0)):=by rw [← ev];rfl
 rw [List.append_nil] at r1;refine range_go hG hp hU S Xe hx h0 hs h1 h2 r.ext (fun l h=>?_) r1 e1 ol (fun H' _=>?_) hev
 ·obtain ⟨hB,s0,p0,C0,hC⟩:=hU.lp l h;exact ⟨s0,p0,C0,r.ext.get _ _ hB hC⟩
 ·refine ptrs_ok (n:=cells.length) (by simp) (fun i hi=>?_) e1;have hi':i<ls.length:=by simp at hi;omega
  refine ⟨ls[i],by simp [hi'],?_⟩;simp only [List.getElem_range];rw [List.getElem?_append_left (by simpa using hi')];simp [hi']
theorem sk_rangeI {t:Tmp} {params:Array Tmp} {assign body:Code} {kf:FuncId} {caps:List D} {xs:List (List D)} (hG:VGC T kf caps [] xs) (hp:T.prim kf=none) (hU:Rho g) (S:Nat→List Ob→Prop) (Xe:Ex→List Ob→Prop)
  (ht:tget st.tm t=.fn kf [] caps) (hnl:nlL caps=true) (hx:∀ x,x∈xs→x.length=params.size) (h0:S 0 st.so)
  (hs:∀ i x so',xs[i]?=some x→S i so'→RB T assign body (putAllD ⟨st.tm,so',st.n⟩ (params.toList.zip x)) (S (i+1)) Xe)
  (h1:∀ so',S xs.length so'→SU g T k .normal Q ⟨st.tm,so',st.n⟩) (h2:∀ e so',Xe e so'→SU g T k e Q ⟨st.tm,so',st.n⟩):SK g T (.rangeFunc (.tmp t) params assign body) k st Q:=by
 intro a H P μ F r;have hv:=r.tms t;rw [ht] at hv;obtain ⟨us,ws,G1,G2,ev,hF,q1,q2⟩:=hv.fnInv;have hF':=hF.symm;rw [List.append_eq_nil_iff] at hF';rw [hF'.2] at q2;obtain ⟨rfl,_⟩:=q1.nil_inv;have hev:a.eval (.tmp t)=some (.func (.func kf) [] ws):=by rw [← ev];rfl
 refine range_go (ls:=[]) hG hp hU S Xe hx h0 hs h1 h2 r.ext (fun l h=>?_) r rfl (fun ν=>.nil) (fun H' x=>(q2.nl hnl).perm_keep x) hev;obtain ⟨hB,s0,p0,C0,hC⟩:=hU.lp l h;exact ⟨s0,p0,C0,r.ext.get _ _ hB hC⟩
end Go.Am.Vm

namespace Go.Am.Vm
open Go.Am
variable {T:Tab} {P P':Nat→Prop} {H H':Heap} {μ μ' μ0:List Hd} {ds es cs:List D} {vs ws us:List V} {F G X F' X':List Nat} {d:D} {v:V} {so so':List Ob} {ob:Ob} {hs gs:List Hd} {obs ots:List Ob} {g:Gh} {st:St} {a:A} {kf:List Fr} {Q:Qt} {tm:List (Nat×D)} {n:Nat}
theorem set_eq_split {α:Type} {l:List α} {p:Nat} {x:α} (h:l[p]?=some x):l=l.take p++x::l.drop (p+1)∧∀ y,l.set p y=l.take p++y::l.drop (p+1):=by
 have hlt:=get_lt h;have hx:l[p]=x:=by rw [List.getElem?_eq_getElem hlt] at h;exact Option.some.inj h
 have e:l=l.take p++x::l.drop (p+1):=by
  conv=>lhs;rw [← List.take_append_drop p l]
  rw [List.drop_eq_getElem_cons hlt,hx]
 refine ⟨e,fun y=>?_⟩
 conv=>lhs;rw [e]
 rw [List.set_append_right _ _ (by rw [List.length_take];omega),List.length_take,Nat.min_eq_left (Nat.le_of_lt hlt),Nat.sub_self,List.set_cons_zero]
theorem RL.atF (h:RL P H μ ds vs F) {p:Nat} (hp:ds[p]?=some d):∃ v F1 Fv F2,F=F1++(Fv++F2)∧vs[p]?=some v∧RL P H μ [d] [v] Fv∧∀ (ν:List Hd) (d':D) (Fv':List Nat),GoesL μ ν→RL P H ν [d'] [v] Fv'→RL P H ν (ds.set p d') vs (F1++(Fv'++F2)):=by
 obtain ⟨e1,e2⟩:=set_eq_split hp;rw [e1] at h;obtain ⟨w1,w2,F1,F2,rfl,rfl,r1,r2⟩:=h.split;obtain ⟨v,w3,F3,F4,rfl,rfl,r3,r4⟩:=r2.uncons;have hl:=r1.len;rw [List.length_take,Nat.min_eq_left (Nat.le_of_lt (get_lt hp))] at hl;refine ⟨v,F1,F3,F4,rfl,by rw [List.getElem?_append_right (by omega),← hl];simp,r3,fun ν d' Fv' hg r5=>?_⟩;rw [e2];have:=(r1.goes hg).app (r5.app (r4.goes hg));simpa using this
theorem flat_set {s:Nat}:∀ {rows:List (List D)} (he:∀ e,e∈rows→e.length=s) {j c:Nat} {e:List D} (hj:rows[j]?=some e) (hc:c<s),rows.flatten[j * s+c]?=e[c]?∧∀ d,(rows.set j (e.set c d)).flatten=rows.flatten.set (j * s+c) d
 | [],_,_,_,_,hj,_=>by simp at hj
 | x::rows,he,0,c,e,hj,hc=>by
   simp only [List.getElem?_cons_zero,Option.some.injEq] at hj;subst hj;have hx:=he x (by simp);refine ⟨?_,fun d=>?_⟩
   ·rw [Nat.zero_mul,Nat.zero_add,List.flatten_cons,List.getElem?_append_left (by omega)]
   ·rw [Nat.zero_mul,Nat.zero_add,List.set_cons_zero,List.flatten_cons,List.flatten_cons,List.set_append_left _ _ (by omega)]
 | x::rows,he,j+1,c,e,hj,hc=>by
   simp only [List.getElem?_cons_succ] at hj;have hx:=he x (by simp);obtain ⟨h1,h2⟩:=flat_set (fun e h=>he e (by simp [h])) hj hc;have e1:(j+1) * s+c=x.length+(j * s+c):=by rw [hx,Nat.add_mul];omega
   refine ⟨?_,fun d=>?_⟩
   ·rw [e1,List.flatten_cons,List.getElem?_append_right (by omega),Nat.add_sub_cancel_left,h1]
   ·rw [List.set_cons_succ,List.flatten_cons,List.flatten_cons,h2,e1,List.set_append_right _ _ (by omega),Nat.add_sub_cancel_left]
theorem OL.atG {k:Nat} (h:OL P H μ0 hs obs F) (hk:obs[k]?=some ob):∃ x F1 Fk F2,hs[k]?=some x∧F=F1++(Fk++F2)∧OL P H μ0 [x] [ob] Fk ∧
  ∀ (ν:List Hd) (P':Nat→Prop) (H':Heap) (x':Hd) (ob':Ob) (F':List Nat),GoesL μ0 ν→(∀ l,P l→P' l)→OL P' H' ν [x'] [ob'] F'→(∀ l o,(P l∨l∈F1∨l∈F2)→H.get l=some o→H'.get l=some o)→OL P' H' ν (hs.set k x') (obs.set k ob') (F1++(F'++F2)):=by
 have hlt:k<obs.length:=by
  rcases Nat.lt_or_ge k obs.length with h | h
  ·exact h
  ·rw [List.getElem?_eq_none h] at hk;cases hk
 have hd:obs[k]=ob:=by rw [List.getElem?_eq_getElem hlt] at hk;exact Option.some.inj hk
 have e:obs=obs.take k++ob::obs.drop (k+1):=by rw [← hd];simp
 rw [e] at h;obtain ⟨h1,h2,F1,F2,rfl,rfl,o1,o2⟩:=h.split;obtain ⟨x,h3,F3,F4,rfl,rfl,o3,o4⟩:=o2.uncons;have hl:=o1.len;rw [List.length_take,Nat.min_eq_left (Nat.le_of_lt hlt)] at hl;refine ⟨x,F1,F3,F4,by rw [List.getElem?_append_right (by omega),hl];simp,rfl,o3,?_⟩;intro ν P' H' x' ob' F' hg hp o5 hk';have e2:(h1++x::h3).set k x'=h1++x'::h3:=by rw [List.set_append_right _ _ (by omega),hl];simp
 have e3:obs.set k ob'=obs.take k++ob'::obs.drop (k+1):=by
  conv=>lhs;rw [e]
  rw [List.set_append_right _ _ (by rw [List.length_take];omega),List.length_take,Nat.min_eq_left (Nat.le_of_lt hlt)];simp
 rw [e2,e3];have o1':=((o1.keep (H':=H') fun l o hl=>hk' l o (hl.imp id .inl)).weakP hp).goes hg;have o4':=((o4.keep (H':=H') fun l o hl=>hk' l o (hl.imp id .inr)).weakP hp).goes hg;have:=o1'.app (o5.app o4');simpa using this
theorem le_promote {k s j c s':Nat} {rs:List (List D)} {e:List D} {rows:List (List D)} (hk:so[k]?=some (.sl s rs)) (hj:rs[j]?=some e) (hc:e[c]?=some (.fresh s' rows)) :
  Le g ⟨tm,so,n⟩ ⟨tm,so.set k (.sl s (rs.set j (e.set c (.own so.length rows.length))))++[.sl s' rows],n⟩:=by
 intro a H P μ F r;obtain ⟨x,F1,Fk,F2,hx,rfl,o1,put⟩:=r.obs.atG hk;rcases o1.slInv with ⟨_,rfl,_⟩ | ⟨l,q,pre,ws,rest,F',rfl,rfl,g',r',el,u1,cq⟩
 ·simp at hj
 have hcs:c<s:=by have:=get_lt hc;rw [el e (List.mem_of_getElem? hj)] at this;exact this
 obtain ⟨f1,f2⟩:=flat_set el hj hcs;rw [hc] at f1;obtain ⟨v,A,Fv,B,rfl,ev,q1,put2⟩:=r'.atF f1;have hlen:μ.length=so.length:=r.obs.len
 have key:∃ y,(∀ ν:List Hd,OL P H ν [y] [.sl s' rows] Fv)∧∀ ν:List Hd,ν[so.length]?=some y→RL P H ν [.own so.length rows.length] [v] []:=by
  rcases q1.freshInv with ⟨rfl,rfl,rfl⟩ | ⟨l2,q2,pre2,ws2,rest2,F2',rfl,rfl,h1,h2,h3,h4,h5⟩
  ·exact ⟨.sl .nilSlice 0 s',fun ν=>.slNil .nil,fun ν hν=>RL.own1 hν fun w m z e=>by cases e;exact ⟨Nat.le_refl _,fun _=>rfl⟩⟩
  ·exact ⟨.sl (.slice l2 pre2.length rows.length s' q2) rows.length s',fun ν=>by simpa using OL.sl (μ0:=ν) (hs:=[]) (obs:=[]) (G:=[]) h1 h2.any h3 h4 h5 .nil,fun ν hν=>RL.own1 hν fun w m z e=>by cases e;exact ⟨Nat.le_refl _,fun _=>rfl⟩⟩
 obtain ⟨y,oy,qy⟩:=key;have gl:GoesL μ (μ++[y]):=GoesL.app μ [y];have hy:(μ++[y])[so.length]?=some y:=by rw [← hlen,List.getElem?_append_right (Nat.le_refl _)];simp
 have row2:=put2 (μ++[y]) _ [] gl (qy _ hy);rw [← f2] at row2
 have el2:∀ e',e'∈rs.set j (e.set c (.own so.length rows.length))→e'.length=s:=fun e' he'=>by
  rcases List.mem_or_eq_of_mem_set he' with h | rfl
  ·exact el _ h
  ·rw [List.length_set];exact el e (List.mem_of_getElem? hj)
 have ok:OL P H (μ++[y]) [.sl (.slice l pre.length rs.length s q) rs.length s] [.sl s (rs.set j (e.set c (.own so.length rows.length)))] (l::(A++B)):=by
  have:=OL.sl (hs:=[]) (obs:=[]) (G:=[]) g' row2 el2 u1 (fun m hm=>by rw [List.length_set];exact cq m hm) .nil;rw [List.length_set] at this;simpa using this
 have o2:=put (μ++[y]) P H _ _ _ gl (fun l h=>h) ok fun l o _ e=>e;rw [set_same_hd hx] at o2;have cnt:∀ z,([]++((F1++(l::(A++B)++F2))++Fv)).count z≤([]++(F1++(l::(A++(Fv++B))++F2))).count z:=fun z=>by simp only [List.count_append,List.count_cons,List.count_nil,List.cons_append];omega
 exact ⟨P,μ++[y],(F1++(l::(A++B)++F2))++Fv,{ wf:=r.wf,nt:=r.nt,nd:=r.nd.same fun j h=>mem_le cnt h,tms:=fun t=>(r.tms t).goes gl,obs:=o2.app (oy _),nodup:=nodup_le r.nodup cnt,apart:=fun j h=>r.apart j (mem_le cnt h),old:=fun j h=>r.old j (mem_le cnt h),lt:=fun j h=>r.lt j (mem_le cnt h),p1:=r.p1,p2:=r.p2,pl:=r.pl,ext:=r.ext,gl:=r.gl.trans gl }⟩
theorem sk_promote {c0:Code} {k s j c s':Nat} {rs:List (List D)} {e:List D} {rows:List (List D)} (k':Nat) (j' c':Nat) (hkj:k'=k∧j'=j∧c'=c) (hk:so[k]?=some (.sl s rs)) (hj:rs[j]?=some e) (hc:e[c]?=some (.fresh s' rows))
  (h:SK g T c0 kf ⟨tm,so.set k (.sl s (rs.set j (e.set c (.own so.length rows.length))))++[.sl s' rows],n⟩ Q):SK g T c0 kf ⟨tm,so,n⟩ Q:=sk_le (le_promote hk hj hc) h
theorem le_kill {k:Nat} (hk:k<so.length):Le g ⟨tm,so,n⟩ ⟨tm,so.set k .dead,n⟩:=by
 intro a H P μ F r;obtain ⟨x,F1,Fk,F2,hx,rfl,o1,put⟩:=r.obs.at (List.getElem?_eq_getElem hk);have gl:GoesL μ (μ.set k .dead):=GoesL.set hx (Goes.dead _);have o2:=(put P H .dead .dead [] (fun l h=>h) (.dead .nil) fun l o _ h=>h).goes gl;have cnt:∀ z,([]++(F1++([]++F2))).count z≤([]++(F1++(Fk++F2))).count z:=fun z=>by simp only [List.count_append,List.count_nil];omega
 exact ⟨P,μ.set k .dead,F1++([]++F2),{ wf:=r.wf,nt:=r.nt,nd:=r.nd.same fun j h=>mem_le cnt h,tms:=fun t=>(r.tms t).goes gl,obs:=o2,nodup:=nodup_le r.nodup cnt,apart:=fun j h=>r.apart j (mem_le cnt h),old:=fun j h=>r.old j (mem_le cnt h),lt:=fun j h=>r.lt j (mem_le cnt h),p1:=r.p1,p2:=r.p2,pl:=r.pl,ext:=r.ext,gl:=r.gl.trans gl }⟩
theorem le_kills:∀ {ks:List Nat} {so:List Ob},(∀ k,k∈ks→k<so.length)→Le g ⟨tm,so,n⟩ ⟨tm,kills so ks,n⟩
 | [],so,_=>Le.refl _ _
 | k::ks,so,h=>(le_kill (h k (by simp))).trans (le_kills (so:=so.set k .dead) fun j hj=>by rw [List.length_set];exact h j (by simp [hj]))
/-! ### Variables that are no longer written to -/
/- In reach of a variable: pointers to it are pointers to what is only read. -/
mutual
def fzD (k:Nat) (cs:List D):D→D
 | .rptr j c=>if j=k then .iptr cs c else .rptr j c
 | .agg ds=>.agg (fzL k cs ds)
 | .tuple ds=>.tuple (fzL k cs ds)
 | .iface t d=>.iface t (fzD k cs d)
 | .fn f u w=>.fn f (fzL k cs u) (fzL k cs w)
 | d=>d
def fzL (k:Nat) (cs:List D):List D→List D
 | []=>[]
 | d::ds=>fzD k cs d::fzL k cs ds
end
theorem fzL_len (k:Nat) (cs:List D):∀ ds:List D,(fzL k cs ds).length=ds.length
 | []=>rfl
 | d::ds=>by simp [fzL,fzL_len k cs ds]
theorem fzL_map (k:Nat) (cs:List D):∀ ds:List D,fzL k cs ds=ds.map (fzD k cs)
 | []=>rfl
 | d::ds=>by simp [fzL,fzL_map k cs ds]
theorem RL.fz {l k:Nat} {cs:List D} {ws:List V} (hp:∀ j,P j→P' j) (hl:P' l) (hg:H.get l=some (.cells false ws)) (hc:RL P' H [] cs ws []) (hk:μ[k]?=some (.cell l)) (h:RL P H μ ds vs F):RL P' H (μ.set k .dead) (fzL k cs ds) vs F:=by
 have gl:GoesL μ (μ.set k .dead):=GoesL.set hk (Goes.dead _)
 induction h with
 | nil=>exact .nil
 | unk h ih=>exact .unk (ih hk gl)
 | atom h ih=>exact .atom (ih hk gl)
 | agg h1 h2 i1 i2=>exact .agg (i1 hk gl) (i2 hk gl)
 | tuple h1 h2 i1 i2=>exact .tuple (i1 hk gl) (i2 hk gl)
 | iface h1 h2 i1 i2=>exact .iface (i1 hk gl) (i2 hk gl)
 | fn h1 h2 h3 i1 i2 i3=>exact .fn (i1 hk gl) (i2 hk gl) (i3 hk gl)
 | immNil h ih=>exact .immNil (ih hk gl)
 | imm p g t r e u c h ir ih=>exact .imm (hp _ p) g t (r.weakP hp) e u c (ih hk gl)
 | iptr p g t r h ir ih=>exact .iptr (hp _ p) g t (r.weakP hp) (ih hk gl)
 | own m c h ih=>obtain ⟨h',e,g1,g2⟩:=gl _ _ m;exact .own e (fun w m s e=>by
   rcases g1 w m s e with rfl | ⟨w0,m0,rfl,hl⟩
   ·exact c _ _ _ rfl
   ·have:=(c _ _ _ rfl).1;exact ⟨by omega,fun h=>by omega⟩) (ih hk gl)
 | optr m c h ih=>obtain ⟨h',e,g1,g2⟩:=gl _ _ m;exact .optr e (fun w m s e=>by
   rcases g1 w m s e with rfl | ⟨w0,m0,rfl,hl⟩
   ·exact c _ _ _ rfl
   ·have:=(c _ _ _ rfl).1;exact ⟨by omega,fun h=>by omega⟩) (ih hk gl)
 | @rptr μ j c h v ds vs F m c' h ih =>
   simp only [fzL,fzD];split
   ·rename_i e;subst e;rw [hk] at m;cases m;rw [c' l rfl];have hlen:=hc.len;have tk:take? ws 0 cs.length=some ws:=by simp only [take?,cond_beq,hlen,List.drop_zero,List.take_length,if_true]
    have:=RL.iptr (μ:=μ.set j .dead) (b:=0) (o:=c) hl hg tk hc (ih hk gl);rw [Nat.zero_add] at this;exact this
   ·obtain ⟨h',e,g1,g2⟩:=gl _ _ m;exact .rptr e (fun l e=>c' l (g2 l e)) (ih hk gl)
 | @omap μ j h v ds vs F m c' h ih =>
   obtain ⟨h',e,g1,g2⟩:=gl _ _ m;exact .omap e (fun l e=>c' l (g2 l e)) (ih hk gl)
 | freshNil h ih=>exact .freshNil (ih hk gl)
 | fresh g r e u c h ir ih=>exact .fresh g (r.weakP hp) e u c (ih hk gl)
def fzO (k:Nat) (cs:List D):Ob→Ob
 | .cell ds=>.cell (fzL k cs ds)
 | .sl s es=>.sl s (es.map (fzL k cs))
 | .dead=>.dead
 | .ghost K=>.ghost K
 | .mp ms=>.mp (ms.map fun p=>(p.1,fzD k cs p.2))
def fzT (k:Nat) (cs:List D) (tm:List (Nat×D)):List (Nat×D):=tm.map fun p=>(p.1,fzD k cs p.2)
theorem fzT_get (k:Nat) (cs:List D):∀ (tm:List (Nat×D)) (t:Nat),tget (fzT k cs tm) t=fzD k cs (tget tm t)
 | [],t=>by simp [fzT,tget,fzD]
 | (i,d)::tm,t=>by
   have:=fzT_get k cs tm t;simp only [fzT,List.map_cons,tget] at this ⊢;split
   ·rfl
   ·exact this
theorem fzL_flatten (k:Nat) (cs:List D):∀ es:List (List D),(es.map (fzL k cs)).flatten=fzL k cs es.flatten
 | []=>rfl
 | e::es=>by
   have app:∀ a b:List D,fzL k cs (a++b)=fzL k cs a++fzL k cs b:=fun a=>by
    induction a with
    | nil=>intro b;rfl
    | cons d a ih=>intro b;simp only [List.cons_append,fzL,ih]
   simp only [List.map_cons,List.flatten_cons,app,fzL_flatten k cs es]
theorem OL.fz {l k:Nat} {cs:List D} {ws:List V} (hp:∀ j,P j→P' j) (hl:P' l) (hg:H.get l=some (.cells false ws)) (hc:RL P' H [] cs ws []) (hk:μ0[k]?=some (.cell l)) (h:OL P H μ0 hs obs F):OL P' H (μ0.set k .dead) hs (obs.map (fzO k cs)) F:=by
 induction h with
 | nil=>exact .nil
 | dead h ih=>exact .dead ih
 | ghost s kk e h ih=>exact .ghost s (s _ _ _ _ _ kk hp fun l o _ e=>e) e ih
 | slNil h ih=>exact .slNil ih
 | @sl l s q pre ws rest es hs obs F G g r e u c h ih =>
   have:=OL.sl (rest:=rest) (es:=es.map (fzL k cs)) (q:=q) (s:=s) g (by rw [fzL_flatten];exact RL.fz hp hl hg hc hk r) (fun e' he'=>by
    obtain ⟨e0,h0,rfl⟩:=List.mem_map.1 he';rw [fzL_len];exact e e0 h0) u (by rw [List.length_map];exact c) ih
   rw [List.length_map] at this;exact this
 | cell g r h ih=>exact .cell g (RL.fz hp hl hg hc hk r) ih
 | @mp l es ms hs obs G g e r h ih =>
   refine .mp g (by rw [e,List.map_map];rfl) ?_ ih;have q:=RL.fz hp hl hg hc hk r;rw [fzL_map] at q;rw [List.map_map] at q ⊢;exact q
theorem le_fz {k:Nat} {cs:List D} (hk:so[k]?=some (.cell cs)) (hn:nlL cs=true):Le g ⟨tm,so,n⟩ ⟨fzT k cs tm,(so.set k .dead).map (fzO k cs),n⟩:=by
 intro a H P μ F r;obtain ⟨x,F1,Fk,F2,hx,rfl,o1,put⟩:=r.obs.at hk;obtain ⟨l,ws,rfl,rfl,g',r'⟩:=o1.cellInv;have hp:∀ j,P j→(P j∨j=l):=fun j p=>.inl p;have rc:RL (fun j=>P j∨j=l) H [] cs ws []:=(r'.nl hn).weakP hp;have gl:GoesL μ (μ.set k .dead):=GoesL.set hx (Goes.dead _);have o2:=put P H .dead .dead [] (fun l h=>h) (.dead .nil) fun l o _ h=>h;have o3:=OL.fz (P':=fun j=>P j∨j=l) hp (.inr rfl) g' rc hx o2;have nd:=r.nodup;rw [List.nil_append] at nd;have n3:=nodup3.1 nd;have cnt:∀ z,([]++(F1++([]++F2))).count z≤([]++(F1++([l]++F2))).count z:=fun z=>by simp only [List.count_append,List.count_nil];omega
 have hl:g.B l∨g.H0.n≤l:=r.old l (by simp);refine ⟨fun j=>P j∨j=l,μ.set k .dead,F1++([]++F2),{ wf:=r.wf,nt:=r.nt,nd:=?_,tms:=fun t=>?_,obs:=o3,nodup:=nodup_le r.nodup cnt,apart:=fun j h=>?_,old:=fun j h=>r.old j (mem_le cnt h),lt:=fun j h=>r.lt j (mem_le cnt h),p1:=fun j p=>.inl (r.p1 j p),p2:=fun j p=>?_,pl:=fun j p=>?_,ext:=r.ext,gl:=r.gl.trans gl }⟩
 ·exact r.nd.to (fun _ u e _ _=>⟨e,u⟩) (fun j p=>p.imp id fun e=>.inl (by simp [e])) fun j h=>.inl (mem_le cnt h)
 ·have:=RL.fz (P':=fun j=>P j∨j=l) hp (.inr rfl) g' rc hx (r.tms t);simp only [fzL] at this;rw [fzT_get];exact this
 ·rintro (p | rfl)
  ·exact r.apart j (mem_le cnt h) p
  ·simp only [List.nil_append,List.mem_append] at h;rcases h with h | h
   ·exact (n3.2.2.2.1 j h).1 (by simp)
   ·exact n3.2.2.2.2 j (by simp) h
 ·rcases p with p | rfl
  ·exact r.p2 j p
  ·exact .inr hl
 ·rcases p with p | rfl
  ·exact r.pl j p
  ·exact ⟨_,g'⟩
theorem sk_fz {c:Code} (k:Nat) {cs:List D} (hk:so[k]?=some (.cell cs)) (hn:nlL cs=true) (h:SK g T c kf ⟨fzT k cs tm,(so.set k .dead).map (fzO k cs),n⟩ Q):SK g T c kf ⟨tm,so,n⟩ Q:=sk_le (le_fz hk hn) h
end Go.Am.Vm

namespace Go.Am.Vm
open Go.Am
variable {T:Tab} {P P':Nat→Prop} {H H':Heap} {μ μ':List Hd} {ds es:List D} {vs ws:List V} {F G X:List Nat} {d:D} {v:V} {f:FuncId} {R:D→Prop}
def dle0 (v:V):D→Prop
 | .atom w=>v=w
 | .fresh _ []=>v=.nilSlice
 | .imm _ []=>v=.nilSlice
 | _=>False
mutual
def dleD:D→D→Prop
 | .atom v,e=>dle0 v e
 | .agg ds,.agg es=>dleL ds es
 | .tuple ds,.tuple es=>dleL ds es
 | d,e=>d=e
def dleL:List D→List D→Prop
 | [],es=>es=[]
 | d::ds,e::es=>dleD d e∧dleL ds es
 | _,_=>False
end
mutual
theorem dleD_ok:∀ {d e:D} {v:V} {F:List Nat},dleD d e→RL P H μ [d] [v] F→RL P H μ [e] [v] F
 | .atom w,e,v,F,h,r=>by
   obtain ⟨rfl,rfl⟩:=r.atomInv;unfold dleD dle0 at h;split at h
   ·subst h;exact r
   ·subst h;exact .freshNil .nil
   ·subst h;exact .immNil .nil
   ·exact h.elim
 | .agg ds,e,v,F,h,r=>by
   obtain ⟨ws,rfl,q⟩:=r.aggInv;unfold dleD at h;split at h
   ·rename_i heq;cases heq
   ·rename_i heq;cases heq;exact (dleL_ok h q).agg1
   ·rename_i heq;cases heq
   ·subst h;exact r
 | .tuple ds,e,v,F,h,r=>by
   obtain ⟨ws,rfl,q⟩:=r.tupleInv;unfold dleD at h;split at h
   ·rename_i heq;cases heq
   ·rename_i heq;cases heq
   ·rename_i heq;cases heq;exact (dleL_ok h q).tuple1
   ·subst h;exact r
 | .unk,e,v,F,h,r=>by unfold dleD at h;subst h;exact r
 | .iface _ _,e,v,F,h,r=>by unfold dleD at h;subst h;exact r
 | .fn _ _ _,e,v,F,h,r=>by unfold dleD at h;subst h;exact r
 | .imm _ _,e,v,F,h,r=>by unfold dleD at h;subst h;exact r
 | .iptr _ _,e,v,F,h,r=>by unfold dleD at h;subst h;exact r
 | .own _ _,e,v,F,h,r=>by unfold dleD at h;subst h;exact r
 | .optr _ _ _ _,e,v,F,h,r=>by unfold dleD at h;subst h;exact r
 | .rptr _ _,e,v,F,h,r=>by unfold dleD at h;subst h;exact r
 | .omap _,e,v,F,h,r=>by unfold dleD at h;subst h;exact r
 | .fresh _ _,e,v,F,h,r=>by unfold dleD at h;subst h;exact r
theorem dleL_ok:∀ {ds es:List D} {vs:List V} {F:List Nat},dleL ds es→RL P H μ ds vs F→RL P H μ es vs F
 | [],es,vs,F,h,r=>by unfold dleL at h;subst h;exact r
 | d::ds,[],vs,F,h,r=>by unfold dleL at h;exact h.elim
 | d::ds,e::es,vs,F,h,r=>by
   unfold dleL at h;obtain ⟨v,vs',F1,F2,rfl,rfl,q1,q2⟩:=r.uncons;exact (dleD_ok h.1 q1).cons (dleL_ok h.2 q2)
end
theorem dleD_agg (ds es:List D):dleD (.agg ds) (.agg es)=dleL ds es:=by unfold dleD;rfl
theorem dleD_tuple (ds es:List D):dleD (.tuple ds) (.tuple es)=dleL ds es:=by unfold dleD;rfl
theorem dleL_nil:dleL [] []=True:=by simp [dleL]
theorem dleL_cons (d e:D) (ds es:List D):dleL (d::ds) (e::es)=(dleD d e∧dleL ds es):=by conv=>lhs;unfold dleL
theorem dleD_atom (v w:V):dleD (.atom v) (.atom w)=(v=w):=by unfold dleD;rfl
theorem dleD_nil (s:Nat):dleD (.atom .nilSlice) (.fresh s [])=True:=by unfold dleD;simp [dle0]
theorem dleD_nilI (s:Nat):dleD (.atom .nilSlice) (.imm s [])=True:=by unfold dleD;simp [dle0]
theorem dleD_fresh (s:Nat) (es:List (List D)) (e:D):dleD (.fresh s es) e=(.fresh s es=e):=by unfold dleD;rfl
theorem dleD_imm (s:Nat) (es:List (List D)) (e:D):dleD (.imm s es) e=(.imm s es=e):=by unfold dleD;rfl
set_option linter.defProp false in
def dl8:=ai @dleD_agg<|ai @dleD_tuple<|ai @dleL_cons<|ai @dleL_nil<|ai @dleD_atom<|ai @dleD_nil<|ai @dleD_fresh @dleD_imm
theorem VC.dl {r:D} (h:VC T f ds fun d=>dleD d r):VC T f ds fun d=>d=r:=fun P H vs wf pl q =>
 (h P H vs wf pl q).mono fun v H' ⟨d,P',F',a,b,c⟩=>⟨r,P',F',rfl,dleD_ok a b,c⟩
theorem RL.got (h:RL P H μ ds vs F):∀ l,l∈F→∃ o,H.get l=some o:=by
 induction h with
 | nil=>simp
 | agg h1 h2 i1 i2=>intro l hl;simp only [List.mem_append] at hl;exact hl.elim (i1 l) (i2 l)
 | tuple h1 h2 i1 i2=>intro l hl;simp only [List.mem_append] at hl;exact hl.elim (i1 l) (i2 l)
 | iface h1 h2 i1 i2=>intro l hl;simp only [List.mem_append] at hl;exact hl.elim (i1 l) (i2 l)
 | fn h1 h2 h3 i1 i2 i3=>intro l hl;simp only [List.mem_append] at hl;exact hl.elim (i1 l) fun h=>h.elim (i2 l) (i3 l)
 | fresh g r e u c h ir ih=>intro l hl;simp only [List.mem_cons,List.mem_append] at hl;exact hl.elim (fun e=>⟨_,e ▸ g⟩) fun h=>h.elim (ir l) (ih l)
 | _=>assumption
theorem VC.im (h:VC T f ds R):VC T f ds fun d=>∃ e,R e∧imL [e]=[d]:=fun P H vs wf pl q =>
 (h P H vs wf pl q).mono fun v H' ⟨d,P',F',a,b,nd,c1,c2,c3,c4⟩=>⟨d.im,fun l=>P' l∨l∈F',[],⟨d,a,rfl⟩,b.im,by simp,by simp,fun l h=>.inl (c2 l h),fun l hl=>by
  rcases hl with hl | hl
  ·exact c3 l hl
  ·exact ⟨.inr (c1 l hl).2.1,b.got l hl⟩,c4⟩
variable {g:Gh} {tm:List (Nat×D)} {so:List Ob} {n:Nat} {kf:List Fr} {Q:Qt} {cs:List D}
theorem le_nilC {k j s:Nat} (hk:so[k]?=some (.cell cs)) (hj:cs[j]?=some (.atom .nilSlice)):Le g ⟨tm,so,n⟩ ⟨tm,so.set k (.cell (cs.set j (.own so.length 0)))++[.sl s []],n⟩:=by
 intro a H P μ F r;have gl:=GoesL.app μ [.sl .nilSlice 0 s];have e:μ.length=so.length:=r.obs.len;obtain ⟨x,F1,Fk,F2,hx,rfl,o1,put⟩:=r.obs.atG hk;obtain ⟨l,ws,rfl,rfl,g',r'⟩:=o1.cellInv;obtain ⟨v,A,Fv,B,hF,ev,q1,put2⟩:=r'.atF hj;obtain ⟨rfl,rfl⟩:=q1.atomInv;have hy:(μ++[.sl .nilSlice 0 s])[so.length]?=some (.sl .nilSlice 0 s):=by rw [← e,List.getElem?_append_right (Nat.le_refl _)];simp
 have row:=put2 (μ++[.sl .nilSlice 0 s]) (.own so.length 0) [] gl (RL.own1 hy fun w m z e=>by cases e;exact ⟨Nat.le_refl _,fun _=>rfl⟩);rw [← hF] at row;have ok:OL P H (μ++[.sl .nilSlice 0 s]) [.cell l] [.cell (cs.set j (.own so.length 0))] ([l]++[]):=.cell g' row .nil;have o2:=put (μ++[.sl .nilSlice 0 s]) P H _ _ _ gl (fun l h=>h) ok fun l o _ e=>e;rw [set_same_hd hx] at o2;have o3:=o2.app (OL.slNil (P:=P) (H:=H) (μ0:=μ++[.sl .nilSlice 0 s]) (s:=s) .nil);refine ⟨P,μ++[.sl .nilSlice 0 s],_,{ wf:=r.wf,nt:=r.nt,nd:=r.nd.same (fun l h=>by simpa using h),tms:=fun t=>(r.tms t).goes gl,obs:=o3,nodup:=by simpa using r.nodup,apart:=fun l h=>r.apart l (by simpa using h),old:=fun l h=>r.old l (by simpa using h),lt:=fun l h=>r.lt l (by simpa using h),p1:=r.p1,p2:=r.p2,pl:=r.pl,ext:=r.ext,gl:=r.gl.trans gl }⟩
theorem sk_nilC {c:Code} (k j s:Nat) (hk:so[k]?=some (.cell cs)) (hj:cs[j]?=some (.atom .nilSlice)) (h:SK g T c kf ⟨tm,so.set k (.cell (cs.set j (.own so.length 0)))++[.sl s []],n⟩ Q):SK g T c kf ⟨tm,so,n⟩ Q:=sk_le (le_nilC hk hj) h
theorem call_in {st:St} {N:D→List Ob→Prop} (h:VM T f ds st.so N):CallP T st f ds N:=call_mut (R:=N) h fun d s h=>h
theorem call_walk {st:St} {N:D→List Ob→Prop} {fn:Func} {c:Code} (hp:T.prim f=none) (hf:T.func f=some fn) (hb:fn.body=some c) (hn:ds.length≤fn.ntmps)
  (h:∀ (g:Gh),g.μ0.length=st.so.length→Rho g→SK g T c [] ⟨argsTm 0 ds,st.so,fn.ntmps⟩ (RetQ T fn.results.toList (PostM g N))):CallP T st f ds N:=call_in (vm_enter hp hf hb hn fun g hg hu=>h g hg hu)
end Go.Am.Vm

namespace Go.Am.Vm
open Go.Am
variable {T:Tab} {P P':Nat→Prop} {H H':Heap} {μ μ':List Hd} {ds es:List D} {vs ws:List V} {F G X:List Nat} {d:D} {v:V} {f:FuncId} {R:D→Prop}
theorem rows_of_imm {s:Nat} {es:List (List D)} (h:RL P H μ [.imm s es] [v] F):∃ rows:List (List V),Sl H v s rows∧RL P H [] es.flatten rows.flatten []∧(∀ e,e∈es→e.length=s)∧rows.length=es.length∧∀ f,f∈rows→f.all V.one=true:=by
 rcases h.immInv with ⟨_,⟨rfl,rfl⟩ | ⟨l,o,q,ro,cs,wz,rfl,p,g',t,r',el,u1,c⟩⟩
 ·exact ⟨[],Sl.nil _ _,.nil,by simp,rfl,by simp⟩
 ·have hl:=r'.len;rw [dflatten_len el] at hl;obtain ⟨rs,h1,h2,h3⟩:=chunk hl.symm;refine ⟨rs,⟨h3,.inr ⟨l,o,q,ro,cs,by rw [h2],g',by rw [h2,h1];exact t,fun m hm=>by rw [h2];exact c m hm⟩⟩,by rw [h1];exact r',el,h2,?_⟩;intro f hf;rw [List.all_eq_true] at u1 ⊢;exact fun x hx=>u1 x (by rw [← h1];exact List.mem_flatten.2 ⟨f,hf,hx⟩)
theorem fresh_of_rows {n s:Nat} {rows:List (List V)} {es:List (List D)} (m:Mine n H v s rows) (r:RL P H [] es.flatten rows.flatten []) (el:∀ e,e∈es→e.length=s) (hl:rows.length=es.length)
  (u:∀ f,f∈rows→f.all V.one=true):∃ K,RL P H μ [.fresh s es] [v] K∧K.Nodup∧∀ l,l∈K→n≤l∧l<H.n:=by
 rcases m.2 with ⟨rfl,rfl⟩ | ⟨l,q,pre,rest,rfl,h2,h3,h4⟩
 ·have:es=[]:=List.length_eq_zero_iff.1 (by simpa using hl.symm);subst this;exact ⟨[],.freshNil .nil,by simp,by simp⟩
 ·refine ⟨[l],?_,by simp,fun j hj=>by rw [List.mem_singleton.1 hj];exact ⟨h2,Heap.lt h3⟩⟩;rw [hl] at h4 ⊢;have:=RL.fresh (P:=P) (μ:=μ) (es:=es) (q:=q) (ds:=[]) (vs:=[]) (G:=[]) h3 r el (all_flatten u) h4 .nil;simpa using this
theorem vc_clone {s:Nat} {es:List (List D)}
  (h:∀ (H:Heap) (v:V) (rows:List (List V)),H.WF→Sl H v s rows→(∀ f,f∈rows→f.all V.one=true)→rows.length=es.length→CallsTo T f [v] H fun r H'=>Mine H.n H' r s rows∧Ext H H') :
  VC T f [.imm s es] fun d=>d=.fresh s es:=by
 refine vc_am fun P H vs wf r=>?_;obtain ⟨v,rfl,r1⟩:=r.one;obtain ⟨rows,sl,rr,el,hl,u⟩:=rows_of_imm r1;refine (h H v rows wf sl u hl).mono fun w H' ⟨m,hx⟩=>⟨?_,hx⟩
 obtain ⟨K,q,nd,hK⟩:=fresh_of_rows (μ:=[]) m (rr.perm_keep hx) el hl u;exact ⟨_,K,rfl,q,nd,hK⟩
def growOk (T:Tab) (t0 t1:TypeId):Bool:=
 match T.und t0,T.und t1 with
 | some (.slice e),some (.int _)=>match T.size e,T.zero e with
   | some (s,b),some z=>Nat.beq s 1 && Nat.ble b 16 && Nat.beq z.length 1
   | _,_=>false
 | _,_=>false
theorem append_grow {t0 t1:TypeId} (h:growOk T t0 t1=true) {n:Int} (h0:0<n) (h1:n<1000000000):∃ cs,append T H t0 t1 .nilSlice (.int .i64 n)=some (.slice H.n 0 n.toNat 1 none,H.push (.cells false cs)):=by
 unfold growOk at h;split at h
 ·rename_i e k u0 u1;split at h
  ·rename_i s b z u2 u3;simp only [Bool.and_eq_true,Nat.beq_eq,Nat.ble_eq] at h;obtain ⟨⟨rfl,hb⟩,hz⟩:=h;obtain ⟨m,rfl⟩:∃ m:Nat,n=m:=⟨n.toNat,by omega⟩
   have hm:m * b≤m * 16:=Nat.mul_le_mul_left _ hb;have b1:Nat.blt m 17592186044416=true:=by rw [Nat.blt_eq];omega
   have b2:Nat.blt (m * b) 17592186044416=true:=by rw [Nat.blt_eq];omega
   have b3:Nat.beq m 0=false:=by rw [← Bool.not_eq_true,Nat.beq_eq];omega
   refine ⟨zeros z m,?_⟩;have hn:natOf (.int .i64 (m:Int))=some m:=by rfl
   simp only [append,u0,u1,u2,u3,hz,appended,hn,b1,b2,b3,Nat.beq_refl,Bool.and_self,cond_true,cond_false,Int.toNat_natCast]
  ·cases h
 ·cases h
end Go.Am.Vm

namespace Go.Am.Vm
open Go.Am
variable {T:Tab} {P P':Nat→Prop} {H H':Heap} {μ μ':List Hd} {ds es:List D} {vs ws:List V} {F G X:List Nat} {d:D} {v:V} {f:FuncId} {so:List Ob}
theorem vm_turn {k s:Nat} {rows rows':List (List V)} {ds2:List D} (hk:so[k]?=some (.sl s (aR rows)))
  (h:∀ (P:Nat→Prop) (H:Heap) (μ:List Hd) (F:List Nat) (v:V) (vs2:List V),H.WF→OL P H μ (μ.set k .dead) (so.set k .dead) F→(∀ l,Of v l→¬ l∈F)→Mine 0 H v s rows→RL P H μ ds2 vs2 [] →
   CallsTo T f (v::vs2) H fun r H'=>Mine 0 H' r s rows'∧rows'.flatten.all V.one=true∧ExtB (Of v) H H'∧∀ l,Of r l→Of v l∨H.n≤l) :
  VM T f (.own k rows.length::ds2) so fun d so'=>d=.own so.length rows'.length∧so'=so.set k .dead++[.sl s (aR rows')]:=by
 intro P H μ F vs wf pl ol nd ap hv;obtain ⟨v,vs2,E1,E2,rfl,hE,q,q2⟩:=hv.uncons;have hE':=hE.symm;rw [List.append_eq_nil_iff] at hE';rw [hE'.1] at q;rw [hE'.2] at q2;obtain ⟨x,F1,Fk,F2,hx,rfl,o1,put⟩:=ol.at hk;obtain ⟨_,y,hy,hc⟩:=q.ownInv;rw [hx] at hy;cases hy
 have ex:Mine 0 H v s rows∧(∀ j,Of v j→j∈Fk):=by
  rcases o1.slInv with ⟨rfl,e,rfl⟩ | ⟨l,q,pre,ws,rest,F',rfl,rfl,g',r',el,u1,c⟩
  ·have:rows=[]:=by simpa [aR] using e
   subst this;rw [(hc _ _ _ rfl).2 rfl];exact ⟨Mine.nil _ _ _,fun j h=>(of_nil h).elim⟩
  ·rw [aR_len] at *;rw [(hc _ _ _ rfl).2 rfl];rw [aR_flatten] at r';obtain ⟨rfl,_⟩:=r'.atomsInv;exact ⟨⟨aR_rows el,.inr ⟨l,q,pre,rest,rfl,Nat.zero_le _,g',c⟩⟩,fun j h=>by rw [of_slice] at h;simp [h]⟩
 obtain ⟨m,hof⟩:=ex;have nd2:=List.nodup_iff_count.1 nd;have o0:=put P H .dead .dead [] (fun l h=>h) (.dead .nil) fun l o _ h=>h
 have apart:∀ l,Of v l→¬ l∈F1++([]++F2):=fun l hl hm=>by
  have h1:=List.count_pos_iff.2 (hof l hl);have h2:=List.count_pos_iff.2 hm;have h3:=nd2 l;simp only [List.count_append,List.count_nil] at h2 h3;omega
 refine (h P H μ _ v vs2 wf o0 apart m q2).mono fun r H' ⟨m2,one2,hx2,hof2⟩=>?_;have gl:GoesL μ (μ.set k .dead):=GoesL.set hx (Goes.dead x);have hlen:μ.length=so.length:=ol.len;obtain ⟨Kv,qK,ndK,hK⟩:=fresh_of_mine (P:=P) (μ:=([]:List Hd)) m2 one2
 have hKof:∀ l,l∈Kv→Of r l:=by
  intro l hl;rcases qK.freshInv with ⟨rfl,_,rfl⟩ | ⟨l',q,pre',ws,rest,F',rfl,rfl,g,r,_⟩
  ·cases hl
  ·rw [aR_flatten] at r;obtain ⟨_,rfl⟩:=r.atomsInv;rw [of_slice];exact (List.mem_singleton.1 hl).symm
 have hKin:∀ l,l∈Kv→l∈Fk∨H.n≤l:=fun l hl=>(hof2 l (hKof l hl)).imp (hof l) id
 let μ1:=μ.set k .dead
 have hl1:μ1.length=so.length:=by simp [μ1,hlen]
 have mkHd:∃ hd:Hd,OL P H' (μ1++[hd]) [hd] [.sl s (aR rows')] Kv∧hd=.sl r rows'.length s:=by
  rcases qK.freshInv with ⟨rfl,e,rfl⟩ | ⟨l',q,pre',ws,rest,F',rfl,rfl,g,r,el,u1,c⟩
  ·rw [e];have:=congrArg List.length e;rw [aR_len] at this;refine ⟨.sl .nilSlice 0 s,.slNil .nil,?_⟩;rw [this];rfl
  ·refine ⟨.sl (.slice l' pre'.length (aR rows').length s q) (aR rows').length s,?_,by rw [aR_len]⟩;have:=OL.sl (μ0:=μ1++[.sl (.slice l' pre'.length (aR rows').length s q) (aR rows').length s]) (hs:=[]) (obs:=[]) (G:=[]) g r.any el u1 c .nil;simpa using this
 obtain ⟨hd,oK,rfl⟩:=mkHd;have glA:GoesL μ1 (μ1++[.sl r rows'.length s]):=GoesL.app _ _
 have o2:=(o0.keep (H':=H') fun l o hl e=>hx2.get l o (fun ho=>by
  rcases hl with h | h
  ·exact (ap l (by simp [hof l ho])).1 h
  ·exact apart l ho h) e).goes (gl.trans glA)
 have o3:=o2.app oK;refine ⟨.own so.length rows'.length,so.set k .dead++[.sl s (aR rows')],P,μ1++[.sl r rows'.length s],(F1++([]++F2))++Kv,⟨rfl,rfl⟩,?_,o3,gl.trans glA,?_,?_,fun l p=>p,fun l p=>⟨.inl p,?_⟩,hx2.weaken fun l ho=>by have:=hof l ho;simp [this]⟩
 ·exact RL.own1 (h:=.sl r rows'.length s) (by rw [← hl1,List.getElem?_append_right (Nat.le_refl _)];simp) (fun w m z e=>by cases e;exact ⟨Nat.le_refl _,fun _=>rfl⟩)
 ·rw [List.nodup_iff_count];intro a;have h1:=nd2 a;have h2:=List.nodup_iff_count.1 ndK a;simp only [List.count_append,List.count_nil] at h1 ⊢
  by_cases ha:a∈Kv
  ·rcases hKin a ha with h3 | h3
   ·have:=List.count_pos_iff.2 h3;omega
   ·have h4:¬ a∈F1++([]++F2):=fun hm=>by
     have:=(ap a (by simp only [List.nil_append,List.mem_append] at hm ⊢;exact hm.imp id .inr)).2;omega
    have h5:=List.count_eq_zero.2 h4;simp only [List.count_append,List.count_nil] at h5;omega
  ·have:=List.count_eq_zero.2 ha;omega
 ·intro l hl;rcases List.mem_append.1 hl with hl | hl
  ·have hm:l∈F1++(Fk++F2):=by simp only [List.nil_append,List.mem_append] at hl ⊢;exact hl.imp id .inr
   exact ⟨(ap l hm).1,.inl hm,Nat.lt_of_lt_of_le (ap l hm).2 hx2.n⟩
  ·obtain ⟨h1,h2⟩:=hK l hl;rcases hKin l hl with h3 | h3
   ·have hm:l∈F1++(Fk++F2):=by simp [h3]
    exact ⟨(ap l hm).1,.inl hm,h2⟩
   ·exact ⟨fun p=>by obtain ⟨o,e⟩:=pl l p;have:=Heap.lt e;omega,.inr h3,h2⟩
 ·obtain ⟨o,e⟩:=pl l p;exact ⟨o,hx2.get _ _ (fun ho=>(ap l (by simp [hof l ho])).1 p) e⟩
def rowI (z:Int):List V:=[.int .i64 z]
theorem rowI_flat:∀ xs:List Int,(xs.map rowI).flatten=xs.map fun z=>V.int .i64 z
 | []=>rfl
 | x::xs=>by simp only [List.map_cons,List.flatten_cons,rowI_flat xs];rfl
theorem rowI_one (xs:List Int):(xs.map rowI).flatten.all V.one=true:=by
 rw [rowI_flat,List.all_eq_true];intro v hv;obtain ⟨z,_,rfl⟩:=List.mem_map.1 hv
 rfl
theorem ints?_map:∀ xs:List Int,ints? (xs.map fun z=>V.int .i64 z)=some xs
 | []=>rfl
 | x::xs=>by simp only [List.map_cons,ints?,ints?_map xs,Option.map_some]
theorem rowI_len (xs:List Int):∀ e,e∈xs.map rowI→e.length=1:=by
 intro e he;obtain ⟨z,_,rfl⟩:=List.mem_map.1 he
 rfl
theorem prim_to {p:List V→Heap→Option (V×Heap)} {args:List V} {r:V} {R:V→Heap→Prop} (hp:T.prim f=some p) (h:p args H=some (r,H')) (hq:R r H'):CallsTo T f args H R:=
 ⟨0,r,H',by simp [run,calls,hp,h],hq⟩
theorem ins_am {xs:List Int} {x:Int} {i:Nat} (hp:T.prim f=some insP) (wf:H.WF) {v u:V} (m:Mine 0 H v 1 (xs.map rowI)) (hu:Mine 0 H u 1 [rowI x]) (hne:∀ l,Of v l→¬ Of u l) (hlen:xs.length≤1000000000) (hi:i≤xs.length) :
  CallsTo T f [v,.int .i64 i,u] H fun r H'=>Mine 0 H' r 1 ((xs.take i++x::xs.drop i).map rowI)∧((xs.take i++x::xs.drop i).map rowI).flatten.all V.one=true∧ExtB (Of v) H H'∧∀ l,Of r l→Of v l∨H.n≤l:=by
 rcases hu.2 with ⟨_,h0⟩ | ⟨l2,q2,pre2,rest2,rfl,_,g2,c2⟩
 ·cases h0
 have t2:take? (pre2++([rowI x].flatten++rest2)) pre2.length 1=some [V.int .i64 x]:=take?_pre _ _ _ rfl;have ii:(i:Int)=Int.ofNat i:=rfl;have wl:((xs.take i++x::xs.drop i).map rowI).length=xs.length+1:=by simp;omega
 rcases m.2 with ⟨rfl,h0⟩ | ⟨l,q,pre,rest,rfl,_,g,c⟩
 ·have hx:xs=[]:=by simpa using h0
  subst hx;have hi0:i=0:=by simpa using hi
  subst hi0;refine prim_to hp (r:=.slice H.n 0 1 1 none) (H':=H.push (.cells false [V.int .i64 x])) ?_ ⟨⟨rowI_len _,.inr ⟨H.n,none,[],[],rfl,Nat.zero_le _,?_,fun m h=>by cases h⟩⟩,rowI_one _,(ExtB.refl _ wf).push _,fun l h=>.inr (by rw [of_slice] at h;omega)⟩
  ·have:((0:Nat):Int)=Int.ofNat 0:=rfl;rw [this];simp only [insP,List.length_cons,List.length_nil,g2,t2];rfl
  ·rw [get_push_same];rfl
 ·have hl:(xs.map rowI).length=xs.length:=by simp
  have t1:take? (pre++((xs.map rowI).flatten++rest)) pre.length xs.length=some (xs.map fun z=>V.int .i64 z):=by
   rw [rowI_flat];exact take?_pre _ _ _ (by simp)
  have hb:Nat.beq l l2=false:=by
   cases e:Nat.beq l l2 with
   | false=>rfl
   | true =>
     rw [Nat.beq_eq] at e;exact absurd (of_slice.2 e.symm) (hne l (of_slice.2 rfl))
  have b1:Nat.ble xs.length 1000000000=true:=by rw [Nat.ble_eq];exact hlen
  have b2:Nat.ble i xs.length=true:=by rw [Nat.ble_eq];exact hi
  have hlt:=Heap.lt g;refine prim_to hp (r:=.slice H.n 0 (xs.length+1) 1 none) (H':=(H.put l .stale).push (.cells false ((xs.take i++x::xs.drop i).map fun z=>V.int .i64 z))) ?_ ⟨⟨rowI_len _,.inr ⟨H.n,none,[],[],by rw [wl];rfl,Nat.zero_le _,?_,fun m h=>by cases h⟩⟩,rowI_one _,((ExtB.refl (Of (.slice l pre.length (xs.map rowI).length 1 q)) wf).put (.inl rfl) hlt _).push _,fun l h=>.inr (by rw [of_slice] at h;omega)⟩
  ·rw [ii,hl];simp only [insP,List.length_cons,List.length_nil,g2,t2,g,t1,ints?_map,b1,b2,hb,Bool.not_false,Bool.and_self,cond_true]
  ·have:=get_push_same (H.put l .stale) (.cells false ((xs.take i++x::xs.drop i).map fun z=>V.int .i64 z));rw [Heap.n_put] at this;rw [this,rowI_flat,List.append_nil];rfl
theorem aR_rowI (xs:List Int):aR (xs.map rowI)=xs.map fun z=>[D.atom (.int .i64 z)]:=by simp [aR,rowI,Function.comp_def]
theorem ins_v {k j:Nat} {xs:List Int} {x:Int} {i:Nat} (hp:T.prim f=some insP) (hk:so[k]?=some (.sl 1 (xs.map fun z=>[D.atom (.int .i64 z)]))) (hj:so[j]?=some (.sl 1 [[D.atom (.int .i64 x)]])) (hkj:k≠j)
  (hlen:xs.length≤1000000000) (hi:i≤xs.length):VM T f [.own k xs.length,.atom (.int .i64 i),.own j 1] so fun d so'=>d=.own so.length (xs.length+1)∧so'=so.set k .dead++[.sl 1 ((xs.take i++x::xs.drop i).map fun z=>[D.atom (.int .i64 z)])]:=by
 have wl:((xs.take i++x::xs.drop i).map rowI).length=xs.length+1:=by simp;omega
 have:=vm_turn (T:=T) (f:=f) (so:=so) (k:=k) (s:=1) (rows:=xs.map rowI) (rows':=(xs.take i++x::xs.drop i).map rowI) (ds2:=[.atom (.int .i64 i),.own j 1]) (by rw [aR_rowI];exact hk) (fun P H μ F v vs2 wf ol ap m hv=>by
  obtain ⟨v1,vs3,E1,E2,rfl,hE,q1,q2⟩:=hv.uncons;obtain ⟨rfl,rfl⟩:=q1.atomInv;obtain ⟨u,rfl,q3⟩:=q2.one;have hE2:E2=[]:=by simpa using hE.symm
  subst hE2;obtain ⟨y,A1,Aj,A2,hy,rfl,o1,_⟩:=ol.at (show (so.set k .dead)[j]?=some _ from by rw [List.getElem?_set_ne hkj];exact hj);rw [List.getElem?_set_ne hkj] at hy;obtain ⟨_,y',hy',hc⟩:=q3.ownInv;rw [hy] at hy';cases hy';rcases o1.slInv with ⟨_,e,_⟩ | ⟨l,q,pre,ws,rest,F',rfl,rfl,g',r',el,u1,c⟩
  ·cases e
  ·rw [(hc _ _ _ rfl).2 rfl];have e1:[[D.atom (V.int .i64 x)]]=aR [rowI x]:=rfl;rw [e1,aR_flatten] at r';obtain ⟨rfl,_⟩:=r'.atomsInv;exact ins_am hp wf m ⟨rowI_len [x],.inr ⟨l,q,pre,rest,rfl,Nat.zero_le _,g',c⟩⟩ (fun l' h1 h2=>by rw [of_slice] at h2;exact ap l' h1 (by simp [h2])) hlen hi)
 rw [List.length_map,wl,aR_rowI] at this;exact this
theorem del_am {xs:List Int} {i j:Nat} (hp:T.prim f=some delP) (wf:H.WF) {v:V} (m:Mine 0 H v 1 (xs.map rowI)) (hlen:xs.length≤1000000000) (h0:0<xs.length) (hij:i≤j) (hj:j≤xs.length) :
  CallsTo T f [v,.int .i64 i,.int .i64 j] H fun r H'=>Mine 0 H' r 1 ((xs.take i++xs.drop j).map rowI)∧((xs.take i++xs.drop j).map rowI).flatten.all V.one=true∧ExtB (Of v) H H'∧∀ l,Of r l→Of v l∨H.n≤l:=by
 have ii:(i:Int)=Int.ofNat i:=rfl;have jj:(j:Int)=Int.ofNat j:=rfl;rcases m.2 with ⟨rfl,e⟩ | ⟨l,q,pre,rest,rfl,_,g,c⟩
 ·have:xs=[]:=by simpa using e
  subst this;simp at h0
 ·have hl:(xs.map rowI).length=xs.length:=by simp
  have t1:take? (pre++((xs.map rowI).flatten++rest)) pre.length (xs.length * 1)=some (xs.map fun z=>V.int .i64 z):=by
   rw [rowI_flat,Nat.mul_one];exact take?_pre _ _ _ (by simp)
  have b1:Nat.ble xs.length 1000000000=true:=by rw [Nat.ble_eq];exact hlen
  have b2:Nat.blt 0 xs.length=true:=by rw [Nat.blt_eq];exact h0
  have b3:Nat.ble i j=true:=by rw [Nat.ble_eq];exact hij
  have b4:Nat.ble j xs.length=true:=by rw [Nat.ble_eq];exact hj
  have hlt:=Heap.lt g;have wl:((xs.take i++xs.drop j).map rowI).length=xs.length - (j - i):=by simp;omega
  rw [hl] at c ⊢
  have ov:over (pre++((xs.map rowI).flatten++rest)) pre.length ((xs.take i++xs.drop j++List.replicate (j - i) 0).map fun z=>V.int .i64 z)=pre++(((xs.take i++xs.drop j).map rowI).flatten++((List.replicate (j - i) 0).map (fun z=>V.int .i64 z)++rest)):=by
   have h1:=over_pre ((xs.map rowI).flatten++rest) ((xs.take i++xs.drop j++List.replicate (j - i) 0).map fun z=>V.int .i64 z) 0 pre;rw [Nat.add_zero] at h1;rw [h1,over_front2 (by rw [rowI_flat];simp;omega) rest,over_zero_len _ _ (by rw [rowI_flat];simp;omega),rowI_flat];simp
  refine prim_to hp (r:=.slice l pre.length (xs.length - (j - i)) 1 q) (H':=H.put l (.cells false (over (pre++((xs.map rowI).flatten++rest)) pre.length ((xs.take i++xs.drop j++List.replicate (j - i) 0).map fun z=>V.int .i64 z)))) ?_
   ⟨⟨rowI_len _,.inr ⟨l,q,pre,(List.replicate (j - i) 0).map (fun z=>V.int .i64 z)++rest,by rw [wl],Nat.zero_le _,by rw [get_put_same hlt,ov],fun m hm=>?_⟩⟩,rowI_one _,(ExtB.refl (Of (.slice l pre.length xs.length 1 q)) wf).put (.inl rfl) hlt _,fun l' h=>.inl (by rw [of_slice] at h ⊢;exact h)⟩
  ·rw [ii,jj];simp only [delP,g,t1,ints?_map,b1,b2,b3,b4,Nat.beq_refl,Bool.and_self,cond_true]
  ·obtain ⟨c1,c2⟩:=c m hm;rw [wl];simp only [Nat.mul_one,List.length_append,List.length_map,List.length_replicate] at c2 ⊢;omega
theorem del_v {k:Nat} {xs:List Int} {i j:Nat} (hp:T.prim f=some delP) (hk:so[k]?=some (.sl 1 (xs.map fun z=>[D.atom (.int .i64 z)]))) (hlen:xs.length≤1000000000) (h0:0<xs.length) (hij:i≤j) (hj:j≤xs.length) :
  VM T f [.own k xs.length,.atom (.int .i64 i),.atom (.int .i64 j)] so fun d so'=>d=.own so.length (xs.length - (j - i))∧so'=so.set k .dead++[.sl 1 ((xs.take i++xs.drop j).map fun z=>[D.atom (.int .i64 z)])]:=by
 have wl:((xs.take i++xs.drop j).map rowI).length=xs.length - (j - i):=by simp;omega
 have:=vm_turn (T:=T) (f:=f) (so:=so) (k:=k) (s:=1) (rows:=xs.map rowI) (rows':=(xs.take i++xs.drop j).map rowI) (ds2:=[.atom (.int .i64 i),.atom (.int .i64 j)]) (by rw [aR_rowI];exact hk) (fun P H μ F v vs2 wf ol ap m hv=>by
  obtain ⟨v1,vs3,E1,E2,rfl,hE,q1,q2⟩:=hv.uncons;obtain ⟨rfl,rfl⟩:=q1.atomInv;obtain ⟨u,rfl,q3⟩:=q2.one;obtain ⟨rfl,rfl⟩:=q3.atomInv;exact del_am hp wf m hlen h0 hij hj)
 rw [List.length_map,wl,aR_rowI] at this;exact this
end Go.Am.Vm

namespace Go.Am.Vm
def Dflt (q:Prop):Prop:=True
theorem dfltT:Dflt True:=True.intro
theorem cl {p H:Prop} (hh:H) (h:H→p:=by intro hh;(repeat simp (maxSteps:=10000000) (disch:=first | assumption | (simp (disch:=(intro _;exact Vm.byRefl (by with_unfolding_all rfl))) only [tyfacts,Vm.szO_eq,Am.vd,hh,Nat.reduceEqDiff,Nat.reduceLT,Nat.reduceLeDiff,Nat.reduceMul,Nat.reduceAdd,Int.reduceEq,Int.reduceSub,Int.reduceToNat,reduceCtorEq,implies_true];try omega;done) | omega | (intro _;exact Vm.byRefl (by with_unfolding_all rfl))) only [Vm.wantedD,Am.va,Nat.reduceAdd,Nat.reduceMul,Nat.reduceSub,Nat.reduceLT,Nat.reduceLeDiff,Nat.reduceEqDiff,Int.reduceAdd,Int.reduceLT,Int.reduceLE,Int.reduceNeg,Int.reduceEq,Int.reduceSub,Int.reduceToNat,reduceCtorEq,↓reduceIte,tyfacts,hh])):p:=h hh
theorem s1 {p q H:Prop} (hh:H) (hq:q) (h:H→q→p:=by intro hh k_;simp (maxSteps:=10000000) (disch:=first | assumption | (simp (disch:=(intro _;exact Vm.byRefl (by with_unfolding_all rfl))) only [tyfacts,Vm.szO_eq,Am.vd,hh,Nat.reduceEqDiff,Nat.reduceLT,Nat.reduceLeDiff,Nat.reduceMul,Nat.reduceAdd,Int.reduceEq,Int.reduceSub,Int.reduceToNat,reduceCtorEq,implies_true];try omega;done) | omega | (intro _;exact Vm.byRefl (by with_unfolding_all rfl))) only [Vm.wantedD,Am.va,Nat.reduceAdd,Nat.reduceMul,Nat.reduceSub,Nat.reduceLT,Nat.reduceLeDiff,Nat.reduceEqDiff,Int.reduceAdd,Int.reduceLT,Int.reduceLE,Int.reduceNeg,Int.reduceEq,Int.reduceSub,Int.reduceToNat,reduceCtorEq,↓reduceIte,tyfacts,hh];all_goals exact k_) (h2:Dflt q:=by first | exact Vm.dfltT | exact True.intro):p:=h hh hq
theorem rn {p q H:Prop} (hh:H) (hq:q) (h:H→q→p:=by intro hh k_;(repeat (first | with_reducible refine Vm.sk_region _ _ ?_ | simp (maxSteps:=10000000) (disch:=first | assumption | (simp (disch:=(intro _;exact Vm.byRefl (by with_unfolding_all rfl))) only [tyfacts,Vm.szO_eq,Am.vd,hh,Nat.reduceEqDiff,Nat.reduceLT,Nat.reduceLeDiff,Nat.reduceMul,Nat.reduceAdd,Int.reduceEq,Int.reduceSub,Int.reduceToNat,reduceCtorEq,implies_true];try omega;done) | omega | (intro _;exact Vm.byRefl (by with_unfolding_all rfl))) only [Vm.wantedD,Am.va,Nat.reduceAdd,Nat.reduceMul,Nat.reduceSub,Nat.reduceLT,Nat.reduceLeDiff,Nat.reduceEqDiff,Int.reduceAdd,Int.reduceLT,Int.reduceLE,Int.reduceNeg,Int.reduceEq,Int.reduceSub,Int.reduceToNat,reduceCtorEq,↓reduceIte,tyfacts,hh]));all_goals exact k_) (h2:Dflt q:=by first | exact Vm.dfltT | exact True.intro):p:=h hh hq
theorem r1 {p q H:Prop} (hh:H) (hq:q) (h:H→q→p:=by intro hh k_;(first | with_reducible refine Vm.sk_region _ _ ?_ | simp (maxSteps:=10000000) (disch:=first | assumption | (simp (disch:=(intro _;exact Vm.byRefl (by with_unfolding_all rfl))) only [tyfacts,Vm.szO_eq,Am.vd,hh,Nat.reduceEqDiff,Nat.reduceLT,Nat.reduceLeDiff,Nat.reduceMul,Nat.reduceAdd,Int.reduceEq,Int.reduceSub,Int.reduceToNat,reduceCtorEq,implies_true];try omega;done) | omega | (intro _;exact Vm.byRefl (by with_unfolding_all rfl))) only [Vm.wantedD,Am.va,Nat.reduceAdd,Nat.reduceMul,Nat.reduceSub,Nat.reduceLT,Nat.reduceLeDiff,Nat.reduceEqDiff,Int.reduceAdd,Int.reduceLT,Int.reduceLE,Int.reduceNeg,Int.reduceEq,Int.reduceSub,Int.reduceToNat,reduceCtorEq,↓reduceIte,tyfacts,hh]);all_goals exact k_) (h2:Dflt q:=by first | exact Vm.dfltT | exact True.intro):p:=h hh hq
theorem fz {p q H:Prop} (hh:H) (hq:q) (h:H→q→p:=by intro hh k_;simp only [Vm.fzT,Vm.fzD,Vm.fzL,Vm.fzO,List.map_cons,List.map_nil,List.set_cons_zero,List.set_cons_succ,List.map_append,Nat.reduceEqDiff,↓reduceIte,hh];exact k_):p:=h hh hq
theorem ct {p H:Prop} (hh:H) (h:H→p:=by intro hh;(repeat simp (maxSteps:=10000000) (disch:=first | assumption | (simp (disch:=(intro _;exact Vm.byRefl (by with_unfolding_all rfl))) only [tyfacts,Vm.szO_eq,Am.vd,hh,Nat.reduceEqDiff,Nat.reduceLT,Nat.reduceLeDiff,Nat.reduceMul,Nat.reduceAdd,Int.reduceEq,Int.reduceSub,Int.reduceToNat,reduceCtorEq,implies_true];try omega;done) | omega | (intro _;exact Vm.byRefl (by with_unfolding_all rfl))) only [Vm.wantedD,Am.va,Nat.reduceAdd,Nat.reduceMul,Nat.reduceSub,Nat.reduceLT,Nat.reduceLeDiff,Nat.reduceEqDiff,Int.reduceAdd,Int.reduceLT,Int.reduceLE,Int.reduceNeg,Int.reduceEq,Int.reduceSub,Int.reduceToNat,reduceCtorEq,↓reduceIte,tyfacts,Am.vt,or_true,true_or,or_false,false_or,Bool.false_eq_true,Am.reads,Am.quiet,Am.isAlloc,Nat.testBit,Nat.reduceShiftRight,Nat.reduceAnd,Nat.reduceBNe,hh])):p:=h hh
theorem rt {p q H:Prop} (hh:H) (hq:q) (h:H→q→p:=by intro hh k_;(repeat (first | with_reducible refine Vm.sk_region _ _ ?_ | simp (maxSteps:=10000000) (disch:=first | assumption | (simp (disch:=(intro _;exact Vm.byRefl (by with_unfolding_all rfl))) only [tyfacts,Vm.szO_eq,Am.vd,hh,Nat.reduceEqDiff,Nat.reduceLT,Nat.reduceLeDiff,Nat.reduceMul,Nat.reduceAdd,Int.reduceEq,Int.reduceSub,Int.reduceToNat,reduceCtorEq,implies_true];try omega;done) | omega | (intro _;exact Vm.byRefl (by with_unfolding_all rfl))) only [Vm.wantedD,Am.va,Nat.reduceAdd,Nat.reduceMul,Nat.reduceSub,Nat.reduceLT,Nat.reduceLeDiff,Nat.reduceEqDiff,Int.reduceAdd,Int.reduceLT,Int.reduceLE,Int.reduceNeg,Int.reduceEq,Int.reduceSub,Int.reduceToNat,reduceCtorEq,↓reduceIte,tyfacts,Am.vt,or_true,true_or,or_false,false_or,Bool.false_eq_true,Am.reads,Am.quiet,Am.isAlloc,Nat.testBit,Nat.reduceShiftRight,Nat.reduceAnd,Nat.reduceBNe,hh]));all_goals exact k_) (h2:Dflt q:=by first | exact Vm.dfltT | exact True.intro):p:=h hh hq
variable {T:Tab} {g:Gh} {st:St} {tm:List (Nat×D)} {so so':List Ob} {n:Nat}
theorem rx {e:Ex} {rs:List ResultVar} {R:D→Prop} (h:RetP R st.so (resD T st rs)) (he:e=.ret∨e=.normal:=by first | exact .inl rfl | exact .inr rfl) (hu:Rho g:=by assumption):SU g T [] e (RetQ T rs (Post g R)) st:=ret_ok he hu h
theorem rm {e:Ex} {rs:List ResultVar} {R:D→List Ob→Prop} (h:RetM R st.so (resD T st rs)) (he:e=.ret∨e=.normal:=by first | exact .inl rfl | exact .inr rfl) (hu:Rho g:=by assumption):SU g T [] e (RetQ T rs (PostM g R)) st:=retM_ok he hu h
theorem lx {tm':List (Nat×D)} {n':Nat} (h:leT tm so'.length tm'∧leS so'.length so so') (hg:g.μ0.length≤so'.length:=by first | (rw [hG0];first | exact Nat.zero_le _ | exact Nat.le_refl _) | (refine Nat.le_trans (Nat.le_of_eq (by assumption)) ?_;exact Nat.le_of_ble_eq_true rfl)) (hn:n=n':=by rfl):Le g ⟨tm,so,n⟩ ⟨tm',so',n'⟩:=le_of2 hg hn h
theorem nx {kf:List Fr} {e:Ex} {Q:Qt} (so':List Ob) (h:leT tm so'.length []∧leS so'.length so so') (h2:SU g T kf e Q ⟨[],so',n⟩) (hg:g.μ0.length≤so'.length:=by rw [hL3,hL2];exact Nat.le_refl _):SU g T kf e Q ⟨tm,so,n⟩:=su_le (le_of2 hg rfl h) h2
end Go.Am.Vm

namespace Go.Am.Vm
open Go.Am
variable {T:Tab} {P P':Nat→Prop} {H H':Heap} {μ μ':List Hd} {ds es:List D} {vs ws:List V} {F G X:List Nat} {d:D} {v:V} {f:FuncId} {so:List Ob} {g:Gh} {tm:List (Nat×D)} {n:Nat} {kf:List Fr} {Q:Qt}
theorem vm_put {k s:Nat} {rows rows':List (List V)} {ds2:List D} (hk:so[k]?=some (.sl s (aR rows))) (hl:rows'.length=rows.length)
  (h:∀ (P:Nat→Prop) (H:Heap) (μ:List Hd) (F:List Nat) (v:V) (vs2:List V),H.WF→OL P H μ (μ.set k .dead) (so.set k .dead) F→(∀ l,Of v l→¬ l∈F)→Mine 0 H v s rows→RL P H μ ds2 vs2 [] →
   CallsTo T f (v::vs2) H fun r H'=>r=.tuple []∧Mine 0 H' v s rows'∧rows'.flatten.all V.one=true∧ExtB (Of v) H H') :
  VM T f (.own k rows.length::ds2) so fun d so'=>d=.tuple []∧so'=so.set k (.sl s (aR rows')):=by
 intro P H μ F vs wf pl ol nd ap hv;obtain ⟨v,vs2,E1,E2,rfl,hE,q,q2⟩:=hv.uncons;have hE':=hE.symm;rw [List.append_eq_nil_iff] at hE';rw [hE'.1] at q;rw [hE'.2] at q2;obtain ⟨x,F1,Fk,F2,hx,rfl,o1,put⟩:=ol.at hk;obtain ⟨_,y,hy,hc⟩:=q.ownInv;rw [hx] at hy;cases hy
 have ex:Mine 0 H v s rows∧(∀ j,Of v j→j∈Fk)∧x=.sl v rows.length s:=by
  rcases o1.slInv with ⟨rfl,e,rfl⟩ | ⟨l,q,pre,ws,rest,F',rfl,rfl,g',r',el,u1,c⟩
  ·have:rows=[]:=by simpa [aR] using e
   subst this;rw [(hc _ _ _ rfl).2 rfl];exact ⟨Mine.nil _ _ _,fun j h=>(of_nil h).elim,rfl⟩
  ·rw [aR_len] at *;rw [(hc _ _ _ rfl).2 rfl];rw [aR_flatten] at r';obtain ⟨rfl,_⟩:=r'.atomsInv;exact ⟨⟨aR_rows el,.inr ⟨l,q,pre,rest,rfl,Nat.zero_le _,g',c⟩⟩,fun j h=>by rw [of_slice] at h;simp [h],rfl⟩
 obtain ⟨m,hof,rfl⟩:=ex;have nd2:=List.nodup_iff_count.1 nd;have o0:=put P H .dead .dead [] (fun l h=>h) (.dead .nil) fun l o _ h=>h
 have apart:∀ l,Of v l→¬ l∈F1++([]++F2):=fun l hl hm=>by
  have h1:=List.count_pos_iff.2 (hof l hl);have h2:=List.count_pos_iff.2 hm;have h3:=nd2 l;simp only [List.count_append,List.count_nil] at h2 h3;omega
 refine (h P H μ _ v vs2 wf o0 apart m q2).mono fun r H' ⟨hr,m2,one2,hx2⟩=>?_;subst hr;have gl:GoesL μ (μ.set k .dead):=GoesL.set hx (Goes.dead _);obtain ⟨Kv,qK,ndK,hK⟩:=fresh_of_mine (P:=P) (μ:=([]:List Hd)) m2 one2
 have hKof:∀ l,l∈Kv→Of v l:=by
  intro l hl;rcases qK.freshInv with ⟨rfl,_,rfl⟩ | ⟨l',q,pre',ws,rest,F',rfl,rfl,g,r,_⟩
  ·cases hl
  ·rw [aR_flatten] at r;obtain ⟨_,rfl⟩:=r.atomsInv;rw [of_slice];exact (List.mem_singleton.1 hl).symm
 have oK:OL P H' μ [.sl v rows.length s] [.sl s (aR rows')] Kv:=by
  rcases qK.freshInv with ⟨rfl,e,rfl⟩ | ⟨l',q,pre',ws,rest,F',rfl,rfl,g,r,el,u1,c⟩
  ·rw [e];have:=congrArg List.length e;rw [aR_len] at this;rw [← hl,this];exact .slNil .nil
  ·rw [← hl];have:=OL.sl (μ0:=μ) (hs:=[]) (obs:=[]) (G:=[]) g r.any el u1 c .nil;have ea:=aR_len rows';rw [List.append_nil] at this;rw [ea] at this ⊢;exact this
 have o2:=put P H' (.sl v rows.length s) (.sl s (aR rows')) Kv (fun l h=>h) oK fun l o hl e=>hx2.get l o (fun ho=>by
  rcases hl with h | h | h
  ·exact (ap l (by simp [hof l ho])).1 h
  ·exact apart l ho (by simp [h])
  ·exact apart l ho (by simp [h])) e
 have hset:μ.set k (.sl v rows.length s)=μ:=by
  apply List.ext_getElem?;intro i
  by_cases hi:k=i
  ·subst hi;rw [List.getElem?_set_self (get_lt hx),hx]
  ·rw [List.getElem?_set_ne hi]
 rw [hset] at o2;refine ⟨.tuple [],so.set k (.sl s (aR rows')),P,μ,F1++(Kv++F2),⟨rfl,rfl⟩,.tuple (F:=[]) (G:=[]) .nil .nil,o2,GoesL.refl μ,?_,?_,fun l p=>p,fun l p=>⟨.inl p,?_⟩,hx2.weaken fun l ho=>by have:=hof l ho;simp [this]⟩
 ·rw [List.nodup_iff_count];intro a;have h1:=nd2 a;have h2:=List.nodup_iff_count.1 ndK a;simp only [List.count_append] at h1 ⊢
  by_cases ha:a∈Kv
  ·have h3:=List.count_pos_iff.2 (hof a (hKof a ha));omega
  ·have:=List.count_eq_zero.2 ha;omega
 ·intro l hl
  have hm:l∈F1++(Fk++F2):=by
   simp only [List.mem_append] at hl ⊢;rcases hl with h | h | h
   ·exact .inl h
   ·exact .inr (.inl (hof l (hKof l h)))
   ·exact .inr (.inr h)
  exact ⟨(ap l hm).1,.inl hm,Nat.lt_of_lt_of_le (ap l hm).2 hx2.n⟩
 ·obtain ⟨o,e⟩:=pl l p;exact ⟨o,hx2.get _ _ (fun ho=>(ap l (by simp [hof l ho])).1 p) e⟩
def sortedI (xs:List Int):List Int:=xs.mergeSort fun x y=>decide (x≤y)
theorem sort_am {xs:List Int} (hp:T.prim f=some sortP) (wf:H.WF) {v:V} (m:Mine 0 H v 1 (xs.map rowI)) (hlen:xs.length≤1000000000) :
  CallsTo T f [v] H fun r H'=>r=.tuple []∧Mine 0 H' v 1 ((sortedI xs).map rowI)∧((sortedI xs).map rowI).flatten.all V.one=true∧ExtB (Of v) H H':=by
 have hl:(sortedI xs).length=xs.length:=List.length_mergeSort _;rcases m.2 with ⟨rfl,e⟩ | ⟨l,q,pre,rest,rfl,_,g,c⟩
 ·have:xs=[]:=by simpa using e
  subst this;exact prim_to hp (r:=.tuple []) (H':=H) rfl ⟨rfl,by simpa [sortedI] using Mine.nil 0 H 1,by simp [sortedI],ExtB.refl _ wf⟩
 ·have t1:take? (pre++((xs.map rowI).flatten++rest)) pre.length ((xs.map rowI).length * 1)=some (xs.map fun z=>V.int .i64 z):=by
   rw [rowI_flat,Nat.mul_one];exact take?_pre _ _ _ (by simp)
  have b1:Nat.ble (xs.map rowI).length 1000000000=true:=by rw [Nat.ble_eq];simpa using hlen
  have hlt:=Heap.lt g
  have ov:over (pre++((xs.map rowI).flatten++rest)) pre.length ((sortedI xs).map fun z=>V.int .i64 z)=pre++(((sortedI xs).map rowI).flatten++rest):=by
   have h1:=over_pre ((xs.map rowI).flatten++rest) ((sortedI xs).map fun z=>V.int .i64 z) 0 pre;rw [Nat.add_zero] at h1;rw [h1,over_front2 (by rw [rowI_flat];simp [hl]) rest,over_zero_len _ _ (by rw [rowI_flat];simp [hl]),rowI_flat]
  refine prim_to hp (r:=.tuple []) (H':=H.put l (.cells false (pre++(((sortedI xs).map rowI).flatten++rest)))) ?_
   ⟨rfl,⟨rowI_len _,.inr ⟨l,q,pre,rest,by simp [hl],Nat.zero_le _,get_put_same hlt _,fun m hm=>by simpa [hl] using c m hm⟩⟩,rowI_one _,(ExtB.refl (Of (.slice l pre.length (xs.map rowI).length 1 q)) wf).put (.inl rfl) hlt _⟩
  simp only [sortP,g,t1,ints?_map,b1,Nat.beq_refl,Bool.and_self,cond_true];rw [← ov];rfl
theorem sort_v {k:Nat} {xs:List Int} (hp:T.prim f=some sortP) (hk:so[k]?=some (.sl 1 (xs.map fun z=>[D.atom (.int .i64 z)]))) (hlen:xs.length≤1000000000) :
  VM T f [.own k xs.length] so fun d so'=>d=.tuple []∧so'=so.set k (.sl 1 ((sortedI xs).map fun z=>[D.atom (.int .i64 z)])):=by
 have hl:(sortedI xs).length=xs.length:=List.length_mergeSort _
 have:=vm_put (T:=T) (f:=f) (so:=so) (k:=k) (s:=1) (rows:=xs.map rowI) (rows':=(sortedI xs).map rowI) (ds2:=[]) (by rw [aR_rowI];exact hk) (by simp [hl]) (fun P H μ F v vs2 wf ol ap m hv=>by
  obtain ⟨rfl,_⟩:=hv.nil_inv;exact sort_am hp wf m hlen)
 rw [List.length_map,aR_rowI] at this;exact this
theorem dd_len:∀ zs:List Int,(dd zs).length≤zs.length
 | []=>Nat.le_refl _
 | [x]=>Nat.le_refl _
 | x::y::l=>by
   have:=dd_len (y::l);simp only [dd];split
   ·simp only [List.length_cons] at this ⊢;omega
   ·simp only [List.length_cons] at this ⊢;omega
theorem compact_am {xs:List Int} (hp:T.prim f=some compactP) (wf:H.WF) {v:V} (m:Mine 0 H v 1 (xs.map rowI)) (hlen:xs.length≤1000000000) :
  CallsTo T f [v] H fun r H'=>Mine 0 H' r 1 ((dd xs).map rowI)∧((dd xs).map rowI).flatten.all V.one=true∧ExtB (Of v) H H'∧∀ l,Of r l→Of v l∨H.n≤l:=by
 have hd:=dd_len xs;rcases m.2 with ⟨rfl,e⟩ | ⟨l,q,pre,rest,rfl,_,g,c⟩
 ·have:xs=[]:=by simpa using e
  subst this;exact prim_to hp (r:=.nilSlice) (H':=H) rfl ⟨Mine.nil _ _ _,rfl,ExtB.refl _ wf,fun l h=>(of_nil h).elim⟩
 ·have hll:(xs.map rowI).length=xs.length:=by simp
  rw [hll] at c ⊢
  by_cases h0:xs.length=0
  ·have:xs=[]:=List.length_eq_zero_iff.1 h0;subst this;exact prim_to hp (r:=.slice l pre.length 0 1 q) (H':=H) rfl ⟨⟨rowI_len _,.inr ⟨l,q,pre,rest,rfl,Nat.zero_le _,g,c⟩⟩,rfl,ExtB.refl _ wf,fun l h=>.inl h⟩
  have t1:take? (pre++((xs.map rowI).flatten++rest)) pre.length (xs.length * 1)=some (xs.map fun z=>V.int .i64 z):=by
   rw [rowI_flat,Nat.mul_one];exact take?_pre _ _ _ (by simp)
  have b1:Nat.ble xs.length 1000000000=true:=by rw [Nat.ble_eq];exact hlen
  have b0:Nat.beq xs.length 0=false:=by rw [← Bool.not_eq_true,Nat.beq_eq];exact h0
  have hlt:=Heap.lt g
  have ov:over (pre++((xs.map rowI).flatten++rest)) pre.length ((dd xs++List.replicate (xs.length - (dd xs).length) 0).map fun z=>V.int .i64 z)=pre++(((dd xs).map rowI).flatten++((List.replicate (xs.length - (dd xs).length) 0).map (fun z=>V.int .i64 z)++rest)):=by
   have h1:=over_pre ((xs.map rowI).flatten++rest) ((dd xs++List.replicate (xs.length - (dd xs).length) 0).map fun z=>V.int .i64 z) 0 pre;rw [Nat.add_zero] at h1;rw [h1,over_front2 (by rw [rowI_flat];simp;omega) rest,over_zero_len _ _ (by rw [rowI_flat];simp;omega),rowI_flat];simp
  refine prim_to hp (r:=.slice l pre.length (dd xs).length 1 q) (H':=H.put l (.cells false (over (pre++((xs.map rowI).flatten++rest)) pre.length ((dd xs++List.replicate (xs.length - (dd xs).length) 0).map fun z=>V.int .i64 z)))) ?_
   ⟨⟨rowI_len _,.inr ⟨l,q,pre,(List.replicate (xs.length - (dd xs).length) 0).map (fun z=>V.int .i64 z)++rest,by simp,Nat.zero_le _,by rw [get_put_same hlt,ov],fun m hm=>?_⟩⟩,rowI_one _,(ExtB.refl (Of (.slice l pre.length xs.length 1 q)) wf).put (.inl rfl) hlt _,fun l' h=>.inl (by rw [of_slice] at h ⊢;exact h)⟩
  ·simp only [compactP,b0,g,t1,ints?_map,b1,Nat.beq_refl,Bool.and_self,cond_true,cond_false]
  ·obtain ⟨c1,c2⟩:=c m hm;simp only [Nat.mul_one,List.length_append,List.length_map,List.length_replicate] at c2 ⊢;omega
theorem compact_v {k:Nat} {xs:List Int} (hp:T.prim f=some compactP) (hk:so[k]?=some (.sl 1 (xs.map fun z=>[D.atom (.int .i64 z)]))) (hlen:xs.length≤1000000000) :
  VM T f [.own k xs.length] so fun d so'=>d=.own so.length (dd xs).length∧so'=so.set k .dead++[.sl 1 ((dd xs).map fun z=>[D.atom (.int .i64 z)])]:=by
 have:=vm_turn (T:=T) (f:=f) (so:=so) (k:=k) (s:=1) (rows:=xs.map rowI) (rows':=(dd xs).map rowI) (ds2:=[]) (by rw [aR_rowI];exact hk) (fun P H μ F v vs2 wf ol ap m hv=>by
  obtain ⟨rfl,_⟩:=hv.nil_inv;exact compact_am hp wf m hlen)
 rw [List.length_map,List.length_map,aR_rowI] at this;exact this
def unkM (ms:List (V×D)):List (V×D):=ms.map fun p=>(p.1,.unk)
theorem RL.unks:∀ {ds:List D} {vs:List V},RL P H μ ds vs []→RL P H μ (ds.map fun _=>.unk) vs []
 | [],vs,h=>by obtain ⟨rfl,_⟩:=h.nil_inv;exact .nil
 | d::ds,vs,h=>by
   obtain ⟨v,vs',G1,G2,rfl,hF,q1,q2⟩:=h.uncons;have hF':=hF.symm;rw [List.append_eq_nil_iff] at hF';rw [hF'.2] at q2;exact .unk (RL.unks q2)
theorem le_unkM {k:Nat} {ms:List (V×D)} (hk:so[k]?=some (.mp ms)):Le g ⟨tm,so,n⟩ ⟨tm,so.set k (.mp (unkM ms)),n⟩:=by
 intro a H P μ F r;obtain ⟨x,F1,Fk,F2,hx,rfl,o1,put⟩:=r.obs.at hk;obtain ⟨l,es,rfl,rfl,g',e,q⟩:=o1.mpInv
 have o2:OL P H μ [.cell l] [.mp (unkM ms)] (l::[]):=by
  refine .mp g' ?_ ?_ .nil
  ·rw [e,unkM,List.map_map];rfl
  ·have:=q.unks;rw [List.map_map] at this;rw [unkM,List.map_map];exact this
 have o3:=put P H _ _ _ (fun l h=>h) o2 (fun j ob hj e=>e)
 have hset:μ.set k (.cell l)=μ:=by
  apply List.ext_getElem?;intro i
  by_cases hi:k=i
  ·subst hi;rw [List.getElem?_set_self (get_lt hx),hx]
  ·rw [List.getElem?_set_ne hi]
 rw [hset] at o3;exact ⟨P,μ,_,{ wf:=r.wf,nt:=r.nt,nd:=r.nd,tms:=r.tms,obs:=o3,nodup:=r.nodup,apart:=r.apart,old:=r.old,lt:=r.lt,p1:=r.p1,p2:=r.p2,pl:=r.pl,ext:=r.ext,gl:=r.gl }⟩
theorem sk_unkM {c:Code} (k:Nat) {ms:List (V×D)} (hk:so[k]?=some (.mp ms)) (h:SK g T c kf ⟨tm,so.set k (.mp (unkM ms)),n⟩ Q):SK g T c kf ⟨tm,so,n⟩ Q:=sk_le (le_unkM hk) h
end Go.Am.Vm

namespace Go.Am.Vm
open Go.Am
variable {T:Tab} {P:Nat→Prop} {H:Heap} {ds ds':List D} {so:List Ob} {st:St} {g:Gh} {fn:Func} {c:Code} {f:FuncId} {tm:List (Nat×D)} {n:Nat}
theorem ve {R:D→Prop} (hf:T.func f=some fn) (h:∀ g:Gh,(∀ l,¬ g.B l)→g.μ0=[]→Rho g→SK g T c [] ⟨argsTm 0 ds,[],fn.ntmps⟩ (RetQ T fn.results.toList (Post g R))) (hp:T.prim f=none:=by exact rfl) (hb:fn.body=some c:=by exact rfl)
  (hn:ds.length≤fn.ntmps:=by exact Nat.le_of_ble_eq_true rfl):VC T f ds R:=vc_enter hp hf hb hn h
theorem vm {R:D→List Ob→Prop} (hf:T.func f=some fn) (h:∀ (g:Gh),g.μ0.length=so.length→Rho g→SK g T c [] ⟨argsTm 0 ds,so,fn.ntmps⟩ (RetQ T fn.results.toList (PostM g R))) (hp:T.prim f=none:=by exact rfl) (hb:fn.body=some c:=by exact rfl)
  (hn:ds.length≤fn.ntmps:=by exact Nat.le_of_ble_eq_true rfl):VM T f ds so R:=vm_enter hp hf hb hn h
theorem vw {N:D→List Ob→Prop} (hf:T.func f=some fn) (h:∀ (g:Gh),g.μ0.length=st.so.length→Rho g→SK g T c [] ⟨argsTm 0 ds,st.so,fn.ntmps⟩ (RetQ T fn.results.toList (PostM g N))) (hp:T.prim f=none:=by exact rfl) (hb:fn.body=some c:=by exact rfl)
  (hn:ds.length≤fn.ntmps:=by exact Nat.le_of_ble_eq_true rfl):CallP T st f ds N:=call_walk hp hf hb hn h
theorem aC (i:Nat) (d:D) (ds:List D):argsTm i (d::ds)=(i,d)::argsTm (i+1) ds:=argsTm_cons i d ds
theorem aN (i:Nat):argsTm i []=[]:=argsTm_nil i
theorem dw {ops:Array Oper} {k:List Fr} {Q:Qt} (n:Nat) (l:List Nat) {id:Nat} (h:vD T ops (SU g T k .normal Q) l st) (hd:drawChk T ops n l=true:=by kernel_rfl) (hl:(l.all fun i=>Nat.blt i n)=true:=by kernel_rfl) (hnd:l.Nodup:=by decide):SK g T (.region id ops true) k st Q:=sk_draw n l hd hl hnd h
theorem dv {ops:Array Oper} {k:List Fr} {Q:Qt} (n:Nat) (l bl:List Nat) {id:Nat} (h:vT T ops bl (SU g T k .normal Q) l [] st) (hd:drawChk2 T ops n l bl=true:=by kernel_rfl) (hl:(l.all fun i=>Nat.blt i n)=true:=by kernel_rfl) (hnd:l.Nodup:=by decide):SK g T (.region id ops true) k st Q:=sk_draw2 n l bl hd hl hnd h
theorem cq {d0:D} {N:D→List Ob→Prop} {q hp:Prop} (hh:hp) (hv:VC T f ds' fun d=>d=d0) (hq:q) (e:hp→(ds.map (im1 st.so)=ds'∧D.pr d0=true∧okI d0=true):=by intro hh;(repeat simp (maxSteps:=10000000) (disch:=first | assumption | (simp (disch:=(intro _;exact Vm.byRefl (by with_unfolding_all rfl))) only [tyfacts,Vm.szO_eq,Am.vd,hh,Nat.reduceEqDiff,Nat.reduceLT,Nat.reduceLeDiff,Nat.reduceMul,Nat.reduceAdd,Int.reduceEq,Int.reduceSub,Int.reduceToNat,reduceCtorEq,implies_true];try omega;done) | omega | (intro _;exact Vm.byRefl (by with_unfolding_all rfl))) only [Vm.wantedD,Am.va,Nat.reduceAdd,Nat.reduceMul,Nat.reduceSub,Nat.reduceLT,Nat.reduceLeDiff,Nat.reduceEqDiff,Int.reduceAdd,Int.reduceLT,Int.reduceLE,Int.reduceNeg,Int.reduceEq,Int.reduceSub,Int.reduceToNat,reduceCtorEq,↓reduceIte,tyfacts,hh])) (k:hp→q→N (inD st.so d0).1 (inD st.so d0).2:=by intro hh k_;(repeat (first | with_reducible refine Vm.sk_region _ _ ?_ | simp (maxSteps:=10000000) (disch:=first | assumption | (simp (disch:=(intro _;exact Vm.byRefl (by with_unfolding_all rfl))) only [tyfacts,Vm.szO_eq,Am.vd,hh,Nat.reduceEqDiff,Nat.reduceLT,Nat.reduceLeDiff,Nat.reduceMul,Nat.reduceAdd,Int.reduceEq,Int.reduceSub,Int.reduceToNat,reduceCtorEq,implies_true];try omega;done) | omega | (intro _;exact Vm.byRefl (by with_unfolding_all rfl))) only [Vm.wantedD,Am.va,Nat.reduceAdd,Nat.reduceMul,Nat.reduceSub,Nat.reduceLT,Nat.reduceLeDiff,Nat.reduceEqDiff,Int.reduceAdd,Int.reduceLT,Int.reduceLE,Int.reduceNeg,Int.reduceEq,Int.reduceSub,Int.reduceToNat,reduceCtorEq,↓reduceIte,tyfacts,hh]));all_goals exact k_) (h2:Dflt q:=by first | exact Vm.dfltT | exact True.intro):CallP T st f ds N:=call_eq2 hv (e hh) (k hh hq)
theorem fy {c0:Code} {kf:List Fr} {Q:Qt} {q hp:Prop} (k:Nat) (hh:hp) (hq:q) {cs:List D} (hk:so[k]?=some (.cell cs):=by exact rfl) (hn:hp→nlL cs=true:=by intro hh;(repeat simp (maxSteps:=10000000) (disch:=first | assumption | (simp (disch:=(intro _;exact Vm.byRefl (by with_unfolding_all rfl))) only [tyfacts,Vm.szO_eq,Am.vd,hh,Nat.reduceEqDiff,Nat.reduceLT,Nat.reduceLeDiff,Nat.reduceMul,Nat.reduceAdd,Int.reduceEq,Int.reduceSub,Int.reduceToNat,reduceCtorEq,implies_true];try omega;done) | omega | (intro _;exact Vm.byRefl (by with_unfolding_all rfl))) only [Vm.wantedD,Am.va,Nat.reduceAdd,Nat.reduceMul,Nat.reduceSub,Nat.reduceLT,Nat.reduceLeDiff,Nat.reduceEqDiff,Int.reduceAdd,Int.reduceLT,Int.reduceLE,Int.reduceNeg,Int.reduceEq,Int.reduceSub,Int.reduceToNat,reduceCtorEq,↓reduceIte,tyfacts,hh])) (h:hp→q→SK g T c0 kf ⟨fzT k cs tm,(so.set k .dead).map (fzO k cs),n⟩ Q:=by intro hh k_;simp only [Vm.fzT,Vm.fzD,Vm.fzL,Vm.fzO,List.map_cons,List.map_nil,List.set_cons_zero,List.set_cons_succ,List.map_append,Nat.reduceEqDiff,↓reduceIte,hh];exact k_):SK g T c0 kf ⟨tm,so,n⟩ Q:=sk_fz k hk (hn hh) (h hh hq)
theorem rz {e:Ex} {rs:List ResultVar} {R:D→Prop} {q hp:Prop} (hh:hp) (hq:q) (h:hp→q→RetP R st.so (resD T st rs):=by intro hh k_;simp (maxSteps:=10000000) (disch:=first | assumption | (simp (disch:=(intro _;exact Vm.byRefl (by with_unfolding_all rfl))) only [tyfacts,Vm.szO_eq,Am.vd,hh,Nat.reduceEqDiff,Nat.reduceLT,Nat.reduceLeDiff,Nat.reduceMul,Nat.reduceAdd,Int.reduceEq,Int.reduceSub,Int.reduceToNat,reduceCtorEq,implies_true];try omega;done) | omega | (intro _;exact Vm.byRefl (by with_unfolding_all rfl))) only [Vm.wantedD,Am.va,Nat.reduceAdd,Nat.reduceMul,Nat.reduceSub,Nat.reduceLT,Nat.reduceLeDiff,Nat.reduceEqDiff,Int.reduceAdd,Int.reduceLT,Int.reduceLE,Int.reduceNeg,Int.reduceEq,Int.reduceSub,Int.reduceToNat,reduceCtorEq,↓reduceIte,tyfacts,hh];all_goals exact k_) (h2:Dflt q:=by first | exact Vm.dfltT | exact True.intro) (he:e=.ret∨e=.normal:=by first | exact .inl rfl | exact .inr rfl) (hu:Rho g:=by assumption):SU g T [] e (RetQ T rs (Post g R)) st:=ret_ok he hu (h hh hq)
end Go.Am.Vm
