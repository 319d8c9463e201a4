import Derived.Test.YtphjohoipocpnaaGreatVmD
import Derived.Test.YtphjohoipocpnaaGreatRkJ
import Derived.Test.YtphjohoipocpnaaGreatRkI
import Derived.Test.YtphjohoipocpnaaGreatRkG
import Derived.Test.YtphjohoipocpnaaGreatRkK
import Derived.Test.YtphjohoipocpnaaGreatRkL
set_option linter.unusedSimpArgs false
set_option linter.unusedVariables false
set_option maxRecDepth 8000
/- The law of objects that stay. No conditions. -/
namespace Go.Proofs.YtphjohoipocpnaaGreat.W
open Go.Am
theorem repN_app:∀ (xs ys:List Act) (s:List Sta) (n:Nat),repN s (xs++ys) n=if (repN s xs n).2.2=0 then repN (repN s xs n).1 ys (repN s xs n).2.1 else repN s xs n
 | [],ys,s,n=>by simp [repN]
 | a::xs,ys,s,n=>by
   simp only [List.cons_append,repN];split
   ·exact repN_app xs ys _ _
   ·rfl
theorem repN_shift:∀ (acs:List Act) (s:List Sta) (n m:Nat),repN s acs (n+m)=((repN s acs m).1,n+(repN s acs m).2.1,(repN s acs m).2.2)
 | [],s,n,m=>rfl
 | a::acs,s,n,m=>by
   simp only [repN];split
   ·rw [Nat.add_assoc];exact repN_shift acs _ n (m+1)
   ·rw [Nat.add_assoc]
theorem actsOf_app (ts:List Tra) (a b:List Int):actsOf ts (a++b)=actsOf ts a++actsOf ts b:=List.flatMap_append ..
theorem actsOf_one (ts:List Tra) {j:Nat} {t:Tra} (h:ts[j]?=some t):(actsOf ts [(j:Int)]).map (·.2)=t.acts:=by
 simp [actsOf,List.getD_eq_getElem?_getD,h,Function.comp_def]
noncomputable def cutI (c:Cas) (o:List Int) (i:Nat) (q:List Sta×Nat×Int):Prop:=
 (q.2.2=0→listE c o false=0∧repN q.1 ((actsOf c.trans (o.drop i)).map (·.2)) q.2.1=begE c o∧FitS q.1 (6 * (12 - i))∧q.1.length≤6∧q.2.1≤6 * i)∧(q.2.2≠0→q=begE c o)
theorem actsOf_len6 {ts:List Tra} (h:∀ t,t∈ts→t.acts.length≤6):∀ o:List Int,(actsOf ts o).length≤6 * o.length
 | []=>by simp [actsOf]
 | i::o=>by
   have ih:=actsOf_len6 h o
   have h1:(ts.getD i.toNat t0).acts.length≤6:=by
    rw [List.getD_eq_getElem?_getD];rcases Nat.lt_or_ge i.toNat ts.length with hi | hi
    ·rw [List.getElem?_eq_getElem hi];exact h _ (List.getElem_mem hi)
    ·rw [List.getElem?_eq_none hi];simp [t0]
   simp only [actsOf,List.flatMap_cons,List.length_append,List.length_map,List.length_cons] at ih ⊢;omega
theorem fz_F (k:Nat) (cs:List Vm.D) (xs:List Sta):(xs.map dF).map (Vm.fzL k cs)=xs.map dF:=by
 rw [List.map_map];exact List.map_congr_left fun x _=>by simp only [Function.comp,dF,Vm.fzL,Vm.fzD,fz_I]
set_option linter.defProp false in
def xROrd1:=ai @prLL_dI<|ai @pr_dF<|ai @prLL_dF<|ai @imLL_dF<|ai @imLL_I<|ai @nlR_dI<|ai @Vm.nlR_append<|ai @nlR_dF @Vm.dl8
noncomputable def fitE (c:Cas) (o:List Int):Int:=if o.any (badI c)=true then 3 else if ¬ o.Nodup then 2 else 0
theorem list_fit (c:Cas) (o:List Int) (w:Bool):listE c o w=if checkC c≠0 then checkC c else if fitE c o≠0 then fitE c o else if w=true∧o.length<c.trans.length then 13 else 0:=by
 unfold listE fitE
 by_cases h1:checkC c≠0
 ·simp only [if_pos h1]
 ·simp only [if_neg h1]
  by_cases h2:o.any (badI c)=true
  ·simp [h2]
  ·by_cases h3:o.Nodup
   ·simp [h2,h3]
   ·simp [h2,h3]
theorem any_take {α:Type} {p:α→Bool} {l:List α} {i:Nat} {x:α} (hx:l[i]?=some x) (h:(l.take i).any p=false):(p x=true→l.any p=true)∧(p x=false→(l.take (i+1)).any p=false):=
 ⟨fun q=>List.any_eq_true.2 ⟨x,List.mem_of_getElem? hx,q⟩,fun q=>by rw [take_at hx,List.any_append,h];simp [q]⟩
theorem rfits_v (c:Cas) (o:List Int) (ht:c.trans.length<1000000) (hl:o.length<1000000):Vm.VC T 44 [.agg (dC c),.imm 1 (o.map dI)] fun d=>d=.atom (.int .i64 (fitE c o)):=by
 refine Vm.ve (T:=T) Tryz.func44 fun g hB hG0 hU=>?_;simp only [Tryz.f44,Vm.aC,Vm.aN,Nat.reduceAdd];refine Vm.rn (ai xROrd1 @dC.eq_1) ?_;refine Vm.fy 0 (ai xROrd1<|ai @fz_I<|ai @fz_A4<|ai @fz_S4<|ai @fz_T4 @fz_N4) ?_;refine Vm.sk_loop (fun i:Nat=>o.length - i) (fun i=>⟨[(1,.imm 1 (o.map dI)),(2,.iptr (dC c) 0),(5,.atom (.int .i64 i))],[],49⟩) (fun i=>i≤o.length∧(o.take i).any (badI c)=false) 0 ?_ ⟨Nat.zero_le _,by simp⟩ ?_
 ·exact Vm.lx (Vm.cl (ai xROrd1 @dC.eq_1))
 rintro i ⟨hi,hn⟩ ih;refine Vm.rn xROrd1 ?_;refine Vm.sb_dec (fun hlt=>?_) (fun hge=>?_)
 ·obtain ⟨x,hx,gx⟩:=row_at (f:=dI) (l:=o) (i:=i) (by omega);obtain ⟨s1,s2⟩:=any_take hx hn;simp only [dI] at gx
  by_cases g1:x<0
  ·have hb:badI c x=true:=by simp [badI,g1]
   refine Vm.rn xROrd1 ?_;refine Vm.dw 15 [0,1,2,3,4,5,6,7,8,9,10,11,12,13,14] ?_;refine Vm.rn (ai xROrd1<|ai @gx<|ai @dC.eq_1 @g1) ?_;refine Vm.rn xROrd1 ?_;refine Vm.rz xROrd1 ?_;simp [fitE,s1 hb]
  by_cases g2:(c.trans.length:Int)≤x
  ·have hb:badI c x=true:=by simp [badI,g2]
   refine Vm.rn xROrd1 ?_;refine Vm.dw 15 [0,1,2,3,4,5,6,7,8,9,10,11,12,13,14] ?_;refine Vm.rn (ai xROrd1<|ai @gx<|ai @dC.eq_1<|ai @g1 @g2) ?_;refine Vm.rn xROrd1 ?_;refine Vm.rz xROrd1 ?_;simp [fitE,s1 hb]
  have hb:badI c x=false:=by simp [badI];omega
  refine Vm.rn xROrd1 ?_;refine Vm.dw 15 [0,1,2,3,4,5,6,7,8,9,10,11,12,13,14] ?_;refine Vm.rn (ai xROrd1<|ai @gx<|ai @dC.eq_1<|ai @g1 @g2) ?_;refine Vm.rn xROrd1 ?_;refine ih (i+1) _ (by dsimp only;omega) ⟨by omega,s2 hb⟩ ?_;exact Vm.lx (Vm.cl (ai xROrd1<|ai @Int.natCast_add @dC.eq_1))
 ·have:i=o.length:=by omega
  subst this;rw [List.take_length] at hn;refine Vm.rn xROrd1 ?_;refine Vm.sk_loop (fun i:Nat=>o.length - i) (fun i=>⟨[(1,.imm 1 (o.map dI)),(6,.atom (.int .i64 i))],[],49⟩) (fun i=>i≤o.length∧(o.take i).Nodup) 0 ?_ ⟨Nat.zero_le _,by simp⟩ ?_
  ·exact Vm.lx (Vm.cl xROrd1)
  rintro i ⟨hi,hnd⟩ ih;refine Vm.rn xROrd1 ?_;refine Vm.sb_dec (fun hc=>?_) (fun hc=>?_)
  ·obtain ⟨x,hx,g1⟩:=row_at (f:=dI) (l:=o) (i:=i) (by omega);have st:=nodup_step hx hnd;simp only [dI] at g1;refine Vm.rn xROrd1 ?_;refine Vm.sk_loop (fun k:Nat=>i - k) (fun k=>⟨[(1,.imm 1 (o.map dI)),(6,.atom (.int .i64 i)),(7,.atom (.int .i64 k))],[],49⟩) (fun k=>k≤i∧x∉o.take k) 0 ?_ ⟨by omega,by simp⟩ ?_
   ·exact Vm.lx (Vm.cl xROrd1)
   rintro k ⟨hk,hm⟩ ihk;refine Vm.rn xROrd1 ?_;refine Vm.sb_dec (fun hd=>?_) (fun hd=>?_)
   ·obtain ⟨y,hy,g2⟩:=row_at (f:=dI) (l:=o) (i:=k) (by omega);simp only [dI] at g2;refine Vm.rn xROrd1 ?_;refine Vm.dw 9 [0,1,2,3,4,5,6,7,8] ?_;refine Vm.rn (ai xROrd1<|ai @g1 @g2) ?_;refine Vm.sb_dec (fun hb=>?_) (fun hb=>?_)
    ·refine Vm.rn xROrd1 ?_;refine Vm.rz xROrd1 ?_
     have h1:x∈o.take i:=by
      rw [← hb];exact List.mem_of_getElem? (i:=k) (by rw [List.getElem?_take,if_pos (by omega)];exact hy)
     have h2:¬ o.Nodup:=fun h=>st.1 (h.sublist (List.take_sublist _ _)) h1;simp [fitE,hn,h2]
    ·refine Vm.rn xROrd1 ?_;refine ihk (k+1) _ (by dsimp only;omega) ⟨by omega,?_⟩ ?_
     ·rw [take_at hy,List.mem_append,List.mem_singleton];exact fun h=>h.elim hm fun h=>hb h.symm
     exact Vm.lx (Vm.cl (ai xROrd1 @Int.natCast_add))
   ·have:k=i:=by omega
    subst this;refine Vm.rn xROrd1 ?_;refine ih (k+1) _ (by dsimp only;omega) ⟨by omega,st.2 hm⟩ ?_;exact Vm.lx (Vm.cl (ai xROrd1 @Int.natCast_add))
  ·have:i=o.length:=by omega
   subst this;rw [List.take_length] at hnd;refine Vm.rn xROrd1 ?_;refine Vm.rz xROrd1 ?_;simp [fitE,hn,hnd]
theorem renO_dead (r:List Nat):Vm.renO r .dead=.dead:=rfl
theorem repN_err:∀ (acs:List Act) (s:List Sta) (n:Nat),(repN s acs n).2.2≠0→(repN s acs n).1=[]
 | [],s,n,h=>absurd rfl h
 | a::acs,s,n,h=>by
   simp only [repN] at h ⊢;split at h
   ·rename_i e;rw [if_pos e];exact repN_err acs _ _ h
   ·rename_i e;rw [if_neg e]
set_option maxHeartbeats 1000000 in
theorem rdone_v (c:Cas) (hc:FitC c) (o:List Int) (hl:o.length<1000) (hin:∀ i,i∈o→0≤i∧i<c.trans.length) (hf:FitS c.first (100 * o.length)) (hi:∀ t,t∈c.trans→∀ a,a∈t.acts→ActI a) :
  Vm.VC T 45 [.agg (dC c),.imm 1 (o.map dI)] fun d=>d=dRep (repN c.first ((actsOf c.trans o).map (·.2)) 0):=by
 obtain ⟨f1,f2,f3,f4,f5⟩:=hc;refine Vm.VC.dl ?_;refine Vm.ve (T:=T) Tryz.func45 fun g hB hG0 hU=>?_;simp only [Tryz.f45,Vm.aC,Vm.aN,Nat.reduceAdd];refine Vm.rn (ai xROrd1 @dC.eq_1) ?_;refine Vm.cq xROrd1 (copySs_v c.first (by omega) f4) ?_;refine Vm.fy 0 (ai xROrd1<|ai @fz_F<|ai @fz_I<|ai @fz_A4<|ai @fz_S4<|ai @fz_T4 @fz_N4) ?_;generalize hT:repN c.first ((actsOf c.trans o).map (·.2)) 0=tot
 refine Vm.sk_loop (fun q:Nat×List Sta×Nat=>o.length - q.1) (fun q=>⟨[(1,.imm 1 (o.map dI)),(2,.iptr (dC c) 0),(7,.own 1 q.2.1.length),(8,.atom (.int .i64 q.2.2)),(9,.atom (.int .i64 q.1))],[.dead,.sl 3 (q.2.1.map dF)],46⟩)
  (fun q=>q.1≤o.length∧q.2.1.length≤c.first.length∧FitS q.2.1 (100 * (o.length - q.1))∧q.2.2≤100 * q.1∧repN q.2.1 ((actsOf c.trans (o.drop q.1)).map (·.2)) q.2.2=tot) (0,c.first,0) ?_ ⟨Nat.zero_le _,Nat.le_refl _,hf,Nat.zero_le _,hT⟩ ?_
 ·exact Vm.lx (Vm.cl (ai xROrd1 @dC.eq_1))
 rintro ⟨i,s,m⟩ ⟨h1,h2,h3,h4,h5⟩ ih;dsimp only at h1 h2 h3 h4 h5;refine Vm.rn xROrd1 ?_;refine Vm.sb_dec (fun hlt=>?_) (fun hge=>?_)
 ·obtain ⟨x,hx,gx⟩:=row_at (f:=dI) (l:=o) (i:=i) (by omega);have hxr:=hin x (List.mem_of_getElem? hx);obtain ⟨j,rfl⟩:∃ j:Nat,x=j:=⟨x.toNat,by omega⟩
  obtain ⟨t,ht,gt⟩:=row_at (f:=dT) (l:=c.trans) (i:=j) (by omega);have htm:=List.mem_of_getElem? ht;have ht6:=(f5 t htm).1
  have e1:(actsOf c.trans (o.drop i)).map (·.2)=t.acts++(actsOf c.trans (o.drop (i+1))).map (·.2):=by
   rw [drop_at hx,← List.singleton_append,actsOf_app,List.map_append,actsOf_one _ ht]
  have hm:=repN_many t.acts s 0;have hlen:=repN_len t.acts s 0;have hfit:FitS (repN s t.acts 0).1 (100 * (o.length - (i+1))):=repN_fit _ _ _ _ fun x hx=>by have:=h3 x hx;omega
  have he:=repN_err t.acts s 0;have e2:=repN_shift t.acts s m 0;rw [Nat.add_zero] at e2;rw [e1,repN_app,e2] at h5;have hrt:=rtrans_v s t (by omega) (by omega) (fun x hx=>by have:=h3 x hx;omega) (hi t htm);generalize repN s t.acts 0=q at hm hlen hfit he h5 hrt;obtain ⟨s',n,e⟩:=q;dsimp only at hm hlen hfit he h5;simp only [dT] at gt;simp only [dI] at gx;refine Vm.rn xROrd1 ?_;refine Vm.dw 17 [0,1,2,3,4,5,6,7,8,9,10,11,12,13,14,15,16] ?_;refine Vm.rn (ai xROrd1<|ai @gx<|ai @dC.eq_1 @gt) ?_
  (have hh:=ai xROrd1<|ai @dT.eq_1 @dRep.eq_1;(first | refine Vm.callQ_eq2 (hrt) (Vm.ct hh) (Vm.rt hh ?_) | refine Vm.call_eq2 (hrt) (Vm.ct hh) (Vm.rt hh ?_));clear hh)
  by_cases hz:e=0
  ·rw [if_pos hz] at h5;refine Vm.rn (ai xROrd1 @hz) ?_;refine ih (i+1,s',m+n) _ (by dsimp only;omega) ⟨by dsimp only;omega,by dsimp only;omega,hfit,by dsimp only;omega,h5⟩ ?_;exact Vm.le_ren2 [0,2] hG0 rfl (by decide) (Vm.cl (ai xROrd1<|ai @Int.natCast_add<|ai @dC.eq_1 @renO_dead))
  ·rw [if_neg hz] at h5;rw [← h5];have he:=he hz;subst he;refine Vm.rn (ai xROrd1 @hz) ?_;exact Vm.rx (Vm.cl (ai xROrd1 @dRep.eq_1))
 ·have:i=o.length:=by omega
  subst this;rw [List.drop_length] at h5;have h5:(s,m,0)=tot:=h5;rw [← h5];refine Vm.rn xROrd1 ?_;exact Vm.rx (Vm.cl (ai xROrd1 @dRep.eq_1))
set_option linter.defProp false in
def xROrd2:=ai @prLL_dI<|ai @pr_dF<|ai @prLL_dF<|ai @imLL_dF<|ai @imLL_I<|ai @nlR_dI<|ai @Vm.nlR_append<|ai @nlR_dF @Vm.dl8
theorem fit_ok {c:Cas} {o:List Int} (h:fitE c o=0):(∀ i,i∈o→0≤i∧i<c.trans.length)∧o.Nodup:=by
 unfold fitE at h;split at h
 ·cases h
 rename_i h1;split at h
 ·cases h
 rename_i h2;refine ⟨fun i hi=>?_,by simpa using h2⟩;have:=List.any_eq_false.1 (by simpa using h1:o.any (badI c)=false) i hi;simp [badI] at this;omega
theorem nodup_len:∀ (n:Nat) (l:List Int),l.Nodup→(∀ x,x∈l→0≤x∧x<n)→l.length≤n
 | 0,l,_,h=>by
   cases l with
   | nil=>exact Nat.le_refl _
   | cons x l=>have:=h x (by simp);omega
 | n+1,l,hn,h=>by
   have h1:=nodup_len n (l.erase (n:Int)) (hn.erase _) fun x hx=>by
    have h2:=hn.mem_erase_iff.1 hx;have h3:=h x h2.2;have h4:=h2.1;omega
   rw [List.length_erase] at h1;split at h1 <;> omega
set_option maxHeartbeats 1000000 in
theorem rbegin_v (c:Cas) (hc:FitC c) (o:List Int) (hl:o.length<1000) (hf:FitS c.first (100 * o.length)) (hi:∀ t,t∈c.trans→∀ a,a∈t.acts→ActI a) :
  Vm.VC T 21 [.agg (dC c),.imm 1 (o.map dI)] fun d=>d=dRep (begE c o):=by
 refine Vm.VC.dl ?_;have hlf:=list_fit c o false;refine Vm.ve (T:=T) Tryz.func21 fun g hB hG0 hU=>?_;simp only [Tryz.f21,Vm.aC,Vm.aN,Nat.reduceAdd];refine Vm.rn (ai xROrd2 @dC.eq_1) ?_;refine Vm.cq (ai xROrd2 @dC.eq_1) (rcheckC_v c hc) ?_
 by_cases hz:checkC c=0
 ·rw [if_neg (by simpa using hz)] at hlf;refine Vm.rn (ai xROrd2 @hz) ?_;refine Vm.cq (ai xROrd2 @dC.eq_1) (rfits_v c o (by have:=hc.2.2.1;omega) (by omega)) ?_
  by_cases h1:fitE c o=0
  ·rw [if_neg (by simpa using h1),if_neg (by simp)] at hlf;refine Vm.rn (ai xROrd2 @h1) ?_;refine Vm.cq (ai xROrd2<|ai @dC.eq_1 @dRep.eq_1) (rdone_v c hc o hl (fit_ok h1).1 hf hi) ?_;refine Vm.rz (ai xROrd2 @dRep.eq_1) ?_;simp [begE,hlf]
  ·rw [if_pos h1] at hlf;refine Vm.rn (ai xROrd2 @h1) ?_;refine Vm.rz xROrd2 ?_;simp [begE,hlf,h1,dRep,Vm.dl8]
 ·rw [if_pos hz] at hlf;refine Vm.rn (ai xROrd2 @hz) ?_;refine Vm.rz xROrd2 ?_;simp [begE,hlf,hz,dRep,Vm.dl8]
set_option maxHeartbeats 1000000 in
theorem rorder_v (c:Cas) (hc:FitC c) (o:List Int) (hl:o.length<1000) (hf:FitS c.first (100 * o.length)) (hi:∀ t,t∈c.trans→∀ a,a∈t.acts→ActI a) :
  Vm.VC T 23 [.agg (dC c),.imm 1 (o.map dI)] fun d=>d=dRep (ordE c o):=by
 refine Vm.VC.dl ?_;have hlf:=list_fit c o true;have hc3:=hc.2.2.1;refine Vm.ve (T:=T) Tryz.func23 fun g hB hG0 hU=>?_;simp only [Tryz.f23,Vm.aC,Vm.aN,Nat.reduceAdd];refine Vm.rn (ai xROrd2 @dC.eq_1) ?_;refine Vm.cq (ai xROrd2 @dC.eq_1) (rcheckC_v c hc) ?_
 by_cases hz:checkC c=0
 ·rw [if_neg (by simpa using hz)] at hlf;refine Vm.rn (ai xROrd2 @hz) ?_;refine Vm.cq (ai xROrd2 @dC.eq_1) (rfits_v c o (by omega) (by omega)) ?_
  by_cases h1:fitE c o=0
  ·rw [if_neg (by simpa using h1)] at hlf;have hle:=nodup_len c.trans.length o (fit_ok h1).2 (fit_ok h1).1
   by_cases h2:(o.length:Int)=c.trans.length
   ·rw [if_neg (by omega)] at hlf;refine Vm.rn (ai xROrd2<|ai @h1<|ai @h2 @dC.eq_1) ?_;refine Vm.cq (ai xROrd2<|ai @dC.eq_1 @dRep.eq_1) (rdone_v c hc o hl (fit_ok h1).1 hf hi) ?_;refine Vm.rz (ai xROrd2 @dRep.eq_1) ?_;simp [ordE,hlf]
   ·rw [if_pos ⟨rfl,by omega⟩] at hlf;refine Vm.rn (ai xROrd2<|ai @h1<|ai @h2 @dC.eq_1) ?_;refine Vm.rz xROrd2 ?_;simp [ordE,hlf,dRep,Vm.dl8]
  ·rw [if_pos h1] at hlf;refine Vm.rn (ai xROrd2 @h1) ?_;refine Vm.rz xROrd2 ?_;simp [ordE,hlf,h1,dRep,Vm.dl8]
 ·rw [if_pos hz] at hlf;refine Vm.rn (ai xROrd2 @hz) ?_;refine Vm.rz xROrd2 ?_;simp [ordE,hlf,hz,dRep,Vm.dl8]
theorem sameX_v (xs:List (List UInt8)) (hl:xs.length<1000000000):Vm.VC T 50 [.imm 1 (xs.map fun s=>[Vm.D.atom (.str s)]),.imm 1 (xs.map fun s=>[Vm.D.atom (.str s)])] fun d=>d=.atom (.bool true):=by
 refine Vm.ve (T:=T) Tryz.func50 fun g hB hG0 hU=>?_;simp only [Tryz.f50,Vm.aC,Vm.aN,Nat.reduceAdd];refine Vm.rn xROrd2 ?_;refine Vm.sk_loop (fun i:Nat=>xs.length - i) (fun i=>⟨[(0,.imm 1 (xs.map fun s=>[Vm.D.atom (.str s)])),(1,.imm 1 (xs.map fun s=>[Vm.D.atom (.str s)])),(5,.atom (.int .i64 i))],[],26⟩) (fun i=>i≤xs.length) 0 ?_ (Nat.zero_le _) ?_
 ·exact Vm.lx (Vm.cl xROrd2)
 intro i hi ih;refine Vm.rn xROrd2 ?_;refine Vm.sb_dec (fun hlt=>?_) (fun hge=>?_)
 ·obtain ⟨x,hx,gx⟩:=name_at (l:=xs) (i:=i) (by omega);refine Vm.rn xROrd2 ?_;refine Vm.dw 9 [0,1,2,3,4,5,6,7,8] ?_;refine Vm.rn (ai xROrd2 @gx) ?_;refine Vm.rn xROrd2 ?_;refine ih (i+1) _ (by dsimp only;omega) (by omega) ?_;exact Vm.lx (Vm.cl (ai xROrd2 @Int.natCast_add))
 ·refine Vm.rn xROrd2 ?_;exact Vm.rx (Vm.cl xROrd2)
theorem sameC_v (c:Cas) (hc:FitC c):Vm.VC T 26 [.agg (dC c),.agg (dC c)] fun d=>d=.atom (.bool true):=by
 obtain ⟨f1,f2,f3,f4,f5⟩:=hc;refine Vm.ve (T:=T) Tryz.func26 fun g hB hG0 hU=>?_;simp only [Tryz.f26,Vm.aC,Vm.aN,Nat.reduceAdd];refine Vm.rn (ai xROrd2 @dC.eq_1) ?_;refine Vm.cq xROrd2 (sameX_v c.names (by omega)) ?_;refine Vm.cq xROrd2 (sameSs_v c.first c.first (by omega) f4) ?_;refine Vm.fy 0 (ai xROrd2<|ai @fz_I<|ai @fz_A4<|ai @fz_S4<|ai @fz_T4 @fz_N4) ?_;refine Vm.fy 1 (ai xROrd2<|ai @fz_I<|ai @fz_A4<|ai @fz_S4<|ai @fz_T4 @fz_N4) ?_;refine Vm.sk_loop (fun i:Nat=>c.trans.length - i) (fun i=>⟨[(2,.iptr (dC c) 0),(3,.iptr (dC c) 0),(5,.atom (.int .i64 i))],[],48⟩) (fun i=>i≤c.trans.length) 0 ?_ (Nat.zero_le _) ?_
 ·exact Vm.lx (Vm.cl (ai xROrd2 @dC.eq_1))
 intro i hi ih;refine Vm.rn (ai xROrd2 @dC.eq_1) ?_;refine Vm.sb_dec (fun hlt=>?_) (fun hge=>?_)
 ·obtain ⟨t,ht,gt⟩:=row_at (f:=dT) (l:=c.trans) (i:=i) (by omega);obtain ⟨t1,t2⟩:=f5 t (List.mem_of_getElem? ht);simp only [dT] at gt;refine Vm.rn xROrd2 ?_;refine Vm.dw 12 [0,1,2,3,4,5,6,7,8,9,10,11] ?_;refine Vm.rn (ai xROrd2<|ai @gt @dC.eq_1) ?_
  (have hh:=ai xROrd2 @dT.eq_1;(first | refine Vm.callQ_eq2 (sameT_v t t (by omega) (by omega)) (Vm.ct hh) (Vm.rt hh ?_) | refine Vm.call_eq2 (sameT_v t t (by omega) (by omega)) (Vm.ct hh) (Vm.rt hh ?_));clear hh)
  refine Vm.rn xROrd2 ?_;refine ih (i+1) _ (by dsimp only;omega) (by omega) ?_;exact Vm.lx (Vm.cl (ai xROrd2<|ai @Int.natCast_add @dC.eq_1))
 ·refine Vm.rn xROrd2 ?_;exact Vm.rx (Vm.cl xROrd2)
set_option linter.defProp false in
def xROrd3:=ai @prLL_dI<|ai @pr_dF<|ai @prLL_dF<|ai @imLL_dF<|ai @imLL_I<|ai @nlR_dI<|ai @Vm.nlR_append<|ai @nlR_dF @Vm.dl8
def lstS (b:Int) (acc:Option (Int×Act)) (p:Int×Act):Option (Int×Act):=match acc with
 | none=>if b<p.1 then some p else none
 | some q=>if b<p.1∧p.1<q.1 then some p else some q
def lstF (b:Int) (l:List (Int×Act)):Option (Int×Act):=l.foldl (lstS b) none
def actZ:Act:=⟨0,⟨0,0,0,⟨0,0⟩⟩⟩
def acO:Option (Int×Act)→Act
 | none=>actZ
 | some p=>p.2
def atO:Option (Int×Act)→Int
 | none=>0
 | some p=>p.1
theorem lst_nil (b:Int):lstF b []=none:=rfl
theorem sin_nil:sinC []=[]:=rfl
theorem lst_snoc (b:Int) (l:List (Int×Act)) (p:Int×Act):lstF b (l++[p])=lstS b (lstF b l) p:=by simp [lstF,List.foldl_append]
theorem lst_spec (b:Int):∀ (l:List (Int×Act)) (acc:Option (Int×Act)),(∀ q,acc=some q→b<q.1) →
  (l.foldl (lstS b) acc=none→acc=none∧∀ p,p∈l→¬ b<p.1) ∧
  (∀ p,l.foldl (lstS b) acc=some p→(p∈l∨acc=some p)∧b<p.1∧(∀ q,q∈l→b<q.1→p.1≤q.1)∧∀ q,acc=some q→p.1≤q.1)
 | [],acc,ha=>by
   refine ⟨fun h=>⟨h,fun p hp=>by cases hp⟩,fun p h=>⟨.inr h,ha p h,fun q hq=>(by cases hq),fun q hq=>?_⟩⟩;have h:acc=some p:=h;rw [h] at hq;cases hq;exact Int.le_refl _
 | x::l,acc,ha=>by
   rw [List.foldl_cons]
   have hs:∀ q,lstS b acc x=some q→b<q.1:=fun q hq=>by
    cases acc with
    | none =>
      simp only [lstS] at hq;split at hq
      ·cases hq;assumption
      ·cases hq
    | some y =>
      simp only [lstS] at hq;split at hq
      ·rename_i h;cases hq;exact h.1
      ·cases hq;exact ha _ rfl
   obtain ⟨h1,h2⟩:=lst_spec b l (lstS b acc x) hs;refine ⟨fun h=>?_,fun p h=>?_⟩
   ·obtain ⟨g1,g2⟩:=h1 h
    cases acc with
    | none =>
      simp only [lstS] at g1;split at g1
      ·cases g1
      ·rename_i hn;refine ⟨rfl,fun p hp=>?_⟩;rcases List.mem_cons.1 hp with e | hp
       ·rw [e];exact hn
       ·exact g2 p hp
    | some y =>
      simp only [lstS] at g1;split at g1 <;> cases g1
   ·obtain ⟨g1,g2,g3,g4⟩:=h2 p h
    cases acc with
    | none =>
      simp only [lstS] at g1 g4;split at g1
      ·rename_i hx;rw [if_pos hx] at g4;refine ⟨.inl (List.mem_cons.2 (g1.elim .inr fun e=>.inl (Option.some.inj e).symm)),g2,fun q hq hb=>?_,fun q hq=>by cases hq⟩;rcases List.mem_cons.1 hq with e | hq
       ·rw [e];exact g4 _ rfl
       ·exact g3 q hq hb
      ·rename_i hx;refine ⟨.inl (List.mem_cons_of_mem _ (g1.resolve_right fun e=>by cases e)),g2,fun q hq hb=>?_,fun q hq=>by cases hq⟩;rcases List.mem_cons.1 hq with e | hq
       ·rw [e] at hb;exact absurd hb hx
       ·exact g3 q hq hb
    | some y =>
      simp only [lstS] at g1 g4;split at g1
      ·rename_i hx;rw [if_pos hx] at g4;have hpx:=g4 _ rfl;refine ⟨.inl (List.mem_cons.2 (g1.elim .inr fun e=>.inl (Option.some.inj e).symm)),g2,fun q hq hb=>?_,fun q hq=>?_⟩
       ·rcases List.mem_cons.1 hq with e | hq
        ·rw [e];exact hpx
        ·exact g3 q hq hb
       ·cases hq;omega
      ·rename_i hx;rw [if_neg hx] at g4;have hpy:=g4 _ rfl;refine ⟨g1.imp (List.mem_cons_of_mem _) id,g2,fun q hq hb=>?_,fun q hq=>by cases hq;exact hpy⟩;rcases List.mem_cons.1 hq with e | hq
       ·rw [e] at hb ⊢;have:¬ x.1<y.1:=fun h=>hx ⟨hb,h⟩;omega
       ·exact g3 q hq hb
theorem lst_ev {l S:List (Int×Act)} (hp:S.Perm l) (hs:S.Pairwise fun x y=>x.1<y.1) {b:Int} {k:Nat} (h1:∀ q,q∈S.take k→q.1≤b) (h2:∀ q,q∈S.drop k→b<q.1):lstF b l=S[k]?:=by
 obtain ⟨g1,g2⟩:=lst_spec b l none fun q h=>by cases h
 have key:∀ q,q∈l→b<q.1→q∈S.drop k:=fun q hq hb=>by
  have hq:=hp.mem_iff.2 hq;rw [← List.take_append_drop k S] at hq;rcases List.mem_append.1 hq with h | h
  ·have:=h1 q h;omega
  ·exact h
 cases hk:S[k]? with
 | none =>
   have hd:S.drop k=[]:=List.drop_of_length_le (List.getElem?_eq_none_iff.1 hk)
   cases hr:lstF b l with
   | none=>rfl
   | some p =>
     obtain ⟨m,hb,_⟩:=g2 p hr;have:=key p (m.resolve_right fun e=>by cases e) hb;rw [hd] at this;cases this
 | some x =>
   have hd:=drop_at hk;have hx:x∈S.drop k:=by rw [hd];simp
   have hxl:x∈l:=hp.mem_iff.1 (List.mem_of_mem_drop hx)
   cases hr:lstF b l with
   | none=>exact absurd (h2 x hx) ((g1 hr).2 x hxl)
   | some p =>
     obtain ⟨m,hb,hm,_⟩:=g2 p hr;have hpd:=key p (m.resolve_right fun e=>by cases e) hb;have hle:=hm x hxl (h2 x hx);rw [hd] at hpd;rcases List.mem_cons.1 hpd with e | h
     ·rw [e]
     ·have hs2:(S.drop k).Pairwise fun x y=>x.1<y.1:=hs.sublist (List.drop_sublist _ _);rw [hd] at hs2;have:=(List.pairwise_cons.1 hs2).1 p h;omega
theorem evP_strict {l:List (Int×Act)} (h:(l.map (·.1)).Nodup):(evP l).Pairwise fun x y=>x.1<y.1:=by
 have h1:(evP l).Pairwise fun x y=>decide (x.1≤y.1)=true:=List.pairwise_mergeSort (fun a b c h1 h2=>by simp at *;omega) (fun a b=>by simp;omega) l;have h2:((evP l).map (·.1)).Nodup:=((List.mergeSort_perm l _).map _).nodup_iff.2 h;have h3:(evP l).Pairwise fun x y=>x.1≠y.1:=List.pairwise_map.1 h2;exact (h1.and h3).imp fun ⟨a,b⟩=>by simp at a;omega
set_option maxHeartbeats 1000000 in
theorem least_v (c:Cas) (hc:FitC c) (hp:Plc c) (b:Int):Vm.VC T 49 [.agg (dC c),.atom (.int .i64 b)] fun d =>
  d=.tuple [.agg (dA (acO (lstF b (sinC c.trans)))),.atom (.int .i64 (atO (lstF b (sinC c.trans)))),.atom (.bool (lstF b (sinC c.trans)).isSome)]:=by
 obtain ⟨f1,f2,f3,f4,f5⟩:=hc;refine Vm.ve (T:=T) Tryz.func49 fun g hB hG0 hU=>?_;simp only [Tryz.f49,Vm.aC,Vm.aN,Nat.reduceAdd];refine Vm.rn (ai xROrd3 @dC.eq_1) ?_;refine Vm.fy 0 (ai xROrd3<|ai @fz_I<|ai @fz_A4<|ai @fz_S4<|ai @fz_T4 @fz_N4) ?_;refine Vm.sk_loop (fun i:Nat=>c.trans.length - i) (fun i=>⟨[(1,.atom (.int .i64 b)),(2,.iptr (dC c) 0),(4,.rptr 1 0),(7,.rptr 2 0),(8,.atom (.int .i64 (atO (lstF b (sinC (c.trans.take i)))))),(9,.atom (.bool (lstF b (sinC (c.trans.take i))).isSome)),(10,.atom (.int .i64 i))],[.dead,.cell (dA actZ),.cell (dA (acO (lstF b (sinC (c.trans.take i)))))],65⟩) (fun i=>i≤c.trans.length) 0 ?_ (Nat.zero_le _) ?_
 ·exact Vm.lx (Vm.cl (ai xROrd3<|ai @dC.eq_1<|ai @dA.eq_1<|ai @actZ.eq_1<|ai @List.take_zero.{0}<|ai @sin_nil<|ai @lst_nil<|ai @acO.eq_1<|ai @acO.eq_2<|ai @atO.eq_1<|ai @atO.eq_2 @Option.isSome_none.{0}))
 intro i hi1 ih;refine Vm.rn (ai xROrd3 @dC.eq_1) ?_;refine Vm.sb_dec (fun hlt=>?_) (fun hge=>?_)
 ·obtain ⟨t,ht,gt⟩:=row_at (f:=dT) (l:=c.trans) (i:=i) (by omega);obtain ⟨t1,t2⟩:=f5 t (List.mem_of_getElem? ht);have htl:=hp.len t (List.mem_of_getElem? ht);have hst:=sinC_step ht;have ht0:(sinT t).take 0=[]:=List.take_zero;simp only [dT] at gt;refine Vm.rn xROrd3 ?_;refine Vm.sk_loop (fun k:Nat=>t.at_.length - k) (fun k=>⟨[(1,.atom (.int .i64 b)),(2,.iptr (dC c) 0),(4,.rptr 1 0),(7,.rptr 2 0),(8,.atom (.int .i64 (atO (lstF b (sinC (c.trans.take i)++(sinT t).take k))))),(9,.atom (.bool (lstF b (sinC (c.trans.take i)++(sinT t).take k)).isSome)),(10,.atom (.int .i64 i)),(11,.atom (.int .i64 k))],[.dead,.cell (dA actZ),.cell (dA (acO (lstF b (sinC (c.trans.take i)++(sinT t).take k))))],65⟩) (fun k=>k≤t.at_.length) 0 ?_ (Nat.zero_le _) ?_
  ·exact Vm.lx (Vm.cl (ai xROrd3<|ai @ht0<|ai @List.append_nil.{0}<|ai @dA.eq_1 @dC.eq_1))
  intro k hk ihk;refine Vm.rn (ai xROrd3<|ai @gt @dC.eq_1) ?_;refine Vm.sb_dec (fun hlt2=>?_) (fun hge2=>?_)
  ·obtain ⟨a,ha,ga⟩:=row_at (f:=dA) (l:=t.acts) (i:=k) (by omega);obtain ⟨p,hpk,gp⟩:=row_at (f:=dI) (l:=t.at_) (i:=k) (by omega);have hs2:=lst_snoc b (sinC (c.trans.take i)++(sinT t).take k) (p,a);rw [List.append_assoc,← sin_step hpk ha] at hs2;simp only [dA] at ga;simp only [dI] at gp
   by_cases hb:b<p
   ·cases hacc:lstF b (sinC (c.trans.take i)++(sinT t).take k) with
    | none =>
      have hs3:lstF b (sinC (c.trans.take i)++(sinT t).take (k+1))=some (p,a):=by rw [hs2,hacc];simp [lstS,hb]
      refine Vm.rn (ai xROrd3<|ai @gt<|ai @dC.eq_1<|ai @gp<|ai @ga<|ai @hb<|ai @atO.eq_1<|ai @atO.eq_2<|ai @acO.eq_1<|ai @acO.eq_2<|ai @dA.eq_1<|ai @actZ.eq_1<|ai @Vm.overD.eq_1 @Option.isSome_none.{0}) ?_;refine ihk (k+1) _ (by dsimp only;omega) (by omega) ?_;exact Vm.lx (Vm.cl (ai xROrd3<|ai @Int.natCast_add<|ai @dC.eq_1<|ai @hs3<|ai @atO.eq_1<|ai @atO.eq_2<|ai @acO.eq_1<|ai @acO.eq_2<|ai @dA.eq_1<|ai @actZ.eq_1 @Option.isSome_some.{0}))
    | some q =>
      by_cases hq:p<q.1
      ·have hs3:lstF b (sinC (c.trans.take i)++(sinT t).take (k+1))=some (p,a):=by rw [hs2,hacc];simp [lstS,hb,hq]
       refine Vm.rn (ai xROrd3<|ai @gt<|ai @dC.eq_1<|ai @gp<|ai @ga<|ai @hb<|ai @hq<|ai @atO.eq_1<|ai @atO.eq_2<|ai @acO.eq_1<|ai @acO.eq_2<|ai @dA.eq_1<|ai @Vm.overD.eq_1 @Option.isSome_some.{0}) ?_;refine ihk (k+1) _ (by dsimp only;omega) (by omega) ?_;exact Vm.lx (Vm.cl (ai xROrd3<|ai @Int.natCast_add<|ai @dC.eq_1<|ai @hs3<|ai @atO.eq_1<|ai @atO.eq_2<|ai @acO.eq_1<|ai @acO.eq_2<|ai @dA.eq_1<|ai @actZ.eq_1 @Option.isSome_some.{0}))
      ·have hs3:lstF b (sinC (c.trans.take i)++(sinT t).take (k+1))=some q:=by rw [hs2,hacc];simp [lstS,hq]
       refine Vm.rn (ai xROrd3<|ai @gt<|ai @dC.eq_1<|ai @gp<|ai @ga<|ai @hb<|ai @hq<|ai @atO.eq_1<|ai @atO.eq_2<|ai @acO.eq_1<|ai @acO.eq_2<|ai @dA.eq_1<|ai @Vm.overD.eq_1 @Option.isSome_some.{0}) ?_;refine ihk (k+1) _ (by dsimp only;omega) (by omega) ?_;exact Vm.lx (Vm.cl (ai xROrd3<|ai @Int.natCast_add<|ai @dC.eq_1<|ai @hs3<|ai @atO.eq_1<|ai @atO.eq_2<|ai @acO.eq_1<|ai @acO.eq_2<|ai @dA.eq_1<|ai @actZ.eq_1 @Option.isSome_some.{0}))
   ·have hs3:lstF b (sinC (c.trans.take i)++(sinT t).take (k+1))=lstF b (sinC (c.trans.take i)++(sinT t).take k):=by
     rw [hs2];cases lstF b (sinC (c.trans.take i)++(sinT t).take k) <;> simp [lstS,hb]
    refine Vm.rn (ai xROrd3<|ai @gt<|ai @dC.eq_1<|ai @gp<|ai @ga @hb) ?_;refine ihk (k+1) _ (by dsimp only;omega) (by omega) ?_;exact Vm.lx (Vm.cl (ai xROrd3<|ai @Int.natCast_add<|ai @dC.eq_1<|ai @dA.eq_1 @hs3))
  ·have htk:(sinT t).take k=sinT t:=List.take_of_length_le (by simp [sinT];omega);rw [htk,← hst];refine Vm.rn xROrd3 ?_;refine ih (i+1) _ (by dsimp only;omega) (by omega) ?_;exact Vm.lx (Vm.cl (ai xROrd3<|ai @Int.natCast_add<|ai @dC.eq_1 @dA.eq_1))
 ·have:i=c.trans.length:=by omega
  subst this;rw [List.take_length];refine Vm.rn (ai xROrd3 @dA.eq_1) ?_;exact Vm.rx (Vm.cl (ai xROrd3 @dA.eq_1))
set_option linter.defProp false in
def xROrd4:=ai @prLL_dI<|ai @pr_dF<|ai @prLL_dF<|ai @imLL_dF<|ai @imLL_I<|ai @nlR_dI<|ai @Vm.nlR_append<|ai @nlR_dF @Vm.dl8
theorem pl_pos {c:Cas} (h:Plc c):∀ q,q∈sinC c.trans→-1<q.1:=fun q hq=>by
 obtain ⟨l,hl,hql⟩:=List.mem_flatten.1 hq;obtain ⟨t,ht,rfl⟩:=List.mem_map.1 hl;have h1:=rise_pw (h.rise t ht);have h2:=h.beg t ht;simp only [placesT,List.singleton_append,List.cons_append,List.nil_append] at h1;have h3:=(List.pairwise_cons.1 h1).1 q.1 (List.mem_append_left _ (List.of_mem_zip hql).1);omega
set_option maxHeartbeats 4000000 in
theorem revents_v (c:Cas) (hc:FitC c) (hs:sumA c.trans<1000000) (hf:FitS c.first (sumA c.trans)) (hi:∀ t,t∈c.trans→∀ a,a∈t.acts→ActI a) :
  Vm.VC T 25 [.agg (dC c)] fun d=>d=dRep (evE c):=by
 refine Vm.VC.dl ?_;refine Vm.ve (T:=T) Tryz.func25 fun g hB hG0 hU=>?_;simp only [Tryz.f25,Vm.aC,Vm.aN,Nat.reduceAdd];refine Vm.rn (ai xROrd4 @dC.eq_1) ?_;refine Vm.cq (ai xROrd4 @dC.eq_1) (rcheckC_v c hc) ?_
 by_cases hz:checkC c=0
 ·have hp:=case_plc hz;have hsum:=sum_sin hp.len;have hpm:(evP (sinC c.trans)).Perm (sinC c.trans):=List.mergeSort_perm _ _;have hst:=evP_strict (sin_nodup hp);have hl1:lstF (-1) (sinC c.trans)=(evP (sinC c.trans))[0]?:=lst_ev hpm hst (by simp) (fun q hq=>pl_pos hp q (hpm.mem_iff.1 (List.mem_of_mem_drop hq)))
  have hln:∀ (k:Nat) (p:Int×Act),(evP (sinC c.trans))[k]?=some p→lstF p.1 (sinC c.trans)=(evP (sinC c.trans))[k+1]?:=fun k p hk=>by
   refine lst_ev hpm hst (fun q hq=>?_) fun q hq=>?_
   ·rw [take_at hk] at hq;rcases List.mem_append.1 hq with h | h
    ·have e:evP (sinC c.trans)=(evP (sinC c.trans)).take k++p::(evP (sinC c.trans)).drop (k+1):=by rw [← drop_at hk,List.take_append_drop]
     rw [e] at hst;exact Int.le_of_lt ((List.pairwise_append.1 hst).2.2 q h p (by simp))
    ·rw [List.mem_singleton.1 h];exact Int.le_refl _
   ·have h2:((evP (sinC c.trans)).drop k).Pairwise fun x y=>x.1<y.1:=hst.sublist (List.drop_sublist _ _);rw [drop_at hk] at h2;exact (List.pairwise_cons.1 h2).1 q hq
  have hel:(evP (sinC c.trans)).length=sumA c.trans:=by rw [evP_len,hsum]
  have he2:evE c=repN c.first ((evP (sinC c.trans)).map (·.2)) 0:=by simp [evE,hz]
  have he3:∀ p,p∈evP (sinC c.trans)→ActI p.2:=fun p hp=>by
   obtain ⟨l,hl,hpl⟩:=List.mem_flatten.1 (hpm.mem_iff.1 hp);obtain ⟨t,ht,rfl⟩:=List.mem_map.1 hl;exact hi t ht _ (List.of_mem_zip hpl).2
  have hc2:=hc.2.1;have hlv:=least_v c hc hp;rw [he2];clear he2 hpm hst hsum hi;generalize evP (sinC c.trans)=S at hl1 hln hel he3;rw [← hel] at hf hs;clear hel;refine Vm.rn (ai xROrd4 @hz) ?_;refine Vm.cq xROrd4 (copySs_v c.first (by omega) hf.one) ?_;refine Vm.cq (ai xROrd4<|ai @dC.eq_1<|ai @dA.eq_1 @Vm.overD.eq_1) (hlv (-1)) ?_;refine Vm.fy 0 (ai xROrd4<|ai @fz_F<|ai @fz_I<|ai @fz_A4<|ai @fz_S4<|ai @fz_T4 @fz_N4) ?_;rw [hl1]
  refine Vm.sk_loop (fun q:Nat×List Sta=>S.length - q.1) (fun q=>⟨[(1,.iptr (dC c) 0),(6,.own 1 c.first.length),(7,.atom (.int .i64 q.1)),(8,.rptr 2 0),(9,.atom (.int .i64 (atO S[q.1]?))),(10,.atom (.bool S[q.1]?.isSome))],[.dead,.sl 3 (q.2.map dF),.cell (dA (acO S[q.1]?))],45⟩)
   (fun q=>q.1≤S.length∧q.2.length=c.first.length∧FitS q.2 (S.length - q.1)∧repN q.2 ((S.map (·.2)).drop q.1) q.1=repN c.first (S.map (·.2)) 0) (0,c.first) ?_ ⟨Nat.zero_le _,rfl,hf,rfl⟩ ?_
  ·exact Vm.lx (Vm.cl (ai xROrd4<|ai @dC.eq_1 @dA.eq_1))
  rintro ⟨i,cur⟩ ⟨h1,hcl,hcf,hrep⟩ ih;dsimp only at h1 hcl hcf hrep;have hml:(cur.map dF).length=c.first.length:=by rw [List.length_map,hcl]
  cases hk:S[i]? with
  | none =>
    have hiS:i=S.length:=by have:=List.getElem?_eq_none_iff.1 hk;omega
    have hend:repN c.first (S.map (·.2)) 0=(cur,i,0):=by
     rw [← hrep,List.drop_of_length_le (by rw [List.length_map];omega)];rfl
    rw [hend];refine Vm.rn (ai xROrd4 @Option.isSome_none.{0}) ?_;exact Vm.rx (Vm.cl (ai xROrd4<|ai @dRep.eq_1 @hml))
  | some p =>
    obtain ⟨p,a⟩:=p;have hil:=(List.getElem?_eq_some_iff.1 hk).1;have hnx:=hln i (p,a) hk;have ha:(S.map (·.2))[i]?=some a:=by rw [List.getElem?_map,hk];rfl
    obtain ⟨st1,st2⟩:=repN_step ha hrep;obtain ⟨hi1,hi2⟩:=he3 (p,a) (List.mem_of_getElem? hk);refine Vm.rn (ai xROrd4<|ai @Option.isSome_some.{0}<|ai @acO.eq_1<|ai @acO.eq_2<|ai @atO.eq_1<|ai @atO.eq_2<|ai @dA.eq_1 @Vm.overD.eq_1) ?_;refine Vm.vw (T:=T) Tryz.func40 fun _ hGi hUi=>?_;simp only [Tryz.f40,Vm.aC,Vm.aN,Nat.reduceAdd]
    by_cases g1:a.o<0
    ·have he:errA cur a=3:=by rw [errA,if_pos (.inl g1)]
     have hr:=st2 (by rw [he];decide);rw [hr,he];refine Vm.rn (ai xROrd4 @g1) ?_;refine Vm.rm (Vm.s1 xROrd4 ?_);refine Vm.rn xROrd4 ?_;exact Vm.rx (Vm.cl (ai xROrd4 @dRep.eq_1))
    by_cases g2:(cur.length:Int)≤a.o
    ·have he:errA cur a=3:=by rw [errA,if_pos (.inr g2)]
     have g2':(c.first.length:Int)≤a.o:=by omega
     have hr:=st2 (by rw [he];decide);rw [hr,he];refine Vm.rn (ai xROrd4<|ai @g1<|ai @g2' @hml) ?_;refine Vm.rm (Vm.s1 xROrd4 ?_);refine Vm.rn xROrd4 ?_;exact Vm.rx (Vm.cl (ai xROrd4 @dRep.eq_1))
    obtain ⟨j,x,hj,hjl,hxj,hrow,hxm,hact,hnext⟩:=act_at g1 g2;have g3:¬ (c.first.length:Int)≤(j:Int):=by omega
    have g4:(j:Int)<c.first.length:=by omega
    have g5:¬ (j:Int)<0:=by omega
    have herr:errA cur a=if (appF x a.op.k a.op.a a.op.b).e≠0 then (appF x a.op.k a.op.a a.op.b).e else if (appF x a.op.k a.op.a a.op.b).r≠a.op.r then 9 else 0:=by rw [errA,if_neg (by omega),hact]
    rw [hj]
    (have hh:=ai xROrd4<|ai @g3<|ai @g5 @hml;refine Vm.r1 hh ?_;refine Vm.r1 hh ?_;refine Vm.r1 hh ?_;refine Vm.r1 hh ?_;refine Vm.r1 hh ?_;clear hh)
    refine Vm.sk_promote 1 j 2 ⟨rfl,rfl,rfl⟩ (by exact rfl) hrow rfl ?_;simp only [List.set_cons_zero,List.set_cons_succ,List.length_cons,List.length_nil,List.cons_append,List.nil_append,Nat.reduceAdd,List.length_map]
    have hrow2:((cur.map dF).set j [Vm.D.atom (V.int IntKind.i64 x.t),Vm.D.atom (V.int IntKind.i64 x.n),Vm.D.own 4 x.l.length])[j]?=some [Vm.D.atom (V.int IntKind.i64 x.t),Vm.D.atom (V.int IntKind.i64 x.n),Vm.D.own 4 x.l.length]:=by
     rw [List.getElem?_set_self (by simpa using hjl)]
    have hml2:((cur.map dF).set j [Vm.D.atom (V.int IntKind.i64 x.t),Vm.D.atom (V.int IntKind.i64 x.n),Vm.D.own 4 x.l.length]).length=c.first.length:=by rw [List.length_set];exact hml
    have hset:∀ q:Ans,(cur.map dF).set j [Vm.D.atom (V.int IntKind.i64 q.s.t),Vm.D.atom (V.int IntKind.i64 q.s.n),Vm.D.fresh 1 (q.s.l.map dI)]=(cur.set j q.s).map dF:=fun q=>by rw [List.map_set];rfl
    have hxl:=hcf.one x hxm;refine Vm.dw 16 [0,1,2,3,4,5,6,7,8,9,12,13,10,11,14,15] ?_;refine Vm.rn (ai xROrd4<|ai @hrow2<|ai @hml2<|ai @g3 @g4) ?_
    (have hh:=ai xROrd4<|ai @dS.eq_1<|ai @dO.eq_1<|ai @dLeg.eq_1<|ai @dF.eq_1<|ai @Am.vt @Vm.overD.eq_1;(first | refine Vm.callQ_eq2 (rlegal_v x a.op hxl hi1 hi2) (Vm.ct hh) (Vm.rt hh ?_) | refine Vm.call_eq2 (rlegal_v x a.op hxl hi1 hi2) (Vm.ct hh) (Vm.rt hh ?_));clear hh)
    generalize appF x a.op.k a.op.a a.op.b=q at herr hnext hact
    by_cases he:q.e=0
    ·by_cases hr:q.r=a.op.r
     ·have e0:errA cur a=0:=by rw [herr,if_neg (by simpa using he),if_neg (by simpa using hr)]
      have hok:okA q a.op.r=true:=by simp [okA,he,hr]
      refine Vm.rn (ai xROrd4<|ai @he<|ai @hok<|ai @hrow2<|ai @hml2<|ai @hml<|ai @g3<|ai @g4 @Vm.overD.eq_1) ?_;refine Vm.rm (Vm.s1 xROrd4 ?_);refine Vm.rn (ai xROrd4 @dC.eq_1) ?_;refine Vm.cq (ai xROrd4<|ai @dC.eq_1<|ai @dA.eq_1 @Vm.overD.eq_1) (hlv p) ?_;rw [hnx];refine ih (i+1,cur.set j q.s) _ (by dsimp only;omega) ⟨by dsimp only;omega,by simpa using hcl,?_,?_⟩ ?_
      ·dsimp only;rw [← hnext];refine FitS.next ?_ (by rw [hj];exact hjl)
       rw [show S.length - (i+1)+1=S.length - i by omega];exact hcf
      ·dsimp only;rw [← hnext];exact st1 e0
      exact Vm.lx (Vm.cl (ai xROrd4<|ai @hset<|ai @List.set_set.{0}<|ai @dC.eq_1<|ai @dA.eq_1 @Int.natCast_add))
     ·have e0:errA cur a=9:=by rw [herr,if_neg (by simpa using he),if_pos hr]
      have hok:okA q a.op.r=false:=by simp [okA,he,hr]
      have hr:=st2 (by rw [e0];decide);rw [hr,e0];refine Vm.rn (ai xROrd4<|ai @he<|ai @hok @Vm.overD.eq_1) ?_;refine Vm.rm (Vm.s1 xROrd4 ?_);refine Vm.rn xROrd4 ?_;exact Vm.rx (Vm.cl (ai xROrd4 @dRep.eq_1))
    ·have e0:errA cur a=q.e:=by rw [herr,if_pos he]
     have hr:=st2 (by rw [e0];exact he);rw [hr,e0];refine Vm.rn (ai xROrd4<|ai @he @Vm.overD.eq_1) ?_;refine Vm.rm (Vm.s1 xROrd4 ?_);refine Vm.rn (ai xROrd4 @he) ?_;exact Vm.rx (Vm.cl (ai xROrd4 @dRep.eq_1))
 ·refine Vm.rn (ai xROrd4 @hz) ?_;refine Vm.rz xROrd4 ?_;simp [evE,hz,dRep,Vm.dl8]
end Go.Proofs.YtphjohoipocpnaaGreat.W
