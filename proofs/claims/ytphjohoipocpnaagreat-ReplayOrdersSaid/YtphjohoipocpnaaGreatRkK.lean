import Derived.Test.YtphjohoipocpnaaGreatVmD
import Derived.Test.YtphjohoipocpnaaGreatRkI
import Derived.Test.YtphjohoipocpnaaGreatRkG
import Derived.Test.YtphjohoipocpnaaGreatRkJ
set_option linter.unusedSimpArgs false
set_option linter.unusedVariables false
set_option maxRecDepth 8000
/- Which orders may be, and what they leave: the program's answer. No conditions. -/
namespace Go.Proofs.YtphjohoipocpnaaGreat.W
open Go.Am
set_option linter.defProp false in
def xRList:=ai @prLL_dI<|ai @imLL_I<|ai @nlR_dI @Vm.nlR_append
def badI (c:Cas) (i:Int):Bool:=decide (i<0∨(c.trans.length:Int)≤i)
def idxG (p:Int→Bool):List Int→Nat→Int
 | [],_=>-1
 | x::r,i=>if p x=true then i else idxG p r (i+1)
theorem idxG_any (p:Int→Bool):∀ (l:List Int) (i:Nat),(0≤idxG p l i↔l.any p=true)
 | [],i=>by simp [idxG]
 | x::r,i=>by
   have ih:=idxG_any p r (i+1);simp only [idxG]
   by_cases h:p x=true
   ·rw [if_pos h];simp [h]
   ·rw [if_neg h,ih];simp [h]
theorem listed1_v (c:Cas) (i:Int):Vm.VC T 63 [.atom (.int .i64 i),.iptr (dC c) 0] fun d=>d=.atom (.bool (badI c i)):=by
 refine Vm.ve (T:=T) Tryz.func63 fun g hB hG0 hU=>?_;simp only [Tryz.f63,Vm.aC,Vm.aN,Nat.reduceAdd]
 by_cases h1:i<0
 ·refine Vm.rn (ai xRList @h1) ?_;refine Vm.rz xRList ?_;simp [badI,h1]
 ·refine Vm.rn (ai xRList<|ai @h1 @dC.eq_1) ?_;refine Vm.rz xRList ?_;simp [badI,h1]
theorem idxI_v (c:Cas) (o:List Int) (hl:o.length<1000000000):Vm.VC T 82 [.imm 1 (o.map dI),.fn 63 [] [.iptr (dC c) 0]] fun d=>d=.atom (.int .i64 (idxG (badI c) o 0)):=by
 refine Vm.ve (T:=T) Tryz.func82 fun g hB hG0 hU=>?_;simp only [Tryz.f82,Vm.aC,Vm.aN,Nat.reduceAdd];refine Vm.rn xRList ?_;refine Vm.sk_loop (fun i:Nat=>o.length - i) (fun i=>⟨[(8,.atom (.int .i64 i)),(7,.atom (.int .i64 o.length)),(0,.imm 1 (o.map dI)),(1,.fn 63 [] [.iptr (dC c) 0])],[],19⟩) (fun i=>i≤o.length∧idxG (badI c) (o.drop i) i=idxG (badI c) o 0) 0 ?_ ⟨Nat.zero_le _,rfl⟩ ?_
 ·exact Vm.lx (Vm.cl xRList)
 rintro i ⟨hi,he⟩ ih;refine Vm.rn xRList ?_;refine Vm.sb_dec (fun hlt=>?_) (fun hge=>?_)
 ·obtain ⟨k,hk,hkd⟩:=row_at (f:=dI) (l:=o) (i:=i) (by omega);simp only [dI] at hkd;rw [drop_at hk] at he;simp only [idxG] at he;refine Vm.rn (ai xRList @hkd) ?_;refine Vm.cq xRList (listed1_v c k) ?_
  cases hc:badI c k with
  | true =>
    rw [if_pos hc] at he;refine Vm.rn xRList ?_;refine Vm.rz xRList ?_;rw [he]
  | false =>
    rw [if_neg (by simp [hc])] at he;refine Vm.rn xRList ?_;refine ih (i+1) _ (by dsimp only;omega) ⟨by omega,he⟩ ?_;exact Vm.lx (Vm.cl xRList)
 ·have:i=o.length:=by omega
  subst this;rw [List.drop_length] at he;simp only [idxG] at he;refine Vm.rn xRList ?_;refine Vm.rz xRList ?_;rw [← he]
theorem contI_v (c:Cas) (o:List Int) (hl:o.length<1000000000):Vm.VC T 62 [.imm 1 (o.map dI),.fn 63 [] [.iptr (dC c) 0]] fun d=>d=.atom (.bool (o.any (badI c))):=by
 have h:=idxG_any (badI c) o 0;refine Vm.ve (T:=T) Tryz.func62 fun g hB hG0 hU=>?_;simp only [Tryz.f62,Vm.aC,Vm.aN,Nat.reduceAdd];refine Vm.rn xRList ?_;refine Vm.cq xRList (idxI_v c o hl) ?_;refine Vm.rz xRList ?_
 by_cases h2:o.any (badI c)=true
 ·rw [h2,show decide (0≤idxG (badI c) o 0)=true from decide_eq_true (h.2 h2)]
 ·rw [show o.any (badI c)=false by simpa using h2,show decide (0≤idxG (badI c) o 0)=false from decide_eq_false fun q=>h2 (h.1 q)]
noncomputable def listE (c:Cas) (o:List Int) (w:Bool):Int:=
 if checkC c≠0 then checkC c else if o.any (badI c)=true then 3 else if ¬ o.Nodup then 2 else if w=true∧o.length<c.trans.length then 13 else 0
set_option maxHeartbeats 1000000 in
theorem listed_v (c:Cas) (hc:FitC c) (o:List Int) (hl:o.length<1000000000) (w:Bool):Vm.VC T 42 [.agg (dC c),.imm 1 (o.map dI),.atom (.bool w)] fun d=>d=.atom (.int .i64 (listE c o w)):=by
 refine Vm.ve (T:=T) Tryz.func42 fun g hB hG0 hU=>?_;simp only [Tryz.f42,Vm.aC,Vm.aN,Nat.reduceAdd];refine Vm.rn (ai xRList @dC.eq_1) ?_;refine Vm.cq (ai xRList @dC.eq_1) (checkC_v c hc) ?_
 by_cases h1:checkC c=0
 ·refine Vm.rn (ai xRList @h1) ?_;refine Vm.cq (ai xRList @dC.eq_1) (contI_v c o hl) ?_
  cases h2:o.any (badI c) with
  | true =>
    refine Vm.rn xRList ?_;refine Vm.rz xRList ?_;simp [listE,h1,h2]
  | false =>
    refine Vm.rn xRList ?_;refine Vm.cq xRList (cloneI_v (es:=o.map dI) (by simpa using hl)) ?_;have hsl:(Vm.sortedI o).length=o.length:=List.length_mergeSort _;have hds:=dd_sorted o;have hdl:=Vm.dd_len (Vm.sortedI o);refine Vm.call_mut (R:=?vR1) ?vh1 ?vk1
    case vh1=>refine Vm.sort_v (k:=1) (xs:=o) ?_ ?_ (by omega) <;> rfl
    rintro d so' ⟨rfl,rfl⟩;refine Vm.rn xRList ?_;refine Vm.call_mut (R:=?vR2) ?vh2 ?vk2
    case vh2=>refine compact2 (k:=1) (m:=o.length) (xs:=Vm.sortedI o) ?_ ?_ hsl (by omega) <;> rfl
    rintro d so' ⟨rfl,rfl⟩
    by_cases hn:o.Nodup
    ·have hq:¬ ((dd (Vm.sortedI o)).length:Int)<o.length:=by
      have:=hds.2 hn;omega
     cases w with
     | true =>
       by_cases h3:(o.length:Int)<c.trans.length
       ·refine Vm.rn (ai xRList<|ai @hq @h3) ?_;refine Vm.rz xRList ?_;have:o.length<c.trans.length:=by omega
        simp [listE,h1,h2,hn,this]
       ·refine Vm.rn (ai xRList<|ai @hq @h3) ?_;refine Vm.rz xRList ?_;have:¬ o.length<c.trans.length:=by omega
        simp [listE,h1,h2,hn,this]
     | false =>
       refine Vm.rn (ai xRList @hq) ?_;refine Vm.rz xRList ?_;simp [listE,h1,h2,hn]
    ·have hq:((dd (Vm.sortedI o)).length:Int)<o.length:=by
      have:¬ (dd (Vm.sortedI o)).length=o.length:=fun h=>hn (hds.1 h);omega
     refine Vm.rn (ai xRList @hq) ?_;refine Vm.rz xRList ?_;simp [listE,h1,h2,hn]
 ·refine Vm.rn (ai xRList @h1) ?_;refine Vm.rz xRList ?_;simp [listE,h1]
set_option linter.defProp false in
def xRBeg:=ai @prLL_dI<|ai @pr_dF<|ai @prLL_dF<|ai @imLL_I<|ai @nlR_dI<|ai @Vm.nlR_append<|ai @nlR_dF @Vm.dl8
theorem fz_A3 (k:Nat) (cs:List Vm.D) (xs:List Act):(xs.map dA).map (Vm.fzL k cs)=xs.map dA:=by simp [dA,Vm.fzL,Vm.fzD]
theorem fz_S3 (k:Nat) (cs:List Vm.D) (xs:List Sta):(xs.map dS).map (Vm.fzL k cs)=xs.map dS:=by simp [dS,Vm.fzL,Vm.fzD]
theorem fz_N3 (k:Nat) (cs:List Vm.D) (xs:List (List UInt8)):(xs.map fun s=>[Vm.D.atom (.str s)]).map (Vm.fzL k cs)=xs.map fun s=>[Vm.D.atom (.str s)]:=by simp [Vm.fzL,Vm.fzD]
theorem fz_T3 (k:Nat) (cs:List Vm.D) (xs:List Tra):(xs.map dT).map (Vm.fzL k cs)=xs.map dT:=by
 rw [List.map_map];exact List.map_congr_left fun x _=>by simp only [Function.comp,dT,Vm.fzL,Vm.fzD,fz_A3,fz_I]
noncomputable def begE (c:Cas) (o:List Int):List Sta×Nat×Int:=if listE c o false≠0 then ([],0,listE c o false) else repN c.first ((actsOf c.trans o).map (·.2)) 0
theorem list_ok {c:Cas} {o:List Int} {w:Bool} (h:listE c o w=0):checkC c=0∧(∀ i,i∈o→0≤i∧i<c.trans.length)∧o.Nodup:=by
 unfold listE at h;split at h
 ·contradiction
 split at h
 ·cases h
 split at h
 ·cases h
 rename_i h1 h2 h3;refine ⟨by simpa using h1,fun i hi=>?_,by simpa using h3⟩;have:=List.any_eq_false.1 (by simpa using h2:o.any (badI c)=false) i hi;simp [badI] at this;omega
theorem actsOf_len {ts:List Tra} (h:∀ t,t∈ts→t.acts.length<100):∀ o:List Int,(actsOf ts o).length≤100 * o.length
 | []=>by simp [actsOf]
 | i::o=>by
   have ih:=actsOf_len h o
   have h1:(ts.getD i.toNat t0).acts.length<100:=by
    rw [List.getD_eq_getElem?_getD];rcases Nat.lt_or_ge i.toNat ts.length with hi | hi
    ·rw [List.getElem?_eq_getElem hi];exact h _ (List.getElem_mem hi)
    ·rw [List.getElem?_eq_none hi];simp [t0]
   simp only [actsOf,List.flatMap_cons,List.length_append,List.length_map,List.length_cons] at ih ⊢;omega
theorem actsOf_mem {ts:List Tra} {o:List Int} {p:Int×Act} (h:p∈actsOf ts o) (hin:∀ i,i∈o→0≤i∧i<ts.length):∃ t,t∈ts∧p.2∈t.acts:=by
 obtain ⟨i,hi,hp⟩:=List.mem_flatMap.1 h;obtain ⟨a,ha,rfl⟩:=List.mem_map.1 hp;have:=hin i hi;have hl:i.toNat<ts.length:=by omega
 rw [List.getD_eq_getElem?_getD,List.getElem?_eq_getElem hl] at ha;exact ⟨_,List.getElem_mem hl,ha⟩
theorem acts_q (st:Vm.St) (ts:List Tra) (o:List Int) (N:Vm.D→List Vm.Ob→Prop)
  (h:N (.fn 60 [] [.rptr (st.so.length+1) 0,.rptr st.so.length 0]) ((st.so++[.cell [.imm 5 (ts.map dT)]])++[.cell [.imm 1 (o.map dI)]])) :
  Vm.CallQ T st 39 [.imm 5 (ts.map dT),.imm 1 (o.map dI)] N:=by
 intro g a H P μ F vs r hv;obtain ⟨v1,vs1,G1,G2,rfl,hF,q1,q2⟩:=hv.uncons;obtain ⟨v2,vs2,G3,G4,rfl,hF2,q3,q4⟩:=q2.uncons;obtain ⟨rfl,_⟩:=q4.nil_inv;have e1:=hF.symm;rw [List.append_eq_nil_iff] at e1;rw [e1.2] at hF2;have e2:=hF2.symm;rw [List.append_eq_nil_iff] at e2;rw [e1.1] at q1;rw [e2.1] at q3;have hn:=r.obs.len;obtain ⟨r1,p1⟩:=r.newCell (r.cellsOk (d:=.imm 5 (ts.map dT)) rfl q1).1;have hx:=(Ext.refl r.wf).push (.cells false v1.cells);have q3':=(q3.perm_keep hx).goes (Vm.GoesL.app μ [.cell H.n]);obtain ⟨r2,p2⟩:=r1.newCell (r1.cellsOk (d:=.imm 1 (o.map dI)) rfl q3').1;have p1':=(p1.perm_keep ((Ext.refl r1.wf).push (.cells false v2.cells))).goes (Vm.GoesL.app (μ++[.cell H.n]) [.cell (H.push (.cells false v1.cells)).n]);refine Am.calls_enter (T:=T) rfl Tryz.func39 rfl (by simp only [Tryz.f39,List.length_cons,List.length_nil];decide) ?_;simp only [Tryz.f39];simp (maxSteps:=10000000) (disch:=first | assumption | (simp only [tyfacts,Am.wd,Nat.reduceEqDiff,Nat.reduceLT,reduceCtorEq];try omega;done) | omega) only [Am.wanted,Am.isAlloc,Am.wa,Am.reads,Am.quiet,Am.over,Nat.testBit,Nat.reduceShiftRight,Nat.reduceAnd,Nat.reduceBNe,Nat.reduceLeDiff,Nat.reduceAdd,Nat.reduceMul,Nat.reduceLT,Nat.reduceEqDiff,Nat.reduceSub,reduceCtorEq,↓reduceIte,tyfacts];rw [show st.so.length+1=(st.so++[Vm.Ob.cell [.imm 5 (ts.map dT)]]).length by simp] at h;have q:=Vm.RL.fn (f:=60) (F:=[]) (G:=[]++[]) (K:=[]) .nil (p2.app p1') .nil;rw [Heap.n_push] at q;exact ⟨_,_,_,_,h,r2,q⟩
set_option maxHeartbeats 1000000 in
theorem begin_v (c:Cas) (hc:FitC c) (o:List Int) (hl:o.length<1000) (hf:FitS c.first (100 * o.length)) (hi:∀ t,t∈c.trans→∀ a,a∈t.acts→ActI a) :
  Vm.VC T 20 [.agg (dC c),.imm 1 (o.map dI)] fun d=>d=dRep (begE c o):=by
 refine Vm.VC.dl ?_;refine Vm.ve (T:=T) Tryz.func20 fun g hB hG0 hU=>?_;simp only [Tryz.f20,Vm.aC,Vm.aN,Nat.reduceAdd];refine Vm.rn (ai xRBeg @dC.eq_1) ?_;refine Vm.cq (ai xRBeg @dC.eq_1) (listed_v c hc o (by omega) false) ?_
 by_cases h1:listE c o false=0
 ·obtain ⟨k1,k2,k3⟩:=list_ok h1;have hal:=actsOf_len (fun t ht=>(hc.2.2.2.2 t ht).1) o;have hG:=acts1_v c.trans o (by have:=hc.2.2.1;omega) (by omega) k2 (fun t ht=>by have:=(hc.2.2.2.2 t ht).1;omega)
  have hd:=done_v c.first hG rfl rfl (by have:=hc.2.1;omega) (by omega) (fun x hx=>by have:=hf x hx;omega) (fun p hp=>by
   obtain ⟨t,ht,ha⟩:=actsOf_mem hp k2;exact hi t ht _ ha)
  refine Vm.rn (ai xRBeg @h1) ?_;refine Vm.fy 0 (ai xRBeg<|ai @fz_I<|ai @fz_A3<|ai @fz_S3<|ai @fz_T3 @fz_N3) ?_;refine Vm.dv 13 [2,3,4,5,0,1,6,7,8,9,10,11,12] [0,1,0,4,0,28,63,127,127,127,1023,2047,4095] ?_;refine Vm.rt xRBeg ?_;refine acts_q _ c.trans o _ ?_;refine Vm.rt xRBeg ?_
  (have hh:=ai xRBeg @dRep.eq_1;(first | refine Vm.callQ_eq2 (hd) (Vm.ct hh) (Vm.rt hh ?_) | refine Vm.call_eq2 (hd) (Vm.ct hh) (Vm.rt hh ?_));clear hh)
  refine Vm.rn xRBeg ?_;refine Vm.rz (ai xRBeg @dRep.eq_1) ?_;simp [begE,h1]
 ·refine Vm.rn (ai xRBeg @h1) ?_;refine Vm.rz xRBeg ?_;simp [begE,h1,dRep,Vm.dl8]
end Go.Proofs.YtphjohoipocpnaaGreat.W
