import Derived.Test.YtphjohoipocpnaaGreatVmD
import Derived.Test.YtphjohoipocpnaaGreatRkH
import Derived.Test.YtphjohoipocpnaaGreatRkF
import Derived.Test.YtphjohoipocpnaaGreatRkA
set_option linter.unusedSimpArgs false
set_option linter.unusedVariables false
set_option maxRecDepth 8000
/- A case's size, its places: both answers. No conditions. -/
namespace Go.Proofs.YtphjohoipocpnaaGreat.W
open Go.Am
set_option linter.defProp false in
def xRPrj1:=ai @prLL_dI<|ai @imLL_I<|ai @nlR_dI @Vm.nlR_append
def dII (l:List Int):List Vm.D:=[.imm 1 (l.map dI)]
theorem nlR_dII (xs:List (List Int)):Vm.nlR (xs.map dII)=true:=Vm.nlR_map (fun x=>rfl) xs
theorem imLL_dII:∀ xs:List (List Int),Vm.imLL (xs.map dII)=xs.map dII
 | []=>rfl
 | x::xs=>by simp only [List.map_cons,Vm.imLL,imLL_dII xs];rfl
def FitC (c:Cas):Prop:=c.names.length<1000000∧c.first.length<1000000∧c.trans.length<1000000∧(∀ s,s∈c.first→s.l.length<1000000000)∧∀ t,t∈c.trans→t.acts.length<100∧t.at_.length<100
def sumA (l:List Tra):Nat:=(l.map fun t=>t.acts.length).sum
theorem sumA_step {l:List Tra} {i:Nat} {t:Tra} (h:l[i]?=some t):sumA (l.take (i+1))=sumA (l.take i)+t.acts.length:=by
 rw [take_at h];simp [sumA]
theorem sumA_le {l:List Tra} (h:∀ t,t∈l→t.acts.length<100):∀ i,i≤l.length→sumA (l.take i)≤100 * i
 | 0,_=>by simp [sumA]
 | i+1,hi=>by
   have h1:l[i]?=some l[i]:=List.getElem?_eq_getElem (by omega);have h2:=sumA_le h i (by omega);have h3:=h _ (List.mem_of_getElem? h1);rw [sumA_step h1];omega
def riseB:List Int→Bool
 | a::b::r=>decide (a<b) && riseB (b::r)
 | _=>true
theorem rise_step {l:List Int} {i:Nat} {x y:Int} (hx:l[i]?=some x) (hy:l[i+1]?=some y):riseB (l.drop i)=(decide (x<y) && riseB (l.drop (i+1))):=by
 rw [drop_at hx,drop_at hy];rfl
theorem rise_end {l:List Int} {i:Nat} (h:l.length≤i+1):riseB (l.drop i)=true:=by
 have:(l.drop i).length≤1:=by rw [List.length_drop];omega
 match l.drop i,this with
 | [],_=>rfl
 | [_],_=>rfl
 | _::_::_,h=>simp at h
def fnz:List Int→Int
 | []=>0
 | e::r=>if e=0 then fnz r else e
theorem fnz_step {l:List Int} {i:Nat} {e:Int} (h:l[i]?=some e):fnz (l.drop i)=if e=0 then fnz (l.drop (i+1)) else e:=by
 rw [drop_at h];rfl
theorem fnz_end {l:List Int} {i:Nat} (h:l.length≤i):fnz (l.drop i)=0:=by
 rw [List.drop_of_length_le h];rfl
def placesT (t:Tra):List Int:=[t.b]++t.at_++[t.c]
theorem grow_v (n:Int) (h0:0≤n) (hn:n<1000000000):Vm.VC T 106 [.atom .nilSlice,.atom (.int .i64 n)] fun d=>d=.fresh 1 []:=by
 refine Vm.vc_am fun P H vs wf r=>?_;obtain ⟨v,ws,G1,G2,rfl,hF,q1,q2⟩:=r.uncons;obtain ⟨w,rfl,q3⟩:=q2.one;obtain ⟨rfl,rfl⟩:=q1.atomInv;obtain ⟨rfl,rfl⟩:=q3.atomInv;have ha:Vm.growOk T 24 3=true:=by kernel_rfl
 have e1:∀ H:Heap,Am.builtin T H .cap #[24] [V.nilSlice]=.val (.int .i64 0) H:=fun H=>by kernel_rfl
 have e2:∀ H:Heap,sliceOp T H 24 .nilSlice none (some (.int .i64 0)) none=some .nilSlice:=fun H=>by kernel_rfl
 have e3:∀ (H:Heap) (l m:Nat),sliceOp T H 24 (.slice l 0 m 1 none) none (some (.int .i64 0)) none=some (.slice l 0 0 1 none):=fun H l m=>by kernel_rfl
 have e4:((0:Nat):Int)=0:=rfl;have e0:∀ n:Int,n - (0 - 0)=n:=fun n=>by omega
 refine Am.calls_enter (T:=T) rfl Tryz.func106 rfl (by simp only [Tryz.f106,List.length_cons,List.length_nil];decide) ?_;simp only [Tryz.f106];simp (maxSteps:=10000000) (disch:=first | assumption | (simp only [tyfacts,Am.wd,Nat.reduceEqDiff,Nat.reduceLT,reduceCtorEq];try omega;done) | omega) only [Am.wanted,Am.isAlloc,Am.wa,Am.reads,Am.quiet,Am.over,Nat.testBit,Nat.reduceShiftRight,Nat.reduceAnd,Nat.reduceBNe,Nat.reduceLeDiff,Nat.reduceAdd,Nat.reduceMul,Nat.reduceLT,Nat.reduceEqDiff,Nat.reduceSub,reduceCtorEq,↓reduceIte,tyfacts];refine wpB_dec (fun h=>by omega) (fun _=>?_);simp (maxSteps:=10000000) (disch:=first | assumption | (simp only [tyfacts,Am.wd,Nat.reduceEqDiff,Nat.reduceLT,reduceCtorEq];try omega;done) | omega) only [Am.wanted,Am.isAlloc,Am.wa,Am.reads,Am.quiet,Am.over,Nat.testBit,Nat.reduceShiftRight,Nat.reduceAnd,Nat.reduceBNe,Nat.reduceLeDiff,Nat.reduceAdd,Nat.reduceMul,Nat.reduceLT,Nat.reduceEqDiff,Nat.reduceSub,reduceCtorEq,↓reduceIte,tyfacts,e1,xo_slice_tmp,evalOpt_none,evalOpt_tmp,e2];refine wpB_dec (fun h=>?_) (fun h=>?_)
 ·obtain ⟨cs,hap⟩:=Vm.append_grow (H:=H) ha (n:=n) (by omega) hn;simp (maxSteps:=10000000) (disch:=first | assumption | (simp only [tyfacts,Am.wd,Nat.reduceEqDiff,Nat.reduceLT,reduceCtorEq];try omega;done) | omega) only [Am.wanted,Am.isAlloc,Am.wa,Am.reads,Am.quiet,Am.over,Nat.testBit,Nat.reduceShiftRight,Nat.reduceAnd,Nat.reduceBNe,Nat.reduceLeDiff,Nat.reduceAdd,Nat.reduceMul,Nat.reduceLT,Nat.reduceEqDiff,Nat.reduceSub,reduceCtorEq,↓reduceIte,tyfacts,e0,e4,e1,xo_slice_tmp,evalOpt_none,evalOpt_tmp,e2,e3,hap];have hm:Mine H.n (H.push (.cells false cs)) (.slice H.n 0 0 1 none) 1 []:=⟨by simp,.inr ⟨H.n,none,[],cs,rfl,Nat.le_refl _,by rw [get_push_same];rfl,fun m hm=>by cases hm⟩⟩
  obtain ⟨K,q,nd,hK⟩:=Vm.fresh_of_rows (P:=P) (μ:=[]) (es:=[]) hm (show Vm.RL P _ [] [] [] [] from .nil) (by simp) rfl (by simp);exact ⟨⟨_,K,rfl,q,nd,hK⟩,(Ext.refl wf).push _⟩
 ·simp (maxSteps:=10000000) (disch:=first | assumption | (simp only [tyfacts,Am.wd,Nat.reduceEqDiff,Nat.reduceLT,reduceCtorEq];try omega;done) | omega) only [Am.wanted,Am.isAlloc,Am.wa,Am.reads,Am.quiet,Am.over,Nat.testBit,Nat.reduceShiftRight,Nat.reduceAnd,Nat.reduceBNe,Nat.reduceLeDiff,Nat.reduceAdd,Nat.reduceMul,Nat.reduceLT,Nat.reduceEqDiff,Nat.reduceSub,reduceCtorEq,↓reduceIte,tyfacts];exact ⟨⟨_,[],rfl,.freshNil .nil,by simp,by simp⟩,Ext.refl wf⟩
theorem concat_v (L:List (List Int)) (h1:L.length<1000) (h2:L.flatten.length<1000000):Vm.VC T 77 [.imm 1 (L.map dII)] fun d=>d=.fresh 1 (L.flatten.map dI):=by
 have hs:∀ {i x},L[i]?=some x→(L.take (i+1)).flatten.length=(L.take i).flatten.length+x.length:=fun {i x} h=>by rw [take_at h];simp
 have hb:∀ i,(L.take i).flatten.length≤L.flatten.length:=fun i=>by
  have:=congrArg (fun l=>l.flatten.length) (List.take_append_drop i L);simp only [List.flatten_append,List.length_append] at this;omega
 refine Vm.ve (T:=T) Tryz.func77 fun g hB hG0 hU=>?_;simp only [Tryz.f77,Vm.aC,Vm.aN,Nat.reduceAdd];refine Vm.rn (ai xRPrj1<|ai @imLL_dII @nlR_dII) ?_;refine Vm.sk_loop (fun i:Nat=>L.length - i) (fun i=>⟨[(0,.imm 1 (L.map dII)),(3,.atom (.int .i64 ((L.take i).flatten.length:Nat))),(9,.imm 1 (L.map dII)),(10,.atom (.int .i64 L.length)),(11,.atom (.int .i64 i))],[],36⟩) (fun i=>i≤L.length) 0 ?_ (Nat.zero_le _) ?_
 ·exact Vm.lx (Vm.cl (ai xRPrj1<|ai @imLL_dII<|ai @nlR_dII @List.take_zero.{0}))
 ·intro i hi ih;refine Vm.rn (ai xRPrj1<|ai @imLL_dII @nlR_dII) ?_;refine Vm.sb_dec (fun hlt=>?_) (fun hge=>?_)
  ·obtain ⟨x,hx,g1⟩:=row_at (f:=dII) (l:=L) (i:=i) (by omega);have hs1:=hs hx;have hb1:=hb (i+1);have hnn:¬ ((L.take i).flatten.length:Int)+x.length<0:=by omega
   simp only [dII] at g1;refine Vm.rn (ai xRPrj1<|ai @imLL_dII<|ai @nlR_dII<|ai @g1 @hnn) ?_;refine ih (i+1) _ (by dsimp only;omega) (by omega) ?_;exact Vm.lx (Vm.cl (ai xRPrj1<|ai @imLL_dII<|ai @nlR_dII<|ai @hs1 @Int.natCast_add))
  ·have:i=L.length:=by omega
   subst this;rw [List.take_length];refine Vm.rn (ai xRPrj1<|ai @imLL_dII @nlR_dII) ?_;refine Vm.cq (ai xRPrj1<|ai @imLL_dII @nlR_dII) (grow_v (L.flatten.length) (by omega) (by omega)) ?_;refine Vm.sk_loop (fun i:Nat=>L.length - i) (fun i=>⟨[(6,.own 0 (L.take i).flatten.length),(25,.imm 1 (L.map dII)),(26,.atom (.int .i64 L.length)),(27,.atom (.int .i64 i))],[.sl 1 ((L.take i).flatten.map dI)],36⟩) (fun i=>i≤L.length) 0 ?_ (Nat.zero_le _) ?_
   ·exact Vm.lx (Vm.cl (ai xRPrj1<|ai @imLL_dII<|ai @nlR_dII @List.take_zero.{0}))
   intro i hi ih;refine Vm.rn (ai xRPrj1<|ai @imLL_dII @nlR_dII) ?_;refine Vm.sb_dec (fun hlt=>?_) (fun hge=>?_)
   ·obtain ⟨x,hx,g1⟩:=row_at (f:=dII) (l:=L) (i:=i) (by omega);have hs1:=hs hx;have hb1:=hb (i+1);have hf:(L.take (i+1)).flatten.map dI=(L.take i).flatten.map dI++x.map dI:=by rw [take_at hx];simp
    simp only [dII] at g1;refine Vm.rn (ai xRPrj1<|ai @imLL_dII<|ai @nlR_dII @g1) ?_;refine ih (i+1) _ (by dsimp only;omega) (by omega) ?_;exact Vm.lx (Vm.cl (ai xRPrj1<|ai @imLL_dII<|ai @nlR_dII<|ai @hs1 @hf))
   ·have:i=L.length:=by omega
    subst this;rw [List.take_length];refine Vm.rn (ai xRPrj1<|ai @imLL_dII @nlR_dII) ?_;exact Vm.rx (Vm.cl (ai xRPrj1<|ai @imLL_dII @nlR_dII))
theorem lit_r3 (x:List Vm.D):List.replicate 3 x=[x,x,x]:=rfl
theorem rows_3 (a b c:Vm.D):Vm.rowsOf 1 3 [a,b,c]=[[a],[b],[c]]:=rfl
theorem places_v (t:Tra) (h:t.at_.length<100):Vm.VC T 53 [.agg (dT t)] fun d=>d=.fresh 1 ((placesT t).map dI):=by
 have e:[[t.b],t.at_,[t.c]].flatten=placesT t:=by simp [placesT]
 have hc:=concat_v [[t.b],t.at_,[t.c]] (by simp) (by simp;omega);rw [e] at hc;simp only [dII,List.map_cons,List.map_nil,dI] at hc;refine Vm.ve (T:=T) Tryz.func53 fun g hB hG0 hU=>?_;simp only [Tryz.f53,Vm.aC,Vm.aN,Nat.reduceAdd];refine Vm.rn (ai xRPrj1<|ai @imLL_dII<|ai @nlR_dII<|ai @dT.eq_1<|ai @lit_r3<|ai @Vm.overD.eq_1 @rows_3) ?_;refine Vm.cq (ai xRPrj1<|ai @imLL_dII<|ai @nlR_dII @dI.eq_1) (hc) ?_;exact Vm.rx (Vm.cl (ai xRPrj1<|ai @imLL_dII<|ai @nlR_dII @dI.eq_1))
theorem rplaces_v (t:Tra) (h:t.at_.length<100):Vm.VC T 88 [.agg (dT t)] fun d=>d=.fresh 1 ((placesT t).map dI):=by
 refine Vm.ve (T:=T) Tryz.func88 fun g hB hG0 hU=>?_;simp only [Tryz.f88,Vm.aC,Vm.aN,Nat.reduceAdd];refine Vm.rn (ai xRPrj1<|ai @imLL_dII<|ai @nlR_dII @dT.eq_1) ?_;refine Vm.rz (ai xRPrj1<|ai @imLL_dII @nlR_dII) ?_;simp [placesT,dI]
theorem size_v (c:Cas) (hc:FitC c):Vm.VC T 32 [.agg (dC c)] fun d=>d=.tuple [.atom (.int .i64 c.trans.length),.atom (.int .i64 (sumA c.trans:Nat))]:=by
 obtain ⟨f1,f2,f3,f4,f5⟩:=hc;have hz:sumA []=0:=rfl;refine Vm.ve (T:=T) Tryz.func32 fun g hB hG0 hU=>?_;simp only [Tryz.f32,Vm.aC,Vm.aN,Nat.reduceAdd];refine Vm.rn (ai xRPrj1<|ai @imLL_dII<|ai @nlR_dII @dC.eq_1) ?_;refine Vm.sk_loop (fun i:Nat=>c.trans.length - i) (fun i=>⟨[(1,.rptr 0 0),(4,.atom (.int .i64 (sumA (c.trans.take i):Nat))),(8,.imm 5 (c.trans.map dT)),(9,.atom (.int .i64 c.trans.length)),(10,.atom (.int .i64 i))],[.cell (dC c)],24⟩) (fun i=>i≤c.trans.length) 0 ?_ (Nat.zero_le _) ?_
 ·exact Vm.lx (Vm.cl (ai xRPrj1<|ai @imLL_dII<|ai @nlR_dII<|ai @dC.eq_1<|ai @List.take_zero.{0} @hz))
 intro i hi ih;refine Vm.rn (ai xRPrj1<|ai @imLL_dII @nlR_dII) ?_;refine Vm.sb_dec (fun hlt=>?_) (fun hge=>?_)
 ·obtain ⟨t,ht,g1⟩:=row_at (f:=dT) (l:=c.trans) (i:=i) (by omega);have hs1:=sumA_step ht;have hb1:=sumA_le (fun t ht=>(f5 t ht).1) i hi;have hb2:=(f5 t (List.mem_of_getElem? ht)).1;simp only [dT] at g1;refine Vm.rn (ai xRPrj1<|ai @imLL_dII<|ai @nlR_dII @g1) ?_;refine ih (i+1) _ (by dsimp only;omega) (by omega) ?_;exact Vm.lx (Vm.cl (ai xRPrj1<|ai @imLL_dII<|ai @nlR_dII<|ai @hs1<|ai @Int.natCast_add @dC.eq_1))
 ·have:i=c.trans.length:=by omega
  subst this;rw [List.take_length];refine Vm.rn (ai xRPrj1<|ai @imLL_dII<|ai @nlR_dII @dC.eq_1) ?_;exact Vm.rx (Vm.cl (ai xRPrj1<|ai @imLL_dII @nlR_dII))
theorem rsize_v (c:Cas) (hc:FitC c):Vm.VC T 65 [.agg (dC c)] fun d=>d=.tuple [.atom (.int .i64 c.trans.length),.atom (.int .i64 (sumA c.trans:Nat))]:=by
 obtain ⟨f1,f2,f3,f4,f5⟩:=hc;have hz:sumA []=0:=rfl;refine Vm.ve (T:=T) Tryz.func65 fun g hB hG0 hU=>?_;simp only [Tryz.f65,Vm.aC,Vm.aN,Nat.reduceAdd];refine Vm.rn (ai xRPrj1<|ai @imLL_dII<|ai @nlR_dII @dC.eq_1) ?_;refine Vm.sk_loop (fun i:Nat=>c.trans.length - i) (fun i=>⟨[(1,.rptr 0 0),(4,.atom (.int .i64 (sumA (c.trans.take i):Nat))),(5,.atom (.int .i64 i))],[.cell (dC c)],26⟩) (fun i=>i≤c.trans.length) 0 ?_ (Nat.zero_le _) ?_
 ·exact Vm.lx (Vm.cl (ai xRPrj1<|ai @imLL_dII<|ai @nlR_dII<|ai @dC.eq_1<|ai @List.take_zero.{0} @hz))
 intro i hi ih;refine Vm.rn (ai xRPrj1<|ai @imLL_dII<|ai @nlR_dII @dC.eq_1) ?_;refine Vm.sb_dec (fun hlt=>?_) (fun hge=>?_)
 ·obtain ⟨t,ht,g1⟩:=row_at (f:=dT) (l:=c.trans) (i:=i) (by omega);have hs1:=sumA_step ht;have hb1:=sumA_le (fun t ht=>(f5 t ht).1) i hi;have hb2:=(f5 t (List.mem_of_getElem? ht)).1;simp only [dT] at g1;refine Vm.rn (ai xRPrj1<|ai @imLL_dII<|ai @nlR_dII @g1) ?_;refine ih (i+1) _ (by dsimp only;omega) (by omega) ?_;exact Vm.lx (Vm.cl (ai xRPrj1<|ai @imLL_dII<|ai @nlR_dII<|ai @hs1<|ai @Int.natCast_add @dC.eq_1))
 ·have:i=c.trans.length:=by omega
  subst this;rw [List.take_length];refine Vm.rn (ai xRPrj1<|ai @imLL_dII @nlR_dII) ?_;exact Vm.rx (Vm.cl (ai xRPrj1<|ai @imLL_dII @nlR_dII))
theorem rise_v (l:List Int) (hl:l.length<1000000):Vm.VC T 87 [.imm 1 (l.map dI)] fun d=>d=.atom (.bool (riseB l)):=by
 refine Vm.ve (T:=T) Tryz.func87 fun g hB hG0 hU=>?_;simp only [Tryz.f87,Vm.aC,Vm.aN,Nat.reduceAdd];refine Vm.rn (ai xRPrj1<|ai @imLL_dII @nlR_dII) ?_;refine Vm.sk_loop (fun i:Nat=>l.length - i) (fun i=>⟨[(0,.imm 1 (l.map dI)),(3,.atom (.int .i64 (i+1:Nat)))],[],20⟩) (fun i=>i≤l.length∧riseB (l.drop i)=riseB l) 0 ?_ ⟨by omega,by simp⟩ ?_
 ·exact Vm.lx (Vm.cl (ai xRPrj1<|ai @imLL_dII @nlR_dII))
 rintro i ⟨hi,he⟩ ih;refine Vm.rn (ai xRPrj1<|ai @imLL_dII @nlR_dII) ?_;refine Vm.sb_dec (fun hc=>?_) (fun hc=>?_)
 ·obtain ⟨x,hx,g1⟩:=row_at (f:=dI) (l:=l) (i:=i) (by omega);obtain ⟨y,hy,g2⟩:=row_at (f:=dI) (l:=l) (i:=i+1) (by omega);have st:=rise_step hx hy;simp only [dI] at g1 g2;refine Vm.rn (ai xRPrj1<|ai @imLL_dII @nlR_dII) ?_;refine Vm.dw 10 [0,1,2,3,4,5,6,7,8,9] ?_;refine Vm.rn (ai xRPrj1<|ai @imLL_dII<|ai @nlR_dII<|ai @g1<|ai @g2<|ai (show ((i:Int)+1).toNat=i+1 from by omega) @Int.add_sub_cancel) ?_;refine Vm.sb_dec (fun hb=>?_) (fun hb=>?_)
  ·have hf:¬ x<y:=by omega
   refine Vm.rn (ai xRPrj1<|ai @imLL_dII @nlR_dII) ?_;refine Vm.rz (ai xRPrj1<|ai @imLL_dII @nlR_dII) ?_;rw [← he,st,show decide (x<y)=false from decide_eq_false hf,Bool.false_and]
  ·refine Vm.rn (ai xRPrj1<|ai @imLL_dII @nlR_dII) ?_;refine ih (i+1) _ (by dsimp only;omega) ⟨by omega,?_⟩ ?_
   ·have hf:x<y:=by omega
    rw [← he,st,show decide (x<y)=true from decide_eq_true hf,Bool.true_and]
   exact Vm.lx (Vm.cl (ai xRPrj1<|ai @imLL_dII<|ai @nlR_dII @Int.natCast_add))
 ·refine Vm.rn (ai xRPrj1<|ai @imLL_dII @nlR_dII) ?_;refine Vm.rz (ai xRPrj1<|ai @imLL_dII @nlR_dII) ?_;rw [← he,rise_end (by omega)]
set_option linter.defProp false in
def xRPrj2:=ai @prLL_dI<|ai @imLL_I<|ai @nlR_dI @Vm.nlR_append
def typAt (l:List Sta) (n:Int):Int:=match l[n.toNat]? with
 | some s=>s.t
 | none=>0
def actE (c:Cas) (a:Act):Int:=
 if a.o<0∨(c.first.length:Int)≤a.o then 3 else if opE a.op≠0 then opE a.op else if (typO a.op.k).1≠typAt c.first a.o then 8 else 0
theorem act_v (c:Cas) (a:Act):Vm.VC T 76 [.agg (dC c),.agg (dA a)] fun d=>d=.atom (.int .i64 (actE c a)):=by
 refine Vm.ve (T:=T) Tryz.func76 fun g hB hG0 hU=>?_;simp only [Tryz.f76,Vm.aC,Vm.aN,Nat.reduceAdd];obtain ⟨o,p⟩:=a
 by_cases g1:o<0
 ·refine Vm.rn (ai xRPrj2<|ai @dC.eq_1<|ai @dA.eq_1 @g1) ?_;refine Vm.rz xRPrj2 ?_;rw [actE,if_pos (.inl g1)]
 by_cases g2:(c.first.length:Int)≤o
 ·refine Vm.rn (ai xRPrj2<|ai @dC.eq_1<|ai @dA.eq_1<|ai @g1 @g2) ?_;refine Vm.rz xRPrj2 ?_;rw [actE,if_pos (.inr g2)]
 obtain ⟨j,rfl⟩:∃ j:Nat,o=j:=⟨o.toNat,by omega⟩
 obtain ⟨x,hx,g3⟩:=row_at (f:=dS) (l:=c.first) (i:=j) (by omega)
 have hf:actE c ⟨j,p⟩=if opE p≠0 then opE p else if (typO p.k).1≠x.t then 8 else 0:=by
  rw [actE,if_neg (by simp only;omega)];simp only [typAt,Int.toNat_natCast,hx]
 rw [hf];simp only [dS] at g3;refine Vm.rn (ai xRPrj2<|ai @dC.eq_1<|ai @dA.eq_1<|ai @dO.eq_1<|ai @g1 @g2) ?_;refine Vm.cq (ai xRPrj2 @dO.eq_1) (ocheck_v p) ?_
 by_cases h1:opE p=0
 ·refine Vm.rn (ai xRPrj2 @h1) ?_;refine Vm.cq (ai xRPrj2 @g3) (otype_v p.k) ?_
  by_cases h2:(typO p.k).1=x.t
  ·refine Vm.rn (ai xRPrj2 @h2) ?_;refine Vm.rz xRPrj2 ?_;simp [h1,h2]
  ·refine Vm.rn (ai xRPrj2 @h2) ?_;refine Vm.rz xRPrj2 ?_;simp [h1,h2]
 ·refine Vm.rn (ai xRPrj2 @h1) ?_;refine Vm.rz xRPrj2 ?_;simp [h1]
theorem racts_v (c:Cas) (t:Tra) (hN:c.names.length=c.first.length) (hl:t.acts.length<100):Vm.VC T 89 [.agg (dC c),.agg (dT t)] fun d=>d=.atom (.int .i64 (fnz (t.acts.map (actE c)))):=by
 refine Vm.ve (T:=T) Tryz.func89 fun g hB hG0 hU=>?_;simp only [Tryz.f89,Vm.aC,Vm.aN,Nat.reduceAdd];refine Vm.rn (ai xRPrj2<|ai @dC.eq_1 @dT.eq_1) ?_;refine Vm.sk_loop (fun i:Nat=>t.acts.length - i) (fun i=>⟨[(2,.rptr 0 0),(3,.rptr 1 0),(5,.atom (.int .i64 i))],[.cell (dC c),.cell (dT t)],55⟩) (fun i=>i≤t.acts.length∧fnz ((t.acts.map (actE c)).drop i)=fnz (t.acts.map (actE c))) 0 ?_ ⟨by omega,by simp⟩ ?_
 ·exact Vm.lx (Vm.cl (ai xRPrj2<|ai @dC.eq_1 @dT.eq_1))
 rintro i ⟨hi,he⟩ ih;refine Vm.rn (ai xRPrj2<|ai @dC.eq_1 @dT.eq_1) ?_;refine Vm.sb_dec (fun hc=>?_) (fun hc=>?_)
 ·obtain ⟨a,ha,g0⟩:=row_at (f:=dA) (l:=t.acts) (i:=i) (by omega);have st:=fnz_step (l:=t.acts.map (actE c)) (i:=i) (e:=actE c a) (by rw [List.getElem?_map,ha];rfl);rw [he] at st;obtain ⟨o,p⟩:=a;simp only [dA,dO] at g0
  by_cases g1:o<0
  ·have hz:actE c ⟨o,p⟩=3:=by rw [actE,if_pos (.inl g1)]
   refine Vm.rn (ai xRPrj2<|ai @g0<|ai @g1 @dC.eq_1) ?_;refine Vm.rz xRPrj2 ?_;simp [st,hz]
  by_cases g2:(c.names.length:Int)≤o
  ·have hz:actE c ⟨o,p⟩=3:=by rw [actE,if_pos (.inr (by simp only;omega))]
   refine Vm.rn (ai xRPrj2<|ai @g0<|ai @g1<|ai @g2 @dC.eq_1) ?_;refine Vm.rz xRPrj2 ?_;simp [st,hz]
  obtain ⟨j,rfl⟩:∃ j:Nat,o=j:=⟨o.toNat,by omega⟩
  obtain ⟨x,hx,g3⟩:=row_at (f:=dS) (l:=c.first) (i:=j) (by omega)
  have hf:actE c ⟨j,p⟩=if opE p≠0 then opE p else if (typO p.k).1≠x.t then 8 else 0:=by
   rw [actE,if_neg (by simp only;omega)];simp only [typAt,Int.toNat_natCast,hx]
  simp only [dS] at g3;refine Vm.rn (ai xRPrj2<|ai @g0<|ai @dC.eq_1<|ai @g1 @g2) ?_;refine Vm.cq (ai xRPrj2 @dO.eq_1) (rocheck_v p) ?_;refine Vm.cq xRPrj2 (rotype_v p.k) ?_
  by_cases h1:opE p=0
  ·by_cases h2:(typO p.k).1=x.t
   ·have hz:actE c ⟨j,p⟩=0:=by rw [hf];simp [h1,h2]
    refine Vm.rn (ai xRPrj2<|ai @h1<|ai @g3 @h2) ?_;refine ih (i+1) _ (by dsimp only;omega) ⟨by omega,?_⟩ ?_
    ·rw [st,if_pos hz]
    exact Vm.lx (Vm.cl (ai xRPrj2<|ai @Int.natCast_add<|ai @dC.eq_1 @dT.eq_1))
   ·have hz:actE c ⟨j,p⟩=8:=by rw [hf];simp [h1,h2]
    refine Vm.rn (ai xRPrj2<|ai @h1<|ai @g3 @h2) ?_;refine Vm.rz xRPrj2 ?_;simp [st,hz]
  ·have hz:actE c ⟨j,p⟩=opE p:=by rw [hf];simp [h1]
   refine Vm.rn (ai xRPrj2 @h1) ?_;refine Vm.rz xRPrj2 ?_;simp [st,hz,h1]
 ·refine Vm.rn xRPrj2 ?_;refine Vm.rz xRPrj2 ?_;rw [← he,fnz_end (by simp;omega)]
def nameP (s:List UInt8):List (List UInt8)→Int→Int
 | [],_=>-1
 | x::r,i=>if x=s then i else nameP s r (i+1)
theorem nameP_lt (s:List UInt8):∀ (l:List (List UInt8)) (i j:Nat),l[j]?=some s→(nameP s l i<((i+j:Nat):Int)↔s∈l.take j)∧(i:Int)≤nameP s l i
 | [],i,j,h=>by simp at h
 | x::r,i,0,h=>by
   simp at h;subst h;simp [nameP]
 | x::r,i,j+1,h=>by
   simp only [List.getElem?_cons_succ] at h;have ih:=nameP_lt s r (i+1) j h;simp only [nameP]
   by_cases e:x=s
   ·rw [if_pos e];subst e;simp;omega
   ·rw [if_neg e];have e':¬ s=x:=fun h=>e h.symm;rw [show i+(j+1)=i+1+j by omega,show ((i:Int)+1)=((i+1:Nat):Int) by omega];refine ⟨by rw [ih.1];simp [e'],by omega⟩
theorem nameP_step {s x:List UInt8} {l:List (List UInt8)} {i:Nat} (h:l[i]?=some x):nameP s (l.drop i) i=if x=s then (i:Int) else nameP s (l.drop (i+1)) ((i+1:Nat):Int):=by
 rw [drop_at h];rfl
theorem robject_v (l:List (List UInt8)) (s:List UInt8) (hl:l.length<1000000):Vm.VC T 85 [.imm 1 (l.map fun s=>[Vm.D.atom (.str s)]),.atom (.str s)] fun d=>d=.atom (.int .i64 (nameP s l 0)):=by
 refine Vm.ve (T:=T) Tryz.func85 fun g hB hG0 hU=>?_;simp only [Tryz.f85,Vm.aC,Vm.aN,Nat.reduceAdd];refine Vm.rn xRPrj2 ?_;refine Vm.sk_loop (fun i:Nat=>l.length - i) (fun i=>⟨[(0,.imm 1 (l.map fun s=>[Vm.D.atom (.str s)])),(1,.atom (.str s)),(5,.atom (.int .i64 i))],[],19⟩) (fun i=>i≤l.length∧nameP s (l.drop i) i=nameP s l 0) 0 ?_ ⟨by omega,by simp⟩ ?_
 ·exact Vm.lx (Vm.cl xRPrj2)
 rintro i ⟨hi,he⟩ ih;refine Vm.rn xRPrj2 ?_;refine Vm.sb_dec (fun hc=>?_) (fun hc=>?_)
 ·obtain ⟨x,hx,g0⟩:=row_at (f:=fun s=>[Vm.D.atom (.str s)]) (l:=l) (i:=i) (by omega);have st:=nameP_step (s:=s) hx;have g1:(l.map fun s=>[Vm.D.atom (.str s)])[i]?=some [.atom (.str x)]:=g0;refine Vm.rn (ai xRPrj2 @g1) ?_;refine Vm.sb_dec (fun hb=>?_) (fun hb=>?_)
  ·refine Vm.rn xRPrj2 ?_;refine Vm.rz xRPrj2 ?_;rw [← he,st,if_pos hb]
  ·refine Vm.rn xRPrj2 ?_;refine ih (i+1) _ (by dsimp only;omega) ⟨by omega,?_⟩ ?_
   ·rw [← he,st,if_neg hb]
   exact Vm.lx (Vm.cl (ai xRPrj2 @Int.natCast_add))
 ·refine Vm.rn xRPrj2 ?_;refine Vm.rz xRPrj2 ?_;rw [← he,List.drop_of_length_le (by omega)];rfl
def namesT (c:Cas):List (List UInt8):=c.trans.map (·.name)
theorem rnamed_v (c:Cas) (i:Nat) (t:Tra) (ht:c.trans[i]?=some t) (hl:c.trans.length<1000000):Vm.VC T 86 [.agg (dC c),.atom (.int .i64 i)] fun d=>d=.atom (.bool (decide (t.name∈(namesT c).take i))):=by
 have hil:i<c.trans.length:=by
  rcases Nat.lt_or_ge i c.trans.length with h | h
  ·exact h
  ·rw [List.getElem?_eq_none h] at ht;cases ht
 have g2:(c.trans.map dT)[i]?=some (dT t):=by rw [List.getElem?_map,ht];rfl
 simp only [dT] at g2;refine Vm.ve (T:=T) Tryz.func86 fun g hB hG0 hU=>?_;simp only [Tryz.f86,Vm.aC,Vm.aN,Nat.reduceAdd];refine Vm.rn (ai xRPrj2 @dC.eq_1) ?_;refine Vm.sk_loop (fun k:Nat=>i - k) (fun k=>⟨[(1,.atom (.int .i64 i)),(2,.rptr 0 0),(5,.atom (.int .i64 k))],[.cell (dC c)],24⟩) (fun k=>k≤i∧t.name∉(namesT c).take k) 0 ?_ ⟨by omega,by simp⟩ ?_
 ·exact Vm.lx (Vm.cl (ai xRPrj2 @dC.eq_1))
 rintro k ⟨hk,hm⟩ ih;refine Vm.rn xRPrj2 ?_;refine Vm.sb_dec (fun hc=>?_) (fun hc=>?_)
 ·obtain ⟨x,hx,g1⟩:=row_at (f:=dT) (l:=c.trans) (i:=k) (by omega);have hx':(namesT c)[k]?=some x.name:=by rw [namesT,List.getElem?_map,hx];rfl
  simp only [dT] at g1;refine Vm.rn (ai xRPrj2 @dC.eq_1) ?_;refine Vm.dw 13 [0,1,2,3,4,5,6,7,8,9,10,11,12] ?_;refine Vm.rn (ai xRPrj2<|ai @g1<|ai @g2 @dC.eq_1) ?_;refine Vm.sb_dec (fun hb=>?_) (fun hb=>?_)
  ·refine Vm.rn xRPrj2 ?_;refine Vm.rz xRPrj2 ?_;rw [show decide (t.name∈(namesT c).take i)=true from decide_eq_true ?_];rw [← hb];exact List.mem_of_getElem? (i:=k) (by rw [List.getElem?_take,if_pos (by omega)];exact hx')
  ·refine Vm.rn xRPrj2 ?_;refine ih (k+1) _ (by dsimp only;omega) ⟨by omega,?_⟩ ?_
   ·rw [take_at hx',List.mem_append,List.mem_singleton];exact fun h=>h.elim hm fun h=>hb h.symm
   exact Vm.lx (Vm.cl (ai xRPrj2<|ai @Int.natCast_add @dC.eq_1))
 ·have:k=i:=by omega
  subst this;refine Vm.rn xRPrj2 ?_;refine Vm.rz xRPrj2 ?_;rw [show decide (t.name∈(namesT c).take k)=false from decide_eq_false hm]
theorem nodup_step {l:List Int} {i:Nat} {x:Int} (h:l[i]?=some x) (hn:(l.take i).Nodup):(l.take (i+1)).Nodup↔x∉l.take i:=by
 rw [take_at h,List.nodup_append];simp only [hn,List.mem_singleton,true_and];exact ⟨fun h hx=>h.2 x hx x rfl rfl,fun h=>⟨by simp,fun a ha b hb e=>by subst hb;subst e;exact h ha⟩⟩
theorem rtwice_v (l:List Int) (hl:l.length<1000000000):Vm.VC T 68 [.imm 1 (l.map dI)] fun d=>d=.atom (.bool (!decide l.Nodup)):=by
 refine Vm.ve (T:=T) Tryz.func68 fun g hB hG0 hU=>?_;simp only [Tryz.f68,Vm.aC,Vm.aN,Nat.reduceAdd];refine Vm.rn xRPrj2 ?_;refine Vm.sk_loop (fun i:Nat=>l.length - i) (fun i=>⟨[(0,.imm 1 (l.map dI)),(3,.atom (.int .i64 i))],[],25⟩) (fun i=>i≤l.length∧(l.take i).Nodup) 0 ?_ ⟨by omega,by simp⟩ ?_
 ·exact Vm.lx (Vm.cl xRPrj2)
 rintro i ⟨hi,hn⟩ ih;refine Vm.rn xRPrj2 ?_;refine Vm.sb_dec (fun hc=>?_) (fun hc=>?_)
 ·obtain ⟨x,hx,g1⟩:=row_at (f:=dI) (l:=l) (i:=i) (by omega);have st:=nodup_step hx hn;simp only [dI] at g1;refine Vm.rn xRPrj2 ?_;refine Vm.sk_loop (fun k:Nat=>i - k) (fun k=>⟨[(0,.imm 1 (l.map dI)),(3,.atom (.int .i64 i)),(4,.atom (.int .i64 k))],[],25⟩) (fun k=>k≤i∧x∉l.take k) 0 ?_ ⟨by omega,by simp⟩ ?_
  ·exact Vm.lx (Vm.cl xRPrj2)
  rintro k ⟨hk,hm⟩ ihk;refine Vm.rn xRPrj2 ?_;refine Vm.sb_dec (fun hd=>?_) (fun hd=>?_)
  ·obtain ⟨y,hy,g2⟩:=row_at (f:=dI) (l:=l) (i:=k) (by omega);simp only [dI] at g2;refine Vm.rn xRPrj2 ?_;refine Vm.dw 9 [0,1,2,3,4,5,6,7,8] ?_;refine Vm.rn (ai xRPrj2<|ai @g1 @g2) ?_;refine Vm.sb_dec (fun hb=>?_) (fun hb=>?_)
   ·refine Vm.rn xRPrj2 ?_;refine Vm.rz xRPrj2 ?_
    have h1:x∈l.take i:=by
     rw [← hb];exact List.mem_of_getElem? (i:=k) (by rw [List.getElem?_take,if_pos (by omega)];exact hy)
    have h2:¬ l.Nodup:=fun h=>st.1 (h.sublist (List.take_sublist _ _)) h1;simp [h2]
   ·refine Vm.rn xRPrj2 ?_;refine ihk (k+1) _ (by dsimp only;omega) ⟨by omega,?_⟩ ?_
    ·rw [take_at hy,List.mem_append,List.mem_singleton];exact fun h=>h.elim hm fun h=>hb h.symm
    exact Vm.lx (Vm.cl (ai xRPrj2 @Int.natCast_add))
  ·have:k=i:=by omega
   subst this;refine Vm.rn xRPrj2 ?_;refine ih (k+1) _ (by dsimp only;omega) ⟨by omega,st.2 hm⟩ ?_;exact Vm.lx (Vm.cl (ai xRPrj2 @Int.natCast_add))
 ·have:i=l.length:=by omega
  subst this;rw [List.take_length] at hn;refine Vm.rn xRPrj2 ?_;refine Vm.rz xRPrj2 ?_;simp [hn]
def allP (l:List Tra):List Int:=(l.map placesT).flatten
theorem allP_step {l:List Tra} {i:Nat} {t:Tra} (h:l[i]?=some t):allP (l.take (i+1))=allP (l.take i)++placesT t:=by
 rw [take_at h];simp [allP]
theorem allP_le {l:List Tra} (h:∀ t,t∈l→t.at_.length<100):∀ i,i≤l.length→(allP (l.take i)).length≤102 * i
 | 0,_=>by simp [allP]
 | i+1,hi=>by
   have h1:l[i]?=some l[i]:=List.getElem?_eq_getElem (by omega);have h2:=allP_le h i (by omega);have h3:=h _ (List.mem_of_getElem? h1);rw [allP_step h1,List.length_append];simp [placesT];omega
theorem rall_v (c:Cas) (hc:FitC c):Vm.VC T 69 [.agg (dC c)] fun d=>d=.fresh 1 ((allP c.trans).map dI):=by
 obtain ⟨f1,f2,f3,f4,f5⟩:=hc;have hz:allP []=[]:=rfl;refine Vm.ve (T:=T) Tryz.func69 fun g hB hG0 hU=>?_;simp only [Tryz.f69,Vm.aC,Vm.aN,Nat.reduceAdd];refine Vm.rn (ai xRPrj2 @dC.eq_1) ?_;refine Vm.sk_nil 3 1 (by rfl) ?_;refine Vm.sk_loop (fun i:Nat=>c.trans.length - i) (fun i=>⟨[(1,.rptr 0 0),(3,.own 1 (allP (c.trans.take i)).length),(4,.atom (.int .i64 i))],[.cell (dC c),.sl 1 ((allP (c.trans.take i)).map dI)],21⟩) (fun i=>i≤c.trans.length) 0 ?_ (Nat.zero_le _) ?_
 ·exact Vm.lx (Vm.cl (ai xRPrj2<|ai @dC.eq_1<|ai @List.take_zero.{0} @hz))
 intro i hi ih;refine Vm.rn (ai xRPrj2 @dC.eq_1) ?_;refine Vm.sb_dec (fun hlt=>?_) (fun hge=>?_)
 ·obtain ⟨t,ht,g1⟩:=row_at (f:=dT) (l:=c.trans) (i:=i) (by omega);have hs1:=allP_step ht;have hb1:=allP_le (fun t ht=>(f5 t ht).2) i hi;have hb2:=(f5 t (List.mem_of_getElem? ht)).2;have hb3:(placesT t).length=t.at_.length+2:=by simp [placesT]
  have hs2:(allP (c.trans.take i)++placesT t).map dI=(allP (c.trans.take i)).map dI++(placesT t).map dI:=List.map_append;simp only [dT] at g1;refine Vm.rn (ai xRPrj2 @g1) ?_;refine Vm.cq (ai xRPrj2 @dT.eq_1) (rplaces_v t hb2) ?_;refine ih (i+1) _ (by dsimp only;omega) (by omega) ?_;exact Vm.lx (Vm.cl (ai xRPrj2<|ai @hs1<|ai @Int.natCast_add<|ai @dC.eq_1<|ai @hb3 @hs2))
 ·have:i=c.trans.length:=by omega
  subst this;rw [List.take_length];refine Vm.rn xRPrj2 ?_;exact Vm.rx (Vm.cl xRPrj2)
set_option linter.defProp false in
def xRPrj3:=ai @prLL_dI<|ai @imLL_I<|ai @nlR_dI @Vm.nlR_append
noncomputable def objE (c:Cas) (i:Nat):Int:=match c.names[i]?,c.first[i]? with
 | some s,some x=>if nameE s≠0 then 7 else if s∈c.names.take i then 10 else if checkS x≠0 then checkS x else if 1000<x.l.length then 4 else 0
 | _,_=>0
noncomputable def objsE (c:Cas):Int:=fnz ((List.range c.names.length).map (objE c))
def prevB (c:Cas):Nat→Int
 | 0=>-1
 | k+1=>match c.trans[k]? with
   | some t=>t.b
   | none=>-1
def traE (c:Cas) (i:Nat):Int:=match c.trans[i]? with
 | some t=>if nameE t.name≠0 then 7 else if t.name∈(namesT c).take i then 10 else if t.at_.length≠t.acts.length then 2 else if t.b<0∨t.b≤prevB c i∨riseB (placesT t)=false then 13 else fnz (t.acts.map (actE c))
 | none=>0
def trsE (c:Cas):Int:=fnz ((List.range c.trans.length).map (traE c))
noncomputable def errC (c:Cas):Int:=if objsE c≠0 then objsE c else trsE c
noncomputable def checkC (c:Cas):Int:=
 if 256<c.names.length∨4096<c.trans.length∨1048576<sumA c.trans then 4 else if c.names.length≠c.first.length then 2 else if errC c≠0 then errC c else if (allP c.trans).Nodup then 0 else 13
theorem range_at {f:Nat→Int} {n i:Nat} (h:i<n):((List.range n).map f)[i]?=some (f i):=by simp [h]
theorem name_at {l:List (List UInt8)} {i:Nat} (h:i<l.length):∃ s,l[i]?=some s∧(l.map fun s=>[Vm.D.atom (.str s)])[i]?=some [.atom (.str s)]:=row_at (f:=fun s=>[Vm.D.atom (.str s)]) h
theorem objE_at {c:Cas} {i:Nat} {s:List UInt8} {x:Sta} (h:c.names[i]?=some s) (hx:c.first[i]?=some x):objE c i=if nameE s≠0 then 7 else if s∈c.names.take i then 10 else if checkS x≠0 then checkS x else if 1000<x.l.length then 4 else 0:=by
 simp only [objE,h,hx]
theorem robjects_v (c:Cas) (hc:FitC c) (hN:c.names.length=c.first.length):Vm.VC T 66 [.agg (dC c)] fun d=>d=.atom (.int .i64 (objsE c)):=by
 obtain ⟨f1,f2,f3,f4,f5⟩:=hc;refine Vm.ve (T:=T) Tryz.func66 fun g hB hG0 hU=>?_;simp only [Tryz.f66,Vm.aC,Vm.aN,Nat.reduceAdd];refine Vm.rn (ai xRPrj3 @dC.eq_1) ?_;refine Vm.sk_loop (fun i:Nat=>c.names.length - i) (fun i=>⟨[(1,.rptr 0 0),(3,.atom (.int .i64 i))],[.cell (dC c)],50⟩) (fun i=>i≤c.names.length∧fnz (((List.range c.names.length).map (objE c)).drop i)=objsE c) 0 ?_ ⟨by omega,by simp [objsE]⟩ ?_
 ·exact Vm.lx (Vm.cl (ai xRPrj3 @dC.eq_1))
 rintro i ⟨hi,he⟩ ih;refine Vm.rn (ai xRPrj3 @dC.eq_1) ?_;refine Vm.sb_dec (fun hc=>?_) (fun hc=>?_)
 ·obtain ⟨s,hs,gs⟩:=name_at (l:=c.names) (i:=i) (by omega);obtain ⟨x,hx,gx⟩:=row_at (f:=dS) (l:=c.first) (i:=i) (by omega);have st:=fnz_step (range_at (f:=objE c) (n:=c.names.length) (i:=i) (by omega));rw [he] at st;have ob:=objE_at hs hx;have hxl:=f4 x (List.mem_of_getElem? hx);obtain ⟨np,np2⟩:=nameP_lt s c.names 0 i hs;simp only [dS] at gx;refine Vm.rn (ai xRPrj3<|ai @gx @gs) ?_;refine Vm.cq (ai xRPrj3<|ai @dS.eq_1<|ai @gs @gx) (refCheck_v x hxl) ?_;refine Vm.cq (ai xRPrj3<|ai @gs @gx) (rncheck_v s) ?_
  by_cases h1:nameE s=0
  ·refine Vm.rn (ai xRPrj3 @h1) ?_;refine Vm.dw 11 [0,1,2,3,4,5,6,7,8,9,10] ?_;refine Vm.rn (ai xRPrj3 @gs) ?_
   (have hh:=ai xRPrj3 @Am.vt;(first | refine Vm.callQ_eq2 (robject_v c.names s f1) (Vm.ct hh) (Vm.rt hh ?_) | refine Vm.call_eq2 (robject_v c.names s f1) (Vm.ct hh) (Vm.rt hh ?_));clear hh)
   by_cases h2:nameP s c.names 0<(i:Int)
   ·have h2':s∈c.names.take i:=np.1 (by simpa using h2);have hz:objE c i=10:=by rw [ob];simp [h1,h2']
    refine Vm.rn (ai xRPrj3 @h2) ?_;refine Vm.rz xRPrj3 ?_;rw [st,hz];rfl
   ·have h2':¬ s∈c.names.take i:=fun h=>h2 (by simpa using np.2 h)
    by_cases h3:checkS x=0
    ·by_cases h4:(1000:Int)<x.l.length
     ·have hz:objE c i=4:=by
       have h4':1000<x.l.length:=by omega
       rw [ob];simp [h1,h2',h3,h4']
      refine Vm.rn (ai xRPrj3<|ai @h2<|ai @h3<|ai @h4 @gx) ?_;refine Vm.rz xRPrj3 ?_;rw [st,hz];rfl
     ·have hz:objE c i=0:=by
       have h4':¬ 1000<x.l.length:=by omega
       rw [ob];simp [h1,h2',h3,h4']
      refine Vm.rn (ai xRPrj3<|ai @h2<|ai @h3<|ai @h4 @gx) ?_;refine ih (i+1) _ (by dsimp only;omega) ⟨by omega,?_⟩ ?_
      ·rw [st,if_pos hz]
      exact Vm.lx (Vm.cl (ai xRPrj3<|ai @Int.natCast_add @dC.eq_1))
    ·have hz:objE c i=checkS x:=by rw [ob];simp [h1,h2',h3]
     refine Vm.rn (ai xRPrj3<|ai @h2 @h3) ?_;refine Vm.rz xRPrj3 ?_;rw [st,hz,if_neg h3]
  ·have hz:objE c i=7:=by rw [ob];simp [h1]
   refine Vm.rn (ai xRPrj3 @h1) ?_;refine Vm.rz xRPrj3 ?_;rw [st,hz];rfl
 ·refine Vm.rn xRPrj3 ?_;refine Vm.rz xRPrj3 ?_;rw [← he,fnz_end (by simp;omega)]
theorem traE_at {c:Cas} {i:Nat} {t:Tra} (h:c.trans[i]?=some t):traE c i=if nameE t.name≠0 then 7 else if t.name∈(namesT c).take i then 10 else if t.at_.length≠t.acts.length then 2 else if t.b<0∨t.b≤prevB c i∨riseB (placesT t)=false then 13 else fnz (t.acts.map (actE c)):=by
 simp only [traE,h]
theorem rtrans1_v (c:Cas) (hc:FitC c) (hN:c.names.length=c.first.length) (i:Nat) (t:Tra) (ht:c.trans[i]?=some t):Vm.VC T 67 [.agg (dC c),.atom (.int .i64 i)] fun d=>d=.atom (.int .i64 (traE c i)):=by
 obtain ⟨f1,f2,f3,f4,f5⟩:=hc
 have hil:i<c.trans.length:=by
  rcases Nat.lt_or_ge i c.trans.length with h | h
  ·exact h
  ·rw [List.getElem?_eq_none h] at ht;cases ht
 have g2:(c.trans.map dT)[i]?=some (dT t):=by rw [List.getElem?_map,ht];rfl
 obtain ⟨b1,b2⟩:=f5 t (List.mem_of_getElem? ht);have hpl:(placesT t).length<1000000:=by simp [placesT];omega
 have ob:=traE_at ht;simp only [dT] at g2;refine Vm.ve (T:=T) Tryz.func67 fun g hB hG0 hU=>?_;simp only [Tryz.f67,Vm.aC,Vm.aN,Nat.reduceAdd];refine Vm.rn (ai xRPrj3<|ai @dC.eq_1 @g2) ?_;refine Vm.cq xRPrj3 (rncheck_v t.name) ?_
 by_cases h1:nameE t.name=0
 ·refine Vm.rn (ai xRPrj3 @h1) ?_;refine Vm.cq (ai xRPrj3 @dC.eq_1) (rnamed_v c i t ht f3) ?_
  by_cases h2:t.name∈(namesT c).take i
  ·have hz:traE c i=10:=by rw [ob];simp [h1,h2]
   refine Vm.rn (ai xRPrj3 @h2) ?_;refine Vm.rz xRPrj3 ?_;rw [hz]
  by_cases h3:(t.at_.length:Int)=t.acts.length
  ·have h3':t.at_.length=t.acts.length:=by omega
   refine Vm.rn (ai xRPrj3<|ai @h2 @h3) ?_
   by_cases h4:t.b<0
   ·have hz:traE c i=13:=by rw [ob];simp [h1,h2,h3',h4]
    refine Vm.dw 26 [0,1,2,3,4,5,6,7,8,9,10,11,12,13,14,15,16,17,18,19,20,21,22,23,24,25] ?_;refine Vm.rn (ai xRPrj3 @h4) ?_;refine Vm.rn xRPrj3 ?_;refine Vm.rz xRPrj3 ?_;rw [hz]
   have core:¬ t.b≤prevB c i→traE c i=if riseB (placesT t)=false then 13 else fnz (t.acts.map (actE c)):=by
    intro hp;rw [ob];simp only [h1,h2,h3',h4,hp,ne_eq,not_true_eq_false,if_false,false_or]
   obtain rfl | ⟨k,rfl⟩:i=0∨∃ k,i=k+1:=by
    rcases i with _ | k
    ·exact .inl rfl
    ·exact .inr ⟨k,rfl⟩
   ·have core:=core (by simp only [prevB];omega);have e0:((0:Nat):Int)=0:=rfl;refine Vm.dw 26 [0,1,2,3,4,5,6,7,8,9,10,11,12,13,14,15,16,17,18,19,20,21,22,23,24,25] ?_;refine Vm.rn (ai xRPrj3<|ai @h4 @e0) ?_
    (have hh:=ai xRPrj3<|ai @dT.eq_1 @Am.vt;(first | refine Vm.callQ_eq2 (rplaces_v t b2) (Vm.ct hh) (Vm.rt hh ?_) | refine Vm.call_eq2 (rplaces_v t b2) (Vm.ct hh) (Vm.rt hh ?_));clear hh)
    (have hh:=ai xRPrj3 @Am.vt;(first | refine Vm.callQ_eq2 (rise_v (placesT t) hpl) (Vm.ct hh) (Vm.rt hh ?_) | refine Vm.call_eq2 (rise_v (placesT t) hpl) (Vm.ct hh) (Vm.rt hh ?_));clear hh)
    cases hr:riseB (placesT t) with
    | false =>
      refine Vm.rn xRPrj3 ?_;refine Vm.rz xRPrj3 ?_;simp [core,hr]
    | true =>
      refine Vm.rn xRPrj3 ?_;refine Vm.cq (ai xRPrj3<|ai @dC.eq_1 @dT.eq_1) (racts_v c t hN b1) ?_;refine Vm.rz xRPrj3 ?_;simp [core,hr]
   ·obtain ⟨u,hu,g3⟩:=row_at (f:=dT) (l:=c.trans) (i:=k) (by omega);have hpb:prevB c (k+1)=u.b:=by simp only [prevB,hu]
    simp only [dT] at g3;have hgt:(0:Int)<(k:Int)+1:=by omega
    by_cases h5:t.b≤u.b
    ·have hz:traE c (k+1)=13:=by rw [ob];simp [h1,h2,h3',hpb,h5]
     refine Vm.dw 26 [0,1,2,3,4,5,6,7,8,9,10,11,12,13,14,15,16,17,18,19,20,21,22,23,24,25] ?_;refine Vm.rn (ai xRPrj3<|ai @h4<|ai @hgt<|ai @Int.add_sub_cancel<|ai @g3 @h5) ?_;refine Vm.rn xRPrj3 ?_;refine Vm.rz xRPrj3 ?_;rw [hz]
    ·have core:=core (by rw [hpb];exact h5);refine Vm.dw 26 [0,1,2,3,4,5,6,7,8,9,10,11,12,13,14,15,16,17,18,19,20,21,22,23,24,25] ?_;refine Vm.rn (ai xRPrj3<|ai @h4<|ai @hgt<|ai @Int.add_sub_cancel<|ai @g3 @h5) ?_
     (have hh:=ai xRPrj3<|ai @dT.eq_1 @Am.vt;(first | refine Vm.callQ_eq2 (rplaces_v t b2) (Vm.ct hh) (Vm.rt hh ?_) | refine Vm.call_eq2 (rplaces_v t b2) (Vm.ct hh) (Vm.rt hh ?_));clear hh)
     (have hh:=ai xRPrj3 @Am.vt;(first | refine Vm.callQ_eq2 (rise_v (placesT t) hpl) (Vm.ct hh) (Vm.rt hh ?_) | refine Vm.call_eq2 (rise_v (placesT t) hpl) (Vm.ct hh) (Vm.rt hh ?_));clear hh)
     cases hr:riseB (placesT t) with
     | false =>
       refine Vm.rn xRPrj3 ?_;refine Vm.rz xRPrj3 ?_;simp [core,hr]
     | true =>
       refine Vm.rn xRPrj3 ?_;refine Vm.cq (ai xRPrj3<|ai @dC.eq_1 @dT.eq_1) (racts_v c t hN b1) ?_;refine Vm.rz xRPrj3 ?_;simp [core,hr]
  ·have h3':¬ t.at_.length=t.acts.length:=by omega
   have hz:traE c i=2:=by rw [ob];simp [h1,h2,h3']
   refine Vm.rn (ai xRPrj3<|ai @h2 @h3) ?_;refine Vm.rz xRPrj3 ?_;rw [hz]
 ·have hz:traE c i=7:=by rw [ob];simp [h1]
  refine Vm.rn (ai xRPrj3 @h1) ?_;refine Vm.rz xRPrj3 ?_;rw [hz]
theorem rcheckC_v (c:Cas) (hc:FitC c):Vm.VC T 43 [.agg (dC c)] fun d=>d=.atom (.int .i64 (checkC c)):=by
 obtain ⟨f1,f2,f3,f4,f5⟩:=id hc
 have hpl:(allP c.trans).length<1000000000:=by
  have:=allP_le (fun t ht=>(f5 t ht).2) c.trans.length (Nat.le_refl _);rw [List.take_length] at this;omega
 refine Vm.ve (T:=T) Tryz.func43 fun g hB hG0 hU=>?_;simp only [Tryz.f43,Vm.aC,Vm.aN,Nat.reduceAdd];refine Vm.rn (ai xRPrj3 @dC.eq_1) ?_;refine Vm.cq (ai xRPrj3 @dC.eq_1) (rsize_v c hc) ?_
 by_cases h1:(256:Int)<c.names.length
 ·refine Vm.rn (ai xRPrj3 @h1) ?_;refine Vm.rz xRPrj3 ?_;rw [checkC,if_pos (by omega)]
 by_cases h2:(4096:Int)<c.trans.length
 ·refine Vm.rn (ai xRPrj3<|ai @h1 @h2) ?_;refine Vm.rz xRPrj3 ?_;rw [checkC,if_pos (by omega)]
 by_cases h3:(1048576:Int)<sumA c.trans
 ·refine Vm.rn (ai xRPrj3<|ai @h1<|ai @h2 @h3) ?_;refine Vm.rz xRPrj3 ?_;rw [checkC,if_pos (by omega)]
 by_cases h4:(c.first.length:Int)=c.names.length
 ·have hN:c.names.length=c.first.length:=by omega
  have e0:checkC c=if errC c≠0 then errC c else if (allP c.trans).Nodup then 0 else 13:=by rw [checkC,if_neg (by omega),if_neg (by omega)]
  rw [e0];refine Vm.rn (ai xRPrj3<|ai @h1<|ai @h2<|ai @h3 @h4) ?_;refine Vm.cq (ai xRPrj3 @dC.eq_1) (robjects_v c hc hN) ?_;refine Vm.sk_loop (fun p:Nat×Int=>c.trans.length - p.1) (fun p=>⟨[(1,.rptr 0 0),(5,.atom (.int .i64 p.2)),(6,.atom (.int .i64 p.1))],[.cell (dC c)],59⟩) (fun p=>p.1≤c.trans.length∧(if p.2≠0 then p.2 else fnz (((List.range c.trans.length).map (traE c)).drop p.1))=errC c) (0,objsE c) ?_ ⟨Nat.zero_le _,by simp [errC,trsE]⟩ ?_
  ·exact Vm.lx (Vm.cl (ai xRPrj3 @dC.eq_1))
  rintro ⟨i,e⟩ ⟨hi,he⟩ ih;dsimp only at hi he ih
  by_cases hz:e=0
  ·subst hz;rw [if_neg (by simp)] at he
   by_cases hlt:(i:Int)<c.trans.length
   ·obtain ⟨t,ht,g1⟩:=row_at (f:=dT) (l:=c.trans) (i:=i) (by omega);have st:=fnz_step (range_at (f:=traE c) (n:=c.trans.length) (i:=i) (by omega));refine Vm.rn (ai xRPrj3<|ai @dC.eq_1 @hlt) ?_;refine Vm.cq (ai xRPrj3 @dC.eq_1) (rtrans1_v c hc hN i t ht) ?_;refine ih (i+1,traE c i) _ (by dsimp only;omega) ⟨by dsimp only;omega,?_⟩ ?_
    ·dsimp only;rw [← he,st]
     by_cases hq:traE c i=0 <;> simp [hq]
    exact Vm.lx (Vm.cl (ai xRPrj3<|ai @Int.natCast_add @dC.eq_1))
   ·have he0:errC c=0:=by rw [← he,fnz_end (by simp;omega)]
    refine Vm.rn (ai xRPrj3<|ai @dC.eq_1 @hlt) ?_;refine Vm.cq (ai xRPrj3 @dC.eq_1) (rall_v c hc) ?_;refine Vm.cq xRPrj3 (rtwice_v (allP c.trans) hpl) ?_
    by_cases hn:(allP c.trans).Nodup
    ·refine Vm.rn (ai xRPrj3 @hn) ?_;refine Vm.rz xRPrj3 ?_;simp [he0,hn]
    ·refine Vm.rn (ai xRPrj3 @hn) ?_;refine Vm.rz xRPrj3 ?_;simp [he0,hn]
  ·rw [if_pos hz] at he;subst he
   by_cases hlt:(i:Int)<c.trans.length
   ·refine Vm.rn (ai xRPrj3<|ai @dC.eq_1<|ai @hlt @hz) ?_;refine Vm.rz xRPrj3 ?_;simp [hz]
   ·refine Vm.rn (ai xRPrj3<|ai @dC.eq_1<|ai @hlt @hz) ?_;refine Vm.rz xRPrj3 ?_;simp [hz]
 ·refine Vm.rn (ai xRPrj3<|ai @h1<|ai @h2<|ai @h3 @h4) ?_;refine Vm.rz xRPrj3 ?_;rw [checkC,if_neg (by omega),if_pos (by omega)]
set_option linter.defProp false in
def xRPrj4:=ai @prLL_dI<|ai @imLL_I<|ai @nlR_dI @Vm.nlR_append
def mpN (l:List (List UInt8)):List (V×Vm.D):=l.map fun x=>(V.str x,.unk)
theorem set_new {d':Vm.D} {k:List UInt8}:∀ {xs:List (List UInt8)},k∉xs→Vm.vSet (.str k) d' (mpN xs)=some (mpN xs++[(V.str k,d')])
 | [],_=>rfl
 | x::xs,h=>by
   have h1:(k == x)=false:=by simpa using fun e=>h (by simp [e])
   have ih:=set_new (d':=d') (k:=k) (xs:=xs) fun e=>h (by simp [e]);simp only [mpN] at ih;simp only [mpN,List.map_cons,Vm.vSet,sameCell,h1,ih,Option.map_some]
   rfl
theorem set_old {d':Vm.D} {k:List UInt8}:∀ {xs:List (List UInt8)},∃ ms,Vm.vSet (.str k) d' (mpN xs)=some ms
 | []=>⟨_,rfl⟩
 | x::xs=>by
   obtain ⟨ms,ih⟩:=set_old (d':=d') (k:=k) (xs:=xs);simp only [mpN] at ih
   cases h:(k == x) with
   | true=>exact ⟨_,by simp only [mpN,List.map_cons,Vm.vSet,sameCell,h];rfl⟩
   | false=>exact ⟨_,by simp only [mpN,List.map_cons,Vm.vSet,sameCell,h,ih,Option.map_some];rfl⟩
theorem find_mpN (k:List UInt8) (xs:List (List UInt8)):Vm.vFind (.str k) (mpN xs)=some (if k∈xs then some .unk else none):=Vm.zero_str_key k
theorem unk_new (xs:List (List UInt8)) (k:List UInt8) (d:Vm.D):Vm.unkM (mpN xs++[(V.str k,d)])=mpN (xs++[k]):=by simp [Vm.unkM,mpN]
theorem belP_mp0 (n:Nat):Vm.belP n (.mp [])=true:=rfl
theorem nlM_mpN (xs:List (List UInt8)):Vm.nlM (mpN xs)=true:=by
 induction xs with
 | nil=>rfl
 | cons x xs ih=>rw [mpN,List.map_cons];exact ih
theorem belP_mpN (n:Nat) (xs:List (List UInt8)):Vm.belP n (.mp (mpN xs))=true:=by rw [Vm.belP_mp,nlM_mpN];rfl
theorem key_str (s:List UInt8):Am.keyOk T 9 (.str s)=true:=by kernel_rfl
theorem unit_v (so:List Vm.Ob):Vm.vBuild T so 130 []=some (.agg []):=by kernel_rfl
theorem placesI_v (t:Tra) (h:t.at_.length<100):Vm.VC T 53 [.agg (dT t)] fun d=>d=.imm 1 ((placesT t).map dI):=
 fun P H vs wf pl q=>((places_v t h).im P H vs wf pl q).mono fun v H' ⟨d,P',F',⟨e,h1,h2⟩,rest⟩=>⟨d,P',F',by subst h1;simp only [Vm.imL,Vm.D.im,imLL_I,List.cons.injEq,and_true] at h2;exact h2.symm,rest⟩
theorem dd_nodup:∀ l:List Int,l.Pairwise (·≤·)→((dd l).length=l.length↔l.Nodup)
 | [],_=>by simp [dd]
 | [x],_=>by simp [dd]
 | x::y::l,h=>by
   have ih:=dd_nodup (y::l) h.tail;have hl:=Vm.dd_len (y::l);have hx:=(List.pairwise_cons.1 h).1
   by_cases e:x=y
   ·subst e;have h1:dd (x::x::l)=dd (x::l):=by simp only [dd,if_true]
    rw [h1];simp only [List.length_cons] at hl ⊢;refine ⟨fun h=>by omega,fun h=>?_⟩;simp at h
   ·have h1:dd (x::y::l)=x::dd (y::l):=by simp only [dd,if_neg e]
    rw [h1,List.length_cons,List.length_cons,Nat.add_right_cancel_iff,ih,List.nodup_cons (a:=x)];refine ⟨fun hn=>⟨fun hm=>?_,hn⟩,fun hn=>hn.2⟩;rcases List.mem_cons.1 hm with rfl | hm
    ·exact e rfl
    ·have h2:=hx y (by simp);have h3:=(List.pairwise_cons.1 h.tail).1 _ hm;omega
theorem dd_sorted (l:List Int):((dd (Vm.sortedI l)).length=l.length↔l.Nodup):=by
 have hp:(Vm.sortedI l).Pairwise (·≤·):=(List.pairwise_mergeSort (fun a b c h1 h2=>by simp at h1 h2 ⊢;omega) (fun a b=>by simp;omega) l).imp fun h=>by simpa using h
 have hm:(Vm.sortedI l).Perm l:=List.mergeSort_perm l _;rw [← hm.length_eq,dd_nodup _ hp,hm.nodup_iff]
theorem compact2 {f:FuncId} {so:List Vm.Ob} {k m:Nat} {xs:List Int} (hp:T.prim f=some compactP) (hk:so[k]?=some (.sl 1 (xs.map fun z=>[Vm.D.atom (.int .i64 z)]))) (hm:xs.length=m) (hlen:m≤1000000000) :
  Vm.VM T f [.own k m] so fun d so'=>d=.own so.length (dd xs).length∧so'=so.set k .dead++[.sl 1 ((dd xs).map fun z=>[Vm.D.atom (.int .i64 z)])]:=by
 subst hm;exact Vm.compact_v hp hk hlen
set_option maxHeartbeats 8000000 in
theorem checkC_v (c:Cas) (hc:FitC c):Vm.VC T 30 [.agg (dC c)] fun d=>d=.atom (.int .i64 (checkC c)):=by
 obtain ⟨f1,f2,f3,f4,f5⟩:=id hc;refine Vm.ve (T:=T) Tryz.func30 fun g hB hG0 hU=>?_;simp only [Tryz.f30,Vm.aC,Vm.aN,Nat.reduceAdd];refine Vm.rn (ai xRPrj4 @dC.eq_1) ?_;refine Vm.cq (ai xRPrj4 @dC.eq_1) (size_v c hc) ?_
 by_cases h1:(256:Int)<c.names.length
 ·refine Vm.rn (ai xRPrj4 @h1) ?_;refine Vm.rz xRPrj4 ?_;rw [checkC,if_pos (by omega)]
 by_cases h2:(4096:Int)<c.trans.length
 ·refine Vm.rn (ai xRPrj4<|ai @h1 @h2) ?_;refine Vm.rz xRPrj4 ?_;rw [checkC,if_pos (by omega)]
 by_cases h3:(1048576:Int)<sumA c.trans
 ·refine Vm.rn (ai xRPrj4<|ai @h1<|ai @h2 @h3) ?_;refine Vm.rz xRPrj4 ?_;rw [checkC,if_pos (by omega)]
 by_cases h4:(c.names.length:Int)=c.first.length
 ·have hN:c.names.length=c.first.length:=by omega
  have e0:checkC c=if errC c≠0 then errC c else if (allP c.trans).Nodup then 0 else 13:=by rw [checkC,if_neg (by omega),if_neg (by omega)]
  rw [e0];refine Vm.rn (ai xRPrj4<|ai @h1<|ai @h2 @h3) ?_;refine Vm.rn (ai xRPrj4 @h4) ?_;refine Vm.sk_loop (fun i:Nat=>c.names.length - i) (fun i=>⟨[(1,.rptr 0 0),(3,.atom (.int .i64 c.trans.length)),(4,.atom (.int .i64 (sumA c.trans:Nat))),(5,.omap 1),(42,.imm 1 (c.names.map fun s=>[.atom (.str s)])),(43,.atom (.int .i64 c.names.length)),(44,.atom (.int .i64 i))],[.cell (dC c),.mp (mpN (c.names.take i))],94⟩) (fun i=>i≤c.names.length∧fnz (((List.range c.names.length).map (objE c)).drop i)=objsE c) 0 ?_ ⟨by omega,by simp [objsE]⟩ ?_
  ·exact Vm.lx (Vm.cl (ai xRPrj4<|ai @dC.eq_1<|ai @List.take_zero.{0}<|ai (show mpN []=[] from rfl)<|ai @h4 @belP_mp0))
  rintro i ⟨hi,he⟩ ih;refine Vm.rn xRPrj4 ?_;refine Vm.sb_dec (fun hlt=>?_) (fun hge=>?_)
  ·obtain ⟨s,hs,gs⟩:=name_at (l:=c.names) (i:=i) (by omega);obtain ⟨x,hx,gx⟩:=row_at (f:=dS) (l:=c.first) (i:=i) (by omega);have st:=fnz_step (range_at (f:=objE c) (n:=c.names.length) (i:=i) (by omega));rw [he] at st;have ob:=objE_at hs hx;have hxl:=f4 x (List.mem_of_getElem? hx);simp only [dS] at gx;refine Vm.rn (ai xRPrj4<|ai @gs<|ai @gx @dC.eq_1) ?_;refine Vm.vw (T:=T) Tryz.func51 fun _ hGi hUi=>?_;simp only [Tryz.f51,Vm.aC,Vm.aN,Nat.reduceAdd];refine Vm.rn xRPrj4 ?_;refine Vm.cq xRPrj4 (ncheck_v s) ?_
   by_cases g1:nameE s=0
   ·refine Vm.rn (ai xRPrj4 @g1) ?_;refine Vm.vw (T:=T) Tryz.func74 fun _ hGi hUi=>?_;simp only [Tryz.f74,Vm.aC,Vm.aN,Nat.reduceAdd]
    by_cases g2:s∈c.names.take i
    ·obtain ⟨ms,hms⟩:=set_old (d':=.rptr 3 0) (k:=s) (xs:=c.names.take i);have hz:objE c i=10:=by rw [ob];simp [g1,g2]
     refine Vm.rn (ai xRPrj4<|ai @key_str<|ai @unit_v<|ai @find_mpN<|ai @g2 @hms) ?_;refine Vm.rm (Vm.s1 xRPrj4 ?_);refine Vm.rn xRPrj4 ?_;refine Vm.rm (Vm.s1 xRPrj4 ?_);refine Vm.rn xRPrj4 ?_;refine Vm.rz xRPrj4 ?_;simp [errC,st,hz]
    ·refine Vm.rn (ai xRPrj4<|ai @key_str<|ai @unit_v<|ai @find_mpN<|ai @g2 (set_new (d':=.rptr 3 0) g2)) ?_;refine Vm.rm (Vm.s1 xRPrj4 ?_);refine Vm.rn xRPrj4 ?_;refine Vm.cq (ai xRPrj4 @dS.eq_1) (check_v x hxl) ?_
     by_cases g3:checkS x=0
     ·by_cases g4:(1000:Int)<x.l.length
      ·have hz:objE c i=4:=by
        have g4':1000<x.l.length:=by omega
        rw [ob];simp [g1,g2,g3,g4']
       refine Vm.rn (ai xRPrj4<|ai @g3 @g4) ?_;refine Vm.rm (Vm.s1 xRPrj4 ?_);refine Vm.rn xRPrj4 ?_;refine Vm.rz xRPrj4 ?_;simp [errC,st,hz]
      ·have hz:objE c i=0:=by
        have g4':¬ 1000<x.l.length:=by omega
        rw [ob];simp [g1,g2,g3,g4']
       refine Vm.rn (ai xRPrj4<|ai @g3 @g4) ?_;refine Vm.rm (Vm.s1 xRPrj4 ?_);refine Vm.rn xRPrj4 ?_;refine ih (i+1) _ (by dsimp only;omega) ⟨by omega,?_⟩ ?_
       ·rw [st,if_pos hz]
       refine Vm.Le.trans (Vm.le_unkM (k:=1) (by exact rfl)) ?_;rw [unk_new,← take_at hs];simp only [List.set_cons_succ,List.set_cons_zero];exact Vm.lx (Vm.cl (ai xRPrj4<|ai @Int.natCast_add<|ai @dC.eq_1 @belP_mpN))
     ·have hz:objE c i=checkS x:=by rw [ob];simp [g1,g2,g3]
      refine Vm.rn (ai xRPrj4 @g3) ?_;refine Vm.rm (Vm.s1 xRPrj4 ?_);refine Vm.rn (ai xRPrj4 @g3) ?_;refine Vm.rz xRPrj4 ?_;simp [errC,st,hz,g3]
   ·have hz:objE c i=7:=by rw [ob];simp [g1]
    refine Vm.rn (ai xRPrj4 @g1) ?_;refine Vm.rm (Vm.s1 xRPrj4 ?_);refine Vm.rn xRPrj4 ?_;refine Vm.rz xRPrj4 ?_;simp [errC,st,hz]
  ·have hi':i=c.names.length:=by omega
   subst hi';rw [fnz_end (by simp)] at he;have he2:errC c=trsE c:=by rw [errC,if_neg (by simp [← he])]
   rw [he2,List.take_length];refine Vm.rn (ai xRPrj4 @dC.eq_1) ?_;refine Vm.sk_nil 10 1 (by rfl) ?_
   refine Vm.sk_loop (fun i:Nat=>c.trans.length - i) (fun i=>⟨[(1,.rptr 0 0),(3,.atom (.int .i64 c.trans.length)),(4,.atom (.int .i64 (sumA c.trans:Nat))),(5,.omap 2),(9,.atom (.int .i64 (prevB c i))),(10,.own 3 (allP (c.trans.take i)).length),(63,.imm 5 (c.trans.map dT)),(64,.atom (.int .i64 c.trans.length)),(65,.atom (.int .i64 i))],[.cell (dC c),.mp (mpN c.names),.mp (mpN ((namesT c).take i)),.sl 1 ((allP (c.trans.take i)).map dI)],94⟩)
    (fun i=>i≤c.trans.length∧-1≤prevB c i∧(allP (c.trans.take i)).length=2 * i+sumA (c.trans.take i)∧fnz (((List.range c.trans.length).map (traE c)).drop i)=trsE c) 0 ?_ ⟨by omega,by simp [prevB],by simp [allP,sumA],by simp [trsE]⟩ ?_
   ·exact Vm.lx (Vm.cl (ai xRPrj4<|ai @dC.eq_1<|ai @List.take_zero.{0}<|ai (show mpN []=[] from rfl)<|ai (show allP []=[] from rfl)<|ai (show prevB c 0=-1 from rfl)<|ai @belP_mp0 @belP_mpN))
   rintro i ⟨hi,hpb,hal,he⟩ ih;refine Vm.rn xRPrj4 ?_;refine Vm.sb_dec (fun hlt=>?_) (fun hge=>?_)
   ·obtain ⟨t,ht,gt⟩:=row_at (f:=dT) (l:=c.trans) (i:=i) (by omega);have st:=fnz_step (range_at (f:=traE c) (n:=c.trans.length) (i:=i) (by omega));rw [he] at st;have ob:=traE_at ht;obtain ⟨b1,b2⟩:=f5 t (List.mem_of_getElem? ht);simp only [dT] at gt;refine Vm.rn (ai xRPrj4<|ai @gt @dC.eq_1) ?_;refine Vm.vw (T:=T) Tryz.func52 fun _ hGi hUi=>?_;simp only [Tryz.f52,Vm.aC,Vm.aN,Nat.reduceAdd];refine Vm.rn xRPrj4 ?_;refine Vm.cq xRPrj4 (ncheck_v t.name) ?_
    by_cases g1:nameE t.name=0
    ·refine Vm.rn (ai xRPrj4 @g1) ?_;refine Vm.vw (T:=T) Tryz.func74 fun _ hGi hUi=>?_;simp only [Tryz.f74,Vm.aC,Vm.aN,Nat.reduceAdd]
     by_cases g2:t.name∈(namesT c).take i
     ·obtain ⟨ms,hms⟩:=set_old (d':=.rptr 7 0) (k:=t.name) (xs:=(namesT c).take i);have hz:traE c i=10:=by rw [ob];simp [g1,g2]
      refine Vm.rn (ai xRPrj4<|ai @key_str<|ai @unit_v<|ai @find_mpN<|ai @g2 @hms) ?_;refine Vm.rm (Vm.s1 xRPrj4 ?_);refine Vm.rn xRPrj4 ?_;refine Vm.rm (Vm.s1 xRPrj4 ?_);refine Vm.rn xRPrj4 ?_;refine Vm.rz xRPrj4 ?_;simp [st,hz]
     by_cases g3:(t.at_.length:Int)=t.acts.length
     ·have g3':t.at_.length=t.acts.length:=by omega
      refine Vm.rn (ai xRPrj4<|ai @key_str<|ai @unit_v<|ai @find_mpN<|ai @g2 (set_new (d':=.rptr 7 0) g2)) ?_;refine Vm.rm (Vm.s1 xRPrj4 ?_)
      by_cases g4:t.b≤prevB c i
      ·have hz:traE c i=13:=by rw [ob];simp [g1,g2,g3',g4]
       refine Vm.rn (ai xRPrj4<|ai @g3 @g4) ?_;refine Vm.rm (Vm.s1 xRPrj4 ?_);refine Vm.rn xRPrj4 ?_;refine Vm.rz xRPrj4 ?_;simp [st,hz]
      have g5:¬ t.b<0:=by omega
      have ob2:traE c i=if riseB (placesT t)=false then 13 else fnz (t.acts.map (actE c)):=by
       rw [ob];simp only [g1,g2,g3',g4,g5,ne_eq,not_true_eq_false,if_false,false_or]
      have hpl:(placesT t).length=t.at_.length+2:=by simp [placesT]
      have htk:((placesT t).map dI).take (t.at_.length+2)=(placesT t).map dI:=List.take_of_length_le (by simp [hpl]);have hdl:(((placesT t).map dI).drop 1).length=t.at_.length+1:=by simp [hpl]
      refine Vm.rn (ai xRPrj4<|ai @g3 @g4) ?_
      (have hh:=ai xRPrj4<|ai @dT.eq_1<|ai @hpl<|ai @htk @hdl;refine Vm.call_eqI2 (placesI_v t b2) (Vm.cl hh) (Vm.rn hh ?_);clear hh)
      have htn:(namesT c)[i]?=some t.name:=by rw [namesT,List.getElem?_map,ht];rfl
      refine Vm.sk_unkM 2 (by exact rfl) ?_;rw [unk_new,← take_at htn];simp only [List.set_cons_succ,List.set_cons_zero];refine Vm.sk_loop (fun j:Nat=>t.at_.length+1 - j) (fun j=>⟨[(4,.rptr 5 0),(6,.rptr 6 0),(9,.imm 1 ((placesT t).map dI)),(41,.atom (.int .i64 (t.at_.length+1))),(42,.atom (.int .i64 j))],[.cell (dC c),.mp (mpN c.names),.mp (mpN ((namesT c).take (i+1))),.sl 1 ((allP (c.trans.take i)).map dI),.cell (dT t),.cell (dC c),.cell (dT t)],70⟩) (fun j=>j≤t.at_.length+1∧riseB ((placesT t).drop j)=riseB (placesT t)) 0 ?_ ⟨by omega,by simp⟩ ?_
      ·exact Vm.lx (Vm.cl (ai xRPrj4<|ai @dC.eq_1<|ai @dT.eq_1 @belP_mpN))
      rintro j ⟨hj,hr⟩ ihj;refine Vm.rn xRPrj4 ?_;refine Vm.sb_dec (fun hc1=>?_) (fun hc1=>?_)
      ·obtain ⟨x,hx,gx⟩:=row_at (f:=dI) (l:=placesT t) (i:=j) (by omega);obtain ⟨y,hy,gy⟩:=row_at (f:=dI) (l:=placesT t) (i:=j+1) (by omega);have rs:=rise_step hx hy;simp only [dI] at gx gy;refine Vm.rn xRPrj4 ?_;refine Vm.dw 10 [0,1,2,3,4,5,6,7,8,9] ?_;refine Vm.rn (ai xRPrj4<|ai @gx<|ai @gy (show ((j:Int)+1).toNat=j+1 from by omega)) ?_;refine Vm.sb_dec (fun hb=>?_) (fun hb=>?_)
       ·have hxy:¬ x<y:=by omega
        have hr0:riseB (placesT t)=false:=by rw [← hr,rs,show decide (x<y)=false from decide_eq_false hxy];rfl
        have hz:traE c i=13:=by rw [ob2,if_pos hr0]
        refine Vm.rn xRPrj4 ?_;refine Vm.rm (Vm.s1 xRPrj4 ?_);refine Vm.rn xRPrj4 ?_;refine Vm.rz xRPrj4 ?_;simp [st,hz]
       ·refine Vm.rn xRPrj4 ?_;have hxy:x<y:=by omega
        refine ihj (j+1) _ (by dsimp only;omega) ⟨by omega,?_⟩ ?_
        ·rw [← hr,rs,show decide (x<y)=true from decide_eq_true hxy,Bool.true_and]
        exact Vm.lx (Vm.cl (ai xRPrj4<|ai @Int.natCast_add<|ai @dC.eq_1<|ai @dT.eq_1 @belP_mpN))
      ·have hr1:riseB (placesT t)=true:=by rw [← hr,rise_end (by omega)]
       have ob3:traE c i=fnz (t.acts.map (actE c)):=by rw [ob2,if_neg (by simp [hr1])]
       refine Vm.rn (ai xRPrj4 @dT.eq_1) ?_;refine Vm.sk_loop (fun j:Nat=>t.acts.length - j) (fun j=>⟨[(4,.rptr 5 0),(57,.imm 6 (t.acts.map dA)),(58,.atom (.int .i64 t.acts.length)),(59,.atom (.int .i64 j))],[.cell (dC c),.mp (mpN c.names),.mp (mpN ((namesT c).take (i+1))),.sl 1 ((allP (c.trans.take i)).map dI),.cell (dT t),.cell (dC c),.cell (dT t)],70⟩) (fun j=>j≤t.acts.length∧fnz ((t.acts.map (actE c)).drop j)=traE c i) 0 ?_ ⟨by omega,by rw [ob3];simp⟩ ?_
       ·exact Vm.lx (Vm.cl (ai xRPrj4<|ai @dC.eq_1<|ai @dT.eq_1 @belP_mpN))
       rintro j2 ⟨hj2,hf⟩ ihk;refine Vm.rn xRPrj4 ?_;refine Vm.sb_dec (fun hc2=>?_) (fun hc2=>?_)
       ·obtain ⟨a,ha,ga⟩:=row_at (f:=dA) (l:=t.acts) (i:=j2) (by omega);have sa:=fnz_step (l:=t.acts.map (actE c)) (i:=j2) (e:=actE c a) (by rw [List.getElem?_map,ha];rfl);rw [hf] at sa;simp only [dA,dO] at ga;refine Vm.rn (ai xRPrj4<|ai @ga @dC.eq_1) ?_;refine Vm.cq (ai xRPrj4<|ai @dC.eq_1<|ai @dA.eq_1 @dO.eq_1) (act_v c a) ?_
        by_cases g6:actE c a=0
        ·refine Vm.rn (ai xRPrj4 @g6) ?_;refine ihk (j2+1) _ (by dsimp only;omega) ⟨by omega,?_⟩ ?_
         ·rw [sa,if_pos g6]
         exact Vm.lx (Vm.cl (ai xRPrj4<|ai @Int.natCast_add<|ai @dC.eq_1<|ai @dT.eq_1 @belP_mpN))
        ·have hz:traE c i=actE c a:=by rw [sa,if_neg g6]
         refine Vm.rn (ai xRPrj4 @g6) ?_;refine Vm.rm (Vm.s1 xRPrj4 ?_);refine Vm.rn (ai xRPrj4 @g6) ?_;refine Vm.rz xRPrj4 ?_;simp [st,hz,g6]
       ·have hz:traE c i=0:=by rw [← hf,fnz_end (by simp;omega)]
        have hs2:(allP (c.trans.take i)++placesT t).map dI=(allP (c.trans.take i)).map dI++(placesT t).map dI:=List.map_append;have hs1:=allP_step ht;have hs3:=sumA_step ht;have hpn:prevB c (i+1)=t.b:=by simp only [prevB,ht]
        have hb1:=allP_le (fun t ht=>(f5 t ht).2) i hi;refine Vm.rn xRPrj4 ?_;refine Vm.rm (Vm.s1 xRPrj4 ?_);refine Vm.rn (ai xRPrj4 @dT.eq_1) ?_;refine Vm.cq (ai xRPrj4 @dT.eq_1) (places_v t b2) ?_;refine ih (i+1) _ (by dsimp only;omega) ⟨by omega,by rw [hpn];omega,?_,?_⟩ ?_
        ·rw [hs1,hs3,List.length_append,hpl];omega
        ·rw [st,if_pos hz]
        exact Vm.lx (Vm.cl (ai xRPrj4<|ai @Int.natCast_add<|ai @dC.eq_1<|ai @hs1<|ai @hs2<|ai @hpl<|ai @hpn @belP_mpN))
     ·have g3':¬ t.at_.length=t.acts.length:=by omega
      have hz:traE c i=2:=by rw [ob];simp [g1,g2,g3']
      refine Vm.rn (ai xRPrj4<|ai @key_str<|ai @unit_v<|ai @find_mpN<|ai @g2 (set_new (d':=.rptr 7 0) g2)) ?_;refine Vm.rm (Vm.s1 xRPrj4 ?_);refine Vm.rn (ai xRPrj4 @g3) ?_;refine Vm.rm (Vm.s1 xRPrj4 ?_);refine Vm.rn xRPrj4 ?_;refine Vm.rz xRPrj4 ?_;simp [st,hz]
    ·have hz:traE c i=7:=by rw [ob];simp [g1]
     refine Vm.rn (ai xRPrj4 @g1) ?_;refine Vm.rm (Vm.s1 xRPrj4 ?_);refine Vm.rn xRPrj4 ?_;refine Vm.rz xRPrj4 ?_;simp [st,hz]
   ·have hi2:i=c.trans.length:=by omega
    subst hi2;rw [fnz_end (by simp)] at he;rw [List.take_length] at hal;have hle:=allP_le (fun t ht=>(f5 t ht).2) c.trans.length (Nat.le_refl _);rw [List.take_length] at hle;rw [← he,List.take_length];refine Vm.rn xRPrj4 ?_;refine Vm.call_mut (R:=?vR1) ?vh1 ?vk1
    case vh1=>refine Vm.sort_v (k:=3) (xs:=allP c.trans) ?_ ?_ (by omega) <;> rfl
    rintro d so' ⟨rfl,rfl⟩;refine Vm.rn xRPrj4 ?_;have hsl:(Vm.sortedI (allP c.trans)).length=(allP c.trans).length:=List.length_mergeSort _;have hds:=dd_sorted (allP c.trans);refine Vm.call_mut (R:=?vR2) ?vh2 ?vk2
    case vh2=>refine compact2 (k:=3) (m:=(allP c.trans).length) (xs:=Vm.sortedI (allP c.trans)) ?_ ?_ hsl (by omega) <;> rfl
    rintro d so' ⟨rfl,rfl⟩
    by_cases hn:(allP c.trans).Nodup
    ·have hq:((dd (Vm.sortedI (allP c.trans))).length:Int)=c.trans.length * 2+sumA c.trans:=by
      have:=hds.2 hn;omega
     refine Vm.rn (ai xRPrj4 @hq) ?_;refine Vm.rz xRPrj4 ?_;simp [hn]
    ·have hq:¬ ((dd (Vm.sortedI (allP c.trans))).length:Int)=c.trans.length * 2+sumA c.trans:=by
      intro h;exact hn (hds.1 (by omega))
     refine Vm.rn (ai xRPrj4 @hq) ?_;refine Vm.rz xRPrj4 ?_;simp [hn]
 ·refine Vm.rn (ai xRPrj4<|ai @h1<|ai @h2 @h3) ?_;refine Vm.rn (ai xRPrj4 @h4) ?_;refine Vm.rz xRPrj4 ?_;rw [checkC,if_neg (by omega),if_pos (by omega)]
end Go.Proofs.YtphjohoipocpnaaGreat.W
