import Derived.Test.YtphjohoipocpnaaGreatVmD
import Derived.Test.YtphjohoipocpnaaGreatRkF
set_option linter.unusedSimpArgs false
set_option linter.unusedVariables false
set_option maxRecDepth 8000
/- All operations of transactions in an order, one behind the other. No conditions. -/
namespace Go.Proofs.YtphjohoipocpnaaGreat.W
open Go.Am
set_option linter.defProp false in
def xRActs:=ai @nlR_dI<|ai @Vm.nlR_append @nlR_dF
def t0:Tra:=⟨[],0,0,[],[]⟩
def actsOf (ts:List Tra) (order:List Int):List (Int×Act):=order.flatMap fun i=>(ts.getD i.toNat t0).acts.map fun a=>(i,a)
theorem drop_cons {α:Type} {l:List α} {i:Nat} {x:α} {r:List α} (h:l.drop i=x::r):l[i]?=some x∧l.drop (i+1)=r∧i<l.length:=by
 have h1:=List.getElem?_drop (xs:=l) (i:=i) (j:=0);rw [h] at h1;refine ⟨h1.symm,by rw [← List.drop_drop,h];rfl,?_⟩;have:=congrArg List.length h;rw [List.length_drop,List.length_cons] at this;omega
theorem acts1_v (ts:List Tra) (order:List Int) (hts:ts.length<1000000000) (ho:order.length<1000000000) (hin:∀ i,i∈order→0≤i∧i<ts.length) (ha:∀ t,t∈ts→t.acts.length<1000000000) :
  Vm.VGC T 60 [.iptr [.imm 1 (order.map dI)] 0,.iptr [.imm 5 (ts.map dT)] 0] [] ((actsOf ts order).map dIA):=by
 intro L K E hK hE hY;show Vm.VM T 60 [.atom (.func (.yield L) [] []),.iptr [.imm 1 (order.map dI)] 0,.iptr [.imm 5 (ts.map dT)] 0] [.ghost (K 0)] _;refine Vm.vm (T:=T) Tryz.func60 fun g hG0 hU=>?_;simp only [Tryz.f60,Vm.aC,Vm.aN,Nat.reduceAdd];refine Vm.rn xRActs ?_;have hfl:actsOf ts (order.drop 0)=actsOf ts order:=rfl
 refine Vm.sk_loop (fun q:Nat×Nat=>order.length - q.1) (fun q=>⟨[(0,.atom (.func (.yield L) [] [])),(2,.iptr [.imm 5 (ts.map dT)] 0),(8,.imm 1 (order.map dI)),(9,.atom (.int .i64 order.length)),(10,.atom (.int .i64 q.1))],[.ghost (K q.2)],31⟩)
  (fun q=>q.1≤order.length∧q.2≤(actsOf ts order).length∧(actsOf ts order).drop q.2=actsOf ts (order.drop q.1)) (0,0) ?_ ⟨Nat.zero_le _,Nat.zero_le _,rfl⟩ ?_
 ·exact Vm.lx (Vm.cl xRActs)
 rintro ⟨k,c⟩ ⟨h1,h2,h3⟩ ih;dsimp only at h1 h2 h3;refine Vm.rn xRActs ?_;refine Vm.sb_dec (fun hlt=>?_) (fun hge=>?_)
 ·obtain ⟨i,hi,hid⟩:=row_at (f:=dI) (l:=order) (i:=k) (by omega);obtain ⟨hi0,hi1⟩:=hin i (List.mem_of_getElem? hi);obtain ⟨j,rfl⟩:∃ j:Nat,i=j:=⟨i.toNat,by omega⟩
  have hjl:j<ts.length:=by omega
  obtain ⟨t,ht,htd⟩:=row_at (f:=dT) (l:=ts) (i:=j) hjl;have htl:=ha t (List.mem_of_getElem? ht);have hgd:ts.getD ((j:Int)).toNat t0=t:=by rw [Int.toNat_natCast,List.getD_eq_getElem?_getD,ht];rfl
  have h4:(actsOf ts order).drop c=(t.acts.drop 0).map (fun a=>((j:Int),a))++actsOf ts (order.drop (k+1)):=by
   rw [h3,drop_at hi];simp only [actsOf,List.flatMap_cons,hgd,List.drop_zero]
  simp only [dT] at htd;refine Vm.rn (ai xRActs<|ai @hid<|ai @dI.eq_1 @htd) ?_
  refine Vm.sk_loop (fun q:Nat×Nat=>t.acts.length - q.1) (fun q=>⟨[(0,.atom (.func (.yield L) [] [])),(2,.iptr [.imm 5 (ts.map dT)] 0),(8,.imm 1 (order.map dI)),(9,.atom (.int .i64 order.length)),(10,.atom (.int .i64 k)),(5,.atom (.int .i64 j)),(18,.imm 6 (t.acts.map dA)),(19,.atom (.int .i64 t.acts.length)),(20,.atom (.int .i64 q.1))],[.ghost (K q.2)],31⟩)
   (fun q=>q.1≤t.acts.length∧q.2≤(actsOf ts order).length∧(actsOf ts order).drop q.2=(t.acts.drop q.1).map (fun a=>((j:Int),a))++actsOf ts (order.drop (k+1))) (0,c) ?_ ⟨Nat.zero_le _,h2,h4⟩ ?_
  ·exact Vm.lx (Vm.cl xRActs)
  rintro ⟨m,c2⟩ ⟨h5,h6,h7⟩ ih2;dsimp only at h5 h6 h7;refine Vm.rn xRActs ?_;refine Vm.sb_dec (fun hlt2=>?_) (fun hge2=>?_)
  ·obtain ⟨a,hac,had⟩:=row_at (f:=dA) (l:=t.acts) (i:=m) (by omega);rw [drop_at hac,List.map_cons,List.cons_append] at h7;obtain ⟨g1,g2,g3⟩:=drop_cons h7;have hx:((actsOf ts order).map dIA)[c2]?=some (dIA ((j:Int),a)):=by rw [List.getElem?_map,g1];rfl
   simp only [dIA,dA] at hx;simp only [dA] at had;refine Vm.rn (ai xRActs<|ai @had @Vm.overD.eq_1) ?_;refine Vm.round_tick (k:=0) rfl (hY c2 _ hx) (hK _) hE rfl ?_ ?_
   ·refine Vm.rn xRActs ?_;refine ih2 (m+1,c2+1) _ (by dsimp only;omega) ⟨by dsimp only;omega,by dsimp only;omega,g2⟩ ?_;exact Vm.lx (Vm.cl xRActs)
   ·refine Vm.rn xRActs ?_;refine Vm.rm (Vm.s1 xRActs ?_);exact .inr trivial
  ·have:m=t.acts.length:=by omega
   subst this;rw [List.drop_length,List.map_nil,List.nil_append] at h7;refine Vm.rn xRActs ?_;refine ih (k+1,c2) _ (by dsimp only;omega) ⟨by dsimp only;omega,h6,h7⟩ ?_;exact Vm.lx (Vm.cl xRActs)
 ·have:k=order.length:=by omega
  subst this;rw [List.drop_length] at h3
  have h4:c=(actsOf ts order).length:=by
   have:=congrArg List.length h3;rw [List.length_drop] at this;have e:(actsOf ts []).length=0:=rfl;omega
  refine Vm.rn xRActs ?_;refine Vm.rm (Vm.s1 (ai xRActs @List.length_map.{0,0}) ?_);rw [h4];exact .inl rfl
set_option linter.defProp false in
def xRTrans:=ai @prLL_dI<|ai @pr_dF<|ai @prLL_dF<|ai @nlR_dI<|ai @Vm.nlR_append<|ai @nlR_dF @Vm.dl8
theorem rtrans_v (s:List Sta) (t:Tra) (hl:s.length<1000000000) (hn:t.acts.length<1000000000) (hf:FitS s t.acts.length) (hi:∀ a,a∈t.acts→ActI a) :
  Vm.VC T 13 [.imm 3 (s.map dS),.agg (dT t)] fun d=>d=dRep (repN s t.acts 0):=by
 refine Vm.VC.dl ?_;refine Vm.ve (T:=T) Tryz.func13 fun g hB hG0 hU=>?_;simp only [Tryz.f13,Vm.aC,Vm.aN,Nat.reduceAdd];refine Vm.rn (ai xRTrans @dT.eq_1) ?_;refine Vm.cq xRTrans (copySs_v s hl hf.one) ?_
 refine Vm.sk_loop (fun q:Nat×List Sta=>t.acts.length - q.1) (fun q=>⟨[(3,.rptr 0 0),(7,.own 1 s.length),(8,.atom (.int .i64 q.1))],[.cell [.atom (.str t.name),.atom (.int .i64 t.b),.atom (.int .i64 t.c),.imm 6 (t.acts.map dA),.imm 1 (t.at_.map dI)],.sl 3 (q.2.map dF)],35⟩)
  (fun q=>q.1≤t.acts.length∧q.2.length=s.length∧FitS q.2 (t.acts.length - q.1)∧repN q.2 (t.acts.drop q.1) q.1=repN s t.acts 0) (0,s) ?_ ⟨Nat.zero_le _,rfl,hf,rfl⟩ ?_
 ·exact Vm.lx (Vm.cl xRTrans)
 rintro ⟨i,cur⟩ ⟨h1,hcl,hcf,hrep⟩ ih;dsimp only at h1 hcl hcf hrep;have hml:(cur.map dF).length=s.length:=by rw [List.length_map,hcl]
 refine Vm.rn xRTrans ?_;refine Vm.sb_dec (fun hlt=>?_) (fun hge=>?_)
 ·obtain ⟨a,ha,had⟩:=row_at (f:=dA) (l:=t.acts) (i:=i) (by omega);obtain ⟨st1,st2⟩:=repN_step ha hrep;obtain ⟨hi1,hi2⟩:=hi a (List.mem_of_getElem? ha);simp only [dA] at had;refine Vm.rn (ai xRTrans @had) ?_;refine Vm.vw (T:=T) Tryz.func40 fun _ hGi hUi=>?_;simp only [Tryz.f40,Vm.aC,Vm.aN,Nat.reduceAdd]
  by_cases g1:a.o<0
  ·have he:errA cur a=3:=by rw [errA,if_pos (.inl g1)]
   have hr:=st2 (by rw [he];decide);rw [hr,he];refine Vm.rn (ai xRTrans @g1) ?_;refine Vm.rm (Vm.s1 xRTrans ?_);refine Vm.rn xRTrans ?_;exact Vm.rx (Vm.cl (ai xRTrans @dRep.eq_1))
  by_cases g2:(cur.length:Int)≤a.o
  ·have he:errA cur a=3:=by rw [errA,if_pos (.inr g2)]
   have g2':(s.length:Int)≤a.o:=by omega
   have hr:=st2 (by rw [he];decide);rw [hr,he];refine Vm.rn (ai xRTrans<|ai @g1<|ai @g2' @hml) ?_;refine Vm.rm (Vm.s1 xRTrans ?_);refine Vm.rn xRTrans ?_;exact Vm.rx (Vm.cl (ai xRTrans @dRep.eq_1))
  obtain ⟨j,x,hj,hjl,hxj,hrow,hxm,hact,hnext⟩:=act_at g1 g2;have g3:¬ (s.length:Int)≤(j:Int):=by omega
  have g4:(j:Int)<s.length:=by omega
  have g5:¬ (j:Int)<0:=by omega
  have herr:errA cur a=if (appF x a.op.k a.op.a a.op.b).e≠0 then (appF x a.op.k a.op.a a.op.b).e else if (appF x a.op.k a.op.a a.op.b).r≠a.op.r then 9 else 0:=by rw [errA,if_neg (by omega),hact]
  rw [hj]
  (have hh:=ai xRTrans<|ai @g3<|ai @g5 @hml;refine Vm.r1 hh ?_;refine Vm.r1 hh ?_;refine Vm.r1 hh ?_;refine Vm.r1 hh ?_;refine Vm.r1 hh ?_;clear hh)
  refine Vm.sk_promote 1 j 2 ⟨rfl,rfl,rfl⟩ (by exact rfl) hrow rfl ?_;simp only [List.set_cons_zero,List.set_cons_succ,List.length_cons,List.length_nil,List.cons_append,List.nil_append,Nat.reduceAdd,List.length_map]
  have hrow2:((cur.map dF).set j [Vm.D.atom (V.int IntKind.i64 x.t),Vm.D.atom (V.int IntKind.i64 x.n),Vm.D.own 3 x.l.length])[j]?=some [Vm.D.atom (V.int IntKind.i64 x.t),Vm.D.atom (V.int IntKind.i64 x.n),Vm.D.own 3 x.l.length]:=by
   rw [List.getElem?_set_self (by simpa using hjl)]
  have hml2:((cur.map dF).set j [Vm.D.atom (V.int IntKind.i64 x.t),Vm.D.atom (V.int IntKind.i64 x.n),Vm.D.own 3 x.l.length]).length=s.length:=by rw [List.length_set];exact hml
  have hset:∀ q:Ans,(cur.map dF).set j [Vm.D.atom (V.int IntKind.i64 q.s.t),Vm.D.atom (V.int IntKind.i64 q.s.n),Vm.D.fresh 1 (q.s.l.map dI)]=(cur.set j q.s).map dF:=fun q=>by rw [List.map_set];rfl
  have hxl:=hcf.one x hxm;refine Vm.dw 16 [0,1,2,3,4,5,6,7,8,9,12,13,10,11,14,15] ?_;refine Vm.rn (ai xRTrans<|ai @hrow2<|ai @hml2<|ai @g3 @g4) ?_
  (have hh:=ai xRTrans<|ai @dS.eq_1<|ai @dO.eq_1<|ai @dLeg.eq_1<|ai @dF.eq_1<|ai @Am.vt @Vm.overD.eq_1;(first | refine Vm.callQ_eq2 (rlegal_v x a.op hxl hi1 hi2) (Vm.ct hh) (Vm.rt hh ?_) | refine Vm.call_eq2 (rlegal_v x a.op hxl hi1 hi2) (Vm.ct hh) (Vm.rt hh ?_));clear hh)
  generalize appF x a.op.k a.op.a a.op.b=q at herr hnext hact
  by_cases he:q.e=0
  ·by_cases hr:q.r=a.op.r
   ·have e0:errA cur a=0:=by rw [herr,if_neg (by simpa using he),if_neg (by simpa using hr)]
    have hok:okA q a.op.r=true:=by simp [okA,he,hr]
    refine Vm.rn (ai xRTrans<|ai @he<|ai @hok<|ai @hrow2<|ai @hml2<|ai @hml<|ai @g3<|ai @g4 @Vm.overD.eq_1) ?_;refine Vm.rm (Vm.s1 xRTrans ?_);refine Vm.rn xRTrans ?_;refine ih (i+1,cur.set j q.s) _ (by dsimp only;omega) ⟨by dsimp only;omega,by simpa using hcl,?_,?_⟩ ?_
    ·dsimp only;rw [← hnext];refine FitS.next ?_ (by rw [hj];exact hjl)
     rw [show t.acts.length - (i+1)+1=t.acts.length - i by omega];exact hcf
    ·dsimp only;rw [← hnext];exact st1 e0
    exact Vm.lx (Vm.cl (ai xRTrans<|ai @hset @List.set_set.{0}))
   ·have e0:errA cur a=9:=by rw [herr,if_neg (by simpa using he),if_pos hr]
    have hok:okA q a.op.r=false:=by simp [okA,he,hr]
    have hr:=st2 (by rw [e0];decide);rw [hr,e0];refine Vm.rn (ai xRTrans<|ai @he<|ai @hok @Vm.overD.eq_1) ?_;refine Vm.rm (Vm.s1 xRTrans ?_);refine Vm.rn xRTrans ?_;exact Vm.rx (Vm.cl (ai xRTrans @dRep.eq_1))
  ·have e0:errA cur a=q.e:=by rw [herr,if_pos he]
   have hr:=st2 (by rw [e0];exact he);rw [hr,e0];refine Vm.rn (ai xRTrans<|ai @he @Vm.overD.eq_1) ?_;refine Vm.rm (Vm.s1 xRTrans ?_);refine Vm.rn (ai xRTrans @he) ?_;exact Vm.rx (Vm.cl (ai xRTrans @dRep.eq_1))
 ·have:i=t.acts.length:=by omega
  subst this;rw [repN_end hrep];refine Vm.rn xRTrans ?_;refine Vm.dw 7 [0,1,2,3,4,5,6] ?_;refine Vm.rn xRTrans ?_;refine Vm.rn xRTrans ?_;exact Vm.rx (Vm.cl (ai xRTrans<|ai @dRep.eq_1 @hml))
theorem repN_len:∀ (acs:List Act) (s:List Sta) (n:Nat),(repN s acs n).1.length≤s.length
 | [],s,n=>Nat.le_refl _
 | a::acs,s,n=>by
   simp only [repN];split
   ·have:=repN_len acs (nextA s a) (n+1);rw [next_len] at this;exact this
   ·exact Nat.zero_le _
theorem repN_many:∀ (acs:List Act) (s:List Sta) (n:Nat),(repN s acs n).2.1≤n+acs.length
 | [],s,n=>Nat.le_refl _
 | a::acs,s,n=>by
   simp only [repN];split
   ·have:=repN_many acs (nextA s a) (n+1);rw [List.length_cons];omega
   ·rw [List.length_cons];dsimp only;omega
theorem repN_fit:∀ (acs:List Act) (s:List Sta) (n m:Nat),FitS s (acs.length+m)→FitS (repN s acs n).1 m
 | [],s,n,m,h=>by
   simp only [repN];intro x hx;have:=h x hx;simp only [List.length_nil,Nat.zero_add] at this;exact this
 | a::acs,s,n,m,h=>by
   simp only [repN];split
   ·rename_i he;refine repN_fit acs (nextA s a) (n+1) m (FitS.next ?_ ?_)
    ·rw [List.length_cons] at h;rw [show acs.length+m+1=acs.length+1+m by omega];exact h
    ·unfold errA at he;split at he
     ·cases he
     ·omega
   ·intro x hx;cases hx
set_option linter.defProp false in
def xRKit2:=ai @prLL_dI<|ai @pr_dF<|ai @prLL_dF<|ai @imLL_I<|ai @nlR_dI<|ai @Vm.nlR_append @nlR_dF
theorem imL_dF (x:Sta):Vm.imL (dF x)=dS x:=by simp only [dF,dS,Vm.imL,Vm.D.im,imLL_I]
theorem imLL_dF:∀ xs:List Sta,Vm.imLL (xs.map dF)=xs.map dS
 | []=>rfl
 | x::xs=>by simp only [List.map_cons,Vm.imLL,imLL_dF xs,imL_dF]
theorem imLL_A:∀ xs:List Act,Vm.imLL (xs.map dA)=xs.map dA
 | []=>rfl
 | x::xs=>by simp only [List.map_cons,Vm.imLL,imLL_A xs];rfl
theorem nlR_dA (xs:List Act):Vm.nlR (xs.map dA)=true:=Vm.nlR_map (fun x=>rfl) xs
theorem prLL_dA (xs:List Act):Vm.prLL (xs.map dA)=true:=Vm.prLL_map (fun x=>rfl) xs
def thenO (a b:Option Bool):Option Bool:=
 match a with
 | some true=>b
 | some false=>some false
 | none=>none
theorem thenO_dec (p:Prop) [Decidable p] (q:Prop) [Decidable q]:thenO (some (decide p)) (some (decide q))=some (decide (p∧q)):=by
 by_cases h1:p <;> by_cases h2:q <;> simp [thenO,h1,h2]
theorem eqS_act0 (a b c d e f a' b' c' d' e' f':Int):T.eqS 60 [.int .i64 a,.int .i64 b,.int .i64 c,.int .i64 d,.int .i64 e,.int .i64 f] [.int .i64 a',.int .i64 b',.int .i64 c',.int .i64 d',.int .i64 e',.int .i64 f'] =
  thenO (some (decide (a=a'))) (thenO (thenO (some (decide (b=b'))) (thenO (some (decide (c=c'))) (thenO (some (decide (d=d'))) (thenO (thenO (some (decide (e=e'))) (thenO (some (decide (f=f'))) (some true))) (some true))))) (some true)):=by kernel_rfl
theorem eqS_act (x y:Act):T.eqS 60 [.int .i64 x.o,.int .i64 x.op.k,.int .i64 x.op.a,.int .i64 x.op.b,.int .i64 x.op.r.k,.int .i64 x.op.r.n] [.int .i64 y.o,.int .i64 y.op.k,.int .i64 y.op.a,.int .i64 y.op.b,.int .i64 y.op.r.k,.int .i64 y.op.r.n]=some (decide (x=y)):=by
 have ht:(some true:Option Bool)=some (decide True):=rfl;rw [eqS_act0,ht];simp only [thenO_dec];obtain ⟨a,b,c,d,e,f⟩:=x;obtain ⟨a',b',c',d',e',f'⟩:=y;simp only [Act.mk.injEq,Opr.mk.injEq,Rt.mk.injEq,and_true]
theorem copyT_v (t:Tra) (h1:t.acts.length<1000000000) (h2:t.at_.length<1000000000):Vm.VC T 11 [.agg (dT t)] fun d=>d=.agg [.atom (.str t.name),.atom (.int .i64 t.b),.atom (.int .i64 t.c),.fresh 6 (t.acts.map dA),.fresh 1 (t.at_.map dI)]:=by
 have htk:(t.acts.map dA).take t.acts.length=t.acts.map dA:=List.take_of_length_le (by simp);refine Vm.ve (T:=T) Tryz.func11 fun g hB hG0 hU=>?_;simp only [Tryz.f11,Vm.aC,Vm.aN,Nat.reduceAdd];refine Vm.rn (ai xRKit2<|ai @imLL_dF<|ai @imLL_A<|ai @nlR_dA<|ai @prLL_dA<|ai @dT.eq_1<|ai @Vm.overD.eq_1 @htk) ?_;refine Vm.cq (ai xRKit2<|ai @imLL_dF<|ai @imLL_A<|ai @nlR_dA<|ai @prLL_dA @Vm.overD.eq_1) (copyI_v t.at_ h2) ?_;exact Vm.rx (Vm.cl (ai xRKit2<|ai @imLL_dF<|ai @imLL_A<|ai @nlR_dA @prLL_dA))
theorem sameT_v (s t:Tra) (h1:s.acts.length<1000000000) (h2:s.at_.length<1000000000):Vm.VC T 16 [.agg (dT s),.agg (dT t)] fun d=>d=.atom (.bool (decide (s=t))):=by
 refine Vm.ve (T:=T) Tryz.func16 fun g hB hG0 hU=>?_;simp only [Tryz.f16,Vm.aC,Vm.aN,Nat.reduceAdd];obtain ⟨n,b,c,xs,l⟩:=s;obtain ⟨n',b',c',ys,l'⟩:=t;dsimp only at h1 h2;simp only [Tra.mk.injEq]
 by_cases e1:n=n'
 ·subst e1
  by_cases e2:b=b'
  ·by_cases e3:c=c'
   ·by_cases e4:(xs.length:Int)=ys.length
    ·refine Vm.rn (ai xRKit2<|ai @imLL_dF<|ai @imLL_A<|ai @nlR_dA<|ai @prLL_dA<|ai @dT.eq_1<|ai @e2<|ai @e3 @e4) ?_;refine Vm.cq (ai xRKit2<|ai @imLL_dF<|ai @imLL_A<|ai @nlR_dA<|ai @prLL_dA<|ai @dT.eq_1<|ai @e2<|ai @e3 @e4) (sameI_v l l' h2) ?_;refine Vm.sb_dec (fun e5=>?_) (fun e5=>?_)
     ·refine Vm.rn (ai xRKit2<|ai @imLL_dF<|ai @imLL_A<|ai @nlR_dA @prLL_dA) ?_;refine Vm.rz (ai xRKit2<|ai @imLL_dF<|ai @imLL_A<|ai @nlR_dA @prLL_dA) ?_;simp only [e5,and_false,decide_false]
     ·have e5':l=l':=by simpa using e5
      have hle2:xs.length=ys.length:=by omega
      refine Vm.rn (ai xRKit2<|ai @imLL_dF<|ai @imLL_A<|ai @nlR_dA<|ai @prLL_dA @e4) ?_;refine Vm.sk_loop (fun i:Nat=>xs.length - i) (fun i=>⟨[(2,.rptr 0 0),(3,.rptr 1 0),(5,.atom (.int .i64 i))],[.cell [.atom (.str n),.atom (.int .i64 b'),.atom (.int .i64 c'),.imm 6 (xs.map dA),.imm 1 (l.map dI)],.cell [.atom (.str n),.atom (.int .i64 b'),.atom (.int .i64 c'),.imm 6 (ys.map dA),.imm 1 (l'.map dI)]],60⟩) (fun i=>i≤xs.length∧xs.take i=ys.take i) 0 ?_ ⟨by omega,by simp⟩ ?_
      ·exact Vm.lx (Vm.cl (ai xRKit2<|ai @imLL_dF<|ai @imLL_A<|ai @nlR_dA @prLL_dA))
      rintro i ⟨hi,he⟩ ih;refine Vm.rn (ai xRKit2<|ai @imLL_dF<|ai @imLL_A<|ai @nlR_dA<|ai @prLL_dA @e4) ?_;refine Vm.sb_dec (fun hc=>?_) (fun hc=>?_)
      ·obtain ⟨x,hx,g1⟩:=row_at (f:=dA) (l:=xs) (i:=i) (by omega);obtain ⟨y,hy,g2⟩:=row_at (f:=dA) (l:=ys) (i:=i) (by omega);obtain ⟨s1,s2⟩:=same_step hx hy he;simp only [dA] at g1 g2;refine Vm.rn (ai xRKit2<|ai @imLL_dF<|ai @imLL_A<|ai @nlR_dA @prLL_dA) ?_;refine Vm.dw 11 [0,1,2,3,4,5,6,7,8,9,10] ?_;refine Vm.rn (ai xRKit2<|ai @imLL_dF<|ai @imLL_A<|ai @nlR_dA<|ai @prLL_dA<|ai @g1<|ai @g2 @eqS_act) ?_;refine Vm.rn (ai xRKit2<|ai @imLL_dF<|ai @imLL_A<|ai @nlR_dA @prLL_dA) ?_;refine Vm.sb_dec (fun hb=>?_) (fun hb=>?_)
       ·refine Vm.rn (ai xRKit2<|ai @imLL_dF<|ai @imLL_A<|ai @nlR_dA @prLL_dA) ?_;refine Vm.rz (ai xRKit2<|ai @imLL_dF<|ai @imLL_A<|ai @nlR_dA @prLL_dA) ?_;simp [s2 hb]
       ·refine Vm.rn (ai xRKit2<|ai @imLL_dF<|ai @imLL_A<|ai @nlR_dA @prLL_dA) ?_;refine ih (i+1) _ (by dsimp only;omega) ⟨by omega,s1 (by simpa using hb)⟩ ?_;exact Vm.lx (Vm.cl (ai xRKit2<|ai @imLL_dF<|ai @imLL_A<|ai @nlR_dA @prLL_dA))
      ·refine Vm.rn (ai xRKit2<|ai @imLL_dF<|ai @imLL_A<|ai @nlR_dA @prLL_dA) ?_;refine Vm.rz (ai xRKit2<|ai @imLL_dF<|ai @imLL_A<|ai @nlR_dA @prLL_dA) ?_;simp [same_end hle2 (by omega) he,e2,e3,e5']
    ·refine Vm.rn (ai xRKit2<|ai @imLL_dF<|ai @imLL_A<|ai @nlR_dA<|ai @prLL_dA<|ai @dT.eq_1<|ai @e2<|ai @e3 @e4) ?_;refine Vm.rz (ai xRKit2<|ai @imLL_dF<|ai @imLL_A<|ai @nlR_dA @prLL_dA) ?_;have:¬ xs=ys:=fun e=>e4 (by rw [e]);simp [this]
   ·refine Vm.rn (ai xRKit2<|ai @imLL_dF<|ai @imLL_A<|ai @nlR_dA<|ai @prLL_dA<|ai @dT.eq_1<|ai @e2 @e3) ?_;exact Vm.rx (Vm.cl (ai xRKit2<|ai @imLL_dF<|ai @imLL_A<|ai @nlR_dA<|ai @prLL_dA @e3))
  ·refine Vm.rn (ai xRKit2<|ai @imLL_dF<|ai @imLL_A<|ai @nlR_dA<|ai @prLL_dA<|ai @dT.eq_1 @e2) ?_;exact Vm.rx (Vm.cl (ai xRKit2<|ai @imLL_dF<|ai @imLL_A<|ai @nlR_dA<|ai @prLL_dA @e2))
 ·refine Vm.rn (ai xRKit2<|ai @imLL_dF<|ai @imLL_A<|ai @nlR_dA<|ai @prLL_dA<|ai @dT.eq_1 @e1) ?_;exact Vm.rx (Vm.cl (ai xRKit2<|ai @imLL_dF<|ai @imLL_A<|ai @nlR_dA<|ai @prLL_dA @e1))
theorem awake_v:Vm.VC T 9 [] fun d=>d=.atom (.bool true):=
 Vm.vc_am fun P H vs wf r=>by
  obtain ⟨rfl,_⟩:=r.nil_inv;exact (Vm.prim_to (p:=closedTrue) (R:=fun r H'=>r=.bool true∧H'=H) rfl rfl ⟨rfl,rfl⟩).mono fun v H' ⟨h1,h2⟩=>⟨⟨_,[],rfl,h1 ▸ .atom .nil,by simp,by simp⟩,by subst h2;exact Ext.refl wf⟩
end Go.Proofs.YtphjohoipocpnaaGreat.W
