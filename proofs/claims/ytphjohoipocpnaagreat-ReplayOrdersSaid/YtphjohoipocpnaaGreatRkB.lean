import Derived.Test.YtphjohoipocpnaaGreatVmD
import Derived.Test.YtphjohoipocpnaaGreatRkA
set_option linter.unusedSimpArgs false
set_option linter.unusedVariables false
set_option maxRecDepth 8000
/- Whether a state is in its form, both answers. No conditions. -/
namespace Go.Proofs.YtphjohoipocpnaaGreat.W
open Go.Am
theorem rises_v (l:List Int) (k:Nat) (hk:1≤k) (hk2:k≤2) (hl:l.length<1000000000):Vm.VC T 122 [.imm 1 (l.map dI),.atom (.int .i64 k)] fun d=>d=.atom (.bool (risesB l k)):=by
 refine Vm.ve (T:=T) Tryz.func122 fun g hB hG0 hU=>?_;simp only [Tryz.f122,Vm.aC,Vm.aN,Nat.reduceAdd];refine Vm.rn True.intro ?_;refine Vm.sk_loop (fun i:Nat=>l.length+2 - i) (fun i=>⟨[(5,.atom (.int .i64 i)),(4,.atom (.bool false)),(0,.imm 1 (l.map dI)),(1,.atom (.int .i64 k))],[],25⟩) (fun i=>k≤i∧i<l.length+2+k∧∃ j,i=(j+1) * k∧∀ m,m<j→l.getD (m * k) 0<l.getD ((m+1) * k) 0) k ?_ ⟨by omega,by omega,0,by omega,fun m h=>by omega⟩ ?_
 ·exact Vm.lx (Vm.cl True.intro)
 rintro i ⟨h1,h2,j,hj,hm⟩ ih;refine Vm.rn True.intro ?_;refine Vm.sb_dec (fun hlt=>?_) (fun hge=>?_)
 ·have hlt':i<l.length:=by omega
  have hx:=dI_get hlt';have hy:=dI_get (l:=l) (i:=i - k) (by omega);obtain ⟨q1,q2⟩:=rises_step hk hj hm hlt';refine Vm.rn True.intro ?_;refine Vm.dw 11 [0,1,2,3,4,5,6,7,8,9,10] ?_;refine Vm.rn (ai @hx<|ai @hy<|ai @dI.eq_1 @Int.toNat_sub) ?_;refine Vm.sb_dec (fun hle=>?_) (fun hgt=>?_)
  ·refine Vm.rn True.intro ?_;refine Vm.rz True.intro ?_;rw [q1 hle]
  ·refine Vm.rn True.intro ?_;refine ih (i+k) _ (by dsimp only;omega) ⟨by omega,by omega,j+1,by rw [hj,Nat.add_mul (j+1)];omega,q2 hgt⟩ ?_;exact Vm.lx (Vm.cl True.intro)
 ·refine Vm.rn True.intro ?_;refine Vm.rz True.intro ?_;rw [rises_end hk hj hm (by omega)]
theorem fset_v (s:Sta) (hl:s.l.length<1000000000):Vm.VC T 131 [.agg (dS s)] fun d=>d=.atom (.bool (setB s)):=by
 refine Vm.ve (T:=T) Tryz.func131 fun g hB hG0 hU=>?_;simp only [Tryz.f131,Vm.aC,Vm.aN,Nat.reduceAdd]
 by_cases h:s.n=0
 ·refine Vm.rn (ai @dS.eq_1 @h) ?_;refine Vm.cq (ai @dS.eq_1 @h) (frises_v s 1 (by omega) (by omega) hl) ?_;exact Vm.rx (Vm.cl (ai @setB.eq_1 @h))
 ·refine Vm.rn (ai @dS.eq_1 @h) ?_;exact Vm.rx (Vm.cl (ai @setB.eq_1 @h))
theorem fpairs_v (s:Sta) (hl:s.l.length<1000000000):Vm.VC T 132 [.agg (dS s)] fun d=>d=.atom (.bool (pairsB s)):=by
 refine Vm.ve (T:=T) Tryz.func132 fun g hB hG0 hU=>?_;simp only [Tryz.f132,Vm.aC,Vm.aN,Nat.reduceAdd]
 by_cases h:s.n=0
 ·have e:(s.l.length:Int).tmod 2=((s.l.length % 2:Nat):Int):=rfl
  by_cases h2:s.l.length % 2=0
  ·refine Vm.rn (ai @dS.eq_1<|ai @h<|ai @e @h2) ?_;refine Vm.cq (ai @dS.eq_1 @h) (frises_v s 2 (by omega) (by omega) hl) ?_;exact Vm.rx (Vm.cl (ai @pairsB.eq_1<|ai @h @h2))
  ·have h3:¬ ((s.l.length % 2:Nat):Int)=0:=by omega
   refine Vm.rn (ai @dS.eq_1<|ai @h<|ai @e<|ai @h2 @h3) ?_;exact Vm.rx (Vm.cl (ai @pairsB.eq_1<|ai @h @h2))
 ·refine Vm.rn (ai @dS.eq_1 @h) ?_;exact Vm.rx (Vm.cl (ai @pairsB.eq_1 @h))
theorem flist_v (s:Sta):Vm.VC T 133 [.agg (dS s)] fun d=>d=.atom (.bool (listB s)):=by
 refine Vm.ve (T:=T) Tryz.func133 fun g hB hG0 hU=>?_;simp only [Tryz.f133,Vm.aC,Vm.aN,Nat.reduceAdd];refine Vm.rn @dS.eq_1 ?_;exact Vm.rx (Vm.cl @listB.eq_1)
theorem fmoney_v (s:Sta):Vm.VC T 134 [.agg (dS s)] fun d=>d=.atom (.bool (moneyB s)):=by
 refine Vm.ve (T:=T) Tryz.func134 fun g hB hG0 hU=>?_;simp only [Tryz.f134,Vm.aC,Vm.aN,Nat.reduceAdd];refine Vm.rn @dS.eq_1 ?_
 by_cases h:s.l=[]
 ·by_cases h2:0≤s.n
  ·refine Vm.cq (ai @dS.eq_1<|ai @aloneB.eq_1<|ai @h @h2) (alone_v s) ?_;exact Vm.rx (Vm.cl (ai @moneyB.eq_1<|ai @h @h2))
  ·refine Vm.cq (ai @dS.eq_1<|ai @aloneB.eq_1<|ai @h @h2) (alone_v s) ?_;exact Vm.rx (Vm.cl (ai @moneyB.eq_1<|ai @h @h2))
 ·refine Vm.cq (ai @dS.eq_1<|ai @aloneB.eq_1 @h) (alone_v s) ?_;exact Vm.rx (Vm.cl (ai @moneyB.eq_1 @h))
theorem check_v (s:Sta) (hl:s.l.length<1000000000):Vm.VC T 75 [.agg (dS s)] fun d=>d=.atom (.int .i64 (checkS s)):=by
 refine Vm.ve (T:=T) Tryz.func75 fun g hB hG0 hU=>?_;simp only [Tryz.f75,Vm.aC,Vm.aN,Nat.reduceAdd];refine Vm.rn @dS.eq_1 ?_;refine Vm.cq True.intro (typed_v s.t) ?_;refine Vm.sb_dec (fun h=>?_) (fun h=>?_)
 ·refine Vm.rn True.intro ?_;exact Vm.rx (Vm.cl (ai @checkS.eq_1 @h))
 ·refine Vm.rn True.intro ?_;refine Vm.fy 0 True.intro ?_;refine Vm.dv 10 [0,1,2,3,4,5,6,7,8,9] [0,0,2,6,15,31,0,127,255,511] ?_;refine Vm.rt True.intro ?_
  (have hh:=ai @kindsD.eq_1 @kindD.eq_1;(first | refine Vm.callQ_eq2 (kinds_v) (Vm.ct hh) (Vm.rt hh ?_) | refine Vm.call_eq2 (kinds_v) (Vm.ct hh) (Vm.rt hh ?_));clear hh)
  obtain ⟨t,n,l⟩:=s;have h5:t=1∨t=2∨t=3∨t=4∨t=5:=by dsimp only at h;omega
  rcases h5 with rfl | rfl | rfl | rfl | rfl
  ·refine Vm.rt True.intro ?_
   (have hh:=ai @dS.eq_1 @Am.vt;(first | refine Vm.callQ_eq2 (alone_v ⟨1,n,l⟩) (Vm.ct hh) (Vm.rt hh ?_) | refine Vm.call_eq2 (alone_v ⟨1,n,l⟩) (Vm.ct hh) (Vm.rt hh ?_));clear hh)
   refine Vm.sb_bool (fun h1=>?_) (fun h1=>?_)
   ·refine Vm.rn True.intro ?_;refine Vm.rz (ai @checkS.eq_1 @h) ?_;simp at h1;simp [formB,h1]
   ·refine Vm.rn True.intro ?_;refine Vm.rz (ai @checkS.eq_1 @h) ?_;simp at h1;simp [formB,h1]
  ·refine Vm.rt True.intro ?_
   (have hh:=ai @dS.eq_1 @Am.vt;(first | refine Vm.callQ_eq2 (fset_v ⟨2,n,l⟩ hl) (Vm.ct hh) (Vm.rt hh ?_) | refine Vm.call_eq2 (fset_v ⟨2,n,l⟩ hl) (Vm.ct hh) (Vm.rt hh ?_));clear hh)
   refine Vm.sb_bool (fun h1=>?_) (fun h1=>?_)
   ·refine Vm.rn True.intro ?_;refine Vm.rz (ai @checkS.eq_1 @h) ?_;simp at h1;simp [formB,h1]
   ·refine Vm.rn True.intro ?_;refine Vm.rz (ai @checkS.eq_1 @h) ?_;simp at h1;simp [formB,h1]
  ·refine Vm.rt True.intro ?_
   (have hh:=ai @dS.eq_1 @Am.vt;(first | refine Vm.callQ_eq2 (fpairs_v ⟨3,n,l⟩ hl) (Vm.ct hh) (Vm.rt hh ?_) | refine Vm.call_eq2 (fpairs_v ⟨3,n,l⟩ hl) (Vm.ct hh) (Vm.rt hh ?_));clear hh)
   refine Vm.sb_bool (fun h1=>?_) (fun h1=>?_)
   ·refine Vm.rn True.intro ?_;refine Vm.rz (ai @checkS.eq_1 @h) ?_;simp at h1;simp [formB,h1]
   ·refine Vm.rn True.intro ?_;refine Vm.rz (ai @checkS.eq_1 @h) ?_;simp at h1;simp [formB,h1]
  ·refine Vm.rt True.intro ?_
   (have hh:=ai @dS.eq_1 @Am.vt;(first | refine Vm.callQ_eq2 (flist_v ⟨4,n,l⟩) (Vm.ct hh) (Vm.rt hh ?_) | refine Vm.call_eq2 (flist_v ⟨4,n,l⟩) (Vm.ct hh) (Vm.rt hh ?_));clear hh)
   refine Vm.sb_bool (fun h1=>?_) (fun h1=>?_)
   ·refine Vm.rn True.intro ?_;refine Vm.rz (ai @checkS.eq_1 @h) ?_;simp at h1;simp [formB,h1]
   ·refine Vm.rn True.intro ?_;refine Vm.rz (ai @checkS.eq_1 @h) ?_;simp at h1;simp [formB,h1]
  ·refine Vm.rt True.intro ?_
   (have hh:=ai @dS.eq_1 @Am.vt;(first | refine Vm.callQ_eq2 (fmoney_v ⟨5,n,l⟩) (Vm.ct hh) (Vm.rt hh ?_) | refine Vm.call_eq2 (fmoney_v ⟨5,n,l⟩) (Vm.ct hh) (Vm.rt hh ?_));clear hh)
   refine Vm.sb_bool (fun h1=>?_) (fun h1=>?_)
   ·refine Vm.rn True.intro ?_;refine Vm.rz (ai @checkS.eq_1 @h) ?_;simp at h1;simp [formB,h1]
   ·refine Vm.rn True.intro ?_;refine Vm.rz (ai @checkS.eq_1 @h) ?_;simp at h1;simp [formB,h1]
theorem refCheck_v (s:Sta) (hl:s.l.length<1000000000):Vm.VC T 83 [.agg (dS s)] fun d=>d=.atom (.int .i64 (checkS s)):=by
 refine Vm.ve (T:=T) Tryz.func83 fun g hB hG0 hU=>?_;simp only [Tryz.f83,Vm.aC,Vm.aN,Nat.reduceAdd];obtain ⟨t,n,l⟩:=s;dsimp only at hl
 by_cases h1:t<1
 ·refine Vm.rn (ai @dS.eq_1 @h1) ?_;refine Vm.rz (ai @checkS.eq_1 @h1) ?_;rw [if_neg (by omega)]
 by_cases h2:5<t
 ·refine Vm.rn (ai @dS.eq_1<|ai @h1 @h2) ?_;refine Vm.rz (ai @checkS.eq_1 @h1) ?_;rw [if_neg (by omega)]
 have h5:t=1∨t=2∨t=3∨t=4∨t=5:=by omega
 rcases h5 with rfl | rfl | rfl | rfl | rfl
 ·refine Vm.rn (ai @dS.eq_1 @len0) ?_;refine Vm.sb_dec (fun h3=>?_) (fun h3=>?_)
  ·refine Vm.rn True.intro ?_;refine Vm.rz True.intro ?_;simp [checkS,formB,aloneB,h3]
  ·refine Vm.rn True.intro ?_;refine Vm.rz True.intro ?_;simp [checkS,formB,aloneB,h3]
 ·by_cases h3:n=0
  ·refine Vm.rn (ai @dS.eq_1 @h3) ?_;refine Vm.cq (ai @dS.eq_1 @h3) (rises_v l 1 (by omega) (by omega) hl) ?_;refine Vm.sb_bool (fun h4=>?_) (fun h4=>?_)
   ·refine Vm.rn True.intro ?_;refine Vm.rz True.intro ?_;simp at h4;simp [checkS,formB,setB,h3,h4]
   ·refine Vm.rn True.intro ?_;refine Vm.rz True.intro ?_;simp at h4;simp [checkS,formB,setB,h3,h4]
  ·refine Vm.rn (ai @dS.eq_1 @h3) ?_;refine Vm.rz True.intro ?_;simp [checkS,formB,setB,h3]
 ·by_cases h3:n=0
  ·have e:(l.length:Int).tmod 2=((l.length % 2:Nat):Int):=rfl
   by_cases h6:l.length % 2=0
   ·refine Vm.rn (ai @dS.eq_1<|ai @h3<|ai @e @h6) ?_;refine Vm.cq (ai @dS.eq_1 @h3) (rises_v l 2 (by omega) (by omega) hl) ?_;refine Vm.sb_bool (fun h4=>?_) (fun h4=>?_)
    ·refine Vm.rn True.intro ?_;refine Vm.rz True.intro ?_;simp at h4;simp [checkS,formB,pairsB,h3,h4,h6]
    ·refine Vm.rn True.intro ?_;refine Vm.rz True.intro ?_;simp at h4;simp [checkS,formB,pairsB,h3,h4,h6]
   ·have h7:¬ ((l.length % 2:Nat):Int)=0:=by omega
    refine Vm.rn (ai @dS.eq_1<|ai @h3<|ai @e<|ai @h6 @h7) ?_;refine Vm.rz True.intro ?_;simp [checkS,formB,pairsB,h3,h6]
  ·refine Vm.rn (ai @dS.eq_1 @h3) ?_;refine Vm.rz True.intro ?_;simp [checkS,formB,pairsB,h3]
 ·by_cases h3:n=0
  ·refine Vm.rn (ai @dS.eq_1 @h3) ?_;refine Vm.rz True.intro ?_;simp [checkS,formB,listB,h3]
  ·refine Vm.rn (ai @dS.eq_1 @h3) ?_;refine Vm.rz True.intro ?_;simp [checkS,formB,listB,h3]
 ·by_cases h3:l=[]
  ·by_cases h4:0≤n
   ·by_cases h6:n≤4611686018427387904
    ·refine Vm.rn (ai @dS.eq_1<|ai @len0<|ai @h3<|ai @h4 @h6) ?_;refine Vm.rz True.intro ?_;simp [checkS,formB,moneyB,h3,h4,h6]
    ·refine Vm.rn (ai @dS.eq_1<|ai @len0<|ai @h3<|ai @h4 @h6) ?_;refine Vm.rz True.intro ?_;simp [checkS,formB,moneyB,h3,h4,h6]
   ·refine Vm.rn (ai @dS.eq_1<|ai @len0<|ai @h3 @h4) ?_;refine Vm.rz True.intro ?_;simp [checkS,formB,moneyB,h3,h4]
  ·refine Vm.rn (ai @dS.eq_1<|ai @len0 @h3) ?_;refine Vm.rz True.intro ?_;simp [checkS,formB,moneyB,h3]
set_option linter.defProp false in
def xRCnt:=@Vm.dl8
def I64 (n:Int):Prop:=-9223372036854775808≤n∧n≤9223372036854775807
theorem orI_0 {a b:Int} (ha:I64 a) (hb:I64 b):(Vm.orI .i64 b a=0)=(b=0∧a=0):=by
 have h0:∀ x:BitVec 64,IntKind.i64.wrap (x.toNat:Int)=0↔x=0#64:=by
  intro x;have hx:=x.isLt;constructor
  ·intro h;apply BitVec.eq_of_toNat_eq;unfold IntKind.wrap at h;simp only [IntKind.bits,IntKind.signed,Bool.true_and,decide_eq_true_eq] at h;simp only [BitVec.toNat_ofNat];split at h <;> omega
  ·rintro rfl;decide
 have hz:∀ n:Int,I64 n→(BitVec.ofInt 64 n=0#64↔n=0):=by
  intro n hn;constructor
  ·intro h;have:=congrArg BitVec.toInt h;rw [BitVec.toInt_ofInt] at this;rw [Int.bmod_eq_of_le (by have:=hn.1;omega) (by have:=hn.2;omega)] at this;simpa using this
  ·rintro rfl;decide
 rw [eq_iff_iff];show IntKind.i64.wrap ((BitVec.ofInt 64 b ||| BitVec.ofInt 64 a).toNat:Int)=0↔_;rw [h0,← hz b hb,← hz a ha];constructor
 ·intro h;constructor
  ·ext i hi;have:=congrArg (fun v:BitVec 64=>v.getLsbD i) h;simp at this;simpa [BitVec.getLsbD_eq_getElem hi] using this.1
  ·ext i hi;have:=congrArg (fun v:BitVec 64=>v.getLsbD i) h;simp at this;simpa [BitVec.getLsbD_eq_getElem hi] using this.2
 ·rintro ⟨e1,e2⟩;rw [e1,e2];rfl
noncomputable def appC (s:Sta) (k a b:Int):Ans:=
 if s.t≠1∨checkS s≠0 then bad 12 else if k≠1∧k≠2 then bad 6 else if b≠0∨(k=2∧a≠0) then bad 2 else if k=1 then ⟨⟨1,wr (s.n+a),[]⟩,r0,0⟩ else ⟨⟨1,s.n,[]⟩,⟨2,s.n⟩,0⟩
theorem read_v (x n:Int):Vm.VC T 170 [.atom (.int .i64 x),.atom (.int .i64 n)] fun d=>d=.tuple [.atom (.int .i64 x),.agg (dR ⟨2,x⟩)]:=by
 refine Vm.ve (T:=T) Tryz.func170 fun g hB hG0 hU=>?_;simp only [Tryz.f170,Vm.aC,Vm.aN,Nat.reduceAdd];refine Vm.rn (ai xRCnt @Vm.overD.eq_1) ?_;exact Vm.rx (Vm.cl (ai xRCnt @dR.eq_1))
theorem add_v (x n:Int):Vm.VC T 171 [.atom (.int .i64 x),.atom (.int .i64 n)] fun d=>d=.tuple [.atom (.int .i64 (wr (x+n))),.agg (dR r0)]:=by
 refine Vm.ve (T:=T) Tryz.func171 fun g hB hG0 hU=>?_;simp only [Tryz.f171,Vm.aC,Vm.aN,Nat.reduceAdd];refine Vm.rn (ai xRCnt @Vm.overD.eq_1) ?_;refine Vm.cq (ai xRCnt @Vm.overD.eq_1) (wrap_v x n) ?_;exact Vm.rx (Vm.cl (ai xRCnt<|ai @dR.eq_1 @r0.eq_1))
theorem cnt_v (s:Sta) (k a b:Int) (hl:s.l.length<1000000000) (ha:I64 a) (hb:I64 b):Vm.VC T 160 [.agg (dS s),.atom (.int .i64 k),.atom (.int .i64 a),.atom (.int .i64 b)] fun d=>d=dAns (appC s k a b):=by
 refine Vm.VC.dl ?_;refine Vm.ve (T:=T) Tryz.func160 fun g hB hG0 hU=>?_;simp only [Tryz.f160,Vm.aC,Vm.aN,Nat.reduceAdd];obtain ⟨t,n,l⟩:=s
 by_cases h1:t=1
 ·subst h1;refine Vm.rn (ai xRCnt @dS.eq_1) ?_;refine Vm.cq (ai xRCnt @dS.eq_1) (check_v ⟨1,n,l⟩ hl) ?_;refine Vm.sb_dec (fun h2=>?_) (fun h2=>?_)
  ·refine Vm.rn (ai xRCnt @Vm.overD.eq_1) ?_;refine Vm.rz xRCnt ?_;rw [show appC ⟨1,n,l⟩ k a b=bad 12 from by simp [appC,h2]];simp [dAns,bad,z0,r0,dF,dR,Vm.dl8]
  by_cases h3:k=1
  ·subst h3;refine Vm.rn xRCnt ?_;refine Vm.sb_dec (fun h4=>?_) (fun h4=>?_)
   ·refine Vm.rn (ai xRCnt @Vm.overD.eq_1) ?_;refine Vm.rz xRCnt ?_;rw [show appC ⟨1,n,l⟩ 1 a b=bad 2 from by simp [appC,h2,h4]];simp [dAns,bad,z0,r0,dF,dR,Vm.dl8]
   refine Vm.rn xRCnt ?_;refine Vm.cq (ai xRCnt<|ai @dR.eq_1<|ai @r0.eq_1 @Vm.overD.eq_1) (add_v n a) ?_;refine Vm.fy 3 xRCnt ?_;refine Vm.dv 6 [0,1,3,2,4,5] [0,1,0,3,15,31] ?_;refine Vm.rt xRCnt ?_;refine Vm.rz xRCnt ?_;rw [show appC ⟨1,n,l⟩ 1 a b=⟨⟨1,wr (n+a),[]⟩,r0,0⟩ from by simp [appC,h2,h4]];simp [dAns,bad,z0,r0,dF,dR,Vm.dl8]
  by_cases h4:k=2
  ·subst h4;have h5:=orI_0 ha hb;refine Vm.rn xRCnt ?_;refine Vm.sb_dec (fun h6=>?_) (fun h6=>?_)
   ·rw [h5] at h6;refine Vm.rn (ai xRCnt @Vm.overD.eq_1) ?_;refine Vm.rz xRCnt ?_;rw [show appC ⟨1,n,l⟩ 2 a b=bad 2 from by simp [appC,h2,Decidable.not_and_iff_or_not.1 h6]];simp [dAns,bad,z0,r0,dF,dR,Vm.dl8]
   refine Vm.rn xRCnt ?_;refine Vm.cq (ai xRCnt<|ai @dR.eq_1<|ai @r0.eq_1 @Vm.overD.eq_1) (read_v n a) ?_;refine Vm.fy 3 xRCnt ?_;refine Vm.dv 6 [0,1,3,2,4,5] [0,1,0,3,15,31] ?_;refine Vm.rt xRCnt ?_;rw [h5,Decidable.not_not] at h6;refine Vm.rz xRCnt ?_;rw [show appC ⟨1,n,l⟩ 2 a b=⟨⟨1,n,[]⟩,⟨2,n⟩,0⟩ from by simp [appC,h2,h6]];simp [dAns,bad,z0,r0,dF,dR,Vm.dl8]
  ·refine Vm.rn (ai xRCnt<|ai @h3<|ai @h4 @Vm.overD.eq_1) ?_;refine Vm.rz xRCnt ?_;rw [show appC ⟨1,n,l⟩ k a b=bad 6 from by simp [appC,h2,h3,h4]];simp [dAns,bad,z0,r0,dF,dR,Vm.dl8]
 ·refine Vm.rn (ai xRCnt<|ai @dS.eq_1<|ai @h1 @Vm.overD.eq_1) ?_;refine Vm.rz xRCnt ?_;rw [show appC ⟨t,n,l⟩ k a b=bad 12 from by simp [appC,h1]];simp [dAns,bad,z0,r0,dF,dR,Vm.dl8]
theorem refCnt_v (s:Sta) (k a b:Int) (hl:s.l.length<1000000000):Vm.VC T 117 [.agg (dS s),.atom (.int .i64 k),.atom (.int .i64 a),.atom (.int .i64 b)] fun d=>d=dAns (appC s k a b):=by
 refine Vm.VC.dl ?_;refine Vm.ve (T:=T) Tryz.func117 fun g hB hG0 hU=>?_;simp only [Tryz.f117,Vm.aC,Vm.aN,Nat.reduceAdd];obtain ⟨t,n,l⟩:=s
 by_cases h1:t=1
 ·subst h1;refine Vm.rn (ai xRCnt @dS.eq_1) ?_;refine Vm.cq (ai xRCnt @dS.eq_1) (refCheck_v ⟨1,n,l⟩ hl) ?_;refine Vm.sb_dec (fun h2=>?_) (fun h2=>?_)
  ·refine Vm.rn (ai xRCnt @Vm.overD.eq_1) ?_;refine Vm.rz xRCnt ?_;rw [show appC ⟨1,n,l⟩ k a b=bad 12 from by simp [appC,h2]];simp [dAns,bad,z0,r0,dF,dR,Vm.dl8]
  by_cases h3:k=1
  ·subst h3
   by_cases h4:b=0
   ·subst h4;refine Vm.rn xRCnt ?_;refine Vm.cq (ai xRCnt @Vm.overD.eq_1) (rwrap_v n a) ?_;refine Vm.rz xRCnt ?_;rw [show appC ⟨1,n,l⟩ 1 a 0=⟨⟨1,wr (n+a),[]⟩,r0,0⟩ from by simp [appC,h2]];simp [dAns,bad,z0,r0,dF,dR,Vm.dl8]
   ·refine Vm.rn (ai xRCnt<|ai @h4 @Vm.overD.eq_1) ?_;refine Vm.rz xRCnt ?_;rw [show appC ⟨1,n,l⟩ 1 a b=bad 2 from by simp [appC,h2,h4]];simp [dAns,bad,z0,r0,dF,dR,Vm.dl8]
  by_cases h4:k=2
  ·subst h4
   by_cases h5:b=0
   ·by_cases h6:a=0
    ·subst h5 h6;refine Vm.rn xRCnt ?_;refine Vm.fy 0 xRCnt ?_;refine Vm.dv 9 [0,1,2,6,3,4,5,7,8] [0,1,3,0,8,24,7,127,255] ?_;refine Vm.rt (ai xRCnt @Vm.overD.eq_1) ?_;refine Vm.rz xRCnt ?_;rw [show appC ⟨1,n,l⟩ 2 0 0=⟨⟨1,n,[]⟩,⟨2,n⟩,0⟩ from by simp [appC,h2]];simp [dAns,bad,z0,r0,dF,dR,Vm.dl8]
    ·subst h5;refine Vm.rn (ai xRCnt<|ai @h6 @Vm.overD.eq_1) ?_;refine Vm.rz xRCnt ?_;rw [show appC ⟨1,n,l⟩ 2 a 0=bad 2 from by simp [appC,h2,h6]];simp [dAns,bad,z0,r0,dF,dR,Vm.dl8]
   ·refine Vm.rn (ai xRCnt<|ai @h5 @Vm.overD.eq_1) ?_;refine Vm.rz xRCnt ?_;rw [show appC ⟨1,n,l⟩ 2 a b=bad 2 from by simp [appC,h2,h5]];simp [dAns,bad,z0,r0,dF,dR,Vm.dl8]
  ·refine Vm.rn (ai xRCnt<|ai @h3<|ai @h4 @Vm.overD.eq_1) ?_;refine Vm.rz xRCnt ?_;rw [show appC ⟨1,n,l⟩ k a b=bad 6 from by simp [appC,h2,h3,h4]];simp [dAns,bad,z0,r0,dF,dR,Vm.dl8]
 ·refine Vm.rn (ai xRCnt<|ai @dS.eq_1<|ai @h1 @Vm.overD.eq_1) ?_;refine Vm.rz xRCnt ?_;rw [show appC ⟨t,n,l⟩ k a b=bad 12 from by simp [appC,h1]];simp [dAns,bad,z0,r0,dF,dR,Vm.dl8]
end Go.Proofs.YtphjohoipocpnaaGreat.W
