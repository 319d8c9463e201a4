import Derived.Test.YtphjohoipocpnaaGreatVmD
import Derived.Test.YtphjohoipocpnaaGreatRkE
import Derived.Test.YtphjohoipocpnaaGreatRkC
set_option linter.unusedSimpArgs false
set_option linter.unusedVariables false
set_option maxRecDepth 8000
/- What any operation makes of any state, both answers; whether it is legal. No conditions. -/
namespace Go.Proofs.YtphjohoipocpnaaGreat.W
open Go.Am
set_option linter.defProp false in
def xRApp:=ai @nlR_dI<|ai @Vm.nlR_append @Vm.dl8
noncomputable def appF (s:Sta) (k a b:Int):Ans:=
 if s.t=1 then appC s k a b else if s.t=2 then appS s k a b else if s.t=3 then appM s k a b else if s.t=4 then appQ s k a b else if s.t=5 then appE s k a b else bad 8
def kindM (a b:Int) (f:FuncId):List Vm.D:=[.atom (.int .i64 a),.atom (.int .i64 b),.atom (.func (.func f) [] [])]
def kindsM:List (List Vm.D):=[kindM 1 2 160,kindM 3 6 161,kindM 7 9 162,kindM 10 12 163,kindM 13 15 164]
theorem lit_35 (a b c d e f g h i j k l m n o:Vm.D):Vm.rowsOf 3 5 [a,b,c,d,e,f,g,h,i,j,k,l,m,n,o]=[[a,b,c],[d,e,f],[g,h,i],[j,k,l],[m,n,o]]:=rfl
theorem lit_r5 (x:List Vm.D):List.replicate 5 x=[x,x,x,x,x]:=rfl
theorem types_v:Vm.VC T 141 [] fun d=>d=.fresh 3 kindsM:=by
 refine Vm.ve (T:=T) Tryz.func141 fun g hB hG0 hU=>?_;simp only [Tryz.f141,Vm.aC,Vm.aN,Nat.reduceAdd];refine Vm.rn (ai xRApp<|ai @Vm.overD.eq_1<|ai @lit_r5 @lit_35) ?_;exact Vm.rx (Vm.cl (ai xRApp<|ai @kindsM.eq_1 @kindM.eq_1))
theorem mapply_v (s:Sta) (k a b:Int) (hl:s.l.length<1000000000) (ha:I64 a) (hb:I64 b):Vm.VC T 116 [.agg (dS s),.atom (.int .i64 k),.atom (.int .i64 a),.atom (.int .i64 b)] fun d=>d=dAns (appF s k a b):=by
 obtain ⟨t,n,l⟩:=s;dsimp only at hl
 by_cases h1:t<1
 ·refine Vm.VC.dl ?_;refine Vm.ve (T:=T) Tryz.func116 fun g hB hG0 hU=>?_;simp only [Tryz.f116,Vm.aC,Vm.aN,Nat.reduceAdd];refine Vm.rn (ai xRApp<|ai @dS.eq_1<|ai @h1 @Vm.overD.eq_1) ?_;refine Vm.rz xRApp ?_;rw [show appF ⟨t,n,l⟩ k a b=bad 8 from by simp [appF,show t≠1 by omega,show t≠2 by omega,show t≠3 by omega,show t≠4 by omega,show t≠5 by omega]];simp [dAns,bad,z0,r0,dF,dR,Vm.dl8]
 by_cases h2:5<t
 ·refine Vm.VC.dl ?_;refine Vm.ve (T:=T) Tryz.func116 fun g hB hG0 hU=>?_;simp only [Tryz.f116,Vm.aC,Vm.aN,Nat.reduceAdd];refine Vm.rn (ai xRApp<|ai @dS.eq_1<|ai @h1<|ai @h2 @Vm.overD.eq_1) ?_;refine Vm.rz xRApp ?_;rw [show appF ⟨t,n,l⟩ k a b=bad 8 from by simp [appF,show t≠1 by omega,show t≠2 by omega,show t≠3 by omega,show t≠4 by omega,show t≠5 by omega]];simp [dAns,bad,z0,r0,dF,dR,Vm.dl8]
 have hc:t=1∨t=2∨t=3∨t=4∨t=5:=by omega
 refine Vm.ve (T:=T) Tryz.func116 fun g hB hG0 hU=>?_;simp only [Tryz.f116,Vm.aC,Vm.aN,Nat.reduceAdd];rcases hc with rfl | rfl | rfl | rfl | rfl
 ·refine Vm.rn (ai xRApp @dS.eq_1) ?_;refine Vm.fy 0 (ai xRApp @fz_I) ?_;refine Vm.dv 18 [0,1,2,3,4,5,6,7,8,9,10,11,12,13,14,15,16,17] [0,0,2,6,15,31,63,0,0,0,0,2047,4095,4095,4095,32767,65535,131071] ?_;refine Vm.rt xRApp ?_
  (have hh:=ai xRApp<|ai @kindsM.eq_1<|ai @kindM.eq_1 @Am.vt;(first | refine Vm.callQ_eq2 (types_v) (Vm.ct hh) (Vm.rt hh ?_) | refine Vm.call_eq2 (types_v) (Vm.ct hh) (Vm.rt hh ?_));clear hh)
  (have hh:=ai xRApp<|ai @dS.eq_1<|ai @dAns.eq_1<|ai @dF.eq_1<|ai @dR.eq_1<|ai @Vm.overD.eq_1 @Am.vt;(first | refine Vm.callQ_eq2 (cnt_v ⟨1,n,l⟩ k a b hl ha hb) (Vm.ct hh) (Vm.rt hh ?_) | refine Vm.call_eq2 (cnt_v ⟨1,n,l⟩ k a b hl ha hb) (Vm.ct hh) (Vm.rt hh ?_));clear hh)
  exact Vm.rx (Vm.cl (ai xRApp<|ai @dAns.eq_1<|ai @appF.eq_1<|ai @dF.eq_1 @dR.eq_1))
 ·refine Vm.rn (ai xRApp @dS.eq_1) ?_;refine Vm.fy 0 (ai xRApp @fz_I) ?_;refine Vm.dv 18 [0,1,2,3,4,5,6,7,8,9,10,11,12,13,14,15,16,17] [0,0,2,6,15,31,63,0,0,0,0,2047,4095,4095,4095,32767,65535,131071] ?_;refine Vm.rt xRApp ?_
  (have hh:=ai xRApp<|ai @kindsM.eq_1<|ai @kindM.eq_1 @Am.vt;(first | refine Vm.callQ_eq2 (types_v) (Vm.ct hh) (Vm.rt hh ?_) | refine Vm.call_eq2 (types_v) (Vm.ct hh) (Vm.rt hh ?_));clear hh)
  (have hh:=ai xRApp<|ai @dS.eq_1<|ai @dAns.eq_1<|ai @dF.eq_1<|ai @dR.eq_1<|ai @Vm.overD.eq_1 @Am.vt;(first | refine Vm.callQ_eq2 (set_v ⟨2,n,l⟩ k a b hl) (Vm.ct hh) (Vm.rt hh ?_) | refine Vm.call_eq2 (set_v ⟨2,n,l⟩ k a b hl) (Vm.ct hh) (Vm.rt hh ?_));clear hh)
  exact Vm.rx (Vm.cl (ai xRApp<|ai @dAns.eq_1<|ai @appF.eq_1<|ai @dF.eq_1 @dR.eq_1))
 ·refine Vm.rn (ai xRApp @dS.eq_1) ?_;refine Vm.fy 0 (ai xRApp @fz_I) ?_;refine Vm.dv 18 [0,1,2,3,4,5,6,7,8,9,10,11,12,13,14,15,16,17] [0,0,2,6,15,31,63,0,0,0,0,2047,4095,4095,4095,32767,65535,131071] ?_;refine Vm.rt xRApp ?_
  (have hh:=ai xRApp<|ai @kindsM.eq_1<|ai @kindM.eq_1 @Am.vt;(first | refine Vm.callQ_eq2 (types_v) (Vm.ct hh) (Vm.rt hh ?_) | refine Vm.call_eq2 (types_v) (Vm.ct hh) (Vm.rt hh ?_));clear hh)
  (have hh:=ai xRApp<|ai @dS.eq_1<|ai @dAns.eq_1<|ai @dF.eq_1<|ai @dR.eq_1<|ai @Vm.overD.eq_1 @Am.vt;(first | refine Vm.callQ_eq2 (map_v ⟨3,n,l⟩ k a b hl) (Vm.ct hh) (Vm.rt hh ?_) | refine Vm.call_eq2 (map_v ⟨3,n,l⟩ k a b hl) (Vm.ct hh) (Vm.rt hh ?_));clear hh)
  exact Vm.rx (Vm.cl (ai xRApp<|ai @dAns.eq_1<|ai @appF.eq_1<|ai @dF.eq_1 @dR.eq_1))
 ·refine Vm.rn (ai xRApp @dS.eq_1) ?_;refine Vm.fy 0 (ai xRApp @fz_I) ?_;refine Vm.dv 18 [0,1,2,3,4,5,6,7,8,9,10,11,12,13,14,15,16,17] [0,0,2,6,15,31,63,0,0,0,0,2047,4095,4095,4095,32767,65535,131071] ?_;refine Vm.rt xRApp ?_
  (have hh:=ai xRApp<|ai @kindsM.eq_1<|ai @kindM.eq_1 @Am.vt;(first | refine Vm.callQ_eq2 (types_v) (Vm.ct hh) (Vm.rt hh ?_) | refine Vm.call_eq2 (types_v) (Vm.ct hh) (Vm.rt hh ?_));clear hh)
  (have hh:=ai xRApp<|ai @dS.eq_1<|ai @dAns.eq_1<|ai @dF.eq_1<|ai @dR.eq_1<|ai @Vm.overD.eq_1 @Am.vt;(first | refine Vm.callQ_eq2 (fifo_v ⟨4,n,l⟩ k a b hl) (Vm.ct hh) (Vm.rt hh ?_) | refine Vm.call_eq2 (fifo_v ⟨4,n,l⟩ k a b hl) (Vm.ct hh) (Vm.rt hh ?_));clear hh)
  exact Vm.rx (Vm.cl (ai xRApp<|ai @dAns.eq_1<|ai @appF.eq_1<|ai @dF.eq_1 @dR.eq_1))
 ·refine Vm.rn (ai xRApp @dS.eq_1) ?_;refine Vm.fy 0 (ai xRApp @fz_I) ?_;refine Vm.dv 18 [0,1,2,3,4,5,6,7,8,9,10,11,12,13,14,15,16,17] [0,0,2,6,15,31,63,0,0,0,0,2047,4095,4095,4095,32767,65535,131071] ?_;refine Vm.rt xRApp ?_
  (have hh:=ai xRApp<|ai @kindsM.eq_1<|ai @kindM.eq_1 @Am.vt;(first | refine Vm.callQ_eq2 (types_v) (Vm.ct hh) (Vm.rt hh ?_) | refine Vm.call_eq2 (types_v) (Vm.ct hh) (Vm.rt hh ?_));clear hh)
  (have hh:=ai xRApp<|ai @dS.eq_1<|ai @dAns.eq_1<|ai @dF.eq_1<|ai @dR.eq_1<|ai @Vm.overD.eq_1 @Am.vt;(first | refine Vm.callQ_eq2 (esc_v ⟨5,n,l⟩ k a b hl) (Vm.ct hh) (Vm.rt hh ?_) | refine Vm.call_eq2 (esc_v ⟨5,n,l⟩ k a b hl) (Vm.ct hh) (Vm.rt hh ?_));clear hh)
  exact Vm.rx (Vm.cl (ai xRApp<|ai @dAns.eq_1<|ai @appF.eq_1<|ai @dF.eq_1 @dR.eq_1))
theorem rapply_v (s:Sta) (k a b:Int) (hl:s.l.length<1000000000) (ha:I64 a) (hb:I64 b):Vm.VC T 81 [.agg (dS s),.atom (.int .i64 k),.atom (.int .i64 a),.atom (.int .i64 b)] fun d=>d=dAns (appF s k a b):=by
 obtain ⟨t,n,l⟩:=s;dsimp only at hl
 by_cases h1:t=1
 ·subst h1;refine Vm.ve (T:=T) Tryz.func81 fun g hB hG0 hU=>?_;simp only [Tryz.f81,Vm.aC,Vm.aN,Nat.reduceAdd];refine Vm.rn (ai xRApp @dS.eq_1) ?_;refine Vm.cq (ai xRApp<|ai @dS.eq_1<|ai @dAns.eq_1<|ai @dF.eq_1<|ai @dR.eq_1 @Vm.overD.eq_1) (refCnt_v ⟨1,n,l⟩ k a b hl) ?_;exact Vm.rx (Vm.cl (ai xRApp<|ai @dAns.eq_1<|ai @appF.eq_1<|ai @dF.eq_1 @dR.eq_1))
 by_cases h2:t=2
 ·subst h2;refine Vm.ve (T:=T) Tryz.func81 fun g hB hG0 hU=>?_;simp only [Tryz.f81,Vm.aC,Vm.aN,Nat.reduceAdd];refine Vm.rn (ai xRApp @dS.eq_1) ?_;refine Vm.cq (ai xRApp<|ai @dS.eq_1<|ai @dAns.eq_1<|ai @dF.eq_1<|ai @dR.eq_1 @Vm.overD.eq_1) (refSet_v ⟨2,n,l⟩ k a b hl) ?_;exact Vm.rx (Vm.cl (ai xRApp<|ai @dAns.eq_1<|ai @appF.eq_1<|ai @dF.eq_1 @dR.eq_1))
 by_cases h3:t=3
 ·subst h3;refine Vm.ve (T:=T) Tryz.func81 fun g hB hG0 hU=>?_;simp only [Tryz.f81,Vm.aC,Vm.aN,Nat.reduceAdd];refine Vm.rn (ai xRApp @dS.eq_1) ?_;refine Vm.cq (ai xRApp<|ai @dS.eq_1<|ai @dAns.eq_1<|ai @dF.eq_1<|ai @dR.eq_1 @Vm.overD.eq_1) (refMap_v ⟨3,n,l⟩ k a b hl) ?_;exact Vm.rx (Vm.cl (ai xRApp<|ai @dAns.eq_1<|ai @appF.eq_1<|ai @dF.eq_1 @dR.eq_1))
 by_cases h4:t=4
 ·subst h4;refine Vm.ve (T:=T) Tryz.func81 fun g hB hG0 hU=>?_;simp only [Tryz.f81,Vm.aC,Vm.aN,Nat.reduceAdd];refine Vm.rn (ai xRApp @dS.eq_1) ?_;refine Vm.cq (ai xRApp<|ai @dS.eq_1<|ai @dAns.eq_1<|ai @dF.eq_1<|ai @dR.eq_1 @Vm.overD.eq_1) (refFifo_v ⟨4,n,l⟩ k a b hl) ?_;exact Vm.rx (Vm.cl (ai xRApp<|ai @dAns.eq_1<|ai @appF.eq_1<|ai @dF.eq_1 @dR.eq_1))
 by_cases h5:t=5
 ·subst h5;refine Vm.ve (T:=T) Tryz.func81 fun g hB hG0 hU=>?_;simp only [Tryz.f81,Vm.aC,Vm.aN,Nat.reduceAdd];refine Vm.rn (ai xRApp @dS.eq_1) ?_;refine Vm.cq (ai xRApp<|ai @dS.eq_1<|ai @dAns.eq_1<|ai @dF.eq_1<|ai @dR.eq_1 @Vm.overD.eq_1) (refEsc_v ⟨5,n,l⟩ k a b hl) ?_;exact Vm.rx (Vm.cl (ai xRApp<|ai @dAns.eq_1<|ai @appF.eq_1<|ai @dF.eq_1 @dR.eq_1))
 refine Vm.VC.dl ?_;refine Vm.ve (T:=T) Tryz.func81 fun g hB hG0 hU=>?_;simp only [Tryz.f81,Vm.aC,Vm.aN,Nat.reduceAdd];refine Vm.rn (ai xRApp<|ai @dS.eq_1<|ai @h1<|ai @h2<|ai @h3<|ai @h4<|ai @h5 @Vm.overD.eq_1) ?_;refine Vm.rz xRApp ?_;rw [show appF ⟨t,n,l⟩ k a b=bad 8 from by simp [appF,h1,h2,h3,h4,h5]];simp [dAns,bad,z0,r0,dF,dR,Vm.dl8]
def okA (q:Ans) (r:Rt):Bool:=decide (q.e=0∧q.r=r)
def dLeg (q:Ans) (r:Rt):Vm.D:=.tuple [.agg (dF q.s),.atom (.bool (okA q r)),.atom (.int .i64 q.e)]
theorem eqS_ret0 (a b c d:Int):T.eqS 56 [.int .i64 a,.int .i64 b] [.int .i64 c,.int .i64 d]=cond (decide (a=c)) (cond (decide (b=d)) (some true) (some false)) (some false):=by kernel_rfl
theorem eqS_ret (p q:Rt):T.eqS 56 [.int .i64 p.k,.int .i64 p.n] [.int .i64 q.k,.int .i64 q.n]=some (decide (p=q)):=by
 rw [eqS_ret0];obtain ⟨a,b⟩:=p;obtain ⟨c,d⟩:=q;simp only [Rt.mk.injEq]
 by_cases h1:a=c <;> by_cases h2:b=d <;> simp [h1,h2]
theorem mlegal_v (s:Sta) (p:Opr) (hl:s.l.length<1000000000) (ha:I64 p.a) (hb:I64 p.b):Vm.VC T 80 [.agg (dS s),.agg (dO p)] fun d=>d=dLeg (appF s p.k p.a p.b) p.r:=by
 refine Vm.ve (T:=T) Tryz.func80 fun g hB hG0 hU=>?_;simp only [Tryz.f80,Vm.aC,Vm.aN,Nat.reduceAdd];refine Vm.rn (ai xRApp<|ai @dO.eq_1 @dS.eq_1) ?_;refine Vm.cq (ai xRApp<|ai @dS.eq_1<|ai @dAns.eq_1<|ai @dF.eq_1<|ai @dR.eq_1 @Vm.overD.eq_1) (mapply_v s p.k p.a p.b hl ha hb) ?_;generalize appF s p.k p.a p.b=q
 by_cases he:q.e=0
 ·refine Vm.rn (ai xRApp @he) ?_;refine Vm.dv 13 [0,1,2,3,10,4,5,6,7,8,9,11,12] [0,0,2,6,14,14,46,126,254,0,15,1535,4095] ?_;refine Vm.rt (ai xRApp<|ai @he<|ai @Vm.overD.eq_1 @eqS_ret) ?_;refine Vm.rn xRApp ?_;exact Vm.rx (Vm.cl (ai xRApp<|ai @dLeg.eq_1<|ai @dF.eq_1<|ai @okA.eq_1 @he))
 ·refine Vm.rn (ai xRApp @he) ?_;refine Vm.dv 13 [0,1,2,3,10,4,5,6,7,8,9,11,12] [0,0,2,6,14,14,46,126,254,0,15,1535,4095] ?_;refine Vm.rt (ai xRApp<|ai @he<|ai @Vm.overD.eq_1 @eqS_ret) ?_;refine Vm.rn xRApp ?_;exact Vm.rx (Vm.cl (ai xRApp<|ai @dLeg.eq_1<|ai @dF.eq_1<|ai @okA.eq_1 @he))
theorem appF_err {s:Sta} {k a b:Int} (h:(appF s k a b).e≠0):(appF s k a b).s=z0:=by
 have key:∀ (c:Prop) [Decidable c] (x y:Ans),(x.e≠0→x.s=z0)→(y.e≠0→y.s=z0)→(if c then x else y).e≠0→(if c then x else y).s=z0:=by
  intro c _ x y hx hy;split <;> assumption
 have hb:∀ e,(bad e).e≠0→(bad e).s=z0:=fun e _=>rfl;have ho:∀ s r,(Ans.mk s r 0).e≠0→(Ans.mk s r 0).s=z0:=fun s r h=>absurd rfl h
 revert h
 unfold appF appC appS appM appQ appE
 repeat' (first | exact hb _ | exact ho _ _ | apply key)
theorem rlegal_v (s:Sta) (p:Opr) (hl:s.l.length<1000000000) (ha:I64 p.a) (hb:I64 p.b):Vm.VC T 61 [.agg (dS s),.agg (dO p)] fun d=>d=dLeg (appF s p.k p.a p.b) p.r:=by
 refine Vm.VC.dl ?_;refine Vm.ve (T:=T) Tryz.func61 fun g hB hG0 hU=>?_;simp only [Tryz.f61,Vm.aC,Vm.aN,Nat.reduceAdd];have hz:=appF_err (s:=s) (k:=p.k) (a:=p.a) (b:=p.b);refine Vm.rn (ai xRApp<|ai @dO.eq_1 @dS.eq_1) ?_;refine Vm.cq (ai xRApp<|ai @dS.eq_1<|ai @dAns.eq_1<|ai @dF.eq_1<|ai @dR.eq_1 @Vm.overD.eq_1) (rapply_v s p.k p.a p.b hl ha hb) ?_;generalize appF s p.k p.a p.b=q at hz
 by_cases he:q.e=0
 ·refine Vm.rn (ai xRApp @he) ?_;refine Vm.dv 8 [0,5,1,2,3,4,6,7] [0,0,0,4,14,1,63,127] ?_;refine Vm.rt (ai xRApp<|ai @he<|ai @Vm.overD.eq_1 @eqS_ret) ?_;refine Vm.rn xRApp ?_;exact Vm.rx (Vm.cl (ai xRApp<|ai @dLeg.eq_1<|ai @dF.eq_1<|ai @okA.eq_1 @he))
 ·refine Vm.rn (ai xRApp<|ai @he @Vm.overD.eq_1) ?_;exact Vm.rx (Vm.cl (ai xRApp<|ai @dLeg.eq_1<|ai @dF.eq_1<|ai @okA.eq_1<|ai @he<|ai (hz he) @z0.eq_1))
set_option linter.defProp false in
def xRKit:=ai @nlR_dI @Vm.nlR_append
theorem same_step {α:Type} {xs ys:List α} {i:Nat} {x y:α} (hx:xs[i]?=some x) (hy:ys[i]?=some y) (h:xs.take i=ys.take i):(x=y→xs.take (i+1)=ys.take (i+1))∧(x≠y→xs≠ys):=by
 refine ⟨fun e=>by rw [take_at hx,take_at hy,h,e],fun hn e=>?_⟩;subst e;rw [hx] at hy;exact hn (Option.some.inj hy)
theorem same_end {α:Type} {xs ys:List α} {i:Nat} (hl:xs.length=ys.length) (hi:xs.length≤i) (h:xs.take i=ys.take i):xs=ys:=by
 rwa [List.take_of_length_le hi,List.take_of_length_le (by omega)] at h
theorem row_at {α:Type} {f:α→List Vm.D} {l:List α} {i:Nat} (h:i<l.length):∃ y,l[i]?=some y∧(l.map f)[i]?=some (f y):=⟨l[i],List.getElem?_eq_getElem h,by rw [List.getElem?_map,List.getElem?_eq_getElem h];rfl⟩
theorem sameI_v (xs ys:List Int) (hl:xs.length<1000000000):Vm.VC T 27 [.imm 1 (xs.map dI),.imm 1 (ys.map dI)] fun d=>d=.atom (.bool (decide (xs=ys))):=by
 refine Vm.ve (T:=T) Tryz.func27 fun g hB hG0 hU=>?_;simp only [Tryz.f27,Vm.aC,Vm.aN,Nat.reduceAdd]
 by_cases hle:(xs.length:Int)=ys.length
 ·refine Vm.rn (ai xRKit @hle) ?_;have hle2:xs.length=ys.length:=by omega
  refine Vm.sk_loop (fun i:Nat=>xs.length - i) (fun i=>⟨[(0,.imm 1 (xs.map dI)),(1,.imm 1 (ys.map dI)),(5,.atom (.int .i64 i))],[],26⟩) (fun i=>i≤xs.length∧xs.take i=ys.take i) 0 ?_ ⟨by omega,by simp⟩ ?_
  ·exact Vm.lx (Vm.cl xRKit)
  rintro i ⟨hi,he⟩ ih;refine Vm.rn xRKit ?_;refine Vm.sb_dec (fun hc=>?_) (fun hc=>?_)
  ·obtain ⟨x,hx,g1⟩:=row_at (f:=dI) (l:=xs) (i:=i) (by omega);obtain ⟨y,hy,g2⟩:=row_at (f:=dI) (l:=ys) (i:=i) (by omega);obtain ⟨s1,s2⟩:=same_step hx hy he;refine Vm.rn xRKit ?_;refine Vm.dw 9 [0,1,2,3,4,5,6,7,8] ?_;refine Vm.rn (ai xRKit<|ai @g1<|ai @g2 @dI.eq_1) ?_;refine Vm.sb_dec (fun hb=>?_) (fun hb=>?_)
   ·refine Vm.rn xRKit ?_;refine Vm.rz xRKit ?_;simp [s2 hb]
   ·refine Vm.rn xRKit ?_;refine ih (i+1) _ (by dsimp only;omega) ⟨by omega,s1 (by simpa using hb)⟩ ?_;exact Vm.lx (Vm.cl xRKit)
  ·refine Vm.rn xRKit ?_;refine Vm.rz xRKit ?_;simp [same_end hle2 (by omega) he]
 ·refine Vm.rn (ai xRKit @hle) ?_;refine Vm.rz xRKit ?_;have:¬ xs=ys:=fun e=>hle (by rw [e]);simp [this]
theorem sameS_v (s t:Sta) (hl:s.l.length<1000000000):Vm.VC T 31 [.agg (dS s),.agg (dS t)] fun d=>d=.atom (.bool (decide (s=t))):=by
 refine Vm.ve (T:=T) Tryz.func31 fun g hB hG0 hU=>?_;simp only [Tryz.f31,Vm.aC,Vm.aN,Nat.reduceAdd];obtain ⟨a,b,c⟩:=s;obtain ⟨a',b',c'⟩:=t;simp only [Sta.mk.injEq];dsimp only at hl
 by_cases h1:a=a'
 ·by_cases h2:b=b'
  ·refine Vm.rn (ai xRKit<|ai @dS.eq_1<|ai @h1 @h2) ?_;refine Vm.cq (ai xRKit<|ai @dS.eq_1<|ai @h1 @h2) (sameI_v c c' hl) ?_;exact Vm.rx (Vm.cl (ai xRKit<|ai @h1 @h2))
  ·refine Vm.rn (ai xRKit<|ai @dS.eq_1<|ai @h1 @h2) ?_;exact Vm.rx (Vm.cl (ai xRKit<|ai @h1 @h2))
 ·refine Vm.rn (ai xRKit<|ai @dS.eq_1 @h1) ?_;exact Vm.rx (Vm.cl (ai xRKit @h1))
theorem sameSs_v (xs ys:List Sta) (hl:xs.length<1000000000) (hs:∀ s,s∈xs→s.l.length<1000000000):Vm.VC T 14 [.imm 3 (xs.map dS),.imm 3 (ys.map dS)] fun d=>d=.atom (.bool (decide (xs=ys))):=by
 refine Vm.ve (T:=T) Tryz.func14 fun g hB hG0 hU=>?_;simp only [Tryz.f14,Vm.aC,Vm.aN,Nat.reduceAdd]
 by_cases hle:(xs.length:Int)=ys.length
 ·refine Vm.rn (ai xRKit @hle) ?_;have hle2:xs.length=ys.length:=by omega
  refine Vm.sk_loop (fun i:Nat=>xs.length - i) (fun i=>⟨[(0,.imm 3 (xs.map dS)),(1,.imm 3 (ys.map dS)),(5,.atom (.int .i64 i))],[],27⟩) (fun i=>i≤xs.length∧xs.take i=ys.take i) 0 ?_ ⟨by omega,by simp⟩ ?_
  ·exact Vm.lx (Vm.cl xRKit)
  rintro i ⟨hi,he⟩ ih;refine Vm.rn xRKit ?_;refine Vm.sb_dec (fun hc=>?_) (fun hc=>?_)
  ·obtain ⟨x,hx,g1⟩:=row_at (f:=dS) (l:=xs) (i:=i) (by omega);obtain ⟨y,hy,g2⟩:=row_at (f:=dS) (l:=ys) (i:=i) (by omega);obtain ⟨s1,s2⟩:=same_step hx hy he;simp only [dS] at g1 g2;refine Vm.rn xRKit ?_;refine Vm.dw 10 [0,1,2,3,4,5,6,7,8,9] ?_;refine Vm.rn (ai xRKit<|ai @g1 @g2) ?_
   (have hh:=ai xRKit<|ai @dS.eq_1 @Am.vt;(first | refine Vm.callQ_eq2 (sameS_v x y (hs x (List.mem_of_getElem? hx))) (Vm.ct hh) (Vm.rt hh ?_) | refine Vm.call_eq2 (sameS_v x y (hs x (List.mem_of_getElem? hx))) (Vm.ct hh) (Vm.rt hh ?_));clear hh)
   refine Vm.sb_dec (fun hb=>?_) (fun hb=>?_)
   ·refine Vm.rn xRKit ?_;refine Vm.rz xRKit ?_;simp [s2 hb]
   ·refine Vm.rn xRKit ?_;refine ih (i+1) _ (by dsimp only;omega) ⟨by omega,s1 (by simpa using hb)⟩ ?_;exact Vm.lx (Vm.cl xRKit)
  ·refine Vm.rn xRKit ?_;refine Vm.rz xRKit ?_;simp [same_end hle2 (by omega) he]
 ·refine Vm.rn (ai xRKit @hle) ?_;refine Vm.rz xRKit ?_;have:¬ xs=ys:=fun e=>hle (by rw [e]);simp [this]
theorem copyI_v (xs:List Int) (hl:xs.length<1000000000):Vm.VC T 19 [.imm 1 (xs.map dI)] fun d=>d=.fresh 1 (xs.map dI):=by
 have htk:(xs.map dI).take xs.length=xs.map dI:=List.take_of_length_le (by simp);refine Vm.ve (T:=T) Tryz.func19 fun g hB hG0 hU=>?_;simp only [Tryz.f19,Vm.aC,Vm.aN,Nat.reduceAdd];refine Vm.rn (ai xRKit<|ai @Vm.overD.eq_1 @htk) ?_;exact Vm.rx (Vm.cl xRKit)
theorem copyS_v (s:Sta) (hl:s.l.length<1000000000):Vm.VC T 37 [.agg (dS s)] fun d=>d=.agg (dF s):=by
 refine Vm.ve (T:=T) Tryz.func37 fun g hB hG0 hU=>?_;simp only [Tryz.f37,Vm.aC,Vm.aN,Nat.reduceAdd];refine Vm.rn (ai xRKit @dS.eq_1) ?_;refine Vm.cq (ai xRKit @Vm.overD.eq_1) (copyI_v s.l hl) ?_;exact Vm.rx (Vm.cl (ai xRKit @dF.eq_1))
theorem copySs_v (xs:List Sta) (hl:xs.length<1000000000) (hs:∀ s,s∈xs→s.l.length<1000000000):Vm.VC T 10 [.imm 3 (xs.map dS)] fun d=>d=.fresh 3 (xs.map dF):=by
 refine Vm.ve (T:=T) Tryz.func10 fun g hB hG0 hU=>?_;simp only [Tryz.f10,Vm.aC,Vm.aN,Nat.reduceAdd];refine Vm.rn xRKit ?_;refine Vm.sk_nil 3 3 (by rfl) ?_;refine Vm.sk_loop (fun i:Nat=>xs.length - i) (fun i=>⟨[(4,.atom (.int .i64 i)),(3,.own 0 (xs.take i).length),(0,.imm 3 (xs.map dS))],[.sl 3 ((xs.take i).map dF)],20⟩) (fun i=>i≤xs.length) 0 ?_ (Nat.zero_le _) ?_
 ·exact Vm.lx (Vm.cl (ai xRKit @List.take_zero.{0}))
 intro i hi ih;refine Vm.rn xRKit ?_;refine Vm.sb_dec (fun hlt=>?_) (fun hge=>?_)
 ·obtain ⟨y,hy,hyd⟩:=row_at (f:=dS) (l:=xs) (i:=i) (by omega);have et:=take_at hy;have hln:(xs.take i).length=i:=by rw [List.length_take];omega
  have hlm:((xs.take i).map dF).length=i:=by rw [List.length_map,hln]
  have hln2:(xs.take (i+1)).length=i+1:=by rw [List.length_take];omega
  have hmp:(xs.take (i+1)).map dF=(xs.take i).map dF++[dF y]:=by rw [et,List.map_append];rfl
  refine Vm.rn (ai xRKit<|ai @hyd @dS.eq_1) ?_;refine Vm.cq (ai xRKit<|ai @dS.eq_1<|ai @dF.eq_1<|ai @Vm.overD.eq_1<|ai @hln @hlm) (copyS_v y (hs y (List.mem_of_getElem? hy))) ?_;refine ih (i+1) _ (by dsimp only;omega) (by omega) ?_;exact Vm.lx (Vm.cl (ai xRKit<|ai @hmp<|ai @hln<|ai @hln2 @dF.eq_1))
 ·have:i=xs.length:=by omega
  subst this;rw [List.take_length];refine Vm.rn xRKit ?_;exact Vm.rx (Vm.cl xRKit)
set_option linter.defProp false in
def xRRep:=ai @nlR_dI<|ai @Vm.nlR_append @Vm.dl8
theorem nlR_dF (xs:List Sta):Vm.nlR (xs.map dF)=true:=Vm.nlR_map (fun x=>rfl) xs
theorem prLL_dI (xs:List Int):Vm.prLL (xs.map dI)=true:=Vm.prLL_map (fun x=>rfl) xs
theorem pr_dF (x:Sta):Vm.prL (dF x)=true:=by simp [dF,Vm.prL,Vm.D.pr,prLL_dI]
theorem prLL_dF (xs:List Sta):Vm.prLL (xs.map dF)=true:=Vm.prLL_map pr_dF xs
/-! ### How long they grow -/
theorem prs_le (l:List Int):(prs l).length * 2≤l.length:=by rw [prs_len];omega
theorem dropM_le (l:List Int) (k:Int):(dropM l k).length≤l.length:=by
 rw [dropM,unprs_len,dropP];have h1:=List.length_filter_le (fun p:Int×Int=>decide (p.1≠k)) (prs l);have:=prs_le l;omega
theorem setM_le (l:List Int) (k v:Int):(setM l k v).length≤l.length+2:=by
 have h1:=List.length_filter_le (fun p:Int×Int=>decide (p.1≠k)) (prs l);have h2:=prs_le l;have h3:=congrArg List.length (List.takeWhile_append_dropWhile (p:=fun p:Int×Int=>decide (p.1<k)) (l:=dropP l k));rw [List.length_append] at h3;rw [setM,unprs_len,insP,List.length_append,List.length_cons];unfold dropP at h3 ⊢;omega
theorem insS_le (l:List Int) (x:Int):(insS l x).length≤l.length+2:=by
 unfold insS;split
 ·omega
 ·rw [List.length_append,List.length_cons,List.length_take,List.length_drop];omega
theorem remS_le (l:List Int) (x:Int):(remS l x).length≤l.length+2:=by
 unfold remS;split
 ·rw [List.length_append,List.length_take,List.length_drop];omega
 ·omega
theorem appF_len (s:Sta) (k a b:Int):(appF s k a b).s.l.length≤s.l.length+2:=by
 have key:∀ (c:Prop) [Decidable c] (x y:Ans),x.s.l.length≤s.l.length+2→y.s.l.length≤s.l.length+2→(if c then x else y).s.l.length≤s.l.length+2:=by
  intro c _ x y hx hy;split <;> assumption
 have hb:∀ e,(bad e).s.l.length≤s.l.length+2:=fun e=>Nat.zero_le _;have ho:∀ (t n:Int) (l:List Int) r e,l.length≤s.l.length+2→(Ans.mk ⟨t,n,l⟩ r e).s.l.length≤s.l.length+2:=fun t n l r e h=>h;unfold appF appC appS appM appQ appE
 repeat' (first | exact hb _ | apply key)
 all_goals (refine ho _ _ _ _ _ ?_)
 ·exact Nat.zero_le _
 ·exact Nat.zero_le _
 ·exact insS_le _ _
 ·exact remS_le _ _
 ·omega
 ·omega
 ·split
  ·exact setM_le _ _ _
  ·split
   ·have:=dropM_le s.l a;omega
   ·omega
 ·rw [List.length_append];simp
 ·omega
 ·exact Nat.zero_le _
 ·rw [List.length_drop];omega
 ·exact Nat.zero_le _
 ·exact Nat.zero_le _
 ·exact Nat.zero_le _
/-! ### One behind the other -/
noncomputable def actA (s:List Sta) (a:Act):Ans:=appF (s.getD a.o.toNat z0) a.op.k a.op.a a.op.b
noncomputable def errA (s:List Sta) (a:Act):Int:=if a.o<0∨(s.length:Int)≤a.o then 3 else if (actA s a).e≠0 then (actA s a).e else if (actA s a).r≠a.op.r then 9 else 0
noncomputable def nextA (s:List Sta) (a:Act):List Sta:=s.set a.o.toNat (actA s a).s
noncomputable def repN:List Sta→List Act→Nat→List Sta×Nat×Int
 | s,[],n=>(s,n,0)
 | s,a::acs,n=>if errA s a=0 then repN (nextA s a) acs (n+1) else ([],n+1,errA s a)
def dRep (q:List Sta×Nat×Int):Vm.D:=.tuple [.fresh 3 (q.1.map dF),.atom (.int .i64 q.2.1),.atom (.int .i64 q.2.2)]
theorem next_len (s:List Sta) (a:Act):(nextA s a).length=s.length:=by simp [nextA]
def FitS (s:List Sta) (m:Nat):Prop:=∀ x,x∈s→x.l.length+2 * m<1000000000
theorem FitS.next {s:List Sta} {a:Act} {m:Nat} (h:FitS s (m+1)) (hj:a.o.toNat<s.length):FitS (nextA s a) m:=by
 intro x hx;rcases List.mem_or_eq_of_mem_set hx with hx | rfl
 ·have:=h x hx;omega
 ·have h1:=appF_len (s.getD a.o.toNat z0) a.op.k a.op.a a.op.b;have h2:=h _ (List.getElem_mem hj);have h3:s.getD a.o.toNat z0=s[a.o.toNat]:=by rw [List.getD_eq_getElem?_getD,List.getElem?_eq_getElem hj];rfl
  rw [h3] at h1;unfold actA;rw [h3];omega
theorem FitS.one {s:List Sta} {m:Nat} (h:FitS s m):∀ x,x∈s→x.l.length<1000000000:=fun x hx=>by have:=h x hx;omega
theorem repN_step {s c:List Sta} {acs:List Act} {i:Nat} {a:Act} (ha:acs[i]?=some a) (h:repN c (acs.drop i) i=repN s acs 0) :
  (errA c a=0→repN (nextA c a) (acs.drop (i+1)) (i+1)=repN s acs 0)∧(errA c a≠0→repN s acs 0=([],i+1,errA c a)):=by
 rw [drop_at ha] at h;simp only [repN] at h;exact ⟨fun e=>by rw [if_pos e] at h;exact h,fun e=>by rw [if_neg e] at h;exact h.symm⟩
theorem repN_end {s c:List Sta} {acs:List Act} (h:repN c (acs.drop acs.length) acs.length=repN s acs 0):repN s acs 0=(c,acs.length,0):=by
 rw [List.drop_length] at h;exact h.symm
def mix (f g:Sta→List Vm.D) (l:List Sta) (i:Nat):List (List Vm.D):=(l.take i).map f++(l.drop i).map g
theorem mix_len {f g:Sta→List Vm.D} {l:List Sta} {i:Nat} (h:i≤l.length):(mix f g l i).length=l.length:=by
 simp [mix];omega
theorem mix_zero (f g:Sta→List Vm.D) (l:List Sta):mix f g l 0=l.map g:=by simp [mix]
theorem mix_full (f g:Sta→List Vm.D) (l:List Sta):mix f g l l.length=l.map f:=by simp [mix]
theorem mix_step {f g:Sta→List Vm.D} {l:List Sta} {i:Nat} {x:Sta} (h:l[i]?=some x):(mix f g l i)[i]?=some (g x)∧(mix f g l i).set i (f x)=mix f g l (i+1):=by
 have hlt:i<l.length:=by
  rcases Nat.lt_or_ge i l.length with h2 | h2
  ·exact h2
  ·rw [List.getElem?_eq_none h2] at h;cases h
 have e:((l.take i).map f).length=i:=by simp;omega
 constructor
 ·rw [mix,List.getElem?_append_right (by omega),e,Nat.sub_self,drop_at h];rfl
 ·rw [mix,List.set_append_right _ _ (by omega),e,Nat.sub_self,drop_at h,mix,take_at h];simp
theorem mix_nl {f g:Sta→List Vm.D} (hf:∀ x,Vm.nlL (f x)=true) (hg:∀ x,Vm.nlL (g x)=true) (l:List Sta) (i:Nat):Vm.nlR (mix f g l i)=true:=by
 rw [mix,Vm.nlR_append,Vm.nlR_map hf,Vm.nlR_map hg];rfl
theorem own_v (xs:List Sta) (hl:xs.length<1000000000) (hs:∀ s,s∈xs→s.l.length<1000000000):Vm.VC T 58 [.imm 3 (xs.map dS)] fun d=>d=.fresh 3 (xs.map dF):=by
 refine Vm.ve (T:=T) Tryz.func58 fun g hB hG0 hU=>?_;simp only [Tryz.f58,Vm.aC,Vm.aN,Nat.reduceAdd];refine Vm.rn (ai xRRep @nlR_dF) ?_
 (have hh:=ai xRRep @nlR_dF;refine Vm.call_eqI2 (cloneS_v (es:=xs.map dS) (by simpa using hl)) (Vm.cl hh) (Vm.rn hh ?_);clear hh)
 refine Vm.sk_loop (fun i:Nat=>xs.length - i) (fun i=>⟨[(9,.atom (.int .i64 i)),(8,.atom (.int .i64 xs.length)),(3,.own 0 xs.length)],[.sl 3 (mix dF dS xs i)],24⟩) (fun i=>i≤xs.length) 0 ?_ (Nat.zero_le _) ?_
 ·rw [mix_zero];exact Vm.lx (Vm.cl (ai xRRep @nlR_dF))
 intro i hi ih;have hml:=mix_len (f:=dF) (g:=dS) hi;refine Vm.rn (ai xRRep @nlR_dF) ?_;refine Vm.sb_dec (fun hlt=>?_) (fun hge=>?_)
 ·obtain ⟨y,hy,_⟩:=row_at (f:=dS) (l:=xs) (i:=i) (by omega);obtain ⟨m1,m2⟩:=mix_step (f:=dF) (g:=dS) hy;have hnl:=mix_nl (f:=dF) (g:=dS) (fun _=>rfl) (fun _=>rfl) xs (i+1);simp only [dS] at m1;simp only [dF] at m2;refine Vm.rn (ai xRRep<|ai @nlR_dF<|ai @m1 @hml) ?_;refine Vm.cq (ai xRRep<|ai @nlR_dF<|ai @m1<|ai @hml @Vm.overD.eq_1) (cloneI_v (es:=y.l.map dI) (by simpa using hs y (List.mem_of_getElem? hy))) ?_;refine ih (i+1) _ (by dsimp only;omega) (by omega) ?_;exact Vm.lx (Vm.cl (ai xRRep<|ai @nlR_dF<|ai @m2 @hnl))
 ·have:i=xs.length:=by omega
  subst this;rw [mix_full];refine Vm.rn (ai xRRep @nlR_dF) ?_;exact Vm.rx (Vm.cl (ai xRRep @nlR_dF))
set_option linter.defProp false in
def xRRep2:=ai @prLL_dI<|ai @pr_dF<|ai @prLL_dF<|ai @nlR_dI<|ai @Vm.nlR_append<|ai @nlR_dF @Vm.dl8
def dIA (p:Int×Act):List Vm.D:=[.atom (.int .i64 p.1),.agg (dA p.2)]
def ActI (a:Act):Prop:=I64 a.op.a∧I64 a.op.b
theorem act_at {c:List Sta} {a:Act} (h1:¬ a.o<0) (h2:¬ (c.length:Int)≤a.o):∃ (j:Nat) (x:Sta),a.o=j∧j<c.length∧c[j]?=some x∧(c.map dF)[j]?=some [.atom (.int .i64 x.t),.atom (.int .i64 x.n),.fresh 1 (x.l.map dI)]∧x∈c∧actA c a=appF x a.op.k a.op.a a.op.b ∧
  nextA c a=c.set j (appF x a.op.k a.op.a a.op.b).s:=by
 obtain ⟨j,hj⟩:∃ j:Nat,a.o=j:=⟨a.o.toNat,by omega⟩
 have hlt:j<c.length:=by omega
 have hg:=List.getElem?_eq_getElem hlt;have e:c.getD a.o.toNat z0=c[j]:=by rw [hj,Int.toNat_natCast,List.getD_eq_getElem?_getD,hg];rfl
 refine ⟨j,c[j],hj,hlt,hg,by rw [List.getElem?_map,hg];rfl,List.getElem_mem hlt,by rw [actA,e],?_⟩;rw [nextA,actA,e,hj,Int.toNat_natCast]
theorem done_v (s:List Sta) {f:FuncId} {caps:List Vm.D} {ias:List (Int×Act)} (hG:Vm.VGC T f caps [] (ias.map dIA)) (hpf:T.prim f=none) (hnl:Vm.nlL caps=true) (hl:s.length<1000000000) (hn:ias.length<1000000000) (hf:FitS s ias.length)
  (hi:∀ p,p∈ias→ActI p.2):Vm.VC T 38 [.imm 3 (s.map dS),.fn f [] caps] fun d=>d=dRep (repN s (ias.map (·.2)) 0):=by
 refine Vm.VC.dl ?_;refine Vm.ve (T:=T) Tryz.func38 fun g hB hG0 hU=>?_;simp only [Tryz.f38,Vm.aC,Vm.aN,Nat.reduceAdd];refine Vm.rn xRRep2 ?_;refine Vm.cq xRRep2 (own_v s hl hf.one) ?_;refine Vm.vw (T:=T) Tryz.func59 fun _ hGi hUi=>?_;simp only [Tryz.f59,Vm.aC,Vm.aN,Nat.reduceAdd];refine Vm.rn xRRep2 ?_;refine Vm.sk_rangeI hG hpf (by assumption) (fun i so=>∃ cur:List Sta,cur.length=s.length∧FitS cur (ias.length - i)∧repN cur ((ias.map (·.2)).drop i) i=repN s (ias.map (·.2)) 0∧so=[.sl 3 (cur.map dF),.cell [.own 0 s.length],.cell [.atom (.int .i64 i)],.cell [.atom (.int .i64 0)]]) (fun e so=>e=.exit 0∧∃ (n:Nat) (e':Int),e'≠0∧repN s (ias.map (·.2)) 0=([],n,e')∧so=[.dead,.dead,.cell [.atom (.int .i64 n)],.cell [.atom (.int .i64 e')]]) (by exact rfl) hnl ?_ ?_ ?_ ?_ ?_
 ·intro x hx;obtain ⟨p,_,rfl⟩:=List.mem_map.1 hx
  rfl
 ·exact ⟨s,rfl,hf,rfl,rfl⟩
 ·rintro i y so' hx ⟨cur,hcl,hcf,hrep,rfl⟩;intro g2 hU2 hr2 hL2;rw [Vm.putAllD_so] at hL2
  have hlt:i<ias.length:=by
   rcases Nat.lt_or_ge i ias.length with h | h
   ·exact h
   ·rw [List.getElem?_eq_none (by simpa using h)] at hx;cases hx
  rw [List.getElem?_map,Option.map_eq_some_iff] at hx;obtain ⟨⟨i0,a⟩,hp,rfl⟩:=hx;have ha:(ias.map (·.2))[i]?=some a:=by rw [List.getElem?_map,hp];rfl
  obtain ⟨st1,st2⟩:=repN_step ha hrep;obtain ⟨hi1,hi2⟩:=hi _ (List.mem_of_getElem? hp);dsimp only at hi1 hi2;have hml:(cur.map dF).length=s.length:=by rw [List.length_map,hcl]
  refine Vm.rn (ai xRRep2<|ai @dIA.eq_1<|ai @dA.eq_1<|ai @List.zip_cons_cons.{0,0}<|ai @List.zip_nil_left.{0,0}<|ai @Vm.putAllD_cons @Vm.putAllD_nil) ?_;refine Vm.mid_ok fun g3 hU3 hr3 hL3=>?_
  by_cases h1:a.o<0
  ·have he:errA cur a=3:=by rw [errA,if_pos (.inl h1)]
   refine Vm.rn (ai xRRep2<|ai @h1 @Vm.overD.eq_1) ?_;refine Vm.su_le (Vm.le_kills (ks:=[0,1]) (by simp)) ?_;simp only [Vm.kills_cons,Vm.kills_nil,List.set_cons_zero,List.set_cons_succ];refine Vm.nx ([.dead,.dead,.cell [.atom (.int .i64 (i+1:Nat))],.cell [.atom (.int .i64 3)]]) (Vm.cl xRRep2) (Vm.end_exit ?_);exact ⟨rfl,i+1,3,by decide,by rw [← he];exact st2 (by rw [he];decide),rfl⟩
  by_cases h2:(cur.length:Int)≤a.o
  ·have he:errA cur a=3:=by rw [errA,if_pos (.inr h2)]
   have h2':(s.length:Int)≤a.o:=by omega
   refine Vm.rn (ai xRRep2<|ai @h1<|ai @h2'<|ai @hml @Vm.overD.eq_1) ?_;refine Vm.su_le (Vm.le_kills (ks:=[0,1]) (by simp)) ?_;simp only [Vm.kills_cons,Vm.kills_nil,List.set_cons_zero,List.set_cons_succ];refine Vm.nx ([.dead,.dead,.cell [.atom (.int .i64 (i+1:Nat))],.cell [.atom (.int .i64 3)]]) (Vm.cl xRRep2) (Vm.end_exit ?_);exact ⟨rfl,i+1,3,by decide,by rw [← he];exact st2 (by rw [he];decide),rfl⟩
  obtain ⟨j,x,hj,hjl,hxj,hrow,hxm,hact,hnext⟩:=act_at h1 h2;have h2':¬ (s.length:Int)≤a.o:=by omega
  have herr:errA cur a=if (appF x a.op.k a.op.a a.op.b).e≠0 then (appF x a.op.k a.op.a a.op.b).e else if (appF x a.op.k a.op.a a.op.b).r≠a.op.r then 9 else 0:=by rw [errA,if_neg (by omega),hact]
  have h3:¬ (s.length:Int)≤(j:Int):=by omega
  have h4:(j:Int)<s.length:=by omega
  have h5:¬ (j:Int)<0:=by omega
  rw [hj]
  (have hh:=ai xRRep2<|ai @h3<|ai @h5<|ai @hml @Vm.overD.eq_1;refine Vm.r1 hh ?_;refine Vm.r1 hh ?_;refine Vm.r1 hh ?_;refine Vm.r1 hh ?_;refine Vm.r1 hh ?_;clear hh)
  refine Vm.sk_promote 0 j 2 ⟨rfl,rfl,rfl⟩ (by exact rfl) hrow rfl ?_;simp only [List.set_cons_zero,List.set_cons_succ,List.length_cons,List.length_nil,List.cons_append,List.nil_append,Nat.reduceAdd,List.length_map]
  have hrow2:((cur.map dF).set j [Vm.D.atom (V.int IntKind.i64 x.t),Vm.D.atom (V.int IntKind.i64 x.n),Vm.D.own 5 x.l.length])[j]?=some [Vm.D.atom (V.int IntKind.i64 x.t),Vm.D.atom (V.int IntKind.i64 x.n),Vm.D.own 5 x.l.length]:=by
   rw [List.getElem?_set_self (by simpa using hjl)]
  have hml2:((cur.map dF).set j [Vm.D.atom (V.int IntKind.i64 x.t),Vm.D.atom (V.int IntKind.i64 x.n),Vm.D.own 5 x.l.length]).length=s.length:=by rw [List.length_set];exact hml
  have hset:∀ q:Ans,(cur.map dF).set j [Vm.D.atom (V.int IntKind.i64 q.s.t),Vm.D.atom (V.int IntKind.i64 q.s.n),Vm.D.fresh 1 (q.s.l.map dI)]=(cur.set j q.s).map dF:=fun q=>by rw [List.map_set];rfl
  have hxl:=hcf.one x hxm;refine Vm.dw 16 [0,1,2,3,4,5,6,7,8,9,12,13,10,11,14,15] ?_;refine Vm.rn (ai xRRep2<|ai @hrow2<|ai @hml2<|ai @h3 @h4) ?_
  (have hh:=ai xRRep2<|ai @dS.eq_1<|ai @dO.eq_1<|ai @dLeg.eq_1<|ai @dF.eq_1<|ai @Am.vt @Vm.overD.eq_1;(first | refine Vm.callQ_eq2 (mlegal_v x a.op hxl hi1 hi2) (Vm.ct hh) (Vm.rt hh ?_) | refine Vm.call_eq2 (mlegal_v x a.op hxl hi1 hi2) (Vm.ct hh) (Vm.rt hh ?_));clear hh)
  generalize appF x a.op.k a.op.a a.op.b=q at herr hnext hact
  by_cases he:q.e=0
  ·by_cases hr:q.r=a.op.r
   ·have e0:errA cur a=0:=by rw [herr,if_neg (by simpa using he),if_neg (by simpa using hr)]
    have hok:okA q a.op.r=true:=by simp [okA,he,hr]
    refine Vm.rn (ai xRRep2<|ai @he<|ai @hok<|ai @hrow2<|ai @hml2<|ai @hml<|ai @h3<|ai @h4 @Vm.overD.eq_1) ?_;refine Vm.nx ([.sl 3 ((cur.set j q.s).map dF),.cell [.own 0 s.length],.cell [.atom (.int .i64 (i+1:Nat))],.cell [.atom (.int .i64 0)]]) (Vm.cl (ai xRRep2<|ai @hset @List.set_set.{0})) (Vm.end_normal ?_);refine ⟨cur.set j q.s,by simpa using hcl,?_,?_,rfl⟩
    ·rw [← hnext];refine FitS.next ?_ (by rw [hj];exact hjl)
     rw [show ias.length - (i+1)+1=ias.length - i by omega];exact hcf
    ·rw [← hnext];exact st1 e0
   ·have e0:errA cur a=9:=by rw [herr,if_neg (by simpa using he),if_pos hr]
    have hok:okA q a.op.r=false:=by simp [okA,he,hr]
    refine Vm.rn (ai xRRep2<|ai @he<|ai @hok @Vm.overD.eq_1) ?_;refine Vm.su_le (Vm.le_kills (ks:=[0,1]) (by simp)) ?_;simp only [Vm.kills_cons,Vm.kills_nil,List.set_cons_zero,List.set_cons_succ];refine Vm.nx ([.dead,.dead,.cell [.atom (.int .i64 (i+1:Nat))],.cell [.atom (.int .i64 9)]]) (Vm.cl xRRep2) (Vm.end_exit ?_);exact ⟨rfl,i+1,9,by decide,by rw [← e0];exact st2 (by rw [e0];decide),rfl⟩
  ·have e0:errA cur a=q.e:=by rw [herr,if_pos he]
   refine Vm.rn (ai xRRep2<|ai @he @Vm.overD.eq_1) ?_;refine Vm.su_le (Vm.le_kills (ks:=[0,1]) (by simp)) ?_;simp only [Vm.kills_cons,Vm.kills_nil,List.set_cons_zero,List.set_cons_succ];refine Vm.nx ([.dead,.dead,.cell [.atom (.int .i64 (i+1:Nat))],.cell [.atom (.int .i64 q.e)]]) (Vm.cl xRRep2) (Vm.end_exit ?_);exact ⟨rfl,i+1,q.e,he,by rw [← e0];exact st2 (by rw [e0];exact he),rfl⟩
 ·rintro so' ⟨cur,hcl,hcf,hrep,rfl⟩;have hend:=repN_end (acs:=ias.map (·.2)) (by simpa using hrep);rw [List.length_map] at hend;rw [hend];have hml:(cur.map dF).length=s.length:=by rw [List.length_map,hcl]
  have hml0:(ias.map dIA).length=ias.length:=List.length_map _;refine Vm.rn xRRep2 ?_;refine Vm.dv 4 [0,2,1,3] [0,0,1,7] ?_;refine Vm.rt (ai xRRep2 @Vm.overD.eq_1) ?_;refine Vm.rn (ai xRRep2 @Vm.overD.eq_1) ?_;refine Vm.rm (Vm.s1 (ai xRRep2 @hml0) ?_);refine Vm.rn (ai xRRep2 @hml) ?_;exact Vm.rx (Vm.cl (ai xRRep2<|ai @dRep.eq_1 @hml))
 ·rintro e so' ⟨rfl,n,e',he,hr,rfl⟩;rw [hr];refine Vm.rn xRRep2 ?_;refine Vm.dv 4 [0,2,1,3] [0,0,1,7] ?_;refine Vm.rt (ai xRRep2 @Vm.overD.eq_1) ?_;refine Vm.rn (ai xRRep2 @Vm.overD.eq_1) ?_;refine Vm.rm (Vm.s1 xRRep2 ?_);refine Vm.rn (ai xRRep2 @he) ?_;exact Vm.rx (Vm.cl (ai xRRep2 @dRep.eq_1))
end Go.Proofs.YtphjohoipocpnaaGreat.W
