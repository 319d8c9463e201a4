import Derived.Test.YtphjohoipocpnaaGreatRkH
import Derived.Test.YtphjohoipocpnaaGreatRkF
import Derived.Test.YtphjohoipocpnaaGreatRkA
import Derived.Test.YtphjohoipocpnaaGreatVmD
set_option linter.unusedSimpArgs false
set_option linter.unusedVariables false
set_option maxRecDepth 8000
/- A case's size, its places: both answers. No conditions. -/
namespace Go.Proofs.YtphjohoipocpnaaGreat.W
open Go.Am
set_option linter.defProp false in
def xRPrj1:=ai @prLL_dI<|ai @imLL_I<|ai @nlR_dI @Vm.nlR_append
def dII (l:List Int):List Vm.D:=[.imm 1 (l.map dI)]
theorem nlR_dII (xs:List (List Int)):Vm.nlR (xs.map dII)=true:=Vm.nlR_map (fun x=>rfl) xs
theorem imLL_dII:∀ xs:List (List Int),Vm.imLL (xs.map dII)=xs.map dII
 | []=>rfl
 | x::xs=>by simp only [List.map_cons,Vm.imLL,imLL_dII xs];rfl
def FitC (c:Cas):Prop:=c.names.length < 1000000∧c.first.length < 1000000∧c.trans.length < 1000000∧(∀ s,s ∈ c.first→s.l.length < 1000000000)∧∀ t,t ∈ c.trans→t.acts.length < 100∧t.at_.length < 100
def sumA (l:List Tra):Nat:=(l.map fun t=>t.acts.length).sum
theorem sumA_step {l:List Tra} {i:Nat} {t:Tra} (h:l[i]?=some t):sumA (l.take (i + 1))=sumA (l.take i) + t.acts.length:=by
 rw [take_at h];simp [sumA]
theorem sumA_le {l:List Tra} (h:∀ t,t ∈ l→t.acts.length < 100):∀ i,i≤l.length→sumA (l.take i)≤100 * i
 | 0,_=>by simp [sumA]
 | i + 1,hi=>by
   have h1:l[i]?=some l[i]:=List.getElem?_eq_getElem (by omega)
   have h2:=sumA_le h i (by omega)
   have h3:=h _ (List.mem_of_getElem? h1)
   rw [sumA_step h1];omega
def riseB:List Int→Bool
 | a::b::r=>decide (a < b) && riseB (b::r)
 | _=>true
theorem rise_step {l:List Int} {i:Nat} {x y:Int} (hx:l[i]?=some x) (hy:l[i + 1]?=some y):riseB (l.drop i)=(decide (x < y) && riseB (l.drop (i + 1))):=by
 rw [drop_at hx,drop_at hy];rfl
theorem rise_end {l:List Int} {i:Nat} (h:l.length≤i + 1):riseB (l.drop i)=true:=by
 have:(l.drop i).length≤1:=by rw [List.length_drop];omega
 match l.drop i,this with
 | [],_=>rfl
 | [_],_=>rfl
 | _::_::_,h=>simp at h
def fnz:List Int→Int
 | []=>0
 | e::r=>if e=0 then fnz r else e
theorem fnz_step {l:List Int} {i:Nat} {e:Int} (h:l[i]?=some e):fnz (l.drop i)=if e=0 then fnz (l.drop (i + 1)) else e:=by
 rw [drop_at h];rfl
theorem fnz_end {l:List Int} {i:Nat} (h:l.length≤i):fnz (l.drop i)=0:=by
 rw [List.drop_of_length_le h];rfl
def placesT (t:Tra):List Int:=[t.b]++t.at_++[t.c]
theorem grow_v (n:Int) (h0:0≤n) (hn:n < 1000000000):Vm.VC T 106 [.atom .nilSlice,.atom (.int .i64 n)] fun d=>d=.fresh 1 []:=by
 refine Vm.vc_am fun P H vs wf r=>?_
 obtain ⟨v,ws,G1,G2,rfl,hF,q1,q2⟩:=r.uncons
 obtain ⟨w,rfl,q3⟩:=q2.one
 obtain ⟨rfl,rfl⟩:=q1.atomInv
 obtain ⟨rfl,rfl⟩:=q3.atomInv
 have ha:Vm.growOk T 24 3=true:=by kernel_rfl
 have e1:∀ H:Heap,Am.builtin T H .cap #[24] [V.nilSlice]=.val (.int .i64 0) H:=fun H=>by kernel_rfl
 have e2:∀ H:Heap,sliceOp T H 24 .nilSlice none (some (.int .i64 0)) none=some .nilSlice:=fun H=>by kernel_rfl
 have e3:∀ (H:Heap) (l m:Nat),sliceOp T H 24 (.slice l 0 m 1 none) none (some (.int .i64 0)) none=some (.slice l 0 0 1 none):=fun H l m=>by kernel_rfl
 have e4:((0:Nat):Int)=0:=rfl
 have e0:∀ n:Int,n - (0 - 0)=n:=fun n=>by omega
 refine Am.calls_enter (T:=T) rfl Tryz.func106 rfl (by simp only [Tryz.f106,List.length_cons,List.length_nil];decide) ?_
 simp only [Tryz.f106]
 simp (maxSteps:=10000000) (disch:=first | assumption | (simp only [tyfacts,Am.wd,Nat.reduceEqDiff,Nat.reduceLT,reduceCtorEq];try omega;done) | omega) only [Am.wanted,Am.isAlloc,Am.wa,Am.reads,Am.quiet,Am.over,Nat.testBit,Nat.reduceShiftRight,Nat.reduceAnd,Nat.reduceBNe,Nat.reduceLeDiff,Nat.reduceAdd,Nat.reduceMul,Nat.reduceLT,Nat.reduceEqDiff,Nat.reduceSub,reduceCtorEq,↓reduceIte,tyfacts]
 refine wpB_dec (fun h=>by omega) (fun _=>?_)
 simp (maxSteps:=10000000) (disch:=first | assumption | (simp only [tyfacts,Am.wd,Nat.reduceEqDiff,Nat.reduceLT,reduceCtorEq];try omega;done) | omega) only [Am.wanted,Am.isAlloc,Am.wa,Am.reads,Am.quiet,Am.over,Nat.testBit,Nat.reduceShiftRight,Nat.reduceAnd,Nat.reduceBNe,Nat.reduceLeDiff,Nat.reduceAdd,Nat.reduceMul,Nat.reduceLT,Nat.reduceEqDiff,Nat.reduceSub,reduceCtorEq,↓reduceIte,tyfacts,e1,xo_slice_tmp,evalOpt_none,evalOpt_tmp,e2]
 refine wpB_dec (fun h=>?_) (fun h=>?_)
 · obtain ⟨cs,hap⟩:=Vm.append_grow (H:=H) ha (n:=n) (by omega) hn
   simp (maxSteps:=10000000) (disch:=first | assumption | (simp only [tyfacts,Am.wd,Nat.reduceEqDiff,Nat.reduceLT,reduceCtorEq];try omega;done) | omega) only [Am.wanted,Am.isAlloc,Am.wa,Am.reads,Am.quiet,Am.over,Nat.testBit,Nat.reduceShiftRight,Nat.reduceAnd,Nat.reduceBNe,Nat.reduceLeDiff,Nat.reduceAdd,Nat.reduceMul,Nat.reduceLT,Nat.reduceEqDiff,Nat.reduceSub,reduceCtorEq,↓reduceIte,tyfacts,e0,e4,e1,xo_slice_tmp,evalOpt_none,evalOpt_tmp,e2,e3,hap]
   have hm:Mine H.n (H.push (.cells false cs)) (.slice H.n 0 0 1 none) 1 []:=⟨by simp,.inr ⟨H.n,none,[],cs,rfl,Nat.le_refl _,by rw [get_push_same];rfl,fun m hm=>by cases hm⟩⟩
   obtain ⟨K,q,nd,hK⟩:=Vm.fresh_of_rows (P:=P) (μ:=[]) (es:=[]) hm (show Vm.RL P _ [] [] [] [] from .nil) (by simp) rfl (by simp)
   exact ⟨⟨_,K,rfl,q,nd,hK⟩,(Ext.refl wf).push _⟩
 · simp (maxSteps:=10000000) (disch:=first | assumption | (simp only [tyfacts,Am.wd,Nat.reduceEqDiff,Nat.reduceLT,reduceCtorEq];try omega;done) | omega) only [Am.wanted,Am.isAlloc,Am.wa,Am.reads,Am.quiet,Am.over,Nat.testBit,Nat.reduceShiftRight,Nat.reduceAnd,Nat.reduceBNe,Nat.reduceLeDiff,Nat.reduceAdd,Nat.reduceMul,Nat.reduceLT,Nat.reduceEqDiff,Nat.reduceSub,reduceCtorEq,↓reduceIte,tyfacts]
   exact ⟨⟨_,[],rfl,.freshNil .nil,by simp,by simp⟩,Ext.refl wf⟩
theorem concat_v (L:List (List Int)) (h1:L.length < 1000) (h2:L.flatten.length < 1000000):Vm.VC T 77 [.imm 1 (L.map dII)] fun d=>d=.fresh 1 (L.flatten.map dI):=by
 have hs:∀ {i x},L[i]?=some x→(L.take (i + 1)).flatten.length=(L.take i).flatten.length + x.length:=fun {i x} h=>by rw [take_at h];simp
 have hb:∀ i,(L.take i).flatten.length≤L.flatten.length:=fun i=>by
  have:=congrArg (fun l=>l.flatten.length) (List.take_append_drop i L)
  simp only [List.flatten_append,List.length_append] at this;omega
 refine Vm.vc_enter (T:=T) rfl Tryz.func77 rfl (by simp only [Tryz.f77,List.length_cons,List.length_nil];decide) fun g hB hG0 hU=>?_
 simp only [Tryz.f77,Vm.argsTm_cons,Vm.argsTm_nil,Nat.reduceAdd]
 refine Vm.rn (ai xRPrj1<|ai @imLL_dII @nlR_dII) ?_
 refine Vm.sk_loop (fun i:Nat=>L.length - i) (fun i=>⟨[(0,.imm 1 (L.map dII)),(3,.atom (.int .i64 ((L.take i).flatten.length:Nat))),(9,.imm 1 (L.map dII)),(10,.atom (.int .i64 L.length)),(11,.atom (.int .i64 i))],[],36⟩) (fun i=>i≤L.length) 0 ?_ (Nat.zero_le _) ?_
 · exact Vm.lx (Vm.cl (ai xRPrj1<|ai @imLL_dII<|ai @nlR_dII @List.take_zero.{0}))
 · intro i hi ih
   refine Vm.rn (ai xRPrj1<|ai @imLL_dII @nlR_dII) ?_
   refine Vm.sb_dec (fun hlt=>?_) (fun hge=>?_)
   · obtain ⟨x,hx,g1⟩:=row_at (f:=dII) (l:=L) (i:=i) (by omega)
     have hs1:=hs hx
     have hb1:=hb (i + 1)
     have hnn:¬ ((L.take i).flatten.length:Int) + x.length < 0:=by omega
     simp only [dII] at g1
     refine Vm.rn (ai xRPrj1<|ai @imLL_dII<|ai @nlR_dII<|ai @g1 @hnn) ?_
     refine ih (i + 1) _ (by dsimp only;omega) (by omega) ?_
     exact Vm.lx (Vm.cl (ai xRPrj1<|ai @imLL_dII<|ai @nlR_dII<|ai @hs1 @Int.natCast_add))
   · have:i=L.length:=by omega
     subst this
     rw [List.take_length]
     refine Vm.rn (ai xRPrj1<|ai @imLL_dII @nlR_dII) ?_
     (have hh:=ai xRPrj1<|ai @imLL_dII @nlR_dII;refine Vm.call_eq2 (grow_v (L.flatten.length) (by omega) (by omega)) (Vm.cl hh) (Vm.rn hh ?_);clear hh)
     refine Vm.sk_loop (fun i:Nat=>L.length - i) (fun i=>⟨[(6,.own 0 (L.take i).flatten.length),(25,.imm 1 (L.map dII)),(26,.atom (.int .i64 L.length)),(27,.atom (.int .i64 i))],[.sl 1 ((L.take i).flatten.map dI)],36⟩) (fun i=>i≤L.length) 0 ?_ (Nat.zero_le _) ?_
     · exact Vm.lx (Vm.cl (ai xRPrj1<|ai @imLL_dII<|ai @nlR_dII @List.take_zero.{0}))
     intro i hi ih
     refine Vm.rn (ai xRPrj1<|ai @imLL_dII @nlR_dII) ?_
     refine Vm.sb_dec (fun hlt=>?_) (fun hge=>?_)
     · obtain ⟨x,hx,g1⟩:=row_at (f:=dII) (l:=L) (i:=i) (by omega)
       have hs1:=hs hx
       have hb1:=hb (i + 1)
       have hf:(L.take (i + 1)).flatten.map dI=(L.take i).flatten.map dI++x.map dI:=by rw [take_at hx];simp
       simp only [dII] at g1
       refine Vm.rn (ai xRPrj1<|ai @imLL_dII<|ai @nlR_dII @g1) ?_
       refine ih (i + 1) _ (by dsimp only;omega) (by omega) ?_
       exact Vm.lx (Vm.cl (ai xRPrj1<|ai @imLL_dII<|ai @nlR_dII<|ai @hs1 @hf))
     · have:i=L.length:=by omega
       subst this
       rw [List.take_length]
       refine Vm.rn (ai xRPrj1<|ai @imLL_dII @nlR_dII) ?_
       exact Vm.rx (Vm.cl (ai xRPrj1<|ai @imLL_dII @nlR_dII))
theorem lit_r3 (x:List Vm.D):List.replicate 3 x=[x,x,x]:=rfl
theorem rows_3 (a b c:Vm.D):Vm.rowsOf 1 3 [a,b,c]=[[a],[b],[c]]:=rfl
theorem places_v (t:Tra) (h:t.at_.length < 100):Vm.VC T 53 [.agg (dT t)] fun d=>d=.fresh 1 ((placesT t).map dI):=by
 have e:[[t.b],t.at_,[t.c]].flatten=placesT t:=by simp [placesT]
 have hc:=concat_v [[t.b],t.at_,[t.c]] (by simp) (by simp;omega)
 rw [e] at hc
 simp only [dII,List.map_cons,List.map_nil,dI] at hc
 refine Vm.vc_enter (T:=T) rfl Tryz.func53 rfl (by simp only [Tryz.f53,List.length_cons,List.length_nil];decide) fun g hB hG0 hU=>?_
 simp only [Tryz.f53,Vm.argsTm_cons,Vm.argsTm_nil,Nat.reduceAdd]
 refine Vm.rn (ai xRPrj1<|ai @imLL_dII<|ai @nlR_dII<|ai @dT.eq_1<|ai @lit_r3<|ai @Vm.overD.eq_1 @rows_3) ?_
 (have hh:=ai xRPrj1<|ai @imLL_dII<|ai @nlR_dII @dI.eq_1;refine Vm.call_eq2 (hc) (Vm.cl hh) (Vm.rn hh ?_);clear hh)
 exact Vm.rx (Vm.cl (ai xRPrj1<|ai @imLL_dII<|ai @nlR_dII @dI.eq_1))
theorem size_v (c:Cas) (hc:FitC c):Vm.VC T 32 [.agg (dC c)] fun d=>d=.tuple [.atom (.int .i64 c.trans.length),.atom (.int .i64 (sumA c.trans:Nat))]:=by
 obtain ⟨f1,f2,f3,f4,f5⟩:=hc
 have hz:sumA []=0:=rfl
 refine Vm.vc_enter (T:=T) rfl Tryz.func32 rfl (by simp only [Tryz.f32,List.length_cons,List.length_nil];decide) fun g hB hG0 hU=>?_
 simp only [Tryz.f32,Vm.argsTm_cons,Vm.argsTm_nil,Nat.reduceAdd]
 refine Vm.rn (ai xRPrj1<|ai @imLL_dII<|ai @nlR_dII @dC.eq_1) ?_
 refine Vm.sk_loop (fun i:Nat=>c.trans.length - i) (fun i=>⟨[(1,.rptr 0 0),(4,.atom (.int .i64 (sumA (c.trans.take i):Nat))),(8,.imm 5 (c.trans.map dT)),(9,.atom (.int .i64 c.trans.length)),(10,.atom (.int .i64 i))],[.cell (dC c)],24⟩) (fun i=>i≤c.trans.length) 0 ?_ (Nat.zero_le _) ?_
 · exact Vm.lx (Vm.cl (ai xRPrj1<|ai @imLL_dII<|ai @nlR_dII<|ai @dC.eq_1<|ai @List.take_zero.{0} @hz))
 intro i hi ih
 refine Vm.rn (ai xRPrj1<|ai @imLL_dII @nlR_dII) ?_
 refine Vm.sb_dec (fun hlt=>?_) (fun hge=>?_)
 · obtain ⟨t,ht,g1⟩:=row_at (f:=dT) (l:=c.trans) (i:=i) (by omega)
   have hs1:=sumA_step ht
   have hb1:=sumA_le (fun t ht=>(f5 t ht).1) i hi
   have hb2:=(f5 t (List.mem_of_getElem? ht)).1
   simp only [dT] at g1
   refine Vm.rn (ai xRPrj1<|ai @imLL_dII<|ai @nlR_dII @g1) ?_
   refine ih (i + 1) _ (by dsimp only;omega) (by omega) ?_
   exact Vm.lx (Vm.cl (ai xRPrj1<|ai @imLL_dII<|ai @nlR_dII<|ai @hs1<|ai @Int.natCast_add @dC.eq_1))
 · have:i=c.trans.length:=by omega
   subst this
   rw [List.take_length]
   refine Vm.rn (ai xRPrj1<|ai @imLL_dII<|ai @nlR_dII @dC.eq_1) ?_
   exact Vm.rx (Vm.cl (ai xRPrj1<|ai @imLL_dII @nlR_dII))
set_option linter.defProp false in
def xRPrj2:=ai @prLL_dI<|ai @imLL_I<|ai @nlR_dI @Vm.nlR_append
def typAt (l:List Sta) (n:Int):Int:=match l[n.toNat]? with
 | some s=>s.t
 | none=>0
def actE (c:Cas) (a:Act):Int:=
 if a.o < 0∨(c.first.length:Int)≤a.o then 3 else if opE a.op ≠ 0 then opE a.op else if (typO a.op.k).1 ≠ typAt c.first a.o then 8 else 0
theorem act_v (c:Cas) (a:Act):Vm.VC T 76 [.agg (dC c),.agg (dA a)] fun d=>d=.atom (.int .i64 (actE c a)):=by
 refine Vm.vc_enter (T:=T) rfl Tryz.func76 rfl (by simp only [Tryz.f76,List.length_cons,List.length_nil];decide) fun g hB hG0 hU=>?_
 simp only [Tryz.f76,Vm.argsTm_cons,Vm.argsTm_nil,Nat.reduceAdd]
 obtain ⟨o,p⟩:=a
 by_cases g1:o < 0
 · refine Vm.rn (ai xRPrj2<|ai @dC.eq_1<|ai @dA.eq_1 @g1) ?_
   refine Vm.rx (Vm.s1 xRPrj2 ?_)
   rw [actE,if_pos (.inl g1)]
 by_cases g2:(c.first.length:Int)≤o
 · refine Vm.rn (ai xRPrj2<|ai @dC.eq_1<|ai @dA.eq_1<|ai @g1 @g2) ?_
   refine Vm.rx (Vm.s1 xRPrj2 ?_)
   rw [actE,if_pos (.inr g2)]
 obtain ⟨j,rfl⟩:∃ j:Nat,o=j:=⟨o.toNat,by omega⟩
 obtain ⟨x,hx,g3⟩:=row_at (f:=dS) (l:=c.first) (i:=j) (by omega)
 have hf:actE c ⟨j,p⟩=if opE p ≠ 0 then opE p else if (typO p.k).1 ≠ x.t then 8 else 0:=by
  rw [actE,if_neg (by simp only;omega)];simp only [typAt,Int.toNat_natCast,hx]
 rw [hf]
 simp only [dS] at g3
 refine Vm.rn (ai xRPrj2<|ai @dC.eq_1<|ai @dA.eq_1<|ai @dO.eq_1<|ai @g1 @g2) ?_
 (have hh:=ai xRPrj2 @dO.eq_1;refine Vm.call_eq2 (ocheck_v p) (Vm.cl hh) (Vm.rn hh ?_);clear hh)
 by_cases h1:opE p=0
 · refine Vm.rn (ai xRPrj2 @h1) ?_
   (have hh:=ai xRPrj2 @g3;refine Vm.call_eq2 (otype_v p.k) (Vm.cl hh) (Vm.rn hh ?_);clear hh)
   by_cases h2:(typO p.k).1=x.t
   · refine Vm.rn (ai xRPrj2 @h2) ?_
     refine Vm.rx (Vm.s1 xRPrj2 ?_)
     simp [h1,h2]
   · refine Vm.rn (ai xRPrj2 @h2) ?_
     refine Vm.rx (Vm.s1 xRPrj2 ?_)
     simp [h1,h2]
 · refine Vm.rn (ai xRPrj2 @h1) ?_
   refine Vm.rx (Vm.s1 xRPrj2 ?_)
   simp [h1]
def namesT (c:Cas):List (List UInt8):=c.trans.map (·.name)
def allP (l:List Tra):List Int:=(l.map placesT).flatten
theorem allP_step {l:List Tra} {i:Nat} {t:Tra} (h:l[i]?=some t):allP (l.take (i + 1))=allP (l.take i)++placesT t:=by
 rw [take_at h];simp [allP]
theorem allP_le {l:List Tra} (h:∀ t,t ∈ l→t.at_.length < 100):∀ i,i≤l.length→(allP (l.take i)).length≤102 * i
 | 0,_=>by simp [allP]
 | i + 1,hi=>by
   have h1:l[i]?=some l[i]:=List.getElem?_eq_getElem (by omega)
   have h2:=allP_le h i (by omega)
   have h3:=h _ (List.mem_of_getElem? h1)
   rw [allP_step h1,List.length_append];simp [placesT];omega
noncomputable def objE (c:Cas) (i:Nat):Int:=match c.names[i]?,c.first[i]? with
 | some s,some x=>if nameE s ≠ 0 then 7 else if s ∈ c.names.take i then 10 else if checkS x ≠ 0 then checkS x else if 1000 < x.l.length then 4 else 0
 | _,_=>0
noncomputable def objsE (c:Cas):Int:=fnz ((List.range c.names.length).map (objE c))
def prevB (c:Cas):Nat→Int
 | 0=>-1
 | k + 1=>match c.trans[k]? with
   | some t=>t.b
   | none=>-1
def traE (c:Cas) (i:Nat):Int:=match c.trans[i]? with
 | some t=>if nameE t.name ≠ 0 then 7 else if t.name ∈ (namesT c).take i then 10 else if t.at_.length ≠ t.acts.length then 2 else if t.b < 0∨t.b≤prevB c i∨riseB (placesT t)=false then 13 else fnz (t.acts.map (actE c))
 | none=>0
def trsE (c:Cas):Int:=fnz ((List.range c.trans.length).map (traE c))
noncomputable def errC (c:Cas):Int:=if objsE c ≠ 0 then objsE c else trsE c
noncomputable def checkC (c:Cas):Int:=
 if 256 < c.names.length∨4096 < c.trans.length∨1048576 < sumA c.trans then 4 else if c.names.length ≠ c.first.length then 2 else if errC c ≠ 0 then errC c else if (allP c.trans).Nodup then 0 else 13
theorem range_at {f:Nat→Int} {n i:Nat} (h:i < n):((List.range n).map f)[i]?=some (f i):=by simp [h]
theorem name_at {l:List (List UInt8)} {i:Nat} (h:i < l.length):∃ s,l[i]?=some s∧(l.map fun s=>[Vm.D.atom (.str s)])[i]?=some [.atom (.str s)]:=row_at (f:=fun s=>[Vm.D.atom (.str s)]) h
theorem objE_at {c:Cas} {i:Nat} {s:List UInt8} {x:Sta} (h:c.names[i]?=some s) (hx:c.first[i]?=some x):objE c i=if nameE s ≠ 0 then 7 else if s ∈ c.names.take i then 10 else if checkS x ≠ 0 then checkS x else if 1000 < x.l.length then 4 else 0:=by
 simp only [objE,h,hx]
theorem traE_at {c:Cas} {i:Nat} {t:Tra} (h:c.trans[i]?=some t):traE c i=if nameE t.name ≠ 0 then 7 else if t.name ∈ (namesT c).take i then 10 else if t.at_.length ≠ t.acts.length then 2 else if t.b < 0∨t.b≤prevB c i∨riseB (placesT t)=false then 13 else fnz (t.acts.map (actE c)):=by
 simp only [traE,h]
set_option linter.defProp false in
def xRPrj4:=ai @prLL_dI<|ai @imLL_I<|ai @nlR_dI @Vm.nlR_append
def mpN (l:List (List UInt8)):List (V × Vm.D):=l.map fun x=>(V.str x,.unk)
theorem set_new {d':Vm.D} {k:List UInt8}:∀ {xs:List (List UInt8)},k ∉ xs→Vm.vSet (.str k) d' (mpN xs)=some (mpN xs++[(V.str k,d')])
 | [],_=>rfl
 | x::xs,h=>by
   have h1:(k == x)=false:=by simpa using fun e=>h (by simp [e])
   have ih:=set_new (d':=d') (k:=k) (xs:=xs) fun e=>h (by simp [e])
   simp only [mpN] at ih
   simp only [mpN,List.map_cons,Vm.vSet,sameCell,h1,ih,Option.map_some]
   rfl
theorem set_old {d':Vm.D} {k:List UInt8}:∀ {xs:List (List UInt8)},∃ ms,Vm.vSet (.str k) d' (mpN xs)=some ms
 | []=>⟨_,rfl⟩
 | x::xs=>by
   obtain ⟨ms,ih⟩:=set_old (d':=d') (k:=k) (xs:=xs)
   simp only [mpN] at ih
   cases h:(k == x) with
   | true=>exact ⟨_,by simp only [mpN,List.map_cons,Vm.vSet,sameCell,h];rfl⟩
   | false=>exact ⟨_,by simp only [mpN,List.map_cons,Vm.vSet,sameCell,h,ih,Option.map_some];rfl⟩
theorem find_mpN (k:List UInt8) (xs:List (List UInt8)):Vm.vFind (.str k) (mpN xs)=some (if k ∈ xs then some .unk else none):=Vm.zero_str_key k
theorem unk_new (xs:List (List UInt8)) (k:List UInt8) (d:Vm.D):Vm.unkM (mpN xs++[(V.str k,d)])=mpN (xs++[k]):=by simp [Vm.unkM,mpN]
theorem belP_mp0 (n:Nat):Vm.belP n (.mp [])=true:=rfl
theorem nlM_mpN (xs:List (List UInt8)):Vm.nlM (mpN xs)=true:=by
 induction xs with
 | nil=>rfl
 | cons x xs ih=>rw [mpN,List.map_cons];exact ih
theorem belP_mpN (n:Nat) (xs:List (List UInt8)):Vm.belP n (.mp (mpN xs))=true:=by rw [Vm.belP_mp,nlM_mpN];rfl
theorem key_str (s:List UInt8):Am.keyOk T 9 (.str s)=true:=by kernel_rfl
theorem unit_v (so:List Vm.Ob):Vm.vBuild T so 130 []=some (.agg []):=by kernel_rfl
theorem placesI_v (t:Tra) (h:t.at_.length < 100):Vm.VC T 53 [.agg (dT t)] fun d=>d=.imm 1 ((placesT t).map dI):=
 fun P H vs wf pl q=>((places_v t h).im P H vs wf pl q).mono fun v H' ⟨d,P',F',⟨e,h1,h2⟩,rest⟩=>⟨d,P',F',by subst h1;simp only [Vm.imL,Vm.D.im,imLL_I,List.cons.injEq,and_true] at h2;exact h2.symm,rest⟩
theorem dd_nodup:∀ l:List Int,l.Pairwise (·≤·)→((dd l).length=l.length↔l.Nodup)
 | [],_=>by simp [dd]
 | [x],_=>by simp [dd]
 | x::y::l,h=>by
   have ih:=dd_nodup (y::l) h.tail
   have hl:=Vm.dd_len (y::l)
   have hx:=(List.pairwise_cons.1 h).1
   by_cases e:x=y
   · subst e
     have h1:dd (x::x::l)=dd (x::l):=by simp only [dd,if_true]
     rw [h1]
     simp only [List.length_cons] at hl ⊢
     refine ⟨fun h=>by omega,fun h=>?_⟩
     simp at h
   · have h1:dd (x::y::l)=x::dd (y::l):=by simp only [dd,if_neg e]
     rw [h1,List.length_cons,List.length_cons,Nat.add_right_cancel_iff,ih,List.nodup_cons (a:=x)]
     refine ⟨fun hn=>⟨fun hm=>?_,hn⟩,fun hn=>hn.2⟩
     rcases List.mem_cons.1 hm with rfl | hm
     · exact e rfl
     · have h2:=hx y (by simp)
       have h3:=(List.pairwise_cons.1 h.tail).1 _ hm
       omega
theorem dd_sorted (l:List Int):((dd (Vm.sortedI l)).length=l.length↔l.Nodup):=by
 have hp:(Vm.sortedI l).Pairwise (·≤·):=(List.pairwise_mergeSort (fun a b c h1 h2=>by simp at h1 h2 ⊢;omega) (fun a b=>by simp;omega) l).imp fun h=>by simpa using h
 have hm:(Vm.sortedI l).Perm l:=List.mergeSort_perm l _
 rw [← hm.length_eq,dd_nodup _ hp,hm.nodup_iff]
theorem compact2 {f:FuncId} {so:List Vm.Ob} {k m:Nat} {xs:List Int} (hp:T.prim f=some compactP) (hk:so[k]?=some (.sl 1 (xs.map fun z=>[Vm.D.atom (.int .i64 z)]))) (hm:xs.length=m) (hlen:m≤1000000000) :
  Vm.VM T f [.own k m] so fun d so'=>d=.own so.length (dd xs).length∧so'=so.set k .dead++[.sl 1 ((dd xs).map fun z=>[Vm.D.atom (.int .i64 z)])]:=by
 subst hm;exact Vm.compact_v hp hk hlen
set_option maxHeartbeats 8000000 in
theorem checkC_v (c:Cas) (hc:FitC c):Vm.VC T 30 [.agg (dC c)] fun d=>d=.atom (.int .i64 (checkC c)):=by
 obtain ⟨f1,f2,f3,f4,f5⟩:=id hc
 refine Vm.vc_enter (T:=T) rfl Tryz.func30 rfl (by simp only [Tryz.f30,List.length_cons,List.length_nil];decide) fun g hB hG0 hU=>?_
 simp only [Tryz.f30,Vm.argsTm_cons,Vm.argsTm_nil,Nat.reduceAdd]
 refine Vm.rn (ai xRPrj4 @dC.eq_1) ?_
 (have hh:=ai xRPrj4 @dC.eq_1;refine Vm.call_eq2 (size_v c hc) (Vm.cl hh) (Vm.rn hh ?_);clear hh)
 by_cases h1:(256:Int) < c.names.length
 · refine Vm.rn (ai xRPrj4 @h1) ?_
   refine Vm.rx (Vm.s1 xRPrj4 ?_)
   rw [checkC,if_pos (by omega)]
 by_cases h2:(4096:Int) < c.trans.length
 · refine Vm.rn (ai xRPrj4<|ai @h1 @h2) ?_
   refine Vm.rx (Vm.s1 xRPrj4 ?_)
   rw [checkC,if_pos (by omega)]
 by_cases h3:(1048576:Int) < sumA c.trans
 · refine Vm.rn (ai xRPrj4<|ai @h1<|ai @h2 @h3) ?_
   refine Vm.rx (Vm.s1 xRPrj4 ?_)
   rw [checkC,if_pos (by omega)]
 by_cases h4:(c.names.length:Int)=c.first.length
 · have hN:c.names.length=c.first.length:=by omega
   have e0:checkC c=if errC c ≠ 0 then errC c else if (allP c.trans).Nodup then 0 else 13:=by rw [checkC,if_neg (by omega),if_neg (by omega)]
   rw [e0]
   refine Vm.rn (ai xRPrj4<|ai @h1<|ai @h2 @h3) ?_
   refine Vm.rn (ai xRPrj4 @h4) ?_
   refine Vm.sk_loop (fun i:Nat=>c.names.length - i) (fun i=>⟨[(1,.rptr 0 0),(3,.atom (.int .i64 c.trans.length)),(4,.atom (.int .i64 (sumA c.trans:Nat))),(5,.omap 1),(42,.imm 1 (c.names.map fun s=>[.atom (.str s)])),(43,.atom (.int .i64 c.names.length)),(44,.atom (.int .i64 i))],[.cell (dC c),.mp (mpN (c.names.take i))],94⟩) (fun i=>i≤c.names.length∧fnz (((List.range c.names.length).map (objE c)).drop i)=objsE c) 0 ?_ ⟨by omega,by simp [objsE]⟩ ?_
   · exact Vm.lx (Vm.cl (ai xRPrj4<|ai @dC.eq_1<|ai @List.take_zero.{0}<|ai (show mpN []=[] from rfl)<|ai @h4 @belP_mp0))
   rintro i ⟨hi,he⟩ ih
   refine Vm.rn xRPrj4 ?_
   refine Vm.sb_dec (fun hlt=>?_) (fun hge=>?_)
   · obtain ⟨s,hs,gs⟩:=name_at (l:=c.names) (i:=i) (by omega)
     obtain ⟨x,hx,gx⟩:=row_at (f:=dS) (l:=c.first) (i:=i) (by omega)
     have st:=fnz_step (range_at (f:=objE c) (n:=c.names.length) (i:=i) (by omega))
     rw [he] at st
     have ob:=objE_at hs hx
     have hxl:=f4 x (List.mem_of_getElem? hx)
     simp only [dS] at gx
     refine Vm.rn (ai xRPrj4<|ai @gs<|ai @gx @dC.eq_1) ?_
     refine Vm.call_walk (T:=T) rfl Tryz.func51 rfl (by simp only [Tryz.f51,List.length_cons,List.length_nil];decide) fun _ hGi hUi=>?_
     simp only [Tryz.f51,Vm.argsTm_cons,Vm.argsTm_nil,Nat.reduceAdd]
     refine Vm.rn xRPrj4 ?_
     refine Vm.call_eq2 (ncheck_v s) (Vm.cl xRPrj4) (Vm.rn xRPrj4 ?_)
     by_cases g1:nameE s=0
     · refine Vm.rn (ai xRPrj4 @g1) ?_
       refine Vm.call_walk (T:=T) rfl Tryz.func74 rfl (by simp only [Tryz.f74,List.length_cons,List.length_nil];decide) fun _ hGi hUi=>?_
       simp only [Tryz.f74,Vm.argsTm_cons,Vm.argsTm_nil,Nat.reduceAdd]
       by_cases g2:s ∈ c.names.take i
       · obtain ⟨ms,hms⟩:=set_old (d':=.rptr 3 0) (k:=s) (xs:=c.names.take i)
         have hz:objE c i=10:=by rw [ob];simp [g1,g2]
         refine Vm.rn (ai xRPrj4<|ai @key_str<|ai @unit_v<|ai @find_mpN<|ai @g2 @hms) ?_
         refine Vm.rm (Vm.s1 xRPrj4 ?_)
         refine Vm.rn xRPrj4 ?_
         refine Vm.rm (Vm.s1 xRPrj4 ?_)
         refine Vm.rn xRPrj4 ?_
         refine Vm.rx (Vm.s1 xRPrj4 ?_)
         simp [errC,st,hz]
       · refine Vm.rn (ai xRPrj4<|ai @key_str<|ai @unit_v<|ai @find_mpN<|ai @g2 (set_new (d':=.rptr 3 0) g2)) ?_
         refine Vm.rm (Vm.s1 xRPrj4 ?_)
         refine Vm.rn xRPrj4 ?_
         (have hh:=ai xRPrj4 @dS.eq_1;refine Vm.call_eq2 (check_v x hxl) (Vm.cl hh) (Vm.rn hh ?_);clear hh)
         by_cases g3:checkS x=0
         · by_cases g4:(1000:Int) < x.l.length
           · have hz:objE c i=4:=by
              have g4':1000 < x.l.length:=by omega
              rw [ob];simp [g1,g2,g3,g4']
             refine Vm.rn (ai xRPrj4<|ai @g3 @g4) ?_
             refine Vm.rm (Vm.s1 xRPrj4 ?_)
             refine Vm.rn xRPrj4 ?_
             refine Vm.rx (Vm.s1 xRPrj4 ?_)
             simp [errC,st,hz]
           · have hz:objE c i=0:=by
              have g4':¬ 1000 < x.l.length:=by omega
              rw [ob];simp [g1,g2,g3,g4']
             refine Vm.rn (ai xRPrj4<|ai @g3 @g4) ?_
             refine Vm.rm (Vm.s1 xRPrj4 ?_)
             refine Vm.rn xRPrj4 ?_
             refine ih (i + 1) _ (by dsimp only;omega) ⟨by omega,?_⟩ ?_
             · rw [st,if_pos hz]
             refine Vm.Le.trans (Vm.le_unkM (k:=1) (by exact rfl)) ?_
             rw [unk_new,← take_at hs]
             simp only [List.set_cons_succ,List.set_cons_zero]
             exact Vm.lx (Vm.cl (ai xRPrj4<|ai @Int.natCast_add<|ai @dC.eq_1 @belP_mpN))
         · have hz:objE c i=checkS x:=by rw [ob];simp [g1,g2,g3]
           refine Vm.rn (ai xRPrj4 @g3) ?_
           refine Vm.rm (Vm.s1 xRPrj4 ?_)
           refine Vm.rn (ai xRPrj4 @g3) ?_
           refine Vm.rx (Vm.s1 xRPrj4 ?_)
           simp [errC,st,hz,g3]
     · have hz:objE c i=7:=by rw [ob];simp [g1]
       refine Vm.rn (ai xRPrj4 @g1) ?_
       refine Vm.rm (Vm.s1 xRPrj4 ?_)
       refine Vm.rn xRPrj4 ?_
       refine Vm.rx (Vm.s1 xRPrj4 ?_)
       simp [errC,st,hz]
   · have hi':i=c.names.length:=by omega
     subst hi'
     rw [fnz_end (by simp)] at he
     have he2:errC c=trsE c:=by rw [errC,if_neg (by simp [← he])]
     rw [he2,List.take_length]
     refine Vm.rn (ai xRPrj4 @dC.eq_1) ?_
     refine Vm.sk_nil 10 1 (by rfl) ?_
     refine Vm.sk_loop (fun i:Nat=>c.trans.length - i) (fun i=>⟨[(1,.rptr 0 0),(3,.atom (.int .i64 c.trans.length)),(4,.atom (.int .i64 (sumA c.trans:Nat))),(5,.omap 2),(9,.atom (.int .i64 (prevB c i))),(10,.own 3 (allP (c.trans.take i)).length),(63,.imm 5 (c.trans.map dT)),(64,.atom (.int .i64 c.trans.length)),(65,.atom (.int .i64 i))],[.cell (dC c),.mp (mpN c.names),.mp (mpN ((namesT c).take i)),.sl 1 ((allP (c.trans.take i)).map dI)],94⟩)
      (fun i=>i≤c.trans.length∧-1≤prevB c i∧(allP (c.trans.take i)).length=2 * i + sumA (c.trans.take i)∧fnz (((List.range c.trans.length).map (traE c)).drop i)=trsE c) 0 ?_ ⟨by omega,by simp [prevB],by simp [allP,sumA],by simp [trsE]⟩ ?_
     · exact Vm.lx (Vm.cl (ai xRPrj4<|ai @dC.eq_1<|ai @List.take_zero.{0}<|ai (show mpN []=[] from rfl)<|ai (show allP []=[] from rfl)<|ai (show prevB c 0=-1 from rfl)<|ai @belP_mp0 @belP_mpN))
     rintro i ⟨hi,hpb,hal,he⟩ ih
     refine Vm.rn xRPrj4 ?_
     refine Vm.sb_dec (fun hlt=>?_) (fun hge=>?_)
     · obtain ⟨t,ht,gt⟩:=row_at (f:=dT) (l:=c.trans) (i:=i) (by omega)
       have st:=fnz_step (range_at (f:=traE c) (n:=c.trans.length) (i:=i) (by omega))
       rw [he] at st
       have ob:=traE_at ht
       obtain ⟨b1,b2⟩:=f5 t (List.mem_of_getElem? ht)
       simp only [dT] at gt
       refine Vm.rn (ai xRPrj4<|ai @gt @dC.eq_1) ?_
       refine Vm.call_walk (T:=T) rfl Tryz.func52 rfl (by simp only [Tryz.f52,List.length_cons,List.length_nil];decide) fun _ hGi hUi=>?_
       simp only [Tryz.f52,Vm.argsTm_cons,Vm.argsTm_nil,Nat.reduceAdd]
       refine Vm.rn xRPrj4 ?_
       refine Vm.call_eq2 (ncheck_v t.name) (Vm.cl xRPrj4) (Vm.rn xRPrj4 ?_)
       by_cases g1:nameE t.name=0
       · refine Vm.rn (ai xRPrj4 @g1) ?_
         refine Vm.call_walk (T:=T) rfl Tryz.func74 rfl (by simp only [Tryz.f74,List.length_cons,List.length_nil];decide) fun _ hGi hUi=>?_
         simp only [Tryz.f74,Vm.argsTm_cons,Vm.argsTm_nil,Nat.reduceAdd]
         by_cases g2:t.name ∈ (namesT c).take i
         · obtain ⟨ms,hms⟩:=set_old (d':=.rptr 7 0) (k:=t.name) (xs:=(namesT c).take i)
           have hz:traE c i=10:=by rw [ob];simp [g1,g2]
           refine Vm.rn (ai xRPrj4<|ai @key_str<|ai @unit_v<|ai @find_mpN<|ai @g2 @hms) ?_
           refine Vm.rm (Vm.s1 xRPrj4 ?_)
           refine Vm.rn xRPrj4 ?_
           refine Vm.rm (Vm.s1 xRPrj4 ?_)
           refine Vm.rn xRPrj4 ?_
           refine Vm.rx (Vm.s1 xRPrj4 ?_)
           simp [st,hz]
         by_cases g3:(t.at_.length:Int)=t.acts.length
         · have g3':t.at_.length=t.acts.length:=by omega
           refine Vm.rn (ai xRPrj4<|ai @key_str<|ai @unit_v<|ai @find_mpN<|ai @g2 (set_new (d':=.rptr 7 0) g2)) ?_
           refine Vm.rm (Vm.s1 xRPrj4 ?_)
           by_cases g4:t.b≤prevB c i
           · have hz:traE c i=13:=by rw [ob];simp [g1,g2,g3',g4]
             refine Vm.rn (ai xRPrj4<|ai @g3 @g4) ?_
             refine Vm.rm (Vm.s1 xRPrj4 ?_)
             refine Vm.rn xRPrj4 ?_
             refine Vm.rx (Vm.s1 xRPrj4 ?_)
             simp [st,hz]
           have g5:¬ t.b < 0:=by omega
           have ob2:traE c i=if riseB (placesT t)=false then 13 else fnz (t.acts.map (actE c)):=by
            rw [ob];simp only [g1,g2,g3',g4,g5,ne_eq,not_true_eq_false,if_false,false_or]
           have hpl:(placesT t).length=t.at_.length + 2:=by simp [placesT]
           have htk:((placesT t).map dI).take (t.at_.length + 2)=(placesT t).map dI:=List.take_of_length_le (by simp [hpl])
           have hdl:(((placesT t).map dI).drop 1).length=t.at_.length + 1:=by simp [hpl]
           refine Vm.rn (ai xRPrj4<|ai @g3 @g4) ?_
           (have hh:=ai xRPrj4<|ai @dT.eq_1<|ai @hpl<|ai @htk @hdl;refine Vm.call_eqI2 (placesI_v t b2) (Vm.cl hh) (Vm.rn hh ?_);clear hh)
           have htn:(namesT c)[i]?=some t.name:=by rw [namesT,List.getElem?_map,ht];rfl
           refine Vm.sk_unkM 2 (by exact rfl) ?_
           rw [unk_new,← take_at htn]
           simp only [List.set_cons_succ,List.set_cons_zero]
           refine Vm.sk_loop (fun j:Nat=>t.at_.length + 1 - j) (fun j=>⟨[(4,.rptr 5 0),(6,.rptr 6 0),(9,.imm 1 ((placesT t).map dI)),(41,.atom (.int .i64 (t.at_.length + 1))),(42,.atom (.int .i64 j))],[.cell (dC c),.mp (mpN c.names),.mp (mpN ((namesT c).take (i + 1))),.sl 1 ((allP (c.trans.take i)).map dI),.cell (dT t),.cell (dC c),.cell (dT t)],70⟩) (fun j=>j≤t.at_.length + 1∧riseB ((placesT t).drop j)=riseB (placesT t)) 0 ?_ ⟨by omega,by simp⟩ ?_
           · exact Vm.lx (Vm.cl (ai xRPrj4<|ai @dC.eq_1<|ai @dT.eq_1 @belP_mpN))
           rintro j ⟨hj,hr⟩ ihj
           refine Vm.rn xRPrj4 ?_
           refine Vm.sb_dec (fun hc1=>?_) (fun hc1=>?_)
           · obtain ⟨x,hx,gx⟩:=row_at (f:=dI) (l:=placesT t) (i:=j) (by omega)
             obtain ⟨y,hy,gy⟩:=row_at (f:=dI) (l:=placesT t) (i:=j + 1) (by omega)
             have rs:=rise_step hx hy
             simp only [dI] at gx gy
             refine Vm.rn xRPrj4 ?_
             refine Vm.sk_draw 10 [0,1,2,3,4,5,6,7,8,9] (by kernel_rfl) (by kernel_rfl) (by decide) ?_
             refine Vm.rn (ai xRPrj4<|ai @gx<|ai @gy (show ((j:Int) + 1).toNat=j + 1 from by omega)) ?_
             refine Vm.sb_dec (fun hb=>?_) (fun hb=>?_)
             · have hxy:¬ x < y:=by omega
               have hr0:riseB (placesT t)=false:=by rw [← hr,rs,show decide (x < y)=false from decide_eq_false hxy];rfl
               have hz:traE c i=13:=by rw [ob2,if_pos hr0]
               refine Vm.rn xRPrj4 ?_
               refine Vm.rm (Vm.s1 xRPrj4 ?_)
               refine Vm.rn xRPrj4 ?_
               refine Vm.rx (Vm.s1 xRPrj4 ?_)
               simp [st,hz]
             · refine Vm.rn xRPrj4 ?_
               have hxy:x < y:=by omega
               refine ihj (j + 1) _ (by dsimp only;omega) ⟨by omega,?_⟩ ?_
               · rw [← hr,rs,show decide (x < y)=true from decide_eq_true hxy,Bool.true_and]
               exact Vm.lx (Vm.cl (ai xRPrj4<|ai @Int.natCast_add<|ai @dC.eq_1<|ai @dT.eq_1 @belP_mpN))
           · have hr1:riseB (placesT t)=true:=by rw [← hr,rise_end (by omega)]
             have ob3:traE c i=fnz (t.acts.map (actE c)):=by rw [ob2,if_neg (by simp [hr1])]
             refine Vm.rn (ai xRPrj4 @dT.eq_1) ?_
             refine Vm.sk_loop (fun j:Nat=>t.acts.length - j) (fun j=>⟨[(4,.rptr 5 0),(57,.imm 6 (t.acts.map dA)),(58,.atom (.int .i64 t.acts.length)),(59,.atom (.int .i64 j))],[.cell (dC c),.mp (mpN c.names),.mp (mpN ((namesT c).take (i + 1))),.sl 1 ((allP (c.trans.take i)).map dI),.cell (dT t),.cell (dC c),.cell (dT t)],70⟩) (fun j=>j≤t.acts.length∧fnz ((t.acts.map (actE c)).drop j)=traE c i) 0 ?_ ⟨by omega,by rw [ob3];simp⟩ ?_
             · exact Vm.lx (Vm.cl (ai xRPrj4<|ai @dC.eq_1<|ai @dT.eq_1 @belP_mpN))
             rintro j2 ⟨hj2,hf⟩ ihk
             refine Vm.rn xRPrj4 ?_
             refine Vm.sb_dec (fun hc2=>?_) (fun hc2=>?_)
             · obtain ⟨a,ha,ga⟩:=row_at (f:=dA) (l:=t.acts) (i:=j2) (by omega)
               have sa:=fnz_step (l:=t.acts.map (actE c)) (i:=j2) (e:=actE c a) (by rw [List.getElem?_map,ha];rfl)
               rw [hf] at sa
               simp only [dA,dO] at ga
               refine Vm.rn (ai xRPrj4<|ai @ga @dC.eq_1) ?_
               (have hh:=ai xRPrj4<|ai @dC.eq_1<|ai @dA.eq_1 @dO.eq_1;refine Vm.call_eq2 (act_v c a) (Vm.cl hh) (Vm.rn hh ?_);clear hh)
               by_cases g6:actE c a=0
               · refine Vm.rn (ai xRPrj4 @g6) ?_
                 refine ihk (j2 + 1) _ (by dsimp only;omega) ⟨by omega,?_⟩ ?_
                 · rw [sa,if_pos g6]
                 exact Vm.lx (Vm.cl (ai xRPrj4<|ai @Int.natCast_add<|ai @dC.eq_1<|ai @dT.eq_1 @belP_mpN))
               · have hz:traE c i=actE c a:=by rw [sa,if_neg g6]
                 refine Vm.rn (ai xRPrj4 @g6) ?_
                 refine Vm.rm (Vm.s1 xRPrj4 ?_)
                 refine Vm.rn (ai xRPrj4 @g6) ?_
                 refine Vm.rx (Vm.s1 xRPrj4 ?_)
                 simp [st,hz,g6]
             · have hz:traE c i=0:=by rw [← hf,fnz_end (by simp;omega)]
               have hs2:(allP (c.trans.take i)++placesT t).map dI=(allP (c.trans.take i)).map dI++(placesT t).map dI:=List.map_append
               have hs1:=allP_step ht
               have hs3:=sumA_step ht
               have hpn:prevB c (i + 1)=t.b:=by simp only [prevB,ht]
               have hb1:=allP_le (fun t ht=>(f5 t ht).2) i hi
               refine Vm.rn xRPrj4 ?_
               refine Vm.rm (Vm.s1 xRPrj4 ?_)
               refine Vm.rn (ai xRPrj4 @dT.eq_1) ?_
               (have hh:=ai xRPrj4 @dT.eq_1;refine Vm.call_eq2 (places_v t b2) (Vm.cl hh) (Vm.rn hh ?_);clear hh)
               refine ih (i + 1) _ (by dsimp only;omega) ⟨by omega,by rw [hpn];omega,?_,?_⟩ ?_
               · rw [hs1,hs3,List.length_append,hpl];omega
               · rw [st,if_pos hz]
               exact Vm.lx (Vm.cl (ai xRPrj4<|ai @Int.natCast_add<|ai @dC.eq_1<|ai @hs1<|ai @hs2<|ai @hpl<|ai @hpn @belP_mpN))
         · have g3':¬ t.at_.length=t.acts.length:=by omega
           have hz:traE c i=2:=by rw [ob];simp [g1,g2,g3']
           refine Vm.rn (ai xRPrj4<|ai @key_str<|ai @unit_v<|ai @find_mpN<|ai @g2 (set_new (d':=.rptr 7 0) g2)) ?_
           refine Vm.rm (Vm.s1 xRPrj4 ?_)
           refine Vm.rn (ai xRPrj4 @g3) ?_
           refine Vm.rm (Vm.s1 xRPrj4 ?_)
           refine Vm.rn xRPrj4 ?_
           refine Vm.rx (Vm.s1 xRPrj4 ?_)
           simp [st,hz]
       · have hz:traE c i=7:=by rw [ob];simp [g1]
         refine Vm.rn (ai xRPrj4 @g1) ?_
         refine Vm.rm (Vm.s1 xRPrj4 ?_)
         refine Vm.rn xRPrj4 ?_
         refine Vm.rx (Vm.s1 xRPrj4 ?_)
         simp [st,hz]
     · have hi2:i=c.trans.length:=by omega
       subst hi2
       rw [fnz_end (by simp)] at he
       rw [List.take_length] at hal
       have hle:=allP_le (fun t ht=>(f5 t ht).2) c.trans.length (Nat.le_refl _)
       rw [List.take_length] at hle
       rw [← he,List.take_length]
       refine Vm.rn xRPrj4 ?_
       refine Vm.call_mut (R:=?vR1) ?vh1 ?vk1
       case vh1=>refine Vm.sort_v (k:=3) (xs:=allP c.trans) ?_ ?_ (by omega) <;> rfl
       rintro d so' ⟨rfl,rfl⟩
       refine Vm.rn xRPrj4 ?_
       have hsl:(Vm.sortedI (allP c.trans)).length=(allP c.trans).length:=List.length_mergeSort _
       have hds:=dd_sorted (allP c.trans)
       refine Vm.call_mut (R:=?vR2) ?vh2 ?vk2
       case vh2=>refine compact2 (k:=3) (m:=(allP c.trans).length) (xs:=Vm.sortedI (allP c.trans)) ?_ ?_ hsl (by omega) <;> rfl
       rintro d so' ⟨rfl,rfl⟩
       by_cases hn:(allP c.trans).Nodup
       · have hq:((dd (Vm.sortedI (allP c.trans))).length:Int)=c.trans.length * 2 + sumA c.trans:=by
          have:=hds.2 hn;omega
         refine Vm.rn (ai xRPrj4 @hq) ?_
         refine Vm.rx (Vm.s1 xRPrj4 ?_)
         simp [hn]
       · have hq:¬ ((dd (Vm.sortedI (allP c.trans))).length:Int)=c.trans.length * 2 + sumA c.trans:=by
          intro h;exact hn (hds.1 (by omega))
         refine Vm.rn (ai xRPrj4 @hq) ?_
         refine Vm.rx (Vm.s1 xRPrj4 ?_)
         simp [hn]
 · refine Vm.rn (ai xRPrj4<|ai @h1<|ai @h2 @h3) ?_
   refine Vm.rn (ai xRPrj4 @h4) ?_
   refine Vm.rx (Vm.s1 xRPrj4 ?_)
   rw [checkC,if_neg (by omega),if_pos (by omega)]
end Go.Proofs.YtphjohoipocpnaaGreat.W
