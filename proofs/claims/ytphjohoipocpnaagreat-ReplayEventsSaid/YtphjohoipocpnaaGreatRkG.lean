import Derived.Test.YtphjohoipocpnaaGreatRkF
set_option linter.unusedSimpArgs false
set_option linter.unusedVariables false
set_option maxRecDepth 8000
/- All operations of transactions in an order, one behind the other. No conditions. -/
namespace Go.Proofs.YtphjohoipocpnaaGreat.W
open Go.Am
set_option linter.defProp false in
def xRActs:=ai @nlR_dI<|ai @Vm.nlR_append @nlR_dF
def t0:Tra:=⟨[],0,0,[],[]⟩
def actsOf (ts:List Tra) (order:List Int):List (Int × Act):=order.flatMap fun i=>(ts.getD i.toNat t0).acts.map fun a=>(i,a)
theorem drop_cons {α:Type} {l:List α} {i:Nat} {x:α} {r:List α} (h:l.drop i=x::r):l[i]?=some x∧l.drop (i + 1)=r∧i < l.length:=by
 have h1:=List.getElem?_drop (xs:=l) (i:=i) (j:=0)
 rw [h] at h1
 refine ⟨h1.symm,by rw [← List.drop_drop,h];rfl,?_⟩
 have:=congrArg List.length h
 rw [List.length_drop,List.length_cons] at this;omega
theorem acts1_v (ts:List Tra) (order:List Int) (hts:ts.length < 1000000000) (ho:order.length < 1000000000) (hin:∀ i,i ∈ order→0≤i∧i < ts.length) (ha:∀ t,t ∈ ts→t.acts.length < 1000000000) :
  Vm.VGC T 60 [.iptr [.imm 1 (order.map dI)] 0,.iptr [.imm 5 (ts.map dT)] 0] [] ((actsOf ts order).map dIA):=by
 intro L K E hK hE hY
 show Vm.VM T 60 [.atom (.func (.yield L) [] []),.iptr [.imm 1 (order.map dI)] 0,.iptr [.imm 5 (ts.map dT)] 0] [.ghost (K 0)] _
 refine Vm.vm_enter (T:=T) rfl Tryz.func60 rfl (by simp only [Tryz.f60,List.length_cons,List.length_nil];decide) fun g hG0 hU=>?_
 simp only [Tryz.f60,Vm.argsTm_cons,Vm.argsTm_nil,Nat.reduceAdd]
 refine Vm.rn xRActs ?_
 have hfl:actsOf ts (order.drop 0)=actsOf ts order:=rfl
 refine Vm.sk_loop (fun q:Nat × Nat=>order.length - q.1) (fun q=>⟨[(0,.atom (.func (.yield L) [] [])),(2,.iptr [.imm 5 (ts.map dT)] 0),(8,.imm 1 (order.map dI)),(9,.atom (.int .i64 order.length)),(10,.atom (.int .i64 q.1))],[.ghost (K q.2)],31⟩)
  (fun q=>q.1≤order.length∧q.2≤(actsOf ts order).length∧(actsOf ts order).drop q.2=actsOf ts (order.drop q.1)) (0,0) ?_ ⟨Nat.zero_le _,Nat.zero_le _,rfl⟩ ?_
 · exact Vm.lx (Vm.cl xRActs)
 rintro ⟨k,c⟩ ⟨h1,h2,h3⟩ ih
 dsimp only at h1 h2 h3
 refine Vm.rn xRActs ?_
 refine Vm.sb_dec (fun hlt=>?_) (fun hge=>?_)
 · obtain ⟨i,hi,hid⟩:=row_at (f:=dI) (l:=order) (i:=k) (by omega)
   obtain ⟨hi0,hi1⟩:=hin i (List.mem_of_getElem? hi)
   obtain ⟨j,rfl⟩:∃ j:Nat,i=j:=⟨i.toNat,by omega⟩
   have hjl:j < ts.length:=by omega
   obtain ⟨t,ht,htd⟩:=row_at (f:=dT) (l:=ts) (i:=j) hjl
   have htl:=ha t (List.mem_of_getElem? ht)
   have hgd:ts.getD ((j:Int)).toNat t0=t:=by rw [Int.toNat_natCast,List.getD_eq_getElem?_getD,ht];rfl
   have h4:(actsOf ts order).drop c=(t.acts.drop 0).map (fun a=>((j:Int),a))++actsOf ts (order.drop (k + 1)):=by
    rw [h3,drop_at hi]
    simp only [actsOf,List.flatMap_cons,hgd,List.drop_zero]
   simp only [dT] at htd
   refine Vm.rn (ai xRActs<|ai @hid<|ai @dI.eq_1 @htd) ?_
   refine Vm.sk_loop (fun q:Nat × Nat=>t.acts.length - q.1) (fun q=>⟨[(0,.atom (.func (.yield L) [] [])),(2,.iptr [.imm 5 (ts.map dT)] 0),(8,.imm 1 (order.map dI)),(9,.atom (.int .i64 order.length)),(10,.atom (.int .i64 k)),(5,.atom (.int .i64 j)),(18,.imm 6 (t.acts.map dA)),(19,.atom (.int .i64 t.acts.length)),(20,.atom (.int .i64 q.1))],[.ghost (K q.2)],31⟩)
    (fun q=>q.1≤t.acts.length∧q.2≤(actsOf ts order).length∧(actsOf ts order).drop q.2=(t.acts.drop q.1).map (fun a=>((j:Int),a))++actsOf ts (order.drop (k + 1))) (0,c) ?_ ⟨Nat.zero_le _,h2,h4⟩ ?_
   · exact Vm.lx (Vm.cl xRActs)
   rintro ⟨m,c2⟩ ⟨h5,h6,h7⟩ ih2
   dsimp only at h5 h6 h7
   refine Vm.rn xRActs ?_
   refine Vm.sb_dec (fun hlt2=>?_) (fun hge2=>?_)
   · obtain ⟨a,hac,had⟩:=row_at (f:=dA) (l:=t.acts) (i:=m) (by omega)
     rw [drop_at hac,List.map_cons,List.cons_append] at h7
     obtain ⟨g1,g2,g3⟩:=drop_cons h7
     have hx:((actsOf ts order).map dIA)[c2]?=some (dIA ((j:Int),a)):=by rw [List.getElem?_map,g1];rfl
     simp only [dIA,dA] at hx
     simp only [dA] at had
     refine Vm.rn (ai xRActs<|ai @had @Vm.overD.eq_1) ?_
     refine Vm.round_tick (k:=0) rfl (hY c2 _ hx) (hK _) hE rfl ?_ ?_
     · refine Vm.rn xRActs ?_
       refine ih2 (m + 1,c2 + 1) _ (by dsimp only;omega) ⟨by dsimp only;omega,by dsimp only;omega,g2⟩ ?_
       exact Vm.lx (Vm.cl xRActs)
     · refine Vm.rn xRActs ?_
       refine Vm.rm (Vm.s1 xRActs ?_)
       exact .inr trivial
   · have:m=t.acts.length:=by omega
     subst this
     rw [List.drop_length,List.map_nil,List.nil_append] at h7
     refine Vm.rn xRActs ?_
     refine ih (k + 1,c2) _ (by dsimp only;omega) ⟨by dsimp only;omega,h6,h7⟩ ?_
     exact Vm.lx (Vm.cl xRActs)
 · have:k=order.length:=by omega
   subst this
   rw [List.drop_length] at h3
   have h4:c=(actsOf ts order).length:=by
    have:=congrArg List.length h3
    rw [List.length_drop] at this
    have e:(actsOf ts []).length=0:=rfl
    omega
   refine Vm.rn xRActs ?_
   refine Vm.rm (Vm.s1 (ai xRActs @List.length_map.{0,0}) ?_)
   rw [h4];exact .inl rfl
theorem repN_len:∀ (acs:List Act) (s:List Sta) (n:Nat),(repN s acs n).1.length≤s.length
 | [],s,n=>Nat.le_refl _
 | a::acs,s,n=>by
   simp only [repN]
   split
   · have:=repN_len acs (nextA s a) (n + 1)
     rw [next_len] at this;exact this
   · exact Nat.zero_le _
theorem repN_fit:∀ (acs:List Act) (s:List Sta) (n m:Nat),FitS s (acs.length + m)→FitS (repN s acs n).1 m
 | [],s,n,m,h=>by
   simp only [repN]
   intro x hx
   have:=h x hx
   simp only [List.length_nil,Nat.zero_add] at this;exact this
 | a::acs,s,n,m,h=>by
   simp only [repN]
   split
   · rename_i he
     refine repN_fit acs (nextA s a) (n + 1) m (FitS.next ?_ ?_)
     · rw [List.length_cons] at h
       rw [show acs.length + m + 1=acs.length + 1 + m by omega];exact h
     · unfold errA at he
       split at he
       · cases he
       · omega
   · intro x hx;cases hx
set_option linter.defProp false in
def xRKit2:=ai @prLL_dI<|ai @pr_dF<|ai @prLL_dF<|ai @imLL_I<|ai @nlR_dI<|ai @Vm.nlR_append @nlR_dF
theorem imL_dF (x:Sta):Vm.imL (dF x)=dS x:=by simp only [dF,dS,Vm.imL,Vm.D.im,imLL_I]
theorem imLL_dF:∀ xs:List Sta,Vm.imLL (xs.map dF)=xs.map dS
 | []=>rfl
 | x::xs=>by simp only [List.map_cons,Vm.imLL,imLL_dF xs,imL_dF]
theorem imLL_A:∀ xs:List Act,Vm.imLL (xs.map dA)=xs.map dA
 | []=>rfl
 | x::xs=>by simp only [List.map_cons,Vm.imLL,imLL_A xs];rfl
theorem nlR_dA (xs:List Act):Vm.nlR (xs.map dA)=true:=Vm.nlR_map (fun x=>rfl) xs
theorem prLL_dA (xs:List Act):Vm.prLL (xs.map dA)=true:=Vm.prLL_map (fun x=>rfl) xs
theorem copyT_v (t:Tra) (h1:t.acts.length < 1000000000) (h2:t.at_.length < 1000000000):Vm.VC T 11 [.agg (dT t)] fun d=>d=.agg [.atom (.str t.name),.atom (.int .i64 t.b),.atom (.int .i64 t.c),.fresh 6 (t.acts.map dA),.fresh 1 (t.at_.map dI)]:=by
 have htk:(t.acts.map dA).take t.acts.length=t.acts.map dA:=List.take_of_length_le (by simp)
 refine Vm.vc_enter (T:=T) rfl Tryz.func11 rfl (by simp only [Tryz.f11,List.length_cons,List.length_nil];decide) fun g hB hG0 hU=>?_
 simp only [Tryz.f11,Vm.argsTm_cons,Vm.argsTm_nil,Nat.reduceAdd]
 refine Vm.rn (ai xRKit2<|ai @imLL_dF<|ai @imLL_A<|ai @nlR_dA<|ai @prLL_dA<|ai @dT.eq_1<|ai @Vm.overD.eq_1 @htk) ?_
 (have hh:=ai xRKit2<|ai @imLL_dF<|ai @imLL_A<|ai @nlR_dA<|ai @prLL_dA @Vm.overD.eq_1;refine Vm.call_eq2 (copyI_v t.at_ h2) (Vm.cl hh) (Vm.rn hh ?_);clear hh)
 exact Vm.rx (Vm.cl (ai xRKit2<|ai @imLL_dF<|ai @imLL_A<|ai @nlR_dA @prLL_dA))
end Go.Proofs.YtphjohoipocpnaaGreat.W
