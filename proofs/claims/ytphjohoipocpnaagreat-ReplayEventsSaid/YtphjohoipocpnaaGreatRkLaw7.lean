import Derived.Test.YtphjohoipocpnaaGreatRkJ
import Derived.Test.YtphjohoipocpnaaGreatRkI
import Derived.Test.YtphjohoipocpnaaGreatRkG
import Derived.Test.YtphjohoipocpnaaGreatRkK
import Derived.Test.YtphjohoipocpnaaGreatRkL
import Derived.Test.YtphjohoipocpnaaGreatVmE
set_option linter.unusedSimpArgs false
set_option linter.unusedVariables false
set_option maxRecDepth 8000
/- The law of objects that stay. No conditions. -/
namespace Go.Proofs.YtphjohoipocpnaaGreat.W
open Go.Am
noncomputable def cutI (c:Cas) (o:List Int) (i:Nat) (q:List Sta × Nat × Int):Prop:=
 (q.2.2=0→listE c o false=0∧repN q.1 ((actsOf c.trans (o.drop i)).map (·.2)) q.2.1=begE c o∧FitS q.1 (6 * (12 - i))∧q.1.length≤6∧q.2.1≤6 * i)∧(q.2.2 ≠ 0→q=begE c o)
theorem fz_F (k:Nat) (cs:List Vm.D) (xs:List Sta):(xs.map dF).map (Vm.fzL k cs)=xs.map dF:=by
 rw [List.map_map]
 exact List.map_congr_left fun x _=>by simp only [Function.comp,dF,Vm.fzL,Vm.fzD,fz_I]
theorem own_S {k:Nat} {s:List Sta} (so:List Vm.Ob) (h:so[k]?=some (.sl 3 (s.map dF))):Vm.imQ so (.own k s.length)=.imm 3 (s.map dS):=by
 rw [Vm.imQ_own,h,Vm.imO_sl _ _ _ (by simp),imLL_dF]
set_option linter.defProp false in
def xRLaw7:=ai @prLL_dI<|ai @pr_dF<|ai @prLL_dF<|ai @imLL_dF<|ai @imLL_I<|ai @imLL_A<|ai @nlR_dI<|ai @nlR_dA<|ai @prLL_dA<|ai @Vm.nlR_append<|ai @nlR_dF<|ai @nlR_dTF<|ai @prLL_dTF<|ai @nlR_dNm @prLL_dNm
theorem rng_step (i:Nat):(rngI (i + 1)).map dI=(rngI i).map dI++[[.atom (.int .i64 i)]]:=by simp [rngI,List.range_succ,dI]
theorem ev_good {c:Cas} (h:checkC c=0):((evE c).2.2=0∧(evE c).2.1=sumA c.trans∨(evE c).2.2=9∧(evE c).2.1≤sumA c.trans)∧(evE c).1.length≤c.first.length∧∀ m,FitS c.first (sumA c.trans + m)→FitS (evE c).1 m:=by
 have hp:=case_plc h
 obtain ⟨k1,k2,k3⟩:=case_good h
 have e:evE c=repN c.first ((evP (sinC c.trans)).map (·.2)) 0:=by simp [evE,h]
 have hl:((evP (sinC c.trans)).map (·.2)).length=sumA c.trans:=by rw [List.length_map,evP_len,sum_sin hp.len]
 rw [e]
 refine ⟨?_,repN_len _ _ _,fun m hm=>repN_fit _ _ _ _ (by rw [hl];exact hm)⟩
 rcases rep_good ((evP (sinC c.trans)).map (·.2)) c.first 0 k2 (fun a ha=>by
  obtain ⟨p,hp,rfl⟩:=List.mem_map.1 ha
  have hp:=(List.mergeSort_perm _ _).mem_iff.1 hp
  obtain ⟨l,hl,hpl⟩:=List.mem_flatten.1 hp
  obtain ⟨t,ht,rfl⟩:=List.mem_map.1 hl
  exact k3 t ht _ (List.of_mem_zip hpl).2) with ⟨q1,q2,_⟩ | ⟨q1,_,q2,_⟩
 · exact .inl ⟨q1,by rw [q2,hl,Nat.zero_add]⟩
 · exact .inr ⟨q1,by rw [hl,Nat.zero_add] at q2;exact q2⟩
theorem sumA_le6 {l:List Tra} (h:∀ t,t ∈ l→t.acts.length≤6):sumA l≤6 * l.length:=by
 induction l with
 | nil=>simp [sumA]
 | cons t l ih =>
   have h1:=h t (by simp)
   have h2:=ih fun x hx=>h x (List.mem_cons_of_mem _ hx)
   simp only [sumA,List.map_cons,List.sum_cons,List.length_cons] at h2 ⊢
   omega
theorem atN_le:∀ (l:List Tra),(∀ t,t ∈ l→t.at_.length≤6)→0≤atN l∧atN l≤8 * (l.length:Int)
 | [],_=>by simp [atN]
 | t::l,h=>by
   have h1:=h t (by simp)
   have h2:=atN_le l fun x hx=>h x (List.mem_cons_of_mem _ hx)
   simp only [atN,List.length_cons];omega
theorem atN_app:∀ (l r:List Tra),atN (l++r)=atN l + atN r
 | [],r=>by simp [atN]
 | t::l,r=>by simp only [List.cons_append,atN,atN_app l r];omega
theorem mv_next {ts L:List Tra} {i:Nat} {t:Tra} (ht:ts[i]?=some t) (h:L=(mvT 0 ts).take i++ts.drop i):L.set i (mv1 (atN (ts.take i)) t)=(mvT 0 ts).take (i + 1)++ts.drop (i + 1):=by
 have hi:=(List.getElem?_eq_some_iff.1 ht).1
 have hm:(mvT 0 ts)[i]?=some (mv1 (atN (ts.take i)) t):=by rw [mvT_at,ht,Int.zero_add];rfl
 have hl:((mvT 0 ts).take i).length=i:=by rw [List.length_take,mvT_len];omega
 rw [h,List.set_append_right _ _ (by omega),hl,Nat.sub_self,drop_at ht,List.set_cons_zero,take_at hm,List.append_assoc];rfl
theorem mv_get {ts L:List Tra} {i:Nat} {t:Tra} (ht:ts[i]?=some t) (h:L=(mvT 0 ts).take i++ts.drop i):L[i]?=some t:=by
 have hi:=(List.getElem?_eq_some_iff.1 ht).1
 have hl:((mvT 0 ts).take i).length=i:=by rw [List.length_take,mvT_len];omega
 rw [h,List.getElem?_append_right (by omega),hl,Nat.sub_self,drop_at ht];rfl
theorem rngA_set {a:Int} {l:List Int} {k:Nat} (h:k < l.length):((rngA a k++l.drop k).map dI).set k [.atom (.int .i64 (a + k))]=(rngA a (k + 1)++l.drop (k + 1)).map dI:=by
 have hr:=rngA_len a k
 rw [List.drop_eq_getElem_cons h,List.map_append,List.set_append_right _ _ (by rw [List.length_map,hr];exact Nat.le_refl _),List.length_map,hr,Nat.sub_self,List.map_cons,List.set_cons_zero]
 simp [rngA,List.range_succ,dI]
theorem mvT_mem:∀ {l:List Tra} {a:Int} {t:Tra},t ∈ mvT a l→∃ u b,u ∈ l∧t=mv1 b u
 | [],a,t,h=>by cases h
 | u::l,a,t,h=>by
   rw [mvT] at h
   rcases List.mem_cons.1 h with rfl | h
   · exact ⟨u,a,by simp,rfl⟩
   · obtain ⟨w,b,h1,h2⟩:=mvT_mem h
     exact ⟨w,b,List.mem_cons_of_mem _ h1,h2⟩
theorem mvC_fit {c:Cas} (h:FitC c):FitC (mvC c):=by
 obtain ⟨f1,f2,f3,f4,f5⟩:=h
 refine ⟨f1,f2,by rw [show (mvC c).trans=mvT 0 c.trans from rfl,mvT_len];exact f3,f4,fun t ht=>?_⟩
 obtain ⟨u,b,hu,rfl⟩:=mvT_mem ht
 have:=f5 u hu
 refine ⟨this.1,?_⟩
 show (rngA _ _).length < 100
 rw [rngA_len];exact this.2
theorem imLL_TF:∀ xs:List Tra,Vm.imLL (xs.map dTF)=xs.map dT
 | []=>rfl
 | x::xs=>by simp only [List.map_cons,Vm.imLL,imLL_TF xs];simp [dTF,dT,Vm.imL,Vm.D.im,imLL_A,imLL_I]
theorem imLL_Nm:∀ xs:List (List UInt8),Vm.imLL (xs.map fun s=>[Vm.D.atom (.str s)])=xs.map fun s=>[Vm.D.atom (.str s)]
 | []=>rfl
 | x::xs=>by simp only [List.map_cons,Vm.imLL,imLL_Nm xs];simp [Vm.imL,Vm.D.im]
theorem rngI_len (n:Nat):(rngI n).length=n:=by simp [rngI]
theorem own_Nm {k:Nat} {l:List (List UInt8)} (so:List Vm.Ob) (h:so[k]?=some (.sl 1 (l.map fun s=>[Vm.D.atom (.str s)]))):Vm.imQ so (.own k l.length)=.imm 1 (l.map fun s=>[Vm.D.atom (.str s)]):=by
 rw [Vm.imQ_own,h,Vm.imO_sl _ _ _ (by simp),imLL_Nm]
theorem own_TF {k:Nat} {l:List Tra} (so:List Vm.Ob) (h:so[k]?=some (.sl 5 (l.map dTF))):Vm.imQ so (.own k l.length)=.imm 5 (l.map dT):=by
 rw [Vm.imQ_own,h,Vm.imO_sl _ _ _ (by simp),imLL_TF]
set_option maxHeartbeats 8000000 in
theorem replayEvents_v (c:Cas) (mv:Bool) (hi:∀ t,t ∈ c.trans→∀ a,a ∈ t.acts→ActI a):Vm.VC T 7 [.agg (dC c),.atom (.bool mv)] fun d=>d=.atom (.bool true):=by
 refine Vm.vc_enter (T:=T) rfl Tryz.func7 rfl (by simp only [Tryz.f7,List.length_cons,List.length_nil];decide) fun g hB hG0 hU=>?_
 simp only [Tryz.f7,Vm.argsTm_cons,Vm.argsTm_nil,Nat.reduceAdd]
 refine Vm.rn (ai xRLaw7 @dC.eq_1) ?_
 refine Vm.call_eq2 (known_v) (Vm.cl xRLaw7) (Vm.rn xRLaw7 ?_)
 (have hh:=ai xRLaw7 @dC.eq_1;refine Vm.call_eq2 (longC_v c) (Vm.cl hh) (Vm.rn hh ?_);clear hh)
 cases hlc:longC c with
 | true =>
   refine Vm.rn xRLaw7 ?_
   exact Vm.rx (Vm.cl xRLaw7)
 | false =>
   obtain ⟨b1,b2,b3,b4,b5⟩:=longC_no hlc
   have hfit:=longC_fit hlc
   refine Vm.rn xRLaw7 ?_
   (have hh:=ai xRLaw7 @dC.eq_1;refine Vm.call_eq2 (checkC_v c hfit) (Vm.cl hh) (Vm.rn hh ?_);clear hh)
   by_cases hz:checkC c=0
   · refine Vm.rn (ai xRLaw7 @hz) ?_
     have hsum:=sumA_le6 fun t ht=>(b5 t ht).1
     cases mv
     case' false =>
      obtain ⟨c',hcz,hcf,hcs,hc1,hc2,hcn,hci,hcm⟩:∃ c':Cas,checkC c'=0∧FitC c'∧sumA c'.trans≤48∧c'.first.length≤6∧(∀ s,s ∈ c'.first→s.l.length≤12)∧c'.trans.length≤8∧(∀ t,t ∈ c'.trans→∀ a,a ∈ t.acts→ActI a)∧c'=c:=⟨c,hz,hfit,by omega,b2,b4,b3,hi,rfl⟩
      have hev:=events_v c' hcf (by omega) (fun x hx=>by have:=hc2 x hx;omega) hci
      subst hcm
      refine Vm.rn xRLaw7 ?_
      (have hh:=ai xRLaw7<|ai @dC.eq_1 @dRep.eq_1;refine Vm.call_eq2 (hev) (Vm.cl hh) (Vm.rn hh ?_);clear hh)
      (have hh:=ai xRLaw7<|ai @fz_F<|ai @fz_I<|ai @fz_A3<|ai @fz_S3<|ai @fz_T3 @fz_N3;refine Vm.sk_fz 0 (by exact rfl) (Vm.cl hh) (Vm.fz hh ?_);clear hh)
      refine Vm.sk_frz 1 hB (by exact rfl) ?_
      simp only [Vm.frzT,Vm.frz,Vm.frz0,if_true,Nat.reduceEqDiff,if_false]
      rw [own_S _ rfl]
      obtain ⟨b,hb⟩:∃ b:Bool,b=false:=⟨_,rfl⟩
      have hap:b=true→apartB c'.trans=true:=fun h=>by rw [hb] at h;cases h
      refine Vm.sk_le (st':=⟨[(1,.atom (.bool b)),(2,.iptr (dC c') 0),(5,.atom (.bool true)),(10,.imm 3 ((evE c').1.map dS)),(11,.atom (.int .i64 (evE c').2.1)),(12,.atom (.int .i64 (evE c').2.2)),(13,.atom .nilSlice),(14,.atom (.int .i64 0))],[],159⟩) (by exact Vm.le_of2 (by rw [hG0];first | exact Nat.zero_le _ | exact Nat.le_refl _) rfl (by simp (maxSteps:=10000000) (disch:=first | assumption | (simp (disch:=(intro _;exact Vm.byRefl (by with_unfolding_all rfl))) only [tyfacts,Vm.szO_eq,Am.vd,Nat.reduceEqDiff,Nat.reduceLT,Nat.reduceLeDiff,Nat.reduceMul,Nat.reduceAdd,reduceCtorEq];try omega;done) | omega | (intro _;exact Vm.byRefl (by with_unfolding_all rfl))) only [Vm.wantedD,Am.va,Nat.reduceAdd,Nat.reduceMul,Nat.reduceSub,Nat.reduceLT,Nat.reduceLeDiff,Nat.reduceEqDiff,Int.reduceAdd,Int.reduceLT,Int.reduceLE,Int.reduceNeg,reduceCtorEq,↓reduceIte,tyfacts,dC,hb])) ?_
     case' true =>
      refine Vm.rn xRLaw7 ?_
      (have hh:=ai xRLaw7<|ai @dC.eq_1 @dCF.eq_1;refine Vm.call_eq2 (copyC_v c hfit) (Vm.cl hh) (Vm.rn hh ?_);clear hh)
      refine Vm.sk_loop (fun q:Nat × List Tra=>c.trans.length - q.1) (fun q=>⟨[(1,.atom (.bool true)),(2,.rptr 0 0),(5,.atom (.bool true)),(6,.atom (.int .i64 (atN (c.trans.take q.1)))),(7,.atom (.int .i64 q.1))],[.cell [.own 1 c.names.length,.own 2 c.first.length,.own 3 c.trans.length],.sl 1 (c.names.map fun s=>[Vm.D.atom (.str s)]),.sl 3 (c.first.map dF),.sl 5 (q.2.map dTF)],159⟩)
       (fun q=>q.1≤c.trans.length∧q.2=(mvT 0 c.trans).take q.1++c.trans.drop q.1) (0,c.trans) ?_ ⟨Nat.zero_le _,by simp⟩ ?_
      · exact Vm.lx (Vm.cl (ai xRLaw7<|ai @atN.eq_1<|ai @atN.eq_2 @List.take_zero.{0}))
      rintro ⟨i,L⟩ ⟨hi1,hL⟩ ih
      dsimp only at hi1 hL
      have hLl:L.length=c.trans.length:=by rw [hL,List.length_append,List.length_take,List.length_drop,mvT_len];omega
      have hLm:(L.map dTF).length=c.trans.length:=by rw [List.length_map,hLl]
      refine Vm.rn xRLaw7 ?_
      refine Vm.sb_dec (fun hlt=>?_) (fun hge=>?_)
      · have ht:c.trans[i]?=some c.trans[i]:=List.getElem?_eq_getElem (by omega)
        obtain ⟨t1,t2⟩:=b5 _ (List.mem_of_getElem? ht)
        obtain ⟨a1,a2⟩:=atN_le (c.trans.take i) fun t ht=>(b5 t (List.mem_of_mem_take ht)).2
        have a3:(c.trans.take i).length=i:=by rw [List.length_take];omega
        have hstp:atN (c.trans.take (i + 1))=atN (c.trans.take i) + 1 + c.trans[i].at_.length + 1:=by rw [take_at ht,atN_app];simp only [atN];omega
        have hnx:L.set i (mv1 (atN (c.trans.take i)) c.trans[i])=(mvT 0 c.trans).take (i + 1)++c.trans.drop (i + 1):=mv_next ht hL
        have hLi:L[i]?=some c.trans[i]:=mv_get ht hL
        generalize atN (c.trans.take i)=a at a1 a2 hstp hnx
        generalize c.trans[i]=t at ht t1 t2 hstp hnx hLi
        have hrow:(L.map dTF)[i]?=some [.atom (.str t.name),.atom (.int .i64 t.b),.atom (.int .i64 t.c),.fresh 6 (t.acts.map dA),.fresh 1 (t.at_.map dI)]:=by rw [List.getElem?_map,hLi];rfl
        have hiL:i < (L.map dTF).length:=by omega
        refine Vm.sk_promote 3 i 4 ⟨rfl,rfl,rfl⟩ (by exact rfl) hrow rfl ?_
        simp only [List.set_cons_zero,List.set_cons_succ,List.length_cons,List.length_nil,List.cons_append,List.nil_append,Nat.reduceAdd,List.length_map]
        have hrow2:∀ x:List Vm.D,((L.map dTF).set i x)[i]?=some x:=fun x=>List.getElem?_set_self hiL
        have hml2:∀ x:List Vm.D,((L.map dTF).set i x).length=c.trans.length:=fun x=>by rw [List.length_set,hLm]
        refine Vm.rn (ai xRLaw7<|ai @hrow2<|ai @hml2 @List.set_set.{0}) ?_
        refine Vm.sk_loop (fun k:Nat=>t.at_.length - k) (fun k=>⟨[(1,.atom (.bool true)),(2,.rptr 0 0),(5,.atom (.bool true)),(6,.atom (.int .i64 a)),(7,.atom (.int .i64 i)),(8,.optr 3 c.trans.length i 0),(9,.atom (.int .i64 k))],[.cell [.own 1 c.names.length,.own 2 c.first.length,.own 3 c.trans.length],.sl 1 (c.names.map fun s=>[Vm.D.atom (.str s)]),.sl 3 (c.first.map dF),.sl 5 ((L.map dTF).set i [.atom (.str t.name),.atom (.int .i64 a),.atom (.int .i64 t.c),.fresh 6 (t.acts.map dA),.own 4 t.at_.length]),.sl 1 ((rngA (a + 1) k++t.at_.drop k).map dI)],159⟩) (fun k=>k≤t.at_.length) 0 ?_ (Nat.zero_le _) ?_
        · exact Vm.le_tm2 rfl (Vm.cl (ai xRLaw7<|ai @rngA.eq_1<|ai @List.range_zero<|ai @List.drop_zero.{0}<|ai @List.map_nil.{0,0} @List.nil_append.{0}))
        intro k hk ihk
        have hkl:((rngA (a + 1) k++t.at_.drop k).map dI).length=t.at_.length:=by rw [List.length_map,List.length_append,rngA_len,List.length_drop];omega
        have hks:=rngA_set (a:=a + 1) (l:=t.at_) (k:=k)
        have hkr:=fun (h:k < t.at_.length)=>row_at (f:=dI) (l:=rngA (a + 1) k++t.at_.drop k) (i:=k) (by rw [List.length_append,rngA_len,List.length_drop];omega)
        have hke:k=t.at_.length→(rngA (a + 1) k++t.at_.drop k).map dI=(rngA (a + 1) t.at_.length).map dI:=fun h=>by rw [h,List.drop_length,List.append_nil]
        generalize (rngA (a + 1) k++t.at_.drop k).map dI=rk at hkl hks hkr hke
        refine Vm.rn (ai xRLaw7<|ai @hrow2 @hml2) ?_
        refine Vm.sb_dec (fun hlt2=>?_) (fun hge2=>?_)
        · obtain ⟨y,_,gy⟩:=hkr (by omega)
          simp only [dI] at gy
          have hks2:=hks (by omega)
          refine Vm.rn (ai xRLaw7<|ai @hrow2<|ai @hml2<|ai @hkl @gy) ?_
          refine ihk (k + 1) _ (by dsimp only;omega) (by omega) ?_
          exact Vm.le_tm2 rfl (Vm.cl (ai xRLaw7<|ai @Int.natCast_add @hks2))
        · have hke:=hke (by omega)
          subst hke
          refine Vm.rn (ai xRLaw7<|ai @hrow2<|ai @hml2<|ai @hkl @List.set_set.{0}) ?_
          refine Vm.sk_le (Vm.le_demote (k:=3) (j:=i) (c:=4) (K:=4) (by exact rfl) (hrow2 _) rfl (by exact rfl) hkl (nlR_dI _)) ?_
          simp only [List.set_set,List.set_cons_zero,List.set_cons_succ]
          have hfin:(L.set i (mv1 a t)).map dTF=(L.map dTF).set i [Vm.D.atom (V.str t.name),Vm.D.atom (V.int IntKind.i64 a),Vm.D.atom (V.int IntKind.i64 (a + 1 + t.at_.length)),Vm.D.fresh 6 (t.acts.map dA),Vm.D.fresh 1 ((rngA (a + 1) t.at_.length).map dI)]:=by rw [List.map_set];rfl
          refine ih (i + 1,L.set i (mv1 a t)) _ (by dsimp only;omega) ⟨by dsimp only;omega,hnx⟩ ?_
          exact Vm.lx (Vm.cl (ai xRLaw7<|ai @Int.natCast_add<|ai @hstp @hfin))
      have hin:i=c.trans.length:=by omega
      have hL2:L=mvT 0 c.trans:=by rw [hL,hin,List.drop_length,List.append_nil,List.take_of_length_le (by rw [mvT_len];exact Nat.le_refl _)]
      obtain ⟨c',hcz,hcf,hcs,hc1,hc2,hcn,hci,hap,hnm,hfs,htr⟩:∃ c':Cas,checkC c'=0∧FitC c'∧sumA c'.trans≤48∧c'.first.length≤6∧(∀ s,s ∈ c'.first→s.l.length≤12)∧c'.trans.length≤8∧(∀ t,t ∈ c'.trans→∀ a,a ∈ t.acts→ActI a)∧(true=true→apartB c'.trans=true)∧c'.names=c.names∧c'.first=c.first∧c'.trans=L:=
       ⟨mvC c,mvC_check hz,mvC_fit hfit,by rw [show (mvC c).trans=mvT 0 c.trans from rfl,mvT_sum];omega,b2,b4,by rw [show (mvC c).trans=mvT 0 c.trans from rfl,mvT_len];exact b3,fun t ht=>by
        obtain ⟨u,b,hu,rfl⟩:=mvT_mem ht
        exact hi u hu,fun _=>(mvT_pl c.trans 0).2.2.2.2,rfl,rfl,hL2.symm⟩
      have hcl:c.trans.length=c'.trans.length:=by rw [htr,hLl]
      have hev:=events_v c' hcf (by omega) (fun x hx=>by have:=hc2 x hx;omega) hci
      rw [← hnm,← hfs,← htr,hcl]
      clear hL hL2 hLl hLm hnm hfs htr
      refine Vm.rn xRLaw7 ?_
      (have hh:=ai xRLaw7<|ai @dC.eq_1<|ai @dRep.eq_1<|ai @imLL_TF @imLL_Nm;refine Vm.call_eq2 (hev) (Vm.cl hh) (Vm.rn hh ?_);clear hh)
      obtain ⟨b,hb⟩:∃ b:Bool,b=true:=⟨_,rfl⟩
      rw [← hb] at hap
      refine Vm.sk_le (st':=⟨[(1,.atom (.bool b)),(2,.rptr 0 0),(5,.atom (.bool true)),(10,.own 4 (evE c').1.length),(11,.atom (.int .i64 (evE c').2.1)),(12,.atom (.int .i64 (evE c').2.2)),(13,.atom .nilSlice),(14,.atom (.int .i64 0))],[.cell [.own 1 c'.names.length,.own 2 c'.first.length,.own 3 c'.trans.length],.sl 1 (c'.names.map fun s=>[Vm.D.atom (.str s)]),.sl 3 (c'.first.map dF),.sl 5 (c'.trans.map dTF),.sl 3 ((evE c').1.map dF)],159⟩) (by exact Vm.le_tm2 rfl (by simp (maxSteps:=10000000) (disch:=first | assumption | (simp (disch:=(intro _;exact Vm.byRefl (by with_unfolding_all rfl))) only [tyfacts,Vm.szO_eq,Am.vd,Nat.reduceEqDiff,Nat.reduceLT,Nat.reduceLeDiff,Nat.reduceMul,Nat.reduceAdd,reduceCtorEq];try omega;done) | omega | (intro _;exact Vm.byRefl (by with_unfolding_all rfl))) only [Vm.wantedD,Am.va,Nat.reduceAdd,Nat.reduceMul,Nat.reduceSub,Nat.reduceLT,Nat.reduceLeDiff,Nat.reduceEqDiff,Int.reduceAdd,Int.reduceLT,Int.reduceLE,Int.reduceNeg,reduceCtorEq,↓reduceIte,tyfacts,hb])) ?_
      refine Vm.sk_frz 4 hB (by exact rfl) ?_
      simp only [Vm.frzT,Vm.frz,Vm.frz0,if_true,Nat.reduceEqDiff,if_false]
      rw [own_S _ rfl]
      refine Vm.sk_frzC 1 0 hB (by exact rfl) (by exact rfl) ?_
      simp only [Vm.frzT,Vm.frz,Vm.frz0,if_true,Nat.reduceEqDiff,if_false,List.map_cons,List.map_nil]
      rw [own_Nm _ rfl]
      refine Vm.sk_frzC 2 0 hB (by exact rfl) (by exact rfl) ?_
      simp only [Vm.frzT,Vm.frz,Vm.frz0,if_true,Nat.reduceEqDiff,if_false,List.map_cons,List.map_nil]
      rw [own_S _ rfl]
      refine Vm.sk_frzC 3 0 hB (by exact rfl) (by exact rfl) ?_
      simp only [Vm.frzT,Vm.frz,Vm.frz0,if_true,Nat.reduceEqDiff,if_false,List.map_cons,List.map_nil]
      rw [own_TF _ rfl]
      simp only [List.set_cons_zero,List.set_cons_succ]
      (have hh:=ai xRLaw7<|ai @fz_F<|ai @fz_I<|ai @fz_A3<|ai @fz_S3<|ai @fz_T3 @fz_N3;refine Vm.sk_fz 0 (by exact rfl) (Vm.cl hh) (Vm.fz hh ?_);clear hh)
      refine Vm.sk_le (st':=⟨[(1,.atom (.bool b)),(2,.iptr (dC c') 0),(5,.atom (.bool true)),(10,.imm 3 ((evE c').1.map dS)),(11,.atom (.int .i64 (evE c').2.1)),(12,.atom (.int .i64 (evE c').2.2)),(13,.atom .nilSlice),(14,.atom (.int .i64 0))],[],159⟩) (by exact Vm.le_of2 (by rw [hG0];first | exact Nat.zero_le _ | exact Nat.le_refl _) rfl (by simp (maxSteps:=10000000) (disch:=first | assumption | (simp (disch:=(intro _;exact Vm.byRefl (by with_unfolding_all rfl))) only [tyfacts,Vm.szO_eq,Am.vd,Nat.reduceEqDiff,Nat.reduceLT,Nat.reduceLeDiff,Nat.reduceMul,Nat.reduceAdd,reduceCtorEq];try omega;done) | omega | (intro _;exact Vm.byRefl (by with_unfolding_all rfl))) only [Vm.wantedD,Am.va,Nat.reduceAdd,Nat.reduceMul,Nat.reduceSub,Nat.reduceLT,Nat.reduceLeDiff,Nat.reduceEqDiff,Int.reduceAdd,Int.reduceLT,Int.reduceLE,Int.reduceNeg,reduceCtorEq,↓reduceIte,tyfacts,dC])) ?_
     all_goals
      obtain ⟨g1,g2,g3⟩:=ev_good hcz
      have g4:=g3 0 (fun x hx=>by have:=hc2 x hx;omega)
      clear g3 hev hi hlc b1 b2 b3 b4 b5 hfit hz hsum
      have hszv:=size_v c' hcf
      have hapv:=apart_v c' (by omega)
      have hoe:=fun h=>ord_ev hcz h
      have hrl:=rngI_len
      have hov:=order_v c' hcf (rngI c'.trans.length) (by rw [hrl];omega) (fun x hx=>by have:=hc2 x hx;rw [hrl];omega) hci
      generalize evE c'=q at *
      obtain ⟨S,m,e⟩:=q
      dsimp only at g1 g2 g4 ⊢
      refine Vm.sk_nil 13 1 (by rfl) ?_
      refine Vm.sk_loop (fun i:Nat=>c'.trans.length - i) (fun i=>⟨[(1,.atom (.bool b)),(2,.iptr (dC c') 0),(5,.atom (.bool true)),(10,.imm 3 (S.map dS)),(11,.atom (.int .i64 m)),(12,.atom (.int .i64 e)),(13,.own 0 i),(14,.atom (.int .i64 i))],[.sl 1 ((rngI i).map dI)],159⟩) (fun i=>i≤c'.trans.length) 0 ?_ (Nat.zero_le _) ?_
      · exact Vm.lx (Vm.cl (ai xRLaw7<|ai @rngI.eq_1<|ai @List.range_zero @List.map_nil.{0,0}))
      intro i hi1 ih
      refine Vm.rn (ai xRLaw7 @dC.eq_1) ?_
      refine Vm.sb_dec (fun hlt=>?_) (fun hge=>?_)
      · have hst:=rng_step i
        refine Vm.rn (ai xRLaw7<|ai @hrl @Vm.overD.eq_1) ?_
        refine ih (i + 1) _ (by dsimp only;omega) (by omega) ?_
        exact Vm.lx (Vm.cl (ai xRLaw7<|ai @Int.natCast_add<|ai @hst<|ai @hrl @dC.eq_1))
      · have:i=c'.trans.length:=by omega
        subst this
        refine Vm.rn (ai xRLaw7 @dC.eq_1) ?_
        (have hh:=ai xRLaw7 @dC.eq_1;refine Vm.call_eq2 (hszv) (Vm.cl hh) (Vm.rn hh ?_);clear hh)
        have m0:¬ (m:Int) < 0:=by omega
        rcases g1 with ⟨e0,m1⟩ | ⟨e0,m1⟩
        all_goals
         have m2:¬ (sumA c'.trans:Int) < m:=by omega
         first | subst m1 | skip
         subst e0
         refine Vm.rn (ai xRLaw7<|ai @m0<|ai @m2 @dC.eq_1) ?_
         (have hh:=ai xRLaw7 @dC.eq_1;refine Vm.call_eq2 (hapv) (Vm.cl hh) (Vm.rn hh ?_);clear hh)
         cases hb2:apartB c'.trans with
         | true =>
           rw [hoe hb2] at hov
           refine Vm.rn (ai xRLaw7 @dC.eq_1) ?_
           have hrl2:((rngI c'.trans.length).map dI).length=c'.trans.length:=by rw [List.length_map,hrl]
           (have hh:=ai xRLaw7<|ai @dC.eq_1<|ai @dRep.eq_1 @hrl2;refine Vm.call_eq2 (hov) (Vm.cl hh) (Vm.rn hh ?_);clear hh)
           refine Vm.call_eq2 (sameSs_v S S (by omega) (fun x hx=>by have:=g4 x hx;omega)) (Vm.cl xRLaw7) (Vm.rn xRLaw7 ?_)
           exact Vm.rx (Vm.cl xRLaw7)
         | false =>
           have hbf:b=false:=by cases b with
            | true=>rw [hap rfl] at hb2;cases hb2
            | false=>rfl
           rw [hbf]
           refine Vm.rn xRLaw7 ?_
           exact Vm.rx (Vm.cl xRLaw7)
   · refine Vm.rn (ai xRLaw7 @hz) ?_
     exact Vm.rx (Vm.cl xRLaw7)
theorem law_replayEvents (e:El shC) (ok:okE shC e) (w:El .bool) (_:okE .bool w):Vm.VC T 7 [argD shC e,argD .bool w] fun d=>d=.atom (.bool true):=by
 rw [arg_C]
 exact replayEvents_v (cvC e) w fun t ht=>ok_C ok t ht
end Go.Proofs.YtphjohoipocpnaaGreat.W
