import Derived.Test.YtphjohoipocpnaaGreatVmD
import Derived.Test.YtphjohoipocpnaaGreatRkK
import Derived.Test.YtphjohoipocpnaaGreatRkI
import Derived.Test.YtphjohoipocpnaaGreatRkG
set_option linter.unusedSimpArgs false
set_option linter.unusedVariables false
set_option maxRecDepth 8000
/- What the events do: the program's answer. No conditions. -/
namespace Go.Proofs.YtphjohoipocpnaaGreat.W
open Go.Am
set_option linter.defProp false in
def xREvt:=ai @prLL_dI<|ai @pr_dF<|ai @prLL_dF<|ai @imLL_I<|ai @nlR_dI<|ai @Vm.nlR_append<|ai @nlR_dF @Vm.dl8
def dG (p:Int×Act):List Vm.D:=[.atom (.str []),.atom (.int .i64 p.1),.atom (.int .i64 0),.fresh 6 [dA p.2],.atom .nilSlice]
def tG (p:Int×Act):Tra:=⟨[],p.1,0,[p.2],[]⟩
theorem nlR_dG (xs:List (Int×Act)):Vm.nlR (xs.map dG)=true:=Vm.nlR_map (fun x=>rfl) xs
theorem prLL_dG (xs:List (Int×Act)):Vm.prLL (xs.map dG)=true:=Vm.prLL_map (fun x=>rfl) xs
def sinT (t:Tra):List (Int×Act):=t.at_.zip t.acts
def sinC (ts:List Tra):List (Int×Act):=(ts.map sinT).flatten
noncomputable def evP (l:List (Int×Act)):List (Int×Act):=l.mergeSort fun x y=>decide (x.1≤y.1)
noncomputable def evE (c:Cas):List Sta×Nat×Int:=if checkC c≠0 then ([],0,checkC c) else repN c.first ((evP (sinC c.trans)).map (·.2)) 0
theorem sinC_step {l:List Tra} {i:Nat} {t:Tra} (h:l[i]?=some t):sinC (l.take (i+1))=sinC (l.take i)++sinT t:=by
 rw [take_at h];simp [sinC]
theorem sin_step {t:Tra} {k:Nat} {p:Int} {a:Act} (h1:t.at_[k]?=some p) (h2:t.acts[k]?=some a):(sinT t).take (k+1)=(sinT t).take k++[(p,a)]:=
 take_at (List.getElem?_zip_eq_some.2 ⟨h1,h2⟩)
theorem sinC_le (l:List Tra) (i:Nat):(sinC (l.take i)).length≤(sinC l).length:=by
 conv=>rhs;rw [← List.take_append_drop i l]
 simp only [sinC,List.map_append,List.flatten_append,List.length_append];omega
structure Plc (c:Cas):Prop where
 len:∀ t,t∈c.trans→t.at_.length=t.acts.length
 rise:∀ t,t∈c.trans→riseB (placesT t)=true
 beg:∀ t,t∈c.trans→0≤t.b
 nd:(allP c.trans).Nodup
theorem case_plc {c:Cas} (h:checkC c=0):Plc c:=by
 unfold checkC at h;split at h
 ·cases h
 split at h
 ·cases h
 split at h
 ·contradiction
 rename_i he;have he:errC c=0:=by simpa using he
 unfold errC at he;split at he
 ·contradiction
 split at h
 ·rename_i hnd
  have key:∀ t,t∈c.trans→t.at_.length=t.acts.length∧riseB (placesT t)=true∧0≤t.b:=fun t ht=>by
   obtain ⟨i,hi,rfl⟩:=List.mem_iff_getElem.1 ht;have:=fnz_all he (traE c i) (List.mem_map.2 ⟨i,by simp;omega,rfl⟩);rw [traE_at (List.getElem?_eq_getElem hi)] at this;split at this
   ·cases this
   split at this
   ·cases this
   split at this
   ·cases this
   rename_i hl;split at this
   ·cases this
   rename_i hr;refine ⟨by simpa using hl,?_,by omega⟩
   cases hb:riseB (placesT c.trans[i]) with
   | true=>rfl
   | false=>exact absurd (.inr (.inr hb)) hr
  exact ⟨fun t ht=>(key t ht).1,fun t ht=>(key t ht).2.1,fun t ht=>(key t ht).2.2,hnd⟩
 ·cases h
theorem map_fst_zip {t:Tra} (h:t.at_.length=t.acts.length):(sinT t).map (·.1)=t.at_:=List.map_fst_zip (by omega)
theorem sin_nodup {c:Cas} (h:Plc c):((sinC c.trans).map (·.1)).Nodup:=by
 have e:(sinC c.trans).map (·.1)=(c.trans.map (·.at_)).flatten:=by
  unfold sinC;rw [List.map_flatten,List.map_map]
  congr 1
  exact List.map_congr_left fun t ht=>map_fst_zip (h.len t ht)
 rw [e];refine h.nd.sublist ?_;unfold allP
 have:∀ l:List Tra,((l.map (·.at_)).flatten).Sublist ((l.map placesT).flatten):=by
  intro l
  induction l with
  | nil=>simp
  | cons t l ih =>
    simp only [List.map_cons,List.flatten_cons];refine List.Sublist.append ?_ ih;simp only [placesT,List.singleton_append,List.cons_append,List.nil_append];exact (List.sublist_append_left _ _).cons _
 exact this c.trans
theorem sort_G (l:List (Int×Act)):Vm.sortD 1 (l.map dG)=(evP l).map dG:=
 (List.map_mergeSort (r:=fun x y:Int×Act=>decide (x.1≤y.1)) (s:=fun x y=>decide (Vm.keyD 1 x≤Vm.keyD 1 y)) fun a _ b _=>rfl).symm
theorem evP_len (l:List (Int×Act)):(evP l).length=l.length:=List.length_mergeSort _
theorem imLL_G:∀ xs:List (Int×Act),Vm.imLL (xs.map dG)=xs.map fun p=>[.atom (.str []),.atom (.int .i64 p.1),.atom (.int .i64 0),.imm 6 [dA p.2],.atom .nilSlice]
 | []=>rfl
 | x::xs=>by simp only [List.map_cons,Vm.imLL,imLL_G xs];simp [dG,dA,Vm.imL,Vm.D.im,Vm.imLL]
def rngI (n:Nat):List Int:=(List.range n).map fun (i:Nat)=>(i:Int)
theorem actsOf_all (ts:List Tra):(actsOf ts (rngI ts.length)).map (·.2)=(ts.map (·.acts)).flatten:=by
 unfold actsOf rngI;rw [List.flatMap_map,List.map_flatMap,List.flatMap_def]
 congr 1
 apply List.ext_getElem (by simp);intro i h1 h2;have hi:i<ts.length:=by simpa using h1
 simp [List.getD_eq_getElem?_getD,hi,Function.comp_def]
theorem acts_G (l:List (Int×Act)):(actsOf (l.map tG) (rngI l.length)).map (·.2)=l.map (·.2):=by
 have:=actsOf_all (l.map tG);rw [List.length_map] at this;rw [this,List.map_map]
 induction l with
 | nil=>rfl
 | cons x l ih=>simp only [List.map_cons,List.flatten_cons,Function.comp,tG,List.singleton_append,List.cons.injEq,true_and];exact ih (by rw [← List.length_map (f:=tG)];exact actsOf_all _)
theorem sum_sin {l:List Tra} (h:∀ t,t∈l→t.at_.length=t.acts.length):(sinC l).length=sumA l:=by
 induction l with
 | nil=>rfl
 | cons t l ih =>
   have h1:=h t (by simp);have h2:=ih fun x hx=>h x (List.mem_cons_of_mem _ hx);simp only [sinC,List.map_cons,List.flatten_cons,List.length_append,sumA,List.sum_cons] at h2 ⊢;simp only [sinT,List.length_zip];omega
theorem flat_dle {α:Type} {f g:α→List Vm.D} (h:∀ x,Vm.dleL (f x) (g x)) {P:Nat→Prop} {H:Heap} {μ:List Vm.Hd}:∀ {l:List α} {ws:List V} {F:List Nat},Vm.RL P H μ (l.map f).flatten ws F→Vm.RL P H μ (l.map g).flatten ws F
 | [],ws,F,r=>r
 | x::l,ws,F,r=>by
   rw [List.map_cons,List.flatten_cons] at r ⊢;obtain ⟨v1,v2,F1,F2,rfl,rfl,r1,r2⟩:=r.split;exact (Vm.dleL_ok (h x) r1).app (flat_dle h r2)
theorem imm_dle {α:Type} {f g:α→List Vm.D} {s:Nat} (h:∀ x,Vm.dleL (f x) (g x)) (hl:∀ x,(g x).length=s) {P:Nat→Prop} {H:Heap} {μ:List Vm.Hd} {l:List α} {v:V} (r:Vm.RL P H μ [.imm s (l.map f)] [v] []):Vm.RL P H μ [.imm s (l.map g)] [v] []:=by
 rcases r.immInv.2 with ⟨rfl,e⟩ | ⟨a,o,q,ro,cs,ws,rfl,p,g',t,r2,el,u,c⟩
 ·have:l=[]:=by simpa using e
  subst this;exact .immNil .nil
 ·rw [List.length_map] at t c ⊢;have hlen:(l.map g).length=l.length:=List.length_map _;rw [← hlen] at t c ⊢
  exact .imm p g' t (flat_dle h r2) (fun e he=>by
   obtain ⟨x,_,rfl⟩:=List.mem_map.1 he;exact hl x) u c .nil
theorem sk_tmp {g:Vm.Gh} {c:Code} {kf:List Fr} {Q:Qt} {tm:List (Nat×Vm.D)} {so:List Vm.Ob} {n:Nat} (t:Nat) {d d':Vm.D} (ht:Vm.tget tm t=d) (h:∀ P H μ v,Vm.RL P H μ [d] [v] []→Vm.RL P H μ [d'] [v] [])
  (k:Vm.SK g T c kf ⟨(t,d')::tm,so,n⟩ Q):Vm.SK g T c kf ⟨tm,so,n⟩ Q:=
 Vm.sk_le (st':=⟨(t,d')::tm,so,n⟩) (fun a H P μ F r=>⟨P,μ,F,r.wf,r.nt,r.nd,fun t'=>by
   have hr:=r.tms t';show Vm.RL P H μ [Vm.tget ((t,d')::tm) t'] _ [];rw [Vm.tget_cons]
   by_cases e:t=t'
   ·subst e;rw [if_pos rfl];refine h P H μ _ ?_;rw [← ht];exact hr
   ·rw [if_neg e];exact hr,r.obs,r.nodup,r.apart,r.old,r.lt,r.p1,r.p2,r.pl,r.ext,r.gl⟩) k
theorem vm_fn {f g:FuncId} {d:Vm.D} {so:List Vm.Ob} {R:Vm.D→List Vm.Ob→Prop} (h:Vm.VM T f [d,.fn g [] []] so R):Vm.VM T f [d,.atom (.func (.func g) [] [])] so R:=fun P H μ F vs wf pl ol nd ap q=>h P H μ F vs wf pl ol nd ap (by
 obtain ⟨v,vs2,E1,E2,rfl,hE,q1,q2⟩:=q.uncons;have e1:=hE.symm;rw [List.append_eq_nil_iff] at e1;rw [e1.1] at q1;rw [e1.2] at q2;obtain ⟨v2,vs3,E3,E4,rfl,hE2,q3,q4⟩:=q2.uncons;obtain ⟨rfl,_⟩:=q4.nil_inv;obtain ⟨rfl,rfl⟩:=q3.atomInv;exact q1.app (Vm.RL.fn (F:=[]) (G:=[]) (K:=[]) .nil .nil .nil))
theorem sortG_v (l:List (Int×Act)) (hl:l.length≤1000000000) (hnd:(l.map (·.1)).Nodup) {so:List Vm.Ob} {k:Nat} (hk:so[k]?=some (.sl 5 (l.map dG))) :
  Vm.VM T 46 [.own k l.length,.atom (.func (.func 47) [] [])] so fun d so'=>d=.tuple []∧so'=so.set k (.sl 5 ((evP l).map dG)):=by
 have:=Vm.sortK_v (T:=T) (f:=46) (g:=47) (j:=1) (s:=5) (so:=so) (k:=k) (rows:=l.map dG) rfl hk (by decide) (fun r hr=>by
  obtain ⟨x,_,rfl⟩:=List.mem_map.1 hr;rfl) (by rw [List.map_map];exact hnd) (by rw [List.length_map];exact hl)
 rw [List.length_map,sort_G] at this;exact vm_fn this
theorem rng_zero (n:Nat):(rngI 0++List.replicate (n - 0) (0:Int)).map dI=List.replicate n [.atom (.int .i64 0)]:=by simp [rngI,dI]
theorem rng_all (n:Nat):(rngI n++List.replicate (n - n) (0:Int)).map dI=(rngI n).map dI:=by simp
theorem tG_dle (x:Int×Act):Vm.dleL [.atom (.str []),.atom (.int .i64 x.1),.atom (.int .i64 0),.imm 6 [dA x.2],.atom .nilSlice] (dT (tG x)):=by simp [dT,tG,Vm.dl8,Vm.dleD_nilI]
theorem rng_set (n i:Nat) (h:i<n):((rngI i++List.replicate (n - i) (0:Int)).map dI).set i [.atom (.int .i64 i)]=(rngI (i+1)++List.replicate (n - (i+1)) (0:Int)).map dI:=by
 have hr:(rngI i).length=i:=by simp [rngI]
 obtain ⟨m,hm⟩:∃ m,n - i=m+1:=⟨n - i - 1,by omega⟩
 rw [hm,show n - (i+1)=m by omega,List.replicate_succ,List.map_append,List.set_append_right _ _ (by rw [List.length_map,hr];exact Nat.le_refl _),List.length_map,hr,Nat.sub_self,List.map_cons,List.set_cons_zero];simp [rngI,List.range_succ,dI]
theorem own_G {k:Nat} {l:List (Int×Act)} (so:List Vm.Ob) (h:so[k]?=some (.sl 5 (l.map dG))):Vm.imQ so (.own k l.length)=.imm 5 (l.map fun p=>[.atom (.str []),.atom (.int .i64 p.1),.atom (.int .i64 0),.imm 6 [dA p.2],.atom .nilSlice]):=by
 rw [Vm.imQ_own,h,Vm.imO_sl _ _ _ (by simp),imLL_G]
theorem own_I {k n:Nat} {l:List Int} (hn:l.length=n) (so:List Vm.Ob) (h:so[k]?=some (.sl 1 (l.map dI))):Vm.imQ so (.own k n)=.imm 1 (l.map dI):=by
 rw [Vm.imQ_own,h,Vm.imO_sl _ _ _ (by simp [hn]),imLL_I]
set_option maxHeartbeats 4000000 in
theorem events_v (c:Cas) (hc:FitC c) (hs:sumA c.trans<1000000) (hf:FitS c.first (sumA c.trans)) (hi:∀ t,t∈c.trans→∀ a,a∈t.acts→ActI a) :
  Vm.VC T 24 [.agg (dC c)] fun d=>d=dRep (evE c):=by
 refine Vm.VC.dl ?_;refine Vm.ve (T:=T) Tryz.func24 fun g hB hG0 hU=>?_;simp only [Tryz.f24,Vm.aC,Vm.aN,Nat.reduceAdd];refine Vm.rn (ai xREvt<|ai @nlR_dG<|ai @prLL_dG @dC.eq_1) ?_;refine Vm.cq (ai xREvt<|ai @nlR_dG<|ai @prLL_dG @dC.eq_1) (checkC_v c hc) ?_
 by_cases hz:checkC c=0
 ·have hp:=case_plc hz;have hsum:=sum_sin hp.len;have hnd:=sin_nodup hp;refine Vm.rn (ai xREvt<|ai @nlR_dG<|ai @prLL_dG @hz) ?_;refine Vm.fy 0 (ai xREvt<|ai @nlR_dG<|ai @prLL_dG<|ai @fz_I<|ai @fz_A3<|ai @fz_S3<|ai @fz_T3 @fz_N3) ?_;refine Vm.sk_nil 6 5 (by rfl) ?_;refine Vm.sk_loop (fun i:Nat=>c.trans.length - i) (fun i=>⟨[(1,.iptr (dC c) 0),(19,.imm 5 (c.trans.map dT)),(20,.atom (.int .i64 c.trans.length)),(21,.atom (.int .i64 i)),(6,.own 1 (sinC (c.trans.take i)).length)],[.dead,.sl 5 ((sinC (c.trans.take i)).map dG)],70⟩) (fun i=>i≤c.trans.length) 0 ?_ (Nat.zero_le _) ?_
  ·exact Vm.lx (Vm.cl (ai xREvt<|ai @nlR_dG<|ai @prLL_dG<|ai @dC.eq_1<|ai @List.take_zero.{0}<|ai @sinC.eq_1 @List.flatten_nil.{0}))
  intro i hi1 ih;refine Vm.rn (ai xREvt<|ai @nlR_dG @prLL_dG) ?_;refine Vm.sb_dec (fun hlt=>?_) (fun hge=>?_)
  ·obtain ⟨t,ht,gt⟩:=row_at (f:=dT) (l:=c.trans) (i:=i) (by omega);simp only [dT] at gt;have htl:=hp.len t (List.mem_of_getElem? ht);obtain ⟨t1,t2⟩:=hc.2.2.2.2 t (List.mem_of_getElem? ht);have hc3:=hc.2.2.1;have hst:=sinC_step ht;have ht0:(sinT t).take 0=[]:=List.take_zero;refine Vm.rn (ai xREvt<|ai @nlR_dG<|ai @prLL_dG<|ai @gt @Vm.overD.eq_1) ?_;refine Vm.sk_loop (fun k:Nat=>t.acts.length - k) (fun k=>⟨[(1,.iptr (dC c) 0),(19,.imm 5 (c.trans.map dT)),(20,.atom (.int .i64 c.trans.length)),(21,.atom (.int .i64 i)),(6,.own 1 (sinC (c.trans.take i)++(sinT t).take k).length),(8,.rptr 2 0),(26,.imm 6 (t.acts.map dA)),(27,.atom (.int .i64 t.acts.length)),(28,.atom (.int .i64 k))],[.dead,.sl 5 ((sinC (c.trans.take i)++(sinT t).take k).map dG),.cell (dT t)],70⟩) (fun k=>k≤t.acts.length) 0 ?_ (Nat.zero_le _) ?_
   ·exact Vm.lx (Vm.cl (ai xREvt<|ai @nlR_dG<|ai @prLL_dG<|ai @dC.eq_1<|ai @dT.eq_1<|ai @ht0 @List.append_nil.{0}))
   intro k hk ihk;refine Vm.rn (ai xREvt<|ai @nlR_dG @prLL_dG) ?_;refine Vm.sb_dec (fun hlt2=>?_) (fun hge2=>?_)
   ·obtain ⟨a,ha,ga⟩:=row_at (f:=dA) (l:=t.acts) (i:=k) (by omega);obtain ⟨p,hpk,gp⟩:=row_at (f:=dI) (l:=t.at_) (i:=k) (by omega);have hs2:=sin_step hpk ha;simp only [dA] at ga;simp only [dI] at gp;refine Vm.rn (ai xREvt<|ai @nlR_dG<|ai @prLL_dG<|ai @ga @Vm.overD.eq_1) ?_
    have hb:(sinC (c.trans.take i)).length+((sinT t).take k).length<1000000:=by
     have h1:=sinC_le c.trans (i+1);have h2:((sinT t).take k).length≤(sinT t).length:=by rw [List.length_take];exact Nat.min_le_right _ _
     rw [hst,List.length_append] at h1;omega
    refine Vm.dw 12 [0,1,2,3,4,5,6,7,8,9,10,11] ?_;refine Vm.rn (ai xREvt<|ai @nlR_dG<|ai @prLL_dG<|ai @gp @dT.eq_1) ?_;refine Vm.rn (ai xREvt<|ai @nlR_dG @prLL_dG) ?_;refine ihk (k+1) _ (by dsimp only;omega) (by omega) ?_;exact Vm.lx (Vm.cl (ai xREvt<|ai @nlR_dG<|ai @prLL_dG<|ai @Int.natCast_add<|ai @dC.eq_1<|ai @dT.eq_1<|ai @dG.eq_1<|ai @dA.eq_1<|ai @hs2<|ai @Nat.add_assoc<|ai @List.append_assoc.{0}<|ai @List.map_append.{0,0}<|ai @List.map_cons.{0,0} @List.map_nil.{0,0}))
   ·have:k=t.acts.length:=by omega
    subst this;have htk:(sinT t).take t.acts.length=sinT t:=List.take_of_length_le (by simp [sinT];omega);refine Vm.rn (ai xREvt<|ai @nlR_dG @prLL_dG) ?_;refine ih (i+1) _ (by dsimp only;omega) (by omega) ?_;exact Vm.lx (Vm.cl (ai xREvt<|ai @nlR_dG<|ai @prLL_dG<|ai @Int.natCast_add<|ai @dC.eq_1<|ai @htk @hst))
  ·have:i=c.trans.length:=by omega
   subst this;rw [List.take_length];refine Vm.rn (ai xREvt<|ai @nlR_dG @prLL_dG) ?_;refine Vm.call_mut (R:=?vR1) ?vh1 ?vk1
   case vh1=>refine sortG_v (sinC c.trans) (by omega) hnd (k:=1) ?_ <;> rfl
   rintro d s ⟨hd,rfl⟩;subst hd;have hel:=evP_len (sinC c.trans);have he1:(evP (sinC c.trans)).length<1000000:=by omega
   have he2:evE c=repN c.first ((evP (sinC c.trans)).map (·.2)) 0:=by simp [evE,hz]
   have he3:∀ p,p∈evP (sinC c.trans)→ActI p.2:=fun p hp=>by
    have hp:=(List.mergeSort_perm _ _).mem_iff.1 hp;obtain ⟨l,hl,hpl⟩:=List.mem_flatten.1 hp;obtain ⟨t,ht,rfl⟩:=List.mem_map.1 hl;exact hi t ht _ (List.of_mem_zip hpl).2
   generalize evP (sinC c.trans)=es at hel he1 he2 he3;rw [← hel];have hact:(actsOf (es.map tG) (rngI es.length)).map (·.2)=es.map (·.2):=acts_G es;have hal:(actsOf (es.map tG) (rngI es.length)).length=es.length:=by simpa using congrArg List.length hact
   have hG:=acts1_v (es.map tG) (rngI es.length) (by rw [List.length_map];omega) (by simp [rngI];omega) (fun i hi=>by
    obtain ⟨j,hj,rfl⟩:=List.mem_map.1 hi;have:=List.mem_range.1 hj;rw [List.length_map];omega) (fun t ht=>by
    obtain ⟨p,_,rfl⟩:=List.mem_map.1 ht;simp [tG])
   have hd:=done_v c.first hG rfl rfl (by have:=hc.2.1;omega) (by omega) (fun x hx=>by have:=hf x hx;omega) (fun p hp=>by
    have h1:p.2∈(actsOf (es.map tG) (rngI es.length)).map (·.2):=List.mem_map.2 ⟨p,hp,rfl⟩;rw [hact] at h1;obtain ⟨q,hq,e⟩:=List.mem_map.1 h1;rw [← e];exact he3 q hq)
   rw [hact] at hd;clear hG hact hal he3;have hz1:=rng_zero es.length;refine Vm.rn (ai xREvt<|ai @nlR_dG @prLL_dG) ?_;refine Vm.sk_loop (fun i:Nat=>es.length - i) (fun i=>⟨[(1,.iptr (dC c) 0),(6,.own 1 es.length),(11,.own 2 es.length),(51,.own 2 es.length),(52,.atom (.int .i64 es.length)),(53,.atom (.int .i64 i))],[.dead,.sl 5 (es.map dG),.sl 1 ((rngI i++List.replicate (es.length - i) (0:Int)).map dI)],70⟩) (fun i=>i≤es.length) 0 ?_ (Nat.zero_le _) ?_
   ·exact Vm.lx (Vm.cl (ai xREvt<|ai @nlR_dG<|ai @prLL_dG<|ai @dC.eq_1 @hz1))
   intro i hi2 ih2;have hrl:((rngI i++List.replicate (es.length - i) (0:Int)).map dI).length=es.length:=by simp [rngI];omega
   have hst2:=rng_set es.length i;have hrow:=fun (h:i<es.length)=>row_at (f:=dI) (l:=rngI i++List.replicate (es.length - i) (0:Int)) (i:=i) (by simp [rngI];omega);generalize hrw:(rngI i++List.replicate (es.length - i) (0:Int)).map dI=rw0 at hrl hst2 hrow;refine Vm.rn (ai xREvt<|ai @nlR_dG @prLL_dG) ?_;refine Vm.sb_dec (fun hlt2=>?_) (fun hge2=>?_)
   ·have hst3:=hst2 (by omega);obtain ⟨y,_,gy⟩:=hrow (by omega);simp only [dI] at gy;refine Vm.rn (ai xREvt<|ai @nlR_dG<|ai @prLL_dG<|ai @hrl @gy) ?_;refine ih2 (i+1) _ (by dsimp only;omega) (by omega) ?_;exact Vm.lx (Vm.cl (ai xREvt<|ai @nlR_dG<|ai @prLL_dG<|ai @Int.natCast_add<|ai @dC.eq_1 @hst3))
   ·have:i=es.length:=by omega
    subst this;rw [rng_all] at hrw;subst hrw;refine Vm.rn (ai xREvt<|ai @nlR_dG @prLL_dG) ?_;have hr2:(rngI es.length).length=es.length:=by simp [rngI]
    refine Vm.sk_frz 1 hB (by exact rfl) ?_;simp only [Vm.frzT,Vm.frz,Vm.frz0,if_true,Nat.reduceEqDiff,if_false];rw [own_G _ rfl];refine Vm.sk_frz 2 hB (by exact rfl) ?_;simp only [Vm.frzT,Vm.frz,Vm.frz0,if_true,Nat.reduceEqDiff,if_false];rw [own_I hr2 _ rfl];refine sk_tmp 6 (d':=.imm 5 ((es.map tG).map dT)) (by exact rfl) (fun P H μ v r=>by rw [List.map_map];exact imm_dle tG_dle (fun x=>rfl) r) ?_;refine Vm.dv 12 [2,3,4,0,1,5,6,7,8,9,10,11] [0,1,0,0,12,31,63,63,63,511,1023,2047] ?_;refine Vm.rt (ai xREvt<|ai @nlR_dG<|ai @prLL_dG @dC.eq_1) ?_;refine acts_q _ (es.map tG) (rngI es.length) _ ?_;refine Vm.rt (ai xREvt<|ai @nlR_dG @prLL_dG) ?_
    (have hh:=ai xREvt<|ai @nlR_dG<|ai @prLL_dG @dRep.eq_1;(first | refine Vm.callQ_eq2 (hd) (Vm.ct hh) (Vm.rt hh ?_) | refine Vm.call_eq2 (hd) (Vm.ct hh) (Vm.rt hh ?_));clear hh)
    refine Vm.rn (ai xREvt<|ai @nlR_dG @prLL_dG) ?_;refine Vm.rz (ai xREvt<|ai @nlR_dG<|ai @prLL_dG @dRep.eq_1) ?_;simp [he2]
 ·refine Vm.rn (ai xREvt<|ai @nlR_dG<|ai @prLL_dG @hz) ?_;refine Vm.rz (ai xREvt<|ai @nlR_dG @prLL_dG) ?_;simp [evE,hz,dRep,Vm.dl8]
set_option linter.defProp false in
def xRCopy:=ai @prLL_dI<|ai @pr_dF<|ai @prLL_dF<|ai @imLL_I<|ai @nlR_dI<|ai @Vm.nlR_append<|ai @nlR_dF @Vm.dl8
def dTF (t:Tra):List Vm.D:=[.atom (.str t.name),.atom (.int .i64 t.b),.atom (.int .i64 t.c),.fresh 6 (t.acts.map dA),.fresh 1 (t.at_.map dI)]
def dCF (c:Cas):List Vm.D:=[.fresh 1 (c.names.map fun s=>[Vm.D.atom (.str s)]),.fresh 3 (c.first.map dF),.fresh 5 (c.trans.map dTF)]
theorem nlR_dNm (xs:List (List UInt8)):Vm.nlR (xs.map fun s=>[Vm.D.atom (.str s)])=true:=Vm.nlR_map (fun x=>rfl) xs
theorem prLL_dNm (xs:List (List UInt8)):Vm.prLL (xs.map fun s=>[Vm.D.atom (.str s)])=true:=Vm.prLL_map (fun x=>rfl) xs
theorem nlR_dTF (xs:List Tra):Vm.nlR (xs.map dTF)=true:=Vm.nlR_map (fun x=>by simp [dTF,Vm.nlL,Vm.D.nl,nlR_dA,nlR_dI]) xs
theorem prLL_dTF (xs:List Tra):Vm.prLL (xs.map dTF)=true:=Vm.prLL_map (fun x=>by simp [dTF,Vm.prL,Vm.D.pr,prLL_dA,prLL_dI]) xs
theorem fz_A4 (k:Nat) (cs:List Vm.D) (xs:List Act):(xs.map dA).map (Vm.fzL k cs)=xs.map dA:=by simp [dA,Vm.fzL,Vm.fzD]
theorem fz_S4 (k:Nat) (cs:List Vm.D) (xs:List Sta):(xs.map dS).map (Vm.fzL k cs)=xs.map dS:=by simp [dS,Vm.fzL,Vm.fzD]
theorem fz_N4 (k:Nat) (cs:List Vm.D) (xs:List (List UInt8)):(xs.map fun s=>[Vm.D.atom (.str s)]).map (Vm.fzL k cs)=xs.map fun s=>[Vm.D.atom (.str s)]:=by simp [Vm.fzL,Vm.fzD]
theorem fz_T4 (k:Nat) (cs:List Vm.D) (xs:List Tra):(xs.map dT).map (Vm.fzL k cs)=xs.map dT:=by
 rw [List.map_map];exact List.map_congr_left fun x _=>by simp only [Function.comp,dT,Vm.fzL,Vm.fzD,fz_A4,fz_I]
set_option maxHeartbeats 4000000 in
theorem copyC_v (c:Cas) (hc:FitC c):Vm.VC T 18 [.agg (dC c)] fun d=>d=.agg (dCF c):=by
 obtain ⟨f1,f2,f3,f4,f5⟩:=hc;refine Vm.VC.dl ?_;refine Vm.ve (T:=T) Tryz.func18 fun g hB hG0 hU=>?_;simp only [Tryz.f18,Vm.aC,Vm.aN,Nat.reduceAdd];refine Vm.rn (ai xRCopy<|ai @nlR_dTF<|ai @prLL_dTF<|ai @nlR_dNm<|ai @prLL_dNm @dC.eq_1) ?_;refine Vm.fy 0 (ai xRCopy<|ai @nlR_dTF<|ai @prLL_dTF<|ai @nlR_dNm<|ai @prLL_dNm<|ai @fz_I<|ai @fz_A4<|ai @fz_S4<|ai @fz_T4 @fz_N4) ?_;refine Vm.dv 10 [0,1,2,3,4,5,6,7,8,9] [0,0,2,7,0,16,63,127,0,511] ?_;refine Vm.rt (ai xRCopy<|ai @nlR_dTF<|ai @prLL_dTF<|ai @nlR_dNm<|ai @prLL_dNm @Vm.overD.eq_1) ?_
 (have hh:=ai xRCopy<|ai @nlR_dTF<|ai @prLL_dTF<|ai @nlR_dNm<|ai @prLL_dNm @Vm.overD.eq_1;(first | refine Vm.callQ_eq2 (copySs_v c.first (by omega) f4) (Vm.ct hh) (Vm.rt hh ?_) | refine Vm.call_eq2 (copySs_v c.first (by omega) f4) (Vm.ct hh) (Vm.rt hh ?_));clear hh)
 refine Vm.sk_nilC 4 2 5 rfl rfl ?_;refine Vm.sk_loop (fun i:Nat=>c.trans.length - i) (fun i=>⟨[(1,.iptr (dC c) 0),(2,.rptr 1 0),(3,.rptr 4 0),(4,.atom (.int .i64 i))],[.dead,.cell [.atom .nilSlice,.atom .nilSlice,.atom .nilSlice],.sl 1 (c.names.map fun s=>[Vm.D.atom (.str s)]),.sl 3 (c.first.map dF),.cell [.own 2 c.names.length,.own 3 c.first.length,.own 5 (c.trans.take i).length],.sl 5 ((c.trans.take i).map dTF)],32⟩) (fun i=>i≤c.trans.length) 0 ?_ (Nat.zero_le _) ?_
 ·exact Vm.lx (Vm.cl (ai xRCopy<|ai @nlR_dTF<|ai @prLL_dTF<|ai @nlR_dNm<|ai @prLL_dNm<|ai @dC.eq_1 @List.take_zero.{0}))
 intro i hi1 ih;refine Vm.rn (ai xRCopy<|ai @nlR_dTF<|ai @prLL_dTF<|ai @nlR_dNm<|ai @prLL_dNm @dC.eq_1) ?_;refine Vm.sb_dec (fun hlt=>?_) (fun hge=>?_)
 ·obtain ⟨t,ht,gt⟩:=row_at (f:=dT) (l:=c.trans) (i:=i) (by omega);obtain ⟨t1,t2⟩:=f5 t (List.mem_of_getElem? ht);have hst:(c.trans.take (i+1)).map dTF=(c.trans.take i).map dTF++[dTF t]:=by rw [take_at ht];simp
  simp only [dT] at gt;refine Vm.rn (ai xRCopy<|ai @nlR_dTF<|ai @prLL_dTF<|ai @nlR_dNm @prLL_dNm) ?_;refine Vm.dv 12 [2,3,4,5,6,7,0,1,8,9,10,11] [0,1,0,4,0,28,60,124,252,511,1023,2047] ?_;refine Vm.rt (ai xRCopy<|ai @nlR_dTF<|ai @prLL_dTF<|ai @nlR_dNm<|ai @prLL_dNm<|ai @gt @dC.eq_1) ?_;have hti:(c.trans.take i).length=i:=by rw [List.length_take];omega
  have hti2:(c.trans.take (i+1)).length=i+1:=by rw [List.length_take];omega
  (have hh:=ai xRCopy<|ai @nlR_dTF<|ai @prLL_dTF<|ai @nlR_dNm<|ai @prLL_dNm<|ai @dT.eq_1<|ai @hti @List.length_map.{0,0};(first | refine Vm.callQ_eq2 (copyT_v t (by omega) (by omega)) (Vm.ct hh) (Vm.rt hh ?_) | refine Vm.call_eq2 (copyT_v t (by omega) (by omega)) (Vm.ct hh) (Vm.rt hh ?_));clear hh)
  refine Vm.rn (ai xRCopy<|ai @nlR_dTF<|ai @prLL_dTF<|ai @nlR_dNm @prLL_dNm) ?_;refine ih (i+1) _ (by dsimp only;omega) (by omega) ?_;exact Vm.lx (Vm.cl (ai xRCopy<|ai @nlR_dTF<|ai @prLL_dTF<|ai @nlR_dNm<|ai @prLL_dNm<|ai @Int.natCast_add<|ai @dC.eq_1<|ai @hst<|ai @hti2<|ai @hti @dTF.eq_1))
 ·have:i=c.trans.length:=by omega
  subst this;refine Vm.rn (ai xRCopy<|ai @nlR_dTF<|ai @prLL_dTF<|ai @nlR_dNm @prLL_dNm) ?_;exact Vm.rx (Vm.cl (ai xRCopy<|ai @nlR_dTF<|ai @prLL_dTF<|ai @nlR_dNm<|ai @prLL_dNm<|ai @dCF.eq_1 @List.take_length.{0}))
set_option linter.defProp false in
def xREvt2:=ai @prLL_dI<|ai @pr_dF<|ai @prLL_dF<|ai @imLL_I<|ai @nlR_dI<|ai @Vm.nlR_append<|ai @nlR_dF @Vm.dl8
theorem rise_pw:∀ {l:List Int},riseB l=true→l.Pairwise (·<·)
 | [],_=>.nil
 | [x],_=>List.pairwise_singleton ..
 | x::y::r,h=>by
   rw [riseB,Bool.and_eq_true,decide_eq_true_eq] at h;have ih:=rise_pw h.2;refine List.pairwise_cons.2 ⟨fun z hz=>?_,ih⟩;rcases List.mem_cons.1 hz with e | hz
   ·rw [e];exact h.1
   ·exact Int.lt_trans h.1 ((List.pairwise_cons.1 ih).1 z hz)
noncomputable def ordE (c:Cas) (o:List Int):List Sta×Nat×Int:=if listE c o true≠0 then ([],0,listE c o true) else repN c.first ((actsOf c.trans o).map (·.2)) 0
set_option maxHeartbeats 1000000 in
theorem order_v (c:Cas) (hc:FitC c) (o:List Int) (hl:o.length<1000) (hf:FitS c.first (100 * o.length)) (hi:∀ t,t∈c.trans→∀ a,a∈t.acts→ActI a) :
  Vm.VC T 22 [.agg (dC c),.imm 1 (o.map dI)] fun d=>d=dRep (ordE c o):=by
 refine Vm.VC.dl ?_;refine Vm.ve (T:=T) Tryz.func22 fun g hB hG0 hU=>?_;simp only [Tryz.f22,Vm.aC,Vm.aN,Nat.reduceAdd];refine Vm.rn (ai xREvt2 @dC.eq_1) ?_;refine Vm.cq (ai xREvt2 @dC.eq_1) (listed_v c hc o (by omega) true) ?_
 by_cases h1:listE c o true=0
 ·obtain ⟨k1,k2,k3⟩:=list_ok h1;have hal:=actsOf_len (fun t ht=>(hc.2.2.2.2 t ht).1) o;have hG:=acts1_v c.trans o (by have:=hc.2.2.1;omega) (by omega) k2 (fun t ht=>by have:=(hc.2.2.2.2 t ht).1;omega)
  have hd:=done_v c.first hG rfl rfl (by have:=hc.2.1;omega) (by omega) (fun x hx=>by have:=hf x hx;omega) (fun p hp=>by
   obtain ⟨t,ht,ha⟩:=actsOf_mem hp k2;exact hi t ht _ ha)
  refine Vm.rn (ai xREvt2 @h1) ?_;refine Vm.fy 0 (ai xREvt2<|ai @fz_I<|ai @fz_A3<|ai @fz_S3<|ai @fz_T3 @fz_N3) ?_;refine Vm.dv 13 [2,3,4,5,0,1,6,7,8,9,10,11,12] [0,1,0,4,0,28,63,127,127,127,1023,2047,4095] ?_;refine Vm.rt xREvt2 ?_;refine acts_q _ c.trans o _ ?_;refine Vm.rt xREvt2 ?_
  (have hh:=ai xREvt2 @dRep.eq_1;(first | refine Vm.callQ_eq2 (hd) (Vm.ct hh) (Vm.rt hh ?_) | refine Vm.call_eq2 (hd) (Vm.ct hh) (Vm.rt hh ?_));clear hh)
  refine Vm.rn xREvt2 ?_;refine Vm.rz (ai xREvt2 @dRep.eq_1) ?_;simp [ordE,h1]
 ·refine Vm.rn (ai xREvt2 @h1) ?_;refine Vm.rz xREvt2 ?_;simp [ordE,h1,dRep,Vm.dl8]
end Go.Proofs.YtphjohoipocpnaaGreat.W
