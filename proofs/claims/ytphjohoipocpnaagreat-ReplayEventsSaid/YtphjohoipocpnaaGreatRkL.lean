import Derived.Test.YtphjohoipocpnaaGreatRkK
import Derived.Test.YtphjohoipocpnaaGreatRkI
import Derived.Test.YtphjohoipocpnaaGreatRkG
set_option linter.unusedSimpArgs false
set_option linter.unusedVariables false
set_option maxRecDepth 8000
/- What the events do: the program's answer. No conditions. -/
namespace Go.Proofs.YtphjohoipocpnaaGreat.W
open Go.Am
set_option linter.defProp false in
def xREvt:=ai @prLL_dI<|ai @pr_dF<|ai @prLL_dF<|ai @imLL_I<|ai @nlR_dI<|ai @Vm.nlR_append<|ai @nlR_dF @Vm.dl8
def dG (p:Int × Act):List Vm.D:=[.atom (.str []),.atom (.int .i64 p.1),.atom (.int .i64 0),.fresh 6 [dA p.2],.atom .nilSlice]
def tG (p:Int × Act):Tra:=⟨[],p.1,0,[p.2],[]⟩
theorem nlR_dG (xs:List (Int × Act)):Vm.nlR (xs.map dG)=true:=Vm.nlR_map (fun x=>rfl) xs
theorem prLL_dG (xs:List (Int × Act)):Vm.prLL (xs.map dG)=true:=Vm.prLL_map (fun x=>rfl) xs
def sinT (t:Tra):List (Int × Act):=t.at_.zip t.acts
def sinC (ts:List Tra):List (Int × Act):=(ts.map sinT).flatten
noncomputable def evP (l:List (Int × Act)):List (Int × Act):=l.mergeSort fun x y=>decide (x.1≤y.1)
noncomputable def evE (c:Cas):List Sta × Nat × Int:=if checkC c ≠ 0 then ([],0,checkC c) else repN c.first ((evP (sinC c.trans)).map (·.2)) 0
theorem sinC_step {l:List Tra} {i:Nat} {t:Tra} (h:l[i]?=some t):sinC (l.take (i + 1))=sinC (l.take i)++sinT t:=by
 rw [take_at h];simp [sinC]
theorem sin_step {t:Tra} {k:Nat} {p:Int} {a:Act} (h1:t.at_[k]?=some p) (h2:t.acts[k]?=some a):(sinT t).take (k + 1)=(sinT t).take k++[(p,a)]:=
 take_at (List.getElem?_zip_eq_some.2 ⟨h1,h2⟩)
theorem sinC_le (l:List Tra) (i:Nat):(sinC (l.take i)).length≤(sinC l).length:=by
 conv=>rhs;rw [← List.take_append_drop i l]
 simp only [sinC,List.map_append,List.flatten_append,List.length_append];omega
structure Plc (c:Cas):Prop where
 len:∀ t,t ∈ c.trans→t.at_.length=t.acts.length
 rise:∀ t,t ∈ c.trans→riseB (placesT t)=true
 beg:∀ t,t ∈ c.trans→0≤t.b
 nd:(allP c.trans).Nodup
theorem case_plc {c:Cas} (h:checkC c=0):Plc c:=by
 unfold checkC at h
 split at h
 · cases h
 split at h
 · cases h
 split at h
 · contradiction
 rename_i he
 have he:errC c=0:=by simpa using he
 unfold errC at he
 split at he
 · contradiction
 split at h
 · rename_i hnd
   have key:∀ t,t ∈ c.trans→t.at_.length=t.acts.length∧riseB (placesT t)=true∧0≤t.b:=fun t ht=>by
    obtain ⟨i,hi,rfl⟩:=List.mem_iff_getElem.1 ht
    have:=fnz_all he (traE c i) (List.mem_map.2 ⟨i,by simp;omega,rfl⟩)
    rw [traE_at (List.getElem?_eq_getElem hi)] at this
    split at this
    · cases this
    split at this
    · cases this
    split at this
    · cases this
    rename_i hl
    split at this
    · cases this
    rename_i hr
    refine ⟨by simpa using hl,?_,by omega⟩
    cases hb:riseB (placesT c.trans[i]) with
    | true=>rfl
    | false=>exact absurd (.inr (.inr hb)) hr
   exact ⟨fun t ht=>(key t ht).1,fun t ht=>(key t ht).2.1,fun t ht=>(key t ht).2.2,hnd⟩
 · cases h
theorem map_fst_zip {t:Tra} (h:t.at_.length=t.acts.length):(sinT t).map (·.1)=t.at_:=List.map_fst_zip (by omega)
theorem map_snd_zip {t:Tra} (h:t.at_.length=t.acts.length):(sinT t).map (·.2)=t.acts:=List.map_snd_zip (by omega)
theorem sin_nodup {c:Cas} (h:Plc c):((sinC c.trans).map (·.1)).Nodup:=by
 have e:(sinC c.trans).map (·.1)=(c.trans.map (·.at_)).flatten:=by
  unfold sinC
  rw [List.map_flatten,List.map_map]
  congr 1
  exact List.map_congr_left fun t ht=>map_fst_zip (h.len t ht)
 rw [e]
 refine h.nd.sublist ?_
 unfold allP
 have:∀ l:List Tra,((l.map (·.at_)).flatten).Sublist ((l.map placesT).flatten):=by
  intro l
  induction l with
  | nil=>simp
  | cons t l ih =>
    simp only [List.map_cons,List.flatten_cons]
    refine List.Sublist.append ?_ ih
    simp only [placesT,List.singleton_append,List.cons_append,List.nil_append]
    exact (List.sublist_append_left _ _).cons _
 exact this c.trans
theorem sort_G (l:List (Int × Act)):Vm.sortD 1 (l.map dG)=(evP l).map dG:=
 (List.map_mergeSort (r:=fun x y:Int × Act=>decide (x.1≤y.1)) (s:=fun x y=>decide (Vm.keyD 1 x≤Vm.keyD 1 y)) fun a _ b _=>rfl).symm
theorem evP_len (l:List (Int × Act)):(evP l).length=l.length:=List.length_mergeSort _
theorem imLL_G:∀ xs:List (Int × Act),Vm.imLL (xs.map dG)=xs.map fun p=>[.atom (.str []),.atom (.int .i64 p.1),.atom (.int .i64 0),.imm 6 [dA p.2],.atom .nilSlice]
 | []=>rfl
 | x::xs=>by simp only [List.map_cons,Vm.imLL,imLL_G xs];simp [dG,dA,Vm.imL,Vm.D.im,Vm.imLL]
def rngI (n:Nat):List Int:=(List.range n).map fun (i:Nat)=>(i:Int)
theorem actsOf_all (ts:List Tra):(actsOf ts (rngI ts.length)).map (·.2)=(ts.map (·.acts)).flatten:=by
 unfold actsOf rngI
 rw [List.flatMap_map,List.map_flatMap,List.flatMap_def]
 congr 1
 apply List.ext_getElem (by simp)
 intro i h1 h2
 have hi:i < ts.length:=by simpa using h1
 simp [List.getD_eq_getElem?_getD,hi,Function.comp_def]
theorem acts_G (l:List (Int × Act)):(actsOf (l.map tG) (rngI l.length)).map (·.2)=l.map (·.2):=by
 have:=actsOf_all (l.map tG)
 rw [List.length_map] at this
 rw [this,List.map_map]
 induction l with
 | nil=>rfl
 | cons x l ih=>simp only [List.map_cons,List.flatten_cons,Function.comp,tG,List.singleton_append,List.cons.injEq,true_and];exact ih (by rw [← List.length_map (f:=tG)];exact actsOf_all _)
theorem sum_sin {l:List Tra} (h:∀ t,t ∈ l→t.at_.length=t.acts.length):(sinC l).length=sumA l:=by
 induction l with
 | nil=>rfl
 | cons t l ih =>
   have h1:=h t (by simp)
   have h2:=ih fun x hx=>h x (List.mem_cons_of_mem _ hx)
   simp only [sinC,List.map_cons,List.flatten_cons,List.length_append,sumA,List.sum_cons] at h2 ⊢
   simp only [sinT,List.length_zip]
   omega
theorem flat_dle {α:Type} {f g:α→List Vm.D} (h:∀ x,Vm.dleL (f x) (g x)) {P:Nat→Prop} {H:Heap} {μ:List Vm.Hd}:∀ {l:List α} {ws:List V} {F:List Nat},Vm.RL P H μ (l.map f).flatten ws F→Vm.RL P H μ (l.map g).flatten ws F
 | [],ws,F,r=>r
 | x::l,ws,F,r=>by
   rw [List.map_cons,List.flatten_cons] at r ⊢
   obtain ⟨v1,v2,F1,F2,rfl,rfl,r1,r2⟩:=r.split
   exact (Vm.dleL_ok (h x) r1).app (flat_dle h r2)
theorem imm_dle {α:Type} {f g:α→List Vm.D} {s:Nat} (h:∀ x,Vm.dleL (f x) (g x)) (hl:∀ x,(g x).length=s) {P:Nat→Prop} {H:Heap} {μ:List Vm.Hd} {l:List α} {v:V} (r:Vm.RL P H μ [.imm s (l.map f)] [v] []):Vm.RL P H μ [.imm s (l.map g)] [v] []:=by
 rcases r.immInv.2 with ⟨rfl,e⟩ | ⟨a,o,q,ro,cs,ws,rfl,p,g',t,r2,el,u,c⟩
 · have:l=[]:=by simpa using e
   subst this;exact .immNil .nil
 · rw [List.length_map] at t c ⊢
   have hlen:(l.map g).length=l.length:=List.length_map _
   rw [← hlen] at t c ⊢
   exact .imm p g' t (flat_dle h r2) (fun e he=>by
    obtain ⟨x,_,rfl⟩:=List.mem_map.1 he
    exact hl x) u c .nil
theorem sk_tmp {g:Vm.Gh} {c:Code} {kf:List Fr} {Q:Qt} {tm:List (Nat × Vm.D)} {so:List Vm.Ob} {n:Nat} (t:Nat) {d d':Vm.D} (ht:Vm.tget tm t=d) (h:∀ P H μ v,Vm.RL P H μ [d] [v] []→Vm.RL P H μ [d'] [v] [])
  (k:Vm.SK g T c kf ⟨(t,d')::tm,so,n⟩ Q):Vm.SK g T c kf ⟨tm,so,n⟩ Q:=
 Vm.sk_le (st':=⟨(t,d')::tm,so,n⟩) (fun a H P μ F r=>⟨P,μ,F,r.wf,r.nt,r.nd,fun t'=>by
   have hr:=r.tms t'
   show Vm.RL P H μ [Vm.tget ((t,d')::tm) t'] _ []
   rw [Vm.tget_cons]
   by_cases e:t=t'
   · subst e
     rw [if_pos rfl]
     refine h P H μ _ ?_
     rw [← ht];exact hr
   · rw [if_neg e];exact hr,r.obs,r.nodup,r.apart,r.old,r.lt,r.p1,r.p2,r.pl,r.ext,r.gl⟩) k
theorem vm_fn {f g:FuncId} {d:Vm.D} {so:List Vm.Ob} {R:Vm.D→List Vm.Ob→Prop} (h:Vm.VM T f [d,.fn g [] []] so R):Vm.VM T f [d,.atom (.func (.func g) [] [])] so R:=fun P H μ F vs wf pl ol nd ap q=>h P H μ F vs wf pl ol nd ap (by
 obtain ⟨v,vs2,E1,E2,rfl,hE,q1,q2⟩:=q.uncons
 have e1:=hE.symm
 rw [List.append_eq_nil_iff] at e1
 rw [e1.1] at q1;rw [e1.2] at q2
 obtain ⟨v2,vs3,E3,E4,rfl,hE2,q3,q4⟩:=q2.uncons
 obtain ⟨rfl,_⟩:=q4.nil_inv
 obtain ⟨rfl,rfl⟩:=q3.atomInv
 exact q1.app (Vm.RL.fn (F:=[]) (G:=[]) (K:=[]) .nil .nil .nil))
theorem sortG_v (l:List (Int × Act)) (hl:l.length≤1000000000) (hnd:(l.map (·.1)).Nodup) {so:List Vm.Ob} {k:Nat} (hk:so[k]?=some (.sl 5 (l.map dG))) :
  Vm.VM T 46 [.own k l.length,.atom (.func (.func 47) [] [])] so fun d so'=>d=.tuple []∧so'=so.set k (.sl 5 ((evP l).map dG)):=by
 have:=Vm.sortK_v (T:=T) (f:=46) (g:=47) (j:=1) (s:=5) (so:=so) (k:=k) (rows:=l.map dG) rfl hk (by decide) (fun r hr=>by
  obtain ⟨x,_,rfl⟩:=List.mem_map.1 hr;rfl) (by rw [List.map_map];exact hnd) (by rw [List.length_map];exact hl)
 rw [List.length_map,sort_G] at this
 exact vm_fn this
theorem rng_zero (n:Nat):(rngI 0++List.replicate (n - 0) (0:Int)).map dI=List.replicate n [.atom (.int .i64 0)]:=by simp [rngI,dI]
theorem rng_all (n:Nat):(rngI n++List.replicate (n - n) (0:Int)).map dI=(rngI n).map dI:=by simp
theorem tG_dle (x:Int × Act):Vm.dleL [.atom (.str []),.atom (.int .i64 x.1),.atom (.int .i64 0),.imm 6 [dA x.2],.atom .nilSlice] (dT (tG x)):=by simp [dT,tG,Vm.dl8,Vm.dleD_nilI]
theorem rng_set (n i:Nat) (h:i < n):((rngI i++List.replicate (n - i) (0:Int)).map dI).set i [.atom (.int .i64 i)]=(rngI (i + 1)++List.replicate (n - (i + 1)) (0:Int)).map dI:=by
 have hr:(rngI i).length=i:=by simp [rngI]
 obtain ⟨m,hm⟩:∃ m,n - i=m + 1:=⟨n - i - 1,by omega⟩
 rw [hm,show n - (i + 1)=m by omega,List.replicate_succ,List.map_append,List.set_append_right _ _ (by rw [List.length_map,hr];exact Nat.le_refl _),List.length_map,hr,Nat.sub_self,List.map_cons,List.set_cons_zero]
 simp [rngI,List.range_succ,dI]
theorem own_G {k:Nat} {l:List (Int × Act)} (so:List Vm.Ob) (h:so[k]?=some (.sl 5 (l.map dG))):Vm.imQ so (.own k l.length)=.imm 5 (l.map fun p=>[.atom (.str []),.atom (.int .i64 p.1),.atom (.int .i64 0),.imm 6 [dA p.2],.atom .nilSlice]):=by
 rw [Vm.imQ_own,h,Vm.imO_sl _ _ _ (by simp),imLL_G]
theorem own_I {k n:Nat} {l:List Int} (hn:l.length=n) (so:List Vm.Ob) (h:so[k]?=some (.sl 1 (l.map dI))):Vm.imQ so (.own k n)=.imm 1 (l.map dI):=by
 rw [Vm.imQ_own,h,Vm.imO_sl _ _ _ (by simp [hn]),imLL_I]
set_option maxHeartbeats 4000000 in
theorem events_v (c:Cas) (hc:FitC c) (hs:sumA c.trans < 1000000) (hf:FitS c.first (sumA c.trans)) (hi:∀ t,t ∈ c.trans→∀ a,a ∈ t.acts→ActI a) :
  Vm.VC T 24 [.agg (dC c)] fun d=>d=dRep (evE c):=by
 refine Vm.VC.dl ?_
 refine Vm.vc_enter (T:=T) rfl Tryz.func24 rfl (by simp only [Tryz.f24,List.length_cons,List.length_nil];decide) fun g hB hG0 hU=>?_
 simp only [Tryz.f24,Vm.argsTm_cons,Vm.argsTm_nil,Nat.reduceAdd]
 refine Vm.rn (ai xREvt<|ai @nlR_dG<|ai @prLL_dG @dC.eq_1) ?_
 (have hh:=ai xREvt<|ai @nlR_dG<|ai @prLL_dG @dC.eq_1;refine Vm.call_eq2 (checkC_v c hc) (Vm.cl hh) (Vm.rn hh ?_);clear hh)
 by_cases hz:checkC c=0
 · have hp:=case_plc hz
   have hsum:=sum_sin hp.len
   have hnd:=sin_nodup hp
   refine Vm.rn (ai xREvt<|ai @nlR_dG<|ai @prLL_dG @hz) ?_
   (have hh:=ai xREvt<|ai @nlR_dG<|ai @prLL_dG<|ai @fz_I<|ai @fz_A3<|ai @fz_S3<|ai @fz_T3 @fz_N3;refine Vm.sk_fz 0 (by exact rfl) (Vm.cl hh) (Vm.fz hh ?_);clear hh)
   refine Vm.sk_nil 6 5 (by rfl) ?_
   refine Vm.sk_loop (fun i:Nat=>c.trans.length - i) (fun i=>⟨[(1,.iptr (dC c) 0),(19,.imm 5 (c.trans.map dT)),(20,.atom (.int .i64 c.trans.length)),(21,.atom (.int .i64 i)),(6,.own 1 (sinC (c.trans.take i)).length)],[.dead,.sl 5 ((sinC (c.trans.take i)).map dG)],70⟩) (fun i=>i≤c.trans.length) 0 ?_ (Nat.zero_le _) ?_
   · exact Vm.lx (Vm.cl (ai xREvt<|ai @nlR_dG<|ai @prLL_dG<|ai @dC.eq_1<|ai @List.take_zero.{0}<|ai @sinC.eq_1 @List.flatten_nil.{0}))
   intro i hi1 ih
   refine Vm.rn (ai xREvt<|ai @nlR_dG @prLL_dG) ?_
   refine Vm.sb_dec (fun hlt=>?_) (fun hge=>?_)
   · obtain ⟨t,ht,gt⟩:=row_at (f:=dT) (l:=c.trans) (i:=i) (by omega)
     simp only [dT] at gt
     have htl:=hp.len t (List.mem_of_getElem? ht)
     obtain ⟨t1,t2⟩:=hc.2.2.2.2 t (List.mem_of_getElem? ht)
     have hc3:=hc.2.2.1
     have hst:=sinC_step ht
     have ht0:(sinT t).take 0=[]:=List.take_zero
     refine Vm.rn (ai xREvt<|ai @nlR_dG<|ai @prLL_dG<|ai @gt @Vm.overD.eq_1) ?_
     refine Vm.sk_loop (fun k:Nat=>t.acts.length - k) (fun k=>⟨[(1,.iptr (dC c) 0),(19,.imm 5 (c.trans.map dT)),(20,.atom (.int .i64 c.trans.length)),(21,.atom (.int .i64 i)),(6,.own 1 (sinC (c.trans.take i)++(sinT t).take k).length),(8,.rptr 2 0),(26,.imm 6 (t.acts.map dA)),(27,.atom (.int .i64 t.acts.length)),(28,.atom (.int .i64 k))],[.dead,.sl 5 ((sinC (c.trans.take i)++(sinT t).take k).map dG),.cell (dT t)],70⟩) (fun k=>k≤t.acts.length) 0 ?_ (Nat.zero_le _) ?_
     · exact Vm.lx (Vm.cl (ai xREvt<|ai @nlR_dG<|ai @prLL_dG<|ai @dC.eq_1<|ai @dT.eq_1<|ai @ht0 @List.append_nil.{0}))
     intro k hk ihk
     refine Vm.rn (ai xREvt<|ai @nlR_dG @prLL_dG) ?_
     refine Vm.sb_dec (fun hlt2=>?_) (fun hge2=>?_)
     · obtain ⟨a,ha,ga⟩:=row_at (f:=dA) (l:=t.acts) (i:=k) (by omega)
       obtain ⟨p,hpk,gp⟩:=row_at (f:=dI) (l:=t.at_) (i:=k) (by omega)
       have hs2:=sin_step hpk ha
       simp only [dA] at ga
       simp only [dI] at gp
       refine Vm.rn (ai xREvt<|ai @nlR_dG<|ai @prLL_dG<|ai @ga @Vm.overD.eq_1) ?_
       have hb:(sinC (c.trans.take i)).length + ((sinT t).take k).length < 1000000:=by
        have h1:=sinC_le c.trans (i + 1)
        have h2:((sinT t).take k).length≤(sinT t).length:=by rw [List.length_take];exact Nat.min_le_right _ _
        rw [hst,List.length_append] at h1;omega
       refine Vm.sk_draw 12 [0,1,2,3,4,5,6,7,8,9,10,11] (by kernel_rfl) (by kernel_rfl) (by decide) ?_
       refine Vm.rn (ai xREvt<|ai @nlR_dG<|ai @prLL_dG<|ai @gp @dT.eq_1) ?_
       refine Vm.rn (ai xREvt<|ai @nlR_dG @prLL_dG) ?_
       refine ihk (k + 1) _ (by dsimp only;omega) (by omega) ?_
       exact Vm.lx (Vm.cl (ai xREvt<|ai @nlR_dG<|ai @prLL_dG<|ai @Int.natCast_add<|ai @dC.eq_1<|ai @dT.eq_1<|ai @dG.eq_1<|ai @dA.eq_1<|ai @hs2<|ai @Nat.add_assoc<|ai @List.append_assoc.{0}<|ai @List.map_append.{0,0}<|ai @List.map_cons.{0,0} @List.map_nil.{0,0}))
     · have:k=t.acts.length:=by omega
       subst this
       have htk:(sinT t).take t.acts.length=sinT t:=List.take_of_length_le (by simp [sinT];omega)
       refine Vm.rn (ai xREvt<|ai @nlR_dG @prLL_dG) ?_
       refine ih (i + 1) _ (by dsimp only;omega) (by omega) ?_
       exact Vm.lx (Vm.cl (ai xREvt<|ai @nlR_dG<|ai @prLL_dG<|ai @Int.natCast_add<|ai @dC.eq_1<|ai @htk @hst))
   · have:i=c.trans.length:=by omega
     subst this
     rw [List.take_length]
     refine Vm.rn (ai xREvt<|ai @nlR_dG @prLL_dG) ?_
     refine Vm.call_mut (R:=?vR1) ?vh1 ?vk1
     case vh1=>refine sortG_v (sinC c.trans) (by omega) hnd (k:=1) ?_ <;> rfl
     rintro d s ⟨hd,rfl⟩
     subst hd
     have hel:=evP_len (sinC c.trans)
     have he1:(evP (sinC c.trans)).length < 1000000:=by omega
     have he2:evE c=repN c.first ((evP (sinC c.trans)).map (·.2)) 0:=by simp [evE,hz]
     have he3:∀ p,p ∈ evP (sinC c.trans)→ActI p.2:=fun p hp=>by
      have hp:=(List.mergeSort_perm _ _).mem_iff.1 hp
      obtain ⟨l,hl,hpl⟩:=List.mem_flatten.1 hp
      obtain ⟨t,ht,rfl⟩:=List.mem_map.1 hl
      exact hi t ht _ (List.of_mem_zip hpl).2
     generalize evP (sinC c.trans)=es at hel he1 he2 he3
     rw [← hel]
     have hact:(actsOf (es.map tG) (rngI es.length)).map (·.2)=es.map (·.2):=acts_G es
     have hal:(actsOf (es.map tG) (rngI es.length)).length=es.length:=by simpa using congrArg List.length hact
     have hG:=acts1_v (es.map tG) (rngI es.length) (by rw [List.length_map];omega) (by simp [rngI];omega) (fun i hi=>by
      obtain ⟨j,hj,rfl⟩:=List.mem_map.1 hi
      have:=List.mem_range.1 hj
      rw [List.length_map];omega) (fun t ht=>by
      obtain ⟨p,_,rfl⟩:=List.mem_map.1 ht
      simp [tG])
     have hd:=done_v c.first hG rfl rfl (by have:=hc.2.1;omega) (by omega) (fun x hx=>by have:=hf x hx;omega) (fun p hp=>by
      have h1:p.2 ∈ (actsOf (es.map tG) (rngI es.length)).map (·.2):=List.mem_map.2 ⟨p,hp,rfl⟩
      rw [hact] at h1
      obtain ⟨q,hq,e⟩:=List.mem_map.1 h1
      rw [← e];exact he3 q hq)
     rw [hact] at hd
     clear hG hact hal he3
     have hz1:=rng_zero es.length
     refine Vm.rn (ai xREvt<|ai @nlR_dG @prLL_dG) ?_
     refine Vm.sk_loop (fun i:Nat=>es.length - i) (fun i=>⟨[(1,.iptr (dC c) 0),(6,.own 1 es.length),(11,.own 2 es.length),(51,.own 2 es.length),(52,.atom (.int .i64 es.length)),(53,.atom (.int .i64 i))],[.dead,.sl 5 (es.map dG),.sl 1 ((rngI i++List.replicate (es.length - i) (0:Int)).map dI)],70⟩) (fun i=>i≤es.length) 0 ?_ (Nat.zero_le _) ?_
     · exact Vm.lx (Vm.cl (ai xREvt<|ai @nlR_dG<|ai @prLL_dG<|ai @dC.eq_1 @hz1))
     intro i hi2 ih2
     have hrl:((rngI i++List.replicate (es.length - i) (0:Int)).map dI).length=es.length:=by simp [rngI];omega
     have hst2:=rng_set es.length i
     have hrow:=fun (h:i < es.length)=>row_at (f:=dI) (l:=rngI i++List.replicate (es.length - i) (0:Int)) (i:=i) (by simp [rngI];omega)
     generalize hrw:(rngI i++List.replicate (es.length - i) (0:Int)).map dI=rw0 at hrl hst2 hrow
     refine Vm.rn (ai xREvt<|ai @nlR_dG @prLL_dG) ?_
     refine Vm.sb_dec (fun hlt2=>?_) (fun hge2=>?_)
     · have hst3:=hst2 (by omega)
       obtain ⟨y,_,gy⟩:=hrow (by omega)
       simp only [dI] at gy
       refine Vm.rn (ai xREvt<|ai @nlR_dG<|ai @prLL_dG<|ai @hrl @gy) ?_
       refine ih2 (i + 1) _ (by dsimp only;omega) (by omega) ?_
       exact Vm.lx (Vm.cl (ai xREvt<|ai @nlR_dG<|ai @prLL_dG<|ai @Int.natCast_add<|ai @dC.eq_1 @hst3))
     · have:i=es.length:=by omega
       subst this
       rw [rng_all] at hrw
       subst hrw
       refine Vm.rn (ai xREvt<|ai @nlR_dG @prLL_dG) ?_
       have hr2:(rngI es.length).length=es.length:=by simp [rngI]
       refine Vm.sk_frz 1 hB (by exact rfl) ?_
       simp only [Vm.frzT,Vm.frz,Vm.frz0,if_true,Nat.reduceEqDiff,if_false]
       rw [own_G _ rfl]
       refine Vm.sk_frz 2 hB (by exact rfl) ?_
       simp only [Vm.frzT,Vm.frz,Vm.frz0,if_true,Nat.reduceEqDiff,if_false]
       rw [own_I hr2 _ rfl]
       refine sk_tmp 6 (d':=.imm 5 ((es.map tG).map dT)) (by exact rfl) (fun P H μ v r=>by rw [List.map_map];exact imm_dle tG_dle (fun x=>rfl) r) ?_
       refine Vm.sk_draw2 12 [2,3,4,0,1,5,6,7,8,9,10,11] [0,1,0,0,12,31,63,63,63,511,1023,2047] (by kernel_rfl) (by kernel_rfl) (by decide) ?_
       refine Vm.rt (ai xREvt<|ai @nlR_dG<|ai @prLL_dG @dC.eq_1) ?_
       refine acts_q _ (es.map tG) (rngI es.length) _ ?_
       refine Vm.rt (ai xREvt<|ai @nlR_dG @prLL_dG) ?_
       (have hh:=ai xREvt<|ai @nlR_dG<|ai @prLL_dG @dRep.eq_1;(first | refine Vm.callQ_eq2 (hd) (Vm.ct hh) (Vm.rt hh ?_) | refine Vm.call_eq2 (hd) (Vm.ct hh) (Vm.rt hh ?_));clear hh)
       refine Vm.rn (ai xREvt<|ai @nlR_dG @prLL_dG) ?_
       refine Vm.rx (Vm.s1 (ai xREvt<|ai @nlR_dG<|ai @prLL_dG @dRep.eq_1) ?_)
       simp [he2]
 · refine Vm.rn (ai xREvt<|ai @nlR_dG<|ai @prLL_dG @hz) ?_
   refine Vm.rx (Vm.s1 (ai xREvt<|ai @nlR_dG @prLL_dG) ?_)
   simp [evE,hz,dRep,Vm.dl8]
set_option linter.defProp false in
def xRCopy:=ai @prLL_dI<|ai @pr_dF<|ai @prLL_dF<|ai @imLL_I<|ai @nlR_dI<|ai @Vm.nlR_append<|ai @nlR_dF @Vm.dl8
def dTF (t:Tra):List Vm.D:=[.atom (.str t.name),.atom (.int .i64 t.b),.atom (.int .i64 t.c),.fresh 6 (t.acts.map dA),.fresh 1 (t.at_.map dI)]
def dCF (c:Cas):List Vm.D:=[.fresh 1 (c.names.map fun s=>[Vm.D.atom (.str s)]),.fresh 3 (c.first.map dF),.fresh 5 (c.trans.map dTF)]
theorem nlR_dNm (xs:List (List UInt8)):Vm.nlR (xs.map fun s=>[Vm.D.atom (.str s)])=true:=Vm.nlR_map (fun x=>rfl) xs
theorem prLL_dNm (xs:List (List UInt8)):Vm.prLL (xs.map fun s=>[Vm.D.atom (.str s)])=true:=Vm.prLL_map (fun x=>rfl) xs
theorem nlR_dTF (xs:List Tra):Vm.nlR (xs.map dTF)=true:=Vm.nlR_map (fun x=>by simp [dTF,Vm.nlL,Vm.D.nl,nlR_dA,nlR_dI]) xs
theorem prLL_dTF (xs:List Tra):Vm.prLL (xs.map dTF)=true:=Vm.prLL_map (fun x=>by simp [dTF,Vm.prL,Vm.D.pr,prLL_dA,prLL_dI]) xs
theorem fz_A4 (k:Nat) (cs:List Vm.D) (xs:List Act):(xs.map dA).map (Vm.fzL k cs)=xs.map dA:=by simp [dA,Vm.fzL,Vm.fzD]
theorem fz_S4 (k:Nat) (cs:List Vm.D) (xs:List Sta):(xs.map dS).map (Vm.fzL k cs)=xs.map dS:=by simp [dS,Vm.fzL,Vm.fzD]
theorem fz_N4 (k:Nat) (cs:List Vm.D) (xs:List (List UInt8)):(xs.map fun s=>[Vm.D.atom (.str s)]).map (Vm.fzL k cs)=xs.map fun s=>[Vm.D.atom (.str s)]:=by simp [Vm.fzL,Vm.fzD]
theorem fz_T4 (k:Nat) (cs:List Vm.D) (xs:List Tra):(xs.map dT).map (Vm.fzL k cs)=xs.map dT:=by
 rw [List.map_map]
 exact List.map_congr_left fun x _=>by simp only [Function.comp,dT,Vm.fzL,Vm.fzD,fz_A4,fz_I]
set_option maxHeartbeats 4000000 in
theorem copyC_v (c:Cas) (hc:FitC c):Vm.VC T 18 [.agg (dC c)] fun d=>d=.agg (dCF c):=by
 obtain ⟨f1,f2,f3,f4,f5⟩:=hc
 refine Vm.VC.dl ?_
 refine Vm.vc_enter (T:=T) rfl Tryz.func18 rfl (by simp only [Tryz.f18,List.length_cons,List.length_nil];decide) fun g hB hG0 hU=>?_
 simp only [Tryz.f18,Vm.argsTm_cons,Vm.argsTm_nil,Nat.reduceAdd]
 refine Vm.rn (ai xRCopy<|ai @nlR_dTF<|ai @prLL_dTF<|ai @nlR_dNm<|ai @prLL_dNm @dC.eq_1) ?_
 (have hh:=ai xRCopy<|ai @nlR_dTF<|ai @prLL_dTF<|ai @nlR_dNm<|ai @prLL_dNm<|ai @fz_I<|ai @fz_A4<|ai @fz_S4<|ai @fz_T4 @fz_N4;refine Vm.sk_fz 0 (by exact rfl) (Vm.cl hh) (Vm.fz hh ?_);clear hh)
 refine Vm.sk_draw2 10 [0,1,2,3,4,5,6,7,8,9] [0,0,2,7,0,16,63,127,0,511] (by kernel_rfl) (by kernel_rfl) (by decide) ?_
 refine Vm.rt (ai xRCopy<|ai @nlR_dTF<|ai @prLL_dTF<|ai @nlR_dNm<|ai @prLL_dNm @Vm.overD.eq_1) ?_
 (have hh:=ai xRCopy<|ai @nlR_dTF<|ai @prLL_dTF<|ai @nlR_dNm<|ai @prLL_dNm @Vm.overD.eq_1;(first | refine Vm.callQ_eq2 (copySs_v c.first (by omega) f4) (Vm.ct hh) (Vm.rt hh ?_) | refine Vm.call_eq2 (copySs_v c.first (by omega) f4) (Vm.ct hh) (Vm.rt hh ?_));clear hh)
 refine Vm.sk_nilC 4 2 5 rfl rfl ?_
 refine Vm.sk_loop (fun i:Nat=>c.trans.length - i) (fun i=>⟨[(1,.iptr (dC c) 0),(2,.rptr 1 0),(3,.rptr 4 0),(4,.atom (.int .i64 i))],[.dead,.cell [.atom .nilSlice,.atom .nilSlice,.atom .nilSlice],.sl 1 (c.names.map fun s=>[Vm.D.atom (.str s)]),.sl 3 (c.first.map dF),.cell [.own 2 c.names.length,.own 3 c.first.length,.own 5 (c.trans.take i).length],.sl 5 ((c.trans.take i).map dTF)],32⟩) (fun i=>i≤c.trans.length) 0 ?_ (Nat.zero_le _) ?_
 · exact Vm.lx (Vm.cl (ai xRCopy<|ai @nlR_dTF<|ai @prLL_dTF<|ai @nlR_dNm<|ai @prLL_dNm<|ai @dC.eq_1 @List.take_zero.{0}))
 intro i hi1 ih
 refine Vm.rn (ai xRCopy<|ai @nlR_dTF<|ai @prLL_dTF<|ai @nlR_dNm<|ai @prLL_dNm @dC.eq_1) ?_
 refine Vm.sb_dec (fun hlt=>?_) (fun hge=>?_)
 · obtain ⟨t,ht,gt⟩:=row_at (f:=dT) (l:=c.trans) (i:=i) (by omega)
   obtain ⟨t1,t2⟩:=f5 t (List.mem_of_getElem? ht)
   have hst:(c.trans.take (i + 1)).map dTF=(c.trans.take i).map dTF++[dTF t]:=by rw [take_at ht];simp
   simp only [dT] at gt
   refine Vm.rn (ai xRCopy<|ai @nlR_dTF<|ai @prLL_dTF<|ai @nlR_dNm @prLL_dNm) ?_
   refine Vm.sk_draw2 12 [2,3,4,5,6,7,0,1,8,9,10,11] [0,1,0,4,0,28,60,124,252,511,1023,2047] (by kernel_rfl) (by kernel_rfl) (by decide) ?_
   refine Vm.rt (ai xRCopy<|ai @nlR_dTF<|ai @prLL_dTF<|ai @nlR_dNm<|ai @prLL_dNm<|ai @gt @dC.eq_1) ?_
   have hti:(c.trans.take i).length=i:=by rw [List.length_take];omega
   have hti2:(c.trans.take (i + 1)).length=i + 1:=by rw [List.length_take];omega
   (have hh:=ai xRCopy<|ai @nlR_dTF<|ai @prLL_dTF<|ai @nlR_dNm<|ai @prLL_dNm<|ai @dT.eq_1<|ai @hti @List.length_map.{0,0};(first | refine Vm.callQ_eq2 (copyT_v t (by omega) (by omega)) (Vm.ct hh) (Vm.rt hh ?_) | refine Vm.call_eq2 (copyT_v t (by omega) (by omega)) (Vm.ct hh) (Vm.rt hh ?_));clear hh)
   refine Vm.rn (ai xRCopy<|ai @nlR_dTF<|ai @prLL_dTF<|ai @nlR_dNm @prLL_dNm) ?_
   refine ih (i + 1) _ (by dsimp only;omega) (by omega) ?_
   exact Vm.lx (Vm.cl (ai xRCopy<|ai @nlR_dTF<|ai @prLL_dTF<|ai @nlR_dNm<|ai @prLL_dNm<|ai @Int.natCast_add<|ai @dC.eq_1<|ai @hst<|ai @hti2<|ai @hti @dTF.eq_1))
 · have:i=c.trans.length:=by omega
   subst this
   refine Vm.rn (ai xRCopy<|ai @nlR_dTF<|ai @prLL_dTF<|ai @nlR_dNm @prLL_dNm) ?_
   exact Vm.rx (Vm.cl (ai xRCopy<|ai @nlR_dTF<|ai @prLL_dTF<|ai @nlR_dNm<|ai @prLL_dNm<|ai @dCF.eq_1 @List.take_length.{0}))
set_option linter.defProp false in
def xREvt2:=ai @prLL_dI<|ai @pr_dF<|ai @prLL_dF<|ai @imLL_I<|ai @nlR_dI<|ai @Vm.nlR_append<|ai @nlR_dF @Vm.dl8
def apartB:List Tra→Bool
 | a::b::r=>decide (a.c≤b.b) && apartB (b::r)
 | _=>true
theorem rise_pw:∀ {l:List Int},riseB l=true→l.Pairwise (· < ·)
 | [],_=>.nil
 | [x],_=>List.pairwise_singleton ..
 | x::y::r,h=>by
   rw [riseB,Bool.and_eq_true,decide_eq_true_eq] at h
   have ih:=rise_pw h.2
   refine List.pairwise_cons.2 ⟨fun z hz=>?_,ih⟩
   rcases List.mem_cons.1 hz with e | hz
   · rw [e];exact h.1
   · exact Int.lt_trans h.1 ((List.pairwise_cons.1 ih).1 z hz)
theorem pw_rise:∀ {l:List Int},l.Pairwise (· < ·)→riseB l=true
 | [],_=>rfl
 | [x],_=>rfl
 | x::y::r,h=>by
   rw [riseB,pw_rise (List.pairwise_cons.1 h).2,decide_eq_true ((List.pairwise_cons.1 h).1 y (by simp))];rfl
theorem allP_pw:∀ (l:List Tra),(∀ t,t ∈ l→riseB (placesT t)=true)→apartB l=true→(allP l).Pairwise (·≤·)
 | [],_,_=>.nil
 | [t],h,_=>by
   have:=rise_pw (h t (by simp))
   simp only [allP,List.map_cons,List.map_nil,List.flatten_cons,List.flatten_nil,List.append_nil]
   exact this.imp Int.le_of_lt
 | t::u::r,h,ha=>by
   rw [apartB,Bool.and_eq_true,decide_eq_true_eq] at ha
   have ih:=allP_pw (u::r) (fun x hx=>h x (List.mem_cons_of_mem _ hx)) ha.2
   have h1:=rise_pw (h t (by simp))
   have e:allP (t::u::r)=placesT t++allP (u::r):=rfl
   rw [e]
   refine List.pairwise_append.2 ⟨h1.imp Int.le_of_lt,ih,fun x hx y hy=>?_⟩
   have hxc:x≤t.c:=by
    rcases List.mem_append.1 hx with hx | hx
    · exact Int.le_of_lt ((List.pairwise_append.1 h1).2.2 x hx t.c (by simp))
    · rw [List.mem_singleton.1 hx];exact Int.le_refl _
   have e2:allP (u::r)=u.b::(u.at_++[u.c]++allP r):=by simp [allP,placesT]
   rw [e2] at ih hy
   have hyb:u.b≤y:=by
    rcases List.mem_cons.1 hy with e | hy
    · rw [e];exact Int.le_refl _
    · exact (List.pairwise_cons.1 ih).1 y hy
   exact Int.le_trans hxc (Int.le_trans ha.1 hyb)
theorem at_sub:∀ l:List Tra,((l.map (·.at_)).flatten).Sublist (allP l)
 | []=>by simp [allP]
 | t::l=>by
   have ih:=at_sub l
   simp only [allP,List.map_cons,List.flatten_cons] at ih ⊢
   refine List.Sublist.append ?_ ih
   simp only [placesT,List.singleton_append,List.cons_append,List.nil_append]
   exact (List.sublist_append_left _ _).cons _
theorem sin_fst {l:List Tra} (h:∀ t,t ∈ l→t.at_.length=t.acts.length):(sinC l).map (·.1)=(l.map (·.at_)).flatten:=by
 unfold sinC
 rw [List.map_flatten,List.map_map]
 congr 1
 exact List.map_congr_left fun t ht=>map_fst_zip (h t ht)
theorem sin_snd {l:List Tra} (h:∀ t,t ∈ l→t.at_.length=t.acts.length):(sinC l).map (·.2)=(l.map (·.acts)).flatten:=by
 unfold sinC
 rw [List.map_flatten,List.map_map]
 congr 1
 exact List.map_congr_left fun t ht=>map_snd_zip (h t ht)
theorem ev_apart {c:Cas} (h:Plc c) (ha:apartB c.trans=true):evP (sinC c.trans)=sinC c.trans:=by
 refine List.mergeSort_of_pairwise ?_
 have h1:=(allP_pw c.trans h.rise ha).sublist (at_sub c.trans)
 rw [← sin_fst h.len,List.pairwise_map] at h1
 exact h1.imp fun h=>decide_eq_true h
noncomputable def ordE (c:Cas) (o:List Int):List Sta × Nat × Int:=if listE c o true ≠ 0 then ([],0,listE c o true) else repN c.first ((actsOf c.trans o).map (·.2)) 0
theorem rng_nodup (n:Nat):(rngI n).Nodup:=by
 unfold rngI
 exact List.Pairwise.map _ (fun a b h e=>h (by omega)) List.nodup_range
theorem list_all {c:Cas} (h:checkC c=0):listE c (rngI c.trans.length) true=0:=by
 unfold listE
 rw [if_neg (by simpa using h),if_neg,if_neg (by simpa using rng_nodup _),if_neg (by simp [rngI])]
 rw [Bool.not_eq_true,List.any_eq_false]
 intro i hi
 obtain ⟨j,hj,rfl⟩:=List.mem_map.1 hi
 have:=List.mem_range.1 hj
 simp [badI];omega
theorem ord_ev {c:Cas} (h:checkC c=0) (ha:apartB c.trans=true):ordE c (rngI c.trans.length)=evE c:=by
 have hp:=case_plc h
 unfold ordE evE
 rw [if_neg (by simpa using list_all h),if_neg (by simpa using h),ev_apart hp ha,actsOf_all,sin_snd hp.len]
def rngA (a:Int) (n:Nat):List Int:=(List.range n).map fun (i:Nat)=>a + i
def mv1 (a:Int) (t:Tra):Tra:=⟨t.name,a,a + 1 + t.at_.length,t.acts,rngA (a + 1) t.at_.length⟩
def mvT:Int→List Tra→List Tra
 | _,[]=>[]
 | a,t::r=>mv1 a t::mvT (a + 1 + t.at_.length + 1) r
def mvC (c:Cas):Cas:=⟨c.names,c.first,mvT 0 c.trans⟩
def atN:List Tra→Int
 | []=>0
 | t::r=>1 + t.at_.length + 1 + atN r
theorem rngA_len (a:Int) (n:Nat):(rngA a n).length=n:=by simp [rngA]
theorem mvT_at:∀ (l:List Tra) (a:Int) (i:Nat),(mvT a l)[i]?=l[i]?.map (mv1 (a + atN (l.take i)))
 | [],a,i=>by simp [mvT]
 | t::r,a,0=>by simp [mvT,atN]
 | t::r,a,i + 1=>by
   rw [mvT,List.getElem?_cons_succ,mvT_at r,List.getElem?_cons_succ,List.take_succ_cons,atN]
   congr 2;omega
theorem mvT_len (l:List Tra) (a:Int):(mvT a l).length=l.length:=by
 induction l generalizing a with
 | nil=>rfl
 | cons t r ih=>rw [mvT,List.length_cons,ih,List.length_cons]
theorem mvT_names (l:List Tra) (a:Int):(mvT a l).map (·.name)=l.map (·.name):=by
 induction l generalizing a with
 | nil=>rfl
 | cons t r ih=>rw [mvT,List.map_cons,ih,List.map_cons];rfl
theorem mvT_acts (l:List Tra) (a:Int):(mvT a l).map (·.acts)=l.map (·.acts):=by
 induction l generalizing a with
 | nil=>rfl
 | cons t r ih=>rw [mvT,List.map_cons,ih,List.map_cons];rfl
theorem mvT_sum (l:List Tra) (a:Int):sumA (mvT a l)=sumA l:=by
 have:=congrArg (List.map List.length) (mvT_acts l a)
 rw [List.map_map,List.map_map] at this
 exact congrArg List.sum this
theorem mv1_pl (a:Int) (t:Tra):(placesT (mv1 a t)).Pairwise (· < ·)∧∀ x,x ∈ placesT (mv1 a t)→a≤x∧x≤a + 1 + t.at_.length:=by
 have hm:∀ x,x ∈ rngA (a + 1) t.at_.length→a < x∧x < a + 1 + t.at_.length:=fun x hx=>by
  obtain ⟨j,hj,rfl⟩:=List.mem_map.1 hx
  have:=List.mem_range.1 hj
  omega
 have hp:(rngA (a + 1) t.at_.length).Pairwise (· < ·):=List.pairwise_lt_range.map _ fun x y h=>by omega
 constructor
 · simp only [placesT,mv1,List.singleton_append,List.cons_append,List.nil_append]
   refine List.pairwise_cons.2 ⟨fun x hx=>?_,List.pairwise_append.2 ⟨hp,List.pairwise_singleton ..,fun x hx y hy=>?_⟩⟩
   · rcases List.mem_append.1 hx with h | h
     · exact (hm x h).1
     · rw [List.mem_singleton.1 h];omega
   · rw [List.mem_singleton.1 hy];exact (hm x hx).2
 · intro x hx
   simp only [placesT,mv1,List.singleton_append,List.cons_append,List.nil_append,List.mem_cons,List.mem_append,List.not_mem_nil,or_false] at hx
   rcases hx with rfl | h | rfl
   · omega
   · have:=hm x h;omega
   · omega
theorem mvT_pl:∀ (l:List Tra) (a:Int),(allP (mvT a l)).Pairwise (· < ·)∧(∀ x,x ∈ allP (mvT a l)→a≤x)∧((mvT a l).map (·.b)).Pairwise (· < ·)∧(∀ t,t ∈ mvT a l→a≤t.b)∧apartB (mvT a l)=true
 | [],a=>by simp [mvT,allP,apartB]
 | t::r,a=>by
   obtain ⟨h1,h2,h3,h4,h5⟩:=mvT_pl r (a + 1 + t.at_.length + 1)
   obtain ⟨g1,g2⟩:=mv1_pl a t
   rw [mvT,show allP (mv1 a t::mvT (a + 1 + t.at_.length + 1) r)=placesT (mv1 a t)++allP (mvT (a + 1 + t.at_.length + 1) r) from rfl]
   refine ⟨List.pairwise_append.2 ⟨g1,h1,fun x hx y hy=>?_⟩,fun x hx=>?_,?_,fun u hu=>?_,?_⟩
   · have:=(g2 x hx).2;have:=h2 y hy;omega
   · rcases List.mem_append.1 hx with h | h
     · exact (g2 x h).1
     · have:=h2 x h;omega
   · rw [List.map_cons]
     refine List.pairwise_cons.2 ⟨fun y hy=>?_,h3⟩
     obtain ⟨u,hu,rfl⟩:=List.mem_map.1 hy
     have:=h4 u hu
     show a < u.b
     omega
   · rcases List.mem_cons.1 hu with rfl | h
     · exact Int.le_refl _
     · have:=h4 u h;omega
   · cases hr:mvT (a + 1 + t.at_.length + 1) r with
     | nil=>rfl
     | cons u q =>
       rw [hr] at h4 h5
       have:=h4 u (by simp)
       rw [apartB,h5,Bool.and_true]
       exact decide_eq_true (by show a + 1 + (t.at_.length:Int)≤u.b;omega)
theorem mvC_check {c:Cas} (h:checkC c=0):checkC (mvC c)=0:=by
 obtain ⟨p1,p2,p3,p4,p5⟩:=mvT_pl c.trans 0
 have hl:(mvC c).trans.length=c.trans.length:=mvT_len _ _
 have hs:sumA (mvC c).trans=sumA c.trans:=mvT_sum _ _
 have hn:namesT (mvC c)=namesT c:=mvT_names _ _
 have ho:objsE (mvC c)=objsE c:=rfl
 have hnd:(allP (mvC c).trans).Nodup:=p1.imp fun h e=>by omega
 unfold checkC at h ⊢
 rw [hl,hs,show (mvC c).names=c.names from rfl,show (mvC c).first=c.first from rfl]
 split at h
 · cases h
 rename_i h1
 rw [if_neg h1]
 split at h
 · cases h
 rename_i h2
 rw [if_neg h2]
 split at h
 · contradiction
 rename_i he
 have he:errC c=0:=by simpa using he
 unfold errC at he
 split at he
 · contradiction
 rename_i hob
 have ht:trsE (mvC c)=0:=by
  unfold trsE
  have hz:∀ (l:List Int),(∀ x,x ∈ l→x=0)→fnz l=0:=by
   intro l hl
   induction l with
   | nil=>rfl
   | cons x l ih=>rw [fnz,if_pos (hl x (by simp))];exact ih fun y hy=>hl y (List.mem_cons_of_mem _ hy)
  refine hz _ fun x hx=>?_
  obtain ⟨i,hi,rfl⟩:=List.mem_map.1 hx
  rw [List.mem_range,hl] at hi
  have h3:=fnz_all he (traE c i) (List.mem_map.2 ⟨i,by simp;omega,rfl⟩)
  have ht:c.trans[i]?=some c.trans[i]:=List.getElem?_eq_getElem hi
  have hm:(mvC c).trans[i]?=some (mv1 (0 + atN (c.trans.take i)) c.trans[i]):=by rw [show (mvC c).trans=mvT 0 c.trans from rfl,mvT_at,ht];rfl
  rw [traE_at ht] at h3
  rw [traE_at hm,hn]
  split at h3
  · cases h3
  rename_i q1
  rw [if_neg (show ¬ nameE (mv1 _ c.trans[i]).name ≠ 0 from q1)]
  split at h3
  · cases h3
  rename_i q2
  rw [if_neg (show ¬ (mv1 _ c.trans[i]).name ∈ _ from q2)]
  split at h3
  · cases h3
  rename_i q3
  rw [if_neg (show ¬ (mv1 _ c.trans[i]).at_.length ≠ _ by simpa [mv1,rngA_len] using q3)]
  split at h3
  · cases h3
  have hmem:=List.mem_of_getElem? hm
  have hr:=pw_rise (mv1_pl (0 + atN (c.trans.take i)) c.trans[i]).1
  have hb:=p4 _ hmem
  rw [if_neg]
  · exact h3
  · rintro (q | q | q)
    · omega
    · cases i with
      | zero=>simp only [prevB] at q;omega
      | succ k =>
        have hk:(mvC c).trans[k]?=some (mv1 (0 + atN (c.trans.take k)) c.trans[k]):=by rw [show (mvC c).trans=mvT 0 c.trans from rfl,mvT_at,List.getElem?_eq_getElem (by omega)];rfl
        simp only [prevB,hk] at q
        have:=List.pairwise_iff_getElem.1 p3 k (k + 1) (by rw [List.length_map,mvT_len];omega) (by rw [List.length_map,mvT_len];omega) (by omega)
        have g1:(mvT 0 c.trans)[k]'(by rw [mvT_len];omega)=_:=(List.getElem?_eq_some_iff.1 hk).2
        have g2:(mvT 0 c.trans)[k + 1]'(by rw [mvT_len];omega)=_:=(List.getElem?_eq_some_iff.1 hm).2
        simp only [List.getElem_map] at this
        rw [g1,g2] at this
        omega
    · rw [hr] at q;cases q
 have hez:errC (mvC c)=0:=by
  unfold errC
  rw [ho,if_neg hob];exact ht
 rw [if_neg (by simpa using hez),if_pos hnd]
theorem apart_step {l:List Tra} {i:Nat} {x y:Tra} (hx:l[i]?=some x) (hy:l[i + 1]?=some y):apartB (l.drop i)=(decide (x.c≤y.b) && apartB (l.drop (i + 1))):=by
 rw [drop_at hx,drop_at hy];rfl
theorem apart_end {l:List Tra} {i:Nat} (h:l.length≤i + 1):apartB (l.drop i)=true:=by
 have:(l.drop i).length≤1:=by rw [List.length_drop];omega
 match l.drop i,this with
 | [],_=>rfl
 | [_],_=>rfl
 | _::_::_,h=>simp at h
theorem apart_v (c:Cas) (hl:c.trans.length < 1000000):Vm.VC T 33 [.agg (dC c)] fun d=>d=.atom (.bool (apartB c.trans)):=by
 refine Vm.vc_enter (T:=T) rfl Tryz.func33 rfl (by simp only [Tryz.f33,List.length_cons,List.length_nil];decide) fun g hB hG0 hU=>?_
 simp only [Tryz.f33,Vm.argsTm_cons,Vm.argsTm_nil,Nat.reduceAdd]
 refine Vm.rn (ai xREvt2 @dC.eq_1) ?_
 (have hh:=ai xREvt2<|ai @fz_I<|ai @fz_A4<|ai @fz_S4<|ai @fz_T4 @fz_N4;refine Vm.sk_fz 0 (by exact rfl) (Vm.cl hh) (Vm.fz hh ?_);clear hh)
 refine Vm.sk_loop (fun i:Nat=>c.trans.length - i) (fun i=>⟨[(1,.iptr (dC c) 0),(3,.atom (.int .i64 ((i:Int) + 1)))],[],25⟩) (fun i=>apartB (c.trans.drop i)=apartB c.trans) 0 ?_ rfl ?_
 · exact Vm.lx (Vm.cl (ai xREvt2 @dC.eq_1))
 intro i he ih
 refine Vm.rn (ai xREvt2 @dC.eq_1) ?_
 refine Vm.sb_dec (fun hlt=>?_) (fun hge=>?_)
 · obtain ⟨x,hx,gx⟩:=row_at (f:=dT) (l:=c.trans) (i:=i) (by omega)
   obtain ⟨y,hy,gy⟩:=row_at (f:=dT) (l:=c.trans) (i:=i + 1) (by omega)
   simp only [dT] at gx gy
   rw [apart_step hx hy] at he
   have hi1:((i:Int) + 1) - 1=i:=by omega
   refine Vm.rn xREvt2 ?_
   refine Vm.sk_draw 14 [0,1,2,3,4,5,6,7,8,9,10,11,12,13] (by kernel_rfl) (by kernel_rfl) (by decide) ?_
   refine Vm.rn (ai xREvt2<|ai @gx<|ai @gy<|ai @dC.eq_1<|ai (show ((i:Int) + 1).toNat=i + 1 from by omega) @Int.add_sub_cancel) ?_
   refine Vm.sb_dec (fun hb=>?_) (fun hb=>?_)
   · have hf:¬ x.c≤y.b:=by omega
     refine Vm.rn xREvt2 ?_
     refine Vm.rx (Vm.s1 xREvt2 ?_)
     rw [← he,decide_eq_false hf,Bool.false_and]
   · have hf:x.c≤y.b:=by omega
     rw [decide_eq_true hf,Bool.true_and] at he
     refine Vm.rn xREvt2 ?_
     refine ih (i + 1) _ (by dsimp only;omega) he ?_
     exact Vm.lx (Vm.cl (ai xREvt2<|ai @Int.natCast_add @dC.eq_1))
 · rw [apart_end (by omega)] at he
   refine Vm.rn xREvt2 ?_
   refine Vm.rx (Vm.s1 xREvt2 ?_)
   rw [← he]
set_option maxHeartbeats 1000000 in
theorem order_v (c:Cas) (hc:FitC c) (o:List Int) (hl:o.length < 1000) (hf:FitS c.first (100 * o.length)) (hi:∀ t,t ∈ c.trans→∀ a,a ∈ t.acts→ActI a) :
  Vm.VC T 22 [.agg (dC c),.imm 1 (o.map dI)] fun d=>d=dRep (ordE c o):=by
 refine Vm.VC.dl ?_
 refine Vm.vc_enter (T:=T) rfl Tryz.func22 rfl (by simp only [Tryz.f22,List.length_cons,List.length_nil];decide) fun g hB hG0 hU=>?_
 simp only [Tryz.f22,Vm.argsTm_cons,Vm.argsTm_nil,Nat.reduceAdd]
 refine Vm.rn (ai xREvt2 @dC.eq_1) ?_
 (have hh:=ai xREvt2 @dC.eq_1;refine Vm.call_eq2 (listed_v c hc o (by omega) true) (Vm.cl hh) (Vm.rn hh ?_);clear hh)
 by_cases h1:listE c o true=0
 · obtain ⟨k1,k2,k3⟩:=list_ok h1
   have hal:=actsOf_len (fun t ht=>(hc.2.2.2.2 t ht).1) o
   have hG:=acts1_v c.trans o (by have:=hc.2.2.1;omega) (by omega) k2 (fun t ht=>by have:=(hc.2.2.2.2 t ht).1;omega)
   have hd:=done_v c.first hG rfl rfl (by have:=hc.2.1;omega) (by omega) (fun x hx=>by have:=hf x hx;omega) (fun p hp=>by
    obtain ⟨t,ht,ha⟩:=actsOf_mem hp k2
    exact hi t ht _ ha)
   refine Vm.rn (ai xREvt2 @h1) ?_
   (have hh:=ai xREvt2<|ai @fz_I<|ai @fz_A3<|ai @fz_S3<|ai @fz_T3 @fz_N3;refine Vm.sk_fz 0 (by exact rfl) (Vm.cl hh) (Vm.fz hh ?_);clear hh)
   refine Vm.sk_draw2 13 [2,3,4,5,0,1,6,7,8,9,10,11,12] [0,1,0,4,0,28,63,127,127,127,1023,2047,4095] (by kernel_rfl) (by kernel_rfl) (by decide) ?_
   refine Vm.rt xREvt2 ?_
   refine acts_q _ c.trans o _ ?_
   refine Vm.rt xREvt2 ?_
   (have hh:=ai xREvt2 @dRep.eq_1;(first | refine Vm.callQ_eq2 (hd) (Vm.ct hh) (Vm.rt hh ?_) | refine Vm.call_eq2 (hd) (Vm.ct hh) (Vm.rt hh ?_));clear hh)
   refine Vm.rn xREvt2 ?_
   refine Vm.rx (Vm.s1 (ai xREvt2 @dRep.eq_1) ?_)
   simp [ordE,h1]
 · refine Vm.rn (ai xREvt2 @h1) ?_
   refine Vm.rx (Vm.s1 xREvt2 ?_)
   simp [ordE,h1,dRep,Vm.dl8]
end Go.Proofs.YtphjohoipocpnaaGreat.W
