import Derived.Test.YtphjohoipocpnaaGreatRkJ
import Derived.Test.YtphjohoipocpnaaGreatRkI
import Derived.Test.YtphjohoipocpnaaGreatRkG
import Derived.Test.YtphjohoipocpnaaGreatRkK
set_option linter.unusedSimpArgs false
set_option linter.unusedVariables false
set_option maxRecDepth 8000
/- The law of objects that stay. No conditions. -/
namespace Go.Proofs.YtphjohoipocpnaaGreat.W
open Go.Am
end Go.Proofs.YtphjohoipocpnaaGreat.W

/- The law of an order that is cut in two. No conditions. -/
namespace Go.Proofs.YtphjohoipocpnaaGreat.W
open Go.Am
set_option linter.defProp false in
def xRLaw5:=ai @prLL_dI<|ai @pr_dF<|ai @prLL_dF<|ai @imLL_dF<|ai @imLL_I<|ai @imLL_A<|ai @nlR_dI<|ai @nlR_dA<|ai @prLL_dA<|ai @Vm.nlR_append @nlR_dF
theorem repN_app:∀ (xs ys:List Act) (s:List Sta) (n:Nat),repN s (xs++ys) n=if (repN s xs n).2.2=0 then repN (repN s xs n).1 ys (repN s xs n).2.1 else repN s xs n
 | [],ys,s,n=>by simp [repN]
 | a::xs,ys,s,n=>by
   simp only [List.cons_append,repN]
   split
   · exact repN_app xs ys _ _
   · rfl
theorem repN_shift:∀ (acs:List Act) (s:List Sta) (n m:Nat),repN s acs (n + m)=((repN s acs m).1,n + (repN s acs m).2.1,(repN s acs m).2.2)
 | [],s,n,m=>rfl
 | a::acs,s,n,m=>by
   simp only [repN]
   split
   · rw [Nat.add_assoc];exact repN_shift acs _ n (m + 1)
   · rw [Nat.add_assoc]
theorem actsOf_app (ts:List Tra) (a b:List Int):actsOf ts (a++b)=actsOf ts a++actsOf ts b:=List.flatMap_append ..
theorem actsOf_one (ts:List Tra) {j:Nat} {t:Tra} (h:ts[j]?=some t):(actsOf ts [(j:Int)]).map (·.2)=t.acts:=by
 simp [actsOf,List.getD_eq_getElem?_getD,h,Function.comp_def]
noncomputable def cutI (c:Cas) (o:List Int) (i:Nat) (q:List Sta × Nat × Int):Prop:=
 (q.2.2=0→listE c o false=0∧repN q.1 ((actsOf c.trans (o.drop i)).map (·.2)) q.2.1=begE c o∧FitS q.1 (6 * (12 - i))∧q.1.length≤6∧q.2.1≤6 * i)∧(q.2.2 ≠ 0→q=begE c o)
theorem list_take {c:Cas} {o:List Int} (h:listE c o false=0) (j:Nat):listE c (o.take j) false=0:=by
 obtain ⟨h1,h2,h3⟩:=list_ok h
 unfold listE
 rw [if_neg (by simpa using h1),if_neg,if_neg]
 · simp
 · simpa using h3.sublist (List.take_sublist j o)
 · rw [Bool.not_eq_true,List.any_eq_false]
   intro i hi
   have:=h2 i (List.mem_of_mem_take hi)
   simp [badI];omega
theorem actsOf_len6 {ts:List Tra} (h:∀ t,t ∈ ts→t.acts.length≤6):∀ o:List Int,(actsOf ts o).length≤6 * o.length
 | []=>by simp [actsOf]
 | i::o=>by
   have ih:=actsOf_len6 h o
   have h1:(ts.getD i.toNat t0).acts.length≤6:=by
    rw [List.getD_eq_getElem?_getD]
    rcases Nat.lt_or_ge i.toNat ts.length with hi | hi
    · rw [List.getElem?_eq_getElem hi];exact h _ (List.getElem_mem hi)
    · rw [List.getElem?_eq_none hi];simp [t0]
   simp only [actsOf,List.flatMap_cons,List.length_append,List.length_map,List.length_cons] at ih ⊢
   omega
theorem cut_begin {c:Cas} (hl:longC c=false) {o:List Int} (ho:o.length≤12) (h9:listE c o false=0∨listE c o false=9) {j:Nat} (hj:j≤o.length):cutI c o j (begE c (o.take j)):=by
 obtain ⟨b1,b2,b3,b4,b5⟩:=longC_no hl
 rcases h9 with h | h
 · have h':=list_take h j
   obtain ⟨h1,h2,h3⟩:=list_ok h
   have e1:begE c (o.take j)=repN c.first ((actsOf c.trans (o.take j)).map (·.2)) 0:=by simp [begE,h']
   have e2:begE c o=repN c.first ((actsOf c.trans o).map (·.2)) 0:=by simp [begE,h]
   have e3:(actsOf c.trans o).map (·.2)=(actsOf c.trans (o.take j)).map (·.2)++(actsOf c.trans (o.drop j)).map (·.2):=by
    rw [← List.map_append,← actsOf_app,List.take_append_drop]
   have hlen:=actsOf_len6 (fun t ht=>(b5 t ht).1) (o.take j)
   rw [List.length_take,Nat.min_eq_left hj] at hlen
   refine ⟨fun hz=>?_,fun hz=>?_⟩
   · rw [e1] at hz ⊢
     refine ⟨h,?_,repN_fit _ _ _ _ fun x hx=>?_,Nat.le_trans (repN_len _ _ _) b2,?_⟩
     · rw [e2,e3,repN_app,if_pos hz]
     · have:=b4 x hx
       rw [List.length_map];omega
     · have:=repN_many ((actsOf c.trans (o.take j)).map (·.2)) c.first 0
       rw [List.length_map] at this;omega
   · rw [e1] at hz ⊢
     rw [e2,e3,repN_app,if_neg hz]
 · have hc9:checkC c=9:=by
    unfold listE at h
    split at h
    · exact h
    split at h
    · cases h
    split at h
    · cases h
    split at h <;> cases h
   have h':listE c (o.take j) false=9:=by unfold listE;rw [if_pos (by rw [hc9];decide),hc9]
   have e:begE c (o.take j)=begE c o:=by simp [begE,h,h']
   rw [e]
   exact ⟨fun hz=>by simp [begE,h] at hz,fun _=>rfl⟩
theorem cut_next {c:Cas} (hl:longC c=false) {o:List Int} (ho:o.length≤12) {i:Nat} {s:List Sta} {m:Nat} {x:Int} (hx:o[i]?=some x) (h:cutI c o i (s,m,0)) :
  ∃ (j:Nat) (t:Tra),x=j∧j < c.trans.length∧c.trans[j]?=some t∧FitS s t.acts.length∧t.acts.length≤6∧s.length≤6∧m≤72∧(repN s t.acts 0).2.1≤6∧(repN s t.acts 0).1.length≤6∧FitS (repN s t.acts 0).1 0 ∧
    cutI c o (i + 1) ((repN s t.acts 0).1,m + (repN s t.acts 0).2.1,(repN s t.acts 0).2.2):=by
 obtain ⟨b1,b2,b3,b4,b5⟩:=longC_no hl
 obtain ⟨g1,g2,g3,g4,g5⟩:=h.1 rfl
 dsimp only at g2 g3 g4 g5
 obtain ⟨h1,h2,h3⟩:=list_ok g1
 have hxr:=h2 x (List.mem_of_getElem? hx)
 obtain ⟨j,rfl⟩:∃ j:Nat,x=j:=⟨x.toNat,by omega⟩
 have hj:j < c.trans.length:=by omega
 have ht:c.trans[j]?=some c.trans[j]:=List.getElem?_eq_getElem hj
 have ht6:=(b5 _ (List.getElem_mem hj)).1
 have hil:i < o.length:=(List.getElem?_eq_some_iff.1 hx).1
 have e1:(actsOf c.trans (o.drop i)).map (·.2)=c.trans[j].acts++(actsOf c.trans (o.drop (i + 1))).map (·.2):=by
  rw [drop_at hx,← List.singleton_append,actsOf_app,List.map_append,actsOf_one _ ht]
 have hm:=repN_many c.trans[j].acts s 0
 have hlen:=repN_len c.trans[j].acts s 0
 have hfit:FitS (repN s c.trans[j].acts 0).1 (6 * (12 - (i + 1))):=repN_fit _ _ _ _ fun x hx=>by have:=g3 x hx;omega
 have e2:=repN_shift c.trans[j].acts s m 0
 rw [Nat.add_zero] at e2
 rw [e1,repN_app,e2] at g2
 refine ⟨j,_,rfl,hj,ht,fun x hx=>by have:=g3 x hx;omega,ht6,g4,by omega,by omega,by omega,fun x hx=>by have:=hfit x hx;omega,fun hz=>?_,fun hz=>?_⟩
 · dsimp only at hz ⊢
   rw [if_pos hz] at g2
   exact ⟨g1,g2,hfit,by omega,by omega⟩
 · dsimp only at hz ⊢
   rw [if_neg hz] at g2
   exact g2
theorem beg_good {c:Cas} {o:List Int}:(listE c o false=0→(begE c o).2.2=0∨(begE c o).2.2=9)∧(listE c o false ≠ 0→begE c o=([],0,listE c o false)):=by
 refine ⟨fun h=>?_,fun h=>by simp [begE,h]⟩
 obtain ⟨h1,h2,h3⟩:=list_ok h
 obtain ⟨k1,k2,k3⟩:=case_good h1
 have e2:begE c o=repN c.first ((actsOf c.trans o).map (·.2)) 0:=by simp [begE,h]
 rw [e2]
 rcases rep_good ((actsOf c.trans o).map (·.2)) c.first 0 k2 (fun a ha=>by
  obtain ⟨p,hp,rfl⟩:=List.mem_map.1 ha
  obtain ⟨t,ht,hpa⟩:=actsOf_mem hp h2
  exact k3 t ht _ hpa) with ⟨q,_⟩ | ⟨q,_⟩
 · exact .inl q
 · exact .inr q
theorem fz_F (k:Nat) (cs:List Vm.D) (xs:List Sta):(xs.map dF).map (Vm.fzL k cs)=xs.map dF:=by
 rw [List.map_map]
 exact List.map_congr_left fun x _=>by simp only [Function.comp,dF,Vm.fzL,Vm.fzD,fz_I]
theorem own_S {k:Nat} {s:List Sta} (so:List Vm.Ob) (h:so[k]?=some (.sl 3 (s.map dF))):Vm.imQ so (.own k s.length)=.imm 3 (s.map dS):=by
 rw [Vm.imQ_own,h,Vm.imO_sl _ _ _ (by simp),imLL_dF]
set_option maxHeartbeats 8000000 in
theorem replayParts_v (c:Cas) (o:List Int) (w:Int) (hi:∀ t,t ∈ c.trans→∀ a,a ∈ t.acts→ActI a):Vm.VC T 5 [.agg (dC c),.imm 1 (o.map dI),.atom (.int .i64 w)] fun d=>d=.atom (.bool true):=by
 refine Vm.vc_enter (T:=T) rfl Tryz.func5 rfl (by simp only [Tryz.f5,List.length_cons,List.length_nil];decide) fun g hB hG0 hU=>?_
 simp only [Tryz.f5,Vm.argsTm_cons,Vm.argsTm_nil,Nat.reduceAdd]
 refine Vm.rn (ai xRLaw5 @dC.eq_1) ?_
 refine Vm.call_eq2 (known_v) (Vm.cl xRLaw5) (Vm.rn xRLaw5 ?_)
 (have hh:=ai xRLaw5 @dC.eq_1;refine Vm.call_eq2 (longC_v c) (Vm.cl hh) (Vm.rn hh ?_);clear hh)
 cases hlc:longC c with
 | true =>
   refine Vm.rn xRLaw5 ?_
   exact Vm.rx (Vm.cl xRLaw5)
 | false =>
   obtain ⟨b1,b2,b3,b4,b5⟩:=longC_no hlc
   have hfit:=longC_fit hlc
   by_cases ho12:(12:Int) < o.length
   · refine Vm.rn (ai xRLaw5 @ho12) ?_
     exact Vm.rx (Vm.cl xRLaw5)
   · have ho:o.length≤12:=by omega
     obtain ⟨p1,p2⟩:=pickI_in (x:=w) (n:=(o.length:Int) + 1) (by omega)
     obtain ⟨j,hj⟩:∃ j:Nat,pickI w ((o.length:Int) + 1)=j:=⟨(pickI w (o.length + 1)).toNat,by omega⟩
     rw [hj] at p2
     have hjl:j≤o.length:=by omega
     have hf:∀ k:Nat,k≤12→FitS c.first (100 * k):=fun k hk x hx=>by have:=b4 x hx;omega
     refine Vm.rn (ai xRLaw5 @ho12) ?_
     (have hh:=ai xRLaw5 @hj;refine Vm.call_eq2 (pick_v w (o.length + 1) (by omega) (by omega)) (Vm.cl hh) (Vm.rn hh ?_);clear hh)
     (have hh:=ai xRLaw5<|ai @dC.eq_1 @dRep.eq_1;refine Vm.call_eq2 (begin_v c hfit o (by omega) (hf _ ho) hi) (Vm.cl hh) (Vm.rn hh ?_);clear hh)
     obtain ⟨q1,q2⟩:=beg_good (c:=c) (o:=o)
     by_cases h9:listE c o false=0∨listE c o false=9
     · have hcut:=cut_begin hlc ho h9 hjl
       have he:(begE c o).2.2=0∨(begE c o).2.2=9:=by
        by_cases hz:listE c o false=0
        · exact q1 hz
        · rw [q2 hz];exact .inr (h9.resolve_left hz)
       have hlen:(begE c o).1.length≤6∧(begE c o).2.1≤72∧FitS (begE c o).1 0:=by
        by_cases hz:listE c o false=0
        · have e1:begE c o=repN c.first ((actsOf c.trans o).map (·.2)) 0:=by simp [begE,hz]
          have h6:=actsOf_len6 (fun t ht=>(b5 t ht).1) o
          have h7:=repN_many ((actsOf c.trans o).map (·.2)) c.first 0
          have h8:=repN_len ((actsOf c.trans o).map (·.2)) c.first 0
          rw [List.length_map] at h7
          rw [e1]
          exact ⟨by omega,by omega,repN_fit _ _ _ _ fun x hx=>by have:=b4 x hx;rw [List.length_map];omega⟩
        · rw [q2 hz];exact ⟨Nat.zero_le _,Nat.zero_le _,fun x hx=>by cases hx⟩
       generalize hq:begE c o=q at he hlen
       obtain ⟨A,n,e⟩:=q
       dsimp only at he hlen
       obtain ⟨l1,l2,l3⟩:=hlen
       have he9:(decide ¬e=0 && decide ¬e=9)=false:=by rcases he with rfl | rfl <;> rfl
       have htk:(o.take j).map dI=(o.map dI).take j:=List.map_take
       have hb2:=begin_v c hfit (o.take j) (by rw [List.length_take];omega) (hf _ (by rw [List.length_take];omega)) hi
       rw [htk] at hb2
       generalize begE c (o.take j)=r at hb2 hcut
       obtain ⟨s,m,f⟩:=r
       have hend:∀ (i:Nat) (s:List Sta) (m:Nat) (f:Int),cutI c o i (s,m,f)→i≤o.length→((i:Int) < o.length→f ≠ 0)→s=A∧m=n∧f=e:=fun i s m f h hi hlt=>by
        have h0:(s,m,f)=(A,n,e):=by
         rw [← hq]
         by_cases hf:f=0
         · subst hf
           have:¬ (i:Int) < o.length:=fun h=>hlt h rfl
           have hil:i=o.length:=by omega
           have:=(h.1 rfl).2.1
           rw [hil,List.drop_length] at this
           exact this
         · exact h.2 hf
        cases h0;exact ⟨rfl,rfl,rfl⟩
       rcases he with rfl | rfl
       all_goals
        refine Vm.rn xRLaw5 ?_
        (have hh:=ai xRLaw5<|ai @fz_F<|ai @fz_I<|ai @fz_A3<|ai @fz_S3<|ai @fz_T3 @fz_N3;refine Vm.sk_fz 0 (by exact rfl) (Vm.cl hh) (Vm.fz hh ?_);clear hh)
        refine Vm.sk_draw 12 [0,1,2,3,4,5,6,7,8,9,10,11] (by kernel_rfl) (by kernel_rfl) (by decide) ?_
        refine Vm.rn (ai xRLaw5 @hjl) ?_
        (have hh:=ai xRLaw5<|ai @dRep.eq_1 @dC.eq_1;(first | refine Vm.callQ_eq2 (hb2) (Vm.ct hh) (Vm.rt hh ?_) | refine Vm.call_eq2 (hb2) (Vm.ct hh) (Vm.rt hh ?_));clear hh)
        refine Vm.sk_frz 1 hB (by exact rfl) ?_
        simp only [Vm.frzT,Vm.frz,Vm.frz0,if_true,Nat.reduceEqDiff,if_false]
        rw [own_S _ rfl]
        refine Vm.sk_frz 2 hB (by exact rfl) ?_
        simp only [Vm.frzT,Vm.frz,Vm.frz0,if_true,Nat.reduceEqDiff,if_false]
        rw [own_S _ rfl]
        refine Vm.sk_loop (fun q:Nat × List Sta × Nat × Int=>o.length - q.1) (fun q=>⟨[(1,.imm 1 (o.map dI)),(3,.iptr (dC c) 0),(7,.atom (.bool true)),(8,.imm 3 (A.map dS)),(9,.atom (.int .i64 n)),(10,.atom (.int .i64 (begE c o).2.2)),(11,.imm 3 (q.2.1.map dS)),(12,.atom (.int .i64 q.2.2.1)),(13,.atom (.int .i64 q.2.2.2)),(14,.atom (.int .i64 q.1))],[],125⟩) (fun q=>q.1≤o.length∧cutI c o q.1 q.2) (j,s,m,f) ?_ ⟨hjl,hcut⟩ ?_
        · exact Vm.lx (Vm.cl (ai xRLaw5<|ai @dC.eq_1 @hq))
        rintro ⟨i,s,m,f⟩ ⟨hil,hc⟩ ih
        dsimp only at hil hc
        by_cases hlt:(i:Int) < o.length
        · by_cases hf0:f=0
          · subst hf0
            obtain ⟨x,hx,gx⟩:=row_at (f:=dI) (l:=o) (i:=i) (by omega)
            obtain ⟨k,t,rfl,hk,ht,k1,k2,k3,k4,k5,k6,k7,k8⟩:=cut_next hlc ho hx hc
            have gt:(c.trans.map dT)[k]?=some (dT t):=by rw [List.getElem?_map,ht];rfl
            simp only [dT] at gt
            simp only [dI] at gx
            have g1:¬ (k:Int) < 0:=by omega
            have g2:¬ (c.trans.length:Int)≤k:=by omega
            refine Vm.rn (ai xRLaw5 @hlt) ?_
            refine Vm.sk_draw 15 [0,1,2,3,4,5,6,7,8,9,10,11,12,13,14] (by kernel_rfl) (by kernel_rfl) (by decide) ?_
            refine Vm.rn (ai xRLaw5<|ai @gx<|ai @dC.eq_1<|ai @g1 @g2) ?_
            refine Vm.sk_draw 17 [0,1,2,3,4,5,6,7,8,9,10,11,12,13,14,15,16] (by kernel_rfl) (by kernel_rfl) (by decide) ?_
            refine Vm.rn (ai xRLaw5<|ai @gx<|ai @dC.eq_1 @gt) ?_
            (have hh:=ai xRLaw5<|ai @dT.eq_1 @dRep.eq_1;(first | refine Vm.callQ_eq2 (trans_v s t (by omega) (by omega) k1 (hi t (List.mem_of_getElem? ht))) (Vm.ct hh) (Vm.rt hh ?_) | refine Vm.call_eq2 (trans_v s t (by omega) (by omega) k1 (hi t (List.mem_of_getElem? ht))) (Vm.ct hh) (Vm.rt hh ?_));clear hh)
            refine Vm.sk_frz 0 hB (by exact rfl) ?_
            simp only [Vm.frzT,Vm.frz,Vm.frz0,if_true,Nat.reduceEqDiff,if_false]
            rw [own_S _ rfl]
            refine ih (i + 1,(repN s t.acts 0).1,m + (repN s t.acts 0).2.1,(repN s t.acts 0).2.2) _ (by dsimp only;omega) ⟨by dsimp only;omega,k8⟩ ?_
            exact Vm.lx (Vm.cl (ai xRLaw5<|ai @Int.natCast_add<|ai @dC.eq_1 @hq))
          · obtain ⟨rfl,rfl,rfl⟩:=hend i s m f hc hil fun _=>hf0
            first | exact absurd rfl hf0 | skip
            all_goals
             refine Vm.rn (ai xRLaw5<|ai @hlt<|ai @hf0 @hq) ?_
             refine Vm.call_eq2 (sameSs_v s s (by omega) (fun x hx=>by have:=l3 x hx;omega)) (Vm.cl xRLaw5) (Vm.rn xRLaw5 ?_)
             exact Vm.rx (Vm.cl xRLaw5)
        · obtain ⟨rfl,rfl,rfl⟩:=hend i s m f hc hil fun h=>absurd h hlt
          refine Vm.rn (ai xRLaw5<|ai @hlt @hq) ?_
          refine Vm.call_eq2 (sameSs_v s s (by omega) (fun x hx=>by have:=l3 x hx;omega)) (Vm.cl xRLaw5) (Vm.rn xRLaw5 ?_)
          exact Vm.rx (Vm.cl xRLaw5)
     · have hnz:listE c o false ≠ 0:=fun h=>h9 (.inl h)
       have hn9:listE c o false ≠ 9:=fun h=>h9 (.inr h)
       rw [q2 hnz]
       refine Vm.rn (ai xRLaw5<|ai @hnz @hn9) ?_
       exact Vm.rx (Vm.cl xRLaw5)
theorem law_replayParts (e:El shC) (ok:okE shC e) (o:El (.slice .int)) (_:okE (.slice .int) o) (w:El .int) (_:okE .int w):Vm.VC T 5 [argD shC e,argD (.slice .int) o,argD .int w] fun d=>d=.atom (.bool true):=by
 rw [arg_C,show argD (.slice .int) o=_ from arg_Is o]
 exact replayParts_v (cvC e) o w fun t ht=>ok_C ok t ht
end Go.Proofs.YtphjohoipocpnaaGreat.W
