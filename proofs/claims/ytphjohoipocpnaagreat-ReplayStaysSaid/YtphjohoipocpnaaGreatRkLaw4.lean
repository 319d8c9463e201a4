import Derived.Test.YtphjohoipocpnaaGreatRkJ
import Derived.Test.YtphjohoipocpnaaGreatRkI
import Derived.Test.YtphjohoipocpnaaGreatRkG
set_option linter.unusedSimpArgs false
set_option linter.unusedVariables false
set_option maxRecDepth 8000
/- The law of objects that stay. No conditions. -/
namespace Go.Proofs.YtphjohoipocpnaaGreat.W
open Go.Am
set_option linter.defProp false in
def xRLaw4:=ai @prLL_dI<|ai @pr_dF<|ai @prLL_dF<|ai @imLL_dF<|ai @imLL_I<|ai @imLL_A<|ai @nlR_dI<|ai @nlR_dA<|ai @prLL_dA<|ai @Vm.nlR_append @nlR_dF
theorem fz_A2 (k:Nat) (cs:List Vm.D) (xs:List Act):(xs.map dA).map (Vm.fzL k cs)=xs.map dA:=by simp [dA,Vm.fzL,Vm.fzD]
theorem fz_S2 (k:Nat) (cs:List Vm.D) (xs:List Sta):(xs.map dS).map (Vm.fzL k cs)=xs.map dS:=by simp [dS,Vm.fzL,Vm.fzD]
theorem fz_N (k:Nat) (cs:List Vm.D) (xs:List (List UInt8)):(xs.map fun s=>[Vm.D.atom (.str s)]).map (Vm.fzL k cs)=xs.map fun s=>[Vm.D.atom (.str s)]:=by simp [Vm.fzL,Vm.fzD]
theorem fz_T (k:Nat) (cs:List Vm.D) (xs:List Tra):(xs.map dT).map (Vm.fzL k cs)=xs.map dT:=by
 rw [List.map_map]
 exact List.map_congr_left fun x _=>by simp only [Function.comp,dT,Vm.fzL,Vm.fzD,fz_A2,fz_I]
theorem vc_from {f:FuncId} {ds ds':List Vm.D} {R:Vm.D→Prop} (h:Vm.VC T f ds' R) (e:Vm.dleL ds ds'):Vm.VC T f ds R:=fun P H vs wf pl q=>h P H vs wf pl (Vm.dleL_ok e q)
theorem trans0_v (s:List Sta) (nm:List UInt8) (hl:s.length < 1000000000) (hf:FitS s 0) :
  Vm.VC T 12 [.imm 3 (s.map dS),.agg [.atom (.str nm),.atom (.int .i64 0),.atom (.int .i64 0),.atom .nilSlice,.atom .nilSlice]] fun d=>d=dRep (s,0,0):=
 vc_from (trans_v s ⟨nm,0,0,[],[]⟩ hl (by simp) (by simpa using hf) (by simp)) (by simp [dT,Vm.dl8,Vm.dleD_nilI])
set_option maxHeartbeats 8000000 in
theorem replayStays_v (c:Cas) (w:Int) (hi:∀ t,t ∈ c.trans→∀ a,a ∈ t.acts→ActI a):Vm.VC T 6 [.agg (dC c),.atom (.int .i64 w)] fun d=>d=.atom (.bool true):=by
 refine Vm.vc_enter (T:=T) rfl Tryz.func6 rfl (by simp only [Tryz.f6,List.length_cons,List.length_nil];decide) fun g hB hG0 hU=>?_
 simp only [Tryz.f6,Vm.argsTm_cons,Vm.argsTm_nil,Nat.reduceAdd]
 refine Vm.rn (ai xRLaw4 @dC.eq_1) ?_
 refine Vm.call_eq2 (known_v) (Vm.cl xRLaw4) (Vm.rn xRLaw4 ?_)
 (have hh:=ai xRLaw4 @dC.eq_1;refine Vm.call_eq2 (longC_v c) (Vm.cl hh) (Vm.rn hh ?_);clear hh)
 cases hlc:longC c with
 | true =>
   refine Vm.rn xRLaw4 ?_
   exact Vm.rx (Vm.cl xRLaw4)
 | false =>
   obtain ⟨b1,b2,b3,b4,b5⟩:=longC_no hlc
   have hfit:=longC_fit hlc
   refine Vm.rn xRLaw4 ?_
   (have hh:=ai xRLaw4 @dC.eq_1;refine Vm.call_eq2 (checkC_v c hfit) (Vm.cl hh) (Vm.rn hh ?_);clear hh)
   by_cases hz:checkC c=0
   · by_cases h0:(c.trans.length:Int)=0
     · refine Vm.rn (ai xRLaw4<|ai @hz @h0) ?_
       exact Vm.rx (Vm.cl xRLaw4)
     · obtain ⟨p1,p2⟩:=pickI_in (x:=w) (n:=c.trans.length) (by omega)
       obtain ⟨j,hj⟩:∃ j:Nat,pickI w c.trans.length=j:=⟨(pickI w c.trans.length).toNat,by omega⟩
       rw [hj] at p2
       obtain ⟨t,ht,gt⟩:=row_at (f:=dT) (l:=c.trans) (i:=j) (by omega)
       have htm:=List.mem_of_getElem? ht
       obtain ⟨t1,t2⟩:=b5 t htm
       obtain ⟨k1,k2,k3⟩:=case_good hz
       have hr:=rep_good t.acts c.first 0 k2 (k3 t htm)
       have hf:FitS c.first (t.acts.length + 0):=fun x hx=>by have:=b4 x hx;omega
       have hf2:=repN_fit t.acts c.first 0 0 hf
       simp only [dT] at gt
       refine Vm.rn (ai xRLaw4<|ai @hz @h0) ?_
       (have hh:=ai xRLaw4<|ai @fz_I<|ai @fz_A2<|ai @fz_S2<|ai @fz_T @fz_N;refine Vm.sk_fz 0 (by exact rfl) (Vm.cl hh) (Vm.fz hh ?_);clear hh)
       refine Vm.sk_draw2 11 [2,3,4,5,6,0,1,7,8,9,10] [0,1,0,0,8,24,60,127,255,0,1023] (by kernel_rfl) (by kernel_rfl) (by decide) ?_
       refine Vm.rt xRLaw4 ?_
       (have hh:=ai xRLaw4<|ai @Am.vt<|ai @hj @gt;(first | refine Vm.callQ_eq2 (pick_v w c.trans.length (by omega) (by omega)) (Vm.ct hh) (Vm.rt hh ?_) | refine Vm.call_eq2 (pick_v w c.trans.length (by omega) (by omega)) (Vm.ct hh) (Vm.rt hh ?_));clear hh)
       (have hh:=ai xRLaw4<|ai @dT.eq_1 @dRep.eq_1;refine Vm.call_eq2 (trans_v c.first t (by omega) (by omega) hf (hi t htm)) (Vm.cl hh) (Vm.rn hh ?_);clear hh)
       generalize repN c.first t.acts 0=q at hr hf2
       obtain ⟨s,m,e⟩:=q
       dsimp only at hr hf2
       (have hh:=ai xRLaw4 @dRep.eq_1;refine Vm.call_eq2 (trans0_v c.first t.name (by omega) (fun x hx=>by have:=b4 x hx;omega)) (Vm.cl hh) (Vm.rn hh ?_);clear hh)
       refine Vm.call_eq2 (sameSs_v c.first c.first (by omega) (fun x hx=>by have:=b4 x hx;omega)) (Vm.cl xRLaw4) (Vm.rn xRLaw4 ?_)
       rcases hr with ⟨q1,q2,q3,q4⟩ | ⟨q1,q2,q3,q4⟩
       · subst q1
         rw [Nat.zero_add] at q2
         subst q2
         have hsl:((s.length:Nat):Int)=c.first.length:=by rw [q3.len]
         have e9:∀ so:List Vm.Ob,so[2]?=some (.sl 3 (s.map dF))→Vm.imQ so (.own 2 s.length)=.imm 3 (s.map dS):=fun so h=>by
          rw [Vm.imQ_own,h,Vm.imO_sl _ _ _ (by simp),imLL_dF]
         refine Vm.rn (ai xRLaw4 @hsl) ?_
         refine Vm.sk_frz 2 hB (by exact rfl) ?_
         refine Vm.sk_loop (fun i:Nat=>s.length - i) (fun i=>⟨[(2,.iptr (dC c) 0),(5,.atom (.bool true)),(6,.rptr 1 0),(7,.imm 3 (s.map dS)),(13,.atom (.int .i64 i))],[.dead,.cell (dT t)],161⟩) (fun i=>i≤s.length) 0 ?_ (Nat.zero_le _) ?_
         · simp only [Vm.frzT,Vm.frz,Vm.frz0,if_true,Nat.reduceEqDiff,if_false]
           rw [e9 _ rfl]
           exact Vm.lx (Vm.cl (ai xRLaw4<|ai @dC.eq_1 @dT.eq_1))
         intro i hi1 ih
         refine Vm.rn xRLaw4 ?_
         refine Vm.sb_dec (fun hc1=>?_) (fun hc1=>?_)
         · obtain ⟨x,hx,gx⟩:=row_at (f:=dS) (l:=s) (i:=i) (by omega)
           obtain ⟨y,hy,gy⟩:=row_at (f:=dS) (l:=c.first) (i:=i) (by rw [← q3.len];omega)
           have hxy:x.t=y.t:=by
            have:=(q3.at hx).1
            rw [← this,typAt,Int.toNat_natCast,hy]
           simp only [dS] at gx gy
           refine Vm.rn xRLaw4 ?_
           refine Vm.sk_loop (fun k:Nat=>t.acts.length - k) (fun k=>⟨[(2,.iptr (dC c) 0),(5,.atom (.bool true)),(6,.rptr 1 0),(7,.imm 3 (s.map dS)),(13,.atom (.int .i64 i)),(14,.atom (.bool ((t.acts.take k).any fun a=>decide (a.o=i)))),(15,.atom (.int .i64 k))],[.dead,.cell (dT t)],161⟩) (fun k=>k≤t.acts.length) 0 ?_ (Nat.zero_le _) ?_
           · exact Vm.lx (Vm.cl (ai xRLaw4<|ai @dC.eq_1<|ai @dT.eq_1<|ai @List.take_zero.{0} @List.any_nil.{0}))
           intro k hk ihk
           refine Vm.rn (ai xRLaw4 @dT.eq_1) ?_
           refine Vm.sb_dec (fun hc2=>?_) (fun hc2=>?_)
           · obtain ⟨a,ha,ga⟩:=row_at (f:=dA) (l:=t.acts) (i:=k) (by omega)
             have hst:(t.acts.take (k + 1)).any (fun a=>decide (a.o=i))=((t.acts.take k).any (fun a=>decide (a.o=i)) || decide (a.o=i)):=by rw [take_at ha,List.any_append];simp
             simp only [dA] at ga
             cases hb:(t.acts.take k).any (fun a=>decide (a.o=i)) with
             | true =>
               rw [hb,Bool.true_or] at hst
               refine Vm.rn xRLaw4 ?_
               refine ihk (k + 1) _ (by dsimp only;omega) (by omega) ?_
               exact Vm.lx (Vm.cl (ai xRLaw4<|ai @Int.natCast_add<|ai @dC.eq_1<|ai @dT.eq_1 @hst))
             | false =>
               rw [hb,Bool.false_or] at hst
               refine Vm.rn (ai xRLaw4 @ga) ?_
               refine ihk (k + 1) _ (by dsimp only;omega) (by omega) ?_
               exact Vm.lx (Vm.cl (ai xRLaw4<|ai @Int.natCast_add<|ai @dC.eq_1<|ai @dT.eq_1 @hst))
           · have hk2:k=t.acts.length:=by omega
             subst hk2
             rw [List.take_length]
             cases hb:t.acts.any (fun a=>decide (a.o=i)) with
             | true =>
               refine Vm.rn xRLaw4 ?_
               refine Vm.sk_draw 29 [0,1,2,3,4,5,6,7,8,9,10,11,12,13,14,15,16,17,18,19,20,21,22,23,24,25,26,27,28] (by kernel_rfl) (by kernel_rfl) (by decide) ?_
               refine Vm.rn (ai xRLaw4<|ai @gx<|ai @gy<|ai @dC.eq_1 @hxy) ?_
               refine ih (i + 1) _ (by dsimp only;omega) (by omega) ?_
               exact Vm.lx (Vm.cl (ai xRLaw4<|ai @Int.natCast_add<|ai @dC.eq_1 @dT.eq_1))
             | false =>
               have hxe:x=y:=by
                have h1:=q4 i fun a ha he=>by
                 have:=List.any_eq_false.1 hb a ha
                 simp [he] at this
                rw [hx,hy] at h1;exact Option.some.inj h1
               subst hxe
               have hxl:x.l.length < 1000000000:=by have:=b4 x (List.mem_of_getElem? hy);omega
               refine Vm.rn xRLaw4 ?_
               refine Vm.sk_draw 29 [0,1,2,3,4,5,6,7,8,9,10,11,12,13,14,15,16,17,18,19,20,21,22,23,24,25,26,27,28] (by kernel_rfl) (by kernel_rfl) (by decide) ?_
               refine Vm.rn (ai xRLaw4<|ai @gx<|ai @gy @dC.eq_1) ?_
               (have hh:=ai xRLaw4<|ai @dS.eq_1 @Am.vt;(first | refine Vm.callQ_eq2 (sameS_v x x hxl) (Vm.ct hh) (Vm.rt hh ?_) | refine Vm.call_eq2 (sameS_v x x hxl) (Vm.ct hh) (Vm.rt hh ?_));clear hh)
               refine ih (i + 1) _ (by dsimp only;omega) (by omega) ?_
               exact Vm.lx (Vm.cl (ai xRLaw4<|ai @Int.natCast_add<|ai @dC.eq_1 @dT.eq_1))
         · refine Vm.rn xRLaw4 ?_
           exact Vm.rx (Vm.cl xRLaw4)
       · subst q1;subst q4
         have g1:(1:Int)≤m:=by omega
         have g2:(m:Int)≤t.acts.length:=by omega
         refine Vm.rn (ai xRLaw4<|ai @g1<|ai @g2 @dT.eq_1) ?_
         exact Vm.rx (Vm.cl xRLaw4)
   · refine Vm.rn (ai xRLaw4 @hz) ?_
     exact Vm.rx (Vm.cl xRLaw4)
theorem law_replayStays (e:El shC) (ok:okE shC e) (w:El .int) (_:okE .int w):Vm.VC T 6 [argD shC e,argD .int w] fun d=>d=.atom (.bool true):=by
 rw [arg_C]
 exact replayStays_v (cvC e) w fun t ht=>ok_C ok t ht
end Go.Proofs.YtphjohoipocpnaaGreat.W
