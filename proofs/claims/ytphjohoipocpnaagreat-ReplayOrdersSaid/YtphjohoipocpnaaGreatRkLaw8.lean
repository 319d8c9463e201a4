import Derived.Test.YtphjohoipocpnaaGreatVmD
import Derived.Test.YtphjohoipocpnaaGreatRkL
import Derived.Test.YtphjohoipocpnaaGreatRkJ
import Derived.Test.YtphjohoipocpnaaGreatRkM
import Derived.Test.YtphjohoipocpnaaGreatVmE
set_option linter.unusedSimpArgs false
set_option linter.unusedVariables false
set_option maxRecDepth 8000
/- The law of what the events do where transactions do not overlap. No conditions. -/
namespace Go.Proofs.YtphjohoipocpnaaGreat.W
open Go.Am
theorem sumA_le6 {l:List Tra} (h:∀ t,t∈l→t.acts.length≤6):sumA l≤6 * l.length:=by
 induction l with
 | nil=>simp [sumA]
 | cons t l ih =>
   have h1:=h t (by simp);have h2:=ih fun x hx=>h x (List.mem_cons_of_mem _ hx);simp only [sumA,List.map_cons,List.sum_cons,List.length_cons] at h2 ⊢;omega
theorem imLL_TF:∀ xs:List Tra,Vm.imLL (xs.map dTF)=xs.map dT
 | []=>rfl
 | x::xs=>by simp only [List.map_cons,Vm.imLL,imLL_TF xs];simp [dTF,dT,Vm.imL,Vm.D.im,imLL_A,imLL_I]
theorem imLL_Nm:∀ xs:List (List UInt8),Vm.imLL (xs.map fun s=>[Vm.D.atom (.str s)])=xs.map fun s=>[Vm.D.atom (.str s)]
 | []=>rfl
 | x::xs=>by simp only [List.map_cons,Vm.imLL,imLL_Nm xs];simp [Vm.imL,Vm.D.im]
set_option linter.defProp false in
def xRLaw8:=ai @prLL_dI<|ai @pr_dF<|ai @prLL_dF<|ai @imLL_dF<|ai @imLL_I<|ai @imLL_A<|ai @nlR_dI<|ai @nlR_dA<|ai @prLL_dA<|ai @Vm.nlR_append<|ai @nlR_dF<|ai @nlR_dTF<|ai @prLL_dTF<|ai @nlR_dNm @prLL_dNm
def Sml (c:Cas) (q:List Sta×Nat×Int):Prop:=q.1.length≤6∧∀ x,x∈q.1→x.l.length<1000000000
theorem sml_rep {c:Cas} (h1:c.first.length≤6) (h2:∀ s,s∈c.first→s.l.length≤12) (acs:List Act) (h3:acs.length≤1000):Sml c (repN c.first acs 0):=
 ⟨Nat.le_trans (repN_len _ _ _) h1,(repN_fit acs c.first 0 0 fun x hx=>by have:=h2 x hx;omega).one⟩
theorem sml_nil (c:Cas) (e:Int):Sml c ([],0,e):=⟨Nat.zero_le _,fun x h=>by cases h⟩
set_option maxHeartbeats 8000000 in
theorem replayOrders_v (c:Cas) (o:List Int) (hi:∀ t,t∈c.trans→∀ a,a∈t.acts→ActI a):Vm.VC T 4 [.agg (dC c),.imm 1 (o.map dI)] fun d=>d=.atom (.bool true):=by
 refine Vm.ve (T:=T) Tryz.func4 fun g hB hG0 hU=>?_;simp only [Tryz.f4,Vm.aC,Vm.aN,Nat.reduceAdd];refine Vm.rn (ai xRLaw8 @dC.eq_1) ?_;refine Vm.cq (ai xRLaw8 @dC.eq_1) (longC_v c) ?_
 cases hlc:longC c with
 | true =>
   refine Vm.rn xRLaw8 ?_;refine Vm.cq xRLaw8 (awake_v) ?_;exact Vm.rx (Vm.cl xRLaw8)
 | false =>
   obtain ⟨b1,b2,b3,b4,b5⟩:=longC_no hlc;have hfit:=longC_fit hlc
   by_cases ho12:(12:Int)<o.length
   ·refine Vm.rn (ai xRLaw8 @ho12) ?_;refine Vm.cq xRLaw8 (awake_v) ?_;exact Vm.rx (Vm.cl xRLaw8)
   ·have ho:o.length≤12:=by omega
    have hsum:=sumA_le6 fun t ht=>(b5 t ht).1;have hf:FitS c.first (100 * o.length):=fun x hx=>by have:=b4 x hx;omega
    have hf2:FitS c.first (sumA c.trans):=fun x hx=>by have:=b4 x hx;omega
    have v1:=begin_v c hfit o (by omega) hf hi;have v2:=rbegin_v c hfit o (by omega) hf hi;have v3:=order_v c hfit o (by omega) hf hi;have v4:=rorder_v c hfit o (by omega) hf hi;have v5:=events_v c hfit (by omega) hf2 hi;have v6:=revents_v c hfit (by omega) hf2 hi;have v7:=copyC_v c hfit;have v8:=copyI_v o (by omega);have v9:=sameC_v c hfit;have v10:=sameI_v o o (by omega);have hal:=actsOf_len6 (fun t ht=>(b5 t ht).1) o
    have s1:Sml c (begE c o):=by
     unfold begE;split
     ·exact sml_nil c _
     ·exact sml_rep b2 b4 _ (by rw [List.length_map];omega)
    have s2:Sml c (ordE c o):=by
     unfold ordE;split
     ·exact sml_nil c _
     ·exact sml_rep b2 b4 _ (by rw [List.length_map];omega)
    have s3:Sml c (evE c):=by
     by_cases hz:checkC c=0
     ·have e:evE c=repN c.first ((evP (sinC c.trans)).map (·.2)) 0:=by simp [evE,hz]
      rw [e];exact sml_rep b2 b4 _ (by rw [List.length_map,evP_len,sum_sin (case_plc hz).len];omega)
     ·have e:evE c=([],0,checkC c):=by simp [evE,hz]
      rw [e];exact sml_nil c _
    generalize begE c o=A at v1 v2 s1;generalize ordE c o=B at v3 v4 s2;generalize evE c=C at v5 v6 s3;obtain ⟨A,an,ae⟩:=A;obtain ⟨B,bn,be⟩:=B;obtain ⟨C,cn,ce⟩:=C;have w1:=sameSs_v A A (by have:=s1.1;dsimp only at this;omega) s1.2;have w2:=sameSs_v B B (by have:=s2.1;dsimp only at this;omega) s2.2;have w3:=sameSs_v C C (by have:=s3.1;dsimp only at this;omega) s3.2;clear s1 s2 s3 hf hf2 hal;refine Vm.rn (ai xRLaw8 @ho12) ?_;refine Vm.cq (ai xRLaw8<|ai @dC.eq_1 @dCF.eq_1) (v7) ?_;refine Vm.cq (ai xRLaw8 @dC.eq_1) (v8) ?_;refine Vm.cq (ai xRLaw8<|ai @dC.eq_1<|ai @dRep.eq_1<|ai @imLL_TF @imLL_Nm) (v1) ?_;refine Vm.cq (ai xRLaw8<|ai @dC.eq_1 @dRep.eq_1) (v2) ?_;refine Vm.cq (ai xRLaw8<|ai @dC.eq_1<|ai @dRep.eq_1<|ai @imLL_TF @imLL_Nm) (v3) ?_;refine Vm.cq (ai xRLaw8<|ai @dC.eq_1 @dRep.eq_1) (v4) ?_;refine Vm.cq (ai xRLaw8<|ai @dC.eq_1<|ai @dRep.eq_1<|ai @imLL_TF @imLL_Nm) (v5) ?_;refine Vm.cq (ai xRLaw8<|ai @dC.eq_1 @dRep.eq_1) (v6) ?_;refine Vm.cq xRLaw8 (w1) ?_;refine Vm.cq xRLaw8 (w2) ?_;refine Vm.cq xRLaw8 (w3) ?_;refine Vm.cq (ai xRLaw8<|ai @dC.eq_1<|ai @imLL_TF @imLL_Nm) (v9) ?_;refine Vm.cq xRLaw8 (v10) ?_;refine Vm.cq xRLaw8 (awake_v) ?_;exact Vm.rx (Vm.cl xRLaw8)
theorem law_replayOrders (e:El shC) (ok:okE shC e) (o:El (.slice .int)) (_:okE (.slice .int) o):Vm.VC T 4 [argD shC e,argD (.slice .int) o] fun d=>d=.atom (.bool true):=by
 rw [arg_C,show argD (.slice .int) o=_ from arg_Is o];exact replayOrders_v (cvC e) o fun t ht=>ok_C ok t ht
end Go.Proofs.YtphjohoipocpnaaGreat.W
