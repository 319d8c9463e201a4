import Derived.Test.YtphjohoipocpnaaGreatRkI
import Derived.Test.YtphjohoipocpnaaGreatRkF
import Derived.Test.YtphjohoipocpnaaGreatVmD
import Derived.Test.YtphjohoipocpnaaGreatRkG
set_option linter.unusedSimpArgs false
set_option linter.unusedVariables false
set_option maxRecDepth 8000
/- What an operation that may be makes of a state that may be: a state of its type that may be. No conditions. -/
namespace Go.Proofs.YtphjohoipocpnaaGreat.W
open Go.Am
def Good (f s:List Sta):Prop:=s.map (·.t)=f.map (·.t)∧∀ x,x∈s→checkS x=0
theorem Good.len {f s:List Sta} (h:Good f s):s.length=f.length:=by simpa using congrArg List.length h.1
theorem Good.at {f s:List Sta} (h:Good f s) {j:Nat} {x:Sta} (hx:s[j]?=some x):typAt f j=x.t∧checkS x=0:=by
 refine ⟨?_,h.2 x (List.mem_of_getElem? hx)⟩;have h1:=congrArg (fun l=>l[j]?) h.1;simp only [List.getElem?_map,hx,Option.map_some] at h1;unfold typAt;rw [Int.toNat_natCast]
 cases hf:f[j]? with
 | none=>rw [hf] at h1;cases h1
 | some y=>rw [hf] at h1;simpa using h1.symm
theorem fnz_all:∀ {l:List Int},fnz l=0→∀ e,e∈l→e=0
 | [],_,e,h=>by cases h
 | x::l,h,e,he=>by
   unfold fnz at h;split at h
   ·rename_i hx;rcases List.mem_cons.1 he with rfl | he
    ·exact hx
    ·exact fnz_all h e he
   ·contradiction
set_option linter.defProp false in
def xRKit3:=ai @prLL_dI<|ai @imLL_I<|ai @nlR_dI @Vm.nlR_append
def longC (c:Cas):Bool:=decide (6<c.names.length∨6<c.first.length∨8<c.trans.length) || (c.names.any (fun s=>decide (60<s.length)) || (c.first.any (fun s=>decide (12<s.l.length)) || c.trans.any (fun t=>decide (60<t.name.length∨6<t.acts.length∨6<t.at_.length))))
theorem any_step {α:Type} {p:α→Bool} {l:List α} {i:Nat} {x:α} (h:l[i]?=some x):(p x=true→l.any p=true)∧((l.take i).any p=false→p x=false→(l.take (i+1)).any p=false):=
 ⟨fun hp=>List.any_eq_true.2 ⟨x,List.mem_of_getElem? h,hp⟩,fun h1 h2=>by rw [take_at h,List.any_append,h1];simp [h2]⟩
theorem longC_no {c:Cas} (h:longC c=false):c.names.length≤6∧c.first.length≤6∧c.trans.length≤8∧(∀ s,s∈c.first→s.l.length≤12)∧∀ t,t∈c.trans→t.acts.length≤6∧t.at_.length≤6:=by
 simp only [longC,Bool.or_eq_false_iff,decide_eq_false_iff_not] at h;obtain ⟨h1,h2,h3,h4⟩:=h;refine ⟨by omega,by omega,by omega,fun s hs=>?_,fun t ht=>?_⟩
 ·have:=List.any_eq_false.1 h3 s hs;simp at this;omega
 ·have:=List.any_eq_false.1 h4 t ht;simp at this;omega
theorem longC_fit {c:Cas} (h:longC c=false):FitC c:=by
 obtain ⟨h1,h2,h3,h4,h5⟩:=longC_no h;exact ⟨by omega,by omega,by omega,fun s hs=>by have:=h4 s hs;omega,fun t ht=>by have:=h5 t ht;omega⟩
theorem longC_v (c:Cas):Vm.VC T 17 [.agg (dC c)] fun d=>d=.atom (.bool (longC c)):=by
 refine Vm.ve (T:=T) Tryz.func17 fun g hB hG0 hU=>?_;simp only [Tryz.f17,Vm.aC,Vm.aN,Nat.reduceAdd]
 by_cases h1:(6:Int)<c.names.length
 ·have hz:longC c=true:=by rw [longC,show decide (6<c.names.length∨6<c.first.length∨8<c.trans.length)=true from decide_eq_true (by omega)];rfl
  refine Vm.rn (ai xRKit3<|ai @dC.eq_1 @h1) ?_;refine Vm.rz xRKit3 ?_;rw [hz]
 by_cases h2:(6:Int)<c.first.length
 ·have hz:longC c=true:=by rw [longC,show decide (6<c.names.length∨6<c.first.length∨8<c.trans.length)=true from decide_eq_true (by omega)];rfl
  refine Vm.rn (ai xRKit3<|ai @dC.eq_1<|ai @h1 @h2) ?_;refine Vm.rz xRKit3 ?_;rw [hz]
 by_cases h3:(8:Int)<c.trans.length
 ·have hz:longC c=true:=by rw [longC,show decide (6<c.names.length∨6<c.first.length∨8<c.trans.length)=true from decide_eq_true (by omega)];rfl
  refine Vm.rn (ai xRKit3<|ai @dC.eq_1<|ai @h1<|ai @h2 @h3) ?_;refine Vm.rz xRKit3 ?_;rw [hz]
 have hl:longC c=(c.names.any (fun s=>decide (60<s.length)) || (c.first.any (fun s=>decide (12<s.l.length)) || c.trans.any (fun t=>decide (60<t.name.length∨6<t.acts.length∨6<t.at_.length)))):=by
  rw [longC,show decide (6<c.names.length∨6<c.first.length∨8<c.trans.length)=false from decide_eq_false (by omega)];rfl
 refine Vm.rn (ai xRKit3<|ai @dC.eq_1<|ai @h1<|ai @h2 @h3) ?_;refine Vm.sk_loop (fun i:Nat=>c.names.length - i) (fun i=>⟨[(1,.rptr 0 0),(3,.atom (.int .i64 i))],[.cell (dC c)],80⟩) (fun i=>i≤c.names.length∧(c.names.take i).any (fun s=>decide (60<s.length))=false) 0 ?_ ⟨by omega,by simp⟩ ?_
 ·exact Vm.lx (Vm.cl (ai xRKit3 @dC.eq_1))
 rintro i ⟨hi,ha⟩ ih;refine Vm.rn (ai xRKit3 @dC.eq_1) ?_;refine Vm.sb_dec (fun hc=>?_) (fun hc=>?_)
 ·obtain ⟨s,hs,g0⟩:=row_at (f:=fun s=>[Vm.D.atom (.str s)]) (l:=c.names) (i:=i) (by omega);have gs:(c.names.map fun s=>[Vm.D.atom (.str s)])[i]?=some [.atom (.str s)]:=g0;have st:=any_step (p:=fun s:List UInt8=>decide (60<s.length)) hs;refine Vm.rn (ai xRKit3 @gs) ?_;refine Vm.sb_dec (fun hb=>?_) (fun hb=>?_)
  ·refine Vm.rn xRKit3 ?_;refine Vm.rz xRKit3 ?_;rw [hl,st.1 (decide_eq_true (by omega)),Bool.true_or]
  ·refine Vm.rn xRKit3 ?_;refine ih (i+1) _ (by dsimp only;omega) ⟨by omega,st.2 ha (decide_eq_false (by omega))⟩ ?_;exact Vm.lx (Vm.cl (ai xRKit3<|ai @Int.natCast_add @dC.eq_1))
 ·have hi':i=c.names.length:=by omega
  subst hi';rw [List.take_length] at ha;rw [ha,Bool.false_or] at hl;refine Vm.rn xRKit3 ?_;refine Vm.sk_loop (fun i:Nat=>c.first.length - i) (fun i=>⟨[(1,.rptr 0 0),(4,.atom (.int .i64 i))],[.cell (dC c)],80⟩) (fun i=>i≤c.first.length∧(c.first.take i).any (fun s=>decide (12<s.l.length))=false) 0 ?_ ⟨by omega,by simp⟩ ?_
  ·exact Vm.lx (Vm.cl (ai xRKit3 @dC.eq_1))
  rintro i ⟨hi,ha⟩ ih2;refine Vm.rn (ai xRKit3 @dC.eq_1) ?_;refine Vm.sb_dec (fun hc=>?_) (fun hc=>?_)
  ·obtain ⟨s,hs,gs⟩:=row_at (f:=dS) (l:=c.first) (i:=i) (by omega);have st:=any_step (p:=fun s:Sta=>decide (12<s.l.length)) hs;simp only [dS] at gs;refine Vm.rn (ai xRKit3 @gs) ?_;refine Vm.sb_dec (fun hb=>?_) (fun hb=>?_)
   ·refine Vm.rn xRKit3 ?_;refine Vm.rz xRKit3 ?_;rw [hl,st.1 (decide_eq_true (by omega)),Bool.true_or]
   ·refine Vm.rn xRKit3 ?_;refine ih2 (i+1) _ (by dsimp only;omega) ⟨by omega,st.2 ha (decide_eq_false (by omega))⟩ ?_;exact Vm.lx (Vm.cl (ai xRKit3<|ai @Int.natCast_add @dC.eq_1))
  ·have hi':i=c.first.length:=by omega
   subst hi';rw [List.take_length] at ha;rw [ha,Bool.false_or] at hl;refine Vm.rn xRKit3 ?_;refine Vm.sk_loop (fun i:Nat=>c.trans.length - i) (fun i=>⟨[(1,.rptr 0 0),(5,.atom (.int .i64 i))],[.cell (dC c)],80⟩) (fun i=>i≤c.trans.length∧(c.trans.take i).any (fun t=>decide (60<t.name.length∨6<t.acts.length∨6<t.at_.length))=false) 0 ?_ ⟨by omega,by simp⟩ ?_
   ·exact Vm.lx (Vm.cl (ai xRKit3 @dC.eq_1))
   rintro i ⟨hi,ha⟩ ih3;refine Vm.rn (ai xRKit3 @dC.eq_1) ?_;refine Vm.sb_dec (fun hc=>?_) (fun hc=>?_)
   ·obtain ⟨t,ht,gt⟩:=row_at (f:=dT) (l:=c.trans) (i:=i) (by omega);have st:=any_step (p:=fun t:Tra=>decide (60<t.name.length∨6<t.acts.length∨6<t.at_.length)) ht;simp only [dT] at gt
    by_cases q1:(60:Int)<t.name.length
    ·refine Vm.rn (ai xRKit3<|ai @gt @q1) ?_;refine Vm.rz xRKit3 ?_;rw [hl,st.1 (decide_eq_true (by omega))]
    by_cases q2:(6:Int)<t.acts.length
    ·refine Vm.rn (ai xRKit3<|ai @gt<|ai @q1 @q2) ?_;refine Vm.rz xRKit3 ?_;rw [hl,st.1 (decide_eq_true (by omega))]
    by_cases q3:(6:Int)<t.at_.length
    ·refine Vm.rn (ai xRKit3<|ai @gt<|ai @q1<|ai @q2 @q3) ?_;refine Vm.rz xRKit3 ?_;rw [hl,st.1 (decide_eq_true (by omega))]
    ·refine Vm.rn (ai xRKit3<|ai @gt<|ai @q1<|ai @q2 @q3) ?_;refine ih3 (i+1) _ (by dsimp only;omega) ⟨by omega,st.2 ha (decide_eq_false (by omega))⟩ ?_;exact Vm.lx (Vm.cl (ai xRKit3<|ai @Int.natCast_add @dC.eq_1))
   ·have hi':i=c.trans.length:=by omega
    subst hi';rw [List.take_length] at ha;refine Vm.rn xRKit3 ?_;refine Vm.rz xRKit3 ?_;rw [hl,ha]
end Go.Proofs.YtphjohoipocpnaaGreat.W
