import Derived.Test.YtphjohoipocpnaaGreatVmD
import Derived.Test.YtphjohoipocpnaaGreatRkD
import Derived.Test.YtphjohoipocpnaaGreatRkA
set_option linter.unusedSimpArgs false
set_option linter.unusedVariables false
set_option maxRecDepth 8000
/- A set's operations: where a number stands. No conditions. -/
namespace Go.Proofs.YtphjohoipocpnaaGreat.W
open Go.Am
set_option linter.defProp false in
def xRSet:=ai @toNat_1<|ai @nlR_dI<|ai @Vm.nlR_append @Vm.dl8
def bs (r:Nat→Bool):Nat→Nat→Nat→List (Nat×Nat)
 | 0,_,_=>[]
 | k+1,f,t=>if f<t then (if r ((f+t) / 2) then ((f+t) / 2+1,t)::bs r k ((f+t) / 2+1) t else (f,(f+t) / 2)::bs r k f ((f+t) / 2)) else []
def dN (p:Nat×Nat):List Vm.D:=[.atom (.int .i64 p.1),.atom (.int .i64 p.2)]
theorem halves1_v (n:Nat) (hn:n<1000000000) {f:FuncId} {caps:List Vm.D} {r:Nat→Bool} (hc:∀ so,caps.map (Vm.im1 so)=caps) (hnl:Vm.nlL caps=true) (hbl:Vm.belL 3 caps=true) (hnf:Vm.nfL caps=true)
  (hr:∀ m:Nat,m<n→Vm.VC T f (.atom (.int .i64 m)::caps) fun d=>d=.atom (.bool (r m))) :
  Vm.VG T 211 [[.atom (.int .i64 n)],[.fn f [] caps]] ((bs r n 0 n).map dN):=by
 intro L K E hK hE hY;show Vm.VM T 211 [.atom (.func (.yield L) [] []),.rptr 0 0,.rptr 1 0] [.cell [.atom (.int .i64 n)],.cell [.fn f [] caps],.ghost (K 0)] _;refine Vm.vm (T:=T) Tryz.func211 fun g hG0 hU=>?_;simp only [Tryz.f211,Vm.aC,Vm.aN,Nat.reduceAdd];refine Vm.rn xRSet ?_;refine Vm.dw 3 [0,1,2] ?_;refine Vm.rn xRSet ?_;refine Vm.rn xRSet ?_
 refine Vm.sk_loop (fun q:Nat×Nat×Nat×Nat=>q.2.1) (fun q=>⟨[(0,.atom (.func (.yield L) [] [])),(1,.rptr 0 0),(2,.rptr 1 0),(4,.atom (.int .i64 q.2.2.1)),(5,.atom (.int .i64 q.2.2.2))],[.cell [.atom (.int .i64 n)],.cell [.fn f [] caps],.ghost (K q.1)],26⟩)
  (fun q=>(bs r n 0 n).drop q.1=bs r q.2.1 q.2.2.1 q.2.2.2∧q.2.2.2≤n∧q.2.2.2 - q.2.2.1≤q.2.1∧q.1≤(bs r n 0 n).length) (0,n,0,n) ?_ ⟨rfl,Nat.le_refl _,by dsimp only;omega,Nat.zero_le _⟩ ?_
 ·exact Vm.lx (Vm.cl (ai xRSet<|ai @hnl @hbl))
 rintro ⟨i,k,a,b⟩ ⟨h1,h2,h3,h4⟩ ih;dsimp only at h1 h2 h3 h4;refine Vm.rn xRSet ?_;refine Vm.sb_dec (fun hlt=>?_) (fun hge=>?_)
 ·have hab:a<b:=by omega
  obtain ⟨k,rfl⟩:∃ k',k=k'+1:=⟨k - 1,by omega⟩
  have e2:((a:Int)+(b:Int)).tdiv 2=(((a+b) / 2:Nat):Int):=rfl;generalize hm:(a+b) / 2=m at e2;have hmn:m<n:=by omega
  have hb2:=h1;simp only [bs,if_pos hab,hm] at hb2;refine Vm.rn (ai xRSet<|ai @e2 @hnf) ?_;refine Vm.cq (ai xRSet @hc) (hr m hmn) ?_;have hlen:=congrArg List.length h1;rw [List.length_drop] at hlen;refine Vm.sb_bool (fun hp=>?_) (fun hp=>?_)
  ·rw [hp] at hb2;simp only [if_true] at hb2
   have hx:((bs r n 0 n).map dN)[i]?=some [.atom (.int .i64 (m+1)),.atom (.int .i64 b)]:=by
    have e:=List.getElem?_drop (xs:=bs r n 0 n) (i:=i) (j:=0);rw [hb2] at e;rw [List.getElem?_map,show (bs r n 0 n)[i]?=some (m+1,b) from e.symm];simp [dN]
   refine Vm.rn xRSet ?_;refine Vm.round_tick (k:=2) rfl (hY i _ hx) (hK _) hE rfl ?_ ?_
   ·refine Vm.rn xRSet ?_
    refine ih (i+1,k,m+1,b) _ (by dsimp only;omega) ⟨by rw [← List.drop_drop,hb2];rfl,h2,by dsimp only;omega,by
     have:=congrArg List.length hb2;simp only [List.length_drop,List.length_cons] at this;dsimp only;omega⟩ ?_
    exact Vm.lx (Vm.cl (ai xRSet<|ai @hnl @hbl))
   ·refine Vm.rn xRSet ?_;refine Vm.rm (Vm.s1 xRSet ?_);exact .inr trivial
  ·rw [hp] at hb2;simp only [Bool.false_eq_true,if_false] at hb2
   have hx:((bs r n 0 n).map dN)[i]?=some [.atom (.int .i64 a),.atom (.int .i64 m)]:=by
    have e:=List.getElem?_drop (xs:=bs r n 0 n) (i:=i) (j:=0);rw [hb2] at e;rw [List.getElem?_map,show (bs r n 0 n)[i]?=some (a,m) from e.symm];simp [dN]
   refine Vm.rn xRSet ?_;refine Vm.round_tick (k:=2) rfl (hY i _ hx) (hK _) hE rfl ?_ ?_
   ·refine Vm.rn xRSet ?_
    refine ih (i+1,k,a,m) _ (by dsimp only;omega) ⟨by rw [← List.drop_drop,hb2];rfl,by dsimp only;omega,by dsimp only;omega,by
     have:=congrArg List.length hb2;simp only [List.length_drop,List.length_cons] at this;dsimp only;omega⟩ ?_
    exact Vm.lx (Vm.cl (ai xRSet<|ai @hnl @hbl))
   ·refine Vm.rn xRSet ?_;refine Vm.rm (Vm.s1 xRSet ?_);exact .inr trivial
 ·have e:bs r k a b=[]:=by
   cases k with
   | zero=>rfl
   | succ k=>simp only [bs,if_neg (show ¬ a<b by omega)]
  have ei:i=(bs r n 0 n).length:=by
   have:=congrArg List.length (h1.trans e);rw [List.length_drop] at this;simp at this;omega
  refine Vm.rn xRSet ?_;refine Vm.rm (Vm.s1 (ai xRSet @List.length_map.{0,0}) ?_);rw [ei];exact .inl rfl
theorem find1_v (l:List Int) (x:Int) (m:Nat) (hm:m<l.length):Vm.VC T 207 [.atom (.int .i64 m),.iptr [.imm 1 (l.map dI)] 0,.iptr [.atom (.int .i64 x)] 0] fun d=>d=.atom (.bool (decide (l.getD m 0<x))):=by
 refine Vm.ve (T:=T) Tryz.func207 fun g hB hG0 hU=>?_;simp only [Tryz.f207,Vm.aC,Vm.aN,Nat.reduceAdd];have hx:=dI_get hm;refine Vm.rn xRSet ?_;refine Vm.dw 7 [0,1,2,3,4,5,6] ?_;refine Vm.rn (ai xRSet<|ai @hx @dI.eq_1) ?_;exact Vm.rx (Vm.cl xRSet)
def bsL (l:List Int) (x:Int):List (Nat×Nat):=bs (fun m=>decide (l.getD m 0<x)) l.length 0 l.length
def atS (l:List Int) (x:Int) (i:Nat):Nat:=(((bsL l x).take i).getLast?.map (·.1)).getD 0
def findS (l:List Int) (x:Int):Nat:=atS l x (bsL l x).length
def isS (l:List Int) (x:Int):Bool:=decide (findS l x<l.length) && decide (l.getD (findS l x) 0=x)
theorem atS_step {l:List Int} {x:Int} {i:Nat} {p:Nat×Nat} (h:(bsL l x)[i]?=some p):atS l x (i+1)=p.1:=by
 simp only [atS,List.take_add_one,h,Option.toList_some,List.getLast?_append,List.getLast?_singleton,Option.some_or,Option.map_some,Option.getD_some]
theorem sfind_v (l:List Int) (x:Int) (hl:l.length<1000000000):Vm.VC T 197 [.imm 1 (l.map dI),.atom (.int .i64 x)] fun d=>d=.tuple [.atom (.int .i64 (findS l x)),.atom (.bool (isS l x))]:=by
 have hg:=halves1_v l.length hl (f:=207) (caps:=[.iptr [.imm 1 (l.map dI)] 0,.iptr [.atom (.int .i64 x)] 0]) (r:=fun m=>decide (l.getD m 0<x)) (fun _=>rfl) rfl rfl rfl (fun m hm=>find1_v l x m hm);refine Vm.ve (T:=T) Tryz.func197 fun g hB hG0 hU=>?_;simp only [Tryz.f197,Vm.aC,Vm.aN,Nat.reduceAdd];refine Vm.r1 xRSet ?_;refine Vm.r1 xRSet ?_;refine Vm.r1 xRSet ?_;refine Vm.r1 xRSet ?_;refine Vm.r1 xRSet ?_;refine Vm.fy 0 xRSet ?_;refine Vm.fy 1 xRSet ?_;refine Vm.rn xRSet ?_;refine Vm.vw (T:=T) Tryz.func206 fun _ hGi hUi=>?_;simp only [Tryz.f206,Vm.aC,Vm.aN,Nat.reduceAdd];refine Vm.rn xRSet ?_;refine Vm.rm (Vm.s1 xRSet ?_);refine Vm.rn xRSet ?_;refine Vm.sk_range [3,4] (hg) rfl (by assumption) (fun i so=>so=[.dead,.dead,.cell [.atom (.int .i64 (atS l x i))],.dead,.dead]) (fun e so=>False) (by exact rfl) (by decide) (by first | exact ⟨rfl,rfl,trivial⟩ | exact ⟨rfl,rfl,rfl,rfl,trivial⟩ | exact ⟨rfl,rfl,rfl,rfl,rfl,rfl,trivial⟩) ?_ ?_ ?_ ?_ ?_
 ·intro x hx;obtain ⟨p,_,rfl⟩:=List.mem_map.1 hx
  rfl
 ·rfl
 ·rintro i y so' hx rfl;intro g2 hU2 hr2 hL2;rw [Vm.putAllD_so] at hL2;rw [List.getElem?_map,Option.map_eq_some_iff] at hx;obtain ⟨p,hp,rfl⟩:=hx;rw [atS_step hp];refine Vm.rn (ai xRSet<|ai @dN.eq_1<|ai @List.zip_cons_cons.{0,0}<|ai @List.zip_nil_left.{0,0}<|ai @Vm.putAllD_cons @Vm.putAllD_nil) ?_;refine Vm.mid_ok fun g3 hU3 hr3 hL3=>?_;refine Vm.rn (ai xRSet @Vm.overD.eq_1) ?_;exact Vm.end_normal rfl
 ·rintro so' rfl;rw [List.length_map,show (bs (fun m=>decide (l.getD m 0<x)) l.length 0 l.length)=bsL l x from rfl,show atS l x (bsL l x).length=findS l x from rfl]
  by_cases hlt:findS l x<l.length
  ·have h1:=dI_get hlt;have h2:(findS l x:Int)<(l.length:Int):=by omega
   refine Vm.rn xRSet ?_;refine Vm.dw 15 [0,1,2,3,4,5,6,7,8,9,10,11,12,13,14] ?_;refine Vm.rn (ai xRSet<|ai @h1<|ai @dI.eq_1 @h2) ?_;exact Vm.rx (Vm.cl (ai xRSet<|ai @isS.eq_1 @hlt))
  ·have h2:¬ (findS l x:Int)<(l.length:Int):=by omega
   refine Vm.rn xRSet ?_;refine Vm.dw 15 [0,1,2,3,4,5,6,7,8,9,10,11,12,13,14] ?_;refine Vm.rn (ai xRSet @h2) ?_;exact Vm.rx (Vm.cl (ai xRSet<|ai @isS.eq_1 @hlt))
 ·rintro e so' h;exact h.elim
/-! ### In lists that rise -/
theorem bs_end {r:Nat→Bool} {n:Nat}:∀ (k a b:Nat),b - a≤k→a≤b→b≤n→(∀ j,j<a→r j=true)→(∀ j,b≤j→j<n→r j=false)→(∀ i j,i≤j→j<n→r j=true→r i=true) →
  (bs r k a b=[]∧a=b)∨∃ p,(bs r k a b).getLast?=some p∧p.1≤n∧(∀ j,j<p.1→r j=true)∧∀ j,p.1≤j→j<n→r j=false:=by
 intro k
 induction k with
 | zero=>intro a b h1 h2 h3 h4 h5 h6;exact .inl ⟨rfl,by omega⟩
 | succ k ih =>
   intro a b h1 h2 h3 h4 h5 h6
   by_cases hab:a<b
   ·right
    simp only [bs,if_pos hab];generalize hm:(a+b) / 2=m;have hma:a≤m∧m<b:=by omega
    cases hr:r m with
    | true =>
      simp only [if_true];rcases ih (m+1) b (by omega) (by omega) h3 (fun j hj=>h6 j m (by omega) (by omega) hr) h5 h6 with ⟨e,e2⟩ | ⟨p,hp,q⟩
      ·refine ⟨(m+1,b),by rw [e];rfl,by dsimp only;omega,fun j hj=>h6 j m (by dsimp only at hj;omega) (by omega) hr,fun j hj hn=>h5 j (by dsimp only at hj;omega) hn⟩
      ·exact ⟨p,by rw [List.getLast?_cons,hp];rfl,q⟩
    | false =>
      simp only [Bool.false_eq_true,if_false]
      have hf:∀ j,m≤j→j<n→r j=false:=fun j hj hn=>by
       cases hrj:r j with
       | false=>rfl
       | true=>have:=h6 m j hj hn hrj;rw [hr] at this;cases this
      rcases ih a m (by omega) (by omega) (by omega) h4 hf h6 with ⟨e,e2⟩ | ⟨p,hp,q⟩
      ·refine ⟨(a,m),by rw [e];rfl,by dsimp only;omega,h4,fun j hj hn=>hf j (by dsimp only at hj;omega) hn⟩
      ·exact ⟨p,by rw [List.getLast?_cons,hp];rfl,q⟩
   ·exact .inl ⟨by simp only [bs,if_neg hab],by omega⟩
theorem rises_mono {l:List Int} (h:Rises l 1):∀ {i j:Nat},i<j→j<l.length→l.getD i 0<l.getD j 0:=by
 intro i j hij
 induction j with
 | zero=>omega
 | succ j ih =>
   intro hj;have h1:=h j (by simpa using hj);simp only [Nat.mul_one] at h1;rcases Nat.lt_or_ge i j with h2 | h2
   ·have:=ih h2 (by omega);omega
   ·have:i=j:=by omega
    subst this;exact h1
theorem findS_rises {l:List Int} {x:Int} (h:Rises l 1):findS l x≤l.length∧(∀ j,j<findS l x→l.getD j 0<x)∧∀ j,findS l x≤j→j<l.length→x≤l.getD j 0:=by
 have hb:=bs_end (r:=fun m=>decide (l.getD m 0<x)) (n:=l.length) l.length 0 l.length (by omega) (by omega) (Nat.le_refl _) (fun j hj=>by omega) (fun j h1 h2=>by omega) (fun i j hij hj hr=>by
  simp only [decide_eq_true_eq] at hr ⊢;rcases Nat.lt_or_ge i j with h2 | h2
  ·have:=rises_mono h h2 hj;omega
  ·have:i=j:=by omega
   subst this;exact hr)
 have e:findS l x=(((bsL l x)).getLast?.map (·.1)).getD 0:=by simp [findS,atS,List.take_length]
 rcases hb with ⟨e1,e2⟩ | ⟨p,hp,h1,h2,h3⟩
 ·have:findS l x=0:=by rw [e];simp only [bsL,e1];rfl
  rw [this];exact ⟨by omega,fun j hj=>by omega,fun j _ hj=>by omega⟩
 ·have:findS l x=p.1:=by rw [e];simp only [bsL,hp];rfl
  rw [this];exact ⟨h1,fun j hj=>by simpa using h2 j hj,fun j hj hn=>by simpa using h3 j hj hn⟩
set_option linter.defProp false in
def xRSet2:=ai @nlR_dI<|ai @Vm.nlR_append @Vm.dl8
theorem bs_le {r:Nat→Bool} {n:Nat}:∀ (k a b:Nat),b≤n→∀ p,p∈bs r k a b→p.1≤n:=by
 intro k
 induction k with
 | zero=>intro a b h p hp;cases hp
 | succ k ih =>
   intro a b h p hp;simp only [bs] at hp;split at hp
   ·rename_i hab;split at hp
    ·rcases List.mem_cons.1 hp with rfl | hp
     ·dsimp only;omega
     ·exact ih _ _ h p hp
    ·rcases List.mem_cons.1 hp with rfl | hp
     ·dsimp only;omega
     ·exact ih _ _ (by omega) p hp
   ·cases hp
theorem findS_le (l:List Int) (x:Int):findS l x≤l.length:=by
 have e:findS l x=(((bsL l x)).getLast?.map (·.1)).getD 0:=by simp [findS,atS,List.take_length]
 rw [e]
 cases hq:(bsL l x).getLast? with
 | none=>simp
 | some p =>
   have:=bs_le (r:=fun m=>decide (l.getD m 0<x)) (n:=l.length) l.length 0 l.length (Nat.le_refl _) p (List.mem_of_getLast? hq);simpa using this
def insS (l:List Int) (x:Int):List Int:=if isS l x=true then l else l.take (findS l x)++x::l.drop (findS l x)
def remS (l:List Int) (x:Int):List Int:=if isS l x=true then l.take (findS l x)++l.drop (findS l x+1) else l
theorem with_v (l:List Int) (x:Int) (hl:l.length<1000000000):Vm.VC T 198 [.imm 1 (l.map dI),.atom (.int .i64 x)] fun d=>d=.fresh 1 ((insS l x).map dI):=by
 refine Vm.ve (T:=T) Tryz.func198 fun g hB hG0 hU=>?_;simp only [Tryz.f198,Vm.aC,Vm.aN,Nat.reduceAdd];refine Vm.rn xRSet2 ?_;refine Vm.cq xRSet2 (sfind_v l x hl) ?_;have hfl:=findS_le l x
 cases hi:isS l x with
 | true =>
   refine Vm.rn (ai xRSet2 @hi) ?_;refine Vm.cq xRSet2 (cloneI_v (es:=l.map dI) (by simpa using hl)) ?_;exact Vm.rx (Vm.cl (ai xRSet2<|ai @insS.eq_1 @hi))
 | false =>
   refine Vm.rn (ai xRSet2 @hi) ?_;refine Vm.cq (ai xRSet2 @dI.eq_1) (cloneI_v (es:=l.map dI) (by simpa using hl)) ?_;refine Vm.call_mut (R:=?vR1) ?vh1 ?vk1
   case vh1=>refine Vm.ins_v (T:=T) (f:=208) (xs:=l) (x:=x) (i:=findS l x) (k:=0) (j:=1) rfl ?_ ?_ (by decide) (by omega) hfl <;> rfl
   rintro d s ⟨hd,rfl⟩;subst hd;have hle:(List.map (fun z=>[Vm.D.atom (V.int IntKind.i64 z)]) (List.take (findS l x) l++x::List.drop (findS l x) l)).length=l.length+1:=by simp;omega
   have hnr:Vm.nlR (List.map (fun z=>[Vm.D.atom (V.int IntKind.i64 z)]) (List.take (findS l x) l++x::List.drop (findS l x) l))=true:=Vm.nlR_map (fun x=>rfl) _;have hpr:Vm.prLL (List.map (fun z=>[Vm.D.atom (V.int IntKind.i64 z)]) (List.take (findS l x) l++x::List.drop (findS l x) l))=true:=Vm.prLL_map (fun x=>rfl) _;have hnf:Vm.nfR (List.map (fun z=>[Vm.D.atom (V.int IntKind.i64 z)]) (List.take (findS l x) l++x::List.drop (findS l x) l))=true:=Vm.nfR_map (fun x=>rfl) _;have e:(insS l x).map dI=List.map (fun z=>[Vm.D.atom (V.int IntKind.i64 z)]) (List.take (findS l x) l++x::List.drop (findS l x) l):=by rw [insS,hi];rfl
   rw [e];refine Vm.rn (ai xRSet2 @hle) ?_;exact Vm.rx (Vm.cl (ai xRSet2 @hle))
theorem without_v (l:List Int) (x:Int) (hl:l.length<1000000000):Vm.VC T 200 [.imm 1 (l.map dI),.atom (.int .i64 x)] fun d=>d=.fresh 1 ((remS l x).map dI):=by
 refine Vm.ve (T:=T) Tryz.func200 fun g hB hG0 hU=>?_;simp only [Tryz.f200,Vm.aC,Vm.aN,Nat.reduceAdd];refine Vm.rn xRSet2 ?_;refine Vm.cq xRSet2 (sfind_v l x hl) ?_
 cases hi:isS l x with
 | false =>
   refine Vm.rn (ai xRSet2 @hi) ?_;refine Vm.cq xRSet2 (cloneI_v (es:=l.map dI) (by simpa using hl)) ?_;exact Vm.rx (Vm.cl (ai xRSet2<|ai @remS.eq_1 @hi))
 | true =>
   have hlt:findS l x<l.length:=by simp [isS] at hi;exact hi.1
   refine Vm.rn (ai xRSet2 @hi) ?_;refine Vm.cq (ai xRSet2 @dI.eq_1) (cloneI_v (es:=l.map dI) (by simpa using hl)) ?_;refine Vm.call_mut (R:=?vR2) ?vh2 ?vk2
   case vh2=>refine Vm.del_v (T:=T) (f:=209) (xs:=l) (i:=findS l x) (j:=findS l x+1) (k:=0) rfl ?_ (by omega) (by omega) (by omega) (by omega) <;> rfl
   rintro d s ⟨hd,rfl⟩;subst hd;have hle:(List.map (fun z=>[Vm.D.atom (V.int IntKind.i64 z)]) (List.take (findS l x) l++List.drop (findS l x+1) l)).length=l.length - 1:=by simp;omega
   have hnr:Vm.nlR (List.map (fun z=>[Vm.D.atom (V.int IntKind.i64 z)]) (List.take (findS l x) l++List.drop (findS l x+1) l))=true:=Vm.nlR_map (fun x=>rfl) _;have hpr:Vm.prLL (List.map (fun z=>[Vm.D.atom (V.int IntKind.i64 z)]) (List.take (findS l x) l++List.drop (findS l x+1) l))=true:=Vm.prLL_map (fun x=>rfl) _;have e:(remS l x).map dI=List.map (fun z=>[Vm.D.atom (V.int IntKind.i64 z)]) (List.take (findS l x) l++List.drop (findS l x+1) l):=by rw [remS,hi];rfl
   have e3:findS l x+1 - findS l x=1:=by omega
   rw [e,e3];refine Vm.rn (ai xRSet2 @hle) ?_;exact Vm.rx (Vm.cl (ai xRSet2 @hle))
def bi (b:Bool):Int:=if b=true then 1 else 0
theorem stold_v (b:Bool):Vm.VC T 199 [.atom (.bool b)] fun d=>d=.atom (.int .i64 (bi b)):=by
 refine Vm.ve (T:=T) Tryz.func199 fun g hB hG0 hU=>?_;simp only [Tryz.f199,Vm.aC,Vm.aN,Nat.reduceAdd]
 cases b with
 | true =>
   refine Vm.rn xRSet2 ?_;exact Vm.rx (Vm.cl (ai xRSet2 @bi.eq_1))
 | false =>
   refine Vm.rn xRSet2 ?_;exact Vm.rx (Vm.cl (ai xRSet2 @bi.eq_1))
def dSet (l:List Int) (n:Int):Vm.D:=.tuple [.fresh 1 (l.map dI),.atom (.int .i64 n)]
theorem sinsert_v (l:List Int) (x:Int) (hl:l.length<1000000000):Vm.VC T 172 [.imm 1 (l.map dI),.atom (.int .i64 x)] fun d=>d=dSet (insS l x) (bi (!isS l x)):=by
 refine Vm.ve (T:=T) Tryz.func172 fun g hB hG0 hU=>?_;simp only [Tryz.f172,Vm.aC,Vm.aN,Nat.reduceAdd];refine Vm.rn xRSet2 ?_;refine Vm.cq xRSet2 (sfind_v l x hl) ?_;refine Vm.cq xRSet2 (with_v l x hl) ?_;refine Vm.cq xRSet2 (stold_v (!isS l x)) ?_;exact Vm.rx (Vm.cl (ai xRSet2 @dSet.eq_1))
theorem sremove_v (l:List Int) (x:Int) (hl:l.length<1000000000):Vm.VC T 173 [.imm 1 (l.map dI),.atom (.int .i64 x)] fun d=>d=dSet (remS l x) (bi (isS l x)):=by
 refine Vm.ve (T:=T) Tryz.func173 fun g hB hG0 hU=>?_;simp only [Tryz.f173,Vm.aC,Vm.aN,Nat.reduceAdd];refine Vm.rn xRSet2 ?_;refine Vm.cq xRSet2 (sfind_v l x hl) ?_;refine Vm.cq xRSet2 (without_v l x hl) ?_;refine Vm.cq xRSet2 (stold_v (isS l x)) ?_;exact Vm.rx (Vm.cl (ai xRSet2 @dSet.eq_1))
theorem shas_v (l:List Int) (x:Int) (hl:l.length<1000000000):Vm.VC T 174 [.imm 1 (l.map dI),.atom (.int .i64 x)] fun d=>d=dSet l (bi (isS l x)):=by
 refine Vm.ve (T:=T) Tryz.func174 fun g hB hG0 hU=>?_;simp only [Tryz.f174,Vm.aC,Vm.aN,Nat.reduceAdd];refine Vm.rn xRSet2 ?_;refine Vm.cq xRSet2 (sfind_v l x hl) ?_;refine Vm.cq xRSet2 (cloneL_v (es:=l.map dI) (by simpa using hl)) ?_;refine Vm.cq xRSet2 (stold_v (isS l x)) ?_;exact Vm.rx (Vm.cl (ai xRSet2 @dSet.eq_1))
theorem ssize_v (l:List Int) (x:Int) (hl:l.length<1000000000):Vm.VC T 175 [.imm 1 (l.map dI),.atom (.int .i64 x)] fun d=>d=dSet l l.length:=by
 refine Vm.ve (T:=T) Tryz.func175 fun g hB hG0 hU=>?_;simp only [Tryz.f175,Vm.aC,Vm.aN,Nat.reduceAdd];refine Vm.rn xRSet2 ?_;refine Vm.cq xRSet2 (cloneL_v (es:=l.map dI) (by simpa using hl)) ?_;exact Vm.rx (Vm.cl (ai xRSet2 @dSet.eq_1))
noncomputable def appS (s:Sta) (k a b:Int):Ans:=
 if s.t≠2∨checkS s≠0 then bad 12 else if k<3∨6<k then bad 6 else if b≠0∨(k=6∧a≠0) then bad 2
 else if k=3 then ⟨⟨2,0,insS s.l a⟩,⟨2,bi (!isS s.l a)⟩,0⟩ else if k=4 then ⟨⟨2,0,remS s.l a⟩,⟨2,bi (isS s.l a)⟩,0⟩
 else if k=5 then ⟨⟨2,0,s.l⟩,⟨2,bi (isS s.l a)⟩,0⟩ else ⟨⟨2,0,s.l⟩,⟨2,s.l.length⟩,0⟩
theorem set_v (s:Sta) (k a b:Int) (hl:s.l.length<1000000000):Vm.VC T 161 [.agg (dS s),.atom (.int .i64 k),.atom (.int .i64 a),.atom (.int .i64 b)] fun d=>d=dAns (appS s k a b):=by
 refine Vm.VC.dl ?_;refine Vm.ve (T:=T) Tryz.func161 fun g hB hG0 hU=>?_;simp only [Tryz.f161,Vm.aC,Vm.aN,Nat.reduceAdd];obtain ⟨t,n,l⟩:=s;dsimp only at hl
 by_cases h1:t=2
 ·subst h1;refine Vm.rn (ai xRSet2 @dS.eq_1) ?_;refine Vm.cq (ai xRSet2 @dS.eq_1) (check_v ⟨2,n,l⟩ hl) ?_;refine Vm.sb_dec (fun h2=>?_) (fun h2=>?_)
  ·refine Vm.rn (ai xRSet2 @Vm.overD.eq_1) ?_;refine Vm.rz xRSet2 ?_;rw [show appS ⟨2,n,l⟩ k a b=bad 12 from by simp [appS,h2]];simp [dAns,bad,z0,r0,dF,dR,Vm.dl8]
  by_cases h3:k<3
  ·refine Vm.rn (ai xRSet2<|ai @h3 @Vm.overD.eq_1) ?_;refine Vm.rz xRSet2 ?_;rw [show appS ⟨2,n,l⟩ k a b=bad 6 from by simp [appS,h2,h3]];simp [dAns,bad,z0,r0,dF,dR,Vm.dl8]
  by_cases h4:6<k
  ·refine Vm.rn (ai xRSet2<|ai @h3<|ai @h4 @Vm.overD.eq_1) ?_;refine Vm.rz xRSet2 ?_;rw [show appS ⟨2,n,l⟩ k a b=bad 6 from by simp [appS,h2,h3,h4]];simp [dAns,bad,z0,r0,dF,dR,Vm.dl8]
  by_cases h5:b=0
  ·subst h5;have hc:k=3∨k=4∨k=5∨k=6:=by omega
   rcases hc with rfl | rfl | rfl | rfl
   ·refine Vm.rn (ai xRSet2 @Vm.overD.eq_1) ?_;refine Vm.fy 0 (ai xRSet2 @fz_I) ?_;refine Vm.dw 13 [0,1,2,3,4,5,6,7,8,9,10,11,12] ?_;refine Vm.rn xRSet2 ?_;refine Vm.cq (ai xRSet2<|ai @dSet.eq_1 @Vm.overD.eq_1) (sinsert_v l a hl) ?_;refine Vm.rn (ai xRSet2 @Vm.overD.eq_1) ?_;refine Vm.rz xRSet2 ?_;rw [show appS ⟨2,n,l⟩ 3 a 0=⟨⟨2,0,insS l a⟩,⟨2,bi (!isS l a)⟩,0⟩ from by simp [appS,h2]];simp [dAns,bad,z0,r0,dF,dR,Vm.dl8]
   ·refine Vm.rn (ai xRSet2 @Vm.overD.eq_1) ?_;refine Vm.fy 0 (ai xRSet2 @fz_I) ?_;refine Vm.dw 13 [0,1,2,3,4,5,6,7,8,9,10,11,12] ?_;refine Vm.rn xRSet2 ?_;refine Vm.cq (ai xRSet2<|ai @dSet.eq_1 @Vm.overD.eq_1) (sremove_v l a hl) ?_;refine Vm.rn (ai xRSet2 @Vm.overD.eq_1) ?_;refine Vm.rz xRSet2 ?_;rw [show appS ⟨2,n,l⟩ 4 a 0=⟨⟨2,0,remS l a⟩,⟨2,bi (isS l a)⟩,0⟩ from by simp [appS,h2]];simp [dAns,bad,z0,r0,dF,dR,Vm.dl8]
   ·refine Vm.rn (ai xRSet2 @Vm.overD.eq_1) ?_;refine Vm.fy 0 (ai xRSet2 @fz_I) ?_;refine Vm.dw 13 [0,1,2,3,4,5,6,7,8,9,10,11,12] ?_;refine Vm.rn xRSet2 ?_;refine Vm.cq (ai xRSet2<|ai @dSet.eq_1 @Vm.overD.eq_1) (shas_v l a hl) ?_;refine Vm.rn (ai xRSet2 @Vm.overD.eq_1) ?_;refine Vm.rz xRSet2 ?_;rw [show appS ⟨2,n,l⟩ 5 a 0=⟨⟨2,0,l⟩,⟨2,bi (isS l a)⟩,0⟩ from by simp [appS,h2]];simp [dAns,bad,z0,r0,dF,dR,Vm.dl8]
   ·by_cases h6:a=0
    ·subst h6;refine Vm.rn (ai xRSet2 @Vm.overD.eq_1) ?_;refine Vm.fy 0 (ai xRSet2 @fz_I) ?_;refine Vm.dw 13 [0,1,2,3,4,5,6,7,8,9,10,11,12] ?_;refine Vm.rn xRSet2 ?_;refine Vm.cq (ai xRSet2<|ai @dSet.eq_1 @Vm.overD.eq_1) (ssize_v l 0 hl) ?_;refine Vm.rn (ai xRSet2 @Vm.overD.eq_1) ?_;refine Vm.rz xRSet2 ?_;rw [show appS ⟨2,n,l⟩ 6 0 0=⟨⟨2,0,l⟩,⟨2,l.length⟩,0⟩ from by simp [appS,h2]];simp [dAns,bad,z0,r0,dF,dR,Vm.dl8]
    ·refine Vm.rn (ai xRSet2<|ai @h6 @Vm.overD.eq_1) ?_;refine Vm.rz xRSet2 ?_;rw [show appS ⟨2,n,l⟩ 6 a 0=bad 2 from by simp [appS,h2,h6]];simp [dAns,bad,z0,r0,dF,dR,Vm.dl8]
  ·refine Vm.rn (ai xRSet2<|ai @h3<|ai @h4<|ai @h5 @Vm.overD.eq_1) ?_;refine Vm.rz xRSet2 ?_;rw [show appS ⟨2,n,l⟩ k a b=bad 2 from by simp [appS,h2,h3,h4,h5]];simp [dAns,bad,z0,r0,dF,dR,Vm.dl8]
 ·refine Vm.rn (ai xRSet2<|ai @dS.eq_1<|ai @h1 @Vm.overD.eq_1) ?_;refine Vm.rz xRSet2 ?_;rw [show appS ⟨t,n,l⟩ k a b=bad 12 from by simp [appS,h1]];simp [dAns,bad,z0,r0,dF,dR,Vm.dl8]
set_option linter.defProp false in
def xRSet3:=ai @nlR_dI<|ai @Vm.nlR_append @Vm.dl8
def recW (x:Int):Bool→List Int→List Int
 | put,[]=>if put=true then [] else [x]
 | put,y::ys=>if put=false∧x≤y then x::(if y≠x then y::recW x true ys else recW x true ys) else if y≠x then y::recW x put ys else recW x put ys
theorem recW_true (x:Int):∀ ys:List Int,(∀ y,y∈ys→x<y)→recW x true ys=ys
 | [],_=>rfl
 | y::ys,h=>by
   have h1:=h y (by simp);have h2:y≠x:=by omega
   simp [recW,h2,recW_true x ys fun z hz=>h z (by simp [hz])]
theorem recW_low (x:Int):∀ A B:List Int,(∀ y,y∈A→y<x)→recW x false (A++B)=A++recW x false B
 | [],B,_=>rfl
 | y::A,B,h=>by
   have h1:=h y (by simp);have h2:y≠x:=by omega
   have h3:¬ x≤y:=by omega
   simp [recW,h2,h3,recW_low x A B fun z hz=>h z (by simp [hz])]
theorem set_split {l:List Int} (x:Int) (h:Rises l 1):(∀ y,y∈l.take (findS l x)→y<x)∧((l.drop (findS l x)=[]∧isS l x=false) ∨
  ∃ y ys,l.drop (findS l x)=y::ys∧x≤y∧(∀ z,z∈ys→x<z)∧isS l x=decide (y=x)∧l.drop (findS l x+1)=ys):=by
 obtain ⟨h1,h2,h3⟩:=findS_rises (x:=x) h;refine ⟨fun y hy=>?_,?_⟩
 ·obtain ⟨i,hi,rfl⟩:=List.mem_iff_getElem.1 hy;rw [List.length_take] at hi;have:=h2 i (by omega);rw [List.getD_eq_getElem?_getD,List.getElem?_eq_getElem (by omega)] at this;simpa using this
 ·by_cases hlt:findS l x<l.length
  ·right
   have hg:l.getD (findS l x) 0=l[findS l x]:=by rw [List.getD_eq_getElem?_getD,List.getElem?_eq_getElem hlt];rfl
   have h4:=h3 _ (Nat.le_refl _) hlt;rw [hg] at h4;refine ⟨l[findS l x],l.drop (findS l x+1),List.drop_eq_getElem_cons hlt,h4,fun z hz=>?_,?_,rfl⟩
   ·obtain ⟨i,hi,rfl⟩:=List.mem_iff_getElem.1 hz;rw [List.length_drop] at hi;have:=rises_mono h (i:=findS l x) (j:=findS l x+1+i) (by omega) (by omega);rw [hg,List.getD_eq_getElem?_getD,List.getElem?_eq_getElem (show findS l x+1+i<l.length by omega)] at this;simp only [List.getElem_drop,Option.getD_some] at this ⊢;omega
   ·simp only [isS,hlt,decide_true,Bool.true_and,hg]
  ·left
   refine ⟨List.drop_of_length_le (by omega),by simp [isS,hlt]⟩
theorem recW_ins {l:List Int} (x:Int) (h:Rises l 1):recW x false l=insS l x:=by
 obtain ⟨h1,h2⟩:=set_split x h;have e:l=l.take (findS l x)++l.drop (findS l x):=(List.take_append_drop _ _).symm
 conv=>lhs;rw [e]
 rw [recW_low x _ _ h1,insS];rcases h2 with ⟨e1,e2⟩ | ⟨y,ys,e1,h3,h4,h5,h6⟩
 ·rw [e1,e2];rfl
 ·rw [e1,h5];simp only [recW,h3,and_self,if_true,decide_eq_true_eq,recW_true x ys h4]
  by_cases hy:y=x
  ·subst hy;simp only [ne_eq,not_true_eq_false,if_false,if_true];rw [← e1];exact e.symm
  ·simp only [ne_eq,hy,not_false_eq_true,if_true,if_false]
theorem filt_rem {l:List Int} (x:Int) (h:Rises l 1):l.filter (fun y=>decide (y≠x))=remS l x:=by
 obtain ⟨h1,h2⟩:=set_split x h;have e:l=l.take (findS l x)++l.drop (findS l x):=(List.take_append_drop _ _).symm;have ea:(l.take (findS l x)).filter (fun y=>decide (y≠x))=l.take (findS l x):=List.filter_eq_self.2 fun y hy=>by have:=h1 y hy;simp;omega
 conv=>lhs;rw [e]
 rw [List.filter_append,ea,remS];rcases h2 with ⟨e1,e2⟩ | ⟨y,ys,e1,h3,h4,h5,h6⟩
 ·rw [e1,e2];simp only [List.filter_nil,Bool.false_eq_true,if_false];rw [← e1];exact e.symm
 ·have ey:ys.filter (fun y=>decide (y≠x))=ys:=List.filter_eq_self.2 fun y hy=>by have:=h4 y hy;simp;omega
  rw [e1,h5,List.filter_cons,ey,h6]
  by_cases hy:y=x
  ·simp [hy]
  ·simp only [ne_eq,hy,not_false_eq_true,decide_true,if_true,decide_false,Bool.false_eq_true,if_false];rw [← e1];exact e.symm
theorem any_is {l:List Int} (x:Int) (h:Rises l 1):(l.any fun y=>decide (y=x))=isS l x:=by
 obtain ⟨h1,h2⟩:=set_split x h;have e:l=l.take (findS l x)++l.drop (findS l x):=(List.take_append_drop _ _).symm
 have ea:((l.take (findS l x)).any fun y=>decide (y=x))=false:=by
  rw [List.any_eq_false];intro y hy;have:=h1 y hy;simp;omega
 conv=>lhs;rw [e]
 rw [List.any_append,ea,Bool.false_or];rcases h2 with ⟨e1,e2⟩ | ⟨y,ys,e1,h3,h4,h5,h6⟩
 ·rw [e1,e2];rfl
 ·have ey:(ys.any fun y=>decide (y=x))=false:=by
   rw [List.any_eq_false];intro y hy;have:=h4 y hy;simp;omega
  rw [e1,h5,List.any_cons,ey,Bool.or_false]
theorem dI_at {l:List Int} {i:Nat} (h:i<l.length):∃ y,l[i]?=some y∧(l.map dI)[i]?=some (dI y):=⟨l[i],List.getElem?_eq_getElem h,by rw [List.getElem?_map,List.getElem?_eq_getElem h];rfl⟩
theorem drop_at {α:Type} {l:List α} {i:Nat} {y:α} (h:l[i]?=some y):l.drop i=y::l.drop (i+1):=by
 have hlt:i<l.length:=by
  rcases Nat.lt_or_ge i l.length with h2 | h2
  ·exact h2
  ·rw [List.getElem?_eq_none h2] at h;cases h
 rw [List.getElem?_eq_getElem hlt] at h;rw [List.drop_eq_getElem_cons hlt,Option.some.inj h]
theorem take_at {α:Type} {l:List α} {i:Nat} {y:α} (h:l[i]?=some y):l.take (i+1)=l.take i++[y]:=by rw [List.take_add_one,h];rfl
def cntS (l:List Int) (x:Int):Nat:=(l.filter fun y=>decide (y<x)).length
theorem rsfind_v (l:List Int) (x:Int) (hl:l.length<1000000000):Vm.VC T 143 [.imm 1 (l.map dI),.atom (.int .i64 x)] fun d=>d=.tuple [.atom (.int .i64 (cntS l x)),.atom (.bool (l.any fun y=>decide (y=x)))]:=by
 refine Vm.ve (T:=T) Tryz.func143 fun g hB hG0 hU=>?_;simp only [Tryz.f143,Vm.aC,Vm.aN,Nat.reduceAdd];refine Vm.rn xRSet3 ?_;refine Vm.sk_loop (fun i:Nat=>l.length - i) (fun i=>⟨[(8,.atom (.int .i64 i)),(6,.atom (.int .i64 (cntS (l.take i) x))),(7,.atom (.bool ((l.take i).any fun y=>decide (y=x)))),(0,.imm 1 (l.map dI)),(1,.atom (.int .i64 x))],[],34⟩) (fun i=>i≤l.length) 0 ?_ (Nat.zero_le _) ?_
 ·exact Vm.lx (Vm.cl (ai xRSet3<|ai @List.take_zero.{0}<|ai @cntS.eq_1<|ai @List.filter_nil.{0} @List.any_nil.{0}))
 intro i hi ih
 have hcb:cntS (l.take i) x≤i:=by
  have:=List.length_filter_le (fun y:Int=>decide (y<x)) (l.take i);rw [List.length_take] at this;simp only [cntS];omega
 refine Vm.rn xRSet3 ?_;refine Vm.sb_dec (fun hlt=>?_) (fun hge=>?_)
 ·obtain ⟨y,hy,hyd⟩:=dI_at (l:=l) (i:=i) (by omega);have et:=take_at hy
  have ec:cntS (l.take (i+1)) x=cntS (l.take i) x+(if y<x then 1 else 0):=by
   rw [et];simp only [cntS,List.filter_append,List.length_append,List.filter_cons,List.filter_nil,decide_eq_true_eq];split <;> rfl
  have ea:((l.take (i+1)).any fun y=>decide (y=x))=(((l.take i).any fun y=>decide (y=x)) || decide (y=x)):=by
   rw [et];simp only [List.any_append,List.any_cons,List.any_nil,Bool.or_false]
  refine Vm.rn (ai xRSet3<|ai @hyd @dI.eq_1) ?_
  by_cases hc:y<x
  ·cases hb:(l.take i).any fun y=>decide (y=x) with
   | true =>
     rw [hb] at ea;refine Vm.rn (ai xRSet3<|ai @hyd<|ai @dI.eq_1 @hc) ?_;refine ih (i+1) _ (by dsimp only;omega) (by omega) ?_;exact Vm.lx (Vm.cl (ai xRSet3<|ai @ec<|ai @ea @hc))
   | false =>
     rw [hb] at ea;refine Vm.rn (ai xRSet3<|ai @hyd<|ai @dI.eq_1 @hc) ?_;refine ih (i+1) _ (by dsimp only;omega) (by omega) ?_;exact Vm.lx (Vm.cl (ai xRSet3<|ai @ec<|ai @ea @hc))
  ·cases hb:(l.take i).any fun y=>decide (y=x) with
   | true =>
     rw [hb] at ea;refine Vm.rn (ai xRSet3<|ai @hyd<|ai @dI.eq_1 @hc) ?_;refine ih (i+1) _ (by dsimp only;omega) (by omega) ?_;exact Vm.lx (Vm.cl (ai xRSet3<|ai @ec<|ai @ea @hc))
   | false =>
     rw [hb] at ea;refine Vm.rn (ai xRSet3<|ai @hyd<|ai @dI.eq_1 @hc) ?_;refine ih (i+1) _ (by dsimp only;omega) (by omega) ?_;exact Vm.lx (Vm.cl (ai xRSet3<|ai @ec<|ai @ea @hc))
 ·have:i=l.length:=by omega
  subst this;rw [List.take_length];refine Vm.rn xRSet3 ?_;exact Vm.rx (Vm.cl xRSet3)
theorem rwithout_v (l:List Int) (x:Int) (hl:l.length<1000000000):Vm.VC T 146 [.imm 1 (l.map dI),.atom (.int .i64 x)] fun d=>d=.fresh 1 ((l.filter fun y=>decide (y≠x)).map dI):=by
 refine Vm.ve (T:=T) Tryz.func146 fun g hB hG0 hU=>?_;simp only [Tryz.f146,Vm.aC,Vm.aN,Nat.reduceAdd];refine Vm.rn xRSet3 ?_;refine Vm.sk_nil 5 1 (by rfl) ?_;refine Vm.sk_loop (fun i:Nat=>l.length - i) (fun i=>⟨[(6,.atom (.int .i64 i)),(5,.own 0 ((l.take i).filter fun y=>decide (y≠x)).length),(0,.imm 1 (l.map dI)),(1,.atom (.int .i64 x))],[.sl 1 (((l.take i).filter fun y=>decide (y≠x)).map dI)],27⟩) (fun i=>i≤l.length) 0 ?_ (Nat.zero_le _) ?_
 ·exact Vm.lx (Vm.cl (ai xRSet3<|ai @List.take_zero.{0} @List.filter_nil.{0}))
 intro i hi ih
 have hb:((l.take i).filter fun y=>decide (y≠x)).length<1000000000:=by
  have:=List.length_filter_le (fun y:Int=>decide (y≠x)) (l.take i);rw [List.length_take] at this;omega
 refine Vm.rn xRSet3 ?_;refine Vm.sb_dec (fun hlt=>?_) (fun hge=>?_)
 ·obtain ⟨y,hy,hyd⟩:=dI_at (l:=l) (i:=i) (by omega);have et:=take_at hy
  have ec:((l.take (i+1)).filter fun y=>decide (y≠x))=((l.take i).filter fun y=>decide (y≠x))++(if y≠x then [y] else []):=by
   rw [et];simp only [List.filter_append,List.filter_cons,List.filter_nil,decide_eq_true_eq]
  refine Vm.rn (ai xRSet3<|ai @hyd @dI.eq_1) ?_
  by_cases hc:y=x
  ·rw [if_neg (by simpa using hc),List.append_nil] at ec;refine Vm.rn (ai xRSet3 @hc) ?_;refine ih (i+1) _ (by dsimp only;omega) (by omega) ?_;exact Vm.lx (Vm.cl (ai xRSet3 @ec))
  ·rw [if_pos hc] at ec;refine Vm.rn (ai xRSet3<|ai @hyd<|ai @dI.eq_1<|ai @hc @Vm.overD.eq_1) ?_;refine ih (i+1) _ (by dsimp only;omega) (by omega) ?_;exact Vm.lx (Vm.cl (ai xRSet3<|ai @ec<|ai @dI.eq_1 @List.map_append.{0,0}))
 ·have:i=l.length:=by omega
  subst this;rw [List.take_length] at hb ⊢;refine Vm.rn xRSet3 ?_;exact Vm.rx (Vm.cl xRSet3)
theorem rwith_v (l:List Int) (x:Int) (hl:l.length<1000000000):Vm.VC T 144 [.imm 1 (l.map dI),.atom (.int .i64 x)] fun d=>d=.fresh 1 ((recW x false l).map dI):=by
 refine Vm.ve (T:=T) Tryz.func144 fun g hB hG0 hU=>?_;simp only [Tryz.f144,Vm.aC,Vm.aN,Nat.reduceAdd];refine Vm.rn xRSet3 ?_;refine Vm.sk_nil 5 1 (by rfl) ?_;refine Vm.sk_loop (fun q:Nat×Bool×List Int=>l.length - q.1) (fun q=>⟨[(7,.atom (.int .i64 q.1)),(6,.atom (.bool q.2.1)),(5,.own 0 q.2.2.length),(0,.imm 1 (l.map dI)),(1,.atom (.int .i64 x))],[.sl 1 (q.2.2.map dI)],48⟩) (fun q=>q.1≤l.length∧q.2.2.length≤2 * q.1∧q.2.2++recW x q.2.1 (l.drop q.1)=recW x false l) (0,false,[]) ?_ ⟨Nat.zero_le _,Nat.zero_le _,rfl⟩ ?_
 ·exact Vm.lx (Vm.cl xRSet3)
 rintro ⟨i,put,out⟩ ⟨hi,hn,he⟩ ih;dsimp only at hi hn he;refine Vm.rn xRSet3 ?_;refine Vm.sb_dec (fun hlt=>?_) (fun hge=>?_)
 ·obtain ⟨y,hy,hyd⟩:=dI_at (l:=l) (i:=i) (by omega);rw [drop_at hy] at he;simp only [recW] at he
  cases put with
  | true =>
    simp only [Bool.true_eq_false,false_and,if_false] at he
    by_cases hc:y=x
    ·rw [if_neg (by simpa using hc)] at he;refine Vm.rn (ai xRSet3<|ai @hyd<|ai @dI.eq_1 @hc) ?_;refine ih (i+1,true,out) _ (by dsimp only;omega) ⟨by dsimp only;omega,by dsimp only;omega,he⟩ ?_;exact Vm.lx (Vm.cl xRSet3)
    ·rw [if_pos hc] at he;refine Vm.rn (ai xRSet3<|ai @hyd<|ai @dI.eq_1<|ai @hc @Vm.overD.eq_1) ?_;refine ih (i+1,true,out++[y]) _ (by dsimp only;omega) ⟨by dsimp only;omega,by dsimp only;simp;omega,by dsimp only;rw [List.append_assoc];exact he⟩ ?_;exact Vm.lx (Vm.cl (ai xRSet3<|ai @dI.eq_1 @List.map_append.{0,0}))
  | false =>
    simp only [true_and] at he
    by_cases hx:x≤y
    ·rw [if_pos hx] at he
     by_cases hc:y=x
     ·rw [if_neg (by simpa using hc)] at he;subst hc;refine Vm.rn (ai xRSet3<|ai @hyd<|ai @dI.eq_1<|ai @hx @Vm.overD.eq_1) ?_;refine ih (i+1,true,out++[y]) _ (by dsimp only;omega) ⟨by dsimp only;omega,by dsimp only;simp;omega,by dsimp only;rw [List.append_assoc];exact he⟩ ?_;exact Vm.lx (Vm.cl (ai xRSet3<|ai @dI.eq_1 @List.map_append.{0,0}))
     ·rw [if_pos hc] at he;refine Vm.rn (ai xRSet3<|ai @hyd<|ai @dI.eq_1<|ai @hx<|ai @hc @Vm.overD.eq_1) ?_;refine ih (i+1,true,out++[x]++[y]) _ (by dsimp only;omega) ⟨by dsimp only;omega,by dsimp only;simp;omega,by dsimp only;rw [List.append_assoc,List.append_assoc];exact he⟩ ?_;exact Vm.lx (Vm.cl (ai xRSet3<|ai @dI.eq_1 @List.map_append.{0,0}))
    ·rw [if_neg hx] at he;have hc:y≠x:=by omega
     rw [if_pos hc] at he;refine Vm.rn (ai xRSet3<|ai @hyd<|ai @dI.eq_1<|ai @hx<|ai @hc @Vm.overD.eq_1) ?_;refine ih (i+1,false,out++[y]) _ (by dsimp only;omega) ⟨by dsimp only;omega,by dsimp only;simp;omega,by dsimp only;rw [List.append_assoc];exact he⟩ ?_;exact Vm.lx (Vm.cl (ai xRSet3<|ai @dI.eq_1 @List.map_append.{0,0}))
 ·have:i=l.length:=by omega
  subst this;rw [List.drop_length] at he;rw [← he]
  cases put with
  | true =>
    refine Vm.rn (ai xRSet3<|ai @recW.eq_1 @recW.eq_2) ?_;exact Vm.rx (Vm.cl xRSet3)
  | false =>
    refine Vm.rn (ai xRSet3<|ai @recW.eq_1<|ai @recW.eq_2<|ai @Vm.overD.eq_1 @dI.eq_1) ?_;exact Vm.rx (Vm.cl (ai xRSet3<|ai @dI.eq_1 @List.map_append.{0,0}))
theorem number_v (b:Bool):Vm.VC T 145 [.atom (.bool b)] fun d=>d=.agg (dR ⟨2,bi b⟩):=by
 refine Vm.ve (T:=T) Tryz.func145 fun g hB hG0 hU=>?_;simp only [Tryz.f145,Vm.aC,Vm.aN,Nat.reduceAdd]
 cases b with
 | true =>
   refine Vm.rn (ai xRSet3 @Vm.overD.eq_1) ?_;exact Vm.rx (Vm.cl (ai xRSet3<|ai @bi.eq_1 @dR.eq_1))
 | false =>
   refine Vm.rn (ai xRSet3 @Vm.overD.eq_1) ?_;exact Vm.rx (Vm.cl (ai xRSet3<|ai @bi.eq_1 @dR.eq_1))
theorem set_rises {n:Int} {l:List Int} (h:checkS ⟨2,n,l⟩=0):Rises l 1:=by
 cases hb:setB ⟨2,n,l⟩ with
 | true=>simp only [setB,risesB,Bool.and_eq_true,decide_eq_true_eq] at hb;exact hb.2
 | false=>simp [checkS,formB,hb] at h
theorem refSet_v (s:Sta) (k a b:Int) (hl:s.l.length<1000000000):Vm.VC T 118 [.agg (dS s),.atom (.int .i64 k),.atom (.int .i64 a),.atom (.int .i64 b)] fun d=>d=dAns (appS s k a b):=by
 refine Vm.VC.dl ?_;refine Vm.ve (T:=T) Tryz.func118 fun g hB hG0 hU=>?_;simp only [Tryz.f118,Vm.aC,Vm.aN,Nat.reduceAdd];obtain ⟨t,n,l⟩:=s;dsimp only at hl
 by_cases h1:t=2
 ·subst h1;refine Vm.rn (ai xRSet3 @dS.eq_1) ?_;refine Vm.cq (ai xRSet3 @dS.eq_1) (refCheck_v ⟨2,n,l⟩ hl) ?_;refine Vm.sb_dec (fun h2=>?_) (fun h2=>?_)
  ·refine Vm.rn (ai xRSet3 @Vm.overD.eq_1) ?_;refine Vm.rz xRSet3 ?_;rw [show appS ⟨2,n,l⟩ k a b=bad 12 from by simp [appS,h2]];simp [dAns,bad,z0,r0,dF,dR,Vm.dl8]
  have hr:=set_rises (Decidable.not_not.1 h2);have e1:=any_is a hr;have e2:=recW_ins a hr;have e3:=filt_rem a hr;have htk:(l.map dI).take l.length=l.map dI:=List.take_of_length_le (by simp)
  by_cases h3:k<3
  ·refine Vm.rn (ai xRSet3<|ai @h3 @Vm.overD.eq_1) ?_;refine Vm.rz xRSet3 ?_;rw [show appS ⟨2,n,l⟩ k a b=bad 6 from by simp [appS,h2,h3]];simp [dAns,bad,z0,r0,dF,dR,Vm.dl8]
  by_cases h4:6<k
  ·refine Vm.rn (ai xRSet3<|ai @h3<|ai @h4 @Vm.overD.eq_1) ?_;refine Vm.rz xRSet3 ?_;rw [show appS ⟨2,n,l⟩ k a b=bad 6 from by simp [appS,h2,h3,h4]];simp [dAns,bad,z0,r0,dF,dR,Vm.dl8]
  by_cases h5:b=0
  ·subst h5;have hc:k=3∨k=4∨k=5∨k=6:=by omega
   rcases hc with rfl | rfl | rfl | rfl
   ·refine Vm.rn (ai xRSet3 @Vm.overD.eq_1) ?_;refine Vm.cq (ai xRSet3<|ai @Vm.overD.eq_1 @htk) (rsfind_v l a hl) ?_;refine Vm.cq (ai xRSet3 @Vm.overD.eq_1) (rwith_v l a hl) ?_;refine Vm.fy 0 (ai xRSet3 @fz_I) ?_;refine Vm.dv 7 [1,2,3,0,4,5,6] [0,0,2,6,15,31,63] ?_;refine Vm.rt xRSet3 ?_
    (have hh:=ai xRSet3<|ai @dR.eq_1 @Am.vt;(first | refine Vm.callQ_eq2 (number_v (!l.any fun y=>decide (y=a))) (Vm.ct hh) (Vm.rt hh ?_) | refine Vm.call_eq2 (number_v (!l.any fun y=>decide (y=a))) (Vm.ct hh) (Vm.rt hh ?_));clear hh)
    refine Vm.rn (ai xRSet3 @Vm.overD.eq_1) ?_;rw [e1,e2];refine Vm.rz xRSet3 ?_;rw [show appS ⟨2,n,l⟩ 3 a 0=⟨⟨2,0,insS l a⟩,⟨2,bi (!isS l a)⟩,0⟩ from by simp [appS,h2]];simp [dAns,bad,z0,r0,dF,dR,Vm.dl8]
   ·refine Vm.rn (ai xRSet3 @Vm.overD.eq_1) ?_;refine Vm.cq (ai xRSet3<|ai @Vm.overD.eq_1 @htk) (rsfind_v l a hl) ?_;refine Vm.cq (ai xRSet3 @Vm.overD.eq_1) (rwithout_v l a hl) ?_;refine Vm.fy 0 (ai xRSet3 @fz_I) ?_;refine Vm.dv 6 [1,2,0,3,4,5] [0,0,2,7,15,31] ?_;refine Vm.rt xRSet3 ?_
    (have hh:=ai xRSet3<|ai @dR.eq_1 @Am.vt;(first | refine Vm.callQ_eq2 (number_v (l.any fun y=>decide (y=a))) (Vm.ct hh) (Vm.rt hh ?_) | refine Vm.call_eq2 (number_v (l.any fun y=>decide (y=a))) (Vm.ct hh) (Vm.rt hh ?_));clear hh)
    refine Vm.rn (ai xRSet3 @Vm.overD.eq_1) ?_;rw [e1,e3];refine Vm.rz xRSet3 ?_;rw [show appS ⟨2,n,l⟩ 4 a 0=⟨⟨2,0,remS l a⟩,⟨2,bi (isS l a)⟩,0⟩ from by simp [appS,h2]];simp [dAns,bad,z0,r0,dF,dR,Vm.dl8]
   ·refine Vm.rn (ai xRSet3 @Vm.overD.eq_1) ?_;refine Vm.cq (ai xRSet3<|ai @Vm.overD.eq_1 @htk) (rsfind_v l a hl) ?_;refine Vm.fy 0 (ai xRSet3 @fz_I) ?_;refine Vm.dv 6 [1,2,0,3,4,5] [0,0,2,7,15,31] ?_;refine Vm.rt xRSet3 ?_
    (have hh:=ai xRSet3<|ai @dR.eq_1 @Am.vt;(first | refine Vm.callQ_eq2 (number_v (l.any fun y=>decide (y=a))) (Vm.ct hh) (Vm.rt hh ?_) | refine Vm.call_eq2 (number_v (l.any fun y=>decide (y=a))) (Vm.ct hh) (Vm.rt hh ?_));clear hh)
    refine Vm.rn (ai xRSet3 @Vm.overD.eq_1) ?_;rw [e1];refine Vm.rz xRSet3 ?_;rw [show appS ⟨2,n,l⟩ 5 a 0=⟨⟨2,0,l⟩,⟨2,bi (isS l a)⟩,0⟩ from by simp [appS,h2]];simp [dAns,bad,z0,r0,dF,dR,Vm.dl8]
   ·by_cases h6:a=0
    ·subst h6;refine Vm.rn (ai xRSet3 @Vm.overD.eq_1) ?_;refine Vm.cq (ai xRSet3<|ai @Vm.overD.eq_1 @htk) (rsfind_v l 0 hl) ?_;refine Vm.fy 0 (ai xRSet3 @fz_I) ?_;refine Vm.dv 8 [0,5,1,2,3,4,6,7] [0,0,2,6,14,1,63,127] ?_;refine Vm.rt xRSet3 ?_;refine Vm.rn (ai xRSet3 @Vm.overD.eq_1) ?_;refine Vm.rz xRSet3 ?_;rw [show appS ⟨2,n,l⟩ 6 0 0=⟨⟨2,0,l⟩,⟨2,l.length⟩,0⟩ from by simp [appS,h2]];simp [dAns,bad,z0,r0,dF,dR,Vm.dl8]
    ·refine Vm.rn (ai xRSet3<|ai @h6 @Vm.overD.eq_1) ?_;refine Vm.rz xRSet3 ?_;rw [show appS ⟨2,n,l⟩ 6 a 0=bad 2 from by simp [appS,h2,h6]];simp [dAns,bad,z0,r0,dF,dR,Vm.dl8]
  ·refine Vm.rn (ai xRSet3<|ai @h3<|ai @h4<|ai @h5 @Vm.overD.eq_1) ?_;refine Vm.rz xRSet3 ?_;rw [show appS ⟨2,n,l⟩ k a b=bad 2 from by simp [appS,h2,h3,h4,h5]];simp [dAns,bad,z0,r0,dF,dR,Vm.dl8]
 ·refine Vm.rn (ai xRSet3<|ai @dS.eq_1<|ai @h1 @Vm.overD.eq_1) ?_;refine Vm.rz xRSet3 ?_;rw [show appS ⟨t,n,l⟩ k a b=bad 12 from by simp [appS,h1]];simp [dAns,bad,z0,r0,dF,dR,Vm.dl8]
end Go.Proofs.YtphjohoipocpnaaGreat.W
