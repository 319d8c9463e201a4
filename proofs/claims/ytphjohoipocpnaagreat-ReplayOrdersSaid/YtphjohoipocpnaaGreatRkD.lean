import Derived.Test.YtphjohoipocpnaaGreatVmD
import Derived.Test.YtphjohoipocpnaaGreatRkB
import Derived.Test.YtphjohoipocpnaaGreatRkA
set_option linter.unusedSimpArgs false
set_option linter.unusedVariables false
set_option maxRecDepth 8000
/- A map's operations, both answers. No conditions. -/
namespace Go.Proofs.YtphjohoipocpnaaGreat.W
open Go.Am
set_option linter.defProp false in
def xRMap:=@Vm.dl8
def prs:List Int→List (Int×Int)
 | k::v::l=>(k,v)::prs l
 | _=>[]
def dP (p:Int×Int):List Vm.D:=[.atom (.int .i64 p.1),.atom (.int .i64 p.2)]
theorem prs_len:∀ l:List Int,(prs l).length=l.length / 2
 | []=>rfl
 | [_]=>by simp [prs]
 | k::v::l=>by simp only [prs,List.length_cons,prs_len l];omega
theorem pairs1_v (l:List Int) (hl:l.length<1000000000):Vm.VG T 210 [[.imm 1 (l.map dI)]] ((prs l).map dP):=by
 intro L K E hK hE hY;show Vm.VM T 210 [.atom (.func (.yield L) [] []),.rptr 0 0] [.cell [.imm 1 (l.map dI)],.ghost (K 0)] _;refine Vm.vm (T:=T) Tryz.func210 fun g hG0 hU=>?_;simp only [Tryz.f210,Vm.aC,Vm.aN,Nat.reduceAdd];refine Vm.rn xRMap ?_;refine Vm.sk_loop (fun q:Nat×List Int=>q.2.length) (fun q=>⟨[(0,.atom (.func (.yield L) [] [])),(1,.rptr 0 0)],[.cell [.imm 1 (q.2.map dI)],.ghost (K q.1)],17⟩) (fun q=>(prs l).drop q.1=prs q.2∧q.2.length≤l.length∧q.1≤(prs l).length) (0,l) ?_ ⟨rfl,Nat.le_refl _,Nat.zero_le _⟩ ?_
 ·exact Vm.lx (Vm.cl xRMap)
 rintro ⟨i,r⟩ ⟨h1,h2,h3⟩ ih;dsimp only at h1 h2 h3
 match r,h1,h2 with
 | [],h1,h2 =>
   refine Vm.rn (ai xRMap @List.length_nil.{0}) ?_
   have e:i=(prs l).length:=by
    have:=congrArg List.length h1;rw [List.length_drop] at this;simp [prs] at this;omega
   refine Vm.rm (Vm.s1 (ai xRMap @List.length_map.{0,0}) ?_);rw [e];exact .inl rfl
 | [x],h1,h2 =>
   refine Vm.rn (ai xRMap @List.length_nil.{0}) ?_
   have e:i=(prs l).length:=by
    have:=congrArg List.length h1;rw [List.length_drop] at this;simp [prs] at this;omega
   refine Vm.rm (Vm.s1 (ai xRMap @List.length_map.{0,0}) ?_);rw [e];exact .inl rfl
 | x::y::r,h1,h2 =>
   have hx:((prs l).map dP)[i]?=some [.atom (.int .i64 x),.atom (.int .i64 y)]:=by
    have:(prs l)[i]?=some (x,y):=by
     have e:=List.getElem?_drop (xs:=prs l) (i:=i) (j:=0);rw [h1] at e;exact e.symm
    rw [List.getElem?_map,this];rfl
   have hd:(prs l).drop (i+1)=prs r:=by rw [← List.drop_drop,h1];rfl
   refine Vm.rn xRMap ?_;refine Vm.sb_dec (fun hc=>?_) (fun hc=>absurd hc (by omega));refine Vm.rn xRMap ?_;refine Vm.dw 9 [0,1,2,3,4,5,6,7,8] ?_;refine Vm.rn (ai xRMap @dI.eq_1) ?_;refine Vm.round_tick (k:=1) rfl (hY i _ hx) (hK _) hE rfl ?_ ?_
   ·have e:(r.map dI).take r.length=r.map dI:=List.take_of_length_le (by simp);refine Vm.rn (ai xRMap<|ai @Nat.add_sub_cancel @e) ?_;refine ih (i+1,r) _ (by simp only [List.length_cons];omega) ⟨hd,by simp only [List.length_cons] at h2;dsimp only;omega,?_⟩ ?_
    ·have:=congrArg List.length h1;rw [List.length_drop] at this;simp [prs] at this;dsimp only;omega
    exact Vm.lx (Vm.cl xRMap)
   ·refine Vm.rn xRMap ?_;refine Vm.rm (Vm.s1 xRMap ?_);exact .inr trivial
def findM (l:List Int) (k:Int):Option Int:=((prs l).find? fun p=>p.1 == k).map (·.2)
def dFind (o:Option Int):Vm.D:=.tuple [.atom (.int .i64 (o.getD 0)),.atom (.bool o.isSome)]
theorem findM_at {l:List Int} {k:Int} {i:Nat} {p:Int×Int} (hp:(prs l)[i]?=some p) (he:p.1=k) (hne:∀ (j:Nat) (q:Int×Int),j<i→(prs l)[j]?=some q→q.1≠k):findM l k=some p.2:=by
 have:(prs l).find? (fun p=>p.1 == k)=some p:=by
  rw [List.find?_eq_some_iff_getElem];obtain ⟨h,e⟩:=List.getElem?_eq_some_iff.1 hp;refine ⟨by simpa using he,i,h,e,fun j hj=>?_⟩;have:=hne j _ hj (List.getElem?_eq_getElem (by omega));simpa using this
 simp [findM,this]
theorem findM_none {l:List Int} {k:Int} (hne:∀ (j:Nat) (q:Int×Int),j<(prs l).length→(prs l)[j]?=some q→q.1≠k):findM l k=none:=by
 have:(prs l).find? (fun p=>p.1 == k)=none:=by
  rw [List.find?_eq_none];intro q hq;obtain ⟨j,h,rfl⟩:=List.getElem_of_mem hq;have:=hne j _ h (List.getElem?_eq_getElem h);simpa using this
 simp [findM,this]
theorem mfind_v (l:List Int) (k:Int) (hl:l.length<1000000000):Vm.VC T 180 [.imm 1 (l.map dI),.atom (.int .i64 k)] fun d=>d=dFind (findM l k):=by
 refine Vm.ve (T:=T) Tryz.func180 fun g hB hG0 hU=>?_;simp only [Tryz.f180,Vm.aC,Vm.aN,Nat.reduceAdd];refine Vm.rn xRMap ?_;refine Vm.vw (T:=T) Tryz.func202 fun _ hGi hUi=>?_;simp only [Tryz.f202,Vm.aC,Vm.aN,Nat.reduceAdd];refine Vm.rn xRMap ?_;refine Vm.rm (Vm.s1 xRMap ?_);refine Vm.rn xRMap ?_;refine Vm.sk_range [3] (pairs1_v l hl) rfl (by assumption) (fun i so=>so=[.cell [.atom (.int .i64 k)],.cell [.atom (.int .i64 0)],.cell [.atom (.bool false)],.dead]∧∀ j p,j<i→(prs l)[j]?=some p→p.1≠k) (fun e so=>e=.exit 0∧∃ v,findM l k=some v∧so=[.cell [.atom (.int .i64 k)],.cell [.atom (.int .i64 v)],.cell [.atom (.bool true)],.dead]) (by exact rfl) (by decide) (by first | exact ⟨rfl,rfl,trivial⟩ | exact ⟨rfl,rfl,rfl,rfl,trivial⟩ | exact ⟨rfl,rfl,rfl,rfl,rfl,rfl,trivial⟩) ?_ ?_ ?_ ?_ ?_
 ·intro x hx;obtain ⟨p,_,rfl⟩:=List.mem_map.1 hx
  rfl
 ·exact ⟨rfl,fun j p h=>by omega⟩
 ·rintro i x so' hx ⟨rfl,hne⟩;intro g2 hU2 hr2 hL2;rw [Vm.putAllD_so] at hL2;rw [List.getElem?_map,Option.map_eq_some_iff] at hx;obtain ⟨p,hp,rfl⟩:=hx;refine Vm.rn (ai xRMap<|ai @dP.eq_1<|ai @List.zip_cons_cons.{0,0}<|ai @List.zip_nil_left.{0,0}<|ai @Vm.putAllD_cons @Vm.putAllD_nil) ?_;refine Vm.mid_ok fun g3 hU3 hr3 hL3=>?_;refine Vm.rn xRMap ?_;refine Vm.sb_dec (fun he=>?_) (fun he=>?_)
  ·refine Vm.rn (ai xRMap @Vm.overD.eq_1) ?_;refine Vm.end_exit ⟨rfl,p.2,?_,rfl⟩;exact findM_at hp he hne
  ·refine Vm.rn xRMap ?_;refine Vm.end_normal ⟨rfl,fun j q hj hq=>?_⟩;rcases Nat.lt_or_ge j i with h | h
   ·exact hne j q h hq
   ·have:j=i:=by omega
    subst this;rw [hp] at hq;cases hq;exact he
 ·rintro so' ⟨rfl,hne⟩;refine Vm.rn xRMap ?_;refine Vm.dv 4 [0,2,1,3] [0,0,1,7] ?_;refine Vm.rt (ai xRMap @Vm.overD.eq_1) ?_;refine Vm.rz (ai xRMap @dFind.eq_1) ?_;rw [List.length_map] at hne;rw [findM_none hne];rfl
 ·rintro e so' ⟨rfl,v,hv,rfl⟩;refine Vm.rn xRMap ?_;refine Vm.dv 4 [0,2,1,3] [0,0,1,7] ?_;refine Vm.rt (ai xRMap @Vm.overD.eq_1) ?_;exact Vm.rx (Vm.cl (ai xRMap<|ai @dFind.eq_1 @hv))
theorem lit_12 (a b:Vm.D):Vm.rowsOf 1 2 [a,b]=[[a],[b]]:=rfl
theorem lit_r2 (x:List Vm.D):List.replicate 2 x=[x,x]:=rfl
def unprs:List (Int×Int)→List Int
 | []=>[]
 | p::l=>p.1::p.2::unprs l
theorem unprs_app:∀ a b:List (Int×Int),unprs (a++b)=unprs a++unprs b
 | [],b=>rfl
 | p::a,b=>by simp [unprs,unprs_app a b]
theorem unprs_len:∀ a:List (Int×Int),(unprs a).length=2 * a.length
 | []=>rfl
 | p::a=>by simp [unprs,unprs_len a];omega
def dropP (l:List Int) (k:Int):List (Int×Int):=(prs l).filter fun p=>decide (p.1≠k)
def dropM (l:List Int) (k:Int):List Int:=unprs (dropP l k)
theorem filter_take {α:Type} {p:α→Bool} {xs:List α} {i:Nat} {x:α} (h:xs[i]?=some x):(xs.take (i+1)).filter p=(xs.take i).filter p++if p x then [x] else []:=by
 rw [List.take_add_one,h,List.filter_append]
 congr 1;simp [List.filter_cons]
theorem prs_bound {l:List Int} (hl:l.length<1000000000) (p:Int×Int→Bool) (i:Nat):(unprs (((prs l).take i).filter p)).length<1000000001:=by
 rw [unprs_len];have h1:=List.length_filter_le p ((prs l).take i);rw [List.length_take,prs_len] at h1;omega
theorem mdrop_v (l:List Int) (k:Int) (hl:l.length<1000000000):Vm.VC T 179 [.imm 1 (l.map dI),.atom (.int .i64 k)] fun d=>d=.fresh 1 ((dropM l k).map dI):=by
 refine Vm.ve (T:=T) Tryz.func179 fun g hB hG0 hU=>?_;simp only [Tryz.f179,Vm.aC,Vm.aN,Nat.reduceAdd];refine Vm.rn xRMap ?_;refine Vm.vw (T:=T) Tryz.func202 fun _ hGi hUi=>?_;simp only [Tryz.f202,Vm.aC,Vm.aN,Nat.reduceAdd];refine Vm.rn xRMap ?_;refine Vm.rm (Vm.s1 xRMap ?_);refine Vm.rn xRMap ?_;refine Vm.sk_nilC 1 0 1 rfl rfl ?_;refine Vm.sk_range [2] (pairs1_v l hl) rfl (by assumption) (fun i so=>so=[.cell [.atom (.int .i64 k)],.cell [.own 3 (unprs (((prs l).take i).filter fun p=>decide (p.1≠k))).length],.dead,.sl 1 ((unprs (((prs l).take i).filter fun p=>decide (p.1≠k))).map dI)]) (fun e so=>False) (by exact rfl) (by decide) (by first | exact ⟨rfl,rfl,trivial⟩ | exact ⟨rfl,rfl,rfl,rfl,trivial⟩ | exact ⟨rfl,rfl,rfl,rfl,rfl,rfl,trivial⟩) ?_ ?_ ?_ ?_ ?_
 ·intro x hx;obtain ⟨p,_,rfl⟩:=List.mem_map.1 hx
  rfl
 ·rfl
 ·rintro i x so' hx rfl;intro g2 hU2 hr2 hL2;rw [Vm.putAllD_so] at hL2;rw [List.getElem?_map,Option.map_eq_some_iff] at hx;obtain ⟨p,hp,rfl⟩:=hx;have hb:=prs_bound hl (fun p=>decide (p.1≠k)) i;rw [filter_take hp];generalize ((prs l).take i).filter (fun p=>decide (p.1≠k))=ys at hb;refine Vm.rn (ai xRMap<|ai @dP.eq_1<|ai @List.zip_cons_cons.{0,0}<|ai @List.zip_nil_left.{0,0}<|ai @Vm.putAllD_cons @Vm.putAllD_nil) ?_;refine Vm.mid_ok fun g3 hU3 hr3 hL3=>?_;refine Vm.rn xRMap ?_;refine Vm.sb_dec (fun he=>?_) (fun he=>?_)
  ·refine Vm.rn (ai xRMap<|ai @Vm.overD.eq_1<|ai @lit_12 @lit_r2) ?_;refine Vm.nx ([.cell [.atom (.int .i64 k)],.cell [.own 3 (unprs (ys++[p])).length],.dead,.sl 1 ((unprs (ys++[p])).map dI)]) (Vm.cl (ai xRMap<|ai @unprs_app<|ai @unprs.eq_1<|ai @unprs.eq_2<|ai @dI.eq_1<|ai @List.map_append.{0,0}<|ai @Vm.nlR_append @nlR_dI)) (Vm.end_normal ?_);simp [he]
  ·refine Vm.rn xRMap ?_;refine Vm.end_normal ?_;simp [he]
 ·rintro so' rfl;refine Vm.rn (ai xRMap @List.take_length.{0}) ?_;exact Vm.rx (Vm.cl (ai xRMap<|ai @dropM.eq_1 @dropP.eq_1))
 ·rintro e so' h;exact h.elim
theorem prs_unprs:∀ ps:List (Int×Int),prs (unprs ps)=ps
 | []=>rfl
 | p::ps=>by simp only [unprs,prs,prs_unprs ps]
def insP (ps:List (Int×Int)) (k v:Int):List (Int×Int):=ps.takeWhile (fun p=>decide (p.1<k))++(k,v)::ps.dropWhile (fun p=>decide (p.1<k))
def setM (l:List Int) (k v:Int):List Int:=unprs (insP (dropP l k) k v)
def laidAt (ps:List (Int×Int)) (k:Int) (i:Nat):Bool:=(ps.take i).any fun p=>decide (k≤p.1)
def outAt (ps:List (Int×Int)) (k v:Int) (i:Nat):List (Int×Int):=if laidAt ps k i=true then insP (ps.take i) k v else ps.take i
theorem all_lt {ps:List (Int×Int)} {k:Int} (h:(ps.any fun p=>decide (k≤p.1))=false):∀ p,p∈ps→decide (p.1<k)=true:=by
 intro p hp;have:=List.any_eq_false.1 h p hp;simp at this ⊢;omega
theorem take_all {α:Type} {f:α→Bool}:∀ {ps:List α},(∀ p,p∈ps→f p=true)→∀ qs,(ps++qs).takeWhile f=ps++qs.takeWhile f∧(ps++qs).dropWhile f=qs.dropWhile f
 | [],_,qs=>⟨rfl,rfl⟩
 | p::ps,h,qs=>by
   obtain ⟨h1,h2⟩:=take_all (ps:=ps) (fun q hq=>h q (by simp [hq])) qs;simp [List.takeWhile_cons,List.dropWhile_cons,h p (by simp),h1,h2]
theorem out_step {ps:List (Int×Int)} {k v:Int} {i:Nat} {p:Int×Int} (hp:ps[i]?=some p) :
  laidAt ps k (i+1)=(laidAt ps k i || decide (k≤p.1))∧outAt ps k v (i+1)=if laidAt ps k i=false∧k≤p.1 then outAt ps k v i++[(k,v),p] else outAt ps k v i++[p]:=by
 have e:ps.take (i+1)=ps.take i++[p]:=by rw [List.take_add_one,hp];rfl
 have h1:laidAt ps k (i+1)=(laidAt ps k i || decide (k≤p.1)):=by simp only [laidAt,e,List.any_append,List.any_cons,List.any_nil,Bool.or_false]
 refine ⟨h1,?_⟩;unfold outAt;rw [h1,e]
 cases hl:laidAt ps k i with
 | false =>
   have ha:=all_lt hl
   by_cases hk:k≤p.1
   ·have hk':¬ p.1<k:=by omega
    obtain ⟨t1,t2⟩:=take_all ha [p];simp [hk,insP,t1,t2,List.takeWhile_cons,List.dropWhile_cons,hk']
   ·simp [hk]
 | true =>
   simp only [Bool.true_or,if_true,Bool.true_eq_false,false_and,if_false];unfold laidAt at hl;rw [List.any_eq_true] at hl;obtain ⟨q,hq,hkq⟩:=hl;have hkq:¬ q.1<k:=by simp at hkq;omega
   have key:∀ xs:List (Int×Int),q∈xs→(xs++[p]).takeWhile (fun p=>decide (p.1<k))=xs.takeWhile (fun p=>decide (p.1<k))∧(xs++[p]).dropWhile (fun p=>decide (p.1<k))=xs.dropWhile (fun p=>decide (p.1<k))++[p]:=by
    intro xs
    induction xs with
    | nil=>intro h;cases h
    | cons x xs ih =>
      intro h
      by_cases hx:x.1<k
      ·have:q∈xs:=by
        rcases List.mem_cons.1 h with rfl | h
        ·exact absurd hx hkq
        ·exact h
       obtain ⟨i1,i2⟩:=ih this;simp [List.takeWhile_cons,List.dropWhile_cons,hx,i1,i2]
      ·simp [List.takeWhile_cons,List.dropWhile_cons,hx]
   obtain ⟨i1,i2⟩:=key _ hq;simp [insP,i1,i2]
theorem out_end (ps:List (Int×Int)) (k v:Int):(if laidAt ps k ps.length=true then outAt ps k v ps.length else outAt ps k v ps.length++[(k,v)])=insP ps k v:=by
 unfold outAt laidAt;rw [List.take_length];split
 ·rename_i h;rfl
 ·rename_i h;have ha:=all_lt (by simpa using h);obtain ⟨t1,t2⟩:=take_all ha [];simp only [List.append_nil] at t1 t2;simp [insP,t1,t2]
theorem out_len (ps:List (Int×Int)) (k v:Int) (i:Nat):(outAt ps k v i).length≤ps.length+1:=by
 unfold outAt insP;split
 ·have:=congrArg List.length (List.takeWhile_append_dropWhile (p:=fun p:Int×Int=>decide (p.1<k)) (l:=ps.take i));simp only [List.length_append,List.length_take,List.length_cons] at this ⊢;omega
 ·rw [List.length_take];omega
theorem dropI_v (l:List Int) (k:Int) (hl:l.length<1000000000):Vm.VC T 179 [.imm 1 (l.map dI),.atom (.int .i64 k)] fun d=>d=.imm 1 ((dropM l k).map dI):=by
 refine (mdrop_v l k hl).im.mono fun d ⟨e,he,hd⟩=>?_;subst he;simp only [Vm.imL,Vm.D.im,List.cons.injEq,and_true] at hd;rw [← hd];congr 1;exact imLL_I _
theorem mset_v (l:List Int) (k v:Int) (hl:l.length<1000000000):Vm.VC T 177 [.imm 1 (l.map dI),.atom (.int .i64 k),.atom (.int .i64 v)] fun d=>d=.fresh 1 ((setM l k v).map dI):=by
 have hd:(dropM l k).length<1000000000:=by
  rw [dropM,unprs_len,dropP];have h1:=List.length_filter_le (fun p:Int×Int=>decide (p.1≠k)) (prs l);rw [prs_len] at h1;omega
 have hg:=pairs1_v (dropM l k) hd;have ep:prs (dropM l k)=dropP l k:=prs_unprs _;rw [ep] at hg;have hpl:(dropP l k).length<1000000000:=by rw [← ep,prs_len];omega
 have hb:∀ i,(unprs (outAt (dropP l k) k v i)).length<10000000000:=fun i=>by
  have:=out_len (dropP l k) k v i;rw [unprs_len];omega
 refine Vm.ve (T:=T) Tryz.func177 fun g hB hG0 hU=>?_;simp only [Tryz.f177,Vm.aC,Vm.aN,Nat.reduceAdd];refine Vm.rn (ai xRMap @Vm.overD.eq_1) ?_;refine Vm.call_eqI2 (dropI_v l k hl) (Vm.cl xRMap) (Vm.rn xRMap ?_);refine Vm.vw (T:=T) Tryz.func202 fun _ hGi hUi=>?_;simp only [Tryz.f202,Vm.aC,Vm.aN,Nat.reduceAdd];refine Vm.rn xRMap ?_;refine Vm.rm (Vm.s1 xRMap ?_);refine Vm.rn xRMap ?_;refine Vm.sk_nilC 2 0 1 rfl rfl ?_;rw [setM];generalize dropP l k=ps at hg hb;refine Vm.sk_range [4] (hg) rfl (by assumption) (fun i so=>so=[.cell [.atom (.int .i64 k)],.cell [.atom (.int .i64 v)],.cell [.own 5 (unprs (outAt ps k v i)).length],.cell [.atom (.bool (laidAt ps k i))],.dead,.sl 1 ((unprs (outAt ps k v i)).map dI)]) (fun e so=>False) (by exact rfl) (by decide) (by first | exact ⟨rfl,rfl,trivial⟩ | exact ⟨rfl,rfl,rfl,rfl,trivial⟩ | exact ⟨rfl,rfl,rfl,rfl,rfl,rfl,trivial⟩) ?_ ?_ ?_ ?_ ?_
 ·intro x hx;obtain ⟨p,_,rfl⟩:=List.mem_map.1 hx
  rfl
 ·rfl
 ·rintro i x so' hx rfl;intro g2 hU2 hr2 hL2;rw [Vm.putAllD_so] at hL2;rw [List.getElem?_map,Option.map_eq_some_iff] at hx;obtain ⟨p,hp,rfl⟩:=hx;obtain ⟨e1,e2⟩:=out_step (k:=k) (v:=v) hp;have hb':=hb i;rw [e1,e2];generalize outAt ps k v i=ys at hb';refine Vm.rn (ai xRMap<|ai @dP.eq_1<|ai @List.zip_cons_cons.{0,0}<|ai @List.zip_nil_left.{0,0}<|ai @Vm.putAllD_cons @Vm.putAllD_nil) ?_;refine Vm.mid_ok fun g3 hU3 hr3 hL3=>?_
  cases hl:laidAt ps k i with
  | true =>
    refine Vm.rn (ai xRMap<|ai @Vm.overD.eq_1<|ai @lit_12 @lit_r2) ?_;refine Vm.nx ([.cell [.atom (.int .i64 k)],.cell [.atom (.int .i64 v)],.cell [.own 5 (unprs (ys++[p])).length],.cell [.atom (.bool true)],.dead,.sl 1 ((unprs (ys++[p])).map dI)]) (Vm.cl (ai xRMap<|ai @unprs_app<|ai @unprs.eq_1<|ai @unprs.eq_2<|ai @dI.eq_1<|ai @List.map_append.{0,0}<|ai @Vm.nlR_append @nlR_dI)) (Vm.end_normal ?_);simp
  | false =>
    by_cases hk:k≤p.1
    ·refine Vm.rn (ai xRMap<|ai @Vm.overD.eq_1<|ai @lit_12<|ai @lit_r2 @hk) ?_;refine Vm.nx ([.cell [.atom (.int .i64 k)],.cell [.atom (.int .i64 v)],.cell [.own 5 (unprs (ys++[(k,v),p])).length],.cell [.atom (.bool true)],.dead,.sl 1 ((unprs (ys++[(k,v),p])).map dI)]) (Vm.cl (ai xRMap<|ai @unprs_app<|ai @unprs.eq_1<|ai @unprs.eq_2<|ai @dI.eq_1<|ai @List.map_append.{0,0}<|ai @Vm.nlR_append<|ai @nlR_dI @List.append_assoc.{0})) (Vm.end_normal ?_);simp [hk]
    ·refine Vm.rn (ai xRMap<|ai @Vm.overD.eq_1<|ai @lit_12<|ai @lit_r2 @hk) ?_;refine Vm.nx ([.cell [.atom (.int .i64 k)],.cell [.atom (.int .i64 v)],.cell [.own 5 (unprs (ys++[p])).length],.cell [.atom (.bool false)],.dead,.sl 1 ((unprs (ys++[p])).map dI)]) (Vm.cl (ai xRMap<|ai @unprs_app<|ai @unprs.eq_1<|ai @unprs.eq_2<|ai @dI.eq_1<|ai @List.map_append.{0,0}<|ai @Vm.nlR_append @nlR_dI)) (Vm.end_normal ?_);simp [hk]
 ·rintro so' rfl;have he:=out_end ps k v;rw [List.length_map];have hb':=hb ps.length
  cases hl:laidAt ps k ps.length with
  | true =>
    rw [hl] at he;simp only [if_true] at he;rw [he];refine Vm.rn xRMap ?_;exact Vm.rx (Vm.cl xRMap)
  | false =>
    rw [hl] at he;simp only [Bool.false_eq_true,if_false] at he;generalize outAt ps k v ps.length=ys at he hb';refine Vm.rn (ai xRMap<|ai @Vm.overD.eq_1<|ai @lit_12 @lit_r2) ?_;refine Vm.rz xRMap ?_;rw [← he,unprs_app];simp [unprs,dI]
 ·rintro e so' h;exact h.elim
theorem mput_v (l:List Int) (k v:Int) (hl:l.length<1000000000):Vm.VC T 176 [.imm 1 (l.map dI),.atom (.int .i64 k),.iptr [.atom (.int .i64 v)] 0] fun d=>d=.fresh 1 ((setM l k v).map dI):=by
 refine Vm.ve (T:=T) Tryz.func176 fun g hB hG0 hU=>?_;simp only [Tryz.f176,Vm.aC,Vm.aN,Nat.reduceAdd];refine Vm.rn xRMap ?_;refine Vm.cq xRMap (mset_v l k v hl) ?_;exact Vm.rx (Vm.cl xRMap)
theorem msame_v (l:List Int) (k:Int) (hl:l.length<1000000000):Vm.VC T 178 [.imm 1 (l.map dI),.atom (.int .i64 k)] fun d=>d=.fresh 1 (l.map dI):=by
 refine Vm.ve (T:=T) Tryz.func178 fun g hB hG0 hU=>?_;simp only [Tryz.f178,Vm.aC,Vm.aN,Nat.reduceAdd];refine Vm.rn xRMap ?_;exact Vm.rx (Vm.cl xRMap)
def rM (o:Option Int):Rt:=match o with
 | some n=>⟨2,n⟩
 | none=>⟨1,0⟩
noncomputable def appM (s:Sta) (k a b:Int):Ans:=
 if s.t≠3∨checkS s≠0 then bad 12 else if k<7∨9<k then bad 6 else if k≠7∧b≠0 then bad 2
 else ⟨⟨3,0,if k=7 then setM s.l a b else if k=9 then dropM s.l a else s.l⟩,rM (findM s.l a),0⟩
theorem map7_v (n a b:Int) (l:List Int) (hl:l.length<1000000000) (h2:checkS ⟨3,n,l⟩=0):Vm.VC T 162 [.agg (dS ⟨3,n,l⟩),.atom (.int .i64 7),.atom (.int .i64 a),.atom (.int .i64 b)] fun d=>d=dAns (appM ⟨3,n,l⟩ 7 a b):=by
 refine Vm.VC.dl ?_;refine Vm.ve (T:=T) Tryz.func162 fun g hB hG0 hU=>?_;simp only [Tryz.f162,Vm.aC,Vm.aN,Nat.reduceAdd];refine Vm.rn (ai xRMap @dS.eq_1) ?_;refine Vm.cq (ai xRMap<|ai @dS.eq_1 @h2) (check_v ⟨3,n,l⟩ hl) ?_;refine Vm.rn (ai xRMap @Vm.overD.eq_1) ?_;refine Vm.cq (ai xRMap @dFind.eq_1) (mfind_v l a hl) ?_
 cases hf:findM l a with
 | none =>
   refine Vm.rn (ai xRMap @Option.isSome_none.{0}) ?_;refine Vm.fy 0 xRMap ?_;refine Vm.fy 1 xRMap ?_;refine Vm.dv 10 [0,1,2,3,4,5,7,6,8,9] [0,0,2,0,15,31,0,63,255,511] ?_;refine Vm.rt xRMap ?_
   (have hh:=ai xRMap @Am.vt;(first | refine Vm.callQ_eq2 (mput_v l a b hl) (Vm.ct hh) (Vm.rt hh ?_) | refine Vm.call_eq2 (mput_v l a b hl) (Vm.ct hh) (Vm.rt hh ?_));clear hh)
   refine Vm.rn (ai xRMap @Vm.overD.eq_1) ?_;refine Vm.rz xRMap ?_;rw [show appM ⟨3,n,l⟩ 7 a b=⟨⟨3,0,setM l a b⟩,⟨1,0⟩,0⟩ from by simp [appM,h2,hf,rM]];simp [dAns,bad,z0,r0,dF,dR,Vm.dl8]
 | some v =>
   refine Vm.rn (ai xRMap<|ai @Option.isSome_some.{0} @Vm.overD.eq_1) ?_;refine Vm.fy 0 xRMap ?_;refine Vm.fy 1 xRMap ?_;refine Vm.dv 10 [0,1,2,3,4,5,7,6,8,9] [0,0,2,0,15,31,0,63,255,511] ?_;refine Vm.rt xRMap ?_
   (have hh:=ai xRMap @Am.vt;(first | refine Vm.callQ_eq2 (mput_v l a b hl) (Vm.ct hh) (Vm.rt hh ?_) | refine Vm.call_eq2 (mput_v l a b hl) (Vm.ct hh) (Vm.rt hh ?_));clear hh)
   refine Vm.rn (ai xRMap @Vm.overD.eq_1) ?_;refine Vm.rz xRMap ?_;rw [show appM ⟨3,n,l⟩ 7 a b=⟨⟨3,0,setM l a b⟩,⟨2,v⟩,0⟩ from by simp [appM,h2,hf,rM]];simp [dAns,bad,z0,r0,dF,dR,Vm.dl8]
theorem map8_v (n a b:Int) (l:List Int) (hl:l.length<1000000000) (h2:checkS ⟨3,n,l⟩=0):Vm.VC T 162 [.agg (dS ⟨3,n,l⟩),.atom (.int .i64 8),.atom (.int .i64 a),.atom (.int .i64 b)] fun d=>d=dAns (appM ⟨3,n,l⟩ 8 a b):=by
 refine Vm.VC.dl ?_;refine Vm.ve (T:=T) Tryz.func162 fun g hB hG0 hU=>?_;simp only [Tryz.f162,Vm.aC,Vm.aN,Nat.reduceAdd];refine Vm.rn (ai xRMap @dS.eq_1) ?_;refine Vm.cq (ai xRMap<|ai @dS.eq_1 @h2) (check_v ⟨3,n,l⟩ hl) ?_
 by_cases h5:b=0
 ·subst h5;refine Vm.rn (ai xRMap @Vm.overD.eq_1) ?_;refine Vm.cq (ai xRMap @dFind.eq_1) (mfind_v l a hl) ?_
  cases hf:findM l a with
  | none =>
    refine Vm.rn (ai xRMap @Option.isSome_none.{0}) ?_;refine Vm.fy 0 xRMap ?_;refine Vm.fy 1 xRMap ?_;refine Vm.dv 10 [0,1,2,3,4,5,7,6,8,9] [0,0,2,0,15,31,0,63,255,511] ?_;refine Vm.rt xRMap ?_
    (have hh:=ai xRMap @Am.vt;(first | refine Vm.callQ_eq2 (msame_v l a hl) (Vm.ct hh) (Vm.rt hh ?_) | refine Vm.call_eq2 (msame_v l a hl) (Vm.ct hh) (Vm.rt hh ?_));clear hh)
    refine Vm.rn (ai xRMap @Vm.overD.eq_1) ?_;refine Vm.rz xRMap ?_;rw [show appM ⟨3,n,l⟩ 8 a 0=⟨⟨3,0,l⟩,⟨1,0⟩,0⟩ from by simp [appM,h2,hf,rM]];simp [dAns,bad,z0,r0,dF,dR,Vm.dl8]
  | some v =>
    refine Vm.rn (ai xRMap<|ai @Option.isSome_some.{0} @Vm.overD.eq_1) ?_;refine Vm.fy 0 xRMap ?_;refine Vm.fy 1 xRMap ?_;refine Vm.dv 10 [0,1,2,3,4,5,7,6,8,9] [0,0,2,0,15,31,0,63,255,511] ?_;refine Vm.rt xRMap ?_
    (have hh:=ai xRMap @Am.vt;(first | refine Vm.callQ_eq2 (msame_v l a hl) (Vm.ct hh) (Vm.rt hh ?_) | refine Vm.call_eq2 (msame_v l a hl) (Vm.ct hh) (Vm.rt hh ?_));clear hh)
    refine Vm.rn (ai xRMap @Vm.overD.eq_1) ?_;refine Vm.rz xRMap ?_;rw [show appM ⟨3,n,l⟩ 8 a 0=⟨⟨3,0,l⟩,⟨2,v⟩,0⟩ from by simp [appM,h2,hf,rM]];simp [dAns,bad,z0,r0,dF,dR,Vm.dl8]
 ·refine Vm.rn (ai xRMap<|ai @h5 @Vm.overD.eq_1) ?_;refine Vm.rz xRMap ?_;rw [show appM ⟨3,n,l⟩ 8 a b=bad 2 from by simp [appM,h2,h5]];simp [dAns,bad,z0,r0,dF,dR,Vm.dl8]
theorem map9_v (n a b:Int) (l:List Int) (hl:l.length<1000000000) (h2:checkS ⟨3,n,l⟩=0):Vm.VC T 162 [.agg (dS ⟨3,n,l⟩),.atom (.int .i64 9),.atom (.int .i64 a),.atom (.int .i64 b)] fun d=>d=dAns (appM ⟨3,n,l⟩ 9 a b):=by
 refine Vm.VC.dl ?_;refine Vm.ve (T:=T) Tryz.func162 fun g hB hG0 hU=>?_;simp only [Tryz.f162,Vm.aC,Vm.aN,Nat.reduceAdd];refine Vm.rn (ai xRMap @dS.eq_1) ?_;refine Vm.cq (ai xRMap<|ai @dS.eq_1 @h2) (check_v ⟨3,n,l⟩ hl) ?_
 by_cases h5:b=0
 ·subst h5;refine Vm.rn (ai xRMap @Vm.overD.eq_1) ?_;refine Vm.cq (ai xRMap @dFind.eq_1) (mfind_v l a hl) ?_
  cases hf:findM l a with
  | none =>
    refine Vm.rn (ai xRMap @Option.isSome_none.{0}) ?_;refine Vm.fy 0 xRMap ?_;refine Vm.fy 1 xRMap ?_;refine Vm.dv 10 [0,1,2,3,4,5,7,6,8,9] [0,0,2,0,15,31,0,63,255,511] ?_;refine Vm.rt xRMap ?_
    (have hh:=ai xRMap @Am.vt;(first | refine Vm.callQ_eq2 (mdrop_v l a hl) (Vm.ct hh) (Vm.rt hh ?_) | refine Vm.call_eq2 (mdrop_v l a hl) (Vm.ct hh) (Vm.rt hh ?_));clear hh)
    refine Vm.rn (ai xRMap @Vm.overD.eq_1) ?_;refine Vm.rz xRMap ?_;rw [show appM ⟨3,n,l⟩ 9 a 0=⟨⟨3,0,dropM l a⟩,⟨1,0⟩,0⟩ from by simp [appM,h2,hf,rM]];simp [dAns,bad,z0,r0,dF,dR,Vm.dl8]
  | some v =>
    refine Vm.rn (ai xRMap<|ai @Option.isSome_some.{0} @Vm.overD.eq_1) ?_;refine Vm.fy 0 xRMap ?_;refine Vm.fy 1 xRMap ?_;refine Vm.dv 10 [0,1,2,3,4,5,7,6,8,9] [0,0,2,0,15,31,0,63,255,511] ?_;refine Vm.rt xRMap ?_
    (have hh:=ai xRMap @Am.vt;(first | refine Vm.callQ_eq2 (mdrop_v l a hl) (Vm.ct hh) (Vm.rt hh ?_) | refine Vm.call_eq2 (mdrop_v l a hl) (Vm.ct hh) (Vm.rt hh ?_));clear hh)
    refine Vm.rn (ai xRMap @Vm.overD.eq_1) ?_;refine Vm.rz xRMap ?_;rw [show appM ⟨3,n,l⟩ 9 a 0=⟨⟨3,0,dropM l a⟩,⟨2,v⟩,0⟩ from by simp [appM,h2,hf,rM]];simp [dAns,bad,z0,r0,dF,dR,Vm.dl8]
 ·refine Vm.rn (ai xRMap<|ai @h5 @Vm.overD.eq_1) ?_;refine Vm.rz xRMap ?_;rw [show appM ⟨3,n,l⟩ 9 a b=bad 2 from by simp [appM,h2,h5]];simp [dAns,bad,z0,r0,dF,dR,Vm.dl8]
theorem mapBad_v (s:Sta) (k a b:Int) (hl:s.l.length<1000000000) (h:s.t≠3∨checkS s≠0∨k<7∨9<k):Vm.VC T 162 [.agg (dS s),.atom (.int .i64 k),.atom (.int .i64 a),.atom (.int .i64 b)] fun d=>d=dAns (appM s k a b):=by
 refine Vm.VC.dl ?_;refine Vm.ve (T:=T) Tryz.func162 fun g hB hG0 hU=>?_;simp only [Tryz.f162,Vm.aC,Vm.aN,Nat.reduceAdd];obtain ⟨t,n,l⟩:=s;dsimp only at hl h
 by_cases h1:t=3
 ·subst h1;refine Vm.rn (ai xRMap @dS.eq_1) ?_;refine Vm.cq (ai xRMap @dS.eq_1) (check_v ⟨3,n,l⟩ hl) ?_;refine Vm.sb_dec (fun h2=>?_) (fun h2=>?_)
  ·refine Vm.rn (ai xRMap @Vm.overD.eq_1) ?_;refine Vm.rz xRMap ?_;rw [show appM ⟨3,n,l⟩ k a b=bad 12 from by simp [appM,h2]];simp [dAns,bad,z0,r0,dF,dR,Vm.dl8]
  by_cases h3:k<7
  ·refine Vm.rn (ai xRMap<|ai @h3 @Vm.overD.eq_1) ?_;refine Vm.rz xRMap ?_;rw [show appM ⟨3,n,l⟩ k a b=bad 6 from by simp [appM,h2,h3]];simp [dAns,bad,z0,r0,dF,dR,Vm.dl8]
  have h4:9<k:=by
   rcases h with h | h | h | h
   ·exact absurd rfl h
   ·exact absurd (Decidable.not_not.1 h2) h
   ·exact absurd h h3
   ·exact h
  refine Vm.rn (ai xRMap<|ai @h3<|ai @h4 @Vm.overD.eq_1) ?_;refine Vm.rz xRMap ?_;rw [show appM ⟨3,n,l⟩ k a b=bad 6 from by simp [appM,h2,h3,h4]];simp [dAns,bad,z0,r0,dF,dR,Vm.dl8]
 ·refine Vm.rn (ai xRMap<|ai @dS.eq_1<|ai @h1 @Vm.overD.eq_1) ?_;refine Vm.rz xRMap ?_;rw [show appM ⟨t,n,l⟩ k a b=bad 12 from by simp [appM,h1]];simp [dAns,bad,z0,r0,dF,dR,Vm.dl8]
theorem map_v (s:Sta) (k a b:Int) (hl:s.l.length<1000000000):Vm.VC T 162 [.agg (dS s),.atom (.int .i64 k),.atom (.int .i64 a),.atom (.int .i64 b)] fun d=>d=dAns (appM s k a b):=by
 by_cases h:s.t≠3∨checkS s≠0∨k<7∨9<k
 ·exact mapBad_v s k a b hl h
 obtain ⟨t,n,l⟩:=s;dsimp only at hl h;simp only [not_or,Decidable.not_not] at h;obtain ⟨rfl,h2,h3,h4⟩:=h;have hc:k=7∨k=8∨k=9:=by omega
 rcases hc with rfl | rfl | rfl
 ·exact map7_v n a b l hl h2
 ·exact map8_v n a b l hl h2
 ·exact map9_v n a b l hl h2
set_option linter.defProp false in
def xRMap2:=ai @nlR_dI<|ai @Vm.nlR_append @Vm.dl8
theorem toNat_1 (i:Nat):((i:Int)+1).toNat=i+1:=by omega
theorem prs_get:∀ {l:List Int} {j:Nat} {p:Int×Int},(prs l)[j]?=some p→l[2 * j]?=some p.1∧l[2 * j+1]?=some p.2
 | [],j,p,h=>by simp [prs] at h
 | [_],j,p,h=>by simp [prs] at h
 | k::v::l,0,p,h=>by simp [prs] at h;subst h;exact ⟨rfl,rfl⟩
 | k::v::l,j+1,p,h=>by
   simp only [prs,List.getElem?_cons_succ] at h;have:=prs_get h;have e:2 * (j+1)=2 * j+1+1:=by omega
   rw [e];simpa using this
theorem prs_at {l:List Int} {j:Nat} (h:2 * j+1<l.length):∃ p,(prs l)[j]?=some p∧(l.map dI)[2 * j]?=some (dI p.1)∧(l.map dI)[2 * j+1]?=some (dI p.2):=by
 have hj:j<(prs l).length:=by rw [prs_len];omega
 have hp:=List.getElem?_eq_getElem hj;obtain ⟨h1,h2⟩:=prs_get hp;exact ⟨_,hp,by rw [List.getElem?_map,h1];rfl,by rw [List.getElem?_map,h2];rfl⟩
theorem rfind_v (l:List Int) (k:Int) (hl:l.length<1000000000):Vm.VC T 165 [.imm 1 (l.map dI),.atom (.int .i64 k)] fun d=>d=dFind (findM l k):=by
 refine Vm.ve (T:=T) Tryz.func165 fun g hB hG0 hU=>?_;simp only [Tryz.f165,Vm.aC,Vm.aN,Nat.reduceAdd];refine Vm.rn (ai xRMap2 @toNat_1) ?_;refine Vm.sk_loop (fun i:Nat=>l.length+2 - i) (fun i=>⟨[(6,.atom (.int .i64 i)),(0,.imm 1 (l.map dI)),(1,.atom (.int .i64 k))],[],25⟩) (fun i=>∃ j,i=2 * j∧i≤l.length+1∧∀ j' p,j'<j→(prs l)[j']?=some p→p.1≠k) 0 ?_ ⟨0,rfl,by omega,fun j p h=>by omega⟩ ?_
 ·exact Vm.lx (Vm.cl (ai xRMap2 @toNat_1))
 rintro i ⟨j,hi,hle,hne⟩ ih;refine Vm.rn (ai xRMap2 @toNat_1) ?_;refine Vm.sb_dec (fun hlt=>?_) (fun hge=>?_)
 ·obtain ⟨p,hp,h1,h2⟩:=prs_at (l:=l) (j:=j) (by omega);rw [← hi] at h1 h2;refine Vm.rn (ai xRMap2<|ai @toNat_1<|ai @h1 @dI.eq_1) ?_;refine Vm.sb_dec (fun he=>?_) (fun he=>?_)
  ·refine Vm.rn (ai xRMap2<|ai @toNat_1<|ai @h2 @dI.eq_1) ?_;refine Vm.rz (ai xRMap2<|ai @toNat_1 @dFind.eq_1) ?_;rw [findM_at hp he hne];rfl
  ·refine Vm.rn (ai xRMap2 @toNat_1) ?_;refine ih (i+2) _ (by dsimp only;omega) ⟨j+1,by omega,by omega,fun j' q hj hq=>?_⟩ ?_
   ·rcases Nat.lt_or_ge j' j with h | h
    ·exact hne j' q h hq
    ·have:j'=j:=by omega
     subst this;rw [hp] at hq;cases hq;exact he
   exact Vm.lx (Vm.cl (ai xRMap2 @toNat_1))
 ·refine Vm.rn (ai xRMap2 @toNat_1) ?_;refine Vm.rz (ai xRMap2<|ai @toNat_1 @dFind.eq_1) ?_;rw [findM_none (k:=k) (fun j' q hj hq=>hne j' q (by rw [prs_len] at hj;omega) hq)];rfl
theorem rdrop_v (l:List Int) (k:Int) (hl:l.length<1000000000):Vm.VC T 148 [.imm 1 (l.map dI),.atom (.int .i64 k)] fun d=>d=.fresh 1 ((dropM l k).map dI):=by
 refine Vm.ve (T:=T) Tryz.func148 fun g hB hG0 hU=>?_;simp only [Tryz.f148,Vm.aC,Vm.aN,Nat.reduceAdd];refine Vm.rn (ai xRMap2 @toNat_1) ?_;refine Vm.sk_nil 5 1 (by rfl) ?_;refine Vm.sk_loop (fun q:Nat×List (Int×Int)=>l.length+2 - q.1) (fun q=>⟨[(6,.atom (.int .i64 q.1)),(5,.own 0 (unprs q.2).length),(0,.imm 1 (l.map dI)),(1,.atom (.int .i64 k))],[.sl 1 ((unprs q.2).map dI)],33⟩) (fun q=>∃ j,q.1=2 * j∧q.1≤l.length+1∧q.2=((prs l).take j).filter fun p=>decide (p.1≠k)) (0,[]) ?_ ⟨0,rfl,by omega,rfl⟩ ?_
 ·exact Vm.lx (Vm.cl (ai xRMap2<|ai @toNat_1<|ai @unprs.eq_1 @unprs.eq_2))
 rintro ⟨i,ys⟩ ⟨j,hi,hle,hys⟩ ih;dsimp only at hi hle hys;have hb:=prs_bound hl (fun p=>decide (p.1≠k)) j;rw [← hys] at hb;refine Vm.rn (ai xRMap2 @toNat_1) ?_;refine Vm.sb_dec (fun hlt=>?_) (fun hge=>?_)
 ·obtain ⟨p,hp,h1,h2⟩:=prs_at (l:=l) (j:=j) (by omega);rw [← hi] at h1 h2;have hf:=filter_take (p:=fun p:Int×Int=>decide (p.1≠k)) hp;rw [← hys] at hf;refine Vm.rn (ai xRMap2<|ai @toNat_1<|ai @h1 @dI.eq_1) ?_;refine Vm.sb_dec (fun he=>?_) (fun he=>?_)
  ·refine Vm.rn (ai xRMap2 @toNat_1) ?_;refine Vm.dw 13 [0,1,2,3,4,5,6,7,8,9,10,11,12] ?_;refine Vm.rn (ai xRMap2<|ai @toNat_1<|ai @h1<|ai @h2<|ai @dI.eq_1<|ai @lit_12<|ai @lit_r2 @Vm.overD.eq_1) ?_;refine Vm.rn (ai xRMap2 @toNat_1) ?_;refine ih (i+2,ys++[p]) _ (by dsimp only;omega) ⟨j+1,by dsimp only;omega,by dsimp only;omega,by rw [hf];simp [he]⟩ ?_;exact Vm.lx (Vm.cl (ai xRMap2<|ai @toNat_1<|ai @unprs_app<|ai @unprs.eq_1<|ai @unprs.eq_2<|ai @dI.eq_1 @List.map_append.{0,0}))
  ·refine Vm.rn (ai xRMap2 @toNat_1) ?_;refine ih (i+2,ys) _ (by dsimp only;omega) ⟨j+1,by dsimp only;omega,by dsimp only;omega,by rw [hf];simp [he]⟩ ?_;exact Vm.lx (Vm.cl (ai xRMap2 @toNat_1))
 ·refine Vm.rn (ai xRMap2 @toNat_1) ?_;refine Vm.rz (ai xRMap2<|ai @toNat_1<|ai @dropM.eq_1 @dropP.eq_1) ?_;rw [hys,List.take_of_length_le (by rw [prs_len];omega)]
theorem rdropI_v (l:List Int) (k:Int) (hl:l.length<1000000000):Vm.VC T 148 [.imm 1 (l.map dI),.atom (.int .i64 k)] fun d=>d=.imm 1 ((dropM l k).map dI):=by
 refine (rdrop_v l k hl).im.mono fun d ⟨e,he,hd⟩=>?_;subst he;simp only [Vm.imL,Vm.D.im,List.cons.injEq,and_true] at hd;rw [← hd];congr 1;exact imLL_I _
theorem insP_cut {ps:List (Int×Int)} {k v:Int} {j:Nat} (h1:∀ p,p∈ps.take j→decide (p.1<k)=true) (h2:∀ p,ps[j]?=some p→¬ p.1<k):insP ps k v=ps.take j++(k,v)::ps.drop j:=by
 have e:=take_all h1 (ps.drop j);rw [List.take_append_drop] at e
 have h3:(ps.drop j).takeWhile (fun p=>decide (p.1<k))=[]∧(ps.drop j).dropWhile (fun p=>decide (p.1<k))=ps.drop j:=by
  cases hd:ps.drop j with
  | nil=>exact ⟨rfl,rfl⟩
  | cons p qs =>
    have hp:ps[j]?=some p:=by
     have:=List.getElem?_drop (xs:=ps) (i:=j) (j:=0);rw [hd] at this;exact this.symm
    have:=h2 p hp;simp [List.takeWhile_cons,List.dropWhile_cons,this]
 rw [insP,e.1,e.2,h3.1,h3.2,List.append_nil]
theorem unprs_drop:∀ (ps:List (Int×Int)) (j:Nat),(unprs ps).drop (2 * j)=unprs (ps.drop j)
 | [],j=>by simp [unprs]
 | p::ps,0=>rfl
 | p::ps,j+1=>by
   have e:2 * (j+1)=2 * j+1+1:=by omega
   rw [e];simp only [unprs,List.drop_succ_cons];exact unprs_drop ps j
theorem rset_v (l:List Int) (k v:Int) (hl:l.length<1000000000):Vm.VC T 147 [.imm 1 (l.map dI),.atom (.int .i64 k),.atom (.int .i64 v)] fun d=>d=.fresh 1 ((setM l k v).map dI):=by
 have hd:(dropM l k).length<1000000000:=by
  rw [dropM,unprs_len,dropP];have h1:=List.length_filter_le (fun p:Int×Int=>decide (p.1≠k)) (prs l);rw [prs_len] at h1;omega
 have ep:prs (dropM l k)=dropP l k:=prs_unprs _;refine Vm.ve (T:=T) Tryz.func147 fun g hB hG0 hU=>?_;simp only [Tryz.f147,Vm.aC,Vm.aN,Nat.reduceAdd];refine Vm.rn (ai xRMap2 @toNat_1) ?_
 (have hh:=ai xRMap2 @toNat_1;refine Vm.call_eqI2 (rdropI_v l k hl) (Vm.cl hh) (Vm.rn hh ?_);clear hh)
 refine Vm.sk_nil 8 1 (by rfl) ?_;have eu:dropM l k=unprs (dropP l k):=rfl;rw [setM];rw [eu] at hd ⊢;have hpl:=unprs_len (dropP l k);have hat:=fun j=>prs_at (l:=unprs (dropP l k)) (j:=j);rw [prs_unprs] at hat;generalize dropP l k=ps at hd hpl hat;refine Vm.sk_loop (fun q:Nat×List (Int×Int)=>(unprs ps).length+2 - q.1) (fun q=>⟨[(9,.atom (.int .i64 q.1)),(8,.own 0 (unprs q.2).length),(7,.imm 1 ((unprs ps).map dI)),(1,.atom (.int .i64 k)),(2,.atom (.int .i64 v))],[.sl 1 ((unprs q.2).map dI)],49⟩) (fun q=>∃ j,q.1=2 * j∧j≤ps.length∧q.2=ps.take j∧∀ p,p∈ps.take j→decide (p.1<k)=true) (0,[]) ?_ ⟨0,rfl,by omega,rfl,fun p h=>by simp at h⟩ ?_
 ·exact Vm.lx (Vm.cl (ai xRMap2<|ai @toNat_1<|ai @unprs.eq_1 @unprs.eq_2))
 rintro ⟨i,ys⟩ ⟨j,hi,hj,hys,hp⟩ ih;dsimp only at hi hys;have hb:(unprs ys).length<2000000000:=by rw [hys,unprs_len,List.length_take];omega
 have fin:(∀ p,ps[j]?=some p→¬ p.1<k)→insP ps k v=ys++(k,v)::ps.drop j:=fun h=>by rw [hys];exact insP_cut hp h
 have hdr:((unprs ps).map dI).drop i=(unprs (ps.drop j)).map dI:=by rw [← List.map_drop,hi,unprs_drop]
 have hdl:(unprs (ps.drop j)).length=(unprs ps).length - i:=by rw [unprs_len,List.length_drop];omega
 have htk:((unprs ps).map dI).take (unprs ps).length=(unprs ps).map dI:=List.take_of_length_le (by simp)
 by_cases hc:2 * j+1<(unprs ps).length
 ·obtain ⟨p,hpj,h1,h2⟩:=hat j hc;rw [← hi] at h1 h2;have hc2:(i:Int)+1<((unprs ps).length:Int):=by omega
  by_cases hk:p.1<k
  ·refine Vm.rn (ai xRMap2<|ai @toNat_1<|ai @hc2<|ai @h1<|ai @dI.eq_1 @hk) ?_;refine Vm.dw 13 [0,1,2,3,4,5,6,7,8,9,10,11,12] ?_;refine Vm.rn (ai xRMap2<|ai @toNat_1<|ai @h1<|ai @h2<|ai @dI.eq_1<|ai @lit_12<|ai @lit_r2 @Vm.overD.eq_1) ?_;refine Vm.rn (ai xRMap2 @toNat_1) ?_;refine ih (i+2,ys++[p]) _ (by dsimp only;omega) ⟨j+1,by dsimp only;omega,by omega,?_,?_⟩ ?_
   ·rw [hys,List.take_add_one,hpj];rfl
   ·intro q hq;rw [List.take_add_one,hpj] at hq;rcases List.mem_append.1 hq with hq | hq
    ·exact hp q hq
    ·have:q=p:=by simpa using hq
     subst this;simpa using hk
   exact Vm.lx (Vm.cl (ai xRMap2<|ai @toNat_1<|ai @unprs_app<|ai @unprs.eq_1<|ai @unprs.eq_2<|ai @dI.eq_1 @List.map_append.{0,0}))
  ·rw [fin fun q hq=>by rw [hpj] at hq;cases hq;exact hk];refine Vm.rn (ai xRMap2<|ai @toNat_1<|ai @hc2<|ai @h1<|ai @dI.eq_1 @hk) ?_;refine Vm.dw 10 [0,1,2,3,4,5,6,7,8,9] ?_;refine Vm.rn (ai xRMap2<|ai @toNat_1<|ai @lit_12<|ai @lit_r2<|ai @Vm.overD.eq_1<|ai @htk @hdr) ?_;refine Vm.rn (ai xRMap2 @toNat_1) ?_;refine Vm.rz (ai xRMap2 @toNat_1) ?_;simp [unprs_app,unprs,dI]
 ·have hc2:¬ (i:Int)+1<((unprs ps).length:Int):=by omega
  rw [fin fun q hq=>by have:=List.getElem?_eq_none (l:=ps) (i:=j) (by omega);rw [this] at hq;cases hq];refine Vm.rn (ai xRMap2<|ai @toNat_1 @hc2) ?_;refine Vm.dw 10 [0,1,2,3,4,5,6,7,8,9] ?_;refine Vm.rn (ai xRMap2<|ai @toNat_1<|ai @lit_12<|ai @lit_r2<|ai @Vm.overD.eq_1<|ai @htk @hdr) ?_;refine Vm.rn (ai xRMap2 @toNat_1) ?_;refine Vm.rz (ai xRMap2 @toNat_1) ?_;simp [unprs_app,unprs,dI]
theorem had_v (l:List Int) (k:Int) (hl:l.length<1000000000):Vm.VC T 149 [.imm 1 (l.map dI),.atom (.int .i64 k)] fun d=>d=.agg (dR (rM (findM l k))):=by
 refine Vm.ve (T:=T) Tryz.func149 fun g hB hG0 hU=>?_;simp only [Tryz.f149,Vm.aC,Vm.aN,Nat.reduceAdd];refine Vm.rn (ai xRMap2 @toNat_1) ?_;refine Vm.cq (ai xRMap2<|ai @toNat_1 @dFind.eq_1) (rfind_v l k hl) ?_
 cases hf:findM l k with
 | none =>
   refine Vm.rn (ai xRMap2<|ai @toNat_1<|ai @Option.isSome_none.{0} @Vm.overD.eq_1) ?_;exact Vm.rx (Vm.cl (ai xRMap2<|ai @toNat_1<|ai @rM.eq_1<|ai @rM.eq_2 @dR.eq_1))
 | some v =>
   refine Vm.rn (ai xRMap2<|ai @toNat_1<|ai @Option.isSome_some.{0} @Vm.overD.eq_1) ?_;exact Vm.rx (Vm.cl (ai xRMap2<|ai @toNat_1<|ai @rM.eq_1<|ai @rM.eq_2 @dR.eq_1))
theorem rmap7_v (n a b:Int) (l:List Int) (hl:l.length<1000000000) (h2:checkS ⟨3,n,l⟩=0) (hb:7≠7→b=0):Vm.VC T 119 [.agg (dS ⟨3,n,l⟩),.atom (.int .i64 7),.atom (.int .i64 a),.atom (.int .i64 b)] fun d=>d=dAns (appM ⟨3,n,l⟩ 7 a b):=by
 refine Vm.VC.dl ?_;refine Vm.ve (T:=T) Tryz.func119 fun g hB hG0 hU=>?_;simp only [Tryz.f119,Vm.aC,Vm.aN,Nat.reduceAdd];refine Vm.rn (ai xRMap2<|ai @toNat_1 @dS.eq_1) ?_;refine Vm.cq (ai xRMap2<|ai @toNat_1<|ai @dS.eq_1 @h2) (refCheck_v ⟨3,n,l⟩ hl) ?_;refine Vm.rn (ai xRMap2<|ai @toNat_1 @Vm.overD.eq_1) ?_;refine Vm.cq (ai xRMap2<|ai @toNat_1 @Vm.overD.eq_1) (rset_v l a b hl) ?_;refine Vm.fy 0 (ai xRMap2<|ai @toNat_1 @fz_I) ?_;refine Vm.dv 8 [1,2,3,4,0,5,6,7] [0,0,2,0,14,31,63,127] ?_;refine Vm.rt (ai xRMap2 @toNat_1) ?_
 (have hh:=ai xRMap2<|ai @toNat_1<|ai @Am.vt @dR.eq_1;(first | refine Vm.callQ_eq2 (had_v l a hl) (Vm.ct hh) (Vm.rt hh ?_) | refine Vm.call_eq2 (had_v l a hl) (Vm.ct hh) (Vm.rt hh ?_));clear hh)
 refine Vm.rn (ai xRMap2<|ai @toNat_1 @Vm.overD.eq_1) ?_;rw [show appM ⟨3,n,l⟩ 7 a b=⟨⟨3,0,setM l a b⟩,rM (findM l a),0⟩ from by simp [appM,h2]];exact Vm.rx (Vm.cl (ai xRMap2<|ai @toNat_1<|ai @dAns.eq_1<|ai @dF.eq_1 @dR.eq_1))
theorem rmap9_v (n a b:Int) (l:List Int) (hl:l.length<1000000000) (h2:checkS ⟨3,n,l⟩=0) (hb:9≠7→b=0):Vm.VC T 119 [.agg (dS ⟨3,n,l⟩),.atom (.int .i64 9),.atom (.int .i64 a),.atom (.int .i64 b)] fun d=>d=dAns (appM ⟨3,n,l⟩ 9 a b):=by
 refine Vm.VC.dl ?_;refine Vm.ve (T:=T) Tryz.func119 fun g hB hG0 hU=>?_;simp only [Tryz.f119,Vm.aC,Vm.aN,Nat.reduceAdd];refine Vm.rn (ai xRMap2<|ai @toNat_1 @dS.eq_1) ?_;refine Vm.cq (ai xRMap2<|ai @toNat_1<|ai @dS.eq_1 @h2) (refCheck_v ⟨3,n,l⟩ hl) ?_;obtain rfl:=hb (by decide);refine Vm.rn (ai xRMap2<|ai @toNat_1 @Vm.overD.eq_1) ?_;refine Vm.cq (ai xRMap2<|ai @toNat_1 @Vm.overD.eq_1) (rdrop_v l a hl) ?_;refine Vm.fy 0 (ai xRMap2<|ai @toNat_1 @fz_I) ?_;refine Vm.dv 8 [1,2,3,4,0,5,6,7] [0,0,2,0,14,31,63,127] ?_;refine Vm.rt (ai xRMap2 @toNat_1) ?_
 (have hh:=ai xRMap2<|ai @toNat_1<|ai @Am.vt @dR.eq_1;(first | refine Vm.callQ_eq2 (had_v l a hl) (Vm.ct hh) (Vm.rt hh ?_) | refine Vm.call_eq2 (had_v l a hl) (Vm.ct hh) (Vm.rt hh ?_));clear hh)
 refine Vm.rn (ai xRMap2<|ai @toNat_1 @Vm.overD.eq_1) ?_;rw [show appM ⟨3,n,l⟩ 9 a 0=⟨⟨3,0,dropM l a⟩,rM (findM l a),0⟩ from by simp [appM,h2]];exact Vm.rx (Vm.cl (ai xRMap2<|ai @toNat_1<|ai @dAns.eq_1<|ai @dF.eq_1 @dR.eq_1))
theorem rmap8_v (n a b:Int) (l:List Int) (hl:l.length<1000000000) (h2:checkS ⟨3,n,l⟩=0) (hb:8≠7→b=0):Vm.VC T 119 [.agg (dS ⟨3,n,l⟩),.atom (.int .i64 8),.atom (.int .i64 a),.atom (.int .i64 b)] fun d=>d=dAns (appM ⟨3,n,l⟩ 8 a b):=by
 refine Vm.VC.dl ?_;refine Vm.ve (T:=T) Tryz.func119 fun g hB hG0 hU=>?_;simp only [Tryz.f119,Vm.aC,Vm.aN,Nat.reduceAdd];refine Vm.rn (ai xRMap2<|ai @toNat_1 @dS.eq_1) ?_;refine Vm.cq (ai xRMap2<|ai @toNat_1<|ai @dS.eq_1 @h2) (refCheck_v ⟨3,n,l⟩ hl) ?_;obtain rfl:=hb (by decide);refine Vm.rn (ai xRMap2<|ai @toNat_1 @Vm.overD.eq_1) ?_;refine Vm.fy 0 (ai xRMap2<|ai @toNat_1 @fz_I) ?_;refine Vm.dv 8 [1,2,3,4,0,5,6,7] [0,0,2,0,14,31,63,127] ?_;refine Vm.rt (ai xRMap2 @toNat_1) ?_
 (have hh:=ai xRMap2<|ai @toNat_1<|ai @Am.vt @dR.eq_1;(first | refine Vm.callQ_eq2 (had_v l a hl) (Vm.ct hh) (Vm.rt hh ?_) | refine Vm.call_eq2 (had_v l a hl) (Vm.ct hh) (Vm.rt hh ?_));clear hh)
 refine Vm.rn (ai xRMap2<|ai @toNat_1 @Vm.overD.eq_1) ?_;rw [show appM ⟨3,n,l⟩ 8 a 0=⟨⟨3,0,l⟩,rM (findM l a),0⟩ from by simp [appM,h2]];exact Vm.rx (Vm.cl (ai xRMap2<|ai @toNat_1<|ai @dAns.eq_1<|ai @dF.eq_1 @dR.eq_1))
theorem rmapBad_v (s:Sta) (k a b:Int) (hl:s.l.length<1000000000) (h:s.t≠3∨checkS s≠0∨k<7∨9<k∨(k≠7∧b≠0)):Vm.VC T 119 [.agg (dS s),.atom (.int .i64 k),.atom (.int .i64 a),.atom (.int .i64 b)] fun d=>d=dAns (appM s k a b):=by
 refine Vm.VC.dl ?_;refine Vm.ve (T:=T) Tryz.func119 fun g hB hG0 hU=>?_;simp only [Tryz.f119,Vm.aC,Vm.aN,Nat.reduceAdd];obtain ⟨t,n,l⟩:=s;dsimp only at hl h
 by_cases h1:t=3
 ·subst h1;refine Vm.rn (ai xRMap2<|ai @toNat_1 @dS.eq_1) ?_;refine Vm.cq (ai xRMap2<|ai @toNat_1 @dS.eq_1) (refCheck_v ⟨3,n,l⟩ hl) ?_;refine Vm.sb_dec (fun h2=>?_) (fun h2=>?_)
  ·refine Vm.rn (ai xRMap2<|ai @toNat_1 @Vm.overD.eq_1) ?_;refine Vm.rz (ai xRMap2 @toNat_1) ?_;rw [show appM ⟨3,n,l⟩ k a b=bad 12 from by simp [appM,h2]];simp [dAns,bad,z0,r0,dF,dR,Vm.dl8]
  by_cases h3:k<7
  ·refine Vm.rn (ai xRMap2<|ai @toNat_1<|ai @h3 @Vm.overD.eq_1) ?_;refine Vm.rz (ai xRMap2 @toNat_1) ?_;rw [show appM ⟨3,n,l⟩ k a b=bad 6 from by simp [appM,h2,h3]];simp [dAns,bad,z0,r0,dF,dR,Vm.dl8]
  by_cases h4:9<k
  ·refine Vm.rn (ai xRMap2<|ai @toNat_1<|ai @h3<|ai @h4 @Vm.overD.eq_1) ?_;refine Vm.rz (ai xRMap2 @toNat_1) ?_;rw [show appM ⟨3,n,l⟩ k a b=bad 6 from by simp [appM,h2,h3,h4]];simp [dAns,bad,z0,r0,dF,dR,Vm.dl8]
  obtain ⟨h5,h6⟩:k≠7∧b≠0:=by
   rcases h with h | h | h | h | h
   ·exact absurd rfl h
   ·exact absurd (Decidable.not_not.1 h2) h
   ·exact absurd h h3
   ·exact absurd h h4
   ·exact h
  refine Vm.rn (ai xRMap2<|ai @toNat_1<|ai @h3<|ai @h4<|ai @h5<|ai @h6 @Vm.overD.eq_1) ?_;refine Vm.rz (ai xRMap2 @toNat_1) ?_;rw [show appM ⟨3,n,l⟩ k a b=bad 2 from by simp [appM,h2,h3,h4,h5,h6]];simp [dAns,bad,z0,r0,dF,dR,Vm.dl8]
 ·refine Vm.rn (ai xRMap2<|ai @toNat_1<|ai @dS.eq_1<|ai @h1 @Vm.overD.eq_1) ?_;refine Vm.rz (ai xRMap2 @toNat_1) ?_;rw [show appM ⟨t,n,l⟩ k a b=bad 12 from by simp [appM,h1]];simp [dAns,bad,z0,r0,dF,dR,Vm.dl8]
theorem refMap_v (s:Sta) (k a b:Int) (hl:s.l.length<1000000000):Vm.VC T 119 [.agg (dS s),.atom (.int .i64 k),.atom (.int .i64 a),.atom (.int .i64 b)] fun d=>d=dAns (appM s k a b):=by
 by_cases h:s.t≠3∨checkS s≠0∨k<7∨9<k∨(k≠7∧b≠0)
 ·exact rmapBad_v s k a b hl h
 obtain ⟨t,n,l⟩:=s;dsimp only at hl h;simp only [not_or,Decidable.not_not,not_and] at h;obtain ⟨rfl,h2,h3,h4,h5⟩:=h;have hc:k=7∨k=8∨k=9:=by omega
 rcases hc with rfl | rfl | rfl
 ·exact rmap7_v n a b l hl h2 fun h=>absurd rfl h
 ·exact rmap8_v n a b l hl h2 fun _=>h5 (by decide)
 ·exact rmap9_v n a b l hl h2 fun _=>h5 (by decide)
end Go.Proofs.YtphjohoipocpnaaGreat.W
