import Derived.Test.YtphjohoipocpnaaGreatRkI
import Derived.Test.YtphjohoipocpnaaGreatRkF
import Derived.Test.YtphjohoipocpnaaGreatRkG
set_option linter.unusedSimpArgs false
set_option linter.unusedVariables false
set_option maxRecDepth 8000
/- What an operation that may be makes of a state that may be: a state of its type that may be. No conditions. -/
namespace Go.Proofs.YtphjohoipocpnaaGreat.W
open Go.Am
theorem rises_pw {l:List Int}:Rises l 1↔l.Pairwise (· < ·):=by
 rw [List.pairwise_iff_getElem]
 constructor
 · intro h i j hi hj hij
   have:=rises_mono h hij hj
   simpa [List.getD_eq_getElem?_getD,List.getElem?_eq_getElem hi,List.getElem?_eq_getElem hj] using this
 · intro h j hj
   rw [Nat.mul_one] at hj
   have:=h j (j + 1) (by omega) hj (by omega)
   simpa [List.getD_eq_getElem?_getD,List.getElem?_eq_getElem hj,List.getElem?_eq_getElem (show j < l.length by omega)] using this
theorem getD_el {l:List Int} {j:Nat} (h:j < l.length):l.getD j 0=l[j]:=by simp [List.getD_eq_getElem?_getD,List.getElem?_eq_getElem h]
theorem insS_rises {l:List Int} {x:Int} (h:Rises l 1):Rises (insS l x) 1:=by
 obtain ⟨h1,h2,h3⟩:=findS_rises (x:=x) h
 unfold insS
 cases hi:isS l x with
 | true=>exact h
 | false =>
   rw [if_neg (by simp),rises_pw,List.pairwise_append]
   have hp:=rises_pw.1 h
   have hlt:∀ a,a ∈ l.take (findS l x)→a < x:=by
    intro a ha
    obtain ⟨j,hj,rfl⟩:=List.mem_take_iff_getElem.1 ha
    have:=h2 j (by omega)
    rwa [getD_el (by omega)] at this
   have hgt:∀ b,b ∈ l.drop (findS l x)→x < b:=by
    intro b hb
    obtain ⟨j,hj,rfl⟩:=List.mem_drop_iff_getElem.1 hb
    have hle:=h3 (findS l x + j) (by omega) (by omega)
    rw [getD_el (by omega)] at hle
    have hne:l.getD (findS l x) 0 ≠ x:=by
     intro e
     have:isS l x=true:=by simp only [isS,Bool.and_eq_true,decide_eq_true_eq];exact ⟨by omega,e⟩
     rw [this] at hi;cases hi
    rcases Nat.eq_zero_or_pos j with rfl | hj0
    · rw [getD_el (by omega)] at hne
      simp only [Nat.add_zero] at hle ⊢
      omega
    · have h4:=h3 (findS l x) (Nat.le_refl _) (by omega)
      have h5:=rises_mono h (show findS l x < findS l x + j by omega) (by omega)
      rw [getD_el (by omega),getD_el (by omega)] at h5
      rw [getD_el (by omega)] at h4
      omega
   refine ⟨hp.sublist (List.take_sublist _ _),List.pairwise_cons.2 ⟨hgt,hp.sublist (List.drop_sublist _ _)⟩,fun a ha b hb=>?_⟩
   rcases List.mem_cons.1 hb with rfl | hb
   · exact hlt a ha
   · have:=hlt a ha;have:=hgt b hb;omega
theorem remS_rises {l:List Int} {x:Int} (h:Rises l 1):Rises (remS l x) 1:=by
 unfold remS
 split
 · rw [rises_pw] at h ⊢
   refine h.sublist ?_
   have:l=l.take (findS l x)++l.drop (findS l x):=(List.take_append_drop _ _).symm
   conv=>rhs;rw [this]
   exact List.Sublist.append (List.Sublist.refl _) (by rw [← List.drop_drop];exact List.drop_sublist _ _)
 · exact h
theorem unprs_at:∀ (ps:List (Int × Int)) (j:Nat),(unprs ps).getD (j * 2) 0=(ps.map (·.1)).getD (j * 1) 0
 | [],j=>by simp [unprs]
 | p::ps,0=>by simp [unprs]
 | p::ps,j + 1=>by
   have:=unprs_at ps j
   rw [show (j + 1) * 2=j * 2 + 1 + 1 by omega,show (j + 1) * 1=j * 1 + 1 by omega]
   simpa [unprs] using this
theorem rises_prs (ps:List (Int × Int)):Rises (unprs ps) 2↔(ps.map (·.1)).Pairwise (· < ·):=by
 rw [← rises_pw]
 unfold Rises
 simp only [unprs_at,unprs_len,List.length_map]
 constructor
 · intro h j hj;exact h j (by omega)
 · intro h j hj;exact h j (by omega)
theorem unprs_prs:∀ (l:List Int),l.length % 2=0→unprs (prs l)=l
 | [],_=>rfl
 | [_],h=>by simp at h
 | a::b::l,h=>by
   have:=unprs_prs l (by simp at h;omega)
   simp [prs,unprs,this]
theorem dropP_pw {l:List Int} {k:Int} (h:l.length % 2=0) (hr:Rises l 2):((dropP l k).map (·.1)).Pairwise (· < ·)∧∀ p,p ∈ dropP l k→p.1 ≠ k:=by
 rw [← unprs_prs l h,rises_prs] at hr
 refine ⟨hr.sublist (List.Sublist.map _ List.filter_sublist),fun p hp=>?_⟩
 have:=(List.mem_filter.1 hp).2
 simpa using this
theorem insP_pw {k v:Int}:∀ {ps:List (Int × Int)},(ps.map (·.1)).Pairwise (· < ·)→(∀ p,p ∈ ps→p.1 ≠ k)→((insP ps k v).map (·.1)).Pairwise (· < ·)
 | [],_,_=>by simp [insP]
 | p::ps,h,hn=>by
   obtain ⟨h1,h2⟩:=List.pairwise_cons.1 (show (p.1::ps.map (·.1)).Pairwise (· < ·) from h)
   by_cases e:p.1 < k
   · have ih:=insP_pw (k:=k) (v:=v) h2 fun q hq=>hn q (List.mem_cons_of_mem _ hq)
     have:insP (p::ps) k v=p::insP ps k v:=by simp [insP,List.takeWhile_cons,List.dropWhile_cons,e]
     rw [this,List.map_cons,List.pairwise_cons]
     refine ⟨fun a ha=>?_,ih⟩
     obtain ⟨q,hq,rfl⟩:=List.mem_map.1 ha
     unfold insP at hq
     rcases List.mem_append.1 hq with hq | hq
     · exact h1 _ (List.mem_map_of_mem ((List.takeWhile_sublist _).subset hq))
     · rcases List.mem_cons.1 hq with rfl | hq
       · exact e
       · exact h1 _ (List.mem_map_of_mem ((List.dropWhile_sublist _).subset hq))
   · have:insP (p::ps) k v=(k,v)::p::ps:=by simp [insP,List.takeWhile_cons,List.dropWhile_cons,e]
     rw [this,List.map_cons,List.pairwise_cons]
     have hp:=hn p (by simp)
     refine ⟨fun a ha=>?_,h⟩
     rw [List.map_cons] at ha
     rcases List.mem_cons.1 ha with rfl | ha
     · omega
     · have:=h1 a ha;omega
theorem dropM_ok {l:List Int} {k:Int} (h:l.length % 2=0) (hr:Rises l 2):(dropM l k).length % 2=0∧Rises (dropM l k) 2:=
 ⟨by rw [dropM,unprs_len];omega,by rw [dropM,rises_prs];exact (dropP_pw h hr).1⟩
theorem setM_ok {l:List Int} {k v:Int} (h:l.length % 2=0) (hr:Rises l 2):(setM l k v).length % 2=0∧Rises (setM l k v) 2:=
 ⟨by rw [setM,unprs_len];omega,by rw [setM,rises_prs];exact insP_pw (dropP_pw h hr).1 (dropP_pw h hr).2⟩
def Keep (s:Sta) (q:Ans):Prop:=q.e=0∧q.s.t=s.t∧checkS q.s=0
theorem chk1 {n:Int}:checkS ⟨1,n,[]⟩=0:=by simp [checkS,formB,aloneB]
theorem chk2 {n:Int} {l:List Int}:checkS ⟨2,n,l⟩=0↔n=0∧Rises l 1:=by
 by_cases h1:n=0 <;> by_cases h2:Rises l 1 <;> simp [checkS,formB,setB,risesB,h1,h2]
theorem chk3 {n:Int} {l:List Int}:checkS ⟨3,n,l⟩=0↔n=0∧l.length % 2=0∧Rises l 2:=by
 by_cases h1:n=0 <;> by_cases h2:Rises l 2 <;> by_cases h3:l.length % 2=0 <;> simp [checkS,formB,pairsB,risesB,h1,h2,h3]
theorem chk4 {n:Int} {l:List Int}:checkS ⟨4,n,l⟩=0↔n=0:=by simp [checkS,formB,listB]
theorem chk5 {n:Int} {l:List Int}:checkS ⟨5,n,l⟩=0↔l=[]∧0≤n∧n≤4611686018427387904:=by simp [checkS,formB,moneyB]
theorem keepC {n:Int} {l:List Int} {k a b:Int} (h:checkS ⟨1,n,l⟩=0) (hb:b=0) (hk:k=1∨k=2∧a=0):Keep ⟨1,n,l⟩ (appC ⟨1,n,l⟩ k a b):=by
 subst hb
 rcases hk with rfl | ⟨rfl,rfl⟩
 · simp [Keep,appC,h,chk1]
 · simp [Keep,appC,h,chk1]
theorem keepS {n:Int} {l:List Int} {k a b:Int} (h:checkS ⟨2,n,l⟩=0) (hb:b=0) (hk:k=3∨k=4∨k=5∨k=6∧a=0):Keep ⟨2,n,l⟩ (appS ⟨2,n,l⟩ k a b):=by
 subst hb
 obtain ⟨rfl,hr⟩:=chk2.1 h
 rcases hk with rfl | rfl | rfl | ⟨rfl,rfl⟩
 · simp [Keep,appS,h,chk2,insS_rises hr]
 · simp [Keep,appS,h,chk2,remS_rises hr]
 · simp [Keep,appS,h,chk2,hr]
 · simp [Keep,appS,h,chk2,hr]
theorem keepM {n:Int} {l:List Int} {k a b:Int} (h:checkS ⟨3,n,l⟩=0) (hk:k=7∨k=8∧b=0∨k=9∧b=0):Keep ⟨3,n,l⟩ (appM ⟨3,n,l⟩ k a b):=by
 obtain ⟨rfl,hl,hr⟩:=chk3.1 h
 rcases hk with rfl | ⟨rfl,rfl⟩ | ⟨rfl,rfl⟩
 · simp [Keep,appM,h,chk3,setM_ok hl hr]
 · simp [Keep,appM,h,chk3,hl,hr]
 · simp [Keep,appM,h,chk3,dropM_ok hl hr]
theorem keepQ {n:Int} {l:List Int} {k a b:Int} (h:checkS ⟨4,n,l⟩=0) (hb:b=0) (hk:k=10∨k=11∧a=0∨k=12∧a=0):Keep ⟨4,n,l⟩ (appQ ⟨4,n,l⟩ k a b):=by
 subst hb
 have hn:=chk4.1 h
 subst hn
 rcases hk with rfl | ⟨rfl,rfl⟩ | ⟨rfl,rfl⟩
 · simp [Keep,appQ,h,chk4]
 · by_cases e:l=[]
   · simp [Keep,appQ,h,chk4,e]
   · simp [Keep,appQ,h,chk4,e]
 · simp [Keep,appQ,h,chk4]
theorem keepE {n:Int} {l:List Int} {k a b:Int} (h:checkS ⟨5,n,l⟩=0) (hb:b=0) (ha:0≤a∧a≤4611686018427387904) (hk:k=13∨k=14∨k=15∧a=0):Keep ⟨5,n,l⟩ (appE ⟨5,n,l⟩ k a b):=by
 subst hb
 obtain ⟨rfl,h0,h2⟩:=chk5.1 h
 rcases hk with rfl | rfl | ⟨rfl,rfl⟩
 · by_cases e:a≤4611686018427387904 - n
   · have:dep n a=(n + a,1):=by simp [dep,e]
     simp [Keep,appE,h,chk5,knownE,fineE,money,ha,this]
     omega
   · have:dep n a=(n,0):=by simp [dep,e]
     simp [Keep,appE,h,chk5,knownE,fineE,money,ha,this,h0,h2]
 · by_cases e:a≤n
   · have:wdr n a=(n - a,1):=by simp [wdr,e]
     simp [Keep,appE,h,chk5,knownE,fineE,money,ha,this]
     omega
   · have:wdr n a=(n,0):=by simp [wdr,e]
     simp [Keep,appE,h,chk5,knownE,fineE,money,ha,this,h0,h2]
 · simp [Keep,appE,h,chk5,knownE,fineE,h0,h2]
theorem appF1 (n k a b:Int) (l:List Int):appF ⟨1,n,l⟩ k a b=appC ⟨1,n,l⟩ k a b:=by simp [appF]
theorem appF2 (n k a b:Int) (l:List Int):appF ⟨2,n,l⟩ k a b=appS ⟨2,n,l⟩ k a b:=by simp [appF]
theorem appF3 (n k a b:Int) (l:List Int):appF ⟨3,n,l⟩ k a b=appM ⟨3,n,l⟩ k a b:=by simp [appF]
theorem appF4 (n k a b:Int) (l:List Int):appF ⟨4,n,l⟩ k a b=appQ ⟨4,n,l⟩ k a b:=by simp [appF]
theorem appF5 (n k a b:Int) (l:List Int):appF ⟨5,n,l⟩ k a b=appE ⟨5,n,l⟩ k a b:=by simp [appF]
theorem app_keep (s:Sta) (p:Opr) (h1:checkS s=0) (h2:opE p=0) (h3:(typO p.k).1=s.t):Keep s (appF s p.k p.a p.b):=by
 obtain ⟨t,n,l⟩:=s
 obtain ⟨k,a,b,r⟩:=p
 rw [(refO_kind _).1] at h2
 rw [(refO_kind ⟨k,a,b,r⟩).2] at h3
 by_cases hk:k < 1∨15 < k
 · simp [refO,hk] at h2
 have hc:k=1∨k=2∨k=3∨k=4∨k=5∨k=6∨k=7∨k=8∨k=9∨k=10∨k=11∨k=12∨k=13∨k=14∨k=15:=by omega
 have args:∀ q:RKd,refE q ⟨k,a,b,r⟩=0→¬ ((q.args < 1∧a ≠ 0)∨(q.args < 2∧b ≠ 0)∨(q.typ=5∧(a < 0∨4611686018427387904 < a))):=by
  intro q hq hc
  rw [refE,if_pos hc] at hq;cases hq
 have hs:(refO k).2=true:=by simp [refO,hk]
 dsimp only at h2 h3
 rw [hs,if_neg (by simp)] at h2 h3
 have ar:=args _ h2
 clear args h2 hs
 rcases hc with rfl | rfl | rfl | rfl | rfl | rfl | rfl | rfl | rfl | rfl | rfl | rfl | rfl | rfl | rfl
 all_goals
  simp [refO,kindsR] at ar h3
  subst h3
  dsimp only
  first
  | rw [appF1];exact keepC h1 (by omega) (by omega)
  | rw [appF2];exact keepS h1 (by omega) (by omega)
  | rw [appF3];exact keepM h1 (by omega)
  | rw [appF4];exact keepQ h1 (by omega) (by omega)
  | rw [appF5];exact keepE h1 (by omega) (by omega) (by omega)
def Good (f s:List Sta):Prop:=s.map (·.t)=f.map (·.t)∧∀ x,x ∈ s→checkS x=0
theorem Good.len {f s:List Sta} (h:Good f s):s.length=f.length:=by simpa using congrArg List.length h.1
theorem Good.at {f s:List Sta} (h:Good f s) {j:Nat} {x:Sta} (hx:s[j]?=some x):typAt f j=x.t∧checkS x=0:=by
 refine ⟨?_,h.2 x (List.mem_of_getElem? hx)⟩
 have h1:=congrArg (fun l=>l[j]?) h.1
 simp only [List.getElem?_map,hx,Option.map_some] at h1
 unfold typAt
 rw [Int.toNat_natCast]
 cases hf:f[j]? with
 | none=>rw [hf] at h1;cases h1
 | some y=>rw [hf] at h1;simpa using h1.symm
theorem act_in {c:Cas} {a:Act} (h:actE c a=0):∃ j:Nat,a.o=j∧j < c.first.length∧opE a.op=0∧(typO a.op.k).1=typAt c.first j:=by
 unfold actE at h
 split at h
 · cases h
 · rename_i h1
   split at h
   · rename_i h2;exact absurd h h2
   · rename_i h2
     split at h
     · cases h
     · rename_i h3
       refine ⟨a.o.toNat,by omega,by omega,by simpa using h2,?_⟩
       rw [show ((a.o.toNat:Nat):Int)=a.o by omega]
       simpa using h3
theorem act_good {c:Cas} {s:List Sta} {a:Act} (hg:Good c.first s) (h:actE c a=0):(errA s a=0∨errA s a=9)∧Good c.first (nextA s a)∧∀ i:Nat,a.o ≠ i→(nextA s a)[i]?=s[i]?:=by
 obtain ⟨j,hj,hl,h1,h2⟩:=act_in h
 have hls:j < s.length:=by rw [hg.len];exact hl
 have hx:s[j]?=some s[j]:=List.getElem?_eq_getElem hls
 obtain ⟨g1,g2⟩:=hg.at hx
 rw [g1] at h2
 obtain ⟨k1,k2,k3⟩:=app_keep s[j] a.op g2 h1 h2
 have hd:s.getD a.o.toNat z0=s[j]:=by rw [hj,Int.toNat_natCast,List.getD_eq_getElem?_getD,hx];rfl
 have he:(actA s a).e=0:=by rw [actA,hd];exact k1
 refine ⟨?_,⟨?_,?_⟩,?_⟩
 · unfold errA
   rw [if_neg (by omega),if_neg (by simp [he])]
   split
   · exact .inr rfl
   · exact .inl rfl
 · rw [← hg.1,nextA,hj,Int.toNat_natCast,List.map_set]
   apply List.ext_getElem?
   intro i
   by_cases e:j=i
   · subst e
     rw [List.getElem?_set_self (by simpa using hls),List.getElem?_map,hx,actA,hd,k2];rfl
   · rw [List.getElem?_set_ne e]
 · intro x hx
   rcases List.mem_or_eq_of_mem_set hx with hx | rfl
   · exact hg.2 x hx
   · rw [actA,hd];exact k3
 · intro i hi
   rw [nextA,hj,Int.toNat_natCast,List.getElem?_set_ne (by omega)]
theorem rep_good {c:Cas}:∀ (acs:List Act) (s:List Sta) (n:Nat),Good c.first s→(∀ a,a ∈ acs→actE c a=0) →
  ((repN s acs n).2.2=0∧(repN s acs n).2.1=n + acs.length∧Good c.first (repN s acs n).1∧∀ i:Nat,(∀ a,a ∈ acs→a.o ≠ i)→(repN s acs n).1[i]?=s[i]?) ∨
  ((repN s acs n).2.2=9∧n + 1≤(repN s acs n).2.1∧(repN s acs n).2.1≤n + acs.length∧(repN s acs n).1=[])
 | [],s,n,hg,_=>.inl ⟨rfl,rfl,hg,fun _ _=>rfl⟩
 | a::acs,s,n,hg,ha=>by
   obtain ⟨h1,h2,h3⟩:=act_good hg (ha a (by simp))
   simp only [repN]
   split
   · rename_i e
     rcases rep_good acs (nextA s a) (n + 1) h2 (fun x hx=>ha x (List.mem_cons_of_mem _ hx)) with ⟨q1,q2,q3,q4⟩ | ⟨q1,q2,q3,q4⟩
     · refine .inl ⟨q1,by rw [q2,List.length_cons];omega,q3,fun i hi=>?_⟩
       rw [q4 i fun x hx=>hi x (List.mem_cons_of_mem _ hx),h3 i (hi a (by simp))]
     · exact .inr ⟨q1,by omega,by rw [List.length_cons];omega,q4⟩
   · rename_i e
     refine .inr ⟨h1.resolve_left e,Nat.le_refl _,by rw [List.length_cons];dsimp only;omega,rfl⟩
theorem fnz_all:∀ {l:List Int},fnz l=0→∀ e,e ∈ l→e=0
 | [],_,e,h=>by cases h
 | x::l,h,e,he=>by
   unfold fnz at h
   split at h
   · rename_i hx
     rcases List.mem_cons.1 he with rfl | he
     · exact hx
     · exact fnz_all h e he
   · contradiction
theorem case_good {c:Cas} (h:checkC c=0):c.names.length=c.first.length∧Good c.first c.first∧∀ t,t ∈ c.trans→∀ a,a ∈ t.acts→actE c a=0:=by
 unfold checkC at h
 split at h
 · cases h
 split at h
 · cases h
 rename_i hN
 have hN:c.names.length=c.first.length:=by simpa using hN
 split at h
 · contradiction
 rename_i he
 have he:errC c=0:=by simpa using he
 unfold errC at he
 split at he
 · contradiction
 rename_i ho
 have ho:objsE c=0:=by simpa using ho
 refine ⟨hN,⟨rfl,fun x hx=>?_⟩,fun t ht=>?_⟩
 · obtain ⟨i,hi,rfl⟩:=List.mem_iff_getElem.1 hx
   have:=fnz_all ho (objE c i) (List.mem_map.2 ⟨i,by simp;omega,rfl⟩)
   rw [objE_at (List.getElem?_eq_getElem (by omega)) (List.getElem?_eq_getElem hi)] at this
   split at this
   · cases this
   split at this
   · cases this
   split at this
   · contradiction
   rename_i hz
   simpa using hz
 · obtain ⟨i,hi,rfl⟩:=List.mem_iff_getElem.1 ht
   have:=fnz_all he (traE c i) (List.mem_map.2 ⟨i,by simp;omega,rfl⟩)
   rw [traE_at (List.getElem?_eq_getElem hi)] at this
   split at this
   · cases this
   split at this
   · cases this
   split at this
   · cases this
   split at this
   · cases this
   intro a ha
   exact fnz_all this _ (List.mem_map.2 ⟨a,ha,rfl⟩)
set_option linter.defProp false in
def xRKit3:=ai @prLL_dI<|ai @imLL_I<|ai @nlR_dI @Vm.nlR_append
def longC (c:Cas):Bool:=decide (6 < c.names.length∨6 < c.first.length∨8 < c.trans.length) || (c.names.any (fun s=>decide (60 < s.length)) || (c.first.any (fun s=>decide (12 < s.l.length)) || c.trans.any (fun t=>decide (60 < t.name.length∨6 < t.acts.length∨6 < t.at_.length))))
theorem any_step {α:Type} {p:α→Bool} {l:List α} {i:Nat} {x:α} (h:l[i]?=some x):(p x=true→l.any p=true)∧((l.take i).any p=false→p x=false→(l.take (i + 1)).any p=false):=
 ⟨fun hp=>List.any_eq_true.2 ⟨x,List.mem_of_getElem? h,hp⟩,fun h1 h2=>by rw [take_at h,List.any_append,h1];simp [h2]⟩
theorem longC_no {c:Cas} (h:longC c=false):c.names.length≤6∧c.first.length≤6∧c.trans.length≤8∧(∀ s,s ∈ c.first→s.l.length≤12)∧∀ t,t ∈ c.trans→t.acts.length≤6∧t.at_.length≤6:=by
 simp only [longC,Bool.or_eq_false_iff,decide_eq_false_iff_not] at h
 obtain ⟨h1,h2,h3,h4⟩:=h
 refine ⟨by omega,by omega,by omega,fun s hs=>?_,fun t ht=>?_⟩
 · have:=List.any_eq_false.1 h3 s hs
   simp at this;omega
 · have:=List.any_eq_false.1 h4 t ht
   simp at this;omega
theorem longC_fit {c:Cas} (h:longC c=false):FitC c:=by
 obtain ⟨h1,h2,h3,h4,h5⟩:=longC_no h
 exact ⟨by omega,by omega,by omega,fun s hs=>by have:=h4 s hs;omega,fun t ht=>by have:=h5 t ht;omega⟩
theorem longC_v (c:Cas):Vm.VC T 17 [.agg (dC c)] fun d=>d=.atom (.bool (longC c)):=by
 refine Vm.vc_enter (T:=T) rfl Tryz.func17 rfl (by simp only [Tryz.f17,List.length_cons,List.length_nil];decide) fun g hB hG0 hU=>?_
 simp only [Tryz.f17,Vm.argsTm_cons,Vm.argsTm_nil,Nat.reduceAdd]
 by_cases h1:(6:Int) < c.names.length
 · have hz:longC c=true:=by rw [longC,show decide (6 < c.names.length∨6 < c.first.length∨8 < c.trans.length)=true from decide_eq_true (by omega)];rfl
   refine Vm.rn (ai xRKit3<|ai @dC.eq_1 @h1) ?_
   refine Vm.rx (Vm.s1 xRKit3 ?_)
   rw [hz]
 by_cases h2:(6:Int) < c.first.length
 · have hz:longC c=true:=by rw [longC,show decide (6 < c.names.length∨6 < c.first.length∨8 < c.trans.length)=true from decide_eq_true (by omega)];rfl
   refine Vm.rn (ai xRKit3<|ai @dC.eq_1<|ai @h1 @h2) ?_
   refine Vm.rx (Vm.s1 xRKit3 ?_)
   rw [hz]
 by_cases h3:(8:Int) < c.trans.length
 · have hz:longC c=true:=by rw [longC,show decide (6 < c.names.length∨6 < c.first.length∨8 < c.trans.length)=true from decide_eq_true (by omega)];rfl
   refine Vm.rn (ai xRKit3<|ai @dC.eq_1<|ai @h1<|ai @h2 @h3) ?_
   refine Vm.rx (Vm.s1 xRKit3 ?_)
   rw [hz]
 have hl:longC c=(c.names.any (fun s=>decide (60 < s.length)) || (c.first.any (fun s=>decide (12 < s.l.length)) || c.trans.any (fun t=>decide (60 < t.name.length∨6 < t.acts.length∨6 < t.at_.length)))):=by
  rw [longC,show decide (6 < c.names.length∨6 < c.first.length∨8 < c.trans.length)=false from decide_eq_false (by omega)];rfl
 refine Vm.rn (ai xRKit3<|ai @dC.eq_1<|ai @h1<|ai @h2 @h3) ?_
 refine Vm.sk_loop (fun i:Nat=>c.names.length - i) (fun i=>⟨[(1,.rptr 0 0),(3,.atom (.int .i64 i))],[.cell (dC c)],80⟩) (fun i=>i≤c.names.length∧(c.names.take i).any (fun s=>decide (60 < s.length))=false) 0 ?_ ⟨by omega,by simp⟩ ?_
 · exact Vm.lx (Vm.cl (ai xRKit3 @dC.eq_1))
 rintro i ⟨hi,ha⟩ ih
 refine Vm.rn (ai xRKit3 @dC.eq_1) ?_
 refine Vm.sb_dec (fun hc=>?_) (fun hc=>?_)
 · obtain ⟨s,hs,g0⟩:=row_at (f:=fun s=>[Vm.D.atom (.str s)]) (l:=c.names) (i:=i) (by omega)
   have gs:(c.names.map fun s=>[Vm.D.atom (.str s)])[i]?=some [.atom (.str s)]:=g0
   have st:=any_step (p:=fun s:List UInt8=>decide (60 < s.length)) hs
   refine Vm.rn (ai xRKit3 @gs) ?_
   refine Vm.sb_dec (fun hb=>?_) (fun hb=>?_)
   · refine Vm.rn xRKit3 ?_
     refine Vm.rx (Vm.s1 xRKit3 ?_)
     rw [hl,st.1 (decide_eq_true (by omega)),Bool.true_or]
   · refine Vm.rn xRKit3 ?_
     refine ih (i + 1) _ (by dsimp only;omega) ⟨by omega,st.2 ha (decide_eq_false (by omega))⟩ ?_
     exact Vm.lx (Vm.cl (ai xRKit3<|ai @Int.natCast_add @dC.eq_1))
 · have hi':i=c.names.length:=by omega
   subst hi'
   rw [List.take_length] at ha
   rw [ha,Bool.false_or] at hl
   refine Vm.rn xRKit3 ?_
   refine Vm.sk_loop (fun i:Nat=>c.first.length - i) (fun i=>⟨[(1,.rptr 0 0),(4,.atom (.int .i64 i))],[.cell (dC c)],80⟩) (fun i=>i≤c.first.length∧(c.first.take i).any (fun s=>decide (12 < s.l.length))=false) 0 ?_ ⟨by omega,by simp⟩ ?_
   · exact Vm.lx (Vm.cl (ai xRKit3 @dC.eq_1))
   rintro i ⟨hi,ha⟩ ih2
   refine Vm.rn (ai xRKit3 @dC.eq_1) ?_
   refine Vm.sb_dec (fun hc=>?_) (fun hc=>?_)
   · obtain ⟨s,hs,gs⟩:=row_at (f:=dS) (l:=c.first) (i:=i) (by omega)
     have st:=any_step (p:=fun s:Sta=>decide (12 < s.l.length)) hs
     simp only [dS] at gs
     refine Vm.rn (ai xRKit3 @gs) ?_
     refine Vm.sb_dec (fun hb=>?_) (fun hb=>?_)
     · refine Vm.rn xRKit3 ?_
       refine Vm.rx (Vm.s1 xRKit3 ?_)
       rw [hl,st.1 (decide_eq_true (by omega)),Bool.true_or]
     · refine Vm.rn xRKit3 ?_
       refine ih2 (i + 1) _ (by dsimp only;omega) ⟨by omega,st.2 ha (decide_eq_false (by omega))⟩ ?_
       exact Vm.lx (Vm.cl (ai xRKit3<|ai @Int.natCast_add @dC.eq_1))
   · have hi':i=c.first.length:=by omega
     subst hi'
     rw [List.take_length] at ha
     rw [ha,Bool.false_or] at hl
     refine Vm.rn xRKit3 ?_
     refine Vm.sk_loop (fun i:Nat=>c.trans.length - i) (fun i=>⟨[(1,.rptr 0 0),(5,.atom (.int .i64 i))],[.cell (dC c)],80⟩) (fun i=>i≤c.trans.length∧(c.trans.take i).any (fun t=>decide (60 < t.name.length∨6 < t.acts.length∨6 < t.at_.length))=false) 0 ?_ ⟨by omega,by simp⟩ ?_
     · exact Vm.lx (Vm.cl (ai xRKit3 @dC.eq_1))
     rintro i ⟨hi,ha⟩ ih3
     refine Vm.rn (ai xRKit3 @dC.eq_1) ?_
     refine Vm.sb_dec (fun hc=>?_) (fun hc=>?_)
     · obtain ⟨t,ht,gt⟩:=row_at (f:=dT) (l:=c.trans) (i:=i) (by omega)
       have st:=any_step (p:=fun t:Tra=>decide (60 < t.name.length∨6 < t.acts.length∨6 < t.at_.length)) ht
       simp only [dT] at gt
       by_cases q1:(60:Int) < t.name.length
       · refine Vm.rn (ai xRKit3<|ai @gt @q1) ?_
         refine Vm.rx (Vm.s1 xRKit3 ?_)
         rw [hl,st.1 (decide_eq_true (by omega))]
       by_cases q2:(6:Int) < t.acts.length
       · refine Vm.rn (ai xRKit3<|ai @gt<|ai @q1 @q2) ?_
         refine Vm.rx (Vm.s1 xRKit3 ?_)
         rw [hl,st.1 (decide_eq_true (by omega))]
       by_cases q3:(6:Int) < t.at_.length
       · refine Vm.rn (ai xRKit3<|ai @gt<|ai @q1<|ai @q2 @q3) ?_
         refine Vm.rx (Vm.s1 xRKit3 ?_)
         rw [hl,st.1 (decide_eq_true (by omega))]
       · refine Vm.rn (ai xRKit3<|ai @gt<|ai @q1<|ai @q2 @q3) ?_
         refine ih3 (i + 1) _ (by dsimp only;omega) ⟨by omega,st.2 ha (decide_eq_false (by omega))⟩ ?_
         exact Vm.lx (Vm.cl (ai xRKit3<|ai @Int.natCast_add @dC.eq_1))
     · have hi':i=c.trans.length:=by omega
       subst hi'
       rw [List.take_length] at ha
       refine Vm.rn xRKit3 ?_
       refine Vm.rx (Vm.s1 xRKit3 ?_)
       rw [hl,ha]
theorem known_v:Vm.VC T 28 [] fun d=>d=.atom (.bool true):=
 Vm.vc_am fun P H vs wf r=>by
  obtain ⟨rfl,_⟩:=r.nil_inv
  exact (Vm.prim_to (p:=closedTrue) (R:=fun r H'=>r=.bool true∧H'=H) rfl rfl ⟨rfl,rfl⟩).mono fun v H' ⟨h1,h2⟩=>⟨⟨_,[],rfl,h1 ▸ .atom .nil,by simp,by simp⟩,by subst h2;exact Ext.refl wf⟩
end Go.Proofs.YtphjohoipocpnaaGreat.W
