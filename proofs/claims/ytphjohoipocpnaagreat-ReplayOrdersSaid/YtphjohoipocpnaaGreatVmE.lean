import Derived.Test.YtphjohoipocpnaaGreatVmD
import Derived.Test.YtphjohoipocpnaaGreatAmPr3
set_option linter.unusedVariables false
set_option linter.unusedSimpArgs false
/- slices.SortFunc over a slice of the caller's whose rows are of several cells and may hold what they own, by a number in each of them. No conditions. -/
namespace Go.Am.Vm
open Go.Am
variable {T:Tab} {P P':Nat→Prop} {H H':Heap} {μ μ':List Hd} {ds es:List D} {vs ws:List V} {F G X:List Nat} {d:D} {v:V} {f:FuncId} {so:List Ob}
def keyD (j:Nat) (r:List D):Int:=match r[j]? with
 | some (.atom (.int .i64 n))=>n
 | _=>0
def isKeyD (j:Nat) (r:List D):Bool:=match r[j]? with
 | some (.atom (.int .i64 _))=>true
 | _=>false
def sortD (j:Nat) (rows:List (List D)):List (List D):=rows.mergeSort fun x y=>decide (keyD j x≤keyD j y)
theorem RL.rows:∀ {es:List (List D)} {ws:List V} {F:List Nat},RL P H μ es.flatten ws F→∃ ts:List (List D×List V×List Nat),ts.map (·.1)=es∧(ts.map (·.2.1)).flatten=ws∧(ts.map (·.2.2)).flatten=F∧∀ t,t∈ts→RL P H μ t.1 t.2.1 t.2.2
 | [],ws,F,h=>by
   obtain ⟨rfl,rfl⟩:=h.nil_inv;exact ⟨[],rfl,rfl,rfl,fun t h=>by cases h⟩
 | e::es,ws,F,h=>by
   rw [List.flatten_cons] at h;obtain ⟨vs1,vs2,F1,F2,rfl,rfl,h1,h2⟩:=h.split;obtain ⟨ts,rfl,rfl,rfl,h3⟩:=RL.rows h2;refine ⟨(e,vs1,F1)::ts,rfl,by simp,by simp,fun t ht=>?_⟩;rcases List.mem_cons.1 ht with rfl | ht
   ·exact h1
   ·exact h3 t ht
theorem RL.joined:∀ {ts:List (List D×List V×List Nat)},(∀ t,t∈ts→RL P H μ t.1 t.2.1 t.2.2)→RL P H μ (ts.map (·.1)).flatten (ts.map (·.2.1)).flatten (ts.map (·.2.2)).flatten
 | [],_=>.nil
 | t::ts,h=>by
   simp only [List.map_cons,List.flatten_cons];exact (h t (by simp)).app (RL.joined fun x hx=>h x (List.mem_cons_of_mem _ hx))
theorem rowsK_flat {s:Nat}:∀ {rows:List (List V)},(∀ r,r∈rows→r.length=s)→rowsK s rows.length rows.flatten=rows
 | [],_=>rfl
 | r::rows,h=>by
   have hr:=h r (by simp);have ih:=rowsK_flat (rows:=rows) fun x hx=>h x (List.mem_cons_of_mem _ hx);unfold rowsK at ih ⊢;rw [List.length_cons,List.range_succ_eq_map,List.map_cons,List.map_map,List.flatten_cons]
   congr 1
   ·rw [Nat.zero_mul,List.drop_zero,List.take_left' hr]
   ·conv=>rhs;rw [← ih]
    refine List.map_congr_left fun i _=>?_;simp only [Function.comp];rw [Nat.succ_mul,Nat.add_comm,← List.drop_drop,List.drop_left' hr]
theorem key_eq {j:Nat} {r:List D} {u:List V} {F:List Nat} (h:RL P H μ r u F) (hk:isKeyD j r=true):isNumAt j u=true∧numAt j u=keyD j r:=by
 unfold isKeyD at hk;split at hk
 ·rename_i n e
  have hu:u[j]?=some (.int .i64 n):=by
   have hj:=(List.getElem?_eq_some_iff.1 e).1;have e2:r=r.take j++(r[j]::r.drop (j+1)):=by simp
   rw [e2] at h;obtain ⟨v1,v2,F1,F2,rfl,_,h1,h2⟩:=h.split;obtain ⟨v3,v4,G1,G2,rfl,_,h3,_⟩:=h2.uncons;rw [(List.getElem?_eq_some_iff.1 e).2] at h3;have hl:=h1.len;rw [List.length_take,Nat.min_eq_left (Nat.le_of_lt hj)] at hl;rw [List.getElem?_append_right (by omega),← hl,Nat.sub_self,List.getElem?_cons_zero,(h3.atomInv).2]
  simp [isNumAt,numAt,keyD,hu,e]
 ·cases hk
theorem sortK_v {g:FuncId} {k j s:Nat} {rows:List (List D)} (hp:T.prim f=some (sortKP g s j)) (hk:so[k]?=some (.sl s rows)) (hs:0<s) (hkey:∀ r,r∈rows→isKeyD j r=true) (hnd:(rows.map (keyD j)).Nodup) (hlen:rows.length≤1000000000) :
  VM T f [.own k rows.length,.fn g [] []] so fun d so'=>d=.tuple []∧so'=so.set k (.sl s (sortD j rows)):=by
 intro P H μ F vs wf pl ol nd ap hv;obtain ⟨v,vs2,E1,E2,rfl,hE,q,q2⟩:=hv.uncons;have hE':=hE.symm;rw [List.append_eq_nil_iff] at hE';rw [hE'.1] at q;rw [hE'.2] at q2;obtain ⟨v2,vs3,E3,E4,rfl,hE2,q3,q4⟩:=q2.uncons;obtain ⟨rfl,_⟩:=q4.nil_inv;obtain ⟨us',ws',E5,E6,rfl,_,q5,q6⟩:=q3.fnInv;obtain ⟨rfl,_⟩:=q5.nil_inv;obtain ⟨rfl,_⟩:=q6.nil_inv;obtain ⟨x,F1,Fk,F2,hx,rfl,o1,put⟩:=ol.at hk;obtain ⟨_,y,hy,hc⟩:=q.ownInv;rw [hx] at hy;cases hy;rcases o1.slInv with ⟨rfl,e,rfl⟩ | ⟨l,c,pre,ws,rest,F',rfl,rfl,g',r',el,u1,cc⟩
 ·have hset:so.set k (.sl s (sortD j rows))=so:=by
   apply List.ext_getElem?;intro i
   by_cases hi:k=i
   ·subst hi;rw [List.getElem?_set_self (get_lt hk),hk,e];simp [sortD]
   ·rw [List.getElem?_set_ne hi]
  subst e;have hv0:=(hc _ _ _ rfl).2 rfl;subst hv0;refine prim_to hp (r:=.tuple []) (H':=H) rfl ⟨.tuple [],so,P,μ,_,⟨rfl,hset.symm⟩,.tuple (F:=[]) (G:=[]) .nil .nil,ol,GoesL.refl μ,nd,?_,fun l p=>p,fun l p=>⟨.inl p,pl l p⟩,ExtB.refl _ wf⟩;exact fun l hl=>⟨(ap l hl).1,.inl hl,(ap l hl).2⟩
 ·have hv0:=(hc _ _ _ rfl).2 rfl;subst hv0;obtain ⟨ts,rfl,rfl,rfl,hts⟩:=RL.rows r';have hl:=Heap.lt g'
  have hrl:∀ r,r∈ts.map (·.2.1)→r.length=s:=fun r hr=>by
   obtain ⟨t,ht,rfl⟩:=List.mem_map.1 hr;have:=(hts t ht).len;rw [← el t.1 (List.mem_map_of_mem ht)];exact this.symm
  have hkk:∀ t,t∈ts→isNumAt j t.2.1=true∧numAt j t.2.1=keyD j t.1:=fun t ht=>key_eq (hts t ht) (hkey _ (List.mem_map_of_mem ht))
  obtain ⟨ts',hperm,h1,h2⟩:∃ ts':List (List D×List V×List Nat),ts'.Perm ts∧ts'.map (·.1)=sortD j (ts.map (·.1))∧ts'.map (·.2.1)=sortR j (ts.map (·.2.1)):=
   ⟨ts.mergeSort fun x y=>decide (keyD j x.1≤keyD j y.1),List.mergeSort_perm _ _,List.map_mergeSort (fun a _ b _=>rfl),
    List.map_mergeSort (s:=fun x y=>decide (numAt j x≤numAt j y)) (fun a ha b hb=>by rw [(hkk a ha).2,(hkk b hb).2])⟩
  have h3:((ts'.map (·.2.2)).flatten).Perm ((ts.map (·.2.2)).flatten):=(hperm.map fun x=>x.2.2).flatten;have hn:ts.length=(ts.map (·.1)).length:=by rw [List.length_map]
  have hch:rowsK s (ts.map (·.1)).length (ts.map (·.2.1)).flatten=ts.map (·.2.1):=by
   have:=rowsK_flat hrl;rw [List.length_map] at this ⊢;exact this
  have hfl:∀ q:List (List D×List V×List Nat),(∀ t,t∈q→t∈ts)→(q.map (·.2.1)).flatten.length=q.length * s:=fun q hq=>by
   rw [List.length_flatten,List.map_map,List.map_congr_left (f:=List.length ∘ fun x:List D×List V×List Nat=>x.2.1) (g:=fun _=>s) fun t ht=>hrl _ (List.mem_map_of_mem (hq t ht)),List.map_const',List.sum_replicate_nat]
  have hl1:=hfl ts fun t h=>h;have hl2:=hfl ts' fun t h=>hperm.mem_iff.1 h;rw [hperm.length_eq] at hl2;have t1:take? (pre++((ts.map (·.2.1)).flatten++rest)) pre.length ((ts.map (·.1)).length * s)=some (ts.map (·.2.1)).flatten:=take?_pre _ _ _ (by rw [List.length_map];exact hl1)
  have ov:over (pre++((ts.map (·.2.1)).flatten++rest)) pre.length (sortR j (ts.map (·.2.1))).flatten=pre++((ts'.map (·.2.1)).flatten++rest):=by
   rw [← h2];have h1:=over_pre ((ts.map (·.2.1)).flatten++rest) (ts'.map (·.2.1)).flatten 0 pre;rw [Nat.add_zero] at h1;rw [h1,over_front2 (by rw [hl1,hl2];omega) rest,over_zero_len _ _ (by rw [hl1,hl2])]
  have hprim:sortKP g s j [.slice l pre.length (ts.map (·.1)).length s c,.func (.func g) [] []] H=some (.tuple [],H.put l (.cells false (pre++((ts'.map (·.2.1)).flatten++rest)))):=by
   simp only [sortKP,g',t1,hch]
   rw [if_pos ⟨trivial,trivial,hlen,u1,List.all_eq_true.2 fun r hr=>by
    obtain ⟨t,ht,rfl⟩:=List.mem_map.1 hr;exact (hkk t ht).1,by
    rw [List.map_map] at hnd ⊢;rw [List.map_congr_left (f:=numAt j ∘ fun x:List D×List V×List Nat=>x.2.1) (g:=keyD j ∘ fun x=>x.1) fun t ht=>(hkk t ht).2];exact hnd⟩,ov]
  have nd2:=List.nodup_iff_count.1 nd;have hlm:l∈F1++(l::(ts.map (·.2.2)).flatten++F2):=by simp
  have hlP:¬ P l:=(ap l hlm).1
  have hne:∀ a,a∈F1∨a∈(ts.map (·.2.2)).flatten∨a∈F2→¬ a=l:=fun a ha e=>by
   subst e;have h4:=nd2 a;simp only [List.count_append,List.cons_append,List.count_cons_self] at h4;rcases ha with h | h | h
   ·have:=List.count_pos_iff.2 h;omega
   ·have:=List.count_pos_iff.2 h;omega
   ·have:=List.count_pos_iff.2 h;omega
  generalize hH':H.put l (.cells false (pre++((ts'.map (·.2.1)).flatten++rest)))=H' at hprim;have hkeep:∀ a o,¬ a=l→H.get a=some o→H'.get a=some o:=fun a o ha e=>by rw [← hH',Heap.get_put_ne ha];exact e
  have hx2:ExtB (fun a=>a=l) H H':=hH' ▸ (ExtB.refl (fun a=>a=l) wf).put (.inl rfl) hl _;have hPl:∀ a,P a→¬ a=l:=fun a p e=>hlP (by rw [← e];exact p);have hin3:∀ t a,t∈ts'→a∈t.2.2→a∈(ts.map (·.2.2)).flatten:=fun t a ht h=>List.mem_flatten.2 ⟨t.2.2,List.mem_map.2 ⟨t,hperm.mem_iff.1 ht,rfl⟩,h⟩
  have hone:∀ t,t∈ts'→RL P H' μ t.1 t.2.1 t.2.2:=fun t ht=>by
   refine (hts t (hperm.mem_iff.1 ht)).keep fun a o ha e=>hkeep a o ?_ e;rcases ha with p | h
   ·exact hPl a p
   ·exact hne a (.inr (.inl (hin3 t a ht h)))
  have hrows:=RL.joined (ts:=ts') hone
  have u2:(ts'.map (·.2.1)).flatten.all V.one=true:=List.all_eq_true.2 fun v hv=>List.all_eq_true.1 u1 v (by
   obtain ⟨r,hr,hvr⟩:=List.mem_flatten.1 hv;obtain ⟨t,ht,rfl⟩:=List.mem_map.1 hr;exact List.mem_flatten.2 ⟨t.2.1,List.mem_map.2 ⟨t,hperm.mem_iff.1 ht,rfl⟩,hvr⟩)
  have o0:OL P H' μ [.sl (.slice l pre.length (ts'.map (·.1)).length s c) (ts'.map (·.1)).length s] [.sl s (ts'.map (·.1))] (l::((ts'.map (·.2.2)).flatten++[])):=
   .sl (by rw [← hH'];exact get_put_same hl _) hrows (fun e he=>by
    obtain ⟨t,ht,rfl⟩:=List.mem_map.1 he;exact el _ (List.mem_map_of_mem (hperm.mem_iff.1 ht))) u2 (fun m hm=>by
    have:=cc m hm;rw [List.length_map] at this ⊢;rw [hperm.length_eq];exact this) .nil
  rw [List.append_nil] at o0;have hln:(ts'.map (·.1)).length=(ts.map (·.1)).length:=by rw [List.length_map,List.length_map,hperm.length_eq]
  rw [hln] at o0;have o2:=put P H' _ _ _ (fun l h=>h) o0 fun a o ha e=>hkeep a o (ha.elim (hPl a) fun h=>hne a (h.elim .inl fun h=>.inr (.inr h))) e
  have hset:μ.set k (.sl (.slice l pre.length (ts.map (·.1)).length s c) (ts.map (·.1)).length s)=μ:=by
   apply List.ext_getElem?;intro i
   by_cases hi:k=i
   ·subst hi;rw [List.getElem?_set_self (get_lt hx),hx]
   ·rw [List.getElem?_set_ne hi]
  rw [hset,h1] at o2;have hpm:(F1++(l::(ts'.map (·.2.2)).flatten++F2)).Perm (F1++(l::(ts.map (·.2.2)).flatten++F2)):=((h3.cons l).append_right F2).append_left F1;refine prim_to hp (r:=.tuple []) (H':=H') hprim ⟨.tuple [],_,P,μ,_,⟨rfl,rfl⟩,.tuple (F:=[]) (G:=[]) .nil .nil,o2,GoesL.refl μ,hpm.nodup_iff.2 nd,?_,fun l p=>p,fun a p=>⟨.inl p,?_⟩,hx2.weaken fun a ha=>?_⟩
  ·intro a ha;have hm:=hpm.mem_iff.1 ha;exact ⟨(ap a hm).1,.inl hm,Nat.lt_of_lt_of_le (ap a hm).2 hx2.n⟩
  ·obtain ⟨o,e⟩:=pl a p;exact ⟨o,hkeep a o (hPl a p) e⟩
  ·subst ha;exact hlm
end Go.Am.Vm

namespace Go.Am.Vm
open Go.Am
variable {T:Tab} {P P':Nat→Prop} {H H':Heap} {μ μ':List Hd} {ds es:List D} {vs ws:List V} {F G X:List Nat} {d:D} {v:V} {s n:Nat} {so:List Ob} {g:Gh} {tm:List (Nat×D)} {a:A}
end Go.Am.Vm
