import Derived.Test.YtphjohoipocpnaaGreatAmLay
import Derived.Shelf.SlSortCmp.NoneTotal
set_option linter.unusedSimpArgs false
set_option linter.unusedVariables false
/- slices.SortFunc, over rows of several cells, by a number in each of them: what the library's shelf says, told of the small machine. No conditions. -/
namespace Go.Am
open Go Go.Sort
def rowsK (s n:Nat) (cs:List V):List (List V):=(List.range n).map fun i=>(cs.drop (i * s)).take s
def numAt (j:Nat) (r:List V):Int:=match r[j]? with
 | some (.int .i64 n)=>n
 | _=>0
def isNumAt (j:Nat) (r:List V):Bool:=match r[j]? with
 | some (.int .i64 _)=>true
 | _=>false
def sortR (j:Nat) (rows:List (List V)):List (List V):=rows.mergeSort fun x y=>decide (numAt j x≤numAt j y)
noncomputable def sortKP (g:FuncId) (k j:Nat):List V→Heap→Option (V×Heap)
 | [.nilSlice,.func (.func g') [] []],H=>some (.tuple [],H)
 | [.slice l o n s c,.func (.func g') [] []],H=>match H.get l with
   | some (.cells false vs)=>match take? vs o (n * s) with
     | some cs=>if g'=g∧s=k∧n≤1000000000∧cs.all V.one=true∧(rowsK s n cs).all (isNumAt j)=true∧((rowsK s n cs).map (numAt j)).Nodup then
       some (.tuple [],H.put l (.cells false (over vs o (sortR j (rowsK s n cs)).flatten))) else none
     | none=>none
   | _=>none
 | _,_=>none
variable {P:Program} {T:Tab} {μ:Mu} {H:Heap} {w w':World}
theorem flat_get {α:Type} {k:Nat} (hk:0<k):∀ (rows:List (List α)) (t:Nat),(∀ r,r∈rows→r.length=k)→rows.flatten[t]?=rows[t / k]?.bind (·[t % k]?)
 | [],t,_=>by simp
 | r::rows,t,h=>by
   have hr:=h r (by simp);rw [List.flatten_cons];rcases Nat.lt_or_ge t k with ht | ht
   ·rw [List.getElem?_append_left (by omega),Nat.div_eq_of_lt ht,Nat.mod_eq_of_lt ht];rfl
   ·obtain ⟨u,rfl⟩:∃ u,t=u+k:=⟨t - k,by omega⟩
    rw [List.getElem?_append_right (by omega),hr,Nat.add_sub_cancel,flat_get hk rows u fun x hx=>h x (by simp [hx]),Nat.add_div_right _ hk,Nat.add_mod_right,List.getElem?_cons_succ]
theorem oneCell_of {v:V} {u:Value} (h:RV μ v u) (h1:v.one=true):u.oneCell'=true:=by
 obtain ⟨a,b⟩:=RV.one h h1
 cases u with
 | agg c=>exact absurd rfl (a c)
 | tuple c=>exact absurd rfl (b c)
 | _=>rfl
theorem rowsK_fin (s n:Nat) (cs:List V):rowsK s n cs=(List.finRange n).map fun i=>(cs.drop (i.val * s)).take s:=by
 unfold rowsK;rw [show List.range n=(List.finRange n).map fun i=>i.val from List.ext_getElem (by simp) (by simp),List.map_map];rfl
theorem key_of {j:Nat} {r:List V} (h:isNumAt j r=true):r[j]?=some (.int .i64 (numAt j r)):=by
 unfold isNumAt at h;split at h
 ·rename_i n e;rw [e];simp [numAt,e]
 ·cases h
theorem nodup_inj {α β:Type} {f:α→β}:∀ {l:List α},(l.map f).Nodup→∀ x y,x∈l→y∈l→f x=f y→x=y
 | [],_,x,_,hx,_,_=>by cases hx
 | a::l,h,x,y,hx,hy,e=>by
   rw [List.map_cons,List.nodup_cons] at h;rcases List.mem_cons.1 hx with e1 | hx1
   ·rcases List.mem_cons.1 hy with e2 | hy1
    ·rw [e1,e2]
    ·exact (h.1 (List.mem_map.2 ⟨y,hy1,by rw [← e,e1]⟩)).elim
   ·rcases List.mem_cons.1 hy with e2 | hy1
    ·exact (h.1 (List.mem_map.2 ⟨x,hx1,by rw [e,e2]⟩)).elim
    ·exact nodup_inj h.2 x y hx1 hy1 e
def SortsK (P:Program) (f g k j:Nat):Prop:=
 ∀ (blk off cap m:Nat) (enc:Fin (m+1)→List Value) (key:Fin (m+1)→Int) (w:World),(∀ i,(enc i).length=k)→(∀ i,∀ v∈enc i,v.oneCell'=true)→(∀ i,(enc i)[j]?=some (.int .i64 (key i)))→(∀ x y,key x=key y→x=y) →
   HoldsK enc k w blk off (List.finRange (m+1)).toArray→blk<w.heap.size→m+1<4611686018427387904 →
   Calls P f #[.slice (some ⟨blk,off,none⟩) (m+1) cap,.func (.func g) #[] #[]] w fun e w'=>e=.returned (.tuple #[])∧∃ q os,w'=Go.Proofs.sortWorldK enc k w blk off q ((List.finRange (m+1)).mergeSort fun x y=>decide (key x≤key y)).toArray os
theorem sortK_prim (hT:TabOk P T) {f g k j:Nat} {fn:Func} {c:Code} (hk:0<k) (hf:T.func f=some fn) (hb:fn.body=some c) (h1:SortsK P f g k j)
  (h2:∀ (p:Option Addr) (cap:Nat) (fv:Value) (w:World),Calls P f #[.slice p 0 cap,fv] w fun e w'=>e=.returned (.tuple #[])∧w'=w)
  {xs:List V} {v:V} {H':Heap} (e:sortKP g k j xs H=some (v,H')) {us:List Value} (h:Sim μ H w) (hr:RVL μ xs us):Entered P μ H w f us (.returned v H'):=by
 have fin:∀ {v:V} {H':Heap},Calls P f ⟨us⟩ w (CallPost μ H w (.returned v H'))→Entered P μ H w f us (.returned v H'):=fun hc=>.inl ⟨callsIn_wide.2 hc,run_callFunc hT hf hb ⟨us⟩⟩;unfold sortKP at e;split at e
 ·cases e
  cases hr with | cons h1' t=>?_
  cases h1'
  cases t with | cons h2' t=>?_
  cases t
  exact fin ((h2 none 0 _ w).mono fun e w' ⟨he,hw⟩=>by subst he;subst hw;exact ⟨μ,.tuple .nil,Post.refl h⟩)
 ·rename_i l o n s c' g';split at e
  ·rename_i vs hl;split at e
   ·rename_i cs hcs;split at e
    ·rename_i hc;obtain ⟨rfl,rfl,hn,hone,hkey,hnd⟩:=hc;simp only [Option.some.injEq,Prod.mk.injEq] at e;obtain ⟨rfl,rfl⟩:=e
     cases hr with | cons hs t=>?_
     cases t with | cons hfn t=>?_
     cases t
     cases hfn with | func q1 q2=>?_
     cases q1;cases q2
     cases hs with | slice hm hnc hcc htt hoo hbd=>?_
     rename_i b base tot cap off;obtain ⟨b',base',tot',cs0,ty,fr,m',hbb,hcr⟩:=h.obj l _ hl;rw [hm] at m';cases m'
     by_cases h0:n=0
     ·subst h0;refine fin ((h2 _ cap _ w).mono fun e w' ⟨he,hw⟩=>?_);subst he;subst hw;refine ⟨μ,.tuple .nil,?_⟩;simp only [rowsK,List.range_zero,List.map_nil,sortR,List.mergeSort_nil,List.flatten_nil,over_none];exact Post.turnRow h hl hm rfl rfl rfl (Nat.le_refl _) (fun _ _ _=>rfl) hbb hcr
     obtain ⟨m,rfl⟩:∃ m,n=m+1:=⟨n - 1,by omega⟩
     have hoff:off=⟨b,base+o,none⟩:=by
      rcases hoo with h1 | h1
      ·omega
      ·exact h1
     subst hoff
     have hlt:b<w.heap.size:=by
      rcases Nat.lt_or_ge b w.heap.size with h' | h'
      ·exact h'
      ·rw [Array.getElem?_eq_none h'] at hbb;cases hbb
     obtain ⟨hcse,hcl⟩:=take?_eq hcs;have hlen:=hcr.len;have hroom:=hcr.room
     have hin:o+(m+1) * s≤vs.length:=by
      rw [hcse,List.length_take,List.length_drop] at hcl;have:0<(m+1) * s:=Nat.mul_pos (by omega) hk;omega
     have hat:∀ t,t<(m+1) * s→∃ v u,cs[t]?=some v∧cs0[base+o+t]?=some u∧RV μ v u∧v.one=true:=fun t ht=>by
      have h3:=take?_get hcs t ht;have h4:cs[t]?=some cs[t]:=List.getElem?_eq_getElem (by omega);rw [h4] at h3;obtain ⟨u,hu,hru⟩:=hcr.cell _ _ h3.symm;exact ⟨_,u,h4,by rw [Nat.add_assoc];exact hu,hru,List.all_eq_true.1 hone _ (List.getElem_mem _)⟩
     have hle:∀ i:Fin (m+1),i.val * s+s≤(m+1) * s:=fun i=>by
      have:=Nat.mul_le_mul_right s (show i.val+1≤m+1 from i.isLt)
      rwa [Nat.add_mul,Nat.one_mul] at this
     let row:Fin (m+1)→List V:=fun i=>(cs.drop (i.val * s)).take s
     let enc:Fin (m+1)→List Value:=fun i=>(cs0.toList.drop (base+o+i.val * s)).take s
     have hrow:∀ (i:Fin (m+1)) (t:Nat),t<s→(row i)[t]?=cs[i.val * s+t]?:=fun i t ht=>by
      show ((cs.drop _).take s)[t]?=_;rw [List.getElem?_take_of_lt ht,List.getElem?_drop]
     have hencg:∀ (i:Fin (m+1)) (t:Nat),t<s→(enc i)[t]?=cs0[base+o+i.val * s+t]?:=fun i t ht=>by
      show ((cs0.toList.drop _).take s)[t]?=_;rw [List.getElem?_take_of_lt ht,List.getElem?_drop,Array.getElem?_toList]
     have hencl:∀ i,(enc i).length=s:=fun i=>by
      have:=hle i;show ((cs0.toList.drop _).take s).length=s;rw [List.length_take,List.length_drop,Array.length_toList];omega
     have hrowl:∀ i,(row i).length=s:=fun i=>by
      have:=hle i;show ((cs.drop _).take s).length=s;rw [List.length_take,List.length_drop];omega
     have hre:∀ (i:Fin (m+1)) (t:Nat),t<s→∃ v u,(row i)[t]?=some v∧(enc i)[t]?=some u∧RV μ v u∧v.one=true:=fun i t ht=>by
      have:=hle i;rw [hrow i t ht,hencg i t ht,Nat.add_assoc (base+o)];exact hat (i.val * s+t) (by omega)
     rw [rowsK_fin] at hkey hnd ⊢;have hkr:∀ i,isNumAt j (row i)=true:=fun i=>List.all_eq_true.1 hkey _ (List.mem_map_of_mem (List.mem_finRange i))
     let key:Fin (m+1)→Int:=fun i=>numAt j (row i)
     have hsrt:sortR j ((List.finRange (m+1)).map row)=((List.finRange (m+1)).mergeSort fun x y=>decide (key x≤key y)).map row:=
      (List.map_mergeSort (f:=row) (s:=fun x y=>decide (numAt j x≤numAt j y)) fun a _ b _=>rfl).symm
     have hd:∀ i,i<m+1→∃ q:Fin (m+1),(List.finRange (m+1)).toArray[i]! = q∧q.val=i:=fun i hi=>⟨⟨i,hi⟩,by rw [getElem!_pos _ i (by simpa using hi)];simp,rfl⟩
     have hgl:∀ (i:Fin (m+1)) (t:Nat),t<s→(enc i)[t]! = (cs0[base+o+i.val * s+t]?).getD default:=fun i t ht=>by
      rw [← hencg i t ht,List.getElem!_eq_getElem?_getD]
     have hholds:HoldsK enc s w b (base+o) (List.finRange (m+1)).toArray:=fun jj hj=>by
      rw [size_flatK,List.size_toArray,List.length_finRange] at hj;have hdv:jj / s<m+1:=(Nat.div_lt_iff_lt_mul hk).2 hj;have hmd:=Nat.mod_lt jj hk;obtain ⟨q,hq,hqv⟩:=hd _ hdv;rw [get_flatK _ _ _ _ (by simpa using hj),hq,hgl q _ hmd,hqv,Nat.add_assoc (base+o),Nat.div_add_mod'];obtain ⟨v,u,_,hu,_,_⟩:=hat jj hj;constructor
      ·simp only [World.cell?,hbb,hu,id];simp
      ·simp only [World.frozen?,hbb];have:=hcr.thaw rfl (j:=base+o+jj) (by omega);simpa using this
     refine fin ((h1 b (base+o) cap m enc key w hencl (fun i v hv=>?_) (fun i=>?_) (fun x y hxy=>?_) hholds hlt (by omega)).mono fun e w' ⟨he,q,os,hw⟩=>?_)
     ·obtain ⟨t,ht,rfl⟩:=List.getElem_of_mem hv;rw [hencl] at ht;obtain ⟨v,u,_,g2,g3,g4⟩:=hre i t ht;rw [List.getElem?_eq_getElem (by rw [hencl];exact ht)] at g2;rw [Option.some.inj g2];exact oneCell_of g3 g4
     ·have hjs:j<s:=by
       have:=key_of (hkr i);have:=(List.getElem?_eq_some_iff.1 this).1;rw [hrowl] at this;exact this
      obtain ⟨v,u,g1,g2,g3,_⟩:=hre i j hjs;rw [key_of (hkr i)] at g1;obtain rfl:=(Option.some.inj g1)
      obtain rfl:=g3.int_inv;exact g2
     ·refine nodup_inj (f:=key) (l:=List.finRange (m+1)) ?_ x y (List.mem_finRange x) (List.mem_finRange y) hxy;rw [List.map_map] at hnd;exact hnd
     subst he;have hσl:((List.finRange (m+1)).mergeSort fun x y=>decide (key x≤key y)).length=m+1:=by rw [List.length_mergeSort,List.length_finRange]
     show ∃ μ',_;change sortR j ((List.finRange (m+1)).map row)=_ at hsrt;have hgoal:(sortR j ((List.finRange (m+1)).map fun i=>(cs.drop (i.val * s)).take s))=(((List.finRange (m+1)).mergeSort fun x y=>decide (key x≤key y)).map row):=hsrt;generalize (List.finRange (m+1)).mergeSort (fun x y=>decide (key x≤key y))=σ at hσl hw hgoal;rw [hgoal];refine ⟨μ,.tuple .nil,?_⟩
     have hfl:(σ.map row).flatten.length=(m+1) * s:=by
      rw [List.length_flatten,List.map_map,show (List.length ∘ row)=fun _=>s from funext hrowl,List.map_const',List.sum_replicate_nat,hσl]
     have hfk:(flatK enc s σ.toArray).size=(m+1) * s:=by rw [size_flatK,List.size_toArray,hσl]
     subst hw;unfold Go.Proofs.sortWorldK putRowK;have hsz:(putRow id (Sort.ahead w q) b (base+o) (flatK enc s σ.toArray)).heap.size=w.heap.size:=by simp
     have hkeep:∀ k,k<w.heap.size→(grow (putRow id (Sort.ahead w q) b (base+o) (flatK enc s σ.toArray)) os).heap[k]?=(putRow id (Sort.ahead w q) b (base+o) (flatK enc s σ.toArray)).heap[k]?:=by
      intro k hk;show (_++os)[k]?=_;rw [Array.getElem?_append_left (by rw [hsz];exact hk)]
     refine Post.turnRow h hl hm rfl rfl rfl ?_ ?_ (cs:=Sort.putCells id (base+o) (flatK enc s σ.toArray) cs0) (ty:=ty) (fr:=fr) ?_ ⟨by rw [over_length];exact hlen,by simpa [Sort.putCells] using hroom,?_,?_⟩
     ·show _≤(_++os).size;rw [Array.size_append,hsz];omega
     ·intro k hk hkb;rw [hkeep k hk];simp only [putRow,mapBlock,Sort.heap_ahead];rw [Array.getElem?_modify,if_neg (fun e=>hkb e.symm)]
     ·rw [hkeep b hlt];simp only [putRow,mapBlock,Sort.heap_ahead];rw [Array.getElem?_modify,if_pos rfl,hbb]
      rfl
     ·intro jj v hj;rw [over_get _ _ _ _ (by rw [hfl];exact hin)] at hj;rw [hfl] at hj;split at hj
      ·rename_i hjr;have ht:jj - o<(m+1) * s:=by omega
       have hdv:(jj - o) / s<m+1:=(Nat.div_lt_iff_lt_mul hk).2 ht;have hmd:=Nat.mod_lt (jj - o) hk;have hσi:σ[(jj - o) / s]?=some (σ[(jj - o) / s]'(by omega)):=List.getElem?_eq_getElem (by omega);rw [flat_get hk _ _ (fun r hr=>by obtain ⟨i,_,rfl⟩:=List.mem_map.1 hr;exact hrowl i),List.getElem?_map,hσi] at hj;simp only [Option.map_some,Option.bind_some] at hj;obtain ⟨v',u,g1,g2,g3,_⟩:=hre (σ[(jj - o) / s]'(by omega)) _ hmd;rw [g1] at hj
       cases hj
       refine ⟨u,?_,g3⟩;simp only [Sort.putCells,Array.getElem?_mapIdx];rw [Array.getElem?_eq_getElem (by omega),Option.map_some];rw [if_pos (by rw [hfk];omega),show base+jj - (base+o)=jj - o by omega,get_flatK _ _ _ _ (by rw [List.size_toArray,hσl];exact ht),getElem!_pos σ.toArray _ (by rw [List.size_toArray,hσl];exact hdv),List.getElem_toArray,List.getElem!_eq_getElem?_getD,g2]
       rfl
      ·rename_i hout;obtain ⟨u,hu,hr⟩:=hcr.cell jj v hj;refine ⟨u,?_,hr⟩;simp only [Sort.putCells,Array.getElem?_mapIdx,hu,Option.map_some];rw [if_neg (by rw [hfk];omega)]
     ·intro e;have:=hcr.free e;simpa [Sort.putCells] using this
    ·cases e
   ·cases e
  ·cases e
 ·cases e
theorem sortsK_of {ρ:Go.Shelf.Ren} (L:Go.Proofs.SlLaysF0.n6 P ρ) {g k j:Nat} (aE:∀ w,(isAgg (ρ.t 24)).run P w=.ok true w) (zE:∀ w,(Go.sizeOf (ρ.t 24)).run P w=.ok k w)
  (eg:∀ args w,(callFunc g args).run P w=.ok (.enter g args) w)
  (hg:∀ (us vs:List Value) (a b:Int) (W:World),us.length=k→vs.length=k→us[j]?=some (.int .i64 a)→vs[j]?=some (.int .i64 b) →
   Calls P g #[.agg us.toArray,.agg vs.toArray] W fun e w'=>e=.returned (.int .i64 (Lib.compareInt a b))∧∃ q os',w'=grow (W.drewN q) os'):SortsK P (ρ.f 6) g k j:=by
 intro blk off cap m enc key w hl h1 hk hinj hH hb hm
 have hlt:∀ x y,Go.Proofs.ltOf (fun x y:Fin (m+1)=>Lib.compareInt (key x) (key y)) x y=decide (key x<key y):=fun x y=>by
  unfold Go.Proofs.ltOf Lib.compareInt
  by_cases h1:key x<key y
  ·simp [h1]
  ·by_cases h2:key y<key x <;> simp [h1,h2]
 have hsw:SWO (Go.Proofs.ltOf fun x y:Fin (m+1)=>Lib.compareInt (key x) (key y)):=⟨fun x=>by rw [hlt];simp,fun x y z h1 h2=>by rw [hlt] at *;simp at *;omega,fun x y z h1 h2=>by rw [hlt] at *;simp at *;omega⟩
 have hd:(List.finRange (m+1)).toArray.size=m+1:=by simp
 have h:=Go.Proofs.AnyQ.slices_SortFunc_total L k aE zE enc hl h1 (fun x y=>Lib.compareInt (key x) (key y)) hsw g #[] blk off cap (List.finRange (m+1)).toArray w eg
  (fun n os dk _ x y=>hg _ _ _ _ _ (hl x) (hl y) (hk x) (hk y)) hH hb (by rw [hd];exact hm) (fun x y h1 h2=>by
   rw [hlt] at h1 h2;simp only [decide_eq_false_iff_not] at h1 h2;exact hinj x y (by omega))
 rw [hd] at h;refine h.mono fun e w' ⟨he,n,os,hw⟩=>⟨he,n,os,?_⟩
 rw [hw]
 have hc:(fun x y:Fin (m+1)=>!Go.Proofs.ltOf (fun x y:Fin (m+1)=>Lib.compareInt (key x) (key y)) y x)=fun x y=>decide (key x≤key y):=by
  funext x y
  rw [hlt]
  by_cases h1:key y<key x
  ·rw [decide_eq_true h1,decide_eq_false (by omega)];rfl
  ·rw [decide_eq_false h1,decide_eq_true (by omega)];rfl
 rw [hc]
end Go.Am
