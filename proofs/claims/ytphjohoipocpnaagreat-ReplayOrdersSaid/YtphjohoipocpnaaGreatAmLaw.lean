import Derived.Test.YtphjohoipocpnaaGreatAmLay
import Derived.Test.YtphjohoipocpnaaGreatVmC
import Derived.ChangeArms
import Derived.Deep.Slices
import Derived.Handed
import Derived.SizedLaws
set_option linter.unusedSimpArgs false
set_option linter.unusedVariables false
/- Arguments of any shape, laid: whole numbers, truths, texts, structs and lists of them. No conditions. -/
namespace Go.Am
open Go Go.ChangeShapes
inductive Sh where
 | int | bool | str | unit
 | pair (a b:Sh)
 | slice (e:Sh)
def Sh.cells:Sh→Nat
 | .unit=>0
 | .pair a b=>a.cells+b.cells
 | _=>1
def El:Sh→Type
 | .int=>Int
 | .bool=>Bool
 | .str=>List UInt8
 | .unit=>Unit
 | .pair a b=>El a×El b
 | .slice e=>List (El e)
def toD:(s:Sh)→El s→List Vm.D
 | .int,n=>[.atom (.int .i64 n)]
 | .bool,b=>[.atom (.bool b)]
 | .str,s=>[.atom (.str s)]
 | .unit,_=>[]
 | .pair a b,p=>toD a p.1++toD b p.2
 | .slice e,xs=>[.imm e.cells (List.map (toD e) xs)]
def okE:(s:Sh)→El s→Prop
 | .int,n=>(Lit.int .i64 n).wf=true
 | .str,s=>List.length (α:=UInt8) s≤maxLen
 | .pair a b,p=>okE a p.1∧okE b p.2
 | .slice e,xs=>List.length (α:=El e) xs≤maxLen∧∀ x,x∈(show List (El e) from xs)→okE e x
 | .bool,_=>True
 | .unit,_=>True
def chk (P:Program):Sh→(TypeId→Bool)×(List Field→Nat→Bool)
 | .int=>(fun t=>match P.underlying t with | some (.int .i64)=>Nat.beq (P.cellsOf t) 1 | _=>false,fun _ _=>false)
 | .bool=>(fun t=>match P.underlying t with | some .bool=>Nat.beq (P.cellsOf t) 1 | _=>false,fun _ _=>false)
 | .str=>(fun t=>match P.underlying t with | some .string=>Nat.beq (P.cellsOf t) 1 | _=>false,fun _ _=>false)
 | .unit=>(fun _=>false,fun fs _=>fs.isEmpty)
 | .pair a b =>
   let F:List Field→Nat→Bool:=fun fs o=>match fs with
    | f::fs=>Nat.beq f.offset o && Nat.beq (P.cellsOf f.type) a.cells && (chk P a).1 f.type && (chk P b).2 fs (o+a.cells)
    | []=>false
   (fun t=>match P.underlying t with | some (.struct fs)=>F fs.toList 0 && Nat.beq (P.cellsOf t) (a.cells+b.cells) | _=>false,F)
 | .slice e=>(fun t=>match P.underlying t with | some (.slice et)=>(chk P e).1 et && Nat.beq (P.cellsOf et) e.cells && Nat.blt 0 e.cells | _=>false,fun _ _=>false)
theorem toD_len:∀ (s:Sh) (e:El s),(toD s e).length=s.cells
 | .int,_=>rfl
 | .bool,_=>rfl
 | .str,_=>rfl
 | .unit,_=>rfl
 | .pair a b,p=>by simp only [toD,List.length_append,toD_len a,toD_len b,Sh.cells]
 | .slice e,xs=>rfl
variable {P:Program} {T:Tab} {μ:Mu} {H H':Heap} {w w':World} {K:Type} {enc:TypeId×Value→K}
namespace Vm
def Live (H:Heap):Nat→Prop:=fun l=>∃ o,H.get l=some o
end Vm
def Lays (w:World) (s:Sh) (cs:List Value) (μ:Mu) (H:Heap):Prop:=
 ∃ (e:El s) (vs:List V) (μ':Mu) (H':Heap),Laid μ' H' w∧Ext H H'∧(∀ l x,μ l=some x→μ' l=some x)∧RVL μ' vs cs∧Vm.RL (Vm.Live H') H' [] (toD s e) vs []∧okE s e∧vs.all V.one=true∧cs.length=s.cells
theorem live_mono (h:Ext H H'):∀ l,Vm.Live H l→Vm.Live H' l:=fun l ⟨o,e⟩=>⟨o,h.get _ _ e⟩
theorem rl_up {ds:List Vm.D} {vs:List V} (h:Vm.RL (Vm.Live H) H [] ds vs []) (hx:Ext H H'):Vm.RL (Vm.Live H') H' [] ds vs []:=(h.perm_keep hx).weakP (live_mono hx)
theorem get_lt' {α:Type} {l:List α} {k:Nat} {x:α} (e:l[k]?=some x):k<l.length:=by
 rcases Nat.lt_or_ge k l.length with h | h
 ·exact h
 ·rw [List.getElem?_eq_none h] at e;cases e
theorem blt_lt {a b:Nat} (h:Nat.blt a b=true):a<b:=by rwa [Nat.blt_eq] at h
theorem lay_row {s:Sh} {k:Nat} (hk:s.cells=k) (each:∀ cs μ H,Laid μ H w→(∃ fuel t x,(chk P s).1 t=true∧DataW.trod enc P w 0 (fun _=>true) true fuel t cs=some x)→Lays w s cs μ H) :
  ∀ (css:List (List Value)) (μ:Mu) (H:Heap),Laid μ H w→(∀ cs,cs∈css→∃ fuel t x,(chk P s).1 t=true∧DataW.trod enc P w 0 (fun _=>true) true fuel t cs=some x) →
    ∃ (es:List (El s)) (vs:List V) (μ':Mu) (H':Heap),Laid μ' H' w∧Ext H H'∧(∀ l x,μ l=some x→μ' l=some x)∧RVL μ' vs css.flatten∧Vm.RL (Vm.Live H') H' [] (es.map (toD s)).flatten vs []∧(∀ e,e∈es→okE s e)∧vs.all V.one=true∧es.length=css.length
 | [],μ,H,h,_=>⟨[],[],μ,H,h,Ext.refl h.wf,fun _ _ e=>e,.nil,.nil,by simp,rfl,rfl⟩
 | cs::css,μ,H,h,hall=>by
   obtain ⟨e,vs,μ1,H1,l1,x1,m1,r1,q1,o1,a1,_⟩:=each cs μ H h (hall cs (by simp));obtain ⟨es,vs2,μ2,H2,l2,x2,m2,r2,q2,o2,a2,e2⟩:=lay_row hk each css μ1 H1 l1 fun c hc=>hall c (by simp [hc]);refine ⟨e::es,vs++vs2,μ2,H2,l2,x1.trans x2,fun l x e=>m2 l x (m1 l x e),?_,?_,?_,by simp [a1,a2],by simp [e2]⟩
   ·rw [List.flatten_cons];exact (r1.mono m2).append r2
   ·rw [List.map_cons,List.flatten_cons];exact (rl_up q1 x2).app q2
   ·intro e' he';rcases List.mem_cons.1 he' with rfl | he'
    ·exact o1
    ·exact o2 e' he'
theorem lay (hd:∃ (b:Nat) (cs:Array Value) (ty:TypeId) (fr:Nat×Nat),w.heap[b]?=some (Obj.cells cs ty fr)):∀ (s:Sh),
  (∀ {fuel:Nat} {t:TypeId} {cs:List Value} {x:DataW K×List MemPlace} {μ:Mu} {H:Heap},(chk P s).1 t=true→DataW.trod enc P w 0 (fun _=>true) true fuel t cs=some x→Laid μ H w→Lays w s cs μ H) ∧
  (∀ {fuel:Nat} {fs:List Field} {o:Nat} {cs:List Value} {μ:Mu} {H:Heap},(chk P s).2 fs o=true→(∀ f,f∈fs→∃ x,DataW.trod enc P w 0 (fun _=>true) true fuel f.type ((cs.drop f.offset).take (P.cellsOf f.type))=some x)→cs.length=o+s.cells→Laid μ H w→Lays w s (cs.drop o) μ H)
 | .int=>by
   refine ⟨fun {fuel t cs x μ H} hc h l=>?_,fun hc=>by simp [chk] at hc⟩;simp only [chk] at hc;split at hc
   ·rename_i hu;obtain ⟨n,rfl,_,hw⟩:=DataW.trod_int hu h;exact ⟨n,[.int .i64 n],μ,H,l,Ext.refl l.wf,fun _ _ e=>e,.cons (.int _ _) .nil,.atom .nil,hw,rfl,rfl⟩
   ·cases hc
 | .bool=>by
   refine ⟨fun {fuel t cs x μ H} hc h l=>?_,fun hc=>by simp [chk] at hc⟩;simp only [chk] at hc;split at hc
   ·rename_i hu;obtain ⟨n,rfl,_⟩:=DataW.trod_bool hu h;exact ⟨n,[.bool n],μ,H,l,Ext.refl l.wf,fun _ _ e=>e,.cons (.bool _) .nil,.atom .nil,trivial,rfl,rfl⟩
   ·cases hc
 | .str=>by
   refine ⟨fun {fuel t cs x μ H} hc h l=>?_,fun hc=>by simp [chk] at hc⟩;simp only [chk] at hc;split at hc
   ·rename_i hu;obtain ⟨n,rfl,_,hw⟩:=DataW.trod_string hu h;obtain ⟨⟨s⟩⟩:=n;exact ⟨s,[.str s],μ,H,l,Ext.refl l.wf,fun _ _ e=>e,.cons (.str _) .nil,.atom .nil,hw,rfl,rfl⟩
   ·cases hc
 | .unit=>by
   refine ⟨fun hc=>by simp [chk] at hc,fun {fuel fs o cs μ H} hc h hl l=>?_⟩;have:cs.drop o=[]:=List.drop_eq_nil_of_le (by rw [hl];exact Nat.le_refl _);rw [this];exact ⟨(),[],μ,H,l,Ext.refl l.wf,fun _ _ e=>e,.nil,.nil,trivial,rfl,rfl⟩
 | .pair a b=>by
   have ia:=lay hd a;have ib:=lay hd b
   have hF:∀ {fuel:Nat} {fs:List Field} {o:Nat} {cs:List Value} {μ:Mu} {H:Heap},(chk P (.pair a b)).2 fs o=true→(∀ f,f∈fs→∃ x,DataW.trod enc P w 0 (fun _=>true) true fuel f.type ((cs.drop f.offset).take (P.cellsOf f.type))=some x)→cs.length=o+(Sh.pair a b).cells→Laid μ H w→Lays w (.pair a b) (cs.drop o) μ H:=by
    intro fuel fs o cs μ H hc h hl l;simp only [chk] at hc
    cases fs with
    | nil=>simp at hc
    | cons f fs =>
      simp only [Bool.and_eq_true,Nat.beq_eq] at hc;obtain ⟨⟨⟨h1,h2⟩,h3⟩,h4⟩:=hc;obtain ⟨x,hx⟩:=h f (by simp);obtain ⟨ea,va,μ1,H1,l1,x1,m1,r1,q1,o1,a1,c1⟩:=ia.1 h3 hx l;simp only [Sh.cells] at hl;obtain ⟨eb,vb,μ2,H2,l2,x2,m2,r2,q2,o2,a2,c2⟩:=ib.2 (cs:=cs) h4 (fun f hf=>h f (by simp [hf])) (by omega) l1;rw [h1,h2] at r1;refine ⟨(ea,eb),va++vb,μ2,H2,l2,x1.trans x2,fun l x e=>m2 l x (m1 l x e),?_,(rl_up q1 x2).app q2,⟨o1,o2⟩,by simp [a1,a2],by simp only [List.length_drop,Sh.cells];omega⟩;have:=(r1.mono m2).append r2;have e:(cs.drop o).take a.cells++cs.drop (o+a.cells)=cs.drop o:=by rw [← List.drop_drop,List.take_append_drop]
      rw [e] at this;exact this
   refine ⟨fun {fuel t cs x μ H} hc h l=>?_,hF⟩;have hc':=hc;simp only [chk] at hc;split at hc
   ·rename_i fs hu;obtain ⟨xs,n,rfl,_,hl,hxl,hx⟩:=DataW.trod_struct hu h;rw [Bool.and_eq_true,Nat.beq_eq] at hc
    have:=hF (fuel:=n) (fs:=fs.toList) (o:=0) (cs:=cs) (by simp only [chk];exact hc.1) (fun f hf=>by
     obtain ⟨i,hi,hfi⟩:=List.getElem_of_mem hf;have hi':i<fs.size:=by simpa using hi
     have:=hx i f (by rw [Array.getElem?_eq_getElem hi'];simpa using hfi);rw [this];exact ⟨xs[i]'(by omega),List.getElem?_eq_getElem (by omega)⟩) (by rw [hl,hc.2];simp [Sh.cells]) l
    simpa using this
   ·cases hc
 | .slice e=>by
   have ie:=lay hd e;refine ⟨fun {fuel t cs x μ H} hc h l=>?_,fun hc=>by simp [chk] at hc⟩;simp only [chk] at hc;split at hc
   ·rename_i et hu;simp only [Bool.and_eq_true,Nat.beq_eq] at hc;obtain ⟨⟨c1,c2⟩,c3⟩:=hc;have c3:=blt_lt c3;rcases Deep.open_slice hu h with ⟨rfl,_⟩ | ⟨ad,len,cap,m,n,D,Pl,rfl,_,hlen,hcap,hm,_,hel⟩
    ·exact ⟨[],[.nilSlice],μ,H,l,Ext.refl l.wf,fun _ _ e=>e,.cons .nilSlice .nil,.immNil .nil,⟨Nat.zero_le _,by simp⟩,rfl,rfl⟩
    ·simp only [if_true] at hm;subst hm
     by_cases hm0:m=0
     ·subst hm0;have hl0:len=0:=by omega
      subst hl0;obtain ⟨b,cs,ty,fr,hb⟩:=hd;have l2:=l.push (b:=b) (base:=0) (tot:=0) (vs:=[]) hb ⟨by simp,Nat.zero_le _,by simp,fun h=>by cases h⟩;refine ⟨[],[.slice H.n 0 0 e.cells none],_,_,l2,(Ext.refl l.wf).push _,upd_ext l.sim _,.cons ?_ .nil,?_,⟨Nat.zero_le _,by simp⟩,rfl,rfl⟩
      ·exact .slice (b:=b) (base:=0) (tot:=0) (cap:=0) (upd_same _ _ _) (Nat.le_refl _) (fun m hm=>by cases hm) (by simp) (.inl rfl) (.inr (by omega))
      ·exact .imm (l:=H.n) (o:=0) (q:=none) (ro:=true) (cs:=[]) (ws:=[]) (es:=[]) ⟨_,get_push_same _ _⟩ (get_push_same _ _) (by simp [take?]) .nil (by simp) rfl (fun m hm=>by cases hm) .nil
     ·obtain ⟨cl,hcl⟩:=Deep.choose_lt hel
      have hcs:∀ i,i<m→(cl i).length=e.cells∧∀ j,j<e.cells→w.cell? ((ad.add (i * e.cells)).add j)=(cl i)[j]?:=fun i hi=>by
       have:=World.cells?_some (hcl i hi).1;rw [c2] at this;exact this.2
      have spot:ad.spot=none:=by
       obtain ⟨h1,h2⟩:=hcs 0 (by omega);have h3:=h2 0 c3;rw [List.getElem?_eq_getElem (by omega)] at h3;have:=World.cell?_spot h3;simpa [Addr.add] using this
      obtain ⟨b,off,sp⟩:=ad;simp only at spot;subst spot
      have hb:∃ cs ty fr,w.heap[b]?=some (.cells cs ty fr)∧∀ i,i<m→∀ j,j<e.cells→cs[off+i * e.cells+j]?=(cl i)[j]?:=by
       obtain ⟨h1,h2⟩:=hcs 0 (by omega);have h3:=h2 0 c3;rw [List.getElem?_eq_getElem (by omega),Go.WideShapes.add_plain,Go.WideShapes.add_plain] at h3;simp only [World.cell?] at h3;split at h3
       ·rename_i cs ty fr hb;refine ⟨cs,ty,fr,hb,fun i hi j hj=>?_⟩;have h4:=(hcs i hi).2 j hj;rw [Go.WideShapes.add_plain,Go.WideShapes.add_plain] at h4;simp only [World.cell?,hb,Option.isSome_none,Bool.false_eq_true,if_false] at h4;exact h4
       ·cases h3
      obtain ⟨cs,ty,fr,hb,hcell⟩:=hb
      obtain ⟨es,vs,μ1,H1,l1,x1,m1,r1,q1,o1,a1,e1⟩:=lay_row (w:=w) (enc:=enc) (P:=P) rfl (fun cs μ H l h=>by
       obtain ⟨fuel,t,x,h1,h2⟩:=h;exact ie.1 h1 h2 l) ((List.range len).map cl) μ H l (fun cs hcs'=>by
       obtain ⟨i,hi,rfl⟩:=List.mem_map.1 hcs';exact ⟨_,et,_,c1,(hcl i (by have:=List.mem_range.1 hi;omega)).2⟩)
      rw [List.length_map,List.length_range] at e1
      have hlens:∀ c,c∈(List.range len).map cl→c.length=e.cells:=fun c hc=>by
       obtain ⟨i,hi,rfl⟩:=List.mem_map.1 hc;exact (hcs i (by have:=List.mem_range.1 hi;omega)).1
      have flat:∀ (css:List (List Value)),(∀ c,c∈css→c.length=e.cells)→css.flatten.length=css.length * e.cells∧∀ i j c,css[i]?=some c→j<e.cells→css.flatten[i * e.cells+j]?=c[j]?:=by
       intro css
       induction css with
       | nil=>intro _;exact ⟨by simp,fun i j c h=>by simp at h⟩
       | cons x css ih =>
         intro h;obtain ⟨i1,i2⟩:=ih fun c hc=>h c (by simp [hc]);have hx:=h x (by simp);refine ⟨by rw [List.flatten_cons,List.length_append,i1,hx,List.length_cons,Nat.add_mul];omega,fun i j c hc hj=>?_⟩
         cases i with
         | zero =>
           simp only [List.getElem?_cons_zero,Option.some.injEq] at hc;subst hc;rw [List.flatten_cons,Nat.zero_mul,Nat.zero_add,List.getElem?_append_left (by omega)]
         | succ i =>
           simp only [List.getElem?_cons_succ] at hc;rw [List.flatten_cons,Nat.add_mul,Nat.one_mul,List.getElem?_append_right (by omega),← i2 i j c hc hj]
           congr 1;omega
      obtain ⟨fl1,fl2⟩:=flat _ hlens;rw [List.length_map,List.length_range] at fl1;have hvl:vs.length=len * e.cells:=by rw [← fl1,← r1.length]
      have hroom:off+m * e.cells≤cs.size:=by
       have h4:=hcell (m - 1) (by omega) (e.cells - 1) (by omega);rw [List.getElem?_eq_getElem (by have:=(hcs (m - 1) (by omega)).1;omega)] at h4;have h5:=(Array.getElem?_eq_some_iff.1 h4).1
       have h6:m * e.cells=(m - 1) * e.cells+e.cells:=by
        conv=>lhs;rw [show m=(m - 1)+1 by omega,Nat.add_mul,Nat.one_mul]
       omega
      have hle:len * e.cells≤m * e.cells:=Nat.mul_le_mul_right _ hlen
      have l2:=l1.push (b:=b) (base:=off) (tot:=off+m * e.cells) (vs:=vs) hb ⟨by omega,hroom,fun j v hj=>by
       obtain ⟨u,hu1,hu2⟩:=r1.get hj;refine ⟨u,?_,hu2⟩;have hjl:=get_lt' hj;have hdm:j=(j / e.cells) * e.cells+j % e.cells:=by rw [Nat.mul_comm];exact (Nat.div_add_mod j e.cells).symm
       have hm1:j % e.cells<e.cells:=Nat.mod_lt _ c3;have hd1:j / e.cells<len:=Nat.div_lt_of_lt_mul (by rw [Nat.mul_comm];omega);have h5:=fl2 (j / e.cells) (j % e.cells) (cl (j / e.cells)) (by simp [hd1]) hm1;rw [← hdm,hu1] at h5;have h6:=hcell (j / e.cells) (by omega) (j % e.cells) hm1;rw [← h5,Nat.add_assoc,← hdm] at h6;exact h6,fun h=>by cases h⟩
      have x2:Ext H1 (H1.push (.cells true vs)):=(Ext.refl l1.wf).push _;have m2:=upd_ext l1.sim (b,off,off+m * e.cells);refine ⟨es,[.slice H1.n 0 len e.cells none],_,_,l2,x1.trans x2,fun l x e=>m2 l x (m1 l x e),.cons ?_ .nil,?_,⟨by rw [e1];omega,o1⟩,rfl,rfl⟩
      ·exact .slice (b:=b) (base:=off) (tot:=off+m * e.cells) (cap:=m) (upd_same _ _ _) hlen (fun m hm=>by cases hm) (by omega) (.inr rfl) (.inr (by have:Go.maxLen=9223372036854775807:=rfl;omega))
      ·have hlm:(es.map (toD e)).length=len:=by rw [List.length_map,e1]
       have:=Vm.RL.imm (P:=Vm.Live (H1.push (.cells true vs))) (H:=H1.push (.cells true vs)) (μ:=[]) (l:=H1.n) (o:=0) (s:=e.cells) (q:=none) (ro:=true) (cs:=vs) (ws:=vs) (es:=es.map (toD e)) (ds:=[]) (vs:=[]) (F:=[]) ⟨_,get_push_same _ _⟩ (get_push_same _ _)
        (by rw [hlm,← hvl,take?,List.drop_zero,List.take_length,Nat.beq_refl];rfl) (rl_up q1 x2) (fun d hd=>by obtain ⟨z,_,rfl⟩:=List.mem_map.1 hd;exact toD_len e z) a1 (fun m hm=>by cases hm) .nil
       rw [hlm] at this;exact this
   ·cases hc
end Go.Am

namespace Go.Am
open Go Go.ChangeShapes
variable {P:Program} {T:Tab} {μ:Mu} {H H':Heap} {w w':World} {K:Type} {enc:TypeId×Value→K}
def argD (s:Sh) (e:El s):Vm.D:=
 match s,e with
 | .pair a b,e=>.agg (toD (.pair a b) e)
 | s,e=>(toD s e).headD .unk
theorem vcells_one {v:Value} (h:∀ cs,v≠.agg cs):v.cells.toList=[v]:=by
 cases v <;> first | rfl | exact absurd rfl (h _)
theorem layArg (hd:∃ (b:Nat) (cs:Array Value) (ty:TypeId) (fr:Nat×Nat),w.heap[b]?=some (Obj.cells cs ty fr)) {base:Nat} {s:Sh} {t:TypeId} {v:Value} {d:DataW K} {ps:List MemPlace} (hc:(chk P s).1 t=true)
  (hv:Value.okWide P w .any base t v) (h:DataW.Trod enc P w 0 (fun _=>true) true t v d ps) (l:Laid μ H w) :
  ∃ (e:El s) (x:V) (μ':Mu) (H':Heap),Laid μ' H' w∧Ext H H'∧(∀ l x,μ l=some x→μ' l=some x)∧RV μ' x v∧Vm.RL (Vm.Live H') H' [] [argD s e] [x] []∧okE s e:=by
 obtain ⟨fuel,h⟩:=h;obtain ⟨e,vs,μ',H',l1,x1,m1,r1,q1,o1,a1,c1⟩:=(lay hd s).1 hc h l
 have single:s.cells=1→(∀ cs,v≠.agg cs)→argD s e=(toD s e).headD .unk→∃ (e:El s) (x:V) (μ':Mu) (H':Heap),Laid μ' H' w∧Ext H H'∧(∀ l x,μ l=some x→μ' l=some x)∧RV μ' x v∧Vm.RL (Vm.Live H') H' [] [argD s e] [x] []∧okE s e:=by
  intro h1 h2 h3;rw [vcells_one h2] at r1;have hl:=toD_len s e;rw [h1] at hl
  match hD:toD s e,hl with
  | [y],_ =>
    rw [hD] at q1 h3;obtain ⟨x,rfl,q⟩:=q1.one
    cases r1 with
    | cons r2 r3=>exact ⟨e,x,μ',H',l1,x1,m1,r2,by rw [h3];exact q,o1⟩
 have notAgg:(∀ fs,P.underlying t≠some (.struct fs))→(∀ n e,P.underlying t≠some (.array n e))→(match P.underlying t with | some (.int _) | some .bool | some .string | some (.slice _)=>True | _=>False)→∀ cs,v≠.agg cs:=by
  intro h1 h2 h3 cs e;subst e;unfold Value.okWide at hv;split at hv
  ·rename_i fs hu;exact h1 fs hu
  ·rename_i n e hu;exact h2 n e hu
  ·unfold Cell.okWide at hv;unfold Cell.ok at hv
   cases hu:P.underlying t with
   | none=>rw [hu] at h3;exact h3
   | some u=>rw [hu] at h3 hv;cases u <;> simp_all
 cases s with
 | int =>
   refine single rfl (notAgg ?_ ?_ ?_) rfl <;> (simp only [chk] at hc;split at hc <;> simp_all)
 | bool =>
   refine single rfl (notAgg ?_ ?_ ?_) rfl <;> (simp only [chk] at hc;split at hc <;> simp_all)
 | str =>
   refine single rfl (notAgg ?_ ?_ ?_) rfl <;> (simp only [chk] at hc;split at hc <;> simp_all)
 | slice e' =>
   refine single rfl (notAgg ?_ ?_ ?_) rfl <;> (simp only [chk] at hc;split at hc <;> simp_all)
 | unit=>simp [chk] at hc
 | pair a b =>
   simp only [chk] at hc;split at hc
   ·rename_i fs hu;unfold Value.okWide at hv;rw [hu] at hv;obtain ⟨cs,rfl,_,_⟩:=hv;obtain ⟨cs⟩:=cs;exact ⟨e,.agg vs,μ',H',l1,x1,m1,.agg r1,q1.agg1,o1⟩
   ·cases hc
theorem change_sized {K:Type} {enc:TypeId×Value→K} {a:Assume} {C:Checked} {os:Os} {f:FuncId} {fn:Func} {s:ChangeSpec} {conds:List PathCond} {apart fresh handsOn again:Bool}
  (own:ownKnob C.prog.godebug=none) (started:os.Started) (noInit:C.prog.inits.idxOf? f=none) (hfn:C.prog.funcs[f]?=some fn)
  (h0:(match (begin C.prog (fun _ _=>0) default).world.heap[C.prog.globals.size]? with | some (.cells _ _ _)=>true | _=>false)=true)
  (witness:∃ (w:World) (tape:Tape) (i:Input),w.os=os∧(w.forCall tape i).Shaped C.prog∧i.vars=[]∧Input.okWide C.prog (w.forCall tape i) .any w.heap.size f i ∧
   s.pre6 enc C.prog fn conds apart (w.forCall tape i).memory i.args∧a.holds C.prog (lone (Frame.enter C.prog f i.args .normal) [] (w.forCall tape i)))
  (contract:∀ (W:World) (base:Nat) (args:Array Value) (ds gs:List (DataW K)) (before:List MemPlace),
   (∃ (b:Nat) (cs:Array Value) (ty:TypeId) (fr:Nat×Nat),W.heap[b]?=some (Obj.cells cs ty fr)) →
   (∀ (j:Nat) t v,fn.params[j]?=some t→args[j]?=some v→Value.okWide C.prog W .any base t v) →
   DataW.Whole enc C.prog fn.params.toList s.vars apart W args.toList ds gs before →
   conds.all (PathCond.test C.prog ⟨fn.params.toList,ds,s.plain.varTypes C.prog,gs⟩)=true →
   Calls C.prog f args W fun e W'=>∃ v,e=.returned v∧s.post enc C.prog fn apart fresh handsOn again W args v W') :
  ReturnsInHanded a C os f .any (s.pre6 enc C.prog fn conds apart) (s.post enc C.prog fn apart fresh handsOn again):=by
 refine returnsInHanded_of_calls own started noInit witness ?_;intro w tape i _ hsh _ hok hpre hholds;obtain ⟨_,_,_,fn',hfn',_,_,_,_,hval⟩:=hok;have e:fn'=fn:=Option.some.inj (hfn'.symm.trans hfn);subst e;obtain ⟨⟨ds,gs,before,hw,hc⟩,hz⟩:=hpre;have hw':=DataW.Whole.of_heap (w':=w.forCall tape i) (by rfl) hw
 have hb:∃ (b:Nat) (cs:Array Value) (ty:TypeId) (fr:Nat×Nat),(w.forCall tape i).heap[b]?=some (Obj.cells cs ty fr):=by
  split at h0
  ·rename_i cs ty fr hb;have hlt:=(Array.getElem?_eq_some_iff.1 hb).1;obtain ⟨o,o2,h1,h2,h3⟩:=hsh.2 C.prog.globals.size (Nat.le_refl _) hlt;rw [hb] at h2
   cases h2
   rw [Nat.sub_self] at h3;have:World.looseAt 0=false:=rfl;rw [this] at h3;simp only [Bool.false_eq_true,if_false] at h3;subst h3;exact ⟨_,_,_,_,h1⟩
  ·cases h0
 refine (contract (w.forCall tape i) w.heap.size i.args ds gs before hb hval hw' hc).mono fun e W' ⟨v,he,hp⟩=>?_;subst he;exact ChangeSpec.post_blind hp
end Go.Am
