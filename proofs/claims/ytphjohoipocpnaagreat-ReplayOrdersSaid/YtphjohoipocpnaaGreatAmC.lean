import Derived.Test.YtphjohoipocpnaaGreatAmB
import Derived.Laws.BytesString
import Derived.MapKept
import Derived.Laws.Append
set_option linter.unusedSimpArgs false
set_option linter.unusedVariables false
/- Conversions, maps, the small builtins. -/
namespace Go.Am
open Go
variable {P:Program} {T:Tab} {μ:Mu} {H:Heap} {w:World}
theorem getMap {r:Nat} {es:Array MapEntry} {clock:Nat} (h:w.heap[r]?=some (.map es clock)):(getObj r).run P w=.ok (.map es clock) w:=by simp [getObj,Sem.run,h]
theorem setMap {r:Nat} {es:Array MapEntry} {clock:Nat} (o:Obj) (h:w.heap[r]?=some (.map es clock)):(setObj r o).run P w=.ok () (w.putObj r o):=by simp [setObj,Sem.run,h,World.putObj]
theorem Post.newCellsM (h:Sim μ H w) {vs:List V} {cs:Array Value} {pre:List Value} (hr:RVL μ vs pre) (hp:∀ (j:Nat) (u:Value),pre[j]?=some u→cs[j]?=some u) (hle:pre.length≤cs.size) (ty:TypeId) (fr:Nat×Nat)
  (hfr:fr.1=fr.2∨(bytesOk=true∧cs.size≤fr.1)) :
  Post μ H w (upd μ H.n (w.heap.size,0,cs.size)) (H.push (.cells false vs)) (w.alloc (.cells cs ty fr)):=by
 refine Post.alloc h ⟨w.heap.size,0,cs.size,cs,ty,fr,upd_same _ _ _,World.alloc_heap_new _ _,?_⟩;have hl:=hr.length;refine ⟨by omega,Nat.le_refl _,?_,fun _=>hfr⟩;intro j v hv;obtain ⟨u,hu,hr'⟩:=(hr.mono (upd_ext h _)).get hv;exact ⟨u,by simpa using hp j u hu,hr'⟩
theorem bytesOf_eq:∀ {cs:List V} {s:List UInt8},bytesOf cs=some s→∃ ns:List Int,cs=ns.map (V.int .u8)∧s=ns.map fun n=>UInt8.ofNat n.toNat
 | [],s,h=>by simp [bytesOf] at h;exact ⟨[],rfl,by simp [h]⟩
 | v::vs,s,h=>by
   unfold bytesOf at h;split at h
   ·cases ‹v::vs=[]›
   ·rename_i n vs' e
    cases e
    simp only [Option.map_eq_some_iff] at h;obtain ⟨s',h1,rfl⟩:=h;obtain ⟨ns,e1,e2⟩:=bytesOf_eq h1;exact ⟨n::ns,by rw [e1];rfl,by rw [e2];rfl⟩
   ·cases h
theorem RVL.ints:∀ {ns:List Int} {k:IntKind} {us:List Value},RVL μ (ns.map (V.int k)) us→us=ns.map (Value.int k)
 | [],_,_,.nil=>rfl
 | _::_,_,_,.cons h t=>by rw [h.int_inv,RVL.ints t];rfl
theorem foldl_push:∀ (ns:List Int) (s:List UInt8),ns.foldl (fun r n=>r.push (UInt8.ofNat n.toNat)) (⟨⟨s⟩⟩:ByteArray)=⟨⟨s++ns.map fun n=>UInt8.ofNat n.toNat⟩⟩
 | [],s=>by simp
 | n::ns,s=>by
   rw [List.foldl_cons]
   have:(⟨⟨s⟩⟩:ByteArray).push (UInt8.ofNat n.toNat)=⟨⟨s++[UInt8.ofNat n.toNat]⟩⟩:=by
    unfold ByteArray.push;simp
   rw [this,foldl_push ns];simp
theorem good_convert (hT:TabOk P T) (h:Sim μ H w) {src dst:TypeId} {x r:V} {u:Value} {H':Heap} (hu:RV μ x u) (e:convert T H src dst x=some (r,H')) :
  VGood P μ H w (Go.convert src dst u) r H':=by
 unfold Am.convert at e;split at e
 case h_2=>cases e
 rename_i us ud hs hd;split at e
 ·rename_i k j n
  cases e
  obtain rfl:=hu.int_inv;exact .same h (by simp [Go.convert,run_und (hT.und _ _ hs),run_und (hT.und _ _ hd),Conv.intToInt]) (.int _ _)
 ·rename_i s
  cases e
  obtain rfl:=hu.str_inv;refine .same h (u:=.string ⟨⟨s⟩⟩) ?_ (.str _);simp [Go.convert,run_und (hT.und _ _ hs),run_und (hT.und _ _ hd)]
 ·rename_i el s;split at e
  ·rename_i he;rw [Bool.cond_eq_ite] at e;split at e
   case isFalse=>cases e
   rename_i hsl;rw [Bool.and_eq_true,Nat.blt_eq] at hsl;obtain ⟨hbk,hsl⟩:=hsl;simp only [Option.some.injEq,Prod.mk.injEq] at e;obtain ⟨rfl,rfl⟩:=e;obtain rfl:=hu.str_inv
   let cap:=(Question.appendCap s.length 0 el).cut (w.tape w.drawn (.appendCap s.length 0 el))
   have hcap:s.length≤cap:=by simp [cap,Question.cut]
   have hcap2:cap≤9223372036854775807:=by
    have:=Nat.mod_lt (w.tape w.drawn (.appendCap s.length 0 el)) (show 0<2 ^ 63 - s.length by omega);simp only [cap,Question.cut];omega
   let pre:List Value:=s.map fun b=>.int .u8 b.toNat
   let cs:Array Value:=(⟨s⟩:Array UInt8).map (fun b=>Value.int .u8 b.toNat)++Array.replicate (cap - s.length) (.int .u8 0)
   have hsz:cs.size=cap:=by simp [cs];omega
   have hd1:Sim μ H { w with drawn:=w.drawn+1 }:=h.drawn _
   have hpre:RVL μ (s.map fun b=>V.int .u8 b.toNat) pre:=by
    have:∀ l:List UInt8,RVL μ (l.map fun b=>V.int .u8 (b.toNat:Int)) (l.map fun b=>Value.int .u8 (b.toNat:Int)):=by
     intro l
     induction l with
     | nil=>exact .nil
     | cons b l ih=>exact .cons (.int _ _) ih
    exact this s
   have hP:=Post.newCellsM hd1 hpre (cs:=cs) (by
    intro j v hv;simp only [cs,pre] at hv ⊢;rw [Array.getElem?_append_left]
    ·simpa using hv
    ·simp;rcases Nat.lt_or_ge j s.length with h' | h'
     ·exact h'
     ·rw [List.getElem?_eq_none (by simpa using h')] at hv;cases hv) (by simp [pre];omega) el (cap,cap+1) (.inr ⟨hbk,by rw [hsz];exact Nat.le_refl _⟩)
   refine ⟨.slice (some ⟨w.heap.size,0,none⟩) s.length cap,_,_,?_,?_,(Post.drawn h _).trans hP⟩
   ·have hf:∀ (w1:World),(w1.alloc (.cells cs el)).freeze { block:=w1.heap.size,off:=cap } 1=w1.alloc (.cells cs el (cap,cap+1)):=by
     intro w1;unfold World.freeze;rw [if_neg (by omega)]
     have:(w1.alloc (.cells cs el)).heap.modify w1.heap.size (fun
       | .cells c elem (lo,hi)=>.cells c elem (if lo == hi then (cap,cap+1) else (min lo cap,max hi (cap+1)))
       | o=>o)=(w1.alloc (.cells cs el (cap,cap+1))).heap:=by
      apply Array.ext_getElem?;intro i;rw [Array.getElem?_modify];show (if w1.heap.size=i then Option.map _ (w1.heap.push _)[i]? else (w1.heap.push _)[i]?)=(w1.heap.push _)[i]?;rw [Array.getElem?_push,Array.getElem?_push]
      by_cases hi:w1.heap.size=i
      ·rw [if_pos hi,if_pos hi.symm,if_pos hi.symm];simp
      ·rw [if_neg hi,if_neg (fun q=>hi q.symm),if_neg (fun q=>hi q.symm)]
     exact congrArg (fun hp=>({ (w1.alloc (.cells cs el)) with heap:=hp }:World)) this
    have hsh:∀ (w1:World),(w1.alloc (.cells cs el)).shape? w1.heap.size=some (el,cap):=by
     intro w1;unfold World.shape?;rw [World.alloc_heap_new];simp [hsz]
    have hss:(⟨⟨s⟩⟩:ByteArray).size=s.length:=rfl;have hq:(Question.appendCap s.length 0 el).forced=false:=rfl;have hrow:(newRow el cs).run P { w with drawn:=w.drawn+1 }=.ok ⟨w.heap.size,0,none⟩ (World.alloc { w with drawn:=w.drawn+1 } (.cells cs el)):=run_newRow el cs;simp only [Go.convert,Sem.run_bind,run_und (hT.und _ _ hs),run_und (hT.und _ _ hd),Result.andThen_ok,run_und (hT.und _ _ he),Conv.stringToBytes,hss,run_choose,hq,Bool.false_eq_true,if_false];rw [show ((⟨⟨s⟩⟩:ByteArray).data.map fun b=>Value.int .u8 (b.toNat:Int))++Array.replicate (cap - s.length) (.int .u8 0)=cs from rfl,hrow];simp only [Result.andThen_ok,markStringish,Sem.run_bind,run_shape,hsh { w with drawn:=w.drawn+1 },run_freeze,hf { w with drawn:=w.drawn+1 },Sem.run_pure]
    rfl
   ·refine RV.slice (upd_same _ _ _) hcap (fun m hm=>by cases hm) ?_ (.inr rfl) (.inr hcap2);rw [hsz];omega
  ·cases e
 ·rename_i el0 el l o n s c;rw [Bool.cond_eq_ite] at e;split at e
  ·rename_i hsd0;simp only [Bool.and_eq_true,Nat.beq_eq,Nat.blt_eq] at hsd0;obtain ⟨hbk,hsd,hn0⟩:=hsd0;subst hsd;split at e
   ·rename_i vs he hg
    cases e
    cases hu with
    | slice hm hn hcap ht ho hbd =>
    rename_i b base tot cap ad
    obtain rfl:ad=⟨b,base+o,none⟩:=by
     rcases ho with h0 | h0
     ·omega
     ·exact h0
    obtain ⟨b',base',tot',cs,ty,fr,h1,h2,h3⟩:=h.obj _ _ hg;rw [hm] at h1;cases h1;have hsh:w.shape? b=some (ty,cs.size):=by unfold World.shape?;rw [h2]
    have hel:el0=el:=by rw [hs] at hd;cases hd;rfl
    subst hel;refine ⟨.slice (some ⟨b,base+o,none⟩) n cap,w.freeze ⟨b,cs.size,none⟩ 1,μ,?_,.slice hm hn hcap ht ho hbd,?_⟩
    ·simp [Go.convert,run_und (hT.und _ _ hs),run_und (hT.und _ _ he),markStringish,hsh]
    ·rw [freeze_eq h2];refine Post.turn h hg rfl hm _ ⟨b,base,tot,cs,ty,_,hm,World.putObj_heap_same ?_,⟨h3.len,h3.room,h3.cell,fun hro=>?_⟩⟩
     ·rcases Nat.lt_or_ge b w.heap.size with h' | h'
      ·exact h'
      ·rw [Array.getElem?_eq_none h'] at h2;cases h2
     ·right
      refine ⟨hbk,?_⟩;rcases h3.free hro with h4 | ⟨_,h4⟩
      ·simp [h4]
      ·split
       ·simp
       ·simp;omega
   ·cases e
  ·cases e
 ·rename_i el hn1;split at e
  ·rename_i he
   cases e
   cases hu
   refine .same h (u:=.string .empty) ?_ (.str []);rw [run_convert_bytes_string w src dst el _ _ _ (hT.und _ _ hs) (hT.und _ _ he) (hT.und _ _ hd)];simp [Conv.bytesToString]
  ·rename_i l o n s c he;split at e
   ·rename_i vs hv;split at e
    ·rename_i cs hcs;simp only [Option.map_eq_some_iff] at e;obtain ⟨bs,hbs,e⟩:=e;simp only [Prod.mk.injEq] at e;obtain ⟨rfl,rfl⟩:=e
     cases hu with
     | slice hm hn hcap ht ho hbd =>
     rename_i b0 base tot cap ad;obtain ⟨ro,b',base',tot',ccs,ty,fr,hg,hm',hb',hcl⟩:=h.cells hv;rw [hm] at hm';cases hm';obtain ⟨us,hl,hrv,hcell⟩:=hcl.take hcs;obtain ⟨ns,e1,e2⟩:=bytesOf_eq hbs;subst e1;have hus:=hrv.ints;subst hus
     have hoff:ad=⟨b0,base+o,none⟩∨n=0:=by
      rcases ho with h0 | h0
      ·right;omega
      ·exact .inl h0
     have hld:(loadCells ad n).run P w=.ok (ns.map (Value.int .u8)).toArray w:=by
      rw [← hl];rcases hoff with rfl | h0
      ·exact run_loadCells fun j u' hu'=>by rw [cell_eq hb'];exact hcell j u' hu'
      ·have:ns=[]:=by simpa [h0] using hl
       subst this;obtain ⟨b1,o1,sp1⟩:=ad;simp [loadCells,loadCellsFrom]
     refine .same h (u:=.string ⟨⟨bs⟩⟩) ?_ (.str _);rw [run_convert_bytes_string w src dst el _ _ _ (hT.und _ _ hs) (hT.und _ _ he) (hT.und _ _ hd),run_bytesToString w _ n cap ns hld];have:=foldl_push ns [];rw [List.nil_append,← e2] at this;rw [show (ByteArray.empty:ByteArray)=⟨⟨[]⟩⟩ from rfl,this]
    ·cases e
   ·cases e
  ·cases e
 ·cases e
theorem good_len (hT:TabOk P T) (h:Sim μ H w) {t ty:TypeId} {d:TypeDesc} {x:V} {u:Value} {n:Nat} (hu:RV μ x u) (hd:T.und t=some d)
  (e:(∃ s,x=.str s∧n=s.length∧d=.string)∨(∃ el,d=.slice el∧((∃ l o s c,x=.slice l o n s c)∨(x=.nilSlice∧n=0))) ∨
   (∃ k el,d=.map k el∧((x=.nilMap∧n=0)∨∃ r es,x=.map r∧H.get r=some (.map es)∧n=es.length))) :
  VGood P μ H w (Builtin.len_ #[t] ty #[u]) (.int .i64 n) H:=by
 refine .same h (u:=.int .i64 n) ?_ (.int _ _);rcases e with ⟨s,rfl,rfl,rfl⟩ | ⟨el,rfl,⟨l,o,s,c,rfl⟩ | ⟨rfl,rfl⟩⟩ | ⟨k,el,rfl,⟨rfl,rfl⟩ | ⟨r,es,rfl,hg,rfl⟩⟩
 ·obtain rfl:=hu.str_inv;have:(⟨⟨s⟩⟩:ByteArray).size=s.length:=rfl;simp [Builtin.len_,run_und (hT.und _ _ hd),goInt,this]
 ·cases hu;simp [Builtin.len_,run_und (hT.und _ _ hd),goInt]
 ·cases hu;simp [Builtin.len_,run_und (hT.und _ _ hd),goInt]
 ·cases hu;simp [Builtin.len_,run_und (hT.und _ _ hd),goInt]
 ·cases hu with
  | map hm =>
    obtain ⟨b,x,y,fs,clock,h1,h2,h3⟩:=h.obj _ _ hg;rw [hm] at h1;cases h1;simp [Builtin.len_,run_und (hT.und _ _ hd),goInt,getMap h2,← Array.length_toList,h3.length]
theorem good_cap (hT:TabOk P T) (h:Sim μ H w) {t ty:TypeId} {el:TypeId} {x:V} {u:Value} {n:Nat} (hu:RV μ x u) (hd:T.und t=some (.slice el))
  (e:(∃ l o m s,x=.slice l o m s (some n))∨(x=.nilSlice∧n=0)):VGood P μ H w (Builtin.cap_ #[t] ty #[u]) (.int .i64 n) H:=by
 refine .same h (u:=.int .i64 n) ?_ (.int _ _);rcases e with ⟨l,o,m,s,rfl⟩ | ⟨rfl,rfl⟩
 ·cases hu with
  | slice hm hn hc ht ho hbd =>
    have:=hc n rfl;subst this;simp [Builtin.cap_,run_und (hT.und _ _ hd),goInt]
 ·cases hu;simp [Builtin.cap_,run_und (hT.und _ _ hd),goInt]
theorem good_max (h:Sim μ H w):∀ {vs:List V} {us:List Value} {x r:V} {u:Value},RVL μ vs us→RV μ x u→extremum (fun b a=>decide (b > a)) x vs=some r →
  ∃ u',(us.foldlM Builtin.max2 u).run P w=.ok u' w∧RV μ r u'
 | [],_,x,r,u,.nil,hx,e=>by simp [extremum] at e;subst e;exact ⟨u,by simp,hx⟩
 | v::vs,_,x,r,u,.cons hv t,hx,e=>by
   unfold extremum at e;split at e
   ·cases ‹v::vs=[]›
   ·rename_i k a k' b vs' e1
    cases e1
    by_cases hk:k=k'
    ·subst hk;simp only [decide_true,cond_true] at e;obtain rfl:=hx.int_inv;obtain rfl:=hv.int_inv
     have hx':RV μ (.int k (cond (decide (b > a)) b a)) (.int k (if b > a then b else a)):=by
      by_cases hc:b > a
      ·simp only [hc,decide_true,cond_true,if_true];exact .int _ _
      ·simp only [hc,decide_false,cond_false,if_false];exact .int _ _
     obtain ⟨u',h1,h2⟩:=good_max h t hx' e;refine ⟨u',?_,h2⟩;rw [List.foldlM_cons,Sem.run_bind];simp only [Builtin.max2,Sem.run_pure,Result.andThen_ok];exact h1
    ·simp [hk] at e
   ·cases e
theorem good_min (h:Sim μ H w):∀ {vs:List V} {us:List Value} {x r:V} {u:Value},RVL μ vs us→RV μ x u→extremum (fun b a=>decide (b<a)) x vs=some r →
  ∃ u',(us.foldlM Builtin.min2 u).run P w=.ok u' w∧RV μ r u'
 | [],_,x,r,u,.nil,hx,e=>by simp [extremum] at e;subst e;exact ⟨u,by simp,hx⟩
 | v::vs,_,x,r,u,.cons hv t,hx,e=>by
   unfold extremum at e;split at e
   ·cases ‹v::vs=[]›
   ·rename_i k a k' b vs' e1
    cases e1
    by_cases hk:k=k'
    ·subst hk;simp only [decide_true,cond_true] at e;obtain rfl:=hx.int_inv;obtain rfl:=hv.int_inv
     have hx':RV μ (.int k (cond (decide (b<a)) b a)) (.int k (if b<a then b else a)):=by
      by_cases hc:b<a
      ·simp only [hc,decide_true,cond_true,if_true];exact .int _ _
      ·simp only [hc,decide_false,cond_false,if_false];exact .int _ _
     obtain ⟨u',h1,h2⟩:=good_min h t hx' e;refine ⟨u',?_,h2⟩;rw [List.foldlM_cons,Sem.run_bind];simp only [Builtin.min2,Sem.run_pure,Result.andThen_ok];exact h1
    ·simp [hk] at e
   ·cases e
end Go.Am

namespace Go.Am
open Go
variable {P:Program} {T:Tab} {μ:Mu} {H:Heap} {w:World}
theorem cell_heap {w w1:World} (h:w1.heap=w.heap) (a:Addr):w1.cell? a=w.cell? a:=by unfold World.cell?;rw [h]
theorem good_firstCells (h:Sim μ H w) {y:V} {u:Value} {s n m:Nat} {new:List V} (hu:RV μ y u) (hm:lenOf y=some m) (hn:n≤m) (e:firstCells H s n y=some new) :
  ∃ us,us.length=n * s∧RVL μ new us∧∀ w1:World,w1.heap=w.heap→(Builtin.firstCells s n u).run P w1=.ok us.toArray w1:=by
 unfold Am.firstCells at e;split at e
 ·rename_i l o n' s' c;split at e
  ·rename_i vs hv
   cases hu with
   | slice hm' hn' hcap ht ho hbd =>
   rename_i b0 base tot cap off;simp only [lenOf,Option.some.injEq] at hm;subst hm;obtain ⟨ro,b',base',tot',cs,ty,fr,hg,hm2,hb',hcl⟩:=h.cells hv;rw [hm'] at hm2;cases hm2;obtain ⟨us,hl,hrv,hcell⟩:=hcl.take e;refine ⟨us,hl,hrv,fun w1 hw1=>?_⟩;simp only [Builtin.firstCells];rw [← hl]
   by_cases h0:cap=0
   ·have:us=[]:=by
     have:us.length=0:=by rw [hl,show n=0 from by omega];simp
     exact List.length_eq_zero_iff.1 this
    subst this;simp [loadCells,loadCellsFrom]
   ·have hoff:off=⟨b0,base+o,none⟩:=ho.resolve_left h0;subst hoff;exact run_loadCells fun j u' hu'=>by rw [cell_heap hw1,cell_eq hb'];exact hcell j u' hu'
  ·cases e
 ·simp only [cond_beq] at e;split at e
  ·rename_i h0;cases e;cases hu;subst h0;exact ⟨[],by simp,.nil,fun w1 _=>by simp [Builtin.firstCells]⟩
  ·cases e
 ·rename_i x
  cases hc:(Nat.beq s 1 && Nat.ble n x.length) with
  | false=>rw [hc] at e;cases e
  | true =>
    rw [hc] at e;simp only [cond_true,Option.some.injEq] at e;rw [Bool.and_eq_true,Nat.beq_eq,Nat.ble_eq] at hc;obtain ⟨rfl,hle⟩:=hc;subst e;obtain rfl:=hu.str_inv;refine ⟨(x.take n).map fun b=>.int .u8 b.toNat,by simp;omega,?_,fun w1 _=>?_⟩
    ·have:∀ l:List UInt8,RVL μ (l.map fun b=>V.int .u8 (b.toNat:Int)) (l.map fun b=>Value.int .u8 (b.toNat:Int)):=by
      intro l
      induction l with
      | nil=>exact .nil
      | cons b l ih=>exact .cons (.int _ _) ih
     exact this _
    ·simp only [Builtin.firstCells,extract_mk,Sem.run_pure,List.drop_zero];simp
 ·cases e
theorem run_lenOf {y:V} {u:Value} {n:Nat} (hu:RV μ y u) (e:lenOf y=some n):(Builtin.lenOf u).run P w=.ok n w:=by
 unfold Am.lenOf at e;split at e
 ·cases e;cases hu;simp [Builtin.lenOf]
 ·cases e;cases hu;simp [Builtin.lenOf]
 ·cases e;obtain rfl:=hu.str_inv;simp [Builtin.lenOf];rfl
 ·cases e
structure Appends (P:Program) (w:World) (u1:TypeDesc) (bytes s:Nat) (e:TypeId) (u:Value) (n:Nat) (us:List Value):Prop where
 count:(∃ k k',u1=.int k∧u=.int k' (n:Int)∧n<17592186044416∧n * bytes<17592186044416 ∧
   ∀ w1:World,w1.heap=w.heap→(if n * s=0 then pure #[] else do pure (Builtin.zeroCells (← zeroValue e).cells n):Sem (Array Value)).run P w1=.ok us.toArray w1) ∨
  ((∀ k,u1≠.int k)∧(∀ w1:World,(Builtin.lenOf u).run P w1=.ok n w1)∧∀ w1:World,w1.heap=w.heap→(Builtin.firstCells s n u).run P w1=.ok us.toArray w1)
 len:us.length=n * s
theorem good_appended (hT:TabOk P T) (h:Sim μ H w) {u1:TypeDesc} {e:TypeId} {s bytes:Nat} {z:List V} {y:V} {u:Value} {n:Nat} {new:List V} (hs:T.size e=some (s,bytes)) (hz:T.zero e=some z) (hzl:z.length=s)
  (hu:RV μ y u) (ea:appended H u1 s bytes z y=some (n,new)):∃ us,RVL μ new us∧Appends P w u1 bytes s e u n us:=by
 obtain ⟨i,zv,hi,hzv,hr⟩:=hT.zero _ _ hz;obtain ⟨ie,hie,hin,hby⟩:=hT.size _ _ _ hs;rw [hi] at hie;cases hie;have hzs:zv.cells.size=s:=by have:=(hr μ).length;rw [Array.length_toList] at this;omega
 unfold Am.appended at ea;split at ea
 ·rename_i k;split at ea
  ·rename_i n' hn'
   cases hc:(Nat.blt n' 17592186044416 && Nat.blt (n' * bytes) 17592186044416) with
   | false=>rw [hc] at ea;cases ea
   | true =>
     rw [hc] at ea;simp only [cond_true,Option.some.injEq,Prod.mk.injEq] at ea;obtain ⟨rfl,rfl⟩:=ea;rw [Bool.and_eq_true,Nat.blt_eq,Nat.blt_eq] at hc;obtain ⟨k',rfl⟩:=natOf_eq hn';obtain rfl:=hu.int_inv;have hrow:=(hr μ).zeros n';refine ⟨_,hrow,⟨.inl ⟨k,k',rfl,rfl,hc.1,hc.2,?_⟩,?_⟩⟩
     ·intro w1 hw1
      by_cases h0:n' * s=0
      ·simp [h0,hzs]
      ·simp only [if_neg h0,Sem.run_bind,run_zero hi hzv,Result.andThen_ok,Sem.run_pure,Builtin.zeroCells]
     ·simp [hzs]
  ·cases ea
 ·rename_i hne;split at ea
  ·rename_i n' hn';simp only [Option.map_eq_some_iff] at ea;obtain ⟨cs,hcs,ea⟩:=ea;simp only [Prod.mk.injEq] at ea;obtain ⟨rfl,rfl⟩:=ea;obtain ⟨us,hl,hrv,hrun⟩:=good_firstCells (P:=P) h hu hn' (Nat.le_refl _) hcs;exact ⟨us,hrv,⟨.inr ⟨fun k hk=>hne k hk,fun w1=>run_lenOf hu hn',hrun⟩,hl⟩⟩
  ·cases ea
theorem run_append_in (hT:TabOk P T) {t0 t1 ty e:TypeId} {u1:TypeDesc} {i:TypeInfo} {bytes:Nat} (hd0:P.underlying t0=some (.slice e)) (hd1:P.underlying t1=some u1) (hi:P.info? e=some i) (hby:i.bytes=bytes) {u:Value} {n:Nat} {us:List Value}
  (ha:Appends P w u1 bytes i.size e u n us) {base:Option Addr} {sLen sCap:Nat} (hroom:sLen+n≤sCap) {w':World}
  (hst:(match base with | some a=>storeCells (a.add (sLen * i.size)) us | none=>pure ():Sem Unit).run P w=.ok () w') :
  (Builtin.append_ #[t0,t1] ty #[.slice base sLen sCap,u]).run P w=.ok (.slice base (sLen+n) sCap) w':=by
 rcases ha.count with ⟨k,k',rfl,rfl,hn1,hn2,hcs⟩ | ⟨hne,hlen,hcs⟩
 ·have hw:IntKind.i64.wrap (n:Int)=n:=wrap64_of (by omega) (by omega);have h1:¬ ((n:Int)<0):=by omega
  have h2:¬ ((n:Int) * (i.bytes:Int) > 2 ^ 48):=by
   rw [hby];have:((n:Int) * (bytes:Int))=((n * bytes:Nat):Int):=by push_cast;rfl
   rw [this];omega
  have hc:=hcs w rfl
  simp only [Builtin.append_,List.getElem?_toArray,List.getElem?_cons_zero,List.getElem?_cons_succ,Sem.run_bind,run_und hd0,run_und hd1,run_size hi,run_info hi,Result.andThen_ok,Sem.run_pure,if_true,asInt,asIntOf,hw,if_neg h1,if_neg h2,Int.toNat_natCast,
   if_pos hroom,Bool.not_true,Bool.false_eq_true,if_false,hc]
  cases base with
  | none=>simp at hst ⊢;exact hst
  | some a=>simp at hst ⊢;simp [hst]
 ·have hc:=hcs w rfl
  cases u1 <;> first | (exact absurd rfl (hne _)) | skip
  all_goals
  simp only [Builtin.append_,List.getElem?_toArray,List.getElem?_cons_zero,List.getElem?_cons_succ,Sem.run_bind,run_und hd0,run_und hd1,run_size hi,run_info hi,Result.andThen_ok,Sem.run_pure,Bool.false_eq_true,if_false,hlen,
   if_pos hroom,Bool.not_false,if_true,hc]
  cases base with
  | none=>simp at hst ⊢;exact hst
  | some a=>simp at hst ⊢;simp [hst]
theorem run_append_new (hT:TabOk P T) {t0 t1 ty e:TypeId} {u1:TypeDesc} {i:TypeInfo} {zv:Value} {bytes:Nat} (hd0:P.underlying t0=some (.slice e)) (hd1:P.underlying t1=some u1) (hi:P.info? e=some i) (hz:i.zero=some zv) (hby:i.bytes=bytes) {u:Value} {n:Nat} {us olds:List Value}
  (ha:Appends P w u1 bytes i.size e u n us) {base:Option Addr} {sLen sCap:Nat} (hroom:sCap<sLen+n) (hsm:sLen+n<17592186044416) (hsb:(sLen+n) * bytes<17592186044416)
  (hold:(Builtin.firstCells i.size sLen (.slice base sLen sCap)).run P { w with drawn:=w.drawn+1 }=.ok olds.toArray { w with drawn:=w.drawn+1 }) :
  ∃ newCap,sLen+n≤newCap∧newCap≤9223372036854775807∧(Builtin.append_ #[t0,t1] ty #[.slice base sLen sCap,u]).run P w=.ok (.slice (some ⟨w.heap.size,0,none⟩) (sLen+n) newCap)
    (World.alloc { w with drawn:=w.drawn+1 } (.cells (olds.toArray++us.toArray++Builtin.zeroCells zv.cells (newCap - (sLen+n))) e)):=by
 refine ⟨(Question.appendCap (sLen+n) sCap e).cut (w.tape w.drawn (.appendCap (sLen+n) sCap e)),by simp [Question.cut],?_,?_⟩
 ·have:=Nat.mod_lt (w.tape w.drawn (.appendCap (sLen+n) sCap e)) (show 0<2 ^ 63 - (sLen+n) by omega);simp only [Question.cut];omega
 have g1:¬ (((sLen+n:Nat):Int) > IntKind.i64.max):=by
  have h3:IntKind.i64.max=9223372036854775807:=by decide
  rw [h3];omega
 have g2:¬ (Builtin.nextslicecap (sLen+n) sCap * i.bytes > 2 ^ 48):=by
  have:=growslice_fits (bytes:=i.bytes) hroom (by rw [hby];omega);omega
 have hq:(Question.appendCap (sLen+n) sCap e).forced=false:=rfl;have hno:¬ (sLen+n≤sCap):=by omega
 rcases ha.count with ⟨k,k',rfl,rfl,hn1,hn2,hcs⟩ | ⟨hne,hlen,hcs⟩
 ·have hw:IntKind.i64.wrap (n:Int)=n:=wrap64_of (by omega) (by omega);have h1:¬ ((n:Int)<0):=by omega
  have h2:¬ ((n:Int) * (i.bytes:Int) > 2 ^ 48):=by
   rw [hby];have:((n:Int) * (bytes:Int))=((n * bytes:Nat):Int):=by push_cast;rfl
   rw [this];omega
  have hc:=hcs { w with drawn:=w.drawn+1 } rfl
  simp only [Builtin.append_,List.getElem?_toArray,List.getElem?_cons_zero,List.getElem?_cons_succ,Sem.run_bind,run_und hd0,run_und hd1,run_size hi,run_info hi,Result.andThen_ok,Sem.run_pure,if_true,asInt,asIntOf,hw,if_neg h1,if_neg h2,Int.toNat_natCast,
   if_neg hno,g1,false_and,if_neg g2,if_false,run_choose,hq,Bool.false_eq_true,run_askRoom,hold,Bool.not_true,hc,run_zero hi hz,run_newRow]
 ·have hc:=hcs { w with drawn:=w.drawn+1 } rfl
  cases u1 <;> first | (exact absurd rfl (hne _)) | skip
  all_goals
  simp only [Builtin.append_,List.getElem?_toArray,List.getElem?_cons_zero,List.getElem?_cons_succ,Sem.run_bind,run_und hd0,run_und hd1,run_size hi,run_info hi,Result.andThen_ok,Sem.run_pure,Bool.false_eq_true,if_false,hlen,
   if_neg hno,g1,false_and,if_neg g2,run_choose,hq,run_askRoom,hold,Bool.not_false,if_true,hc,run_zero hi hz,run_newRow]
end Go.Am

namespace Go.Am
open Go
variable {P:Program} {T:Tab} {μ:Mu} {H:Heap} {w:World}
theorem zeroCells_size (z:Array Value) (n:Nat):(Builtin.zeroCells z n).size=n * z.size:=by simp [Builtin.zeroCells]
theorem take_of_take? {vs r:List V} {o n:Nat} (h:take? vs o n=some r):r.length=n:=(take?_eq h).2
theorem good_append (hT:TabOk P T) (h:Sim μ H w) {t0 t1 ty:TypeId} {x y r:V} {ux uy:Value} {H':Heap} (hx:RV μ x ux) (hy:RV μ y uy) (e:append T H t0 t1 x y=some (r,H')) :
  VGood P μ H w (Builtin.append_ #[t0,t1] ty #[ux,uy]) r H':=by
 unfold Am.append at e;split at e
 case h_2=>cases e
 rename_i el u1 hd0 hd1;split at e
 case h_2=>cases e
 rename_i s bytes z hs hz;simp only [cond_beq] at e;split at e
 case isFalse=>cases e
 rename_i hzl;obtain ⟨i,zv,hi,hzv,hr⟩:=hT.zero _ _ hz;obtain ⟨ie,hie,hin,hby⟩:=hT.size _ _ _ hs;rw [hi] at hie;cases hie;have hzs:zv.cells.size=s:=by have:=(hr μ).length;rw [Array.length_toList] at this;omega
 split at e
 ·cases e
 rename_i n new hap;obtain ⟨us,hrv,hA⟩:=good_appended (P:=P) hT h hs hz hzl hy hap;subst hin;have hnl:=hrv.length;have hul:=hA.len;have hu0:=hT.und _ _ hd0;have hu1:=hT.und _ _ hd1
 -- a new row
 have grow:∀ {base:Option Addr} {sLen sCap:Nat} {old:List V} {olds:List Value} (H1:Heap),Sim μ H1 w→RVL μ old olds→olds.length=sLen * i.size→sCap<sLen+n→sLen+n<17592186044416→(sLen+n) * bytes<17592186044416 →
   (Builtin.firstCells i.size sLen (.slice base sLen sCap)).run P { w with drawn:=w.drawn+1 }=.ok olds.toArray { w with drawn:=w.drawn+1 } →
   ∃ u' w' μ',(Builtin.append_ #[t0,t1] ty #[.slice base sLen sCap,uy]).run P w=.ok u' w'∧RV μ' (.slice H1.n 0 (sLen+n) i.size none) u'∧Post μ H1 w μ' (H1.push (.cells false (old++new))) w':=by
  intro base sLen sCap old olds H1 hS1 hro hol hroom hsm hsb hold;obtain ⟨newCap,hge,hcm,hrun⟩:=run_append_new (P:=P) hT hu0 hu1 hi hzv hby hA hroom hsm hsb hold (ty:=ty);have hd1:Sim μ H1 { w with drawn:=w.drawn+1 }:=hS1.drawn _
  have hP:=Post.newCellsM hd1 (hro.append hrv) (cs:=olds.toArray++us.toArray++Builtin.zeroCells zv.cells (newCap - (sLen+n))) (by
   intro j u' hu'
   have hj:j<(olds++us).length:=by
    rcases Nat.lt_or_ge j (olds++us).length with h' | h'
    ·exact h'
    ·rw [List.getElem?_eq_none h'] at hu';cases hu'
   rw [Array.getElem?_append_left (by simpa using hj)];rw [← hu'];simp only [List.append_toArray,List.getElem?_toArray]) (by simp) el (0,0) (.inl rfl)
  refine ⟨_,_,_,hrun,?_,(Post.drawn hS1 _).trans hP⟩;refine RV.slice (upd_same _ _ _) hge (fun m hm=>by cases hm) ?_ (.inr rfl) (.inr hcm);have hm:(newCap - (sLen+n)) * i.size+(sLen+n) * i.size=newCap * i.size:=by rw [← Nat.add_mul];congr 1;omega
  have hm2:(sLen+n) * i.size=sLen * i.size+n * i.size:=Nat.add_mul _ _ _;simp only [Array.size_append,List.size_toArray,zeroCells_size,hzs,hol,hul];omega
 split at e
 ·cases hc:(Nat.blt n 17592186044416 && Nat.blt (n * bytes) 17592186044416) with
  | false=>rw [hc] at e;cases e
  | true =>
    rw [hc] at e;simp only [cond_true,cond_beq] at e;rw [Bool.and_eq_true,Nat.blt_eq,Nat.blt_eq] at hc
    cases hx
    split at e
    ·rename_i h0;subst h0
     cases e
     refine .same h (u:=.slice none 0 0) ?_ .nilSlice;exact run_append_in (P:=P) hT hu0 hu1 hi hby hA (by omega) (by simp)
    ·rename_i h0
     cases e
     have:=grow (base:=none) (sLen:=0) (sCap:=0) (old:=[]) (olds:=[]) H h .nil (by simp) (by omega) (by omega) (by simpa using hc.2) (by simp [Builtin.firstCells]);simpa [VGood] using this
 ·rename_i l o m s' c
  cases hc:(Nat.beq i.size s' && Nat.blt (m+n) 17592186044416 && Nat.blt ((m+n) * bytes) 17592186044416) with
  | false=>rw [hc] at e;cases e
  | true =>
    rw [hc] at e;simp only [cond_true,cond_beq] at e;simp only [Bool.and_eq_true,Nat.beq_eq,Nat.blt_eq] at hc;obtain ⟨⟨rfl,hmn⟩,hmb⟩:=hc;split at e
    ·rename_i h0;subst h0
     cases e
     have husn:us=[]:=by
      have:us.length=0:=by rw [hul];simp
      exact List.length_eq_zero_iff.1 this
     subst husn;have hx':=hx
     cases hx with
     | slice hm hn hcap ht ho hbd =>
     refine .same h ?_ hx';refine run_append_in (P:=P) hT hu0 hu1 hi hby hA (by omega) ?_;simp [storeCells]
    ·rename_i h0;split at e
     ·cases e
     rename_i old hold;obtain ⟨olds,hol,hro,horun⟩:=good_firstCells (P:=P) h hx (m:=m) rfl (Nat.le_refl _) hold;have hx':=hx
     cases hx with
     | slice hm hn hcap ht ho hbd =>
     rename_i b0 base tot cap off;have hdr:=horun { w with drawn:=w.drawn+1 } rfl;split at e
     ·rename_i q;have:=hcap q rfl;subst this;simp only [cond_ble] at e;split at e
      ·rename_i hle;simp only [Option.map_eq_some_iff] at e;obtain ⟨H2,hput,e⟩:=e
       cases e
       have hoff:off=⟨b0,base+o,none⟩:=by
        rcases ho with h1 | h1
        ·omega
        ·exact h1
       subst hoff;obtain ⟨w',hst,hp⟩:=run_putCells (P:=P) h hput hrv hm;refine ⟨_,w',μ,run_append_in (P:=P) hT hu0 hu1 hi hby hA hle (w':=w') ?_,?_,hp⟩
       ·simp only [add_eq];rw [show base+o+m * i.size=base+(o+m * i.size) from by omega];exact hst
       ·exact .slice hm hle (fun m hm=>by cases hm;rfl) ht (.inr rfl) hbd
      ·rename_i hle
       cases e
       exact grow H h hro hol (by omega) hmn hmb hdr
     ·cases hone:new.all V.one with
      | false=>rw [hone] at e;cases e
      | true =>
        rw [hone] at e;simp only [cond_true] at e;split at e
        ·rename_i H1 hret
         cases e
         unfold retire at hret;split at hret
         ·rename_i vs hg
          cases hret
          by_cases hle:m+n≤cap
          ·-- in place
           have hoff:off=⟨b0,base+o,none⟩:=by
            rcases ho with h1 | h1
            ·omega
            ·exact h1
           subst hoff;obtain ⟨b',base',tot',cs,tyb,fr,hm',hb,hcl⟩:=h.obj l _ hg;rw [hm] at hm';cases hm';have hmul:(m+n) * i.size≤cap * i.size:=Nat.mul_le_mul_right _ hle;have hmn2:(m+n) * i.size=m * i.size+n * i.size:=Nat.add_mul _ _ _;have hroom:=hcl.room;have hst:=run_storeCells (P:=P) (off:=base+o+m * i.size) us 0 w cs hb (all_one hrv hone) (by omega) (fun j h3 h4=>hcl.thaw rfl (by omega));refine ⟨_,_,upd μ H.n (b0,base+o,tot),run_append_in (P:=P) hT hu0 hu1 hi hby hA hle (by simp only [add_eq];exact hst),?_,?_⟩
           ·refine .slice (upd_same _ _ _) hle (fun m hm=>by cases hm) (by omega) (.inr rfl) hbd
           ·have hbs:b0<w.heap.size:=by
             rcases Nat.lt_or_ge b0 w.heap.size with h' | h'
             ·exact h'
             ·rw [Array.getElem?_eq_none h'] at hb;cases hb
            refine Post.regrow h hg rfl hm _ ⟨b0,base+o,tot,_,tyb,fr,upd_same _ _ _,World.putObj_heap_same hbs,?_⟩;have hext:=upd_ext h (b0,base+o,tot);unfold firstCells at hold;simp only at hold;split at hold
            ·rename_i vs' hv
             have hvs:vs'=vs:=by
              unfold cellsAt at hv;rw [hg] at hv
              cases hv;rfl
             subst hvs;have hol2:=take_of_take? hold;refine ⟨by rw [List.length_append,hol2,← hnl,hul];omega,by rw [overA_size];omega,?_,fun _=>by have:=hcl.free rfl;simpa using this⟩;intro j v hv2;rw [overA_get _ _ _ _ (by omega)]
             by_cases hj:j<m * i.size
             ·rw [List.getElem?_append_left (by omega),take?_get hold j hj] at hv2;obtain ⟨u',hu',hr'⟩:=hcl.cell _ _ hv2;refine ⟨u',?_,hr'.mono hext⟩;rw [if_neg (by omega)];rw [show base+o+j=base+(o+j) from by omega];exact hu'
             ·rw [List.getElem?_append_right (by omega),hol2] at hv2;obtain ⟨u',hu',hr'⟩:=hrv.get hv2
              have hj2:j - m * i.size<us.length:=by
               rcases Nat.lt_or_ge (j - m * i.size) us.length with h' | h'
               ·exact h'
               ·rw [List.getElem?_eq_none h'] at hu';cases hu'
              refine ⟨u',?_,hr'.mono hext⟩;rw [if_pos (by omega)];rw [show base+o+j - (base+o+m * i.size+0)=j - m * i.size from by omega];exact hu'
            ·cases hold
          ·have hret:=Post.retire h hg;obtain ⟨u',w',μ',h1,h2,h3⟩:=grow (H.put l .stale) hret.sim hro hol (by omega) hmn hmb hdr;exact ⟨u',w',μ',h1,h2,hret.trans h3⟩
         ·cases hret
        ·cases e
 ·cases e
theorem good_copy (hT:TabOk P T) (h:Sim μ H w) {t0 ty:TypeId} {ts:Array TypeId} (hts:ts[0]?=some t0) {x y r:V} {ux uy:Value} {H':Heap} (hx:RV μ x ux) (hy:RV μ y uy) (e:copy T H t0 x y=some (r,H')) :
  VGood P μ H w (Builtin.copy_ ts ty #[ux,uy]) r H':=by
 unfold Am.copy at e;split at e
 case h_2=>cases e
 rename_i el hd;split at e
 case h_2=>cases e
 rename_i s b m n hs hm hn;obtain ⟨ie,hie,hin,hby⟩:=hT.size _ _ _ hs;subst hin;dsimp only at e;have hlx:=hm;split at e
 ·rename_i cs hc;obtain ⟨us,hl,hrv,hrun⟩:=good_firstCells (P:=P) h hy hn (Nat.min_le_left n m) hc
  cases e
  cases hx
  simp only [lenOf,Option.some.injEq] at hm;subst hm;refine .same h (u:=.int .i64 0) ?_ (.int _ _);have:=hrun w rfl;rw [Nat.min_zero] at this;simp [Builtin.copy_,hts,run_und (hT.und _ _ hd),run_lenOf hy hn,run_size hie,this,goInt]
 ·rename_i cs l o m' s' c hc;obtain ⟨us,hl,hrv,hrun⟩:=good_firstCells (P:=P) h hy hn (Nat.min_le_left n m) hc;simp only [cond_beq] at e;split at e
  case isFalse=>cases e
  rename_i hss;subst hss;simp only [lenOf,Option.some.injEq] at hm;subst hm
  cases hx with
  | slice hm hn' hcap ht ho hbd =>
  rename_i b0 base tot cap off;have hmin:min n m'=Nat.min n m':=rfl;split at e
  ·rename_i h0
   cases e
   have husn:us=[]:=by
    have:us.length=0:=by rw [hl,h0];simp
    exact List.length_eq_zero_iff.1 this
   subst husn;refine .same h (u:=.int .i64 0) ?_ (.int _ _);have:=hrun w rfl;have h0':Nat.min n m'=0:=h0;rw [h0] at this;simp [Builtin.copy_,hts,run_und (hT.und _ _ hd),run_lenOf hy hn,run_size hie,goInt,h0',this,storeCells]
  ·rename_i h0;simp only [Option.map_eq_some_iff] at e;obtain ⟨H2,hput,e⟩:=e
   cases e
   have hoff:off=⟨b0,base+o,none⟩:=by
    rcases ho with h1 | h1
    ·have:=Nat.min_le_right n m';omega
    ·exact h1
   subst hoff;obtain ⟨w',hst,hp⟩:=run_putCells (P:=P) h hput hrv hm;refine ⟨.int .i64 ((min n m':Nat):Int),w',μ,?_,.int _ _,hp⟩;have:=hrun w rfl;simp only [Builtin.copy_,hts,List.getElem?_toArray,List.getElem?_cons_zero,List.getElem?_cons_succ,Sem.run_bind,run_und (hT.und _ _ hd),Result.andThen_ok,run_lenOf hy hn,run_size hie];rw [show Nat.min n m'=min n m' from rfl,this];simp [hst,goInt]
 ·cases e
theorem good_clear (hT:TabOk P T) (h:Sim μ H w) {t0 ty el:TypeId} {ts:Array TypeId} (hts:ts[0]?=some t0) {l o n s:Nat} {c:Option Nat} {z:List V} {ux:Value} {H':Heap} (hx:RV μ (.slice l o n s c) ux) (hd:T.und t0=some (.slice el)) (hz:T.zero el=some z)
  (hzl:z.length=s) (hn:n≠0) (e:putCells H l o (zeros z n)=some H'):VGood P μ H w (Builtin.clear_ ts ty #[ux]) undefV H':=by
 obtain ⟨i,zv,hi,hzv,hr⟩:=hT.zero _ _ hz
 cases hx with
 | slice hm hn' hcap ht ho hbd =>
 rename_i b0 base tot cap off
 have hoff:off=⟨b0,base+o,none⟩:=by
  rcases ho with h1 | h1
  ·omega
  ·exact h1
 subst hoff;obtain ⟨w',hst,hp⟩:=run_putCells (P:=P) h e ((hr μ).zeros n) hm;refine ⟨.tuple #[],w',μ,?_,RV.undef _,hp⟩;obtain ⟨n,rfl⟩:∃ k,n=k+1:=⟨n - 1,by omega⟩
 simp only [Builtin.clear_,hts,List.getElem?_toArray,List.getElem?_cons_zero,Sem.run_bind,run_und (hT.und _ _ hd),Result.andThen_ok,run_zero hi hzv,Builtin.zeroCells];rw [hst];simp
theorem good_clear0 (hT:TabOk P T) (h:Sim μ H w) {t0 ty el:TypeId} {ts:Array TypeId} (hts:ts[0]?=some t0) {x:V} {ux:Value} (hx:RV μ x ux) (hd:T.und t0=some (.slice el)) (e:x=.nilSlice∨∃ l o s c,x=.slice l o 0 s c) :
  VGood P μ H w (Builtin.clear_ ts ty #[ux]) undefV H:=by
 refine .same h (u:=.tuple #[]) ?_ (RV.undef _);rcases e with rfl | ⟨l,o,s,c,rfl⟩
 ·cases hx;simp [Builtin.clear_,hts,run_und (hT.und _ _ hd)]
 ·cases hx;simp [Builtin.clear_,hts,run_und (hT.und _ _ hd)]
end Go.Am

namespace Go.Am
open Go
variable {P:Program} {T:Tab} {μ:Mu} {H:Heap} {w:World}
def KeyAt (d:TypeDesc) (k:V):Prop:=(∃ j n,d=.int j∧k=.int j n)∨(∃ s,d=.string∧k=.str s)∨(∃ b,d=.bool∧k=.bool b)
theorem keyOk_at {kt:TypeId} {k:V} (h:keyOk T kt k=true):∃ d,T.und kt=some d∧KeyAt d k:=by
 unfold keyOk at h;split at h
 ·rename_i j j' n hd;have:j=j':=by simpa using h
  subst this;exact ⟨_,hd,.inl ⟨j,n,rfl,rfl⟩⟩
 ·rename_i s hd;exact ⟨_,hd,.inr (.inl ⟨s,rfl,rfl⟩)⟩
 ·rename_i b hd;exact ⟨_,hd,.inr (.inr ⟨b,rfl,rfl⟩)⟩
 ·cases h
theorem sameNow_of {d:TypeDesc} {k k':V} {u u':Value} {r:Bool} (hk:KeyAt d k) (hu:RV μ k u) (hu':RV μ k' u') (e:sameCell k k'=some r):Instr.sameNow d u u'=some r:=by
 rcases hk with ⟨j,n,rfl,rfl⟩ | ⟨s,rfl,rfl⟩ | ⟨b,rfl,rfl⟩
 ·obtain rfl:=hu.int_inv;unfold sameCell at e;split at e
  ·rename_i j' a k' b e1 
   cases e1
   by_cases hj:j=k'
   ·subst hj;simp only [decide_true,cond_true,Option.some.injEq] at e;obtain rfl:=hu'.int_inv;subst e;simp only [Instr.sameNow,if_true,Option.some.injEq];rw [Bool.eq_iff_iff];simp
   ·simp [hj] at e
  ·rename_i e1;cases e1
  ·rename_i e1;cases e1
  ·cases e
 ·obtain rfl:=hu.str_inv
  cases hu' <;> simp [sameCell] at e
  rename_i s';simp [Instr.sameNow,← e];rw [Bool.eq_iff_iff,MapKept.bytes_beq];simp
 ·obtain rfl:=hu.bool_inv
  cases hu' <;> simp [sameCell] at e
  simp [Instr.sameNow,← e]
theorem find_of {d:TypeDesc} {k:V} {u:Value} (hk:KeyAt d k) (hu:RV μ k u):∀ {es:List (V×V)} {fs:List MapEntry} (i:Nat) {r:Option V},MR μ es fs→mapFind k es=some r →
  match r with
  | none=>Instr.findNow d u fs i=some none
  | some v=>∃ j e,Instr.findNow d u fs i=some (some (i+j,e.val))∧fs[j]?=some e∧RV μ v e.val
 | _,_,i,r,.nil,e=>by simp [mapFind] at e;subst e;rfl
 | _,_,i,r,.cons (k:=k') (v:=v) (e:=e0) (es:=es) (fs:=fs) hk' hv t,e=>by
   unfold mapFind at e;split at e
   ·rename_i hs
    cases e
    exact ⟨0,e0,by simp [Instr.findNow,sameNow_of hk hu hk' hs],rfl,hv⟩
   ·rename_i hs;have ih:=find_of hk hu (i+1) t e;have hn:=sameNow_of hk hu hk' hs
    cases r with
    | none=>simp only [Instr.findNow,hn];exact ih
    | some v' =>
      obtain ⟨j,e1,h1,h2,h3⟩:=ih;exact ⟨j+1,e1,by simp only [Instr.findNow,hn,h1];congr 3;omega,by simpa using h2,h3⟩
   ·cases e
theorem run_checkKey_of (hT:TabOk P T) {kt:TypeId} {d:TypeDesc} {k:V} {u:Value} (hd:T.und kt=some d) (hk:KeyAt d k) (hu:RV μ k u) (b:Bool) (n:Nat):(Instr.checkKey b (n+1) kt u).run P w=.ok () w:=by
 unfold Instr.checkKey;rcases hk with ⟨j,n',rfl,rfl⟩ | ⟨s,rfl,rfl⟩ | ⟨b',rfl,rfl⟩
 ·obtain rfl:=hu.int_inv;simp [run_und (hT.und _ _ hd)]
 ·obtain rfl:=hu.str_inv;simp [run_und (hT.und _ _ hd)]
 ·obtain rfl:=hu.bool_inv;simp [run_und (hT.und _ _ hd)]
theorem run_findKey_of (hT:TabOk P T) {kt:TypeId} {d:TypeDesc} {u:Value} (hd:T.und kt=some d) {fs:List MapEntry} {r:Option (Nat×Value)} (h:Instr.findNow d u fs 0=some r):(Instr.findKey kt u fs).run P w=.ok r w:=by
 simp [Instr.findKey,run_und (hT.und _ _ hd),h]
theorem lookup_run (hT:TabOk P T) {t kt et:TypeId} (hd:T.und t=some (.map kt et)) {um uk:Value} {es:Array MapEntry} {fr:Option (Nat×Value)} {ok:Bool}
  (hes:(um=.map none∧es=#[])∨∃ b clock,um=.map (some b)∧w.heap[b]?=some (.map es clock)) (hck:∀ b,(Instr.checkKey b 10000 kt uk).run P w=.ok () w)
  (hf:(Instr.findKey kt uk es.toList).run P w=.ok fr w) {zv:Value} (hz:fr=none→(zeroValue et).run P w=.ok zv w) :
  (Instr.lookup t um uk ok).run P w=.ok (match fr with
   | some (_,v)=>if ok then .tuple #[v,.bool true] else v
   | none=>if ok then .tuple #[zv,.bool false] else zv) w:=by
 rcases hes with ⟨rfl,rfl⟩ | ⟨b,clock,rfl,hb⟩
 ·cases fr with
  | none=>simp at hf;simp [Instr.lookup,run_und (hT.und _ _ hd),hck,hf,hz rfl]
  | some p=>obtain ⟨i,v⟩:=p;simp at hf;simp [Instr.lookup,run_und (hT.und _ _ hd),hck,hf]
 ·cases fr with
  | none=>simp [Instr.lookup,run_und (hT.und _ _ hd),getMap hb,hck,hf,hz rfl]
  | some p=>obtain ⟨i,v⟩:=p;simp [Instr.lookup,run_und (hT.und _ _ hd),getMap hb,hck,hf]
theorem mapGet_inv {m k:V} {x:Option V} (e:mapGet H m k=some x):(m=.nilMap∧x=none)∨∃ r es,m=.map r∧H.get r=some (.map es)∧mapFind k es=some x:=by
 cases m <;> simp [mapGet] at e
 case nilMap=>exact .inl ⟨rfl,e.symm⟩
 case map r =>
  cases hg:H.get r with
  | none=>simp [hg] at e
  | some o=>cases o <;> simp [hg] at e;rename_i es;exact .inr ⟨r,es,rfl,hg,e⟩
theorem mapGet_run (hT:TabOk P T) (h:Sim μ H w) {kt:TypeId} {d:TypeDesc} {m k:V} {um uk:Value} (hm:RV μ m um) (hk:RV μ k uk) (hkd:T.und kt=some d) (hka:KeyAt d k) {x:Option V} (e:mapGet H m k=some x) :
  ∃ es:Array MapEntry,((um=.map none∧es=#[])∨∃ b clock,um=.map (some b)∧w.heap[b]?=some (.map es clock)) ∧
    match x with
    | none=>(Instr.findKey kt uk es.toList).run P w=.ok none w
    | some v=>∃ i u,(Instr.findKey kt uk es.toList).run P w=.ok (some (i,u)) w∧RV μ v u:=by
 rcases mapGet_inv e with ⟨rfl,rfl⟩ | ⟨r,es,rfl,hg,e'⟩
 ·cases hm
  exact ⟨#[],.inl ⟨rfl,rfl⟩,run_findKey_of hT hkd (by simp [Instr.findNow])⟩
 ·cases hm with
  | map hmm =>
  rename_i b x1 y1;obtain ⟨b',x1',y1',fs,clock,h1,h2,h3⟩:=h.obj _ _ hg;rw [hmm] at h1;cases h1;have hf:=find_of hka hk 0 h3 e';refine ⟨fs,.inr ⟨b,clock,rfl,h2⟩,?_⟩
  cases x with
  | none=>exact run_findKey_of hT hkd hf
  | some v =>
    obtain ⟨j,e1,g1,g2,g3⟩:=hf;exact ⟨_,_,run_findKey_of hT hkd g1,g3⟩
theorem good_lookup (hT:TabOk P T) (h:Sim μ H w) {t:TypeId} {m k r:V} {ok:Bool} {um uk:Value} (hm:RV μ m um) (hk:RV μ k uk) (e:lookup T H t m k ok=some r):VGood P μ H w (Instr.lookup t um uk ok) r H:=by
 unfold Am.lookup at e;split at e
 case h_2=>cases e
 rename_i kt et hd
 cases hko:keyOk T kt k with
 | false=>rw [hko] at e;cases e
 | true =>
   rw [hko] at e;simp only [cond_true] at e;obtain ⟨d,hkd,hka⟩:=keyOk_at hko;have hck:∀ b,(Instr.checkKey b 10000 kt uk).run P w=.ok () w:=fun b=>run_checkKey_of hT hkd hka hk b 9999;split at e
   ·cases e
   ·rename_i v hv;obtain ⟨es,h1,i,u,h2,h3⟩:=mapGet_run hT h hm hk hkd hka hv
    cases e
    refine .same h (lookup_run hT hd h1 hck h2 (zv:=.nilIface) (by simp)) ?_
    cases ok with
    | true=>exact .tuple (.cons h3 (.cons (.bool _) .nil))
    | false=>exact h3
   ·rename_i hv;obtain ⟨es,h1,h2⟩:=mapGet_run hT h hm hk hkd hka hv;split at e
    ·rename_i z hz
     cases e
     obtain ⟨i,zv,hi,hzv,hr⟩:=hT.zeroV _ _ hz;refine .same h (lookup_run hT hd h1 hck h2 (zv:=zv) fun _=>run_zero hi hzv) ?_
     cases ok with
     | true=>exact .tuple (.cons (hr μ) (.cons (.bool _) .nil))
     | false=>exact hr μ
    ·cases e
theorem sameCell_true {a b:V} (h:sameCell a b=some true):a=b:=by
 unfold sameCell at h;split at h
 ·rename_i j a k b
  by_cases hj:j=k
  ·subst hj;simp only [decide_true,cond_true,Option.some.injEq,decide_eq_true_eq] at h;rw [h]
  ·simp [hj] at h
 ·simp at h;rw [h]
 ·simp at h;rw [h]
 ·cases h
theorem key_unique {d:TypeDesc} {k:V} {u u':Value} (hk:KeyAt d k) (h:RV μ k u) (h':RV μ k u'):u=u':=by
 rcases hk with ⟨j,n,rfl,rfl⟩ | ⟨s,rfl,rfl⟩ | ⟨b,rfl,rfl⟩
 ·rw [h.int_inv,h'.int_inv]
 ·rw [h.str_inv,h'.str_inv]
 ·rw [h.bool_inv,h'.bool_inv]
theorem set_of {d:TypeDesc} {k x:V} {uk ux:Value} (hk:KeyAt d k) (hu:RV μ k uk) (hx:RV μ x ux):∀ {es es':List (V×V)} {fs:List MapEntry} (i:Nat),MR μ es fs→mapSet k x es=some es' →
  (Instr.findNow d uk fs i=some none∧∀ b,MR μ es' (fs++[{ key:=uk,val:=ux,born:=b }])) ∨
  ∃ j e,Instr.findNow d uk fs i=some (some (i+j,e.val))∧fs[j]?=some e∧e.key=uk∧MR μ es' (fs.modify j fun e=>{ e with key:=uk,val:=ux })
 | _,_,_,i,.nil,e=>by
   simp [mapSet] at e;subst e;exact .inl ⟨rfl,fun b=>.cons hu hx .nil⟩
 | _,es',_,i,.cons (k:=k') (v:=v) (e:=e0) (es:=es) (fs:=fs) hk' hv t,e=>by
   unfold mapSet at e;split at e
   ·rename_i hs
    cases e
    refine .inr ⟨0,e0,by simp [Instr.findNow,sameNow_of hk hu hk' hs],rfl,?_,by simpa using MR.cons hu hx t⟩;obtain rfl:=sameCell_true hs;exact key_unique hk hk' hu
   ·rename_i hs;simp only [Option.map_eq_some_iff] at e;obtain ⟨es1,h1,rfl⟩:=e;have hn:=sameNow_of hk hu hk' hs;rcases set_of hk hu hx (i+1) t h1 with ⟨g1,g2⟩ | ⟨j,e1,g1,g2,g3,g4⟩
    ·exact .inl ⟨by simp only [Instr.findNow,hn];exact g1,fun b=>.cons hk' hv (g2 b)⟩
    ·exact .inr ⟨j+1,e1,by simp only [Instr.findNow,hn,g1];congr 3;omega,by simpa using g2,g3,by simpa using MR.cons hk' hv g4⟩
   ·cases e
theorem sameBits_key {d:TypeDesc} {k:V} {u:Value} (hk:KeyAt d k) (hu:RV μ k u) (n:Nat):Instr.sameBits n u u=true:=by
 rcases hk with ⟨j,n',rfl,rfl⟩ | ⟨s,rfl,rfl⟩ | ⟨b',rfl,rfl⟩
 ·obtain rfl:=hu.int_inv;cases n <;> simp [Instr.sameBits]
 ·obtain rfl:=hu.str_inv;cases n <;> simp [Instr.sameBits,MapKept.bytes_beq]
 ·obtain rfl:=hu.bool_inv;cases n <;> simp [Instr.sameBits]
theorem good_mapUpdate (hT:TabOk P T) (h:Sim μ H w) {t:TypeId} {m k x:V} {um uk ux:Value} {H':Heap} (hm:RV μ m um) (hk:RV μ k uk) (hx:RV μ x ux) (e:mapUpdate T H t m k x=some H') :
  ∃ w',(Instr.mapUpdate t um uk ux).run P w=.ok () w'∧Post μ H w μ H' w':=by
 unfold Am.mapUpdate at e;split at e
 case h_2=>cases e
 rename_i kt et r hd
 cases hko:keyOk T kt k with
 | false=>rw [hko] at e;cases e
 | true =>
   rw [hko] at e;simp only [cond_true] at e;obtain ⟨d,hkd,hka⟩:=keyOk_at hko;have hck:(Instr.checkKey false 10000 kt uk).run P w=.ok () w:=run_checkKey_of hT hkd hka hk false 9999;split at e
   case h_2=>cases e
   rename_i es hg;simp only [Option.map_eq_some_iff] at e;obtain ⟨es',hs,rfl⟩:=e
   cases hm with
   | map hmm =>
   rename_i b x1 y1;obtain ⟨b',x1',y1',fs,clock,h1,h2,h3⟩:=h.obj _ _ hg;rw [hmm] at h1;cases h1
   have hlt:b<w.heap.size:=by
    rcases Nat.lt_or_ge b w.heap.size with h' | h'
    ·exact h'
    ·rw [Array.getElem?_eq_none h'] at h2;cases h2
   rcases set_of hka hk hx 0 h3 hs with ⟨g1,g2⟩ | ⟨j,e1,g1,g2,g3,g4⟩
   ·refine ⟨w.putObj b (.map (fs.push { key:=uk,val:=ux,born:=clock }) (clock+1)),?_,?_⟩
    ·simp [Instr.mapUpdate,run_und (hT.und _ _ hd),getMap h2,hck,run_findKey_of hT hkd g1,setMap _ h2]
    ·refine Post.turn h hg rfl hmm _ ⟨b,x1,y1,_,_,hmm,World.putObj_heap_same hlt,?_⟩;simpa using g2 clock
   ·refine ⟨w.putObj b (.map (fs.modify j fun e=>{ e with key:=uk,val:=ux }) clock),?_,?_⟩
    ·have hkey:(((fs[j]?).map (·.key)).getD uk)=uk:=by
      have:fs[j]?=some e1:=by simpa using g2
      rw [this];exact g3
     have hkt:(Instr.keyThatStays uk uk).run P w=.ok uk w:=by simp [Instr.keyThatStays,sameBits_key hka hk]
     simp only [Nat.zero_add] at g1;simp only [Instr.mapUpdate,Sem.run_bind,run_und (hT.und _ _ hd),Result.andThen_ok,getMap h2,hck,run_findKey_of hT hkd g1,hkey,hkt,setMap _ h2]
    ·refine Post.turn h hg rfl hmm _ ⟨b,x1,y1,_,_,hmm,World.putObj_heap_same hlt,?_⟩;simpa using g4
theorem good_typeAssert (hT:TabOk P T) (h:Sim μ H w) {xt u:TypeId} {d:TypeDesc} {ok:Bool} {x r:V} {ux:Value} (hx:RV μ x ux) (hd:T.und u=some d) (hn:∀ ms,d≠.interface ms)
  (e:(∃ t v,x=.iface t v∧((t=u∧r=cond ok (.tuple [v,.bool true]) v)∨(t≠u∧ok=true∧∃ z,T.zeroV u=some z∧r=.tuple [z,.bool false])))∨(x=.nilIface∧ok=true∧∃ z,T.zeroV u=some z∧r=.tuple [z,.bool false])) :
  VGood P μ H w (Instr.typeAssert ux xt u ok) r H:=by
 rcases e with ⟨t,v,rfl,⟨rfl,rfl⟩ | ⟨hne,rfl,z,hz,rfl⟩⟩ | ⟨rfl,rfl,z,hz,rfl⟩
 ·cases hx with
  | iface hv =>
  rename_i uv
  cases ok with
  | true =>
    refine .same h (u:=.tuple #[uv,.bool true]) ?_ (.tuple (.cons hv (.cons (.bool _) .nil)));simp only [Instr.typeAssert,Sem.run_bind,run_und (hT.und _ _ hd),Result.andThen_ok]
    cases d <;> first | (exact absurd rfl (hn _)) | simp
  | false =>
    refine .same h (u:=uv) ?_ hv;simp only [Instr.typeAssert,Sem.run_bind,run_und (hT.und _ _ hd),Result.andThen_ok]
    cases d <;> first | (exact absurd rfl (hn _)) | simp
 ·obtain ⟨i,zv,hi,hzv,hr⟩:=hT.zeroV _ _ hz
  cases hx with
  | iface hv =>
  refine .same h (u:=.tuple #[zv,.bool false]) ?_ (.tuple (.cons (hr μ) (.cons (.bool _) .nil)));simp only [Instr.typeAssert,Sem.run_bind,run_und (hT.und _ _ hd),Result.andThen_ok]
  cases d <;> first | (exact absurd rfl (hn _)) | simp [hne,run_zero hi hzv]
 ·obtain ⟨i,zv,hi,hzv,hr⟩:=hT.zeroV _ _ hz
  cases hx
  refine .same h (u:=.tuple #[zv,.bool false]) ?_ (.tuple (.cons (hr μ) (.cons (.bool _) .nil)));simp only [Instr.typeAssert,Sem.run_bind,run_und (hT.und _ _ hd),Result.andThen_ok]
  cases d <;> first | (exact absurd rfl (hn _)) | simp [run_zero hi hzv]
end Go.Am
