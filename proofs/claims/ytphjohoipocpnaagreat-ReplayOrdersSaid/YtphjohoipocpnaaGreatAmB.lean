import Derived.Test.YtphjohoipocpnaaGreatAmA
import Derived.Laws.Tables
import Derived.WalkKit
import Derived.Lib.Strings
import Derived.Lib.ConvBytes
set_option linter.unusedSimpArgs false
set_option linter.unusedVariables false
/- One operation: what the small machine makes of it, the model makes of it. -/
namespace Go.Am
open Go
variable {P:Program} {T:Tab} {μ:Mu} {H:Heap} {w:World}
def VGood (P:Program) (μ:Mu) (H:Heap) (w:World) (s:Sem Value) (v:V) (H':Heap):Prop:=
 ∃ u w' μ',s.run P w=.ok u w'∧RV μ' v u∧Post μ H w μ' H' w'
theorem VGood.same (h:Sim μ H w) {s:Sem Value} {v:V} {u:Value} (hr:s.run P w=.ok u w) (hv:RV μ v u):VGood P μ H w s v H:=
 ⟨u,w,μ,hr,hv,.refl h⟩
theorem OR.ofV_val {H H':Heap} {x:Option V} {v:V} (e:OR.ofV H x=.val v H'):x=some v∧H'=H:=by
 cases x with
 | none=>simp [OR.ofV] at e
 | some y=>simp [OR.ofV] at e;exact ⟨by rw [e.1],e.2.symm⟩
theorem OR.ofH_val {H':Heap} {x:Option Heap} {v:V} (e:OR.ofH x=.val v H'):x=some H'∧v=undefV:=by
 cases x with
 | none=>simp [OR.ofH] at e
 | some y=>simp [OR.ofH] at e;exact ⟨by rw [e.2],e.1.symm⟩
theorem OR.ofVH_val {H':Heap} {x:Option (V×Heap)} {v:V} (e:OR.ofVH x=.val v H'):x=some (v,H'):=by
 cases x with
 | none=>simp [OR.ofVH] at e
 | some y=>obtain ⟨a,b⟩:=y;simp [OR.ofVH] at e;rw [e.1,e.2]
theorem good_load (hT:TabOk P T) (h:Sim μ H w) {t:TypeId} {l o:Nat} {v:V} {u:Value} (hu:RV μ (.ptr l o) u) (e:loadVar T H t l o=some v) :
  VGood P μ H w (Instr.loadAt t u) v H:=by
 cases hu with
 | ptr hm =>
   obtain ⟨u',hr,hv⟩:=run_loadVar (P:=P) hT h e hm;exact .same h (by simp [Instr.loadAt,Instr.sureAddr,hr]) hv
theorem good_store (hT:TabOk P T) (h:Sim μ H w) {t:TypeId} {l o:Nat} {v:V} {x u:Value} {H':Heap} (hx:RV μ (.ptr l o) x) (hu:RV μ v u) (e:storeVar T H t l o v=some H') :
  ∃ w',(Instr.storeAt t x u).run P w=.ok () w'∧Post μ H w μ H' w':=by
 cases hx with
 | ptr hm =>
   obtain ⟨w',hr,hp⟩:=run_storeVar (P:=P) hT h e hu hm;exact ⟨w',by simp [Instr.storeAt,Instr.sureAddr,hr],hp⟩
theorem good_newVar (h:Sim μ H w) {vs:List V} {u:Value} (hr:RVL μ vs u.cells.toList) (t:TypeId) :
  ∃ w' μ',(newVar t u).run P w=.ok ⟨w.heap.size,0,none⟩ w'∧RV μ' (.ptr H.n 0) (.pointer (some ⟨w.heap.size,0,none⟩))∧Post μ H w μ' (H.push (.cells false vs)) w':=
 ⟨_,_,by rw [newVar,run_newRow],by simpa using RV.ptr (μ:=upd μ H.n (w.heap.size,0,u.cells.size)) (o:=0) (upd_same _ _ _),.newCells h hr t⟩
theorem good_alloc (hT:TabOk P T) (h:Sim μ H w) {t:TypeId} {z:List V} (e:T.zero t=some z) :
  VGood P μ H w (Instr.alloc t true (.tuple #[])) (.ptr H.n 0) (H.push (.cells false z)):=by
 obtain ⟨i,zv,hi,hz,hr⟩:=hT.zero _ _ e;obtain ⟨w',μ',h1,h2,h3⟩:=good_newVar (P:=P) h (hr μ) t;exact ⟨_,w',μ',by simp [Instr.alloc,run_zero hi hz,h1],h2,h3⟩
theorem good_box (h:Sim μ H w) {t:TypeId} {v:V} {u:Value} (hv:RV μ v u) :
  VGood P μ H w (Instr.box t u) (.ptr H.n 0) (H.push (.cells false v.cells)):=by
 obtain ⟨w',μ',h1,h2,h3⟩:=good_newVar (P:=P) h hv.cells t;exact ⟨_,w',μ',by simp [Instr.box,h1],h2,h3⟩
/-! ### Literals -/
inductive PR (μ:Mu):List (Nat×V)→List (Nat×Value)→Prop
 | nil:PR μ [] []
 | cons {i:Nat} {v:V} {u:Value} {ps:List (Nat×V)} {qs:List (Nat×Value)} (h:RV μ v u) (t:PR μ ps qs):PR μ ((i,v)::ps) ((i,u)::qs)
theorem AR.evalParts {a:A} {x:Act} (h:AR μ a x):∀ {os:List (Nat×Operand)} {vs:List (Nat×V)},evalParts a os=some vs→PR μ vs (os.map fun p=>(p.1,x.eval p.2))
 | [],_,e=>by simp only [Am.evalParts,Option.some.injEq] at e;subst e;exact .nil
 | (i,o)::os,_,e=>by
   simp only [Am.evalParts] at e;split at e
   ·cases e
   ·rename_i v hv;split at e
    ·cases e
    ·rename_i vs hvs;simp only [Option.some.injEq] at e;subst e;exact .cons (h.eval hv) (h.evalParts hvs)
theorem overA_eq_foldl (us:List Value):∀ (off j:Nat) (cs:Array Value),(us.zipIdx j).foldl (fun cs (p:Value×Nat)=>cs.setIfInBounds (off+p.2) p.1) cs=overA cs (off+j) us:=by
 induction us with
 | nil=>intro off j cs;rfl
 | cons u us ih=>intro off j cs;simp only [List.zipIdx_cons,List.foldl_cons,overA];rw [ih];rfl
theorem foldl_zipIdx (c:Array Value) (off:Nat) (cs:Array Value):c.zipIdx.foldl (fun cs (p:Value×Nat)=>cs.setIfInBounds (off+p.2) p.1) cs=overA cs off c.toList:=by
 rw [← Array.foldl_toList,Array.toList_zipIdx];exact overA_eq_foldl c.toList off 0 cs
theorem RVL.over {vs:List V} {cs:Array Value} (h:RVL μ vs cs.toList) {o:Nat} {as:List V} {us:List Value} (ho:o+as.length≤vs.length) (hr:RVL μ as us) :
  RVL μ (Am.over vs o as) (overA cs o us).toList:=by
 have h1:=h.length;have h2:=hr.length;rw [Array.length_toList] at h1;refine RVL.of_get (by rw [Array.length_toList,overA_size,over_length,h1]) ?_;intro j v hv;rw [over_get _ _ _ _ ho] at hv;rw [Array.getElem?_toList,overA_get _ _ _ _ (by omega)]
 by_cases e:o≤j∧j<o+as.length
 ·rw [if_pos e] at hv;obtain ⟨u,hu,hr'⟩:=hr.get hv;exact ⟨u,by rw [if_pos (by omega)];exact hu,hr'⟩
 ·rw [if_neg e] at hv;obtain ⟨u,hu,hr'⟩:=h.get hv;exact ⟨u,by rw [if_neg (by omega)];simpa using hu,hr'⟩
theorem good_fill {place:Nat→Option (Nat×Nat)} {place':Nat→Option (Nat×Nat)} (hp:∀ i x,place i=some x→place' i=some x) :
  ∀ {ps:List (Nat×V)} {qs:List (Nat×Value)} {vs r:List V} {cs:Array Value},PR μ ps qs→RVL μ vs cs.toList→fill place vs ps=some r →
  ∃ r',Instr.fill place' cs qs=some r'∧RVL μ r r'.toList
 | _,_,vs,r,cs,.nil,hv,e=>by simp only [Am.fill,Option.some.injEq] at e;subst e;exact ⟨cs,rfl,hv⟩
 | _,_,vs,r,cs,.cons (i:=i) (v:=v) (u:=u) (ps:=ps) h t,hv,e=>by
   unfold Am.fill at e;split at e
   ·cases e
   rename_i off size hpl
   cases hc:(Nat.beq v.cells.length size && Nat.ble (off+size) vs.length) with
   | false=>rw [hc] at e;cases e
   | true =>
     rw [hc] at e;simp only [cond_true] at e;rw [Bool.and_eq_true,Nat.beq_eq,Nat.ble_eq] at hc;have h1:=h.cells.length;rw [Array.length_toList] at h1;have h2:=hv.length;rw [Array.length_toList] at h2;obtain ⟨r',e1,e2⟩:=good_fill hp t (hv.over (by omega) h.cells) e;refine ⟨r',?_,e2⟩;rw [Instr.fill,hp _ _ hpl];simp only [h1,hc.1,ne_eq,not_true_eq_false,decide_false,Bool.false_or,h2,gt_iff_lt];rw [if_neg (by simp;omega),foldl_zipIdx];exact e1
theorem sizes_mapM (hT:TabOk P T):∀ (fs:List Field),sizesOk T fs=true→∃ places,fs.mapM (fun f=>(P.info? f.type).map fun i=>(f.offset,i.size))=some places ∧
  ∀ (i:Nat) (f:Field) (n b:Nat),fs[i]?=some f→T.size f.type=some (n,b)→places[i]?=some (f.offset,n)
 | [],_=>⟨[],rfl,fun i f n b h=>by simp at h⟩
 | f::fs,h=>by
   unfold sizesOk at h;split at h
   ·rename_i x hx;obtain ⟨n0,b0⟩:=x;obtain ⟨i0,hi0,hn0,_⟩:=hT.size _ _ _ hx;obtain ⟨places,h1,h2⟩:=sizes_mapM hT fs h;refine ⟨(f.offset,i0.size)::places,by simp [List.mapM_cons,hi0,h1],?_⟩;intro i g n b hg hs
    cases i with
    | zero =>
      simp at hg;subst hg;obtain ⟨i1,hi1,hn1,_⟩:=hT.size _ _ _ hs;rw [hi0] at hi1;cases hi1;simp [hn1]
    | succ i=>simpa using h2 i g n b (by simpa using hg) hs
   ·cases h
theorem good_build_struct (hT:TabOk P T) (h:Sim μ H w) {t:TypeId} {z:List V} {fs:Array Field} {ps:List (Nat×V)} {qs:Array (Nat×Value)} {r:List V} (hz:T.zero t=some z) (hu:T.und t=some (.struct fs))
  (hs:sizesOk T fs.toList=true) (hp:PR μ ps qs.toList)
  (e:fill (placeOf T fs) z ps=some r):VGood P μ H w (Instr.build t qs) (.agg r) H:=by
 obtain ⟨i,zv,hi,hzv,hr⟩:=hT.zero _ _ hz;obtain ⟨places,h1,h2⟩:=sizes_mapM hT _ hs
 obtain ⟨r',e1,e2⟩:=good_fill (place':=(places.toArray[·]?)) (by
  intro j x hx;unfold placeOf at hx;split at hx
  ·rename_i f hf;split at hx
   ·rename_i n b hn
    cases hx
    simpa using h2 j f n b (by simpa using hf) hn
   ·cases hx
  ·cases hx) hp (hr μ) e
 refine .same h (run_build w t qs r' ?_) (.agg e2);simp only [Program.built,hi,hT.und _ _ hu,hzv,h1];exact e1
theorem good_build_array (hT:TabOk P T) (h:Sim μ H w) {t:TypeId} {z:List V} {m:Nat} {el:TypeId} {s b:Nat} {ps:List (Nat×V)} {qs:Array (Nat×Value)} {r:List V} (hz:T.zero t=some z) (hu:T.und t=some (.array m el))
  (hs:T.size el=some (s,b)) (hp:PR μ ps qs.toList) (e:fill (fun i=>some (i * s,s)) z ps=some r):VGood P μ H w (Instr.build t qs) (.agg r) H:=by
 obtain ⟨i,zv,hi,hzv,hr⟩:=hT.zero _ _ hz;obtain ⟨ie,hie,hn,_⟩:=hT.size _ _ _ hs;obtain ⟨r',e1,e2⟩:=good_fill (place':=fun i=>some (i * ie.size,ie.size)) (by intro j x hx;rw [hn];exact hx) hp (hr μ) e;refine .same h (run_build w t qs r' ?_) (.agg e2);simp only [Program.built,hi,hT.und _ _ hu,hzv,hie];exact e1
theorem zeros_length (z:List V):∀ n,(zeros z n).length=n * z.length
 | 0=>by simp [zeros]
 | n+1=>by simp [zeros,zeros_length z n,Nat.succ_mul];omega
theorem zeros_get (z:List V):∀ (n j:Nat),j<n * z.length→(zeros z n)[j]?=z[j % z.length]?
 | 0,j,h=>by simp at h
 | n+1,j,h=>by
   rw [zeros]
   by_cases hj:j<z.length
   ·rw [List.getElem?_append_left hj,Nat.mod_eq_of_lt hj]
   ·rw [List.getElem?_append_right (by omega),zeros_get z n (j - z.length) (by rw [Nat.succ_mul] at h;omega)]
    congr 1
    rw [Nat.mod_eq_sub_mod (a:=j) (by omega)]
theorem RVL.zeros {z:List V} {zc:Array Value} (h:RVL μ z zc.toList) (n:Nat):RVL μ (Am.zeros z n) ((Array.range (n * zc.size)).map fun i=>zc[i % zc.size]!).toList:=by
 have hl:=h.length;rw [Array.length_toList] at hl;refine RVL.of_get (by simp [zeros_length,hl]) ?_;intro j v hv
 have hj:j<n * z.length:=by
  rcases Nat.lt_or_ge j (n * z.length) with h' | h'
  ·exact h'
  ·rw [List.getElem?_eq_none (by rw [zeros_length];omega)] at hv;cases hv
 rw [zeros_get z n j hj] at hv;obtain ⟨u,hu,hr⟩:=h.get hv;refine ⟨u,?_,hr⟩;rw [Array.getElem?_toList] at hu ⊢;rw [Array.getElem?_map,Array.getElem?_range,if_pos (by rw [hl];exact hj)];simp only [Option.map_some,Option.some.injEq];rw [hl,getElem!_def,hu]
theorem good_buildSlice (hT:TabOk P T) (h:Sim μ H w) {t el:TypeId} {n s b:Nat} {z:List V} {ps:List (Nat×V)} {qs:Array (Nat×Value)} {cs:List V} (hu:T.und t=some (.slice el)) (hs:T.size el=some (s,b))
  (hz:T.zero el=some z) (hp:PR μ ps qs.toList) (hle:n * s≤16777216) (hzl:z.length=s) (e:fill (fun i=>some (i * s,s)) (Am.zeros z n) ps=some cs) :
  VGood P μ H w (Instr.buildSlice t n qs) (.slice H.n 0 n s (some n)) (H.push (.cells false cs)):=by
 obtain ⟨i,zv,hi,hzv,hr⟩:=hT.zero _ _ hz;obtain ⟨ie,hie,hn,_⟩:=hT.size _ _ _ hs;rw [hi] at hie;cases hie;have hzs:zv.cells.size=s:=by have:=(hr μ).length;rw [Array.length_toList] at this;omega
 have hzz:RVL μ (Am.zeros z n) ((Array.range (n * i.size)).map fun i=>(if n * s=0 then #[] else zv.cells)[i % (if n * s=0 then #[] else zv.cells).size]!).toList:=by
  by_cases h0:n * s=0
  ·have:Am.zeros z n=[]:=by rw [← List.length_eq_zero_iff,zeros_length,hzl];exact h0
   rw [this];simp [hn,h0];exact .nil
  ·have:=(hr μ).zeros n;rw [hzs] at this;simpa [hn,h0,hzs] using this
 obtain ⟨r',e1,e2⟩:=good_fill (place':=fun i=>some (i * s,s)) (fun _ _ h=>h) hp hzz e;have hrl:=e2.length;rw [Array.length_toList] at hrl;refine ⟨.slice (some ⟨w.heap.size,0,none⟩) n n,_,_,?_,?_,.newCells h e2 el⟩
 ·have h2:¬ (n * s > 2 ^ 24):=by omega
  by_cases h0:n * s=0
  ·simp [h0,hn] at e1;simp [Instr.buildSlice,run_und (hT.und _ _ hu),run_size hi,hn,h0,e1,run_newRow]
  ·simp only [h0,if_false,hn] at e1;simp [Instr.buildSlice,run_und (hT.und _ _ hu),run_size hi,hn,h2,h0,run_zero hi hzv,e1,run_newRow]
 ·have hlen:cs.length=n * s:=by
   have key:∀ {ps:List (Nat×V)} {vs r:List V},fill (fun i=>some (i * s,s)) vs ps=some r→r.length=vs.length:=by
    intro ps
    induction ps with
    | nil=>intro vs r e;simp only [Am.fill,Option.some.injEq] at e;rw [e]
    | cons p ps ih =>
      intro vs r e;obtain ⟨i,v⟩:=p;unfold Am.fill at e;simp only at e
      cases hc:(Nat.beq v.cells.length s && Nat.ble (i * s+s) vs.length) with
      | false=>rw [hc] at e;cases e
      | true=>rw [hc] at e;rw [ih e,over_length]
   rw [key e,zeros_length,hzl]
  refine RV.slice (upd_same _ _ _) (Nat.le_refl _) (fun m hm=>by cases hm;rfl) ?_ (.inr rfl) ?_
  ·omega
  ·rcases Nat.eq_zero_or_pos s with h0 | h0
   ·exact .inl h0
   ·right
    have:=Nat.le_mul_of_pos_right n h0;omega
end Go.Am

namespace Go.Am
open Go
variable {P:Program} {T:Tab} {μ:Mu} {H:Heap} {w:World}
theorem natOf_eq {v:V} {n:Nat} (h:natOf v=some n):∃ k,v=.int k (n:Int):=by
 unfold natOf at h;split at h
 ·rename_i k m;split at h
  ·cases h;exact ⟨k,rfl⟩
  ·cases h
 ·cases h
theorem RV.int_inv {k:IntKind} {n:Int} {u:Value} (h:RV μ (.int k n) u):u=.int k n:=by cases h;rfl
theorem RV.bool_inv {b:Bool} {u:Value} (h:RV μ (.bool b) u):u=.bool b:=by cases h;rfl
theorem RV.str_inv {s:List UInt8} {u:Value} (h:RV μ (.str s) u):u=.string ⟨⟨s⟩⟩:=by cases h;rfl
theorem pureInt_run {s:Sem Value} {v:V} (h:pureInt s=some v):∃ u,s=.pure u∧∀ μ,RV μ v u:=by
 unfold pureInt at h;split at h
 ·cases h;exact ⟨_,rfl,fun _=>.int _ _⟩
 ·cases h;exact ⟨_,rfl,fun _=>.bool _⟩
 ·cases h
theorem good_intOp {op:BinOp} {k:IntKind} {a b:Int} {v:V} {t:TypeId} (e:intOp op k a b=some v) (hop:op≠.shl∧op≠.shr) :
  ∃ u,(Go.binOp op t (.int k a) (.int k b)).run P w=.ok u w∧∀ μ,RV μ v u:=by
 cases op <;> simp only [intOp,Option.some.injEq,reduceCtorEq] at e
 case add=>subst e;exact ⟨_,by simp [Go.binOp,Op.intArith],fun _=>.int _ _⟩
 case sub=>subst e;exact ⟨_,by simp [Go.binOp,Op.intArith],fun _=>.int _ _⟩
 case mul=>subst e;exact ⟨_,by simp [Go.binOp,Op.intArith],fun _=>.int _ _⟩
 case quo =>
  by_cases hb:b=0
  ·simp [hb] at e
  ·simp [hb] at e;subst e;exact ⟨_,by simp [Go.binOp,Op.intDiv,hb],fun _=>.int _ _⟩
 case rem =>
  by_cases hb:b=0
  ·simp [hb] at e
  ·simp [hb] at e;subst e;exact ⟨_,by simp [Go.binOp,Op.intDiv,hb],fun _=>.int _ _⟩
 case eql=>subst e;exact ⟨.bool (a == b),by simp [Go.binOp,Op.intCmp],fun _=>by
  have:(a == b)=decide (a=b):=by rw [Bool.eq_iff_iff];simp
  rw [this];exact RV.bool _⟩
 case neq=>subst e;exact ⟨.bool (a != b),by simp [Go.binOp,Op.intCmp],fun _=>by
  have:(a != b)=!decide (a=b):=by rw [Bool.eq_iff_iff];simp
  rw [this];exact RV.bool _⟩
 case lss=>subst e;exact ⟨_,by simp [Go.binOp,Op.intCmp],fun _=>.bool _⟩
 case leq=>subst e;exact ⟨_,by simp [Go.binOp,Op.intCmp],fun _=>.bool _⟩
 case gtr=>subst e;exact ⟨_,by simp [Go.binOp,Op.intCmp],fun _=>.bool _⟩
 case geq=>subst e;exact ⟨_,by simp [Go.binOp,Op.intCmp],fun _=>.bool _⟩
 case and=>obtain ⟨u,e1,e2⟩:=pureInt_run e;exact ⟨u,by simp [Go.binOp,e1],e2⟩
 case or=>obtain ⟨u,e1,e2⟩:=pureInt_run e;exact ⟨u,by simp [Go.binOp,e1],e2⟩
 case xor=>obtain ⟨u,e1,e2⟩:=pureInt_run e;exact ⟨u,by simp [Go.binOp,e1],e2⟩
 case andNot=>obtain ⟨u,e1,e2⟩:=pureInt_run e;exact ⟨u,by simp [Go.binOp,e1],e2⟩
theorem toList_mk (s:List UInt8):(⟨⟨s⟩⟩:ByteArray).toList=s:=by
 rw [Lib.toList_data]
theorem good_strOp {op:BinOp} {x y:List UInt8} {v:V} {t:TypeId} (e:strOp op x y=some v) :
  ∃ u,(Go.binOp op t (.string ⟨⟨x⟩⟩) (.string ⟨⟨y⟩⟩)).run P w=.ok u w∧∀ μ,RV μ v u:=by
 cases op <;> simp only [strOp,Option.some.injEq,reduceCtorEq] at e
 case add =>
  simp only [cond_blt] at e;split at e
  ·rename_i hlt
   cases e
   refine ⟨.string (⟨⟨x⟩⟩++⟨⟨y⟩⟩),?_,fun μ=>?_⟩
   ·have:¬ (((⟨⟨x⟩⟩:ByteArray).size+(⟨⟨y⟩⟩:ByteArray).size:Nat):Int) > IntKind.i64.max:=by
     have h1:(⟨⟨x⟩⟩:ByteArray).size=x.length:=rfl;have h2:(⟨⟨y⟩⟩:ByteArray).size=y.length:=rfl;have h3:IntKind.i64.max=9223372036854775807:=by decide
     rw [h1,h2,h3];omega
    simp only [Go.binOp,Op.stringOp,if_neg this,Sem.run_pure]
   ·have:(⟨⟨x⟩⟩++⟨⟨y⟩⟩:ByteArray)=⟨⟨x++y⟩⟩:=by
     apply ByteArray.ext;simp
    rw [this];exact .str _
  ·cases e
 all_goals (subst e;refine ⟨_,by simp [Go.binOp,Op.stringOp,toList_mk],fun _=>RV.bool _⟩)
theorem equal_of {t:TypeId} {u v:Value} {r:Bool} (h:∀ d,(Op.equalIn (d+1) t u v).run P w=.ok r w):(Op.equal t u v).run P w=.ok r w:=h 9999
theorem good_equal (hT:TabOk P T) {t:TypeId} {k:Bool} {x y:V} {r:Bool} {u v:Value} (hu:RV μ x u) (hv:RV μ y v) (e:equal T t k x y=some r) (ox oy:Operand)
  (hk:k=true→(isConst ox || isConst oy)=true) (op:BinOp) (hop:op=.eql∨op=.neq) :
  (Go.eqGuard op t ox oy u v).run P w=.ok () w∧(Op.equal t u v).run P w=.ok r w:=by
 have hg:∀ {u v:Value},(∀ a b,¬ (u=.agg a∧v=.agg b))→¬ (u=.nilIface∧v=.nilIface)→(Go.eqGuard op t ox oy u v).run P w=.ok () w:=by
  intro u v h1 h2;unfold Go.eqGuard;rcases hop with rfl | rfl <;> simp <;> split <;> first | rfl | (exact absurd ⟨rfl,rfl⟩ h2) | (exact absurd ⟨rfl,rfl⟩ (h1 _ _))
 unfold Am.equal at e;split at e <;> rename_i hd
 case h_1 =>
  split at e <;> first | (cases e;done) | (cases e;cases hu;cases hv;refine ⟨hg (by simp) (by simp),?_⟩;exact equal_of fun d=>by simp [Op.equalIn,run_und (hT.und _ _ hd)])
 case h_2 =>
  split at e <;> first | (cases e;done) | (cases e;cases hu;cases hv;refine ⟨hg (by simp) (by simp),?_⟩;exact equal_of fun d=>by simp [Op.equalIn,run_und (hT.und _ _ hd)])
 case h_3 =>
  split at e <;> first | (cases e;done) | (cases e;cases hu;cases hv;refine ⟨hg (by simp) (by simp),?_⟩;exact equal_of fun d=>by simp [Op.equalIn,run_und (hT.und _ _ hd)])
 case h_4 =>
  split at e <;> first | (cases e;done) | (cases e;cases hu <;> cases hv <;> (refine ⟨hg (by simp) (by simp),?_⟩;exact equal_of fun d=>by simp [Op.equalIn,run_und (hT.und _ _ hd)]))
 case h_5 =>
  split at e
  ·cases e;cases hu;cases hv;refine ⟨hg (by simp) (by simp),?_⟩;exact equal_of fun d=>by simp [Op.equalIn,run_und (hT.und _ _ hd)]
  ·cases e;cases hu;cases hv;refine ⟨hg (by simp) (by simp),?_⟩;exact equal_of fun d=>by simp [Op.equalIn,run_und (hT.und _ _ hd)]
  ·cases k with
   | false=>cases e
   | true =>
     cases e;cases hu;cases hv
     refine ⟨?_,equal_of fun d=>by simp [Op.equalIn,run_und (hT.und _ _ hd)]⟩;have:=hk rfl;unfold Go.eqGuard;rcases hop with rfl | rfl <;> cases ox <;> cases oy <;> first | (simp [isConst] at this;done) | simp
  ·cases e
 case h_6 =>
  split at e
  ·rename_i xs ys
   cases hu with
   | agg hu=>cases hv with
     | agg hv =>
       obtain ⟨h1,h2⟩:=hT.eqS _ _ _ _ e;refine ⟨?_,h2 μ w _ _ hu hv⟩;unfold Go.eqGuard;rcases hop with rfl | rfl <;> simp [h1]
  ·cases e
 case h_7 =>
  split at e
  ·cases e;cases hu;cases hv;refine ⟨hg (by simp) (by simp),?_⟩;exact equal_of fun d=>by simp [Op.equalIn,run_und (hT.und _ _ hd)]
  ·cases e
 case h_8=>cases e
end Go.Am

namespace Go.Am
open Go
variable {P:Program} {T:Tab} {μ:Mu} {H:Heap} {w:World}
theorem good_binOp (hT:TabOk P T) (h:Sim μ H w) {t:TypeId} {x y:V} {r:V} {u v:Value} {op:BinOp} {k:Bool} (hu:RV μ x u) (hv:RV μ y v) (e:binOp T op t k x y=some r) (ox oy:Operand)
  (hk:k=true→(isConst ox || isConst oy)=true):VGood P μ H w (do Go.eqGuard op t ox oy u v;Go.binOp op t u v) r H:=by
 have heq:∀ {b:Bool},equal T t k x y=some b→(op=.eql∨op=.neq)→(∀ j a,¬ (u=.int j a))→(∀ s,¬ (u=.string s))→(∀ j a,¬ (u=.float j a))→(∀ j a b,¬ (u=.complex j a b)) →
   (do Go.eqGuard op t ox oy u v;Go.binOp op t u v:Sem Value).run P w=.ok (.bool (if op=.eql then b else !b)) w:=by
  intro b hb hop h1 h2 h3 h4;obtain ⟨g1,g2⟩:=good_equal (P:=P) (w:=w) hT hu hv hb ox oy hk op hop;rw [Sem.run_bind,g1,Result.andThen_ok]
  have hb1:Go.binOp .eql t u v=(do pure (.bool (← Op.equal t u v)):Sem Value):=by
   unfold Go.binOp
   cases u <;> first | (exact absurd rfl (h1 _ _)) | (exact absurd rfl (h2 _)) | (exact absurd rfl (h3 _ _)) | (exact absurd rfl (h4 _ _ _)) | rfl
  have hb2:Go.binOp .neq t u v=(do pure (.bool (!(← Op.equal t u v))):Sem Value):=by
   unfold Go.binOp
   cases u <;> first | (exact absurd rfl (h1 _ _)) | (exact absurd rfl (h2 _)) | (exact absurd rfl (h3 _ _)) | (exact absurd rfl (h4 _ _ _)) | rfl
  rcases hop with rfl | rfl
  ·rw [hb1];simp [g2]
  ·rw [hb2];simp [g2]
 have hguard:∀ {j:IntKind} {a:Int},u=.int j a→(Go.eqGuard op t ox oy u v).run P w=.ok () w:=by
  intro j a hj;subst hj;unfold Go.eqGuard
  cases op <;> simp
 have hguard2:∀ {s:ByteArray},u=.string s→(Go.eqGuard op t ox oy u v).run P w=.ok () w:=by
  intro s hj;subst hj;unfold Go.eqGuard
  cases op <;> simp
 unfold Am.binOp at e;split at e
 ·rename_i j a j' b;obtain rfl:=hu.int_inv;obtain rfl:=hv.int_inv;have hg:=hguard rfl;split at e
  ·by_cases hb:b<0
   ·simp [hb] at e
   ·simp only [decide_eq_false hb,cond_false] at e;obtain ⟨z,e1,e2⟩:=pureInt_run e;exact .same h (by simp only [Sem.run_bind,hg,Result.andThen,Go.binOp,e1,Sem.run_pure']) (e2 μ)
  ·by_cases hb:b<0
   ·simp [hb] at e
   ·simp only [decide_eq_false hb,cond_false] at e;obtain ⟨z,e1,e2⟩:=pureInt_run e;exact .same h (by simp only [Sem.run_bind,hg,Result.andThen,Go.binOp,e1,Sem.run_pure']) (e2 μ)
  ·rename_i h1 h2
   by_cases hj:j=j'
   ·subst hj;simp only [decide_true,cond_true] at e;obtain ⟨z,e1,e2⟩:=good_intOp (P:=P) (w:=w) (t:=t) e ⟨fun h=>h1 h,fun h=>h2 h⟩;exact .same h (by simp only [Sem.run_bind,hg,Result.andThen,e1]) (e2 μ)
   ·simp [hj] at e
 ·rename_i a b;obtain rfl:=hu.str_inv;obtain rfl:=hv.str_inv;obtain ⟨z,e1,e2⟩:=good_strOp (P:=P) (w:=w) (t:=t) e;exact .same h (by simp only [Sem.run_bind,hguard2 rfl,Result.andThen,e1]) (e2 μ)
 ·rename_i h1 h2
  have hne:∀ {b:Bool},equal T t k x y=some b→(∀ j a,¬ (u=.int j a))∧(∀ s,¬ (u=.string s))∧(∀ j a,¬ (u=.float j a))∧(∀ j a b,¬ (u=.complex j a b)):=by
   intro b hb
   cases hu <;> simp
   all_goals (unfold Am.equal at hb;split at hb <;> (first | (cases hb;done) | (split at hb <;> simp_all)))
  split at e
  ·simp only [Option.map_eq_some_iff] at e;obtain ⟨b,hb,rfl⟩:=e;obtain ⟨n1,n2,n3,n4⟩:=hne hb;exact .same h (heq hb (.inl rfl) n1 n2 n3 n4) (by simpa using RV.bool b)
  ·simp only [Option.map_eq_some_iff] at e;obtain ⟨b,hb,rfl⟩:=e;obtain ⟨n1,n2,n3,n4⟩:=hne hb;exact .same h (heq hb (.inr rfl) n1 n2 n3 n4) (by simpa using RV.bool (!b))
  ·cases e
theorem good_unOp (h:Sim μ H w) {op:UnOp} {x r:V} {u:Value} (hu:RV μ x u) (e:unOp op x=some r):VGood P μ H w (Op.unary op u) r H:=by
 unfold unOp at e;split at e
 ·cases e;obtain rfl:=hu.int_inv;exact .same h (by simp [Op.unary,Op.intArith]) (.int _ _)
 ·cases e;obtain rfl:=hu.bool_inv;exact .same h (by simp [Op.unary]) (.bool _)
 ·cases e
end Go.Am

namespace Go.Am
open Go
variable {P:Program} {T:Tab} {μ:Mu} {H:Heap} {w:World}
theorem wrap64_of {n:Int} (h:0≤n) (h2:n<9223372036854775808):IntKind.i64.wrap n=n:=by
 rw [IntKind.wrap_i64];omega
theorem good_makeSlice (hT:TabOk P T) (h:Sim μ H w) {t el:TypeId} {k k':IntKind} {n c s b:Nat} {z:List V} (hu:T.und t=some (.slice el)) (hs:T.size el=some (s,b)) (hz:T.zero el=some z)
  (hnc:n≤c) (hb:c * b<17592186044416) (hc:c<17592186044416) (hzl:z.length=s) (hs0:0<s) :
  VGood P μ H w (Instr.makeSlice t (.int k n) (.int k' c)) (.slice H.n 0 n s (some c)) (H.push (.cells false (Am.zeros z c))):=by
 obtain ⟨i,zv,hi,hzv,hr⟩:=hT.zero _ _ hz;obtain ⟨ie,hie,hn,hby⟩:=hT.size _ _ _ hs;rw [hi] at hie;cases hie;have hzs:zv.cells.size=s:=by have:=(hr μ).length;rw [Array.length_toList] at this;omega
 have w1:IntKind.i64.wrap (n:Int)=n:=wrap64_of (by omega) (by omega);have w2:IntKind.i64.wrap (c:Int)=c:=wrap64_of (by omega) (by omega)
 have hbig:¬ ((i.bytes:Int) * (c:Int) > 2 ^ 48):=by
  rw [hby];have:((b:Int) * (c:Int))=((c * b:Nat):Int):=by push_cast;exact Int.mul_comm _ _
  rw [this];omega
 have hcond:((decide ((c:Int)<0) || decide ((i.bytes:Int) * (c:Int) > 2 ^ 48)) || decide ((n:Int)<0) || decide ((n:Int) > (c:Int)))=false:=by
  simp only [Bool.or_eq_false_iff,decide_eq_false_iff_not];exact ⟨⟨⟨by omega,hbig⟩,by omega⟩,by omega⟩
 have hrow:RVL μ (Am.zeros z c) ((Array.range (c * s)).map fun j=>(if c * s=0 then #[] else zv.cells)[j % (if c * s=0 then #[] else zv.cells).size]!).toList:=by
  by_cases h0:c * s=0
  ·have:Am.zeros z c=[]:=by rw [← List.length_eq_zero_iff,zeros_length,hzl];exact h0
   rw [this];simp [h0];exact .nil
  ·have:=(hr μ).zeros c;rw [hzs] at this;simpa [h0,hzs] using this
 refine ⟨.slice (some ⟨w.heap.size,0,none⟩) n c,_,_,?_,?_,.newCells h hrow el⟩
 ·simp only [Instr.makeSlice,Sem.run_bind,run_und (hT.und _ _ hu),Result.andThen_ok,asInt,asIntOf,Sem.run_pure,run_info hi,w1,w2];simp only [hcond,Bool.false_eq_true,if_false,Sem.run_bind,run_askRoom,Result.andThen_ok,run_size hi,hn,Int.toNat_natCast]
  by_cases h0:c * s=0
  ·simp [h0,run_newRow]
  ·simp [h0,run_zero hi hzv,run_newRow]
 ·refine RV.slice (upd_same _ _ _) hnc (fun m hm=>by cases hm;rfl) ?_ (.inr rfl) (.inr (by omega));simp
theorem good_field_addr (hT:TabOk P T) (h:Sim μ H w) {t:TypeId} {fs:Array Field} {f:Field} {i l o n b:Nat} {u:Value} (hu:RV μ (.ptr l o) u) (hf:T.und t=some (.struct fs)) (hi:fs[i]?=some f)
  (hs:T.size f.type=some (n,b)) (hn:n≠0):VGood P μ H w (Instr.fieldAt t u i) (.ptr l (o+f.offset)) H:=by
 cases hu with
 | ptr hm =>
   obtain ⟨ie,hie,hin,_⟩:=hT.size _ _ _ hs;refine .same h (u:=.pointer (some ⟨_,_+(o+f.offset),none⟩)) ?_ (.ptr hm);simp [Instr.fieldAt,run_und (hT.und _ _ hf),hi,Instr.sureAddr,fieldPlace,run_size hie,hin,hn,add_eq,Nat.add_assoc]
theorem run_part (hT:TabOk P T) {t:TypeId} {cs:List V} {us:List Value} (hr:RVL μ cs us) {o:Nat} {v:V} (e:part T t cs o=some v) :
  ∃ u,(Go.part t ⟨us⟩ o).run P w=.ok u w∧RV μ v u:=by
 unfold Am.part at e;split at e
 ·rename_i hag;split at e
  ·rename_i n b hs;obtain ⟨ie,hie,hin,_⟩:=hT.size _ _ _ hs;simp only [Option.map_eq_some_iff] at e;obtain ⟨r,hr',rfl⟩:=e;obtain ⟨rfl,_⟩:=take?_eq hr';refine ⟨.agg ⟨(us.drop o).take n⟩,?_,.agg ((hr.drop o).take n)⟩;simp only [Go.part,Sem.run_bind,run_agg hT hag,Result.andThen_ok,if_true,run_size hie,hin,Sem.run_pure]
   congr 2
   apply Array.toList_inj.1;simp [List.extract_eq_take_drop]
  ·cases e
 ·rename_i hag;obtain ⟨u,hu,hr'⟩:=hr.get e;refine ⟨u,?_,hr'⟩;simp only [Go.part,Sem.run_bind,run_agg hT hag,Result.andThen_ok];simp [hu]
 ·cases e
theorem good_field (hT:TabOk P T) (h:Sim μ H w) {t:TypeId} {fs:Array Field} {f:Field} {i:Nat} {cs:List V} {v:V} {u:Value} (hu:RV μ (.agg cs) u) (hf:T.und t=some (.struct fs)) (hi:fs[i]?=some f)
  (e:part T f.type cs f.offset=some v):VGood P μ H w (Instr.field t u i) v H:=by
 cases hu with
 | agg hr =>
   obtain ⟨u,h1,h2⟩:=run_part (P:=P) (w:=w) hT hr e;exact .same h (by simp [Instr.field,run_und (hT.und _ _ hf),hi,asAgg,h1]) h2
theorem good_indexAddr_slice (hT:TabOk P T) (h:Sim μ H w) {t el:TypeId} {l o n s b j:Nat} {c:Option Nat} {k:IntKind} {u:Value} (hu:RV μ (.slice l o n s c) u) (hd:T.und t=some (.slice el))
  (hs:T.size el=some (s,b)) (hj:j<n):VGood P μ H w (Instr.indexAt t u (.int k j)) (.ptr l (o+j * s)) H:=by
 cases hu with
 | slice hm hn hc ht ho hbd =>
   rename_i b0 base tot cap ad;obtain ⟨ie,hie,hin,_⟩:=hT.size _ _ _ hs
   obtain rfl:ad=⟨b0,base+o,none⟩:=by rcases ho with h0 | h0
                                      ·omega
                                      ·exact h0
   refine .same h (u:=.pointer (some ⟨b0,base+(o+j * s),none⟩)) ?_ (.ptr hm);have:(0:Int)≤(j:Int)∧(j:Int)<(n:Int):=⟨by omega,by omega⟩
   simp [Instr.indexAt,asIntOf,run_und (hT.und _ _ hd),this,run_size hie,hin,add_eq,Nat.add_assoc,hj]
theorem good_indexAddr_array (hT:TabOk P T) (h:Sim μ H w) {t el:TypeId} {l o n s b j:Nat} {k:IntKind} {u:Value} (hu:RV μ (.ptr l o) u) (hd:T.und t=some (.array n el))
  (hs:T.size el=some (s,b)) (hj:j<n):VGood P μ H w (Instr.indexAt t u (.int k j)) (.ptr l (o+j * s)) H:=by
 cases hu with
 | ptr hm =>
   rename_i b0 base tot;obtain ⟨ie,hie,hin,_⟩:=hT.size _ _ _ hs;refine .same h (u:=.pointer (some ⟨b0,base+(o+j * s),none⟩)) ?_ (.ptr hm);simp [Instr.indexAt,asIntOf,run_und (hT.und _ _ hd),run_size hie,hin,add_eq,Nat.add_assoc,hj,Instr.sureAddr]
theorem good_index_str (hT:TabOk P T) (h:Sim μ H w) {t:TypeId} {s:List UInt8} {j:Nat} {k:IntKind} {u:Value} {b:UInt8} (hu:RV μ (.str s) u) (hd:T.und t=some .string) (hj:s[j]?=some b) :
  VGood P μ H w (Instr.index t u (.int k j)) (.int .u8 b.toNat) H:=by
 obtain rfl:=hu.str_inv
 have hlt:j<s.length:=by
  rcases Nat.lt_or_ge j s.length with h' | h'
  ·exact h'
  ·rw [List.getElem?_eq_none h'] at hj;cases hj
 have hb:(⟨⟨s⟩⟩:ByteArray)[j]?=some b:=by
  have hs:j<(⟨⟨s⟩⟩:ByteArray).size:=hlt;rw [List.getElem?_eq_getElem hlt] at hj;rw [getElem?_pos (⟨⟨s⟩⟩:ByteArray) j hs];exact hj
 refine .same h (u:=.int .u8 b.toNat) ?_ (.int _ _);simp [Instr.index,asIntOf,run_und (hT.und _ _ hd),hb]
theorem good_index_array (hT:TabOk P T) (h:Sim μ H w) {t el:TypeId} {cs:List V} {n s b j:Nat} {k:IntKind} {u:Value} {v:V} (hu:RV μ (.agg cs) u) (hd:T.und t=some (.array n el))
  (hs:T.size el=some (s,b)) (hj:j<n) (e:part T el cs (j * s)=some v):VGood P μ H w (Instr.index t u (.int k j)) v H:=by
 cases hu with
 | agg hr =>
   obtain ⟨ie,hie,hin,_⟩:=hT.size _ _ _ hs;obtain ⟨u,h1,h2⟩:=run_part (P:=P) (w:=w) hT hr e;refine .same h (u:=u) ?_ h2;have:(0:Int)≤(j:Int)∧(j:Int)<(n:Int):=⟨by omega,by omega⟩
   simp [Instr.index,asIntOf,run_und (hT.und _ _ hd),hj,run_size hie,hin,h1]
theorem good_makeInterface (hT:TabOk P T) (h:Sim μ H w) {t:TypeId} {d:TypeDesc} {v:V} {u:Value} (hu:RV μ v u) (hd:T.und t=some d) (hn:∀ ms,d≠.interface ms) :
  VGood P μ H w (Instr.makeInterface t u) (.iface t v) H:=by
 refine .same h (u:=.iface t u) ?_ (.iface hu);simp only [Instr.makeInterface,Sem.run_bind,run_und (hT.und _ _ hd),Result.andThen_ok]
 cases d <;> first | rfl | (exact absurd rfl (hn _))
theorem good_extract (h:Sim μ H w) {vs:List V} {i:Nat} {v:V} {u:Value} (hu:RV μ (.tuple vs) u) (e:vs[i]?=some v):VGood P μ H w (Instr.extract u i) v H:=by
 cases hu with
 | tuple hr =>
   obtain ⟨u,h1,h2⟩:=hr.get e;exact .same h (by simp [Instr.extract,h1]) h2
theorem good_makeMap (h:Sim μ H w) (t:TypeId) (r:Option Value) (hr:r=none∨∃ k e j n,P.underlying t=some (.map k e)∧r=some (.int j n)) :
  VGood P μ H w (Instr.makeMap t r) (.map H.n) (H.push (.map [])):=by
 refine ⟨.map (some w.heap.size),_,upd μ H.n (w.heap.size,0,0),?_,.map (upd_same _ _ _),Post.alloc h ⟨w.heap.size,0,0,#[],0,upd_same _ _ _,World.alloc_heap_new _ _,.nil⟩⟩;rcases hr with rfl | ⟨k,e,j,n,hd,rfl⟩
 ·simp [Instr.makeMap]
 ·simp [Instr.makeMap,run_und hd,asInt,asIntOf]
end Go.Am

namespace Go.Am
open Go
variable {P:Program} {T:Tab} {μ:Mu} {H:Heap} {w:World}
inductive OptR (μ:Mu):Option V→Option Value→Prop
 | none:OptR μ none none
 | some {v:V} {u:Value} (h:RV μ v u):OptR μ (some v) (some u)
theorem AR.evalOpt {a:A} {x:Act} (h:AR μ a x) {o:Option Operand} {v:Option V} (e:evalOpt a o=some v):OptR μ v (o.map x.eval):=by
 cases o with
 | none=>simp [Am.evalOpt] at e;subst e;exact .none
 | some o =>
   simp only [Am.evalOpt,Option.map_eq_some_iff] at e;obtain ⟨v,hv,rfl⟩:=e;exact .some (h.eval hv)
theorem run_bound {k:IntKind} {n y:Nat} (h:n≤y) (code:BoundsCode):(Instr.sliceBound (.int k n) y code).run P w=.ok n w:=by
 have:(0:Int)≤(n:Int)∧(n:Int)≤(y:Int):=⟨by omega,by omega⟩
 simp [Instr.sliceBound,asIntOf,h]
theorem optNat_inv {v:Option V} {u:Option Value} (h:OptR μ v u) {d n:Nat} (e:optNat v d=some n):(u=none∧v=none∧n=d)∨∃ k,u=some (.int k n)∧v=some (.int k n):=by
 cases h with
 | none=>simp [optNat] at e;exact .inl ⟨rfl,rfl,e.symm⟩
 | some h =>
   obtain ⟨k,rfl⟩:=natOf_eq (show natOf _=some n from e);exact .inr ⟨k,by rw [h.int_inv],rfl⟩
theorem run_bounds2 {isSl:Bool} {len cap a b:Nat} {lo hi:Option V} {ulo uhi:Option Value} (h1:OptR μ lo ulo) (h2:OptR μ hi uhi) (e1:optNat lo 0=some a) (e2:optNat hi len=some b)
  (hab:a≤b) (hb:b≤cap):(Instr.sliceBounds isSl len cap ulo uhi none).run P w=.ok (a,b,cap) w:=by
 rcases optNat_inv h1 e1 with ⟨rfl,_,rfl⟩ | ⟨k1,rfl,_⟩ <;> rcases optNat_inv h2 e2 with ⟨rfl,_,rfl⟩ | ⟨k2,rfl,_⟩ <;> simp [Instr.sliceBounds,run_bound hab,run_bound hb]
theorem run_bounds3 {len cap a b m:Nat} {lo hi:Option V} {v:V} {ulo uhi:Option Value} {u:Value} (h1:OptR μ lo ulo) (h2:OptR μ hi uhi) (h3:RV μ v u) (e1:optNat lo 0=some a) (e2:optNat hi len=some b)
  (e3:natOf v=some m) (hab:a≤b) (hb:b≤m) (hm:m≤cap) (his:hi.isSome=true):(Instr.sliceBounds true len cap ulo uhi (some u)).run P w=.ok (a,b,m) w:=by
 obtain ⟨k3,rfl⟩:=natOf_eq e3;obtain rfl:=h3.int_inv;rcases optNat_inv h2 e2 with ⟨rfl,rfl,rfl⟩ | ⟨k2,rfl,_⟩
 ·simp at his
 ·rcases optNat_inv h1 e1 with ⟨rfl,_,rfl⟩ | ⟨k1,rfl,_⟩ <;> simp [Instr.sliceBounds,run_bound hab,run_bound hb,run_bound hm]
theorem extract_mk (s:List UInt8) (a b:Nat):(⟨⟨s⟩⟩:ByteArray).extract a b=⟨⟨(s.take b).drop a⟩⟩:=by
 apply ByteArray.ext;apply Array.toList_inj.1;simp [ByteArray.data_extract,List.extract_eq_take_drop,List.drop_take]
theorem good_slice (hT:TabOk P T) (h:Sim μ H w) {t:TypeId} {x r:V} {u:Value} {lo hi mx:Option V} {ulo uhi umx:Option Value} (hu:RV μ x u) (h1:OptR μ lo ulo) (h2:OptR μ hi uhi) (h3:OptR μ mx umx)
  (e:sliceOp T H t x lo hi mx=some r):VGood P μ H w (Instr.sliceAt t u ulo uhi umx) r H:=by
 unfold Am.sliceOp at e;split at e
 ·rename_i hd;split at e
  ·rename_i s a ha
   cases h3
   split at e
   ·rename_i b hb
    cases hc:(Nat.ble a b && Nat.ble b s.length) with
    | false=>rw [hc] at e;cases e
    | true =>
      rw [hc] at e;simp only [cond_true,Option.some.injEq] at e;subst e;rw [Bool.and_eq_true,Nat.ble_eq,Nat.ble_eq] at hc;obtain rfl:=hu.str_inv;have hsz:(⟨⟨s⟩⟩:ByteArray).size=s.length:=rfl;refine .same h (u:=.string ⟨⟨(s.take b).drop a⟩⟩) ?_ (.str _);have:=run_bounds2 (P:=P) (w:=w) (isSl:=false) (cap:=s.length) h1 h2 ha hb hc.1 hc.2;simp [Instr.sliceAt,Instr.slice,run_und (hT.und _ _ hd),hsz,this,extract_mk]
   ·cases e
  ·cases e
 ·rename_i el hd;split at e
  ·rename_i p a hs ha;obtain ⟨sz,by'⟩:=p;obtain ⟨ie,hie,hin,_⟩:=hT.size _ _ _ hs;split at e
   ·rename_i b hb
    cases h3
    cases hc:(Nat.beq a 0 && Nat.beq b 0) with
    | false=>rw [hc] at e;cases e
    | true =>
      rw [hc] at e;simp only [cond_true,Option.some.injEq] at e;subst e;rw [Bool.and_eq_true,Nat.beq_eq,Nat.beq_eq] at hc;obtain ⟨rfl,rfl⟩:=hc
      cases hu
      refine .same h (u:=.slice none 0 0) ?_ .nilSlice;have:=run_bounds2 (P:=P) (w:=w) (isSl:=true) (cap:=0) h1 h2 ha hb (Nat.le_refl _) (Nat.le_refl _);simp [Instr.sliceAt,Instr.slice,run_und (hT.und _ _ hd),this,run_size hie]
   ·cases e
  ·rename_i l o n s c sz by' a hs ha
   obtain ⟨ie,hie,hin,_⟩:=hT.size _ _ _ hs
   cases hu with
   | slice hm hn hcap ht ho hbd =>
   rename_i b0 base tot cap ad
   have hcd:c.getD n≤cap:=by cases c with
    | none=>exact hn
    | some q=>rw [Option.getD_some,hcap q rfl];exact Nat.le_refl _
   split at e
   ·rename_i b hb
    cases h3
    cases hc:(Nat.beq sz s && Nat.ble a b && Nat.ble b (c.getD n)) with
    | false=>rw [hc] at e;cases e
    | true =>
      rw [hc] at e;simp only [cond_true,Option.some.injEq] at e;simp only [Bool.and_eq_true,Nat.ble_eq,Nat.beq_eq] at hc;obtain ⟨⟨rfl,hab⟩,hbc⟩:=hc;have hrun:=run_bounds2 (P:=P) (w:=w) (isSl:=true) (cap:=cap) h1 h2 ha hb hab (by omega)
      have hR:(Instr.sliceAt t (.slice (some ad) n cap) ulo uhi none).run P w=.ok (.slice (some (if cap=a then ad else ad.add (a * sz))) (b - a) (cap - a)) w:=by
       simp only [Instr.sliceAt,Instr.slice,Sem.run_bind,run_und (hT.und _ _ hd),Result.andThen_ok,hrun,run_size hie,hin,Sem.run_pure];split <;> simp [add_eq]
      refine .same h hR ?_
      cases c with
      | some q =>
        have hq:=hcap q rfl;subst hq;simp only [cond_beq] at e
        by_cases hqa:cap=a
        ·rw [if_pos hqa] at e ⊢;subst e;subst hqa;have:b - cap=0:=by simp at hbc;omega
         rw [this,Nat.sub_self];exact .slice hm (Nat.le_refl _) (fun m hm=>by cases hm;rfl) (by have:=Nat.zero_le (cap * sz);omega) (.inl rfl) (.inr (by omega))
        ·rw [if_neg hqa] at e ⊢;subst e;refine .slice hm (by simp at hbc;omega) (fun m hm=>by cases hm;rfl) ?_ (.inr ?_) (hbd.imp id fun h=>by omega)
         ·have:(cap - a) * sz+a * sz=cap * sz:=by rw [← Nat.add_mul];congr 1;simp at hbc;omega
          omega
         ·rcases ho with h0 | h0
          ·simp at hbc;omega
          ·rw [h0,add_eq];simp [Nat.add_assoc]
      | none =>
        subst e;have hac:a≤cap:=by simp at hbc;omega
        have hmul:(cap - a) * sz+a * sz=cap * sz:=by rw [← Nat.add_mul];congr 1;omega
        by_cases hqa:cap=a
        ·rw [if_pos hqa];refine .slice hm (by simp at hbc;omega) (fun m hm=>by cases hm) ?_ (.inl (by omega)) (hbd.imp id fun h=>by omega);omega
        ·rw [if_neg hqa];refine .slice hm (by simp at hbc;omega) (fun m hm=>by cases hm) ?_ (.inr ?_) (hbd.imp id fun h=>by omega)
         ·omega
         ·rcases ho with h0 | h0
          ·first | omega | (simp at hbc;omega)
          ·rw [h0,add_eq];simp [Nat.add_assoc]
   ·rename_i b v hb
    cases h3 with
    | @some _ u' h3 =>
    split at e
    ·rename_i m hmm
     cases hc:(Nat.beq sz s && Nat.ble a b && Nat.ble b m && Nat.ble m (c.getD n) && hi.isSome) with
     | false=>rw [hc] at e;cases e
     | true =>
       rw [hc] at e;simp only [cond_true,Option.some.injEq] at e;simp only [Bool.and_eq_true,Nat.ble_eq,Nat.beq_eq] at hc;obtain ⟨⟨⟨⟨rfl,hab⟩,hbm⟩,hmc⟩,his⟩:=hc;have hrun:=run_bounds3 (P:=P) (w:=w) (cap:=cap) h1 h2 h3 ha hb hmm hab hbm (by omega) his
       have hR:(Instr.sliceAt t (.slice (some ad) n cap) ulo uhi (some u')).run P w=.ok (.slice (some (if m=a then ad else ad.add (a * sz))) (b - a) (m - a)) w:=by
        simp only [Instr.sliceAt,Instr.slice,Sem.run_bind,run_und (hT.und _ _ hd),Result.andThen_ok,hrun,run_size hie,hin,Sem.run_pure];split <;> simp [add_eq]
       refine .same h hR ?_;simp only [cond_beq] at e;have hle:m * sz≤cap * sz:=Nat.mul_le_mul_right _ (by omega)
       by_cases hqa:m=a
       ·rw [if_pos hqa] at e ⊢;subst e;have e0:b - a=0:=by omega
        have e1:m - a=0:=by omega
        rw [e0,e1];exact .slice hm (Nat.le_refl _) (fun m hm=>by cases hm;rfl) (by omega) (.inl rfl) (.inr (by omega))
       ·rw [if_neg hqa] at e ⊢;subst e;refine .slice hm (by omega) (fun m hm=>by cases hm;rfl) ?_ (.inr ?_) (hbd.imp id fun h=>by omega)
        ·have:(m - a) * sz+a * sz=m * sz:=by rw [← Nat.add_mul];congr 1;omega
         omega
        ·rcases ho with h0 | h0
         ·first | omega | (simp at hbc;omega)
         ·rw [h0,add_eq];simp [Nat.add_assoc]
    ·cases e
   ·cases e
  ·cases e
 ·rename_i n el hd;split at e
  ·rename_i l o s by' a hs ha
   obtain ⟨ie,hie,hin,_⟩:=hT.size _ _ _ hs;split at e
   ·rename_i b vs hb hv
    cases h3
    cases hc:(Nat.ble a b && Nat.ble b n && Nat.ble (o+n * s) vs.length && Nat.ble n 9223372036854775807) with
    | false=>rw [hc] at e;cases e
    | true =>
      rw [hc] at e;simp only [cond_true,Option.some.injEq] at e;simp only [Bool.and_eq_true,Nat.ble_eq] at hc;obtain ⟨⟨⟨hab,hbn⟩,hle⟩,hbig⟩:=hc
      cases hu with
      | ptr hm =>
      rename_i b0 base tot;obtain ⟨ro,b',base',tot',cs,ty,fr,hg,hm',hb',hcl⟩:=h.cells hv;rw [hm] at hm';cases hm';have hlen:=hcl.len;have hrun:=run_bounds2 (P:=P) (w:=w) (isSl:=false) (cap:=n) h1 h2 ha hb hab hbn
      have hR:(Instr.sliceAt t (.pointer (some ⟨b0,base+o,none⟩)) ulo uhi none).run P w=.ok (.slice (some (if n=a then ⟨b0,base+o,none⟩ else ⟨b0,base+o+a * s,none⟩)) (b - a) (n - a)) w:=by
       simp only [Instr.sliceAt,Sem.run_bind,run_und (hT.und _ _ hd),Result.andThen_ok,Instr.sureAddr,Sem.run_pure,hrun,run_size hie,hin];split <;> simp [add_eq]
      refine .same h hR ?_;simp only [cond_beq] at e
      by_cases hqa:n=a
      ·rw [if_pos hqa] at e ⊢;subst e;have e0:b - a=0:=by omega
       have e1:n - a=0:=by omega
       rw [e0,e1];exact .slice hm (Nat.le_refl _) (fun m hm=>by cases hm;rfl) (by omega) (.inl rfl) (.inr (by omega))
      ·rw [if_neg hqa] at e ⊢;subst e;refine .slice hm (by omega) (fun m hm=>by cases hm;rfl) ?_ (.inr (by first | omega | simp [Nat.add_assoc] | (congr 1;omega))) (.inr (by omega));have:(n - a) * s+a * s=n * s:=by rw [← Nat.add_mul];congr 1;omega
       omega
   ·cases e
  ·cases e
 ·cases e
end Go.Am
