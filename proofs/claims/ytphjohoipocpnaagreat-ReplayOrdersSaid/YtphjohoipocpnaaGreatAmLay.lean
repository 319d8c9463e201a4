import Derived.Test.YtphjohoipocpnaaGreatAmF
import Derived.Test.YtphjohoipocpnaaGreatWpB
import Derived.ChangeSlices
import Derived.OpenShut
import Derived.Sort.Grow
import Derived.Sort.Row
import Derived.Lib.SlicesCompact
import Derived.Laws.IdiomCopy
import Derived.Laws.Append
set_option linter.unusedSimpArgs false
set_option linter.unusedVariables false
/- Arguments: how what a law takes is laid into the small machine's heap; and what a law's walk says of the program. No conditions. -/
namespace Go.Am
open Go Go.ChangeShapes
variable {P:Program} {T:Tab} {μ:Mu} {H:Heap} {w w':World}
def Still (H:Heap):Prop:=∀ l o,H.get l=some o→o.own=false
structure Laid (μ:Mu) (H:Heap) (w:World):Prop where
 sim:Sim μ H w
 quiet:Still H
 wf:H.WF
theorem laid_none (w:World):Laid (fun _=>none) Heap.empty w:=⟨sim_none w,fun l o e=>by (rw [empty_get] at e;cases e),fun l hl=>leaf_get 0 l⟩
theorem Laid.push (h:Laid μ H w) {b base tot:Nat} {vs:List V} {cs:Array Value} {ty:TypeId} {fr:Nat×Nat} (hb:w.heap[b]?=some (.cells cs ty fr)) (hc:CellsR μ true vs base tot cs fr) :
  Laid (upd μ H.n (b,base,tot)) (H.push (.cells true vs)) w:=by
 have hext:=upd_ext h.sim (b,base,tot)
 have hq:Still (H.push (.cells true vs)):=by
  intro l o e;rw [Heap.get_push] at e;split at e
  ·cases e;rfl
  ·exact h.quiet l o e
 refine ⟨⟨?_,?_,?_⟩,hq,h.wf.push _⟩
 ·intro l o e;rw [Heap.get_push] at e;split at e
  ·rename_i el;subst el;cases e;exact ⟨b,base,tot,cs,ty,fr,upd_same _ _ _,hb,⟨hc.len,hc.room,fun j v hv=>let ⟨u,e,r⟩:=hc.cell j v hv;⟨u,e,r.mono hext⟩,fun e=>by cases e⟩⟩
  ·exact (h.sim.obj l o e).mono hext fun _ _ _ _ _=>rfl
 ·intro l l' o o' b1 x y b2 x' y' e1 e2 ho;rw [hq l o e1] at ho;cases ho
 ·intro l x e
  by_cases el:l=H.n
  ·subst el;simp
  ·rw [upd_other _ el] at e;have:=h.sim.dom l x e;simp;omega
theorem law_walk (hmix:P.follows .mixedOrders=true) (hT:TabOk P T) (hP:PrimOk P T) {f:FuncId} (hpf:T.prim f=none) (h:Laid μ H w) {as:List V} {us:List Value} (hr:RVL μ as us)
  (hc:CallsTo T f as H fun r _=>r=.bool true):Calls P f ⟨us⟩ w fun e w'=>e=.returned (.bool true)∧RowKit.Below w.heap.size w w':=by
 obtain ⟨n,v,H',hrun,rfl⟩:=hc;have:=run_ok (w:=w) hmix hT hP hpf (by rw [hrun];simp) h.sim hr;refine this.mono fun e w' hc=>?_;rw [hrun] at hc
 cases e with
 | panicked ch=>exact hc.elim
 | outgrown=>exact hc.elim
 | returned u =>
   obtain ⟨μ',hv,hp⟩:=hc
   cases hv
   refine ⟨rfl,hp.os,hp.tape,hp.output,hp.size,fun b hb=>hp.kept b hb ?_⟩;rintro ⟨l,o,x,y,e,ho,_⟩;rw [h.quiet l o e] at ho;cases ho
end Go.Am

namespace Go.Am
open Go Go.Sort
def ints?:List V→Option (List Int)
 | []=>some []
 | .int .i64 n::vs=>(ints? vs).map (n::·)
 | _=>none
noncomputable def sortP:List V→Heap→Option (V×Heap)
 | [.nilSlice],H=>some (.tuple [],H)
 | [.slice l o n s c],H=>match H.get l with
   | some (.cells false vs)=>match take? vs o (n * s) with
     | some cs=>match ints? cs with
       | some zs=>cond (Nat.beq s 1 && Nat.ble n 1000000000) (some (.tuple [],H.put l (.cells false (over vs o ((zs.mergeSort fun x y=>decide (x≤y)).map fun z=>V.int .i64 z))))) none
       | none=>none
     | none=>none
   | _=>none
 | _,_=>none
def dd:List Int→List Int
 | []=>[]
 | [x]=>[x]
 | x::y::l=>if x=y then dd (y::l) else x::dd (y::l)
noncomputable def compactP:List V→Heap→Option (V×Heap)
 | [.nilSlice],H=>some (.nilSlice,H)
 | [.slice l o n s c],H=>cond (Nat.beq n 0) (some (.slice l o n s c,H)) (match H.get l with
   | some (.cells false vs)=>match take? vs o (n * s) with
     | some cs=>match ints? cs with
       | some zs=>cond (Nat.beq s 1 && Nat.ble n 1000000000) (some (.slice l o (dd zs).length s c,H.put l (.cells false (over vs o ((dd zs++List.replicate (n - (dd zs).length) 0).map fun z=>V.int .i64 z))))) none
       | none=>none
     | none=>none
   | _=>none)
 | _,_=>none
variable {P:Program} {T:Tab} {μ:Mu} {H:Heap} {w w':World}
theorem ints?_eq:∀ {cs:List V} {zs:List Int},ints? cs=some zs→cs=zs.map fun z=>V.int .i64 z
 | [],zs,h=>by simp only [ints?,Option.some.injEq] at h;subst h;rfl
 | .int .i64 n::vs,zs,h=>by
   simp only [ints?,Option.map_eq_some_iff] at h;obtain ⟨ys,h1,rfl⟩:=h;rw [ints?_eq h1];rfl
 | v::vs,zs,h=>by
   unfold ints? at h;split at h
   ·rename_i e;cases e
   ·rename_i n vs' e;cases e;simp only [Option.map_eq_some_iff] at h;obtain ⟨ys,h1,rfl⟩:=h;rw [ints?_eq h1];rfl
   ·cases h
theorem tk_len {vs r:List V} {o n:Nat} (h:take? vs o n=some r):r.length=n:=by
 unfold take? at h;simp only at h
 cases hh:Nat.beq ((vs.drop o).take n).length n with
 | false=>rw [hh] at h;cases h
 | true =>
   rw [hh] at h;simp only [cond_true,Option.some.injEq] at h;rw [← h];exact Nat.eq_of_beq_eq_true hh
theorem dd_snoc (x:Int):∀ l:List Int,dd (l++[x])=dd l++if l.getLast?=some x then [] else [x]
 | []=>rfl
 | [y]=>by
   simp only [List.cons_append,List.nil_append,dd,List.getLast?_singleton,Option.some.injEq];split
   ·rename_i h;subst h;simp
   ·simp
 | y::z::l=>by
   have ih:=dd_snoc x (z::l);simp only [List.cons_append] at ih ⊢;simp only [dd,List.getLast?_cons_cons];split
   ·exact ih
   ·rw [ih];rfl
theorem dd_le:∀ l:List Int,(dd l).length≤l.length
 | []=>Nat.le_refl _
 | [x]=>Nat.le_refl _
 | x::y::l=>by
   have:=dd_le (y::l);simp only [dd];split <;> simp only [List.length_cons] at * <;> omega
theorem compact_eq (zs:List Int):Lib.compact zs=dd zs:=by
 have key:∀ m,m≤zs.length→Lib.compactUpTo zs.toArray m=dd (zs.take m):=by
  intro m
  induction m with
  | zero=>intro _;simp [Lib.compactUpTo,dd]
  | succ m ih =>
    intro hm;have hg:zs.toArray[m]! = zs[m]:=by rw [getElem!_pos _ m (by simpa using Nat.lt_of_succ_le hm)];rfl
    rw [Lib.compactUpTo_succ,ih (by omega),List.take_add_one,List.getElem?_eq_getElem (by omega),Option.toList_some,dd_snoc,hg]
    congr 1
    by_cases h0:m=0
    ·subst h0;simp [Lib.keeps]
    ·have hg1:zs.toArray[m - 1]! = zs[m - 1]:=by rw [getElem!_pos _ (m - 1) (by simp;omega)];rfl
     have hl:(zs.take m).getLast?=some zs[m - 1]:=by
      rw [List.getLast?_eq_getElem?,List.length_take,Nat.min_eq_left (by omega),List.getElem?_take_of_lt (by omega),List.getElem?_eq_getElem (by omega)]
     rw [hl];simp only [Lib.keeps,hg,hg1,h0,false_or,Option.some.injEq,ne_eq,decide_not,Bool.not_eq_true',decide_eq_false_iff_not]
     by_cases e:zs[m]=zs[m - 1]
     ·rw [if_neg (by simpa using e),if_pos e.symm]
     ·rw [if_pos (by simpa using e),if_neg (fun h=>e h.symm)]
 rw [Lib.compact,key _ (Nat.le_refl _),List.take_length]
theorem Post.turnRow (h:Sim μ H w) {l b base tot:Nat} {vs vs':List V} (hl:H.get l=some (.cells false vs)) (hm:μ l=some (b,base,tot)) (hos:w'.os=w.os) (ht:w'.tape=w.tape) (hout:w'.output=w.output)
  (hs:w.heap.size≤w'.heap.size) (hk:∀ k,k<w.heap.size→k≠b→w'.heap[k]?=w.heap[k]?) {cs:Array Value} {ty:TypeId} {fr:Nat×Nat} (hb:w'.heap[b]?=some (.cells cs ty fr)) (hc:CellsR μ false vs' base tot cs fr) :
  Post μ H w μ (H.put l (.cells false vs')) w':=by
 obtain ⟨b',base',tot',cs0,ty0,fr0,m',hb0,hc0⟩:=h.obj l _ hl;rw [hm] at m';cases m'
 have hlt:b<w.heap.size:=by
  rcases Nat.lt_or_ge b w.heap.size with h' | h'
  ·exact h'
  ·rw [Array.getElem?_eq_none h'] at hb0;cases hb0
 have p1:Post μ H w μ (H.put l (.cells false vs')) (w.putObj b (.cells cs ty fr)):=Post.turn h hl rfl hm _ ⟨b,base,tot,cs,ty,fr,hm,World.putObj_heap_same hlt,hc⟩;refine p1.trans (Post.below p1.sim ⟨hos,ht,hout,by simpa using hs,fun k hk'=>?_⟩);rw [World.putObj_size] at hk'
 by_cases e:k=b
 ·subst e;rw [World.putObj_heap_same hlt,hb]
 ·rw [World.putObj_heap_other e,hk k hk' e]
theorem over_none:∀ (vs:List V) (o:Nat),over vs o []=vs
 | vs,0=>by cases vs <;> rfl
 | [],o+1=>rfl
 | v::vs,o+1=>by rw [over,over_none vs o]
structure RowAt (μ:Mu) (H:Heap) (w:World) (l o b base tot:Nat) (vs:List V) (zs:List Int):Prop where
 obj:H.get l=some (.cells false vs)
 place:μ l=some (b,base,tot)
 lt:b<w.heap.size
 fits:o+zs.length≤vs.length
 holds:Holds (Value.int .i64) w b (base+o) zs.toArray
theorem RowAt.of (h:Sim μ H w) {l o b base tot:Nat} {vs:List V} {zs:List Int} (hl:H.get l=some (.cells false vs)) (hm:μ l=some (b,base,tot)) (ht:take? vs o zs.length=some (zs.map fun z=>V.int .i64 z)) (hz:0<zs.length) :
  RowAt μ H w l o b base tot vs zs:=by
 obtain ⟨b',base',tot',cs,ty,fr,m',hb,hc⟩:=h.obj l _ hl;rw [hm] at m';cases m'
 have hlt:b<w.heap.size:=by
  rcases Nat.lt_or_ge b w.heap.size with h' | h'
  ·exact h'
  ·rw [Array.getElem?_eq_none h'] at hb;cases hb
 unfold take? at ht;simp only at ht
 cases hh:Nat.beq ((vs.drop o).take zs.length).length zs.length with
 | false=>rw [hh] at ht;cases ht
 | true =>
   rw [hh] at ht;simp only [cond_true,Option.some.injEq] at ht;have:=Nat.eq_of_beq_eq_true hh;rw [List.length_take,List.length_drop] at this;have hol:o+zs.length≤vs.length:=by omega
   refine ⟨hl,hm,hlt,hol,fun j hj=>?_⟩;have hj':j<zs.length:=by simpa using hj
   have hv:vs[o+j]?=some (.int .i64 zs[j]):=by
    have:=congrArg (fun l:List V=>l[j]?) ht;simp only [List.getElem?_map,List.getElem?_eq_getElem hj',Option.map_some] at this;rw [List.getElem?_take_of_lt hj',List.getElem?_drop] at this;exact this
   obtain ⟨u,hu,hr⟩:=hc.cell _ _ hv
   cases hr
   have hroom:=hc.room;have hlen:=hc.len;have hg:zs.toArray[j]! = zs[j]:=by rw [getElem!_pos _ j hj];rfl
   constructor
   ·simp only [World.cell?,hb,hg,Nat.add_assoc];simpa using hu
   ·simp only [World.frozen?,hb];have:=hc.thaw rfl (j:=base+o+j) (by omega);simpa using this
theorem RowAt.turned (h:Sim μ H w) {l o b base tot:Nat} {vs:List V} {zs ys:List Int} (r:RowAt μ H w l o b base tot vs zs) (hy:ys.length=zs.length) (q:Nat) (os:Array Obj) :
  Post μ H w μ (H.put l (.cells false (over vs o (ys.map fun z=>V.int .i64 z)))) (grow (putRow (Value.int .i64) (Sort.ahead w q) b (base+o) ys.toArray) os):=by
 obtain ⟨b',base',tot',cs,ty,fr,m',hb,hc⟩:=h.obj l _ r.obj;rw [r.place] at m';cases m';have hlt:=r.lt;have hsz:(putRow (Value.int .i64) (Sort.ahead w q) b (base+o) ys.toArray).heap.size=w.heap.size:=by simp
 have hkeep:∀ k,k<w.heap.size→(grow (putRow (Value.int .i64) (Sort.ahead w q) b (base+o) ys.toArray) os).heap[k]?=(putRow (Value.int .i64) (Sort.ahead w q) b (base+o) ys.toArray).heap[k]?:=by
  intro k hk;show (_++os)[k]?=_;rw [Array.getElem?_append_left (by rw [hsz];exact hk)]
 have hfit:=r.fits;have hlen:=hc.len;have hroom:=hc.room;refine Post.turnRow h r.obj r.place rfl rfl rfl ?_ ?_ (cs:=Sort.putCells (Value.int .i64) (base+o) ys.toArray cs) (ty:=ty) (fr:=fr) ?_ ⟨by rw [over_length];exact hlen,by simpa [Sort.putCells] using hroom,?_,?_⟩
 ·show _≤(_++os).size;rw [Array.size_append,hsz];omega
 ·intro k hk hkb;rw [hkeep k hk];simp only [putRow,mapBlock,Sort.heap_ahead];rw [Array.getElem?_modify,if_neg (fun e=>hkb e.symm)]
 ·rw [hkeep b hlt];simp only [putRow,mapBlock,Sort.heap_ahead];rw [Array.getElem?_modify,if_pos rfl,hb]
  rfl
 ·intro j v hj;rw [over_get _ _ _ _ (by simp;omega)] at hj;simp only [List.length_map,hy] at hj;have hjl:j<vs.length∨vs.length≤j:=Nat.lt_or_ge _ _;split at hj
  ·rename_i hin;rw [List.getElem?_map,Option.map_eq_some_iff] at hj;obtain ⟨z,hz,rfl⟩:=hj;refine ⟨.int .i64 z,?_,.int _ _⟩;have hyl:j - o<ys.length:=by omega
   have hzz:ys[j - o]=z:=by rw [List.getElem?_eq_getElem hyl] at hz;exact Option.some.inj hz
   have hg:ys.toArray[j - o]! = z:=by rw [getElem!_pos _ (j - o) (by simpa using hyl)];exact hzz
   simp only [Sort.putCells,Array.getElem?_mapIdx];rw [Array.getElem?_eq_getElem (by omega),Option.map_some];rw [if_pos (by simp;omega),show base+j - (base+o)=j - o by omega,hg]
  ·rename_i hout;obtain ⟨u,hu,hr⟩:=hc.cell j v hj;refine ⟨u,?_,hr⟩;simp only [Sort.putCells,Array.getElem?_mapIdx,hu,Option.map_some];rw [if_neg (by simp;omega)]
 ·intro e;have:=hc.free e;simpa [Sort.putCells] using this
theorem sort_prim (hT:TabOk P T) {f:FuncId} {fn:Func} {c:Code} (hf:T.func f=some fn) (hb:fn.body=some c)
  (h1:∀ (blk off cap:Nat) (zs:List Int) (w:World),Holds (Value.int .i64) w blk off zs.toArray→blk<w.heap.size→zs.length<4611686018427387904 →
   Calls P f #[.slice (some ⟨blk,off,none⟩) zs.length cap] w fun e w'=>e=.returned (.tuple #[])∧∃ n os,w'=grow (putRow (Value.int .i64) (Sort.ahead w n) blk off (zs.mergeSort fun x y=>decide (x≤y)).toArray) os)
  (h2:∀ (p:Option Addr) (cap:Nat) (w:World),Calls P f #[.slice p 0 cap] w fun e w'=>e=.returned (.tuple #[])∧w'=w)
  {as:List V} {v:V} {H':Heap} (e:sortP as H=some (v,H')) {us:List Value} (h:Sim μ H w) (hr:RVL μ as us):Entered P μ H w f us (.returned v H'):=by
 have fin:∀ {v:V} {H':Heap},Calls P f ⟨us⟩ w (CallPost μ H w (.returned v H'))→Entered P μ H w f us (.returned v H'):=fun hc=>.inl ⟨callsIn_wide.2 hc,run_callFunc hT hf hb ⟨us⟩⟩;unfold sortP at e;split at e
 ·cases e
  cases hr with | cons h1' t=>cases h1';cases t
                              exact fin ((h2 none 0 w).mono fun e w' ⟨he,hw⟩=>by subst he;subst hw;exact ⟨μ,.tuple .nil,Post.refl h⟩)
 ·rename_i l o n s c';split at e
  ·rename_i vs hl;split at e
   ·rename_i cs hcs;split at e
    ·rename_i zs hzs
     cases hs1:(Nat.beq s 1 && Nat.ble n 1000000000) with
     | false=>rw [hs1] at e;cases e
     | true =>
       rw [hs1] at e;simp only [cond_true,Option.some.injEq,Prod.mk.injEq] at e;obtain ⟨rfl,rfl⟩:=e;rw [Bool.and_eq_true] at hs1;have hs:=Nat.eq_of_beq_eq_true hs1.1;have hbn:=Nat.le_of_ble_eq_true hs1.2;subst hs;have hcz:=ints?_eq hzs;subst hcz;rw [Nat.mul_one] at hcs
       have hn:zs.length=n:=by
        have:=(tk_len hcs)
        simpa using this
       subst hn
       cases hr with | cons hs t=>?_
       cases t
       cases hs with | slice hm hnc hcc htt hoo hbd=>?_
       rename_i b base tot cap off
       by_cases h0:zs.length=0
       ·have hz:zs=[]:=List.length_eq_zero_iff.1 h0;subst hz;refine fin ((h2 _ cap w).mono fun e w' ⟨he,hw⟩=>?_);subst he;subst hw;obtain ⟨b',base',tot',cs,ty,fr,m',hb',hc'⟩:=h.obj l _ hl;rw [hm] at m';cases m';refine ⟨μ,.tuple .nil,?_⟩;simp only [List.mergeSort_nil,List.map_nil,over_none];exact Post.turnRow h hl hm rfl rfl rfl (Nat.le_refl _) (fun _ _ _=>rfl) hb' hc'
       ·have r:=RowAt.of h hl hm hcs (by omega)
        have hoff:off=⟨b,base+o,none⟩:=by
         rcases hoo with h1 | h1
         ·omega
         ·exact h1
        subst hoff;have hbig:zs.length<4611686018427387904:=by omega
        refine fin ((h1 b (base+o) cap zs w r.holds r.lt hbig).mono fun e w' ⟨he,q,os,hw⟩=>?_);subst he;subst hw;exact ⟨μ,.tuple .nil,r.turned h (List.length_mergeSort _) q os⟩
    ·cases e
   ·cases e
  ·cases e
 ·cases e
theorem compact_prim (hT:TabOk P T) {f:FuncId} {fn:Func} {c:Code} (hf:T.func f=some fn) (hb:fn.body=some c)
  (h1:∀ (blk off cap:Nat) (zs:List Int) (w:World),Holds (Value.int .i64) w blk off zs.toArray→zs.length≤9223372036854775807→zs.length≤cap →
   Calls P f #[.slice (some ⟨blk,off,none⟩) zs.length cap] w fun e w'=>e=.returned (.slice (some ⟨blk,off,none⟩) (Lib.compact zs).length cap)∧∃ q,w'=putRow (Value.int .i64) (Sort.ahead w q) blk off (Lib.compact zs++List.replicate (zs.length - (Lib.compact zs).length) 0).toArray)
  (h2:∀ (a:Option Addr) (cap:Nat) (w:World),Calls P f #[.slice a 0 cap] w fun e w'=>e=.returned (.slice a 0 cap)∧w'=w)
  {as:List V} {v:V} {H':Heap} (e:compactP as H=some (v,H')) {us:List Value} (h:Sim μ H w) (hr:RVL μ as us):Entered P μ H w f us (.returned v H'):=by
 have fin:∀ {v:V} {H':Heap},Calls P f ⟨us⟩ w (CallPost μ H w (.returned v H'))→Entered P μ H w f us (.returned v H'):=fun hc=>.inl ⟨callsIn_wide.2 hc,run_callFunc hT hf hb ⟨us⟩⟩;unfold compactP at e;split at e
 ·cases e
  cases hr with | cons h1' t=>cases h1';cases t
                              exact fin ((h2 none 0 w).mono fun e w' ⟨he,hw⟩=>by subst he;subst hw;exact ⟨μ,.nilSlice,Post.refl h⟩)
 ·rename_i l o n s c'
  cases hn0:Nat.beq n 0 with
  | true =>
    rw [hn0] at e;simp only [cond_true,Option.some.injEq,Prod.mk.injEq] at e;obtain ⟨rfl,rfl⟩:=e;have hn:=Nat.eq_of_beq_eq_true hn0;subst hn
    cases hr with | cons hs t=>?_
    cases t
    cases hs with | slice hm hnc hcc htt hoo hbd=>?_
    rename_i b base tot cap off;refine fin ((h2 _ cap w).mono fun e w' ⟨he,hw⟩=>?_);subst he;subst hw;exact ⟨μ,.slice hm hnc hcc htt hoo hbd,Post.refl h⟩
  | false =>
    rw [hn0] at e;simp only [cond_false] at e;have hnp:¬ n=0:=fun hh=>by rw [hh] at hn0;cases hn0
    split at e
    ·rename_i vs hl;split at e
     ·rename_i cs hcs;split at e
      ·rename_i zs hzs
       cases hs1:(Nat.beq s 1 && Nat.ble n 1000000000) with
       | false=>rw [hs1] at e;cases e
       | true =>
         rw [hs1] at e;simp only [cond_true,Option.some.injEq,Prod.mk.injEq] at e;obtain ⟨rfl,rfl⟩:=e;rw [Bool.and_eq_true] at hs1;have hs:=Nat.eq_of_beq_eq_true hs1.1;have hbn:=Nat.le_of_ble_eq_true hs1.2;subst hs;have hcz:=ints?_eq hzs;subst hcz;rw [Nat.mul_one] at hcs
         have hn:zs.length=n:=by
          have:=(tk_len hcs)
          simpa using this
         subst hn
         cases hr with | cons hs t=>?_
         cases t
         cases hs with | slice hm hnc hcc htt hoo hbd=>?_
         rename_i b base tot cap off;have r:=RowAt.of h hl hm hcs (by omega)
         have hoff:off=⟨b,base+o,none⟩:=by
          rcases hoo with h1 | h1
          ·omega
          ·exact h1
         subst hoff;have hle:=dd_le zs;refine fin ((h1 b (base+o) cap zs w r.holds (by omega) hnc).mono fun e w' ⟨he,q,hw⟩=>?_);rw [compact_eq] at he hw;subst he;subst hw;refine ⟨μ,.slice hm (by omega) hcc htt hoo hbd,?_⟩;have:=r.turned h (ys:=dd zs++List.replicate (zs.length - (dd zs).length) 0) (by simp;omega) q #[];rw [grow_empty] at this;exact this
      ·cases e
     ·cases e
    ·cases e
 ·cases e
end Go.Am

namespace Go.Am
open Go Go.Sort
noncomputable def delP:List V→Heap→Option (V×Heap)
 | [.slice l o n s c,.int .i64 (.ofNat i),.int .i64 (.ofNat j)],H=>match H.get l with
   | some (.cells false vs)=>match take? vs o (n * s) with
     | some cs=>match ints? cs with
       | some zs=>cond (Nat.beq s 1 && (Nat.ble n 1000000000 && (Nat.blt 0 n && (Nat.ble i j && Nat.ble j n)))) (some (.slice l o (n - (j - i)) s c,H.put l (.cells false (over vs o ((zs.take i++zs.drop j++List.replicate (j - i) 0).map fun z=>V.int .i64 z))))) none
       | none=>none
     | none=>none
   | _=>none
 | _,_=>none
noncomputable def insP:List V→Heap→Option (V×Heap)
 | [x,.int .i64 (.ofNat i),.slice l2 o2 1 1 _],H=>match H.get l2 with
   | some (.cells false vs2)=>match take? vs2 o2 1 with
     | some [.int .i64 z]=>match x with
       | .nilSlice=>cond (Nat.beq i 0) (some (.slice H.n 0 1 1 none,H.push (.cells false [V.int .i64 z]))) none
       | .slice l o n 1 c=>match H.get l with
         | some (.cells false vs)=>match take? vs o n with
           | some cs=>match ints? cs with
             | some zs=>cond (Nat.ble n 1000000000 && (Nat.ble i n && !Nat.beq l l2)) (some (.slice H.n 0 (n+1) 1 none,(H.put l .stale).push (.cells false ((zs.take i++z::zs.drop i).map fun z=>V.int .i64 z)))) none
             | none=>none
           | none=>none
         | _=>none
       | _=>none
     | _=>none
   | _=>none
 | _,_=>none
variable {P:Program} {T:Tab} {μ:Mu} {H:Heap} {w w' w1 w2:World}
theorem del_prim (hT:TabOk P T) {f:FuncId} {fn:Func} {c:Code} (hf:T.func f=some fn) (hb:fn.body=some c)
  (h1:∀ (blk off cap i j:Nat) (zs:List Int) (w:World),Holds (Value.int .i64) w blk off zs.toArray→zs.length≤cap→cap≤9223372036854775807→i≤j→j≤zs.length →
   Calls P f #[.slice (some ⟨blk,off,none⟩) zs.length cap,.int .i64 i,.int .i64 j] w fun e w'=>e=.returned (.slice (some ⟨blk,off,none⟩) (zs.length - (j - i)) cap)∧∃ q,w'=putRow (Value.int .i64) (Sort.ahead w q) blk off (zs.take i++zs.drop j++List.replicate (j - i) 0).toArray)
  {as:List V} {v:V} {H':Heap} (e:delP as H=some (v,H')) {us:List Value} (h:Sim μ H w) (hr:RVL μ as us):Entered P μ H w f us (.returned v H'):=by
 have fin:∀ {v:V} {H':Heap},Calls P f ⟨us⟩ w (CallPost μ H w (.returned v H'))→Entered P μ H w f us (.returned v H'):=fun hc=>.inl ⟨callsIn_wide.2 hc,run_callFunc hT hf hb ⟨us⟩⟩;unfold delP at e;split at e
 ·rename_i l o n s c' i j;split at e
  ·rename_i vs hl;split at e
   ·rename_i cs hcs;split at e
    ·rename_i zs hzs;rw [Bool.cond_eq_ite] at e;split at e
     case isFalse=>cases e
     rename_i hc;simp only [Bool.and_eq_true,Nat.beq_eq,Nat.ble_eq,Nat.blt_eq] at hc;obtain ⟨rfl,hn,hn0,hij,hjn⟩:=hc;simp only [Option.some.injEq,Prod.mk.injEq] at e;obtain ⟨rfl,rfl⟩:=e;have hcz:=ints?_eq hzs;subst hcz;rw [Nat.mul_one] at hcs;have hlen:zs.length=n:=by simpa using tk_len hcs
     subst hlen
     cases hr with | cons hs t=>?_
     cases t with | cons hi t=>?_
     cases t with | cons hj t=>?_
     cases t
     obtain rfl:=hi.int_inv;obtain rfl:=hj.int_inv
     cases hs with | slice hm hnc hcc htt hoo hbd=>?_
     rename_i b base tot cap off;have r:=RowAt.of h hl hm hcs (by omega)
     have hoff:off=⟨b,base+o,none⟩:=by
      rcases hoo with h1 | h1
      ·omega
      ·exact h1
     subst hoff
     have hcb:cap≤9223372036854775807:=by
      rcases hbd with h0 | h0
      ·cases h0
      ·exact h0
     refine fin ((h1 b (base+o) cap i j zs w r.holds hnc hcb hij hjn).mono fun e w' ⟨he,q,hw⟩=>?_);subst he;subst hw;refine ⟨μ,.slice hm (by omega) hcc htt hoo hbd,?_⟩;have:=r.turned h (ys:=zs.take i++zs.drop j++List.replicate (j - i) 0) (by simp;omega) q #[];rw [grow_empty] at this;exact this
    ·cases e
   ·cases e
  ·cases e
 ·cases e
structure OnlyAt (b:Nat) (w w':World):Prop where
 os:w'.os=w.os
 tape:w'.tape=w.tape
 output:w'.output=w.output
 size:w'.heap.size=w.heap.size
 other:∀ k,k≠b→w'.heap[k]?=w.heap[k]?
 blk:∀ cs ty fr,w.heap[b]?=some (.cells cs ty fr)→∃ cs',w'.heap[b]?=some (.cells cs' ty fr)∧cs'.size=cs.size
theorem OnlyAt.refl (b:Nat) (w:World):OnlyAt b w w:=⟨rfl,rfl,rfl,rfl,fun _ _=>rfl,fun cs ty fr h=>⟨cs,h,rfl⟩⟩
theorem OnlyAt.trans {b:Nat} (h:OnlyAt b w w1) (k:OnlyAt b w1 w2):OnlyAt b w w2:=
 ⟨k.os.trans h.os,k.tape.trans h.tape,k.output.trans h.output,k.size.trans h.size,fun j hj=>(k.other j hj).trans (h.other j hj),fun cs ty fr e=>by
  obtain ⟨c1,e1,s1⟩:=h.blk cs ty fr e;obtain ⟨c2,e2,s2⟩:=k.blk c1 ty fr e1;exact ⟨c2,e2,s2.trans s1⟩⟩
theorem OnlyAt.drew (b:Nat) (w:World):OnlyAt b w w.drew:=⟨rfl,rfl,rfl,rfl,fun _ _=>rfl,fun cs ty fr h=>⟨cs,h,rfl⟩⟩
theorem OnlyAt.setCell (b o:Nat) (v:Value) (w:World):OnlyAt b w (w.setCell ⟨b,o,none⟩ v):=by
 refine ⟨rfl,rfl,rfl,by simp [World.setCell],fun k hk=>?_,fun cs ty fr h=>?_⟩
 ·simp only [World.setCell,Array.getElem?_modify];rw [if_neg (fun e=>hk e.symm)]
 ·refine ⟨cs.setIfInBounds o v,?_,by simp⟩;simp only [World.setCell,Array.getElem?_modify,if_true,h,Option.map_some,Option.isSome_none,Bool.false_eq_true,if_false]
theorem OnlyAt.setCells (b:Nat):∀ (vs:List Value) (o:Nat) (w:World),OnlyAt b w (w.setCells b o vs)
 | [],o,w=>OnlyAt.refl b w
 | v::vs,o,w=>(OnlyAt.setCell b o v w).trans (OnlyAt.setCells b vs (o+1) _)
theorem world_ext {w1 w2:World} (h1:w1.heap=w2.heap) (h2:w1.tape=w2.tape) (h3:w1.os=w2.os) (h4:w1.output=w2.output):w1={ w2 with drawn:=w1.drawn }:=by
 cases w1;cases w2;simp only at h1 h2 h3 h4;subst h1 h2 h3 h4;rfl
theorem Post.inPlace (h:Sim μ H w) {l b base tot o:Nat} {vs ws:List V} (hl:H.get l=some (.cells false vs)) (hm:μ l=some (b,base,tot)) (hx:OnlyAt b w w') (hlen:base+o+ws.length≤tot)
  (hc:∀ j v,ws[j]?=some v→∃ u,w'.cell? ⟨b,base+o+j,none⟩=some u∧RV (upd μ H.n (b,base+o,tot)) v u) :
  Post μ H w (upd μ H.n (b,base+o,tot)) ((H.put l .stale).push (.cells false ws)) w':=by
 obtain ⟨b',base',tot',cs,ty,fr,m',hb,hcl⟩:=h.obj l _ hl;rw [hm] at m';cases m'
 have hlt:b<w.heap.size:=by
  rcases Nat.lt_or_ge b w.heap.size with h' | h'
  ·exact h'
  ·rw [Array.getElem?_eq_none h'] at hb;cases hb
 obtain ⟨cs',hb',hs'⟩:=hx.blk cs ty fr hb
 have p1:=Post.regrow h hl rfl hm (x':=base+o) (y':=tot) (.cells cs' ty fr) (o':=.cells false ws) ⟨b,base+o,tot,cs',ty,fr,upd_same _ _ _,World.putObj_heap_same hlt,by
  refine ⟨hlen,by rw [hs'];exact hcl.room,fun j v hj=>?_,fun _=>by rw [hs'];exact hcl.free rfl⟩;obtain ⟨u,hu,hr⟩:=hc j v hj;refine ⟨u,?_,hr⟩;simpa [World.cell?,hb'] using hu⟩
 have e:w'={ (w.putObj b (.cells cs' ty fr)) with drawn:=w'.drawn }:=by
  refine world_ext ?_ hx.tape hx.os hx.output;apply Array.ext_getElem?;intro k
  by_cases hk:k=b
  ·subst hk;rw [hb',World.putObj_heap_same hlt]
  ·rw [hx.other k hk,World.putObj_heap_other hk]
 rw [e];exact p1.trans (Post.drawn p1.sim _)
theorem Post.newRow (h:Sim μ H w) {H1:Heap} (p0:Post μ H w μ H1 w) {ws:List V} {pre:List Value} {cs:Array Value} {ty:TypeId} (hx:w'.heap=w.heap.push (.cells cs ty (0,0))) (ht:w'.tape=w.tape) (ho:w'.os=w.os) (hout:w'.output=w.output)
  (hr:RVL μ ws pre) (hp:∀ (j:Nat) (u:Value),pre[j]?=some u→cs[j]?=some u) (hle:pre.length≤cs.size) :
  Post μ H w (upd μ H1.n (w.heap.size,0,cs.size)) (H1.push (.cells false ws)) w':=by
 have p1:=Post.newCellsM p0.sim hr hp hle ty (0,0) (.inl rfl);have e:w'={ (w.alloc (.cells cs ty (0,0))) with drawn:=w'.drawn }:=world_ext hx ht ho hout;rw [e];exact (p0.trans p1).trans (Post.drawn p1.sim _)
theorem shape_of {b:Nat} {cs:Array Value} {ty:TypeId} {fr:Nat×Nat} (h:w.heap[b]?=some (.cells cs ty fr)):w.shape? b=some (ty,cs.size):=by unfold World.shape?;rw [h]
theorem ints_one (l:List Int):∀ v,v∈l.map (Value.int .i64)→v.oneCell'=true:=by
 intro v hv;obtain ⟨z,_,rfl⟩:=List.mem_map.1 hv
 rfl
theorem rvl_ints:∀ l:List Int,RVL μ (l.map fun z=>V.int .i64 z) (l.map (Value.int .i64))
 | []=>.nil
 | z::l=>.cons (.int _ _) (rvl_ints l)
theorem grown_le {w:World} {need old:Nat} {e:TypeId} (h:need<17592186044416):need≤grownCap w need old e∧grownCap w need old e≤9223372036854775807:=by
 have:=Nat.mod_lt (w.tape w.drawn (.appendCap need old e)) (show 0<2 ^ 63 - need by omega);simp only [grownCap,Question.cut];omega
theorem ins_get (zs:List Int) (z:Int) {i:Nat} (hi:i≤zs.length) {j:Nat} {v:V} (h:((zs.take i++z::zs.drop i).map fun z=>V.int .i64 z)[j]?=some v) :
  (j<i∧∃ y,zs[j]?=some y∧v=.int .i64 y)∨(j=i∧v=.int .i64 z)∨(i<j∧∃ y,(zs.drop i)[j - (i+1)]?=some y∧v=.int .i64 y):=by
 rw [List.getElem?_map,Option.map_eq_some_iff] at h;obtain ⟨y,hy,rfl⟩:=h;rcases Nat.lt_trichotomy j i with h1 | h1 | h1
 ·rw [List.getElem?_append_left (by rw [List.length_take];omega),List.getElem?_take_of_lt h1] at hy;exact .inl ⟨h1,y,hy,rfl⟩
 ·subst h1;rw [List.getElem?_append_right (by rw [List.length_take];omega),List.length_take,Nat.min_eq_left hi,Nat.sub_self,List.getElem?_cons_zero] at hy
  cases hy;exact .inr (.inl ⟨rfl,rfl⟩)
 ·rw [List.getElem?_append_right (by rw [List.length_take];omega),List.length_take,Nat.min_eq_left hi] at hy;obtain ⟨k,hk⟩:∃ k,j - i=k+1:=⟨j - i - 1,by omega⟩
  rw [hk,List.getElem?_cons_succ] at hy;exact .inr (.inr ⟨h1,y,by rw [show j - (i+1)=k by omega];exact hy,rfl⟩)
theorem ins_prim (hT:TabOk P T) (hbk:bytesOk=false) {f:FuncId} {fn:Func} {c:Code} {t3:TypeId} (hf:T.func f=some fn) (hb:fn.body=some c)
  (hS:∀ (b off n c i vb voff m vc:Nat) (cs vs:List Value) (w:World),i<n→0<m→n+m≤c→c≤9223372036854775807→vb≠b→cs.length=n→vs.length=m →
   (∀ j v,cs[j]?=some v→w.cell? ⟨b,off+j,none⟩=some v)→(∀ j,j<n+m→(w.cell? ⟨b,off+j,none⟩).isSome=true)→(∀ j,j<n+m→w.frozen? ⟨b,off+j,none⟩=false) →
   (∀ j v,vs[j]?=some v→w.cell? ⟨vb,voff+j,none⟩=some v)→(∀ v∈cs,v.oneCell'=true)→(∀ v∈vs,v.oneCell'=true) →
   ∀ (tA tB:TypeId) (kA kB:Nat),w.shape? vb=some (tA,kA)→w.shape? b=some (tB,kB)→kB≠0→w.frozen? ⟨vb,voff,none⟩=false→w.frozen? ⟨vb,kA,none⟩=false →
   Calls P f #[.slice (some ⟨b,off,none⟩) n c,.int .i64 i,.slice (some ⟨vb,voff,none⟩) m vc] w fun e w'=>e=.returned (.slice (some ⟨b,off,none⟩) (n+m) c)∧w'=(w.drew.setCells b (off+(i+m)) (cs.drop i)).setCells b (off+i) vs)
  (hE:∀ (b off n c vb voff m vc:Nat) (vs:List Value) (w:World),0<m→n+m≤c→c≤9223372036854775807→vs.length=m →
   (∀ j,j<m→(w.cell? ⟨b,off+n+j,none⟩).isSome=true)→(∀ j,j<m→w.frozen? ⟨b,off+n+j,none⟩=false)→(∀ j v,vs[j]?=some v→w.cell? ⟨vb,voff+j,none⟩=some v)→(∀ v∈vs,v.oneCell'=true) →
   Calls P f #[.slice (some ⟨b,off,none⟩) n c,.int .i64 n,.slice (some ⟨vb,voff,none⟩) m vc] w fun e w'=>e=.returned (.slice (some ⟨b,off,none⟩) (n+m) c)∧w'=w.setCells b (off+n) vs)
  (hG:∀ (base:Option Addr) (n c vb voff m vc:Nat) (cs vs:List Value) (w:World),0<m→n≤c→c<n+m→(n+m) * 8≤140737488355328→cs.length=n→vs.length=m→(base=none→n=0) →
   (∀ a,base=some a→∀ j v,cs[j]?=some v→w.cell? (a.add j)=some v)→(∀ j v,vs[j]?=some v→w.cell? ⟨vb,voff+j,none⟩=some v)→(∀ v∈vs,v.oneCell'=true) →
   Calls P f #[.slice base n c,.int .i64 n,.slice (some ⟨vb,voff,none⟩) m vc] w fun e w'=>e=.returned (.slice (some ⟨w.heap.size,0,none⟩) (n+m) (grownCap w (n+m) c t3)) ∧
    w'=w.drew.alloc (.cells ((cs++vs).toArray++Builtin.zeroCells (Value.int .i64 0).cells (grownCap w (n+m) c t3 - (n+m))) t3))
  (hN:∀ (b off n c i vb voff m vc:Nat) (cs vs:List Value) (w:World),i<n→0<m→n≤c→c<n+m→(n+m) * 8≤140737488355328→cs.length=n→vs.length=m →
   (∀ j v,cs[j]?=some v→w.cell? ⟨b,off+j,none⟩=some v)→(∀ j v,vs[j]?=some v→w.cell? ⟨vb,voff+j,none⟩=some v)→(∀ v∈cs,v.oneCell'=true)→(∀ v∈vs,v.oneCell'=true) →
   Calls P f #[.slice (some ⟨b,off,none⟩) n c,.int .i64 i,.slice (some ⟨vb,voff,none⟩) m vc] w fun e w'=>e=.returned (.slice (some ⟨w.heap.size,0,none⟩) (n+m) (grownCap w (n+m) c t3)) ∧
    w'=(((w.alloc (.cells ((cs.take i).toArray++Builtin.zeroCells (Value.int .i64 0).cells (n+m - i)++Builtin.zeroCells (Value.int .i64 0).cells (grownCap w (n+m) c t3 - (n+m))) t3)).drew.setCells w.heap.size i vs).drew).setCells w.heap.size (i+m) (cs.drop i))
  {as:List V} {v:V} {H':Heap} (e:insP as H=some (v,H')) {us:List Value} (h:Sim μ H w) (hr:RVL μ as us):Entered P μ H w f us (.returned v H'):=by
 have fin:∀ {v:V} {H':Heap},Calls P f ⟨us⟩ w (CallPost μ H w (.returned v H'))→Entered P μ H w f us (.returned v H'):=fun hc=>.inl ⟨callsIn_wide.2 hc,run_callFunc hT hf hb ⟨us⟩⟩;unfold insP at e;split at e
 case h_2=>cases e
 rename_i x i l2 o2 c2;split at e
 case h_2=>cases e
 rename_i vs2 hl2;split at e
 case h_2=>cases e
 rename_i z hcs2
 cases hr with | cons hs t=>?_
 cases t with | cons hi t=>?_
 cases t with | cons hv t=>?_
 cases t
 obtain rfl:=hi.int_inv
 cases hv with | slice hm2 hnc2 hcc2 htt2 hoo2 hbd2=>?_
 rename_i b2 base2 tot2 cap2 off2
 have hoff2:off2=⟨b2,base2+o2,none⟩:=by
  rcases hoo2 with h1 | h1
  ·omega
  ·exact h1
 subst hoff2;obtain ⟨b2',base2',tot2',cs2,ty2,fr2,m2',hbb2,hcl2⟩:=h.obj l2 _ hl2;rw [hm2] at m2';cases m2'
 have hfr2:fr2.1=fr2.2:=by
  rcases hcl2.free rfl with h1 | ⟨h1,_⟩
  ·exact h1
  ·rw [hbk] at h1;cases h1
 have hz:w.cell? ⟨b2,base2+o2,none⟩=some (.int .i64 z):=by
  have hv2:vs2[o2]?=some (.int .i64 z):=by
   have:=take?_get hcs2 0 (by omega);simpa using this.symm
  obtain ⟨u,hu,hru⟩:=hcl2.cell _ _ hv2;obtain rfl:=hru.int_inv;simpa [World.cell?,hbb2] using hu
 have hzv:∀ j v,[Value.int .i64 z][j]?=some v→w.cell? ⟨b2,base2+o2+j,none⟩=some v:=by
  intro j v hj
  cases j with
  | zero=>simp only [List.getElem?_cons_zero,Option.some.injEq] at hj;subst hj;exact hz
  | succ j=>simp at hj
 have h1v:∀ v∈[Value.int .i64 z],v.oneCell'=true:=by intro v hv;rw [List.mem_singleton] at hv;subst hv;rfl
 split at e
 ·-- nothing yet
  cases hs
  rw [Bool.cond_eq_ite] at e;split at e
  case isFalse=>cases e
  rename_i hi0;rw [Nat.beq_eq] at hi0;subst hi0
  cases e
  refine fin ((hG none 0 0 b2 (base2+o2) 1 cap2 [] [.int .i64 z] w (by omega) (by omega) (by omega) (by omega) rfl rfl (fun _=>rfl) (fun a ha=>by cases ha) hzv h1v).mono fun e w' ⟨he,hw⟩=>?_);subst he;subst hw;obtain ⟨g1,g2⟩:=grown_le (w:=w) (need:=0+1) (old:=0) (e:=t3) (by omega)
  have sz:((([]++[Value.int .i64 z]).toArray++Builtin.zeroCells (Value.int .i64 0).cells (grownCap w (0+1) 0 t3 - (0+1))).size)=grownCap w (0+1) 0 t3:=by
   have zc:(Value.int .i64 0).cells.size=1:=rfl;simp only [Array.size_append,zeroCells_size,List.size_toArray,List.nil_append,List.length_cons,List.length_nil,zc];omega
  have p:=Post.newRow (H1:=H) (w':=w.drew.alloc (.cells (([]++[Value.int .i64 z]).toArray++Builtin.zeroCells (Value.int .i64 0).cells (grownCap w (0+1) 0 t3 - (0+1))) t3)) h (Post.refl h) (ws:=[.int .i64 z]) (pre:=[.int .i64 z]) rfl rfl rfl rfl (.cons (.int _ _) .nil) (fun j u hj=>by
   cases j with
   | zero=>rw [Array.getElem?_append_left (by simp)];simpa using hj
   | succ j=>simp at hj) (by rw [sz];simpa using g1)
  refine ⟨_,?_,p⟩;exact .slice (upd_same _ _ _) g1 (fun m hm=>by cases hm) (by rw [sz];omega) (.inr rfl) (.inr g2)
 ·rename_i l o n c';split at e
  case h_2=>cases e
  rename_i vs hl;split at e
  case h_2=>cases e
  rename_i cs hcs;split at e
  case h_2=>cases e
  rename_i zs hzs;rw [Bool.cond_eq_ite] at e;split at e
  case isFalse=>cases e
  rename_i hc;simp only [Bool.and_eq_true,Nat.ble_eq,Nat.blt_eq,Bool.not_eq_true'] at hc;obtain ⟨hn,hin,hne⟩:=hc;have hne:l≠l2:=fun e=>by rw [e,Nat.beq_refl] at hne;cases hne
  cases e
  have hcz:=ints?_eq hzs;subst hcz;have hlen:zs.length=n:=by simpa using tk_len hcs
  subst hlen
  cases hs with | slice hm hnc hcc htt hoo hbd=>?_
  rename_i b base tot cap off
  have hcb:cap≤9223372036854775807:=by
   rcases hbd with h0 | h0
   ·cases h0
   ·exact h0
  rw [Nat.mul_one] at htt
  by_cases hc0:cap=0
  ·subst hc0;have hz0:zs=[]:=List.length_eq_zero_iff.1 (by omega);subst hz0;have hi0:i=0:=by simpa using hin
   subst hi0;refine fin ((hG (some off) 0 0 b2 (base2+o2) 1 cap2 [] [.int .i64 z] w (by omega) (by omega) (by omega) (by omega) rfl rfl (fun _=>rfl) (fun a ha j v hj=>by simp at hj) hzv h1v).mono fun e w' ⟨he,hw⟩=>?_);subst he;subst hw;obtain ⟨g1,g2⟩:=grown_le (w:=w) (need:=0+1) (old:=0) (e:=t3) (by omega)
   have sz:((([]++[Value.int .i64 z]).toArray++Builtin.zeroCells (Value.int .i64 0).cells (grownCap w (0+1) 0 t3 - (0+1))).size)=grownCap w (0+1) 0 t3:=by
    have zc:(Value.int .i64 0).cells.size=1:=rfl;simp only [Array.size_append,zeroCells_size,List.size_toArray,List.nil_append,List.length_cons,List.length_nil,zc];omega
   have p:=Post.newRow (w':=w.drew.alloc (.cells (([]++[Value.int .i64 z]).toArray++Builtin.zeroCells (Value.int .i64 0).cells (grownCap w (0+1) 0 t3 - (0+1))) t3)) h (Post.retire h hl) (ws:=[.int .i64 z]) (pre:=[.int .i64 z]) rfl rfl rfl rfl (.cons (.int _ _) .nil) (fun j u hj=>by
    cases j with
    | zero=>rw [Array.getElem?_append_left (by simp)];simpa using hj
    | succ j=>simp at hj) (by rw [sz];simpa using g1)
   refine ⟨_,?_,p⟩;rw [Heap.n_put];exact .slice (upd_same _ _ _) g1 (fun m hm=>by cases hm) (by rw [sz];omega) (.inr rfl) (.inr g2)
  have hoff:off=⟨b,base+o,none⟩:=by
   rcases hoo with h1 | h1
   ·omega
   ·exact h1
  subst hoff;obtain ⟨b',base',tot',cs0,ty,fr,m',hb0,hcl⟩:=h.obj l _ hl;rw [hm] at m';cases m'
  have hfr:fr.1=fr.2:=by
   rcases hcl.free rfl with h1 | ⟨h1,_⟩
   ·exact h1
   ·rw [hbk] at h1;cases h1
  have hroom:=hcl.room;have hbb:b2≠b:=fun e=>hne (h.inj l l2 _ _ b base tot b2 base2 tot2 hl hl2 rfl rfl hm hm2 e.symm)
  have thaw:∀ (b:Nat) (cs:Array Value) (ty:TypeId) (fr:Nat×Nat) (k:Nat),w.heap[b]?=some (.cells cs ty fr)→fr.1=fr.2→w.frozen? ⟨b,k,none⟩=false:=by
   intro b cs ty fr k h1 h2;simp only [World.frozen?,h1,h2];simp
  have hcell:∀ (j:Nat) (v:Value),(zs.map (Value.int .i64))[j]?=some v→w.cell? ⟨b,base+o+j,none⟩=some v:=by
   intro j v hj;rw [List.getElem?_map,Option.map_eq_some_iff] at hj;obtain ⟨y,hy,rfl⟩:=hj;have hjl:=(List.getElem?_eq_some_iff.1 hy).1
   have hv2:vs[o+j]?=some (.int .i64 y):=by
    have e:=take?_get hcs j hjl;rw [List.getElem?_map,hy] at e;exact e.symm
   obtain ⟨u,hu,hru⟩:=hcl.cell _ _ hv2;obtain rfl:=hru.int_inv;simp only [World.cell?,hb0,Option.isSome_none,Bool.false_eq_true,if_false,Nat.add_assoc];exact hu
  have hsome:∀ j,j<cap→(w.cell? ⟨b,base+o+j,none⟩).isSome=true:=by
   intro j hj;simp only [World.cell?,hb0,Option.isSome_none,Bool.false_eq_true,if_false];rw [Array.getElem?_eq_getElem (by omega)];rfl
  have hlz:(zs.map (Value.int .i64)).length=zs.length:=by simp
  by_cases hroom2:zs.length+1≤cap
  ·-- there is room
   have res:RV (upd μ H.n (b,base+o,tot)) (.slice H.n 0 (zs.length+1) 1 none) (.slice (some ⟨b,base+o,none⟩) (zs.length+1) cap):=
    .slice (upd_same _ _ _) hroom2 (fun m hm=>by cases hm) (by omega) (.inr rfl) (.inr hcb)
   have wl:((zs.take i++z::zs.drop i).map fun z=>V.int .i64 z).length=zs.length+1:=by simp;omega
   by_cases hi:i<zs.length
   ·refine fin ((hS b (base+o) zs.length cap i b2 (base2+o2) 1 cap2 (zs.map (Value.int .i64)) [.int .i64 z] w hi (by omega) hroom2 hcb hbb hlz rfl hcell (fun j hj=>hsome j (by omega)) (fun j _=>thaw b cs0 ty fr _ hb0 hfr) hzv (ints_one zs) h1v ty2 ty cs2.size cs0.size (shape_of hbb2) (shape_of hb0) (by omega) (thaw b2 cs2 ty2 fr2 _ hbb2 hfr2) (thaw b2 cs2 ty2 fr2 _ hbb2 hfr2)).mono fun e w' ⟨he,hw⟩=>?_);subst he;refine ⟨_,res,Post.inPlace h hl hm ?_ (by rw [wl];omega) fun j v hj=>?_⟩
    ·subst hw;exact ((OnlyAt.drew b w).trans (OnlyAt.setCells b _ _ _)).trans (OnlyAt.setCells b _ _ _)
    ·subst hw;have dl:((zs.map (Value.int .i64)).drop i).length=zs.length - i:=by simp
     have some1:∀ k,k<cap→((w.drew.setCells b (base+o+(i+1)) ((zs.map (Value.int .i64)).drop i)).cell? ⟨b,base+o+k,none⟩).isSome=true:=by
      intro k hk
      by_cases h1:i+1≤k∧k<zs.length+1
      ·have:=World.cell?_setCells_in b ((zs.map (Value.int .i64)).drop i) (base+o+(i+1)) w.drew (fun j hj=>by rw [Nat.add_assoc];exact hsome (i+1+j) (by omega)) (k - (i+1)) (by omega);rw [show base+o+(i+1)+(k - (i+1))=base+o+k by omega] at this;rw [this];rfl
      ·rw [World.cell?_setCells_out b _ _ _ _ (fun _ _=>by simp only;omega)];exact hsome k hk
     rcases ins_get zs z hin hj with ⟨h1,y,hy,rfl⟩ | ⟨rfl,rfl⟩ | ⟨h1,y,hy,rfl⟩
     ·refine ⟨.int .i64 y,?_,.int _ _⟩;rw [World.cell?_setCells_out b _ _ _ _ (fun _ _=>by simp only;omega),World.cell?_setCells_out b _ _ _ _ (fun _ _=>by simp only;omega)];exact hcell j _ (by rw [List.getElem?_map,hy];rfl)
     ·refine ⟨.int .i64 z,?_,.int _ _⟩
      have:=World.cell?_setCells_in b [Value.int .i64 z] (base+o+j) _ (fun k hk=>by
       have:k=0:=by simpa using hk
       subst this;exact some1 j (by omega)) 0 (by simp)
      simpa using this
     ·refine ⟨.int .i64 y,?_,.int _ _⟩;have hyl:=(List.getElem?_eq_some_iff.1 hy).1;rw [List.length_drop] at hyl;rw [World.cell?_setCells_out b _ _ _ _ (fun _ _=>by simp only [List.length_cons,List.length_nil];omega)];have:=World.cell?_setCells_in b ((zs.map (Value.int .i64)).drop i) (base+o+(i+1)) w.drew (fun j hj=>by rw [Nat.add_assoc];exact hsome (i+1+j) (by omega)) (j - (i+1)) (by omega);rw [show base+o+(i+1)+(j - (i+1))=base+o+j by omega] at this;rw [this,← List.getElem?_eq_getElem,← List.map_drop,List.getElem?_map,hy];rfl
   ·have hii:i=zs.length:=by omega
    subst hii;refine fin ((hE b (base+o) zs.length cap b2 (base2+o2) 1 cap2 [.int .i64 z] w (by omega) hroom2 hcb rfl (fun j hj=>by rw [Nat.add_assoc];exact hsome _ (by omega)) (fun j _=>thaw b cs0 ty fr _ hb0 hfr) hzv h1v).mono fun e w' ⟨he,hw⟩=>?_);subst he;refine ⟨_,res,Post.inPlace h hl hm ?_ (by rw [wl];omega) fun j v hj=>?_⟩
    ·subst hw;exact OnlyAt.setCells b _ _ _
    ·subst hw;rcases ins_get zs z hin hj with ⟨h1,y,hy,rfl⟩ | ⟨rfl,rfl⟩ | ⟨h1,y,hy,rfl⟩
     ·refine ⟨.int .i64 y,?_,.int _ _⟩;rw [World.cell?_setCells_out b _ _ _ _ (fun _ _=>by simp only;omega)];exact hcell j _ (by rw [List.getElem?_map,hy];rfl)
     ·refine ⟨.int .i64 z,?_,.int _ _⟩
      have:=World.cell?_setCells_in b [Value.int .i64 z] (base+o+zs.length) w (fun k hk=>by
       have:k=0:=by simpa using hk
       subst this;exact hsome _ (by omega)) 0 (by simp)
      simpa using this
     ·simp at hy
  ·-- a new row
   have zc:(Value.int .i64 0).cells.size=1:=rfl;obtain ⟨g1,g2⟩:=grown_le (w:=w) (need:=zs.length+1) (old:=cap) (e:=t3) (by omega);have wsr:RVL μ ((zs.take i++z::zs.drop i).map fun z=>V.int .i64 z) ((zs.take i++z::zs.drop i).map (Value.int .i64)):=rvl_ints _;have wsl:((zs.take i++z::zs.drop i).map (Value.int .i64)).length=zs.length+1:=by simp;omega
   have p0:=Post.retire h hl;have hHn:(H.put l .stale).n=H.n:=Heap.n_put _ _ _
   by_cases hi:i<zs.length
   ·refine fin ((hN b (base+o) zs.length cap i b2 (base2+o2) 1 cap2 (zs.map (Value.int .i64)) [.int .i64 z] w hi (by omega) hnc (by omega) (by omega) hlz rfl hcell hzv (ints_one zs) h1v).mono fun e w' ⟨he,hw⟩=>?_);subst he;generalize hC:(((zs.map (Value.int .i64)).take i).toArray++Builtin.zeroCells (Value.int .i64 0).cells (zs.length+1 - i)++Builtin.zeroCells (Value.int .i64 0).cells (grownCap w (zs.length+1) cap t3 - (zs.length+1)))=C at hw
    have hCs:C.size=grownCap w (zs.length+1) cap t3:=by
     rw [← hC];simp only [Array.size_append,zeroCells_size,List.size_toArray,List.length_take,hlz,zc];omega
    have only:OnlyAt w.heap.size (w.alloc (.cells C t3)) w':=by
     subst hw;exact (((OnlyAt.drew _ _).trans (OnlyAt.setCells _ _ _ _)).trans (OnlyAt.drew _ _)).trans (OnlyAt.setCells _ _ _ _)
    obtain ⟨C',hC',hCs'⟩:=only.blk C t3 (0,0) (World.alloc_heap_new _ _)
    have hheap:w'.heap=w.heap.push (.cells C' t3 (0,0)):=by
     apply Array.ext_getElem?;intro k;rw [Array.getElem?_push]
     by_cases hk:k=w.heap.size
     ·subst hk;rw [hC',if_pos rfl]
     ·rw [only.other k hk,if_neg hk];show (w.heap.push _)[k]?=_;rw [Array.getElem?_push,if_neg hk]
    have csome:∀ (w0:World),OnlyAt w.heap.size (w.alloc (.cells C t3)) w0→∀ k,k<zs.length+1→(w0.cell? ⟨w.heap.size,k,none⟩).isSome=true:=by
     intro w0 h0 k hk;obtain ⟨C0,e0,s0⟩:=h0.blk C t3 (0,0) (World.alloc_heap_new _ _);simp only [World.cell?,e0,Option.isSome_none,Bool.false_eq_true,if_false];rw [Array.getElem?_eq_getElem (by omega)];rfl
    have cell:∀ (j:Nat) (u:Value),((zs.take i++z::zs.drop i).map (Value.int .i64))[j]?=some u→C'[j]?=some u:=by
     intro j u hj;have e1:w'.cell? ⟨w.heap.size,j,none⟩=C'[j]?:=by simp [World.cell?,hC']
     rw [← e1]
     have hjv:((zs.take i++z::zs.drop i).map fun z=>V.int .i64 z)[j]?=some (.int .i64 ((zs.take i++z::zs.drop i).getD j 0)):=by
      have hjl:=(List.getElem?_eq_some_iff.1 hj).1;rw [List.length_map] at hjl;rw [List.getElem?_map,List.getElem?_eq_getElem hjl,List.getD_eq_getElem?_getD,List.getElem?_eq_getElem hjl];rfl
     have hju:u=.int .i64 ((zs.take i++z::zs.drop i).getD j 0):=by
      have hjl:=(List.getElem?_eq_some_iff.1 hj).1;rw [List.length_map] at hjl;rw [List.getElem?_map,List.getElem?_eq_getElem hjl] at hj;rw [List.getD_eq_getElem?_getD,List.getElem?_eq_getElem hjl];simpa using hj.symm
     have dl:((zs.map (Value.int .i64)).drop i).length=zs.length - i:=by simp
     subst hw;have o1:OnlyAt w.heap.size (w.alloc (.cells C t3)) ((w.alloc (.cells C t3)).drew):=OnlyAt.drew _ _;have o2:=(o1.trans (OnlyAt.setCells w.heap.size [Value.int .i64 z] i _)).trans (OnlyAt.drew w.heap.size _);rcases ins_get zs z hin hjv with ⟨h1,y,hy,ey⟩ | ⟨rfl,ey⟩ | ⟨h1,y,hy,ey⟩
     ·injection ey with _ ey
      rw [hju,ey];rw [World.cell?_setCells_out _ _ _ _ _ (fun _ _=>by simp only;omega)];show ((w.alloc (.cells C t3)).drew.setCells w.heap.size i [Value.int .i64 z]).cell? _=_;rw [World.cell?_setCells_out _ _ _ _ _ (fun _ _=>by simp only;omega)]
      have:(w.alloc (.cells C t3)).drew.cell? ⟨w.heap.size,j,none⟩=C[j]?:=by
       have e0:(w.alloc (.cells C t3)).drew.heap[w.heap.size]?=some (.cells C t3):=World.alloc_heap_new _ _;simp only [World.cell?,e0,Option.isSome_none,Bool.false_eq_true,if_false]
      rw [this,← hC,Array.append_assoc,Array.getElem?_append_left (by simp;omega),List.getElem?_toArray,List.getElem?_take_of_lt h1,List.getElem?_map,hy];rfl
     ·injection ey with _ ey
      rw [hju,ey];rw [World.cell?_setCells_out _ _ _ _ _ (fun _ _=>by simp only;omega)]
      have:=World.cell?_setCells_in w.heap.size [Value.int .i64 z] j ((w.alloc (.cells C t3)).drew) (fun k hk=>by
       have:k=0:=by simpa using hk
       subst this;exact csome _ o1 _ (by omega)) 0 (by simp)
      show ((w.alloc (.cells C t3)).drew.setCells w.heap.size j [Value.int .i64 z]).cell? _=_;simpa using this
     ·injection ey with _ ey
      rw [hju,ey];have hyl:=(List.getElem?_eq_some_iff.1 hy).1;rw [List.length_drop] at hyl;have:=World.cell?_setCells_in w.heap.size ((zs.map (Value.int .i64)).drop i) (i+1) _ (fun k hk=>csome _ o2 (i+1+k) (by omega)) (j - (i+1)) (by omega);rw [show i+1+(j - (i+1))=j by omega] at this;rw [this,← List.getElem?_eq_getElem,← List.map_drop,List.getElem?_map,hy];rfl
    have p:=Post.newRow (w':=w') h p0 hheap only.tape only.os only.output wsr cell (by rw [wsl,hCs',hCs];exact g1);refine ⟨_,?_,p⟩;rw [hHn];exact .slice (upd_same _ _ _) g1 (fun m hm=>by cases hm) (by rw [hCs',hCs];omega) (.inr rfl) (.inr g2)
   ·have hii:i=zs.length:=by omega
    subst hii
    refine fin ((hG (some ⟨b,base+o,none⟩) zs.length cap b2 (base2+o2) 1 cap2 (zs.map (Value.int .i64)) [.int .i64 z] w (by omega) hnc (by omega) (by omega) hlz rfl (fun hh=>by cases hh) (fun a ha j v hj=>by
     cases ha
     rw [show (⟨b,base+o,none⟩:Addr).add j=⟨b,base+o+j,none⟩ from add_eq _ _ _];exact hcell j v hj) hzv h1v).mono fun e w' ⟨he,hw⟩=>?_)
    subst he;subst hw
    have sz:(((zs.map (Value.int .i64)++[Value.int .i64 z]).toArray++Builtin.zeroCells (Value.int .i64 0).cells (grownCap w (zs.length+1) cap t3 - (zs.length+1))).size)=grownCap w (zs.length+1) cap t3:=by
     simp only [Array.size_append,zeroCells_size,List.size_toArray,List.length_append,List.length_map,List.length_cons,List.length_nil,zc];omega
    have cell2:∀ (j:Nat) (u:Value),((zs.take zs.length++z::zs.drop zs.length).map (Value.int .i64))[j]?=some u→((zs.map (Value.int .i64)++[Value.int .i64 z]).toArray++Builtin.zeroCells (Value.int .i64 0).cells (grownCap w (zs.length+1) cap t3 - (zs.length+1)))[j]?=some u:=by
     intro j u hj;have hjl:=(List.getElem?_eq_some_iff.1 hj).1;rw [wsl] at hjl;rw [Array.getElem?_append_left (by simp;omega),List.getElem?_toArray];simpa using hj
    have p:=Post.newRow (w':=w.drew.alloc (.cells ((zs.map (Value.int .i64)++[Value.int .i64 z]).toArray++Builtin.zeroCells (Value.int .i64 0).cells (grownCap w (zs.length+1) cap t3 - (zs.length+1))) t3)) h p0 rfl rfl rfl rfl wsr cell2 (by rw [wsl,sz];exact g1);refine ⟨_,?_,p⟩;rw [hHn];exact .slice (upd_same _ _ _) g1 (fun m hm=>by cases hm) (by rw [sz];omega) (.inr rfl) (.inr g2)
 ·cases e
end Go.Am
