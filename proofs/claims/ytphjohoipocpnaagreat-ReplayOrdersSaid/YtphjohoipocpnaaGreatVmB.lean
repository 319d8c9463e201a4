import Derived.Test.YtphjohoipocpnaaGreatVmA
set_option linter.unusedVariables false
set_option linter.unusedSimpArgs false
/- What is made, and the other operations, in depth. -/
namespace Go.Am.Vm
open Go.Am
variable {T:Tab} {P P':Nat→Prop} {H H':Heap} {μ μ':List Hd} {ds es cs:List D} {vs ws us:List V} {F G X K F' X':List Nat} {d:D} {v:V} {μ0 μ1 hs gs:List Hd} {obs ots so':List Ob} {ob:Ob}
 {g:Gh} {st:St} {a:A}
theorem Rl.newCell (r:Rl g st a H P μ F []) (h:RL P H μ cs vs []):Rl g ⟨st.tm,st.so++[.cell cs],st.n⟩ a (H.push (.cells false vs)) P (μ++[.cell H.n]) (F++[H.n]) []∧RL P (H.push (.cells false vs)) (μ++[.cell H.n]) [.rptr st.so.length 0] [.ptr H.n 0] []:=by
 obtain ⟨r1,e⟩:=r.push (.cells false vs);have hx:=(Ext.refl r.wf).push (.cells false vs);have gl:=GoesL.app μ [.cell H.n];have o:OL P (H.push (.cells false vs)) (μ++[.cell H.n]) [.cell H.n] [.cell cs] ([H.n]++[]):=.cell e ((h.perm_keep hx).goes gl) .nil;refine ⟨Rl.take (K:=[H.n]) (X:=[]) (by simpa using r1) (by simpa using o),.rptr (h:=.cell H.n) ?_ (fun l e=>by cases e;rfl) .nil⟩;rw [← r.obs.len,List.getElem?_append_right (Nat.le_refl _)];simp
theorem Rl.newSl (r:Rl g st a H P μ F K) {s:Nat} {es:List (List D)} (q:Option Nat) (rest:List V) (h:RL P H [] es.flatten ws K) (el:∀ e,e∈es→e.length=s) (u1:ws.all V.one=true)
  (cq:∀ m,q=some m→es.length≤m∧(m - es.length) * s≤rest.length):∃ μ' F',Rl g ⟨st.tm,st.so++[.sl s es],st.n⟩ a (H.push (.cells false (ws++rest))) P μ' F' [] ∧
   RL P (H.push (.cells false (ws++rest))) μ' [.own st.so.length es.length] [.slice H.n 0 es.length s q] []∧GoesL μ μ':=by
 obtain ⟨r1,e⟩:=r.push (.cells false (ws++rest));have hx:=(Ext.refl r.wf).push (.cells false (ws++rest));have gl:=GoesL.app μ [.sl (.slice H.n 0 es.length s q) es.length s];have o:OL P (H.push (.cells false (ws++rest))) (μ++[.sl (.slice H.n 0 es.length s q) es.length s]) [.sl (.slice H.n 0 es.length s q) es.length s] [.sl s es] (H.n::(K++[])):=.sl (pre:=[]) e (h.perm_keep hx).any el u1 cq .nil;refine ⟨_,_,Rl.take (K:=H.n::K) (X:=[]) (by simpa using r1) (by simpa using o),RL.own1 (h:=.sl (.slice H.n 0 es.length s q) es.length s) ?_ (fun w m z e=>by cases e;exact ⟨Nat.le_refl _,fun _=>rfl⟩),gl⟩;rw [← r.obs.len,List.getElem?_append_right (Nat.le_refl _)];simp
def vMake (T:Tab) (so:List Ob) (t:TypeId) (x y:D):Option (D×List Ob):=
 match x,y with
 | .atom (.int _ n),.atom (.int _ c)=>if mkOk T t=true∧0≤n∧n≤c∧c.toNat * ebytes T t<17592186044416∧c.toNat<17592186044416∧(ezero T t).all V.one=true then
   some (.own so.length n.toNat,so++[.sl (esz T t) (List.replicate n.toNat ((ezero T t).map .atom))]) else none
 | _,_=>none
theorem Rl.makeOk (r:Rl g st a H P μ F []) {t:TypeId} {x y:D} {u w:V} (h:vMake T st.so t x y=some (d,so')) (hx:RL P H μ [x] [u] []) (hy:RL P H μ [y] [w] []) :
  ∃ v H' μ' F',mkS T H t u w=.val v H'∧Rl g ⟨st.tm,so',st.n⟩ a H' P μ' F' []∧RL P H' μ' [d] [v] []:=by
 simp only [vMake] at h;split at h
 ·rename_i kx n ky c;split at h
  ·rename_i hc;obtain ⟨h1,h2,h3,h4,h5,h6⟩:=hc
   cases h
   rw [hx.atomInv.2,hy.atomInv.2];obtain ⟨n,rfl⟩:∃ m:Nat,n=m:=⟨n.toNat,by omega⟩
   obtain ⟨c,rfl⟩:∃ m:Nat,c=m:=⟨c.toNat,by omega⟩
   simp only [Int.toNat_natCast] at h4 h5 ⊢;rw [mkS_eq t h1 kx ky n c (by omega) h4 h5];obtain ⟨e,_,_,_,hz,_⟩:=mkOk_eq h1
   have efl:∀ n,(List.replicate n ((ezero T t).map D.atom)).flatten=((List.replicate n (ezero T t)).flatten).map D.atom:=by
    intro n
    induction n with
    | zero=>rfl
    | succ n ih=>rw [List.replicate_succ,List.replicate_succ,List.flatten_cons,List.flatten_cons,List.map_append,ih]
   have spl:(List.replicate c (ezero T t)).flatten=(List.replicate n (ezero T t)).flatten++(List.replicate (c - n) (ezero T t)).flatten:=by
    rw [← List.flatten_append,List.replicate_append_replicate]
    congr 2;omega
   have hall:∀ n,((List.replicate n (ezero T t)).flatten).all V.one=true:=fun n=>all_flatten fun f hf=>by rw [List.eq_of_mem_replicate hf];exact h6
   have hfl:∀ n,((List.replicate n (ezero T t)).flatten).length=n * esz T t:=by
    intro n;rw [flatten_len (s:=esz T t) (fun e he=>by rw [List.eq_of_mem_replicate he,hz])];simp
   rw [spl]
   obtain ⟨μ',F',r1,r2,_⟩:=Rl.newSl (K:=[]) r (s:=esz T t) (es:=List.replicate n ((ezero T t).map D.atom)) (some c) (List.replicate (c - n) (ezero T t)).flatten
    (by rw [efl];exact RL.atoms _) (fun e he=>by rw [List.eq_of_mem_replicate he,List.length_map,hz]) (hall n) (fun m hm=>by cases hm;rw [List.length_replicate,hfl];exact ⟨by omega,Nat.le_refl _⟩)
   rw [List.length_replicate] at r2;exact ⟨_,_,μ',F',rfl,r1,r2⟩
  ·cases h
 ·cases h
def fillD (so:List Ob) (place:Nat→Option (Nat×Nat)) (cells:List D):List (Nat×D)→Option (List D)
 | []=>some cells
 | (i,d)::rest=>match place i,cellsD so d with
   | some (off,size),some cs=>if cs.length=size∧off+size≤cells.length then fillD so place (overD cells off cs) rest else none
   | _,_=>none
theorem Rl.fillOk (r:Rl g st a H P μ F X) {place:Nat→Option (Nat×Nat)}:∀ {ps:List (Nat×D)} {qs:List (Nat×V)} {cells cells':List D} {vs:List V},fillD st.so place cells ps=some cells'→RP P H μ ps qs→RL P H μ cells vs []→vs.all V.one=true →
  ∃ vs',fill place vs qs=some vs'∧RL P H μ cells' vs' []∧vs'.all V.one=true∧cells'.length=cells.length
 | [],qs,cells,cells',vs,h,hp,hc,hone=>by
   cases h;cases hp;exact ⟨vs,rfl,hc,hone,rfl⟩
 | (i,d)::ps,qs,cells,cells',vs,h,hp,hc,hone=>by
   cases hp with
   | cons hd hp =>
     rename_i v qs;simp only [fillD] at h;split at h
     ·rename_i off size cs hpl hcs;split at h
      ·rename_i hle;obtain ⟨q1,q2⟩:=r.cellsOk hcs hd;have hl:=q1.len;have hcl:=hc.len;obtain ⟨A,B,C,hABC,r2⟩:=hc.over q1 (o:=off) (by omega);have hA:=hABC.symm;rw [List.append_eq_nil_iff,List.append_eq_nil_iff] at hA;rw [hA.1,hA.2.2] at r2;obtain ⟨vs',e1,e2,e3,e4⟩:=r.fillOk h hp r2 (over_all hone q2);refine ⟨vs',?_,e2,e3,by rw [e4,overD_length (by omega)]⟩;have b1:Nat.beq v.cells.length size=true:=by rw [Nat.beq_eq];omega
       have b2:Nat.ble (off+size) vs.length=true:=by rw [Nat.ble_eq];omega
       simp only [fill,hpl,b1,b2,Bool.and_self,cond_true];exact e1
      ·cases h
     ·cases h
def arrOf (T:Tab) (t:TypeId):Option (Nat×TypeId×Nat):=
 match T.und t with
 | some (.array n e)=>(T.size e).map fun q=>(n,e,q.1)
 | _=>none
theorem arrOf_eq {t e:TypeId} {n s:Nat} (h:arrOf T t=some (n,e,s)):T.und t=some (.array n e)∧∃ b,T.size e=some (s,b):=by
 unfold arrOf at h;split at h
 ·rename_i n' e' hu;simp only [Option.map_eq_some_iff] at h;obtain ⟨⟨s',b⟩,h1,h2⟩:=h;simp only [Prod.mk.injEq] at h2;obtain ⟨rfl,rfl,rfl⟩:=h2;exact ⟨hu,b,h1⟩
 ·cases h
theorem idxP_array {t e:TypeId} {n s l o j:Nat} {k:IntKind} (ht:arrOf T t=some (n,e,s)) (hj:j<n):idxP T t (.ptr l o) (.int k (j:Int))=some (.ptr l (o+j * s)):=by
 obtain ⟨h1,b,h2⟩:=arrOf_eq ht;have h6:natOf (.int k (j:Int))=some j:=rfl;have h7:Nat.blt j n=true:=by rw [Nat.blt_eq];exact hj
 simp only [idxP,h1,h6,h2,h7,cond_true]
def isArr (T:Tab) (t:TypeId):Bool:=(arrOf T t).isSome
def buildAr (so:List Ob) (ps:List (Nat×D)):Option (Nat×TypeId×Nat)→Option (List V)→Option D
 | some (_,_,s),some z=>if z.all V.one=true then (fillD so (fun i=>some (i * s,s)) (z.map .atom) ps).map .agg else none
 | _,_=>none
def vBuild (T:Tab) (so:List Ob) (t:TypeId) (ps:List (Nat×D)):Option D:=
 if isStruct T t=true then match T.zero t with
  | some z=>if z.all V.one=true then (fillD so (fldSz T t) (z.map .atom) ps).map .agg else none
  | none=>none
 else buildAr so ps (arrOf T t) (T.zero t)
theorem Rl.buildOk (r:Rl g st a H P μ F X) {t:TypeId} {ps:List (Nat×D)} {qs:List (Nat×V)} (h:vBuild T st.so t ps=some d) (hp:RP P H μ ps qs):∃ v,buildV T t qs=some v∧RL P H μ [d] [v] []:=by
 simp only [vBuild] at h;split at h
 ·rename_i hs;split at h
  ·rename_i z hz;split at h
   ·rename_i h1;simp only [Option.map_eq_some_iff] at h;obtain ⟨cells,h2,rfl⟩:=h;obtain ⟨vs',e1,e2,_,_⟩:=r.fillOk h2 hp (RL.atoms z) h1;exact ⟨_,by rw [buildV_struct t hs,hz,Option.bind_some,e1,Option.map_some],e2.agg1⟩
   ·cases h
  ·cases h
 ·cases ha:arrOf T t with
  | none=>rw [ha] at h;simp only [buildAr] at h;cases h
  | some q =>
    obtain ⟨n,e,s⟩:=q
    cases hz:T.zero t with
    | none=>rw [ha,hz] at h;simp only [buildAr] at h;cases h
    | some z =>
      rw [ha,hz] at h;simp only [buildAr] at h;split at h
      ·rename_i h1;simp only [Option.map_eq_some_iff] at h;obtain ⟨cells,h2,rfl⟩:=h;obtain ⟨vs',e1,e2,_,_⟩:=r.fillOk h2 hp (RL.atoms z) h1;obtain ⟨hu,b,hsz⟩:=arrOf_eq ha;exact ⟨_,by unfold buildV;simp only [hz,hu,hsz];rw [e1,Option.map_some],e2.agg1⟩
      ·cases h
def rowsOf (s n:Nat) (cells:List D):List (List D):=(List.range n).map fun i=>(cells.drop (i * s)).take s
theorem rowsOf_flatten {s:Nat}:∀ {n:Nat} {cells:List D},cells.length=n * s→(rowsOf s n cells).flatten=cells
 | 0,cells,h=>by simp at h;simp [rowsOf,h]
 | n+1,cells,h=>by
   have e:(n+1) * s=s+n * s:=by rw [Nat.add_mul];omega
   have ih:=rowsOf_flatten (s:=s) (n:=n) (cells:=cells.drop s) (by rw [List.length_drop];omega)
   have e2:rowsOf s (n+1) cells=cells.take s::rowsOf s n (cells.drop s):=by
    simp only [rowsOf,List.range_succ_eq_map,List.map_cons,List.map_map,Nat.zero_mul,List.drop_zero,List.drop_drop]
    congr 1
    apply List.map_congr_left;intro i _;simp only [Function.comp]
    congr 2;rw [Nat.succ_eq_add_one,Nat.add_mul];omega
   rw [e2,List.flatten_cons,ih,List.take_append_drop]
theorem rowsOf_len {s n:Nat} {cells:List D} (h:cells.length=n * s):∀ e,e∈rowsOf s n cells→e.length=s:=by
 intro e he;simp only [rowsOf,List.mem_map,List.mem_range] at he;obtain ⟨i,hi,rfl⟩:=he;have h1:(i+1) * s≤n * s:=Nat.mul_le_mul_right s hi;have h2:(i+1) * s=i * s+s:=by rw [Nat.add_mul];omega
 rw [List.length_take,List.length_drop];omega
def vLit (T:Tab) (so:List Ob) (t:TypeId) (n:Nat) (ps:List (Nat×D)):Option (D×List Ob):=
 if mkOk T t=true∧(ezero T t).all V.one=true∧n * esz T t≤16777216 then (match n,ps with
  | 1,[(0,d)]=>match cellsD so d with
    | some cs=>match outs so cs with
      | some (cs',so')=>if cs.length=esz T t then some (.own so'.length 1,so'++[.sl (esz T t) [cs']]) else none
      | none=>none
    | none=>none
  | n,ps=>match fillD so (fun i=>some (i * esz T t,esz T t)) ((List.replicate n ((ezero T t).map .atom)).flatten) ps with
    | some cells=>if nlL cells=true then some (.own so.length n,so++[.sl (esz T t) (rowsOf (esz T t) n cells)]) else (match outs so cells with
      | some (cs',so')=>some (.own so'.length n,so'++[.sl (esz T t) (rowsOf (esz T t) n cs')])
      | none=>none)
    | none=>none) else none
theorem Rl.litOk (r:Rl g st a H P μ F []) {t:TypeId} {n:Nat} {ps:List (Nat×D)} {xs:List (Nat×Operand)} {qs:List (Nat×V)} (h:vLit T st.so t n ps=some (d,so')) (he:evalParts a xs=some qs) (hp:RP P H μ ps qs) :
  ∃ v H' μ' F',execOp T a H (.buildSlice t n xs.toArray)=.val v H'∧Rl g ⟨st.tm,so',st.n⟩ a H' P μ' F' []∧RL P H' μ' [d] [v] []:=by
 simp only [vLit] at h;split at h
 ·rename_i hc;obtain ⟨h1,h2,h3⟩:=hc;obtain ⟨e,u1,u2,u3,hz,h5,h6⟩:=mkOk_eq h1;have hb:Nat.beq (ezero T t).length (esz T t)=true:=by rw [Nat.beq_eq];exact hz
  have hle:Nat.ble (n * esz T t) 16777216=true:=by rw [Nat.ble_eq];exact h3
  have ex:execOp T a H (.buildSlice t n xs.toArray)=match fill (fun i=>some (i * esz T t,esz T t)) (zeros (ezero T t) n) qs with
    | some cs=>OR.val (.slice H.n 0 n (esz T t) (some n)) (H.push (.cells false cs))
    | none=>.stuck:=by
   simp only [execOp,u1,u2,u3,he,hb,hle,Bool.and_self,cond_true]
   rfl
  rw [ex]
  have efl:∀ n,(List.replicate n ((ezero T t).map D.atom)).flatten=(zeros (ezero T t) n).map D.atom:=by
   intro n;rw [zeros_eq]
   induction n with
   | zero=>rfl
   | succ n ih=>rw [List.replicate_succ,List.replicate_succ,List.flatten_cons,List.flatten_cons,List.map_append,ih]
  have hall:∀ n,(zeros (ezero T t) n).all V.one=true:=fun n=>by rw [zeros_eq];exact all_flatten fun f hf=>by rw [List.eq_of_mem_replicate hf];exact h2
  have hfl:∀ n,(zeros (ezero T t) n).length=n * esz T t:=by
   intro n;rw [zeros_eq,flatten_len (s:=esz T t) (fun e he=>by rw [List.eq_of_mem_replicate he,hz])];simp
  split at h
  ·rename_i d1;split at h
   ·rename_i cs hcs;split at h
    ·rename_i cs' so1 ho;split at h
     ·rename_i hlen
      cases h
      cases hp with
      | cons hd hp =>
        rename_i v qs
        cases hp
        obtain ⟨q1,q2⟩:=r.cellsOk hcs hd;have hl:=q1.len;have hzl:=hfl 1;rw [Nat.one_mul] at hzl
        have e1:fill (fun i=>some (i * esz T t,esz T t)) (zeros (ezero T t) 1) [(0,v)]=some v.cells:=by
         have b1:Nat.beq v.cells.length (esz T t)=true:=by rw [Nat.beq_eq];omega
         have b2:Nat.ble (0+esz T t) (zeros (ezero T t) 1).length=true:=by rw [Nat.ble_eq,hzl];omega
         simp only [fill,b1,Nat.zero_mul];rw [over_zero_len _ _ (by omega),b2]
         rfl
        rw [e1];obtain ⟨μ1,F1,K,r1,q3,g1⟩:=r.outsOk ho q1;rw [List.append_nil] at r1;obtain ⟨μ',F',r2,q4,g2⟩:=Rl.newSl (st:=⟨st.tm,so1,st.n⟩) r1 (s:=esz T t) (es:=[cs']) (some 1) [] (by simpa using q3) (fun e he=>by rw [List.mem_singleton.1 he,outs_length ho];exact hlen) q2 (fun m hm=>by cases hm;simp);rw [List.append_nil] at r2 q4;exact ⟨_,_,μ',F',rfl,r2,q4⟩
     ·cases h
    ·cases h
   ·cases h
  ·split at h
   ·rename_i cells hf;split at h
    ·rename_i hnl
     cases h
     rw [efl] at hf;obtain ⟨vs',e1,e2,e3,e4⟩:=r.fillOk hf hp (RL.atoms _) (hall n);rw [List.length_map,hfl] at e4;rw [e1];obtain ⟨μ',F',r2,q4,g2⟩:=Rl.newSl (K:=[]) r (s:=esz T t) (es:=rowsOf (esz T t) n cells) (some n) [] (by rw [rowsOf_flatten e4];exact e2.nl hnl) (rowsOf_len e4) e3 (fun m hm=>by cases hm;simp [rowsOf]);rw [List.append_nil] at r2 q4;have hn:(rowsOf (esz T t) n cells).length=n:=by simp [rowsOf]
     rw [hn] at q4;exact ⟨_,_,μ',F',rfl,r2,q4⟩
    ·split at h
     ·rename_i cs' so1 ho
      cases h
      rw [efl] at hf;obtain ⟨vs',e1,e2,e3,e4⟩:=r.fillOk hf hp (RL.atoms _) (hall n);rw [List.length_map,hfl,← outs_length ho] at e4;rw [e1];obtain ⟨μ1,F1,K,r1,q3,g1⟩:=r.outsOk ho e2;rw [List.append_nil] at r1;obtain ⟨μ',F',r2,q4,g2⟩:=Rl.newSl (st:=⟨st.tm,so1,st.n⟩) r1 (s:=esz T t) (es:=rowsOf (esz T t) n cs') (some n) [] (by rw [rowsOf_flatten e4];exact q3) (rowsOf_len e4) e3 (fun m hm=>by cases hm;simp [rowsOf]);rw [List.append_nil] at r2 q4;have hn:(rowsOf (esz T t) n cs').length=n:=by simp [rowsOf]
      rw [hn] at q4;exact ⟨_,_,μ',F',rfl,r2,q4⟩
     ·cases h
   ·cases h
 ·cases h
/-! ### Places -/
def vIdx (T:Tab) (so:List Ob) (t:TypeId) (x i:D):Option D:=
 match i with
 | .atom (.int _ n)=>if 0≤n then (match x with
   | .imm s es=>if elemSize T t=some s then (match es[n.toNat]? with
     | some e=>some (.iptr e 0)
     | none=>none) else none
   | .own k m=>match so[k]? with
     | some (.sl s es)=>if elemSize T t=some s∧es.length=m∧n.toNat<m then some (.optr k m n.toNat 0) else none
     | _=>none
   | .rptr k c=>match arrOf T t,so[k]? with
     | some (m,_,s),some (.cell _)=>if n.toNat<m then some (.rptr k (c+n.toNat * s)) else none
     | _,_=>none
   | .iptr cs o=>match arrOf T t with
     | some (m,_,s)=>if n.toNat<m then some (.iptr cs (o+n.toNat * s)) else none
     | none=>none
   | _=>none) else none
 | _=>none
theorem idxP_slice {t:TypeId} {s l o n j:Nat} {q:Option Nat} {k:IntKind} (ht:elemSize T t=some s) (hj:j<n):idxP T t (.slice l o n s q) (.int k (j:Int))=some (.ptr l (o+j * s)):=by
 simp only [elemSize] at ht;split at ht
 ·rename_i e he;simp only [Option.map_eq_some_iff] at ht;obtain ⟨⟨sz,b⟩,h4,h5⟩:=ht;simp only at h5;subst h5;have h6:natOf (.int k (j:Int))=some j:=rfl;have h7:Nat.blt j n=true:=by rw [Nat.blt_eq];exact hj
  simp only [idxP,he,h6,h4,h7,Nat.beq_refl,Bool.and_self,cond_true]
 ·cases ht
theorem Rl.idxOk (r:Rl g st a H P μ F X) {t:TypeId} {x i:D} {u w:V} (h:vIdx T st.so t x i=some d) (hx:RL P H μ [x] [u] []) (hi:RL P H μ [i] [w] []):∃ v,idxP T t u w=some v∧RL P H μ [d] [v] []:=by
 simp only [vIdx] at h;split at h
 ·rename_i kk n;rw [hi.atomInv.2];split at h
  ·rename_i h0;obtain ⟨j,rfl⟩:∃ m:Nat,n=m:=⟨n.toNat,by omega⟩
   simp only [Int.toNat_natCast] at h;split at h
   ·rename_i s es;split at h
    ·rename_i hs;split at h
     ·rename_i e he
      cases h
      have hlt:=get_lt he;rcases hx.immInv with ⟨_,⟨rfl,rfl⟩ | ⟨l,o,q,ro,cs,wz,rfl,p,g',tk,r',el,u1,c⟩⟩
      ·simp at he
      ·refine ⟨_,idxP_slice hs hlt,?_⟩;obtain ⟨q1,q2,q3⟩:=RL.row (n:=0) r' el he;have:=RL.iptr (μ:=μ) (o:=0) p g' (take?_row tk hlt |> fun t=>by rw [q2];exact t) q1.any .nil;exact this
     ·cases h
    ·cases h
   ·rename_i k m;split at h
    ·rename_i s es hk;split at h
     ·rename_i hc;obtain ⟨hs,hm,hj⟩:=hc
      cases h
      obtain ⟨y,G1,Gk,G2,hy,rfl,o1,_⟩:=r.obs.at hk;obtain ⟨_,y',hy',hc⟩:=hx.ownInv;rw [hy] at hy';cases hy';subst hm;rcases o1.slInv with ⟨rfl,rfl,rfl⟩ | ⟨l,q,pre,wz,rest,F',rfl,rfl,g',r',el,u1,cq⟩
      ·simp at hj
      ·rw [(hc _ _ _ rfl).2 rfl];refine ⟨_,idxP_slice hs hj,.optr hy (fun w m z e=>?_) .nil⟩
       cases e
       exact ⟨Nat.le_refl _,fun _=>⟨l,_,q,rfl,by simp⟩⟩
     ·cases h
    ·cases h
   ·rename_i k c;split at h
    ·rename_i m e s cs ha hk;split at h
     ·rename_i hj
      cases h
      obtain ⟨y,G1,Gk,G2,hy,rfl,o1,_⟩:=r.obs.at hk;obtain ⟨_,y',hy',hc⟩:=hx.rptrInv;rw [hy] at hy';cases hy';obtain ⟨l,ws,rfl,rfl,g',r'⟩:=o1.cellInv;rw [hc l rfl];exact ⟨_,idxP_array ha hj,.rptr hy (fun l' e=>by cases e;rfl) .nil⟩
     ·cases h
    ·cases h
   ·rename_i cs o;split at h
    ·rename_i m e s ha;split at h
     ·rename_i hj
      cases h
      obtain ⟨_,l,b,ro,us,wz,rfl,p,g',tk,r'⟩:=hx.iptrInv;refine ⟨_,idxP_array ha hj,?_⟩;have:=RL.iptr (μ:=μ) (o:=o+j * s) p g' tk r' .nil;rw [← Nat.add_assoc] at this;exact this
     ·cases h
    ·cases h
   ·cases h
  ·cases h
 ·cases h
def vFld (T:Tab) (t:TypeId) (i:Nat) (x:D):Option D:=
 match fldAt T t i with
 | some c=>match x with
   | .iptr cs o=>some (.iptr cs (o+c))
   | .optr k n j o=>some (.optr k n j (o+c))
   | .rptr k o=>some (.rptr k (o+c))
   | _=>none
 | none=>none
def live (so:List Ob):D→Bool
 | .iptr _ _=>true
 | .optr k n _ _=>aliveS so k n
 | .rptr k _=>aliveC so k
 | _=>false
theorem Rl.liveOk (r:Rl g st a H P μ F X) (h:live st.so d=true) (hv:RL P H μ [d] [v] []):∃ l o,v=.ptr l o:=by
 cases d with
 | iptr cs o=>obtain ⟨_,l,b,_,_,_,rfl,_⟩:=hv.iptrInv;exact ⟨_,_,rfl⟩
 | optr k n j c =>
   simp only [live,aliveS] at h;split at h
   ·rename_i s es hk;obtain ⟨x,F1,Fk,F2,hx,rfl,o1,_⟩:=r.obs.at hk;obtain ⟨_,y,hy,hc⟩:=hv.optrInv;rw [hx] at hy;cases hy;rw [Nat.beq_eq] at h;rcases o1.slInv with ⟨rfl,rfl,rfl⟩ | ⟨l,q,pre,ws,rest,F',rfl,rfl,g',r',e,u1,c⟩
    ·obtain ⟨l,o,q,e1,e2⟩:=(hc _ _ _ rfl).2 h.symm;exact ⟨_,_,e2⟩
    ·obtain ⟨l,o,q,e1,e2⟩:=(hc _ _ _ rfl).2 h.symm;exact ⟨_,_,e2⟩
   ·cases h
 | rptr k c =>
   simp only [live,aliveC] at h;split at h
   ·rename_i cs hk;obtain ⟨x,F1,Fk,F2,hx,rfl,o1,_⟩:=r.obs.at hk;obtain ⟨_,y,hy,hc⟩:=hv.rptrInv;rw [hx] at hy;cases hy;obtain ⟨l,ws,rfl,rfl,g',r'⟩:=o1.cellInv;exact ⟨_,_,hc _ rfl⟩
   ·cases h
 | _=>cases h
theorem Rl.fldOk (r:Rl g st a H P μ F X) {t:TypeId} {i:Nat} {x:D} {u:V} (hl:live st.so x=true) (h:vFld T t i x=some d) (hx:RL P H μ [x] [u] []):∃ c,isPtr u=true∧fldAt T t i=some c∧RL P H μ [d] [ptrOff u c] []:=by
 simp only [vFld] at h;split at h
 ·rename_i c hc;obtain ⟨l,o,rfl⟩:=r.liveOk hl hx;refine ⟨c,rfl,hc,?_⟩;split at h
  ·cases h
   cases hx with
   | iptr p g' t' r' h0 =>
     cases h0
     simp only [ptrOff,Nat.add_assoc];exact .iptr p g' t' r' .nil
  ·cases h
   obtain ⟨_,y,hy,hcc⟩:=hx.optrInv;refine .optr hy (fun w m z e=>?_) .nil;obtain ⟨h1,h2⟩:=hcc w m z e;refine ⟨h1,fun e=>?_⟩;obtain ⟨l',o',q,e1,e2⟩:=h2 e;rw [e2];exact ⟨l',o',q,e1,by simp only [ptrOff,Nat.add_assoc]⟩
  ·cases h
   obtain ⟨_,y,hy,hcc⟩:=hx.rptrInv;refine .rptr hy (fun l' e=>?_) .nil;have:=hcc l' e
   cases this
   rfl
  ·cases h
 ·cases h
/-! ### Lengths -/
def vLen (so:List Ob):D→Option Nat
 | .imm _ es=>some es.length
 | .own k n=>if aliveS so k n then some n else none
 | .atom .nilSlice=>some 0
 | _=>none
theorem Rl.lenOk (r:Rl g st a H P μ F X) {n:Nat} (h:vLen st.so d=some n) (hv:RL P H μ [d] [v] []):lenS v=some n:=by
 cases d with
 | imm s es=>cases h;rcases hv.immInv with ⟨_,⟨rfl,rfl⟩ | ⟨_,_,_,_,_,_,rfl,_⟩⟩ <;> rfl
 | own k m =>
   simp only [vLen] at h;split at h
   ·rename_i ha
    cases h
    simp only [aliveS] at ha;split at ha
    ·rename_i s es hk;obtain ⟨x,F1,Fk,F2,hx,rfl,o1,_⟩:=r.obs.at hk;obtain ⟨_,y,hy,hc⟩:=hv.ownInv;rw [hx] at hy;cases hy;rw [Nat.beq_eq] at ha;rcases o1.slInv with ⟨rfl,rfl,rfl⟩ | ⟨l,q,pre,ws,rest,F',rfl,rfl,g',r',e,u1,c⟩
     ·rw [(hc _ _ _ rfl).2 ha.symm,← ha];rfl
     ·rw [(hc _ _ _ rfl).2 ha.symm,← ha];rfl
    ·cases ha
   ·cases h
 | atom w =>
   cases w with
   | nilSlice=>cases h;rw [hv.atomInv.2];rfl
   | _=>cases h
 | _=>cases h
/-! ### A slice's beginning, or a part of one that stays -/
def natI:D→Option Nat
 | .atom (.int _ n)=>if 0≤n then some n.toNat else none
 | _=>none
def optD (x:Option D) (d:Nat):Option Nat:=
 match x with
 | none=>some d
 | some x=>natI x
theorem natI_ok {n:Nat} (h:natI d=some n) (hv:RL P H μ [d] [v] []):natOf v=some n:=by
 cases d with
 | atom w =>
   cases w with
   | int k m =>
     simp only [natI] at h;split at h
     ·cases h
      rw [hv.atomInv.2];obtain ⟨j,rfl⟩:∃ j:Nat,m=j:=⟨m.toNat,by omega⟩
      rfl
     ·cases h
   | _=>cases h
 | _=>cases h
end Go.Am.Vm

namespace Go.Am.Vm
open Go.Am
variable {T:Tab} {P P':Nat→Prop} {H H':Heap} {μ μ':List Hd} {ds es cs:List D} {vs ws us:List V} {F G X K F' X':List Nat} {d:D} {v:V} {μ0 μ1 hs gs:List Hd} {obs ots so':List Ob} {ob:Ob}
 {g:Gh} {st:St} {a:A}
def atomsOf:List D→Option (List V)
 | []=>some []
 | .atom v::ds=>(atomsOf ds).map (v::·)
 | _=>none
theorem atomsOf_ok:∀ {ds:List D} {us vs:List V} {F:List Nat},atomsOf ds=some us→RL P H μ ds vs F→vs=us
 | [],us,vs,F,h,r=>by cases h;exact r.nil_inv.1
 | d::ds,us,vs,F,h,r=>by
   cases d with
   | atom v =>
     simp only [atomsOf,Option.map_eq_some_iff] at h;obtain ⟨us',h1,rfl⟩:=h;obtain ⟨v',vs',F1,F2,rfl,rfl,r1,r2⟩:=r.uncons;have:=atomsOf_ok h1 r2;rw [r1.atomInv.2,this]
   | _=>cases h
def isPtrT (T:Tab) (t:TypeId):Bool:=
 match T.und t with
 | some (.pointer _)=>true
 | _=>false
def isFuncT (T:Tab) (t:TypeId):Bool:=
 match T.und t with
 | some (.func _ _ _)=>true
 | _=>false
def notNil (T:Tab) (so:List Ob) (t:TypeId) (x y:D):Bool:=
 match y with
 | .atom .nilPtr=>isPtrT T t && live so x
 | .atom .nilFunc=>isFuncT T t && (match x with
   | .fn _ _ _=>true
   | .atom (.func _ _ _)=>true
   | _=>false)
 | .atom .nilIface=>(isIface T t == some true) && (match x with
   | .iface _ _=>true
   | _=>false)
 | _=>false
def vBin (T:Tab) (so:List Ob) (op:BinOp) (t:TypeId) (k:Bool) (x y:D):Option D:=
 match x,y with
 | .atom u,.atom w=>(binOp T op t k u w).map .atom
 | .agg us,.agg ws=>match atomsOf us,atomsOf ws with
   | some us,some ws=>(binOp T op t k (.agg us) (.agg ws)).map .atom
   | _,_=>none
 | x,y=>if notNil T so t x y=true then (match op with
   | .eql=>some (.atom (.bool false))
   | .neq=>some (.atom (.bool true))
   | _=>none) else none
theorem notNil_eq (r:Rl g st a H P μ F X) {t:TypeId} {k:Bool} {x y:D} {u w:V} (h:notNil T st.so t x y=true) (hx:RL P H μ [x] [u] []) (hy:RL P H μ [y] [w] []):equal T t k u w=some false∧(∀ j n,w≠.int j n)∧(∀ s,w≠.str s):=by
 simp only [notNil] at h;split at h
 ·rw [hy.atomInv.2];simp only [Bool.and_eq_true,isPtrT] at h;obtain ⟨h1,h2⟩:=h;split at h1
  ·rename_i e he;obtain ⟨l,o,rfl⟩:=r.liveOk h2 hx;exact ⟨by simp only [equal,he],fun _ _=>by simp,fun _=>by simp⟩
  ·cases h1
 ·rw [hy.atomInv.2];simp only [Bool.and_eq_true,isFuncT] at h;obtain ⟨h1,h2⟩:=h;split at h1
  ·rename_i e1 e2 e3 he;split at h2
   ·obtain ⟨_,_,_,_,rfl,_⟩:=hx.fnInv;exact ⟨by simp only [equal,he],fun _ _=>by simp,fun _=>by simp⟩
   ·rw [hx.atomInv.2];exact ⟨by simp only [equal,he],fun _ _=>by simp,fun _=>by simp⟩
   ·cases h2
  ·cases h1
 ·rw [hy.atomInv.2];simp only [Bool.and_eq_true,isIface,beq_iff_eq] at h;obtain ⟨h1,h2⟩:=h;split at h1
  ·rename_i e he;split at h2
   ·obtain ⟨w',rfl,_⟩:=hx.ifaceInv;exact ⟨by simp only [equal,he],fun _ _=>by simp,fun _=>by simp⟩
   ·cases h2
  ·cases h1
  ·cases h1
 ·cases h
theorem binOp_nil {op:BinOp} {t:TypeId} {k:Bool} {u w:V} {b:Bool} (h:equal T t k u w=some b) (h1:∀ j n,w≠.int j n) (h2:∀ s,w≠.str s):binOp T .eql t k u w=some (.bool b)∧binOp T .neq t k u w=some (.bool !b):=by
 constructor
 ·unfold binOp;split
  ·exact absurd rfl (h1 _ _)
  ·exact absurd rfl (h2 _)
  ·simp [h]
 ·unfold binOp;split
  ·exact absurd rfl (h1 _ _)
  ·exact absurd rfl (h2 _)
  ·simp [h]
theorem Rl.binOk (r:Rl g st a H P μ F X) {op:BinOp} {t:TypeId} {k:Bool} {x y:D} {u w:V} (h:vBin T st.so op t k x y=some d) (hx:RL P H μ [x] [u] []) (hy:RL P H μ [y] [w] []):∃ v,binOp T op t k u w=some v∧RL P H μ [d] [v] []:=by
 unfold vBin at h;split at h
 ·rw [hx.atomInv.2,hy.atomInv.2];simp only [Option.map_eq_some_iff] at h;obtain ⟨v,h1,rfl⟩:=h;exact ⟨v,h1,.atom .nil⟩
 ·split at h
  ·rename_i e1 e2;obtain ⟨us',rfl,r1⟩:=hx.aggInv;obtain ⟨ws',rfl,r2⟩:=hy.aggInv;rw [atomsOf_ok e1 r1,atomsOf_ok e2 r2];simp only [Option.map_eq_some_iff] at h;obtain ⟨v,h1,rfl⟩:=h;exact ⟨v,h1,.atom .nil⟩
  ·cases h
 ·split at h
  ·rename_i hn;obtain ⟨e1,e2,e3⟩:=notNil_eq r (k:=k) hn hx hy;obtain ⟨b1,b2⟩:=binOp_nil (op:=op) e1 e2 e3;split at h
   ·cases h;exact ⟨_,b1,.atom .nil⟩
   ·cases h;exact ⟨_,b2,.atom .nil⟩
   ·cases h
  ·cases h
/-! ### Conversions -/
inductive Cv where
 | int (k:IntKind)
 | str
 | bytes
 | text
def cvOf (T:Tab) (s d:TypeId):Option Cv:=
 match T.und s,T.und d with
 | some us,some ud=>match us,ud with
   | .slice e,.string=>match T.und e with
     | some (.int .u8)=>some .text
     | _=>none
   | .string,.slice e=>match T.und e with
     | some (.int .u8)=>some .bytes
     | _=>none
   | .int _,.int k=>some (.int k)
   | .string,.string=>some .str
   | _,_=>none
 | _,_=>none
def byteD (b:UInt8):List D:=[.atom (.int .u8 b.toNat)]
def bytesD:List (List D)→Option (List UInt8)
 | []=>some []
 | [.atom (.int .u8 n)]::es=>(bytesD es).map (UInt8.ofNat n.toNat::·)
 | _=>none
theorem bytesD_map:∀ bs:List UInt8,bytesD (bs.map byteD)=some bs
 | []=>rfl
 | b::bs=>by simp [byteD,bytesD,bytesD_map bs]
theorem bytesD_ok:∀ {es:List (List D)} {bs:List UInt8} {vs:List V} {F:List Nat},bytesD es=some bs→RL P H μ es.flatten vs F→bytesOf vs=some bs
 | [],bs,vs,F,h,r=>by cases h;rw [r.nil_inv.1];rfl
 | e::es,bs,vs,F,h,r=>by
   unfold bytesD at h;split at h
   ·rename_i h0;cases h0
   ·rename_i n es' h0
    cases h0
    simp only [Option.map_eq_some_iff] at h;obtain ⟨bs',h1,rfl⟩:=h;simp only [List.flatten_cons,List.cons_append,List.nil_append] at r;obtain ⟨v',vs',F1,F2,rfl,rfl,r1,r2⟩:=r.uncons;rw [r1.atomInv.2];have:=bytesD_ok h1 r2;simp only [bytesOf,this,Option.map_some]
   ·cases h
def vConv (T:Tab) (so:List Ob) (s t:TypeId) (x:D):Option (D×List Ob):=
 match cvOf T s t with
 | some (.int k)=>match x with
   | .atom (.int _ n)=>some (.atom (.int k (k.wrap n)),so)
   | _=>none
 | some .str=>match x with
   | .atom (.str b)=>some (.atom (.str b),so)
   | _=>none
 | some .bytes=>match x with
   | .atom (.str b)=>if bytesOk=true∧b.length<17592186044416 then some (.own so.length b.length,so++[.sl 1 (b.map byteD)]) else none
   | _=>none
 | some .text=>match x with
   | .imm 1 es=>(bytesD es).map fun b=>(.atom (.str b),so)
   | .own k n=>match so[k]? with
     | some (.sl 1 es)=>if es.length=n then (bytesD es).map fun b=>(.atom (.str b),so) else none
     | _=>none
   | .atom .nilSlice=>some (.atom (.str []),so)
   | _=>none
 | none=>none
theorem Rl.convOk (r:Rl g st a H P μ F []) {s t:TypeId} {x:D} {u:V} (h:vConv T st.so s t x=some (d,so')) (hx:RL P H μ [x] [u] []) :
  ∃ v H' μ' F',convert T H s t u=some (v,H')∧Rl g ⟨st.tm,so',st.n⟩ a H' P μ' F' []∧RL P H' μ' [d] [v] []:=by
 simp only [vConv,cvOf] at h;split at h
 all_goals rename_i hcv
 ·split at hcv
  ·rename_i us ud h1 h2;split at hcv
   ·split at hcv <;> cases hcv
   ·split at hcv <;> cases hcv
   ·cases hcv
    split at h
    ·cases h
     rw [hx.atomInv.2];exact ⟨_,H,μ,F,by simp only [convert,h1,h2],r,.atom .nil⟩
    ·cases h
   ·cases hcv
   ·cases hcv
  ·cases hcv
 ·split at hcv
  ·rename_i us ud h1 h2;split at hcv
   ·split at hcv <;> cases hcv
   ·split at hcv <;> cases hcv
   ·cases hcv
   ·split at h
    ·cases h
     rw [hx.atomInv.2];exact ⟨_,H,μ,F,by simp only [convert,h1,h2],r,.atom .nil⟩
    ·cases h
   ·cases hcv
  ·cases hcv
 ·split at hcv
  ·rename_i us ud h1 h2;split at hcv
   ·split at hcv <;> cases hcv
   ·rename_i e;split at hcv
    ·rename_i h3;split at h
     ·rename_i b;split at h
      case isFalse=>cases h
      rename_i hbl
      cases h
      rw [hx.atomInv.2]
      have efl:∀ b:List UInt8,(b.map byteD).flatten=(b.map fun c=>V.int .u8 (c.toNat:Int)).map D.atom:=by
       intro b
       induction b with
       | nil=>rfl
       | cons c b ih=>simp only [List.map_cons,List.flatten_cons,ih];rfl
      have hone:(b.map fun c=>V.int .u8 (c.toNat:Int)).all V.one=true:=by
       rw [List.all_eq_true];intro x hx;simp only [List.mem_map] at hx;obtain ⟨c,_,rfl⟩:=hx
       rfl
      obtain ⟨μ',F',r2,q4,g2⟩:=Rl.newSl (K:=[]) r (s:=1) (es:=b.map byteD) none [] (by rw [efl];exact RL.atoms _) (fun e he=>by
       simp only [List.mem_map] at he;obtain ⟨c,_,rfl⟩:=he
       rfl) hone (fun m hm=>by cases hm)
      rw [List.append_nil] at r2 q4;rw [List.length_map] at q4;refine ⟨_,_,μ',F',?_,r2,q4⟩;have hbl2:(bytesOk && Nat.blt b.length 17592186044416)=true:=by rw [Bool.and_eq_true,Nat.blt_eq];exact hbl
      simp only [convert,h1,h2,h3,hbl2,cond_true]
     ·cases h
    ·cases hcv
   ·cases hcv
   ·cases hcv
   ·cases hcv
  ·cases hcv
 ·split at hcv
  ·rename_i us ud h1 h2;split at hcv
   ·rename_i e;split at hcv
    ·rename_i h3;split at h
     ·rename_i es;simp only [Option.map_eq_some_iff] at h;obtain ⟨b,hb,h⟩:=h
      cases h
      rcases hx.immInv with ⟨_,⟨rfl,rfl⟩ | ⟨l,o,q,ro,cs,wz,rfl,p,g',tk,r',el,u1,c⟩⟩
      ·cases hb
       exact ⟨_,H,μ,F,by simp only [convert,h1,h2,h3],r,.atom .nil⟩
      ·rw [Nat.mul_one] at tk;exact ⟨_,H,μ,F,by simp only [convert,h1,h2,h3,cellsAt_of_get g',tk,bytesD_ok hb r',Option.map_some],r,.atom .nil⟩
     ·rename_i k n;split at h
      ·rename_i es hk;split at h
       ·rename_i hn;simp only [Option.map_eq_some_iff] at h;obtain ⟨b,hb,h⟩:=h
        cases h
        obtain ⟨y,G1,Gk,G2,hy,rfl,o1,_⟩:=r.obs.at hk;obtain ⟨_,y',hy',hc⟩:=hx.ownInv;rw [hy] at hy';cases hy';subst hn;rcases o1.slInv with ⟨rfl,rfl,rfl⟩ | ⟨l,q,pre,wz,rest,F',rfl,rfl,g',r',el,u1,cq⟩
        ·rw [(hc _ _ _ rfl).2 rfl]
         cases hb
         exact ⟨_,H,μ,_,by simp only [convert,h1,h2,h3],r,.atom .nil⟩
        ·rw [(hc _ _ _ rfl).2 rfl];have hl:=r'.len;rw [dflatten_len el,Nat.mul_one] at hl;exact ⟨_,H,μ,_,by simp only [convert,h1,h2,h3,cellsAt_of_get g',take?_pre pre wz rest hl.symm,bytesD_ok hb r',Option.map_some],r,.atom .nil⟩
       ·cases h
      ·cases h
     ·cases h
      rw [hx.atomInv.2];exact ⟨_,H,μ,F,by simp only [convert,h1,h2,h3],r,.atom .nil⟩
     ·cases h
    ·cases hcv
   ·split at hcv <;> cases hcv
   ·cases hcv
   ·cases hcv
   ·cases hcv
  ·cases hcv
 ·cases h
theorem flat_cut {s:Nat} {es:List (List D)} (el:∀ e,e∈es→e.length=s) {a b:Nat} (h1:a≤b) (h2:b≤es.length):(es.flatten.drop (a * s)).take ((b - a) * s)=((es.take b).drop a).flatten:=by
 have dfl:∀ (es:List (List D)) (n:Nat),(∀ e,e∈es→e.length=s)→n≤es.length→es.flatten.take (n * s)=(es.take n).flatten∧es.flatten.drop (n * s)=(es.drop n).flatten:=by
  intro es
  induction es with
  | nil=>intro n _ hn;simp at hn;subst hn;simp
  | cons e es ih =>
    intro n hel hn
    cases n with
    | zero=>simp
    | succ n =>
      have hl:=hel e (by simp);obtain ⟨i1,i2⟩:=ih n (fun e h=>hel e (by simp [h])) (by simpa using hn);have hs:(n+1) * s=e.length+n * s:=by rw [Nat.add_mul,hl];omega
      rw [List.flatten_cons,hs,List.take_length_add_append,List.drop_length_add_append,i1,i2];simp
 rw [(dfl es a el (by omega)).2,List.drop_take];exact (dfl (es.drop a) (b - a) (fun e h=>el e (List.mem_of_mem_drop h)) (by rw [List.length_drop];omega)).1
/-! ### Parts of slices -/
def vSlice (T:Tab) (so:List Ob) (t:TypeId) (x:D) (lo hi:Option D):Option (D×List Ob):=
 match x with
 | .atom (.str s)=>if isStr T t=true then (match optD lo 0,optD hi s.length with
   | some a,some b=>if a≤b∧b≤s.length then some (.atom (.str ((s.take b).drop a)),so) else none
   | _,_=>none) else none
 | .imm s es=>if elemSize T t=some s then (match optD lo 0,optD hi es.length with
   | some a,some b=>if a≤b∧b≤es.length then some (.imm s ((es.take b).drop a),so) else none
   | _,_=>none) else none
 | .own k n=>match so[k]? with
   | some (.sl s es)=>if elemSize T t=some s∧es.length=n then (match optD lo 0,optD hi n with
     | some a,some b=>if a≤b∧b≤n then some (.own so.length (b - a),so.set k .dead++[.sl s ((es.take b).drop a)]) else none
     | _,_=>none) else none
   | _=>none
 | _=>none
def cutV (l o s a b:Nat):Option Nat→V
 | some m=>cond (Nat.beq m a) (.slice l o 0 s (some 0)) (.slice l (o+a * s) (b - a) s (some (m - a)))
 | none=>.slice l (o+a * s) (b - a) s none
def RO (P:Nat→Prop) (H:Heap) (μ:List Hd):Option D→Option V→Prop
 | none,none=>True
 | some d,some v=>RL P H μ [d] [v] []
 | _,_=>False
theorem optD_ok {lo:Option D} {lo':Option V} {k n:Nat} (h:optD lo k=some n) (hv:RO P H μ lo lo'):optNat lo' k=some n:=by
 cases lo with
 | none=>cases lo' with
   | none=>cases h;rfl
   | some v=>exact hv.elim
 | some d=>cases lo' with
   | none=>exact hv.elim
   | some v=>exact natI_ok h hv
theorem Rl.sliceOk (r:Rl g st a H P μ F []) {t:TypeId} {x:D} {lo hi:Option D} {u:V} {lo' hi':Option V} (h:vSlice T st.so t x lo hi=some (d,so')) (hx:RL P H μ [x] [u] []) (hlo:RO P H μ lo lo') (hhi:RO P H μ hi hi') :
  ∃ v μ' F',sliceOp T H t u lo' hi' none=some v∧Rl g ⟨st.tm,so',st.n⟩ a H P μ' F' []∧RL P H μ' [d] [v] []:=by
 have esz:∀ {s:Nat},elemSize T t=some s→∃ e b,T.und t=some (.slice e)∧T.size e=some (s,b):=by
  intro s ht;simp only [elemSize] at ht;split at ht
  ·rename_i e he;simp only [Option.map_eq_some_iff] at ht;obtain ⟨⟨sz,b⟩,h4,h5⟩:=ht;simp only at h5;subst h5;exact ⟨e,b,he,h4⟩
  ·cases ht
 unfold vSlice at h;split at h
 ·rename_i s;split at h
  ·rename_i ht;split at h
   ·rename_i a' b' e1 e2;split at h
    ·rename_i hc
     cases h
     rw [hx.atomInv.2];have e1':=optD_ok e1 hlo;have e2':=optD_ok e2 hhi;unfold isStr at ht;split at ht
     ·rename_i he;have b1:Nat.ble a' b'=true:=by rw [Nat.ble_eq];exact hc.1
      have b2:Nat.ble b' s.length=true:=by rw [Nat.ble_eq];exact hc.2
      exact ⟨_,μ,F,by simp only [sliceOp,he,e1',e2',b1,b2,Bool.and_self,cond_true],r,.atom .nil⟩
     ·cases ht
    ·cases h
   ·cases h
  ·cases h
 ·rename_i s es;split at h
  ·rename_i ht;obtain ⟨e,bb,he,hsz⟩:=esz ht;split at h
   ·rename_i a' b' e1 e2;split at h
    ·rename_i hc
     cases h
     have e1':=optD_ok e1 hlo;have e2':=optD_ok e2 hhi;rcases hx.immInv with ⟨_,⟨rfl,rfl⟩ | ⟨l,o,q,ro,cs,wz,rfl,p,g',tk,r',el,u1,cq⟩⟩
     ·have hb0:b'=0:=by simpa using hc.2
      have ha0:a'=0:=by omega
      subst hb0;subst ha0;refine ⟨.nilSlice,μ,F,?_,r,by simpa using RL.immNil .nil⟩;simp only [List.length_nil] at e2';simp only [sliceOp,he,hsz,e1',e2']
      rfl
     ·have b0:Nat.beq s s=true:=Nat.beq_refl s;have b1:Nat.ble a' b'=true:=by rw [Nat.ble_eq];exact hc.1
      have b2:Nat.ble b' (q.getD es.length)=true:=by
       rw [Nat.ble_eq]
       cases q with
       | none=>exact hc.2
       | some m=>exact Nat.le_trans hc.2 (cq m rfl)
      have ex:sliceOp T H t (.slice l o es.length s q) lo' hi' none=some (cutV l o s a' b' q):=by
       simp only [sliceOp,he,hsz,e1',e2',b0,b1,b2,Bool.and_self,cond_true]
       cases q <;> rfl
      rw [ex];have hlen:((es.take b').drop a').length=b' - a':=by rw [List.length_drop,List.length_take];omega
      have hel:∀ e,e∈(es.take b').drop a'→e.length=s:=fun e h=>el e (List.mem_of_mem_take (List.mem_of_mem_drop h));have hm1:a' * s+(b' - a') * s=b' * s:=by rw [← Nat.add_mul];congr 1;omega
      have hm2:b' * s≤es.length * s:=Nat.mul_le_mul_right s hc.2;have hwl:=r'.len;rw [dflatten_len el] at hwl;obtain ⟨t1,F1,F2,F3,hF,_,r2,_⟩:=r'.cutF (a' * s) ((b' - a') * s) (by rw [dflatten_len el];omega);have hF':=hF.symm;rw [List.append_eq_nil_iff,List.append_eq_nil_iff] at hF';rw [hF'.2.1] at r2
      have efl:(es.flatten.drop (a' * s)).take ((b' - a') * s)=((es.take b').drop a').flatten:=by
       have dfl:∀ (es:List (List D)) (n:Nat),(∀ e,e∈es→e.length=s)→n≤es.length→es.flatten.take (n * s)=(es.take n).flatten∧es.flatten.drop (n * s)=(es.drop n).flatten:=by
        intro es
        induction es with
        | nil=>intro n _ hn;simp at hn;subst hn;simp
        | cons e es ih =>
          intro n hel hn
          cases n with
          | zero=>simp
          | succ n =>
            have hl:=hel e (by simp);obtain ⟨i1,i2⟩:=ih n (fun e h=>hel e (by simp [h])) (by simpa using hn);have hs:(n+1) * s=e.length+n * s:=by rw [Nat.add_mul,hl];omega
            rw [List.flatten_cons,hs,List.take_length_add_append,List.drop_length_add_append,i1,i2];simp
       rw [(dfl es a' el (by omega)).2,List.drop_take,];exact (dfl (es.drop a') (b' - a') (fun e h=>el e (List.mem_of_mem_drop h)) (by rw [List.length_drop];omega)).1
      rw [efl] at r2
      have tk2:take? cs (o+a' * s) ((b' - a') * s)=some ((wz.drop (a' * s)).take ((b' - a') * s)):=by
       obtain ⟨e3,hl3⟩:=tk_eq tk;have h5:=hl3;rw [e3,List.length_take,List.length_drop] at h5
       have e4:(cs.drop (o+a' * s)).take ((b' - a') * s)=(wz.drop (a' * s)).take ((b' - a') * s):=by
        rw [e3,List.drop_take,List.take_take,Nat.min_eq_left (by omega),List.drop_drop]
       simp only [take?,cond_beq,List.length_take,List.length_drop];rw [if_pos (by omega),e4]
      have wone:((wz.drop (a' * s)).take ((b' - a') * s)).all V.one=true:=by
       rw [List.all_eq_true] at u1 ⊢;exact fun x hx=>u1 x (List.mem_of_mem_drop (List.mem_of_mem_take hx))
      have good:∀ (q':Option Nat),(∀ m,q'=some m→b' - a'≤m)→RL P H μ [.imm s ((es.take b').drop a')] [.slice l (o+a' * s) (b' - a') s q'] []:=by
       intro q' hq';rw [← hlen] at tk2 hq' ⊢;exact .imm p g' tk2 (by rw [hlen];exact r2) hel (by rw [hlen];exact wone) hq' .nil
      cases q with
      | none=>exact ⟨_,μ,F,rfl,r,good none (fun m h=>by cases h)⟩
      | some m =>
        have hm:=cq m rfl;simp only [cutV,cond_beq]
        by_cases hma:m=a'
        ·have hab:a'=b':=by omega
         have hnil:(es.take b').drop a'=[]:=by apply List.length_eq_zero_iff.1;rw [hlen];omega
         rw [if_pos hma,hnil];refine ⟨_,μ,F,rfl,r,?_⟩;have:=RL.imm (P:=P) (H:=H) (μ:=μ) (es:=[]) (s:=s) (q:=some 0) (o:=o) (ws:=[]) p g' (by simp [take?]) .nil (by simp) rfl (by simp) .nil;exact this
        ·rw [if_neg hma];exact ⟨_,μ,F,rfl,r,good _ (fun m' h=>by cases h;omega)⟩
    ·cases h
   ·cases h
  ·cases h
 ·rename_i k n;split at h
  ·rename_i s es hk;split at h
   ·rename_i hc;obtain ⟨ht,hn⟩:=hc;obtain ⟨e,bb,he,hsz⟩:=esz ht;split at h
    ·rename_i a' b' e1 e2;split at h
     ·rename_i hb;obtain ⟨hab,hb⟩:=hb
      cases h
      have e1':=optD_ok e1 hlo;have e2':=optD_ok e2 hhi;obtain ⟨y,G1,Gk,G2,hy,rfl,o1,put⟩:=r.obs.at hk;obtain ⟨_,y',hy',hcc⟩:=hx.ownInv;rw [hy] at hy';cases hy';subst hn;have gl:GoesL μ (μ.set k .dead):=GoesL.set hy (Goes.dead y);have o2:=(put P H .dead .dead [] (fun l h=>h) (.dead .nil) fun l o _ h=>h).goes gl;have hlenO:st.so.length=μ.length:=r.obs.len.symm;rcases o1.slInv with ⟨rfl,rfl,rfl⟩ | ⟨l,q,pre,wz,rest,F',rfl,rfl,g',r',el,u1,cq⟩
      ·have hb0:b'=0:=by simpa using hb
       subst hb0;have ha0:a'=0:=by omega
       subst ha0;rw [(hcc _ _ _ rfl).2 rfl];have gl2:=gl.trans (GoesL.app (μ.set k .dead) [.sl .nilSlice 0 s]);refine ⟨.nilSlice,(μ.set k .dead)++[.sl .nilSlice 0 s],_,?_,{ wf:=r.wf,nt:=r.nt,nd:=r.nd.same fun j h=>mem_le (fun a=>by simp only [List.count_append,List.count_nil];omega) h,tms:=fun t=>(r.tms t).goes gl2,obs:=(o2.goes (GoesL.app _ _)).app (.slNil .nil),nodup:=?_,apart:=?_,old:=?_,lt:=?_,p1:=r.p1,p2:=r.p2,pl:=r.pl,ext:=r.ext,gl:=r.gl.trans gl2 },?_⟩
       ·simp only [List.length_nil] at e2';simp only [sliceOp,he,hsz,e1',e2']
        rfl
       ·exact nodup_le r.nodup fun a=>by simp only [List.count_append,List.count_nil];omega
       ·exact fun j h=>r.apart j (mem_le (fun a=>by simp only [List.count_append,List.count_nil];omega) h)
       ·exact fun j h=>r.old j (mem_le (fun a=>by simp only [List.count_append,List.count_nil];omega) h)
       ·exact fun j h=>r.lt j (mem_le (fun a=>by simp only [List.count_append,List.count_nil];omega) h)
       ·refine RL.own1 (h:=.sl .nilSlice 0 s) ?_ (fun w m z e=>by cases e;exact ⟨Nat.le_refl _,fun _=>rfl⟩);rw [hlenO,List.getElem?_append_right (by simp)];simp
      ·rw [(hcc _ _ _ rfl).2 rfl];have hm1:a' * s+(b' - a') * s=b' * s:=by rw [← Nat.add_mul];congr 1;omega
       have hm2:b' * s≤es.length * s:=Nat.mul_le_mul_right s hb;have hwl:=r'.len;rw [dflatten_len el] at hwl;obtain ⟨t1,A1,A2,A3,rfl,_,ra,_⟩:=r'.cutF (a' * s) ((b' - a') * s) (by rw [dflatten_len el];omega);rw [flat_cut el hab hb] at ra;have hlen:((es.take b').drop a').length=b' - a':=by rw [List.length_drop,List.length_take];omega
       have hel:∀ e,e∈(es.take b').drop a'→e.length=s:=fun e h=>el e (List.mem_of_mem_take (List.mem_of_mem_drop h))
       have wone:((wz.drop (a' * s)).take ((b' - a') * s)).all V.one=true:=by
        rw [List.all_eq_true] at u1 ⊢;exact fun x hx=>u1 x (List.mem_of_mem_drop (List.mem_of_mem_take hx))
       have spl:pre++(wz++rest)=(pre++wz.take (a' * s))++((wz.drop (a' * s)).take ((b' - a') * s)++(wz.drop (b' * s)++rest)):=by
        have e3:wz.drop (b' * s)=(wz.drop (a' * s)).drop ((b' - a') * s):=by rw [List.drop_drop,hm1]
        rw [e3,← List.append_assoc ((wz.drop (a' * s)).take _),List.take_append_drop,List.append_assoc,← List.append_assoc (wz.take _),List.take_append_drop]
       have fin:∀ (pr ws' rs:List V) (rows:List (List D)) (A':List Nat) (q':Option Nat),H.get l=some (.cells false (pr++(ws'++rs)))→RL P H μ rows.flatten ws' A'→(∀ e,e∈rows→e.length=s)→ws'.all V.one=true →
         (∀ m,q'=some m→rows.length≤m∧(m - rows.length) * s≤rs.length)→(∀ j,A'.count j≤(A1++(A2++A3)).count j)→∃ μ' F',Rl g ⟨st.tm,st.so.set k .dead++[.sl s rows],st.n⟩ a H P μ' F' []∧RL P H μ' [.own st.so.length rows.length] [.slice l pr.length rows.length s q'] []:=by
        intro pr ws' rs rows A' q' hg hr hel wone hq' hA;have gl2:=gl.trans (GoesL.app (μ.set k .dead) [.sl (.slice l pr.length rows.length s q') rows.length s])
        have o3:OL P H ((μ.set k .dead)++[.sl (.slice l pr.length rows.length s q') rows.length s]) [.sl (.slice l pr.length rows.length s q') rows.length s] [.sl s rows] (l::(A'++[])):=
         OL.sl (P:=P) hg (hr.goes gl2) hel wone hq' .nil
        have hcnt:∀ a,([]++(G1++([]++G2)++(l::(A'++[])))).count a≤([]++(G1++(l::(A1++(A2++A3))++G2))).count a:=fun a=>by
         have:=hA a;simp only [List.count_append,List.count_nil,List.count_cons] at this ⊢;omega
        refine ⟨_,_,{ wf:=r.wf,nt:=r.nt,nd:=r.nd.same fun j h=>mem_le hcnt h,tms:=fun t=>(r.tms t).goes gl2,obs:=(o2.goes (GoesL.app _ _)).app o3,nodup:=nodup_le r.nodup hcnt,apart:=fun j h=>r.apart j (mem_le hcnt h),old:=fun j h=>r.old j (mem_le hcnt h),lt:=fun j h=>r.lt j (mem_le hcnt h),p1:=r.p1,p2:=r.p2,pl:=r.pl,ext:=r.ext,gl:=r.gl.trans gl2 },?_⟩;refine RL.own1 (h:=.sl (.slice l pr.length rows.length s q') rows.length s) ?_ (fun w m z e=>by cases e;exact ⟨Nat.le_refl _,fun _=>rfl⟩);rw [hlenO,List.getElem?_append_right (by simp)];simp
       have fin2:∀ q',(∀ m,q'=some m→b' - a'≤m∧(m - (b' - a')) * s≤(wz.drop (b' * s)++rest).length)→∃ μ' F',Rl g ⟨st.tm,st.so.set k .dead++[.sl s ((es.take b').drop a')],st.n⟩ a H P μ' F' []∧RL P H μ' [.own st.so.length (b' - a')] [.slice l (pre.length+a' * s) (b' - a') s q'] []:=by
        intro q' hq';have:=fin (pre++wz.take (a' * s)) _ (wz.drop (b' * s)++rest) ((es.take b').drop a') A2 q' (by rw [g',spl]) ra hel wone (by rw [hlen];exact hq') (fun j=>by simp only [List.count_append];omega);rw [hlen,List.length_append,List.length_take,Nat.min_eq_left (by omega)] at this;exact this
       have b0:Nat.beq s s=true:=Nat.beq_refl s;have b1:Nat.ble a' b'=true:=by rw [Nat.ble_eq];exact hab
       have b2:Nat.ble b' (q.getD es.length)=true:=by
        rw [Nat.ble_eq]
        cases q with
        | none=>exact hb
        | some m=>exact Nat.le_trans hb (cq m rfl).1
       have ex:sliceOp T H t (.slice l pre.length es.length s q) lo' hi' none=some (cutV l pre.length s a' b' q):=by
        simp only [sliceOp,he,hsz,e1',e2',b0,b1,b2,Bool.and_self,cond_true]
        cases q <;> rfl
       rw [ex]
       cases q with
       | none =>
         simp only [cutV];obtain ⟨μ',F',q1,q2⟩:=fin2 none (fun m h=>by cases h);exact ⟨_,μ',F',rfl,q1,q2⟩
       | some m =>
         obtain ⟨c1,c2⟩:=cq m rfl;simp only [cutV,cond_beq]
         by_cases hma:m=a'
         ·have hab2:a'=b':=by omega
          have hnil:(es.take b').drop a'=[]:=by apply List.length_eq_zero_iff.1;rw [hlen];omega
          have hz:b' - a'=0:=by omega
          rw [if_pos hma,hnil,hz];obtain ⟨μ',F',q1,q2⟩:=fin pre [] (wz++rest) [] [] (some 0) (by simpa using g') .nil (by simp) rfl (by simp) (fun j=>by simp);exact ⟨_,μ',F',rfl,q1,q2⟩
         ·rw [if_neg hma]
          have c3:(m - a' - (b' - a')) * s≤(wz.drop (b' * s)++rest).length:=by
           rw [List.length_append,List.length_drop,← hwl];have e5:(m - a' - (b' - a')) * s=(es.length - b') * s+(m - es.length) * s:=by rw [← Nat.add_mul];congr 1;omega
           have e6:(es.length - b') * s=es.length * s - b' * s:=Nat.sub_mul _ _ _;omega
          obtain ⟨μ',F',q1,q2⟩:=fin2 (some (m - a')) (fun m' h=>by cases h;exact ⟨by omega,c3⟩);exact ⟨_,μ',F',rfl,q1,q2⟩
     ·cases h
    ·cases h
   ·cases h
  ·cases h
 ·cases h
end Go.Am.Vm

namespace Go.Am.Vm
open Go.Am
variable {T:Tab} {P P':Nat→Prop} {H H':Heap} {μ μ':List Hd} {ds es cs:List D} {vs ws us:List V} {F G X K F' X':List Nat} {d:D} {v:V} {μ0 μ1 hs gs:List Hd} {obs ots so so':List Ob} {ob:Ob}
 {g:Gh} {st:St} {a:A}
def vFind (k:V):List (V×D)→Option (Option D)
 | []=>some none
 | (k',d)::ms=>match sameCell k k' with
   | some true=>some (some d)
   | some false=>vFind k ms
   | none=>none
def vSet (k:V) (x:D):List (V×D)→Option (List (V×D))
 | []=>some [(k,x)]
 | (k',d)::ms=>match sameCell k k' with
   | some true=>some ((k,x)::ms)
   | some false=>(vSet k x ms).map ((k',d)::·)
   | none=>none
def OO (P:Nat→Prop) (H:Heap) (μ:List Hd):Option D→Option V→Prop
 | none,none=>True
 | some d,some v=>RL P H μ [d] [v] []
 | _,_=>False
theorem vFind_ok {k:V}:∀ {ms:List (V×D)} {es:List (V×V)} {o:Option D},es.map (·.1)=ms.map (·.1)→RL P H μ (ms.map (·.2)) (es.map (·.2)) []→vFind k ms=some o→∃ ov,mapFind k es=some ov∧OO P H μ o ov
 | [],es,o,he,r,h=>by
   have:es=[]:=by simpa using he
   subst this;cases h;exact ⟨none,rfl,trivial⟩
 | (k',d)::ms,[],o,he,r,h=>by simp at he
 | (k',d)::ms,(k2,v)::es,o,he,r,h=>by
   simp only [List.map_cons,List.cons.injEq] at he r;obtain ⟨e1,he⟩:=he;subst e1;obtain ⟨v',vs',G1,G2,e2,hF,q1,q2⟩:=r.uncons
   cases e2
   have hF':=hF.symm;rw [List.append_eq_nil_iff] at hF';rw [hF'.1] at q1;rw [hF'.2] at q2;simp only [vFind] at h;simp only [mapFind];split at h
   ·rename_i e;rw [e];cases h;exact ⟨some v,rfl,q1⟩
   ·rename_i e;rw [e];exact vFind_ok he q2 h
   ·cases h
theorem vSet_ok {k:V} {x:D} {w:V} (hx:RL P H μ [x] [w] []):∀ {ms ms':List (V×D)} {es:List (V×V)},es.map (·.1)=ms.map (·.1)→RL P H μ (ms.map (·.2)) (es.map (·.2)) []→vSet k x ms=some ms' →
  ∃ es',mapSet k w es=some es'∧es'.map (·.1)=ms'.map (·.1)∧RL P H μ (ms'.map (·.2)) (es'.map (·.2)) []
 | [],ms',es,he,r,h=>by
   have:es=[]:=by simpa using he
   subst this;cases h;exact ⟨[(k,w)],rfl,rfl,hx⟩
 | (k',d)::ms,ms',[],he,r,h=>by simp at he
 | (k',d)::ms,ms',(k2,v)::es,he,r,h=>by
   simp only [List.map_cons,List.cons.injEq] at he r;obtain ⟨e1,he⟩:=he;subst e1;obtain ⟨v',vs',G1,G2,e2,hF,q1,q2⟩:=r.uncons
   cases e2
   have hF':=hF.symm;rw [List.append_eq_nil_iff] at hF';rw [hF'.1] at q1;rw [hF'.2] at q2;simp only [vSet] at h;simp only [mapSet];split at h
   ·rename_i e;rw [e];cases h;exact ⟨(k,w)::es,rfl,by simp only [List.map_cons,he],by simpa using hx.cons q2⟩
   ·rename_i e;rw [e];simp only [Option.map_eq_some_iff] at h;obtain ⟨ms2,h1,rfl⟩:=h;obtain ⟨es2,e3,e4,q3⟩:=vSet_ok hx he q2 h1;exact ⟨_,by rw [e3];rfl,by simp only [List.map_cons,e4],by simpa using q1.cons q3⟩
   ·cases h
def keyV:D→Option V
 | .atom v=>some v
 | _=>none
theorem keyV_ok {k:D} {kv u:V} (h:keyV k=some kv) (r:RL P H μ [k] [u] []):u=kv:=by
 cases k with
 | atom w=>cases h;exact r.atomInv.2
 | _=>cases h
def mapT (T:Tab) (t:TypeId):Option (TypeId×TypeId):=
 match T.und t with
 | some (.map kt et)=>some (kt,et)
 | _=>none
theorem mapT_eq {t kt et:TypeId} (h:mapT T t=some (kt,et)):T.und t=some (.map kt et):=by
 unfold mapT at h;split at h
 ·rename_i e;cases h;exact e
 ·cases h
def vHit (T:Tab) (et:TypeId) (ok:Bool):Option (Option D)→Option D
 | some (some d)=>some (cond ok (.tuple [d,.atom (.bool true)]) d)
 | some none=>(T.zeroV et).map fun z=>cond ok (.tuple [cD z,.atom (.bool false)]) (cD z)
 | none=>none
def mapO (so:List Ob) (k:V):D→Option (Option D)
 | .omap j=>match so[j]? with
   | some (.mp ms)=>vFind k ms
   | _=>none
 | .atom .nilMap=>some none
 | _=>none
theorem Rl.mapOk (r:Rl g st a H P μ F X) {k:V} {m:D} {u:V} {o:Option D} (h:mapO st.so k m=some o) (hm:RL P H μ [m] [u] []):∃ ov,mapGet H u k=some ov∧OO P H μ o ov:=by
 cases m with
 | omap j =>
   simp only [mapO] at h;split at h
   ·rename_i ms hk;obtain ⟨x,F1,Fk,F2,hx,rfl,o1,_⟩:=r.obs.at hk;obtain ⟨_,y,hy,hc⟩:=hm.omapInv;rw [hx] at hy;cases hy;obtain ⟨l,es,rfl,rfl,g',e,q⟩:=o1.mpInv;obtain ⟨ov,h1,h2⟩:=vFind_ok e q h;exact ⟨ov,by rw [hc _ rfl];simp only [mapGet,g'];exact h1,h2⟩
   ·cases h
 | atom w =>
   cases w with
   | nilMap=>cases h;rw [hm.atomInv.2];exact ⟨none,rfl,trivial⟩
   | _=>cases h
 | _=>cases h
def lkp (T:Tab) (so:List Ob) (kt et:TypeId) (ok:Bool) (m:D) (k:V):Option D:=if keyOk T kt k=true then vHit T et ok (mapO so k m) else none
def vLookup (T:Tab) (so:List Ob) (t:TypeId) (ok:Bool) (m k:D):Option D:=
 match mapT T t,keyV k with
 | some (kt,et),some kv=>lkp T so kt et ok m kv
 | _,_=>none
theorem cD_ok' (z:V):RL P H μ [cD z] [z] []:=by
 cases z <;> first | exact .atom .nil | exact (RL.atoms _).agg1
theorem Rl.lookupOk (r:Rl g st a H P μ F X) {t:TypeId} {ok:Bool} {m k:D} {u w:V} (h:vLookup T st.so t ok m k=some d) (hm:RL P H μ [m] [u] []) (hk:RL P H μ [k] [w] []) :
  ∃ v,lookup T H t u w ok=some v∧RL P H μ [d] [v] []:=by
 simp only [vLookup] at h;split at h
 ·rename_i kt et kv ht hkv;rw [keyV_ok hkv hk];simp only [lkp] at h;split at h
  ·rename_i hok;simp only [lookup,mapT_eq ht,hok,cond_true]
   cases ho:mapO st.so kv m with
   | none=>rw [ho] at h;cases h
   | some o =>
     obtain ⟨ov,h1,h2⟩:=r.mapOk ho hm;rw [ho] at h
     cases o with
     | none =>
       cases ov with
       | some _=>exact h2.elim
       | none =>
         simp only [vHit,Option.map_eq_some_iff] at h;obtain ⟨z,hz,rfl⟩:=h;rw [h1,hz]
         cases ok
         ·exact ⟨z,rfl,cD_ok' z⟩
         ·exact ⟨_,rfl,RL.tuple1 ((cD_ok' z).cons (RL.atom1 _))⟩
     | some d' =>
       cases ov with
       | none=>exact h2.elim
       | some v' =>
         simp only [vHit,Option.some.injEq] at h;subst h;rw [h1]
         cases ok
         ·exact ⟨v',rfl,h2⟩
         ·exact ⟨_,rfl,RL.tuple1 (RL.cons h2 (RL.atom1 _))⟩
  ·cases h
 ·cases h
def mapU (T:Tab) (so:List Ob) (kt:TypeId) (j:Nat) (k:V) (x:D):Option Ob→Option (List Ob)
 | some (.mp ms)=>if keyOk T kt k=true then (vSet k x ms).map fun ms'=>so.set j (.mp ms') else none
 | _=>none
def vUpd (T:Tab) (so:List Ob) (t:TypeId) (m k x:D):Option (List Ob):=
 match mapT T t,keyV k,m with
 | some (kt,_),some kv,.omap j=>mapU T so kt j kv x so[j]?
 | _,_,_=>none
theorem Rl.updOk (r:Rl g st a H P μ F []) {t:TypeId} {m k x:D} {u w y:V} (h:vUpd T st.so t m k x=some so') (hm:RL P H μ [m] [u] []) (hk:RL P H μ [k] [w] []) (hx:RL P H μ [x] [y] []) :
  ∃ H' μ' F',mapUpdate T H t u w y=some H'∧Rl g ⟨st.tm,so',st.n⟩ a H' P μ' F' []:=by
 unfold vUpd at h;split at h
 ·rename_i kt et kv j ht hkv;rw [keyV_ok hkv hk];unfold mapU at h;split at h
  ·rename_i o ms hj;split at h
   ·rename_i hok;simp only [Option.map_eq_some_iff] at h;obtain ⟨ms',h1,rfl⟩:=h;obtain ⟨x0,G1,Gk,G2,hx0,rfl,o1,put⟩:=r.obs.at hj;obtain ⟨_,y',hy',hc⟩:=hm.omapInv;rw [hx0] at hy';cases hy';obtain ⟨l,es,rfl,rfl,g',e,q⟩:=o1.mpInv;obtain rfl:=hc _ rfl;obtain ⟨es',e1,e2,q2⟩:=vSet_ok hx e q h1;have hll:l∈[]++(G1++([l]++G2)):=by simp
    have hne:∀ j,j∈G1∨j∈G2→j≠l:=by
     intro j hj e;subst e;have h3:([]++(G1++([j]++G2))).count j≤1:=List.nodup_iff_count.1 r.nodup j;simp only [List.count_append,List.count_cons,List.count_nil,beq_self_eq_true,if_true] at h3;rcases hj with h | h <;> (have:=List.count_pos_iff.2 h;omega)
    have keep:∀ (o':O) j ob,(P j∨j∈G1∨j∈G2)→H.get j=some ob→(H.put l o').get j=some ob:=by
     intro o' j ob hj e;rw [Heap.get_put_ne]
     ·exact e
     ·rcases hj with hj | hj
      ·intro e2;exact r.apart l hll (e2 ▸ hj)
      ·exact hne j hj
    have o2:OL P (H.put l (.map es')) μ [.cell l] [.mp ms'] (l::[]):=
     .mp (get_put_same (r.lt l hll) _) e2 (q2.keep fun j ob hj e=>keep _ j ob (hj.imp id fun h=>by simp at h) e) .nil
    have o3:=put P (H.put l (.map es')) _ _ _ (fun l h=>h) o2 (fun j ob hj e=>keep _ j ob hj e)
    have hset:μ.set j (.cell l)=μ:=by
     apply List.ext_getElem?;intro i
     by_cases hi:j=i
     ·subst hi;rw [List.getElem?_set_self (get_lt hx0),hx0]
     ·rw [List.getElem?_set_ne hi]
    rw [hset] at o3;refine ⟨H.put l (.map es'),μ,_,?_,r.upd (X':=[]) hll _ (GoesL.refl μ) o3 (fun a=>?_)⟩
    ·simp only [mapUpdate,mapT_eq ht,hok,cond_true,g',e1,Option.map_some]
    ·simp only [List.count_append,List.count_cons,List.count_nil];omega
   ·cases h
  ·cases h
 ·cases h
theorem Rl.newMap (r:Rl g st a H P μ F []):Rl g ⟨st.tm,st.so++[.mp []],st.n⟩ a (H.push (.map [])) P (μ++[.cell H.n]) (F++[H.n]) []∧RL P (H.push (.map [])) (μ++[.cell H.n]) [.omap st.so.length] [.map H.n] []:=by
 obtain ⟨r1,e⟩:=r.push (.map []);have hx:=(Ext.refl r.wf).push (.map []);have gl:=GoesL.app μ [.cell H.n];have o:OL P (H.push (.map [])) (μ++[.cell H.n]) [.cell H.n] [.mp []] ([H.n]++[]):=.mp e rfl .nil .nil;refine ⟨Rl.take (K:=[H.n]) (X:=[]) (by simpa using r1) (by simpa using o),.omap (h:=.cell H.n) ?_ (fun l e=>by cases e;rfl) .nil⟩;rw [← r.obs.len,List.getElem?_append_right (Nat.le_refl _)];simp
def isMap (T:Tab) (t:TypeId):Bool:=
 match T.und t with
 | some (.map _ _)=>true
 | _=>false
def lenM:Option Ob→Option D
 | some (.mp ms)=>some (.atom (.int .i64 (ms.length:Int)))
 | _=>none
theorem Rl.lenMOk (r:Rl g st a H P μ F X) {t:TypeId} {j:Nat} {u:V} (ht:isMap T t=true) (h:lenM st.so[j]?=some d) (hm:RL P H μ [.omap j] [u] []):∃ v,builtin T H .len #[t] [u]=.val v H∧RL P H μ [d] [v] []:=by
 unfold isMap at ht;split at ht
 ·rename_i kt et he;unfold lenM at h;split at h
  ·rename_i o ms hj
   cases h
   obtain ⟨x0,G1,Gk,G2,hx0,rfl,o1,put⟩:=r.obs.at hj;obtain ⟨_,y',hy',hc⟩:=hm.omapInv;rw [hx0] at hy';cases hy';obtain ⟨l,es,rfl,rfl,g',e,q⟩:=o1.mpInv;obtain rfl:=hc _ rfl;have hl:es.length=ms.length:=by simpa using congrArg List.length e
   refine ⟨.int .i64 es.length,by simp only [builtin,List.getElem?_toArray,List.getElem?_cons_zero,he,g'],?_⟩;rw [hl];exact .atom .nil
  ·cases h
 ·cases ht
end Go.Am.Vm

namespace Go.Am.Vm
open Go.Am
variable {T:Tab} {P P':Nat→Prop} {H H':Heap} {μ μ':List Hd} {ds es cs:List D} {vs ws us:List V} {F G X K F' X':List Nat} {d:D} {v:V} {μ0 μ1 hs gs:List Hd} {obs ots so':List Ob} {ob:Ob}
 {g:Gh} {st:St} {a:A}
theorem Rl.putOk (r:Rl g st a H P μ F X) (dst:Option Tmp) (h:RL P H μ [d] [v] []):Rl g (st.put dst d) (a.put dst v) H P μ F X:=by
 cases dst with
 | none=>exact r
 | some t =>
   by_cases hlt:t<st.n
   ·simp only [St.put,if_pos hlt];have hlt2:t<a.tmps.n:=by rw [r.nt];exact hlt
    refine { wf:=r.wf,nt:=by simp only [A.n_put];exact r.nt,nd:=by simp only [A.defers_put];exact r.nd,tms:=fun j=>?_,obs:=r.obs,nodup:=r.nodup,apart:=r.apart,old:=r.old,lt:=r.lt,p1:=r.p1,p2:=r.p2,pl:=r.pl,ext:=r.ext,gl:=r.gl };simp only [tget,A.tmp_puts,hlt2,and_true];split
    ·exact h
    ·exact r.tms j
   ·have hlt2:¬ t<a.tmps.n:=by rw [r.nt];exact hlt
    have e:a.put (some t) v=a:=by
     have:Nat.blt t a.tmps.n=false:=by
      cases hb:Nat.blt t a.tmps.n
      ·rfl
      ·rw [Nat.blt_eq] at hb;exact absurd hb hlt2
     simp only [A.put,Ts.put,this,cond_false]
    rw [e];simp only [St.put,if_neg hlt];exact r
inductive VR where
 | val (d:D) (so:List Ob)
 | call (f:FuncId) (ds:List D)
 | round (l:Nat) (ds:List D)
 | stuck
def VR.ofD (so:List Ob):Option D→VR
 | some d=>.val d so
 | none=>.stuck
def VR.ofS:Option (List Ob)→VR
 | some so=>.val .unk so
 | none=>.stuck
def VR.ofDS:Option (D×List Ob)→VR
 | some (d,so)=>.val d so
 | none=>.stuck
def ev1 (st:St) (x:Operand) (k:D→VR):VR:=
 match st.eval x with
 | some d=>k d
 | none=>.stuck
def vPick (st:St) (c:D) (x y:Operand):VR:=
 match c with
 | .atom (.bool true)=>ev1 st x fun d=>.val d st.so
 | .atom (.bool false)=>ev1 st y fun d=>.val d st.so
 | _=>.stuck
def vAlloc (so:List Ob):Option (List V)→VR
 | some z=>.val (.rptr so.length 0) (so++[.cell (z.map .atom)])
 | none=>.stuck
def vBox (so:List Ob):Option (List D)→VR
 | some cs=>.val (.rptr so.length 0) (so++[.cell cs])
 | none=>.stuck
def nnD (so:List Ob):D→Bool
 | .fn _ _ _=>true
 | .atom (.func (.func _) _ _)=>true
 | .iface _ _=>true
 | d=>live so d
def vUn (op:UnOp):D→Option D
 | .atom v=>(unOp op v).map .atom
 | _=>none
def fldTy (T:Tab) (t:TypeId) (i:Nat):Option (TypeId×Nat):=
 match fieldsOf T t with
 | some fs=>(fs[i]?).map fun f=>(f.type,f.offset)
 | none=>none
def vField (T:Tab) (t:TypeId) (i:Nat):D→Option D
 | .agg cs=>match fldTy T t i with
   | some (ft,o)=>rd T ft cs o
   | none=>none
 | _=>none
def vArr (T:Tab) (t:TypeId) (cs:List D) (j:Nat):Option D:=
 match arrOf T t with
 | some (n,e,s)=>if j<n then rd T e cs (j * s) else none
 | none=>none
def vIndex (T:Tab) (t:TypeId) (x i:D):Option D:=
 match x,natI i with
 | .agg cs,some j=>vArr T t cs j
 | .atom (.str s),some j=>if isStr T t=true then (s[j]?).map fun b=>.atom (.int .u8 b.toNat) else none
 | _,_=>none
def vAssert (T:Tab) (u:TypeId) (ok:Bool) (x:D):Option D:=
 if isIface T u=some false then (match x with
  | .iface t d=>if t=u then some (cond ok (.tuple [d,.atom (.bool true)]) d) else (if ok=true then (match T.zeroV u with
    | some z=>some (.tuple [cD z,.atom (.bool false)])
    | none=>none) else none)
  | .atom .nilIface=>if ok=true then (match T.zeroV u with
    | some z=>some (.tuple [cD z,.atom (.bool false)])
    | none=>none) else none
  | _=>none) else none
def vNth (i:Nat):D→Option D
 | .tuple ds=>ds[i]?
 | _=>none
def vFunc (f:FuncId) (so:List Ob):Option (List D)→Option (List D)→VR
 | some u,some w=>.val (.fn f u w) so
 | _,_=>.stuck
def evalOptD (st:St):Option Operand→Option (Option D)
 | none=>some none
 | some x=>(st.eval x).map some
def vCut (T:Tab) (st:St) (t:TypeId) (x:D) (lo hi:Option (Option D)):VR:=
 match lo,hi with
 | some lo,some hi=>.ofDS (vSlice T st.so t x lo hi)
 | _,_=>.stuck
def vLens (T:Tab) (so:List Ob) (t:TypeId) (x:D):VR:=
 if isSlice T t=true then .ofD so ((vLen so x).map fun n:Nat=>.atom (.int .i64 (n:Int)))
 else match x with
  | .atom (.str s)=>if isStr T t=true then .val (.atom (.int .i64 s.length)) so else .stuck
  | .omap j=>if isMap T t=true then .ofD so (lenM so[j]?) else .stuck
  | _=>.stuck
def vExt (so:List Ob) (op:Int→Int→Bool):Option (List V)→VR
 | some (x::xs)=>.ofD so ((extremum op x xs).map .atom)
 | _=>.stuck
def vBuiltin (T:Tab) (so:List Ob) (b:Builtin) (ts:List TypeId) (ds:List D):VR:=
 match b with
 | .len=>match ts,ds with
   | [t],[x]=>vLens T so t x
   | _,_=>.stuck
 | .append=>match ts,ds with
   | [t0,t1],[x,y]=>.ofDS (vAppend T so t0 t1 x y)
   | _,_=>.stuck
 | .min=>vExt so (fun b a=>decide (b<a)) (atomsOf ds)
 | .max=>vExt so (fun b a=>decide (b > a)) (atomsOf ds)
 | _=>.stuck
def vBuiltinO (T:Tab) (so:List Ob) (b:Builtin) (ts:List TypeId):Option (List D)→VR
 | some ds=>vBuiltin T so b ts ds
 | none=>.stuck
def vValue (f:D) (ds:List D):VR:=
 match f with
 | .fn g u w=>.call g (u++(ds++w))
 | .atom (.func (.func g) u w)=>.call g (u.map .atom++(ds++w.map .atom))
 | .atom (.func (.yield l) [] [])=>.round l ds
 | _=>.stuck
def vValueO (f:Option D) (ds:Option (List D)):VR:=
 match f,ds with
 | some f,some ds=>vValue f ds
 | _,_=>.stuck
def vMeth (T:Tab) (so:List Ob) (m:Option (FuncId×Option TypeId)) (d:D) (ds:List D):VR:=
 match m with
 | some (f,none)=>.call f (d::ds)
 | some (f,some e)=>match vLoad T so e d with
   | some x=>.call f (x::ds)
   | none=>.stuck
 | none=>.stuck
def vInvoke (T:Tab) (so:List Ob) (name:String) (r:Option D) (ds:Option (List D)):VR:=
 match r,ds with
 | some (.iface t d),some ds=>vMeth T so (methP T t name) d ds
 | _,_=>.stuck
def vCall (T:Tab) (st:St) (c:Call):VR:=
 match c.callee with
 | .builtin b=>vBuiltinO T st.so b c.argTypes.toList (st.evals c.args.toList)
 | .value f=>vValueO (st.eval f) (st.evals c.args.toList)
 | .invoke r name=>vInvoke T st.so name (st.eval r) (st.evals c.args.toList)
def vBuildO (T:Tab) (so:List Ob) (t:TypeId):Option (List (Nat×D))→VR
 | some qs=>.ofD so (vBuild T so t qs)
 | none=>.stuck
def vLitO (T:Tab) (so:List Ob) (t:TypeId) (n:Nat):Option (List (Nat×D))→VR
 | some qs=>.ofDS (vLit T so t n qs)
 | none=>.stuck
def vop (T:Tab) (st:St):Op→VR
 | .move x=>ev1 st x fun d=>.val d st.so
 | .assign x=>ev1 st x fun d=>.val d st.so
 | .pick c x y=>ev1 st c fun d=>vPick st d x y
 | .alloc t=>vAlloc st.so (T.zero t)
 | .box _ x=>ev1 st x fun d=>vBox st.so (cellsD st.so d)
 | .build t ps=>vBuildO T st.so t (st.evalParts ps.toList)
 | .buildSlice t n ps=>vLitO T st.so t n (st.evalParts ps.toList)
 | .load t x=>ev1 st x fun d=>.ofD st.so (vLoad T st.so t d)
 | .store t x y=>ev1 st x fun p=>ev1 st y fun d=>.ofS (vStore T st.so t p d)
 | .nilCheck x=>ev1 st x fun d=>if nnD st.so d=true then .val d st.so else .stuck
 | .binOp op t x y _=>ev1 st x fun u=>ev1 st y fun w=>.ofD st.so (vBin T st.so op t (isConst x || isConst y) u w)
 | .unOp op _ x=>ev1 st x fun d=>.ofD st.so (vUn op d)
 | .convert s t x=>ev1 st x fun d=>.ofDS (vConv T st.so s t d)
 | .makeInterface t x=>ev1 st x fun d=>if isIface T t=some false then .val (.iface t d) st.so else .stuck
 | .makeFunc (.func f) first captured=>vFunc f st.so (st.evals first.toList) (st.evals captured.toList)
 | .makeSlice t x y=>ev1 st x fun u=>ev1 st y fun w=>.ofDS (vMake T st.so t u w)
 | .slice t x lo hi none=>ev1 st x fun d=>vCut T st t d (evalOptD st lo) (evalOptD st hi)
 | .fieldAddr t x i=>ev1 st x fun d=>if live st.so d=true then .ofD st.so (vFld T t i d) else .stuck
 | .field t x i=>ev1 st x fun d=>.ofD st.so (vField T t i d)
 | .indexAddr t x i=>ev1 st x fun u=>ev1 st i fun w=>.ofD st.so (vIdx T st.so t u w)
 | .index t x i=>ev1 st x fun u=>ev1 st i fun w=>.ofD st.so (vIndex T t u w)
 | .typeAssert x _ u ok=>ev1 st x fun d=>.ofD st.so (vAssert T u ok d)
 | .extract x i=>ev1 st x fun d=>.ofD st.so (vNth i d)
 | .makeMap _ none=>.val (.omap st.so.length) (st.so++[.mp []])
 | .lookup t x i ok=>ev1 st x fun m=>ev1 st i fun k=>.ofD st.so (vLookup T st.so t ok m k)
 | .mapUpdate t m k x=>ev1 st m fun m=>ev1 st k fun k=>ev1 st x fun d=>.ofS (vUpd T st.so t m k d)
 | .insert t m k x=>ev1 st m fun m=>ev1 st k fun k=>ev1 st x fun d=>.ofS (vUpd T st.so t m k d)
 | .call c=>vCall T st c
 | _=>.stuck
def OkR (g:Gh) (st:St) (a:A) (P:Nat→Prop) (H:Heap) (μ:List Hd) (o:OR):VR→Prop
 | .val d so'=>∃ v H' μ' F',o=.val v H'∧Rl g ⟨st.tm,so',st.n⟩ a H' P μ' F' []∧RL P H' μ' [d] [v] []
 | .call f ds=>∃ vs,o=.call f vs∧RL P H μ ds vs []
 | .round l ds=>∃ vs,o=.round l vs∧RL P H μ ds vs []
 | .stuck=>True
theorem ev1_ok (r:Rl g st a H P μ F []) {x:Operand} {k:D→VR} {kv:V→OR} (h:∀ d v,RL P H μ [d] [v] []→OkR g st a P H μ (kv v) (k d)):OkR g st a P H μ (op1 a x kv) (ev1 st x k):=by
 unfold ev1;split
 ·rename_i d hd;obtain ⟨v,e,hv⟩:=r.evalOk hd;have:op1 a x kv=kv v:=by unfold op1;rw [e]
  rw [this];exact h d v hv
 ·trivial
theorem okV (r:Rl g st a H P μ F []) (hv:RL P H μ [d] [v] []):OkR g st a P H μ (.val v H) (.val d st.so):=⟨v,H,μ,F,rfl,r,hv⟩
theorem okD' (r:Rl g st a H P μ F []) {o:Option D} {ov:Option V} (h:∀ d,o=some d→∃ v,ov=some v∧RL P H μ [d] [v] []):OkR g st a P H μ (.ofV H ov) (.ofD st.so o):=by
 cases o with
 | none=>trivial
 | some d=>obtain ⟨v,e,hv⟩:=h d rfl;rw [e];exact okV r hv
theorem part_ok {t:TypeId} {o:Nat} (h:RL P H μ cs ws []) (hr:rd T t cs o=some d):∃ v,part T t ws o=some v∧RL P H μ [d] [v] []:=by
 have hl:=h.len;simp only [rd] at hr;split at hr
 ·rename_i hag;split at hr
  ·rename_i n hn;split at hr
   ·rename_i hle;split at hr
    ·cases hr
     obtain ⟨t1,r2⟩:=h.cut o n hle;simp only [sizeN,Option.map_eq_some_iff] at hn;obtain ⟨⟨n',b'⟩,h1,h2⟩:=hn;simp only at h2;subst h2;exact ⟨_,by simp only [part,hag,h1,t1,Option.map_some],r2.agg1⟩
    ·cases hr
   ·cases hr
  ·cases hr
 ·rename_i hag;split at hr
  ·rename_i d' hd;split at hr
   ·cases hr
    obtain ⟨v,e,hv⟩:=h.at hd;exact ⟨v,by simp only [part,hag,e],hv⟩
   ·cases hr
  ·cases hr
 ·cases hr
theorem cD_ok (z:V):RL P H μ [cD z] [z] []:=by
 cases z <;> first | exact .atom .nil | exact (RL.atoms _).agg1
def asr2 (T:Tab) (H:Heap) (u:TypeId) (ok:Bool):V→OR
 | .iface t w=>cond (Nat.beq t u) (.val (cond ok (.tuple [w,.bool true]) w) H)
    (cond ok (match T.zeroV u with
     | some z=>.val (.tuple [z,.bool false]) H
     | none=>.stuck) .stuck)
 | .nilIface=>cond ok (match T.zeroV u with
     | some z=>.val (.tuple [z,.bool false]) H
     | none=>.stuck) .stuck
 | _=>.stuck
theorem xo_asr2 {x:Operand} {s u:TypeId} {ok:Bool} (h:isIface T u=some false):execOp T a H (.typeAssert x s u ok)=op1 a x (asr2 T H u ok):=by
 show op1 a x _=op1 a x _
 congr 1;funext v
 unfold isIface at h
 cases hu:T.und u with
 | none=>rw [hu] at h;cases h
 | some td =>
   cases td with
   | interface m=>rw [hu] at h;cases h
   | _=>cases v <;> rfl
theorem vop_ok (r:Rl g st a H P μ F []) (op:Op):OkR g st a P H μ (execOp T a H op) (vop T st op):=by
 cases op with
 | move x=>exact ev1_ok r fun d v hv=>okV r hv
 | assign x=>exact ev1_ok r fun d v hv=>okV r hv
 | pick c x y =>
   refine ev1_ok r fun d v hv=>?_
   cases d with
   | atom w =>
     rw [hv.atomInv.2]
     cases w with
     | bool b=>cases b <;> exact ev1_ok r fun d v hv=>okV r hv
     | _=>trivial
   | _=>trivial
 | alloc t =>
   rw [xo_alloc];simp only [vop]
   cases T.zero t with
   | none=>trivial
   | some z =>
     obtain ⟨r1,q1⟩:=r.newCell (RL.atoms z);exact ⟨_,_,_,_,rfl,r1,q1⟩
 | box t x =>
   rw [xo_box];refine ev1_ok r fun d v hv=>?_
   cases hc:cellsD st.so d with
   | none=>trivial
   | some cs =>
     obtain ⟨r1,q1⟩:=r.newCell (r.cellsOk hc hv).1;exact ⟨_,_,_,_,rfl,r1,q1⟩
 | build t ps =>
   rw [xo_build];simp only [vop]
   cases hp:st.evalParts ps.toList with
   | none=>trivial
   | some qs =>
     obtain ⟨vs,e,rp⟩:=r.evalPartsOk hp;rw [e];exact okD' r fun d h=>r.buildOk h rp
 | buildSlice t n ps =>
   simp only [vop]
   cases hp:st.evalParts ps.toList with
   | none=>trivial
   | some qs =>
     obtain ⟨vs,e,rp⟩:=r.evalPartsOk hp;simp only [vLitO]
     cases hl:vLit T st.so t n qs with
     | none=>trivial
     | some q =>
       obtain ⟨d,so'⟩:=q;obtain ⟨v,H',μ',F',e1,r1,q1⟩:=r.litOk hl e rp;exact ⟨v,H',μ',F',e1,r1,q1⟩
 | load t x =>
   rw [xo_load];refine ev1_ok r fun d v hv=>okD' r fun d' h=>?_;obtain ⟨l,o,u,rfl,e,q⟩:=r.loadOk h hv;exact ⟨u,e,q⟩
 | store t x y =>
   refine ev1_ok r fun p u hp=>?_
   have key:OkR g st a P H μ (op1 a y fun w=>OR.ofH (storeP T H t u w)) (ev1 st y fun d=>.ofS (vStore T st.so t p d)):=by
    refine ev1_ok r fun d w hw=>?_
    cases hs:vStore T st.so t p d with
    | none=>trivial
    | some so' =>
      obtain ⟨l,o,H',μ',F',rfl,e,r1,_⟩:=r.storeOk hs hp hw;exact ⟨undefV,H',μ',F',by simp only [storeP,e,OR.ofH],r1,.unk .nil⟩
   cases hst:ev1 st y fun d=>VR.ofS (vStore T st.so t p d) with
   | stuck=>trivial
   | _ =>
     rw [hst] at key
     cases u with
     | ptr l o=>exact key
     | _ =>
       exfalso
       simp only [ev1] at hst;split at hst
       ·rename_i d hd;obtain ⟨w,_,hw⟩:=r.evalOk hd
        cases hs:vStore T st.so t p d with
        | none=>rw [hs] at hst;cases hst
        | some so' =>
          obtain ⟨l,o,H',μ',F',e,_⟩:=r.storeOk hs hp hw
          cases e
       ·cases hst
 | nilCheck x =>
   rw [xo_nilCheck];refine ev1_ok r fun d v hv=>?_
   by_cases hn:nnD st.so d=true
   ·rw [if_pos hn]
    cases d with
    | fn f u w=>obtain ⟨_,_,_,_,rfl,_⟩:=hv.fnInv;exact okV r hv
    | iface t d=>obtain ⟨w,rfl,_⟩:=hv.ifaceInv;exact okV r hv
    | atom w =>
      unfold nnD at hn;split at hn
      ·rename_i e;cases e
      ·rename_i e;cases e;rw [hv.atomInv.2];exact okV r (.atom .nil)
      ·rename_i e;cases e
      ·cases hn
    | _ =>
      obtain ⟨l,o,rfl⟩:=r.liveOk (by exact hn) hv;exact okV r hv
   ·rw [if_neg hn];trivial
 | binOp op t x y z =>
   rw [xo_binOp];exact ev1_ok r fun d v hv=>ev1_ok r fun d' v' hv'=>okD' r fun d2 h=>r.binOk h hv hv'
 | unOp op t x =>
   rw [xo_unOp];refine ev1_ok r fun d v hv=>okD' r fun d2 h=>?_
   cases d with
   | atom w =>
     simp only [vUn,Option.map_eq_some_iff] at h;obtain ⟨u,h1,rfl⟩:=h;exact ⟨u,by rw [hv.atomInv.2];exact h1,.atom .nil⟩
   | _=>cases h
 | convert s t x =>
   refine ev1_ok r fun d v hv=>?_
   cases hc:vConv T st.so s t d with
   | none=>trivial
   | some q =>
     obtain ⟨d',so'⟩:=q;obtain ⟨u,H',μ',F',e,r1,q1⟩:=r.convOk hc hv;exact ⟨u,H',μ',F',by rw [e];rfl,r1,q1⟩
 | makeInterface t x =>
   simp only [vop]
   by_cases hi:isIface T t=some false
   ·rw [xo_makeInterface t hi];refine ev1_ok r fun d v hv=>?_;rw [if_pos hi];exact okV r hv.iface1
   ·simp only [if_neg hi,ev1];split <;> trivial
 | makeFunc fn first captured =>
   cases fn with
   | func f =>
     rw [xo_makeFunc];simp only [vop]
     cases h1:st.evals first.toList with
     | none=>trivial
     | some u =>
       cases h2:st.evals captured.toList with
       | none=>trivial
       | some w =>
         obtain ⟨us,e1,q1⟩:=r.evalsOk h1;obtain ⟨ws,e2,q2⟩:=r.evalsOk h2;rw [e1,e2];exact okV r (by simpa using q1.fn1 q2)
   | _=>trivial
 | makeSlice t x y =>
   rw [xo_mkS];refine ev1_ok r fun d v hv=>ev1_ok r fun d' v' hv'=>?_
   cases hc:vMake T st.so t d d' with
   | none=>trivial
   | some q =>
     obtain ⟨d',so'⟩:=q;obtain ⟨u,H',μ',F',e,r1,q1⟩:=r.makeOk hc hv hv';exact ⟨u,H',μ',F',e,r1,q1⟩
 | slice t x lo hi mx =>
   cases mx with
   | some m=>trivial
   | none =>
     refine ev1_ok r fun d v hv=>?_
     have ho:∀ (o:Option Operand) (od:Option D),evalOptD st o=some od→∃ ov,evalOpt a o=some ov∧RO P H μ od ov:=by
      intro o od h
      cases o with
      | none=>cases h;exact ⟨none,rfl,trivial⟩
      | some x =>
        simp only [evalOptD,Option.map_eq_some_iff] at h;obtain ⟨d,h1,rfl⟩:=h;obtain ⟨v,e,hv⟩:=r.evalOk h1;exact ⟨some v,by simp only [evalOpt,e,Option.map_some],hv⟩
     cases h1:evalOptD st lo with
     | none=>trivial
     | some lo' =>
       cases h2:evalOptD st hi with
       | none=>trivial
       | some hi' =>
         obtain ⟨lv,e1,q1⟩:=ho _ _ h1;obtain ⟨hv',e2,q2⟩:=ho _ _ h2;simp only [e1,e2,evalOpt_none,vCut]
         cases hc:vSlice T st.so t d lo' hi' with
         | none=>trivial
         | some q =>
           obtain ⟨d',so'⟩:=q;obtain ⟨u,μ',F',e,r1,q1⟩:=r.sliceOk hc hv q1 q2;exact ⟨u,H,μ',F',by rw [e];rfl,r1,q1⟩
 | fieldAddr t x i =>
   rw [xo_fieldAddr];refine ev1_ok r fun d v hv=>?_
   by_cases hl:live st.so d=true
   ·rw [if_pos hl]
    cases hf:vFld T t i d with
    | none=>trivial
    | some d' =>
      obtain ⟨c,e1,e2,q⟩:=r.fldOk hl hf hv;rw [e1,e2];exact okV r q
   ·rw [if_neg hl];trivial
 | field t x i =>
   refine ev1_ok r fun d v hv=>?_
   cases d with
   | agg cs =>
     obtain ⟨ws,rfl,q⟩:=hv.aggInv;simp only [vField,fldTy]
     cases hf:fieldsOf T t with
     | none=>trivial
     | some fs =>
       simp only
       cases hi:fs[i]? with
       | none=>trivial
       | some f =>
         simp only [Option.map_some];exact okD' r fun d h=>part_ok q h
   | _=>trivial
 | indexAddr t x i =>
   rw [xo_indexAddr];exact ev1_ok r fun d v hv=>ev1_ok r fun d' v' hv'=>okD' r fun d2 h=>r.idxOk h hv hv'
 | index t x i =>
   refine ev1_ok r fun d v hv=>ev1_ok r fun d' v' hv'=>?_
   by_cases hag:∃ cs,d=.agg cs
   ·obtain ⟨cs,rfl⟩:=hag;obtain ⟨ws,rfl,q⟩:=hv.aggInv;simp only [vIndex]
    cases hj:natI d' with
    | none=>trivial
    | some j =>
      simp only [vArr]
      cases ha:arrOf T t with
      | none=>trivial
      | some p =>
        obtain ⟨n,e,s⟩:=p;obtain ⟨h1,b,h2⟩:=arrOf_eq ha;simp only
        by_cases hjn:j<n
        ·rw [if_pos hjn];have h7:Nat.blt j n=true:=by rw [Nat.blt_eq];exact hjn
         simp only [h1,natI_ok hj hv',h2,h7,cond_true];exact okD' r fun d h=>part_ok q h
        ·rw [if_neg hjn];trivial
   have key:∀ d2,vIndex T t d d'=some d2→∃ u,(∃ s j,v=.str s∧natOf v'=some j∧T.und t=some .string∧(s[j]?).map (fun b=>V.int .u8 b.toNat)=some u)∧d2=.atom u:=by
    intro d2 h
    cases d with
    | agg cs=>exact absurd ⟨cs,rfl⟩ hag
    | atom w =>
      cases w with
      | str s =>
        simp only [vIndex] at h
        cases hj:natI d' with
        | none=>rw [hj] at h;cases h
        | some j =>
          rw [hj] at h;simp only at h;split at h
          ·rename_i ht;unfold isStr at ht;split at ht
           ·rename_i he
            cases hb:s[j]? with
            | none=>rw [hb] at h;cases h
            | some b =>
              rw [hb] at h;cases h;exact ⟨_,⟨s,j,hv.atomInv.2,natI_ok hj hv',he,by rw [hb];rfl⟩,rfl⟩
           ·cases ht
          ·cases h
      | _=>cases h
    | _=>cases h
   cases hi:vIndex T t d d' with
   | none=>trivial
   | some d2 =>
     obtain ⟨u,⟨s,j,rfl,hn,he,hb⟩,rfl⟩:=key d2 hi;simp only [he,hn]
     cases hs:s[j]? with
     | none=>rw [hs] at hb;cases hb
     | some b=>rw [hs] at hb;cases hb;exact okV r (.atom .nil)
 | typeAssert x t u ok =>
   simp only [vop]
   by_cases hi:isIface T u=some false
   ·rw [xo_asr2 hi];refine ev1_ok r fun d v hv=>?_;simp only [vAssert,if_pos hi]
    cases d with
    | iface t' d' =>
      obtain ⟨w,rfl,q⟩:=hv.ifaceInv;simp only [asr2]
      by_cases ht:t'=u
      ·rw [if_pos ht];have hb:Nat.beq t' u=true:=by rw [Nat.beq_eq];exact ht
       rw [hb]
       cases ok
       ·exact okV r q
       ·exact okV r (RL.tuple1 (q.cons (RL.atom1 _)))
      ·rw [if_neg ht]
       have hb:Nat.beq t' u=false:=by
        cases h:Nat.beq t' u
        ·rfl
        ·rw [Nat.beq_eq] at h;exact absurd h ht
       rw [hb]
       cases ok
       ·simp only [Bool.false_eq_true,if_false];trivial
       ·simp only [if_true,cond_true,cond_false]
        cases T.zeroV u with
        | none=>trivial
        | some z=>exact okV r (RL.tuple1 ((cD_ok z).cons (RL.atom1 _)))
    | atom w =>
      rw [hv.atomInv.2]
      cases w with
      | nilIface =>
        simp only [asr2]
        cases ok
        ·simp only [Bool.false_eq_true,if_false];trivial
        ·simp only [if_true,cond_true]
         cases T.zeroV u with
         | none=>trivial
         | some z=>exact okV r (RL.tuple1 ((cD_ok z).cons (RL.atom1 _)))
      | _=>trivial
    | _=>trivial
   ·simp only [vAssert,if_neg hi,ev1];split <;> trivial
 | extract x i =>
   rw [xo_extract];refine ev1_ok r fun d v hv=>okD' r fun d2 h=>?_
   cases d with
   | tuple ds =>
     obtain ⟨ws,rfl,q⟩:=hv.tupleInv;obtain ⟨w,e,q1⟩:=q.at h;exact ⟨w,e,q1⟩
   | _=>cases h
 | makeMap t x =>
   cases x with
   | none =>
     obtain ⟨r1,q1⟩:=r.newMap;exact ⟨_,_,_,_,rfl,r1,q1⟩
   | some x=>trivial
 | lookup t x i ok =>
   exact ev1_ok r fun d v hv=>ev1_ok r fun d' v' hv'=>okD' r fun d2 h=>r.lookupOk h hv hv'
 | mapUpdate t m k x =>
   refine ev1_ok r fun d v hv=>ev1_ok r fun d' v' hv'=>ev1_ok r fun d2 v2 hv2=>?_
   cases hs:vUpd T st.so t d d' d2 with
   | none=>trivial
   | some so' =>
     obtain ⟨H',μ',F',e,r1⟩:=r.updOk hs hv hv' hv2;exact ⟨undefV,H',μ',F',by rw [e];rfl,r1,.unk .nil⟩
 | insert t m k x =>
   refine ev1_ok r fun d v hv=>ev1_ok r fun d' v' hv'=>ev1_ok r fun d2 v2 hv2=>?_
   cases hs:vUpd T st.so t d d' d2 with
   | none=>trivial
   | some so' =>
     obtain ⟨H',μ',F',e,r1⟩:=r.updOk hs hv hv' hv2;exact ⟨undefV,H',μ',F',by rw [e];rfl,r1,.unk .nil⟩
 | call c =>
   obtain ⟨cal,args,ts⟩:=c;simp only [vop,vCall,xo_call]
   cases cal with
   | builtin b =>
     rw [callOp_builtin]
     cases h1:st.evals args.toList with
     | none=>trivial
     | some ds =>
       obtain ⟨vs,e1,q1⟩:=r.evalsOk h1;rw [e1];simp only [vBuiltinO,vBuiltin];have hts:∀ l,ts.toList=l→ts=l.toArray:=fun l h=>by rw [← h]
       split
       ·split
        ·rename_i t x ht;rw [hts _ ht];obtain ⟨v,rfl,q⟩:=q1.one;unfold vLens;split
         ·rename_i hs;rw [b_len t hs]
          exact okD' r fun d h=>by
           simp only [Option.map_eq_some_iff] at h;obtain ⟨n,h2,rfl⟩:=h;rw [r.lenOk h2 q];exact ⟨_,rfl,.atom .nil⟩
         ·split
          ·split
           ·rename_i hs;rw [q.atomInv.2,b_len_str t hs];exact okV r (.atom .nil)
           ·trivial
          ·rename_i j;split
           ·rename_i hm
            cases hl:lenM st.so[j]? with
            | none=>trivial
            | some d =>
              obtain ⟨u,e,q2⟩:=r.lenMOk (T:=T) hm hl q;rw [e];exact okV r q2
           ·trivial
          ·trivial
        ·trivial
       ·split
        ·rename_i t0 t1 x y ht;rw [hts _ ht];obtain ⟨v1,vs',G1,G2,rfl,hF,q2,q3⟩:=q1.uncons;have hF':=hF.symm;rw [List.append_eq_nil_iff] at hF';rw [hF'.1] at q2;rw [hF'.2] at q3;obtain ⟨v2,rfl,q4⟩:=q3.one;rw [b_append]
         cases hc:vAppend T st.so t0 t1 x y with
         | none=>trivial
         | some q =>
           obtain ⟨d',so'⟩:=q;obtain ⟨u,H',μ',F',e,r1,q1⟩:=r.appendOk hc q2 q4;exact ⟨u,H',μ',F',by rw [e];rfl,r1,q1⟩
        ·trivial
       ·cases ha:atomsOf ds with
        | none=>trivial
        | some us =>
          rw [atomsOf_ok ha q1]
          cases us with
          | nil=>trivial
          | cons x xs =>
            refine okD' r fun d h=>?_;simp only [Option.map_eq_some_iff] at h;obtain ⟨v,h2,rfl⟩:=h;exact ⟨v,h2,.atom .nil⟩
       ·cases ha:atomsOf ds with
        | none=>trivial
        | some us =>
          rw [atomsOf_ok ha q1]
          cases us with
          | nil=>trivial
          | cons x xs =>
            refine okD' r fun d h=>?_;simp only [Option.map_eq_some_iff] at h;obtain ⟨v,h2,rfl⟩:=h;exact ⟨v,h2,.atom .nil⟩
       ·trivial
   | value f =>
     show OkR g st a P H μ _ (vValueO (st.eval f) (st.evals args.toList))
     cases h0:st.eval f with
     | none=>trivial
     | some fd =>
       cases h1:st.evals args.toList with
       | none=>trivial
       | some ds =>
         obtain ⟨fv,e0,q0⟩:=r.evalOk h0;obtain ⟨vs,e1,q1⟩:=r.evalsOk h1;have hex:callOp T a H { callee:=.value f,args:=args,argTypes:=ts }=callee fv vs:=by simp only [callOp,e0,e1]
         rw [hex]
         cases fd with
         | fn g' u w =>
           obtain ⟨us',ws',F1,F2,rfl,hF,q2,q3⟩:=q0.fnInv;have hF':=hF.symm;rw [List.append_eq_nil_iff] at hF';rw [hF'.1] at q2;rw [hF'.2] at q3;exact ⟨us'++(vs++ws'),by simp only [callee,List.append_assoc],by simpa using q2.app (q1.app q3)⟩
         | atom w =>
           rw [q0.atomInv.2]
           cases w with
           | func fn u w =>
             cases fn with
             | func g'=>exact ⟨u++(vs++w),by simp only [callee,List.append_assoc],by simpa using (RL.atoms _).app (q1.app (RL.atoms _))⟩
             | yield l =>
               cases u with
               | nil =>
                 cases w with
                 | nil=>exact ⟨vs,rfl,q1⟩
                 | cons _ _=>trivial
               | cons _ _=>trivial
             | _=>trivial
           | _=>trivial
         | _=>trivial
   | invoke rv name =>
     show OkR g st a P H μ _ (vInvoke T st.so name (st.eval rv) (st.evals args.toList))
     cases h0:st.eval rv with
     | none=>trivial
     | some fd =>
       cases h1:st.evals args.toList with
       | none=>cases fd <;> trivial
       | some ds =>
         obtain ⟨fv,e0,q0⟩:=r.evalOk h0;obtain ⟨vs,e1,q1⟩:=r.evalsOk h1;have hex:callOp T a H { callee:=.invoke rv name,args:=args,argTypes:=ts }=invoked T H fv name vs:=by simp only [callOp,e0,e1]
         rw [hex]
         cases fd with
         | iface t d =>
           obtain ⟨w,rfl,q⟩:=q0.ifaceInv;simp only [vInvoke,vMeth];split
           ·rename_i f hm;rw [invoked_self hm];exact ⟨_,rfl,by simpa using q.cons q1⟩
           ·rename_i f e hm;split
            ·rename_i x hx;obtain ⟨l,o,u,rfl,e2,q2⟩:=r.loadOk hx q;rw [invoked_deref (v:=.ptr l o) hm (w:=u) e2];exact ⟨_,rfl,by simpa using q2.cons q1⟩
            ·trivial
           ·trivial
         | _=>trivial
 | _=>trivial
end Go.Am.Vm

namespace Go.Am.Vm
open Go.Am
variable {T:Tab} {P P':Nat→Prop} {H H':Heap} {μ μ':List Hd} {ds es cs:List D} {vs ws us:List V} {F G X K F' X':List Nat} {d:D} {v:V} {μ0 μ1 hs gs:List Hd} {obs ots so so':List Ob} {ob:Ob}
 {g:Gh} {st:St} {a:A}
/-! ### What a function does -/
def Post (g:Gh) (R:D→Prop) (v:V) (H':Heap):Prop:=
 ∃ d P' F',R d∧RL P' H' [] [d] [v] F'∧F'.Nodup∧(∀ l,l∈F'→¬ P' l∧(g.B l∨g.H0.n≤l)∧l<H'.n)∧(∀ l,g.P0 l→P' l)∧(∀ l,P' l→(g.P0 l∨g.B l∨g.H0.n≤l)∧∃ o,H'.get l=some o)∧ExtB g.B g.H0 H'
def VC (T:Tab) (f:FuncId) (ds:List D) (R:D→Prop):Prop:=
 ∀ (P:Nat→Prop) (H:Heap) (vs:List V),H.WF→(∀ l,P l→∃ o,H.get l=some o)→RL P H [] ds vs []→CallsTo T f vs H (Post ⟨H,P,fun _=>False,[],none,fun r=>H.n≤r⟩ R)
def PostM (g:Gh) (R:D→List Ob→Prop) (v:V) (H':Heap):Prop:=
 ∃ d so' P' μ' F',R d so'∧RL P' H' μ' [d] [v] []∧OL P' H' μ' μ' so' F'∧GoesL g.μ0 μ'∧F'.Nodup∧(∀ l,l∈F'→¬ P' l∧(g.B l∨g.H0.n≤l)∧l<H'.n)∧(∀ l,g.P0 l→P' l)∧(∀ l,P' l→(g.P0 l∨g.B l∨g.H0.n≤l)∧∃ o,H'.get l=some o)∧ExtB g.B g.H0 H'
def VM (T:Tab) (f:FuncId) (ds:List D) (so:List Ob) (R:D→List Ob→Prop):Prop:=
 ∀ (P:Nat→Prop) (H:Heap) (μ:List Hd) (F:List Nat) (vs:List V),H.WF→(∀ l,P l→∃ o,H.get l=some o)→OL P H μ μ so F→F.Nodup→(∀ l,l∈F→¬ P l∧l<H.n)→RL P H μ ds vs [] →
   CallsTo T f vs H (PostM ⟨H,P,fun l=>l∈F,μ,none,fun r=>H.n≤r⟩ R)
theorem VC.mono {f:FuncId} {R R':D→Prop} (h:VC T f ds R) (k:∀ d,R d→R' d):VC T f ds R':=fun P H vs wf pl r =>
 (h P H vs wf pl r).mono fun v H' ⟨d,P',F',a,b⟩=>⟨d,P',F',k d a,b⟩
theorem VM.mono {f:FuncId} {R R':D→List Ob→Prop} (h:VM T f ds so R) (k:∀ d s,R d s→R' d s):VM T f ds so R':=fun P H μ F vs wf pl o n l r =>
 (h P H μ F vs wf pl o n l r).mono fun v H' ⟨d,s,P',μ',F',a,b⟩=>⟨d,s,P',μ',F',k d s a,b⟩
/-! ### Taking in what a call hands back -/
def in0 (so:List Ob):D→D×List Ob
 | .fresh s es=>(.own so.length es.length,so++[.sl s es])
 | d=>(d,so)
def inL (so:List Ob):List D→List D×List Ob
 | []=>([],so)
 | d::ds=>((in0 so d).1::(inL (in0 so d).2 ds).1,(inL (in0 so d).2 ds).2)
def inA (so:List Ob):D→D×List Ob
 | .agg ds=>(.agg (inL so ds).1,(inL so ds).2)
 | d=>in0 so d
def inT (so:List Ob):List D→List D×List Ob
 | []=>([],so)
 | d::ds=>((inA so d).1::(inT (inA so d).2 ds).1,(inT (inA so d).2 ds).2)
def inD (so:List Ob):D→D×List Ob
 | .tuple ds=>(.tuple (inT so ds).1,(inT so ds).2)
 | d=>inA so d
def ok0:D→Bool
 | .fresh _ _=>true
 | d=>D.nf d
def okA:D→Bool
 | .agg ds=>ds.all ok0
 | d=>ok0 d
def okI:D→Bool
 | .tuple ds=>ds.all okA
 | d=>okA d
theorem in0_ok (r:Rl g st a H P μ F (K++X)) (hv:RL P H [] [d] [v] K) (h:ok0 d=true):∃ μ' F',Rl g ⟨st.tm,(in0 st.so d).2,st.n⟩ a H P μ' F' X∧RL P H μ' [(in0 st.so d).1] [v] []∧GoesL μ μ':=by
 have base:∀ {d},RL P H [] [d] [v] K→D.nf d=true→∃ μ' F',Rl g st a H P μ' F' X∧RL P H μ' [d] [v] []∧GoesL μ μ':=by
  intro d hv hd;have:=hv.nf (by simp [nfL,hd]);subst this;exact ⟨μ,F,r,hv.any,GoesL.refl μ⟩
 cases d with
 | fresh s es =>
   simp only [in0]
   cases hv with
   | freshNil h0 =>
     obtain ⟨_,rfl⟩:=h0.nil_inv;refine ⟨_,_,r.take (ob:=.sl s []) (x:=.sl .nilSlice 0 s) (.slNil .nil),RL.own1 (h:=.sl .nilSlice 0 s) ?_ (fun w m z e=>by cases e;exact ⟨Nat.le_refl _,fun _=>rfl⟩),GoesL.app _ _⟩;rw [← r.obs.len,List.getElem?_append_right (Nat.le_refl _)];simp
   | @fresh _ l s q pre ws rest es ds vs F1 G g' r' el u1 cq h0 =>
     obtain ⟨_,rfl⟩:=h0.nil_inv;refine ⟨_,_,r.take (ob:=.sl s es) (x:=.sl (.slice l pre.length es.length s q) es.length s) (.sl g' r'.any el u1 cq .nil),RL.own1 (h:=.sl (.slice l pre.length es.length s q) es.length s) ?_ (fun w m z e=>by cases e;exact ⟨Nat.le_refl _,fun _=>rfl⟩),GoesL.app _ _⟩;rw [← r.obs.len,List.getElem?_append_right (Nat.le_refl _)];simp
 | _=>exact base hv h
theorem inL_ok:∀ {ds:List D} {vs:List V} {st:St} {μ:List Hd} {F K X:List Nat},Rl g st a H P μ F (K++X)→RL P H [] ds vs K→ds.all ok0=true→∃ μ' F',Rl g ⟨st.tm,(inL st.so ds).2,st.n⟩ a H P μ' F' X∧RL P H μ' (inL st.so ds).1 vs []∧GoesL μ μ'
 | [],vs,st,μ,F,K,X,r,hv,h=>by obtain ⟨rfl,rfl⟩:=hv.nil_inv;exact ⟨μ,F,r,.nil,GoesL.refl μ⟩
 | d::ds,vs,st,μ,F,K,X,r,hv,h=>by
   simp only [List.all_cons,Bool.and_eq_true] at h;obtain ⟨v,vs',K1,K2,rfl,rfl,q1,q2⟩:=hv.uncons;obtain ⟨μ1,F1,r1,p1,g1⟩:=in0_ok (K:=K1) (X:=K2++X) (by simpa using r) q1 h.1;obtain ⟨μ2,F2,r2,p2,g2⟩:=inL_ok (st:=⟨st.tm,(in0 st.so d).2,st.n⟩) r1 q2 h.2;exact ⟨μ2,F2,r2,by simpa [inL] using (p1.goes g2).cons p2,g1.trans g2⟩
theorem inA_ok (r:Rl g st a H P μ F (K++X)) (hv:RL P H [] [d] [v] K) (h:okA d=true):∃ μ' F',Rl g ⟨st.tm,(inA st.so d).2,st.n⟩ a H P μ' F' X∧RL P H μ' [(inA st.so d).1] [v] []∧GoesL μ μ':=by
 cases d with
 | agg ds =>
   obtain ⟨ws,rfl,q⟩:=hv.aggInv;obtain ⟨μ',F',r1,q1,g1⟩:=inL_ok r q h;exact ⟨μ',F',r1,q1.agg1,g1⟩
 | _=>exact in0_ok r hv h
theorem inT_ok:∀ {ds:List D} {vs:List V} {st:St} {μ:List Hd} {F K X:List Nat},Rl g st a H P μ F (K++X)→RL P H [] ds vs K→ds.all okA=true→∃ μ' F',Rl g ⟨st.tm,(inT st.so ds).2,st.n⟩ a H P μ' F' X∧RL P H μ' (inT st.so ds).1 vs []∧GoesL μ μ'
 | [],vs,st,μ,F,K,X,r,hv,h=>by obtain ⟨rfl,rfl⟩:=hv.nil_inv;exact ⟨μ,F,r,.nil,GoesL.refl μ⟩
 | d::ds,vs,st,μ,F,K,X,r,hv,h=>by
   simp only [List.all_cons,Bool.and_eq_true] at h;obtain ⟨v,vs',K1,K2,rfl,rfl,q1,q2⟩:=hv.uncons;obtain ⟨μ1,F1,r1,p1,g1⟩:=inA_ok (K:=K1) (X:=K2++X) (by simpa using r) q1 h.1;obtain ⟨μ2,F2,r2,p2,g2⟩:=inT_ok (st:=⟨st.tm,(inA st.so d).2,st.n⟩) r1 q2 h.2;exact ⟨μ2,F2,r2,by simpa [inT] using (p1.goes g2).cons p2,g1.trans g2⟩
theorem inD_ok (r:Rl g st a H P μ F (K++X)) (hv:RL P H [] [d] [v] K) (h:okI d=true):∃ μ' F',Rl g ⟨st.tm,(inD st.so d).2,st.n⟩ a H P μ' F' X∧RL P H μ' [(inD st.so d).1] [v] []∧GoesL μ μ':=by
 cases d with
 | tuple ds =>
   obtain ⟨ws,rfl,q⟩:=hv.tupleInv;obtain ⟨μ',F',r1,q1,g1⟩:=inT_ok r q h;exact ⟨μ',F',r1,q1.tuple1,g1⟩
 | _=>exact inA_ok r hv h
mutual
/-- It leans on nothing that it does not hold itself. -/
def D.pr:D→Bool
 | .imm _ _=>false
 | .iptr _ _=>false
 | .fresh _ es=>prLL es
 | .agg ds=>prL ds
 | .tuple ds=>prL ds
 | .iface t d=>D.pr d
 | .fn f u w=>prL u && prL w
 | .unk=>true
 | .atom v=>true
 | .own _ _=>true
 | .optr _ _ _ _=>true
 | .rptr _ _=>true
 | .omap _=>true
def prL:List D→Bool
 | []=>true
 | d::ds=>D.pr d && prL ds
def prLL:List (List D)→Bool
 | []=>true
 | e::es=>prL e && prLL es
end
theorem prL_append:∀ (a b:List D),prL (a++b)=(prL a && prL b)
 | [],b=>by simp [prL]
 | d::a,b=>by simp [prL,prL_append a b,Bool.and_assoc]
theorem prLL_flatten:∀ es:List (List D),prL es.flatten=prLL es
 | []=>rfl
 | e::es=>by simp [prL_append,prLL,prLL_flatten es]
theorem prLL_map {α:Type} {f:α→List D} (h:∀ x,prL (f x)=true):∀ xs:List α,prLL (xs.map f)=true
 | []=>rfl
 | x::xs=>by simp [prLL,h x,prLL_map h xs]
theorem RL.pr (h:RL P H μ ds vs F):prL ds=true→∀ {Q:Nat→Prop},RL Q H μ ds vs F:=by
 induction h with
 | nil=>exact fun _ Q=>.nil
 | unk h ih=>intro e Q;simp only [prL,D.pr,Bool.true_and] at e;exact .unk (ih e)
 | atom h ih=>intro e Q;simp only [prL,D.pr,Bool.true_and] at e;exact .atom (ih e)
 | agg h1 h2 i1 i2=>intro e Q;simp only [prL,D.pr,Bool.and_eq_true] at e;exact .agg (i1 e.1) (i2 e.2)
 | tuple h1 h2 i1 i2=>intro e Q;simp only [prL,D.pr,Bool.and_eq_true] at e;exact .tuple (i1 e.1) (i2 e.2)
 | iface h1 h2 i1 i2=>intro e Q;simp only [prL,D.pr,Bool.and_eq_true] at e;exact .iface (i1 (by simp [prL,e.1])) (i2 e.2)
 | fn h1 h2 h3 i1 i2 i3=>intro e Q;simp only [prL,D.pr,Bool.and_eq_true] at e;exact .fn (i1 e.1.1) (i2 e.1.2) (i3 e.2)
 | immNil h ih=>intro e Q;simp [prL,D.pr] at e
 | imm p g t r e u c h ir ih=>intro k Q;simp [prL,D.pr] at k
 | iptr p g t r h ir ih=>intro k Q;simp [prL,D.pr] at k
 | own m c h ih=>intro e Q;simp only [prL,D.pr,Bool.true_and] at e;exact .own m c (ih e)
 | optr m c h ih=>intro e Q;simp only [prL,D.pr,Bool.true_and] at e;exact .optr m c (ih e)
 | rptr m c h ih=>intro e Q;simp only [prL,D.pr,Bool.true_and] at e;exact .rptr m c (ih e)
 | omap m c h ih=>intro e Q;simp only [prL,D.pr,Bool.true_and] at e;exact .omap m c (ih e)
 | freshNil h ih=>intro e Q;simp only [prL,D.pr,prLL,Bool.true_and] at e;exact .freshNil (ih e)
 | fresh g r e u c h ir ih=>intro k Q;simp only [prL,D.pr,Bool.and_eq_true] at k;exact .fresh g (ir (by rw [prLL_flatten];exact k.1)) e u c (ih k.2)
/-! ### A call -/
theorem Rl.after (r:Rl g st a H P μ F []) (hx:Ext H H') (h1:∀ l,P l→P' l) (h2:∀ l,P' l→(P l∨H.n≤l)∧∃ o,H'.get l=some o) (nd:K.Nodup) (h3:∀ l,l∈K→¬ P' l∧H.n≤l∧l<H'.n):Rl g st a H' P' μ F K:=by
 have lt:=r.lt;simp only [List.nil_append] at lt;refine { wf:=hx.wf,nt:=r.nt,nd:=r.nd.to (fun _ u e _ _=>⟨hx.get _ _ e,u⟩) (fun l h=>(h2 l h).1.elim .inl fun h=>.inr (.inr h)) (fun l h=>(List.mem_append.1 h).elim (fun h=>.inr (h3 l h).2.1) .inl),tms:=fun t=>((r.tms t).perm_keep hx).weakP h1,obs:=(r.obs.keep fun l o _ e=>hx.get l o e).weakP h1,nodup:=?_,apart:=?_,old:=?_,lt:=?_,p1:=fun l h=>h1 l (r.p1 l h),p2:=?_,pl:=fun l h=>(h2 l h).2,ext:=r.ext.trans' (hx.but fun _=>False) fun l h=>h.elim,gl:=r.gl }
 ·rw [List.nodup_append];exact ⟨nd,r.nodup,fun a ha b hb e=>by subst e;have:=(h3 a ha).2.1;have:=lt a hb;omega⟩
 ·intro l h p;rcases List.mem_append.1 h with h | h
  ·exact (h3 l h).1 p
  ·rcases (h2 l p).1 with p | p
   ·exact r.apart l (by simpa using h) p
   ·have:=lt l h;omega
 ·intro l h;rcases List.mem_append.1 h with h | h
  ·exact .inr (Nat.le_trans r.ext.n (h3 l h).2.1)
  ·exact r.old l (by simpa using h)
 ·intro l h;rcases List.mem_append.1 h with h | h
  ·exact (h3 l h).2.2
  ·exact Nat.lt_of_lt_of_le (lt l h) hx.n
 ·intro l p;rcases (h2 l p).1 with p | p
  ·exact r.p2 l p
  ·exact .inr (.inr (Nat.le_trans r.ext.n p))
def CallP (T:Tab) (st:St) (f:FuncId) (ds:List D) (N:D→List Ob→Prop):Prop:=
 ∀ (g:Gh) (a:A) (H:Heap) (P:Nat→Prop) (μ:List Hd) (F:List Nat) (vs:List V),Rl g st a H P μ F []→RL P H μ ds vs [] →
   CallsTo T f vs H fun v H'=>∃ d so' P' μ' F',N d so'∧Rl g ⟨st.tm,so',st.n⟩ a H' P' μ' F' []∧RL P' H' μ' [d] [v] []
def RoundP (T:Tab) (st:St) (l:Nat) (ds:List D) (N:D→List Ob→Prop):Prop:=
 ∀ (g:Gh) (a:A) (H:Heap) (P:Nat→Prop) (μ:List Hd) (F:List Nat) (vs:List V),Rl g st a H P μ F []→RL P H μ ds vs [] →
   RoundTo T l vs H fun v H'=>∃ d so' P' μ' F',N d so'∧Rl g ⟨st.tm,so',st.n⟩ a H' P' μ' F' []∧RL P' H' μ' [d] [v] []
theorem call_pure {f:FuncId} {R:D→Prop} {N:D→List Ob→Prop} (h:VC T f (ds.map (im1 st.so)) R) (k:∀ d,R d→D.pr d=true∧okI d=true∧N (inD st.so d).1 (inD st.so d).2):CallP T st f ds N:=by
 intro g a H P μ F vs r hv;have lt:=r.lt;simp only [List.nil_append] at lt;have hv2:=im1s_ok (μs:=[]) r.obs hv;refine (h (fun l=>P l∨l∈F) H vs r.wf (fun l hl=>hl.elim (r.pl l) fun h=>r.obs.get l h) hv2).mono fun v H' ⟨d,P',F',hR,q,nd,q2,q3,q4,q5⟩=>?_;obtain ⟨k1,k2,k3⟩:=k d hR;have hx:Ext H H':=⟨q5.n,fun l o e=>q5.get l o (fun h=>h) e,q5.wf⟩
 have r1:Rl g st a H' P μ F F':=r.after hx (fun l h=>h) (fun l h=>⟨.inl h,(r.pl l h).elim fun o e=>⟨o,hx.get _ _ e⟩⟩) nd fun l hl=>by
  obtain ⟨a1,a2,a3⟩:=q2 l hl;exact ⟨fun p=>a1 (q3 l (.inl p)),a2.elim (fun h=>h.elim) id,a3⟩
 obtain ⟨μ',F2,r2,p2,_⟩:=inD_ok (K:=F') (X:=[]) (by simpa using r1) (q.pr (by simp [prL,k1])) k2;exact ⟨_,_,P,μ',F2,k3,r2,p2⟩
theorem call_imm {f:FuncId} {R:D→Prop} {N:D→List Ob→Prop} (hn:nlL ds=true) (h:VC T f ds R) (k:∀ d,R d→okI d=true∧N (inD st.so d).1 (inD st.so d).2):CallP T st f ds N:=by
 intro g a H P μ F vs r hv;have hv2:RL P H [] ds vs []:=hv.nl hn;refine (h P H vs r.wf r.pl hv2).mono fun v H' ⟨d,P',F',hR,q,nd,q2,q3,q4,q5⟩=>?_;obtain ⟨k2,k3⟩:=k d hR;have hx:Ext H H':=⟨q5.n,fun l o e=>q5.get l o (fun h=>h) e,q5.wf⟩
 have r1:Rl g st a H' P' μ F F':=r.after hx q3 (fun l h=>⟨(q4 l h).1.imp id fun h=>h.elim (fun h=>h.elim) id,(q4 l h).2⟩) nd fun l hl=>by
  obtain ⟨a1,a2,a3⟩:=q2 l hl;exact ⟨a1,a2.elim (fun h=>h.elim) id,a3⟩
 obtain ⟨μ',F2,r2,p2,_⟩:=inD_ok (K:=F') (X:=[]) (by simpa using r1) q k2;exact ⟨_,_,P',μ',F2,k3,r2,p2⟩
theorem call_mut {f:FuncId} {R:D→List Ob→Prop} {N:D→List Ob→Prop} (h:VM T f ds st.so R) (k:∀ d s,R d s→N d s):CallP T st f ds N:=by
 intro g a H P μ F vs r hv;have lt:=r.lt;have nd:=r.nodup;have ap:=r.apart;have old:=r.old;simp only [List.nil_append] at lt nd ap old;refine (h P H μ F vs r.wf r.pl r.obs nd (fun l hl=>⟨ap l hl,lt l hl⟩) hv).mono fun v H' ⟨d,s,P',μ',F',hR,q,ol,gl,nd',q2,q3,q4,q5⟩=>?_;refine ⟨d,s,P',μ',F',k d s hR,{ wf:=q5.wf,nt:=r.nt,nd:=r.nd.to (fun _ u e _ hr=>⟨q5.get _ _ (fun hf=>hr (by simpa using hf)) e,u⟩) (fun l h=>(q4 l h).1.imp id fun h=>h.imp (fun h=>by simpa using h) id) (fun l h=>(q2 l (by simpa using h)).2.1.elim (fun h=>.inl (by simpa using h)) .inr),tms:=fun t=>?_,obs:=ol,nodup:=by simpa using nd',apart:=fun l hl=>(q2 l (by simpa using hl)).1,old:=fun l hl=>?_,lt:=fun l hl=>(q2 l (by simpa using hl)).2.2,p1:=fun l h=>q3 l (r.p1 l h),p2:=?_,pl:=fun l h=>(q4 l h).2,ext:=r.ext.trans' q5 fun l hl=>old l hl,gl:=r.gl.trans gl },q⟩
 ·exact (((r.tms t).goes gl).keep fun l o hl e=>q5.get l o (fun hf=>by
   rcases hl with h | h
   ·exact ap l hf h
   ·cases h) e).weakP q3
 ·rcases (q2 l (by simpa using hl)).2.1 with h | h
  ·exact old l h
  ·exact .inr (Nat.le_trans r.ext.n h)
 ·intro l p;rcases (q4 l p).1 with p | p | p
  ·exact r.p2 l p
  ·exact .inr (old l p)
  ·exact .inr (.inr (Nat.le_trans r.ext.n p))
/-! ### Regions -/
def wantedD (ops:Array Oper) (st:St) (o:Oper):Option Bool:=
 match o.guard with
 | none=>some true
 | some (j,want)=>match (ops[j]?).bind (·.dst) with
   | some d=>match tget st.tm d with
     | .atom (.bool b)=>some (b == want)
     | .tuple []=>some false
     | _=>none
   | none=>some false
theorem wantedOk (r:Rl g st a H P μ F X) {ops:Array Oper} {o:Oper} {b:Bool} (h:wantedD ops st o=some b):wanted ops a o=b:=by
 unfold wantedD at h;unfold wanted;split at h
 ·rename_i e;cases h;rw [e]
 ·rename_i j want e;rw [e];simp only;split at h
  ·rename_i d hd;rw [hd];simp only;split at h
   ·rename_i b' hb
    cases h
    have:=r.tms d;rw [hb] at this;rw [this.atomInv.2]
   ·rename_i hb
    cases h
    have:=r.tms d;rw [hb] at this;obtain ⟨ws,e2,_⟩:=this.tupleInv;rw [e2]
   ·cases h
  ·rename_i hd
   cases h
   rw [hd]
variable {ops:Array Oper} {os:List Oper} {κ:St→Prop}
def vO (T:Tab) (ops:Array Oper) (κ:St→Prop):List Oper→St→Prop
 | [],st=>κ st
 | o::os,st=>match wantedD ops st o with
   | some true=>match vop T st o.op with
     | .val d so'=>vO T ops κ os (St.put ⟨st.tm,so',st.n⟩ o.dst d)
     | .call f ds=>CallP T st f ds fun d so'=>vO T ops κ os (St.put ⟨st.tm,so',st.n⟩ o.dst d)
     | .round l ds=>RoundP T st l ds fun d so'=>vO T ops κ os (St.put ⟨st.tm,so',st.n⟩ o.dst d)
     | .stuck=>False
   | some false=>vO T ops κ os (st.put o.dst (.tuple []))
   | none=>False
def vN (T:Tab) (ops:Array Oper) (κ:St→Prop) (os:List Oper) (dst:Option Tmp) (st:St) (d:D) (so':List Ob):Prop:=vO T ops κ os (St.put ⟨st.tm,so',st.n⟩ dst d)
def vS (T:Tab) (ops:Array Oper) (κ:St→Prop) (os:List Oper) (dst:Option Tmp) (st:St):VR→Prop
 | .val d so'=>vO T ops κ os (St.put ⟨st.tm,so',st.n⟩ dst d)
 | .call f ds=>CallP T st f ds (vN T ops κ os dst st)
 | .round l ds=>RoundP T st l ds (vN T ops κ os dst st)
 | .stuck=>False
def vW (T:Tab) (ops:Array Oper) (κ:St→Prop) (os:List Oper) (o:Oper) (st:St):Option Bool→Prop
 | some true=>vS T ops κ os o.dst st (vop T st o.op)
 | some false=>vO T ops κ os (st.put o.dst (.tuple []))
 | none=>False
theorem vO_nil:vO T ops κ [] st=κ st:=Eq.trans rfl rfl
theorem vO_cons (o:Oper):vO T ops κ (o::os) st=vW T ops κ os o st (wantedD ops st o):=by
 simp only [vO]
 cases wantedD ops st o with
 | none=>rfl
 | some b =>
   cases b
   ·rfl
   ·simp only [vW]
    cases vop T st o.op <;> rfl
theorem vW_true (o:Oper):vW T ops κ os o st (some true)=vS T ops κ os o.dst st (vop T st o.op):=Eq.trans rfl rfl
theorem vW_false (o:Oper):vW T ops κ os o st (some false)=vO T ops κ os (st.put o.dst (.tuple [])):=Eq.trans rfl rfl
theorem vS_val (dst:Option Tmp) (d:D) (so':List Ob):vS T ops κ os dst st (.val d so')=vO T ops κ os (St.put ⟨st.tm,so',st.n⟩ dst d):=Eq.trans rfl rfl
theorem vS_round (dst:Option Tmp) (l:Nat) (ds:List D):vS T ops κ os dst st (.round l ds)=RoundP T st l ds (vN T ops κ os dst st):=Eq.trans rfl rfl
theorem vS_call (dst:Option Tmp) (f:FuncId) (ds:List D):vS T ops κ os dst st (.call f ds)=CallP T st f ds (vN T ops κ os dst st):=Eq.trans rfl rfl
theorem vN_eq (dst:Option Tmp) (d:D) (so':List Ob):vN T ops κ os dst st d so'=vO T ops κ os (St.put ⟨st.tm,so',st.n⟩ dst d):=Eq.trans rfl rfl
theorem vO_ok {k:List Fr} {Q:Qt} (hκ:∀ st a H P μ F,κ st→Rl g st a H P μ F []→unw T g.ρ Q k .normal a H):∀ {os:List Oper} {st:St} {a:A} {H:Heap} {P:Nat→Prop} {μ:List Hd} {F:List Nat},vO T ops κ os st→Rl g st a H P μ F []→WpO T g.ρ ops os k a H Q
 | [],st,a,H,P,μ,F,h,r=>by rw [wpO_nil];exact hκ _ _ _ _ _ _ h r
 | o::os,st,a,H,P,μ,F,h,r=>by
   rw [vO_cons] at h
   cases hw:wantedD ops st o with
   | none=>rw [hw] at h;exact h.elim
   | some b =>
     rw [hw] at h;rw [wpO_cons,wantedOk r hw]
     cases b with
     | false =>
       rw [wpOW_false];rw [vW_false] at h;exact vO_ok hκ h (r.putOk o.dst (RL.tuple1 .nil))
     | true =>
       rw [wpOW_true];rw [vW_true] at h;have hop:=vop_ok (T:=T) r o.op
       cases hv:vop T st o.op with
       | stuck=>rw [hv] at h;exact h.elim
       | val d so' =>
         rw [hv] at h hop;obtain ⟨v,H',μ',F',e,r1,q1⟩:=hop;rw [e,wpX_val];exact vO_ok hκ h (r1.putOk o.dst q1)
       | call f ds =>
         rw [hv] at h hop;obtain ⟨vs,e,q1⟩:=hop;rw [e];rw [vS_call] at h;exact wpX_call (h g a H P μ F vs r q1) fun v H' ⟨d,so',P',μ',F',h1,r1,q1⟩=>vO_ok hκ h1 (r1.putOk o.dst q1)
       | round l ds =>
         rw [hv] at h hop;obtain ⟨vs,e,q1⟩:=hop;rw [e];rw [vS_round] at h;exact wpX_round (h g a H P μ F vs r q1) fun v H' ⟨d,so',P',μ',F',h1,r1,q1⟩=>vO_ok hκ h1 (r1.putOk o.dst q1)
/-! ### Code -/
def SK (g:Gh) (T:Tab) (c:Code) (k:List Fr) (st:St) (Q:Qt):Prop:=∀ (a:A) (H:Heap) (P:Nat→Prop) (μ:List Hd) (F:List Nat),Rl g st a H P μ F []→WpK T g.ρ c k a H Q
def SU (g:Gh) (T:Tab) (k:List Fr) (e:Ex) (Q:Qt) (st:St):Prop:=∀ (a:A) (H:Heap) (P:Nat→Prop) (μ:List Hd) (F:List Nat),Rl g st a H P μ F []→unw T g.ρ Q k e a H
variable {k:List Fr} {Q:Qt}
theorem su_sq (c:Code):SU g T (.sq c::k) .normal Q st=SK g T c k st Q:=by simp only [SU,SK,unw_sq]
theorem su_sq_ret (c:Code):SU g T (.sq c::k) .ret Q st=SU g T k .ret Q st:=by simp only [SU,unw_sq_ret]
theorem su_sq_exit (c:Code) (j:Nat):SU g T (.sq c::k) (.exit j) Q st=SU g T k (.exit j) Q st:=by simp only [SU,unw_sq_exit]
theorem su_bk (id:Nat):SU g T (.bk id::k) .normal Q st=SU g T k .normal Q st:=by simp only [SU,unw_bk]
theorem su_bk_ret (id:Nat):SU g T (.bk id::k) .ret Q st=SU g T k .ret Q st:=by simp only [SU,unw_bk_ret]
theorem su_bk_exit (id j:Nat):SU g T (.bk id::k) (.exit j) Q st=if j=id then SU g T k .normal Q st else SU g T k (.exit j) Q st:=by
 simp only [SU,unw_bk_exit];split <;> rfl
theorem su_lp (b:Code):SU g T (.lp b::k) .normal Q st=SK g T (.loop b) k st Q:=by simp only [SU,SK,unw_lp]
theorem su_lp_ret (b:Code):SU g T (.lp b::k) .ret Q st=SU g T k .ret Q st:=by simp only [SU,unw_lp_ret]
theorem su_lp_exit (b:Code) (j:Nat):SU g T (.lp b::k) (.exit j) Q st=SU g T k (.exit j) Q st:=by simp only [SU,unw_lp_exit]
theorem su_sc:SU g T (.sc::k) .normal Q st=SU g T k .normal Q st:=by simp only [SU,unw_sc]
theorem su_sc_ret:SU g T (.sc::k) .ret Q st=SU g T k .ret Q st:=by simp only [SU,unw_sc_ret]
theorem su_sc_exit (j:Nat):SU g T (.sc::k) (.exit j) Q st=SU g T k (.exit j) Q st:=by simp only [SU,unw_sc_exit]
theorem sk_skip:SK g T .skip k st Q=SU g T k .normal Q st:=by simp only [SU,SK,wpK_skip]
theorem sk_label (id:Nat):SK g T (.label id) k st Q=SU g T k .normal Q st:=by simp only [SU,SK,wpK_label]
theorem sk_ret:SK g T .ret k st Q=SU g T k .ret Q st:=by simp only [SU,SK,wpK_ret]
theorem sk_exit (id:Nat):SK g T (.exit id) k st Q=SU g T k (.exit id) Q st:=by simp only [SU,SK,wpK_exit]
theorem sk_seq (x y:Code):SK g T (.seq x y) k st Q=SK g T x (.sq y::k) st Q:=by simp only [SK,wpK_seq]
theorem sk_block (id:Nat) (b:Code):SK g T (.block id b) k st Q=SK g T b (.bk id::k) st Q:=by simp only [SK,wpK_block]
theorem sk_scope (b:Code):SK g T (.scope b) k st Q=SK g T b (.sc::k) st Q:=by simp only [SK,wpK_scope]
def SB (g:Gh) (T:Tab) (d:D) (t:Tmp) (y z:Code) (k:List Fr) (st:St) (Q:Qt):Prop:=
 match d with
 | .atom (.bool b)=>cond b (SK g T y k st Q) (SK g T z k st Q)
 | _=>SK g T (.cond (.tmp t) y z) k st Q
theorem sk_cond (t:Tmp) (y z:Code):SK g T (.cond (.tmp t) y z) k st Q=SB g T (tget st.tm t) t y z k st Q:=by
 unfold SB;split
 ·rename_i b hb
  have e:∀ {a H P μ F},Rl g st a H P μ F []→a.tmp t=.bool b:=fun r=>by
   have:=r.tms t;rw [hb] at this;exact this.atomInv.2
  apply propext
  cases b
  ·exact ⟨fun h a H P μ F r=>by have:=h a H P μ F r;rwa [wpK_condB,e r,wpB_false] at this,fun h a H P μ F r=>by rw [wpK_condB,e r,wpB_false];exact h a H P μ F r⟩
  ·exact ⟨fun h a H P μ F r=>by have:=h a H P μ F r;rwa [wpK_condB,e r,wpB_true] at this,fun h a H P μ F r=>by rw [wpK_condB,e r,wpB_true];exact h a H P μ F r⟩
 ·rfl
theorem sb_true (t:Tmp) (y z:Code):SB g T (.atom (.bool true)) t y z k st Q=SK g T y k st Q:=Eq.trans rfl rfl
theorem sb_false (t:Tmp) (y z:Code):SB g T (.atom (.bool false)) t y z k st Q=SK g T z k st Q:=Eq.trans rfl rfl
theorem sb_dec {p:Prop} [Decidable p] {t:Tmp} {y z:Code} (h1:p→SK g T y k st Q) (h2:¬ p→SK g T z k st Q):SB g T (.atom (.bool (decide p))) t y z k st Q:=by
 by_cases hp:p
 ·simpa [SB,hp] using h1 hp
 ·simpa [SB,hp] using h2 hp
theorem sb_bool {b:Bool} {t:Tmp} {y z:Code} (h1:b=true→SK g T y k st Q) (h2:b=false→SK g T z k st Q):SB g T (.atom (.bool b)) t y z k st Q:=by
 cases b
 ·exact h2 rfl
 ·exact h1 rfl
theorem sk_region (id:Nat) (ops:Array Oper) (h:vO T ops (SU g T k .normal Q) ops.toList st):SK g T (.region id ops false) k st Q:=by
 intro a H P μ F r;rw [wpK_region];exact vO_ok (fun st a H P μ F h r=>h a H P μ F r) h r
def Le (g:Gh) (st st':St):Prop:=∀ (a:A) (H:Heap) (P:Nat→Prop) (μ:List Hd) (F:List Nat),Rl g st a H P μ F []→∃ P' μ' F',Rl g st' a H P' μ' F' []
theorem Le.refl (g:Gh) (st:St):Le g st st:=fun a H P μ F r=>⟨P,μ,F,r⟩
theorem Le.trans {s1 s2 s3:St} (h:Le g s1 s2) (h':Le g s2 s3):Le g s1 s3:=fun a H P μ F r=>by
 obtain ⟨P',μ',F',r'⟩:=h a H P μ F r;exact h' a H P' μ' F' r'
theorem sk_le {c:Code} {st':St} (h:Le g st st') (h':SK g T c k st' Q):SK g T c k st Q:=fun a H P μ F r=>by
 obtain ⟨P',μ',F',r'⟩:=h a H P μ F r;exact h' a H P' μ' F' r'
def IH {g:Gh} {T:Tab} {b:Code} {k:List Fr} {Q:Qt} {β:Type} (ms:β→Nat) (Inv:β→St) (pi:β→Prop) (x:β):Prop:=∀ (y:β) (st':St),ms y<ms x→pi y→Le g st' (Inv y)→SK g T (.loop b) k st' Q
theorem sk_loop {β:Type} {b:Code} (ms:β→Nat) (Inv:β→St) (pi:β→Prop) (x:β) (h0:Le g st (Inv x)) (hp:pi x)
  (hs:∀ x,pi x→IH (g:=g) (T:=T) (b:=b) (k:=k) (Q:=Q) ms Inv pi x→SK g T b (.lp b::k) (Inv x) Q):SK g T (.loop b) k st Q:=by
 suffices hh:∀ m x st,ms x≤m→pi x→Le g st (Inv x)→SK g T (.loop b) k st Q from hh (ms x) x st (Nat.le_refl _) hp h0
 intro m
 induction m with
 | zero =>
   intro x st hm hp hle;refine sk_le hle fun a H P μ F r=>?_;rw [wpK_loop];exact hs x hp (fun y st' hy _ _=>by omega) a H P μ F r
 | succ m ih =>
   intro x st hm hp hle;refine sk_le hle fun a H P μ F r=>?_;rw [wpK_loop];exact hs x hp (fun y st' hy hpy hl=>ih y st' (by omega) hpy hl) a H P μ F r
/-! ### Entering and leaving -/
def argsTm:Nat→List D→List (Nat×D)
 | _,[]=>[]
 | i,d::ds=>(i,d)::argsTm (i+1) ds
theorem argsTm_get (ds:List D):∀ (i t:Nat),tget (argsTm i ds) t=if i≤t then ds.getD (t - i) .unk else .unk:=by
 induction ds with
 | nil=>intro i t;simp [argsTm,tget]
 | cons d ds ih =>
   intro i t;simp only [argsTm,tget,ih]
   by_cases h:i=t
   ·subst h;simp
   ·rw [if_neg h]
    by_cases h2:i+1≤t
    ·rw [if_pos h2,if_pos (by omega)];have:t - i=(t - (i+1))+1:=by omega
     rw [this,List.getD_cons_succ]
    ·rw [if_neg h2,if_neg (by omega)]
theorem enter_tms (h:RL P H μ ds vs []) (n t:Nat):RL P H μ [tget (argsTm 0 ds) t] [(Go.Am.start vs n).tmp t] []:=by
 rw [argsTm_get,start_tmp];simp only [Nat.zero_le,if_true,Nat.sub_zero]
 cases hd:ds[t]? with
 | none=>rw [List.getD_eq_getElem?_getD,hd];exact .unk .nil
 | some d =>
   obtain ⟨v,e,q⟩:=h.at hd;rw [List.getD_eq_getElem?_getD,hd,List.getD_eq_getElem?_getD,e];exact q
theorem vc_enter {f:FuncId} {fn:Func} {c:Code} {R:D→Prop} (hp:T.prim f=none) (hf:T.func f=some fn) (hb:fn.body=some c) (hn:ds.length≤fn.ntmps)
  (h:∀ g:Gh,(∀ l,¬ g.B l)→g.μ0=[]→Rho g→SK g T c [] ⟨argsTm 0 ds,[],fn.ntmps⟩ (RetQ T fn.results.toList (Post g R))):VC T f ds R:=by
 intro P H vs wf pl hv;refine calls_enter hp hf hb (by rw [← hv.len];exact hn) ?_;exact h ⟨H,P,fun _=>False,[],none,fun r=>H.n≤r⟩ (fun l h=>h) rfl (Rho.frame _ _ _ _) (Go.Am.start vs fn.ntmps) H P [] [] { wf:=wf,nt:=start_n _ _,nd:=Dfr.nil _ _ _ _,tms:=fun t=>enter_tms hv _ t,obs:=.nil,nodup:=by simp,apart:=by simp,old:=by simp,lt:=by simp,p1:=fun l h=>h,p2:=fun l h=>.inl h,pl:=pl,ext:=(Ext.refl wf).but _,gl:=GoesL.refl _ }
theorem vm_enter {f:FuncId} {fn:Func} {c:Code} {R:D→List Ob→Prop} (hp:T.prim f=none) (hf:T.func f=some fn) (hb:fn.body=some c) (hn:ds.length≤fn.ntmps)
  (h:∀ (g:Gh),g.μ0.length=so.length→Rho g→SK g T c [] ⟨argsTm 0 ds,so,fn.ntmps⟩ (RetQ T fn.results.toList (PostM g R))):VM T f ds so R:=by
 intro P H μ F vs wf pl ol nd ap hv;refine calls_enter hp hf hb (by rw [← hv.len];exact hn) ?_;have:=h ⟨H,P,fun l=>l∈F,μ,none,fun r=>H.n≤r⟩ ol.len (Rho.frame _ _ _ _) (Go.Am.start vs fn.ntmps) H P μ F { wf:=wf,nt:=start_n _ _,nd:=Dfr.nil _ _ _ _,tms:=fun t=>enter_tms hv _ t,obs:=ol,nodup:=by simpa using nd,apart:=fun l h=>(ap l (by simpa using h)).1,old:=fun l h=>.inl (by simpa using h),lt:=fun l h=>(ap l (by simpa using h)).2,p1:=fun l h=>h,p2:=fun l h=>.inl h,pl:=pl,ext:=(Ext.refl wf).but _,gl:=GoesL.refl _ };exact this
def resD (T:Tab) (st:St):List ResultVar→Option (List D)
 | []=>some []
 | .tmp t::rs=>(resD T st rs).map (tget st.tm t::·)
 | .cell p t::rs=>match vLoad T st.so t (tget st.tm p) with
   | some d=>(resD T st rs).map (d::·)
   | none=>none
theorem resD_ok (r:Rl g st a H P μ F X):∀ {rs:List ResultVar} {ds:List D},resD T st rs=some ds→∃ vs,results T H a rs=some vs∧RL P H μ ds vs []
 | [],ds,h=>by cases h;exact ⟨[],rfl,.nil⟩
 | .tmp t::rs,ds,h=>by
   simp only [resD,Option.map_eq_some_iff] at h;obtain ⟨ds',h1,rfl⟩:=h;obtain ⟨vs,e,q⟩:=resD_ok r h1;exact ⟨a.tmp t::vs,by simp only [results,e],by simpa using (r.tms t).cons q⟩
 | .cell p t::rs,ds,h=>by
   simp only [resD] at h;split at h
   ·rename_i d hd;simp only [Option.map_eq_some_iff] at h;obtain ⟨ds',h1,rfl⟩:=h;obtain ⟨vs,e,q⟩:=resD_ok r h1;obtain ⟨l,o,u,e1,e2,q2⟩:=r.loadOk hd (r.tms p);exact ⟨u::vs,by simp only [results,e1,e2,e],by simpa using q2.cons q⟩
   ·cases h
def packD:List D→D
 | [d]=>d
 | ds=>.tuple ds
theorem packD_ok (h:RL P H μ ds vs F):RL P H μ [packD ds] [pack vs] F:=by
 match ds,vs,h with
 | [],vs,h=>obtain ⟨rfl,rfl⟩:=h.nil_inv;exact (RL.nil).tuple1
 | [d],vs,h=>obtain ⟨v,rfl,q⟩:=h.one;exact q
 | d1::d2::ds,vs,h =>
   have hl:=h.len
   match vs,h,hl with
   | v1::v2::vs,h,_=>exact h.tuple1
def outA (so:List Ob):D→Option (D×List Ob)
 | .agg ds=>match outs so ds with
   | some (ds',so')=>some (.agg ds',so')
   | none=>none
 | d=>out0 so d
def outR (so:List Ob):List D→Option (List D)
 | []=>some []
 | d::ds=>match outA so d with
   | none=>none
   | some (d',so')=>(outR so' ds).map (d'::·)
theorem outA_ok (r:Rl g st a H P μ F X) {d d':D} {so':List Ob} (h:outA st.so d=some (d',so')) (hv:RL P H μ [d] [v] []) :
  ∃ μ' F' K,Rl g ⟨st.tm,so',st.n⟩ a H P μ' F' (K++X)∧RL P H [] [d'] [v] K∧GoesL μ μ':=by
 cases d with
 | agg cs =>
   simp only [outA] at h;split at h
   ·rename_i ds' so1 ho
    cases h
    obtain ⟨ws,rfl,q⟩:=hv.aggInv;obtain ⟨μ',F',K,r1,q1,g1⟩:=r.outsOk ho q;exact ⟨μ',F',K,r1,q1.agg1,g1⟩
   ·cases h
 | _=>refine r.out0Ok ?_ hv;exact h
theorem outR_ok:∀ {ds ds':List D} {vs:List V} {st:St} {μ:List Hd} {F X:List Nat},Rl g st a H P μ F X→outR st.so ds=some ds'→RL P H μ ds vs []→∃ so' μ' F' K,Rl g ⟨st.tm,so',st.n⟩ a H P μ' F' (K++X)∧RL P H [] ds' vs K
 | [],ds',vs,st,μ,F,X,r,h,hv=>by cases h;obtain ⟨rfl,_⟩:=hv.nil_inv;exact ⟨_,μ,F,[],r,.nil⟩
 | d::ds,ds',vs,st,μ,F,X,r,h,hv=>by
   simp only [outR] at h;split at h
   ·cases h
   ·rename_i d1 so1 h1;simp only [Option.map_eq_some_iff] at h;obtain ⟨ds2,h2,rfl⟩:=h;obtain ⟨v,vs',G1,G2,rfl,hF,q1,q2⟩:=hv.uncons;have hF':=hF.symm;rw [List.append_eq_nil_iff] at hF';rw [hF'.1] at q1;rw [hF'.2] at q2;obtain ⟨μ1,F1,K1,r1,p1,g1⟩:=outA_ok r h1 q1;obtain ⟨so2,μ2,F2,K2,r2,p2⟩:=outR_ok (st:=⟨st.tm,so1,st.n⟩) r1 h2 (q2.goes g1);refine ⟨so2,μ2,F2,K1++K2,r2.permX ?_,p1.cons p2⟩;rw [← List.append_assoc];exact (List.perm_append_comm (l₁:=K2) (l₂:=K1)).append_right X
def RetP (R:D→Prop) (so:List Ob):Option (List D)→Prop
 | some ds=>match outR so ds with
   | some ds'=>R (packD ds')
   | none=>False
 | none=>False
def RetM (R:D→List Ob→Prop) (so:List Ob):Option (List D)→Prop
 | some ds=>R (packD ds) so
 | none=>False
theorem results_tmps (a:A):∀ rs:List ResultVar,results T H ⟨a.tmps,[]⟩ rs=results T H a rs
 | []=>rfl
 | .tmp t::rs=>by simp only [results,results_tmps a rs];rfl
 | .cell p t::rs=>by simp only [results,results_tmps a rs];rfl
theorem Rl.drop1 (r:Rl g st a H P μ F []) (ha:a.defers=[]) {l:Nat} (h1:l<H.n) (h2:¬ P l) (h3:¬ l∈F) (h4:g.H0.n≤l) (o:O):Rl g st a (H.put l o) P μ F []:=by
 have k:∀ j o',(P j∨j∈F)→H.get j=some o'→(H.put l o).get j=some o':=fun j o' h e=>by
  rw [Heap.get_put_ne (show ¬ j=l from fun e=>h.elim (e ▸ h2) (e ▸ h3))];exact e
 exact { wf:=r.wf.put h1 o,nt:=r.nt,nd:=by rw [ha];exact Dfr.nil _ _ _ _,tms:=fun t=>(r.tms t).keep fun j o' h=>k j o' (h.imp id fun h=>by cases h),obs:=r.obs.keep k,nodup:=r.nodup,apart:=r.apart,old:=r.old,lt:=fun j h=>by rw [Heap.n_put];exact r.lt j h,p1:=r.p1,p2:=r.p2,pl:=fun j p=>(r.pl j p).elim fun o' e=>⟨o',k j o' (.inl p) e⟩,ext:=r.ext.put (.inr h4) h1 o,gl:=r.gl }
theorem Rl.leave (hu:∀ r,g.U r→g.H0.n≤r) {rs:List ResultVar} {R:V→Heap→Prop} (r:Rl g st a H P μ F [])
  (h:∀ H',Rl g st ⟨a.tmps,[]⟩ H' P μ F []→ResOk (results T H' ⟨a.tmps,[]⟩ rs) R H'):Leave T rs R a a.defers H:=by
 obtain ⟨ds,nd,e,k⟩:=r.nd;rw [e];have r0:Rl g st ⟨a.tmps,[]⟩ H P μ F []:={ r with nd:=Dfr.nil _ _ _ _,nt:=r.nt,tms:=r.tms }
 clear e r
 induction ds generalizing H with
 | nil =>
   have:=h H r0;rw [List.map_nil,leave_nil,← results_tmps];exact this
 | cons x ds ih =>
   obtain ⟨k1,k2,k3,k4⟩:=k x (by simp);rw [List.nodup_cons] at nd;rw [List.map_cons,leave_collected];refine ⟨k1,ih nd.2 (fun r hr=>?_) (r0.drop1 rfl (Heap.lt k1) k3 (by simpa using k4) (hu _ k2) _)⟩;obtain ⟨j1,j2,j3,j4⟩:=k r (by simp [hr]);exact ⟨by rw [Heap.get_put_ne (show ¬ r=x from fun e=>nd.1 (e ▸ hr))];exact j1,j2,j3,j4⟩
theorem ret_ok {e:Ex} (he:e=.ret∨e=.normal) (hu:Rho g) {rs:List ResultVar} {R:D→Prop} (h:RetP R st.so (resD T st rs)):SU g T [] e (RetQ T rs (Post g R)) st:=by
 intro a H P μ F r
 have key:Leave T rs (Post g R) a a.defers H:=by
  refine r.leave hu.u fun H r=>?_
  cases hr:resD T st rs with
  | none=>rw [hr] at h;exact h.elim
  | some ds =>
    rw [hr] at h;obtain ⟨vs,e,q⟩:=resD_ok r hr;simp only [e,ResOk];simp only [RetP] at h
    cases ho:outR st.so ds with
    | none=>rw [ho] at h;exact h.elim
    | some ds' =>
      rw [ho] at h;obtain ⟨so',μ',F',K,r1,q1⟩:=outR_ok r ho q;have nd:=r1.nodup;rw [List.append_nil] at nd;exact ⟨_,P,K,h,packD_ok q1,(List.nodup_append.1 nd).1,fun l hl=>⟨r1.apart l (by simp [hl]),r1.old l (by simp [hl]),r1.lt l (by simp [hl])⟩,r1.p1,fun l hl=>⟨r1.p2 l hl,r1.pl l hl⟩,r1.ext⟩
 rcases he with rfl | rfl <;> exact key
theorem retM_ok {e:Ex} (he:e=.ret∨e=.normal) (hu:Rho g) {rs:List ResultVar} {R:D→List Ob→Prop} (h:RetM R st.so (resD T st rs)):SU g T [] e (RetQ T rs (PostM g R)) st:=by
 intro a H P μ F r
 have key:Leave T rs (PostM g R) a a.defers H:=by
  refine r.leave hu.u fun H r=>?_
  cases hr:resD T st rs with
  | none=>rw [hr] at h;exact h.elim
  | some ds =>
    rw [hr] at h;obtain ⟨vs,e,q⟩:=resD_ok r hr;simp only [e,ResOk];exact ⟨_,st.so,P,μ,F,h,packD_ok q,r.obs,r.gl,by simpa using r.nodup,fun l hl=>⟨r.apart l (by simp [hl]),r.old l (by simp [hl]),r.lt l (by simp [hl])⟩,r.p1,fun l hl=>⟨r.p2 l hl,r.pl l hl⟩,r.ext⟩
 rcases he with rfl | rfl <;> exact key
end Go.Am.Vm
