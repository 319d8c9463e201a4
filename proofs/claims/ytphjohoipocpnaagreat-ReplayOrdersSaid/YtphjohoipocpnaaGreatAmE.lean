import Derived.Test.YtphjohoipocpnaaGreatAmD
set_option linter.unusedSimpArgs false
set_option linter.unusedVariables false
/- Regions that draw their order: what stands ahead of what; the small machine's own order as a list of steps. -/
namespace Go.Am
open Go
/-! ### Ancestors -/
def bits (acc:Array Nat) (o:Oper):Nat:=o.after.foldl (fun s e=>if Region.binds .any e then s ||| 2 ^ e.on ||| acc.getD e.on 0 else s) 0
theorem before_eq (ops:Array Oper):Region.before ops=ops.toList.foldl (fun acc o=>acc.push (bits acc o)) #[]:=by
 unfold Region.before bits;rw [← Array.foldl_toList]
theorem before_go:∀ (l:List Oper) (acc:Array Nat),
  (l.foldl (fun acc o=>acc.push (bits acc o)) acc).size=acc.size+l.length ∧
  (∀ i,i<acc.size→(l.foldl (fun acc o=>acc.push (bits acc o)) acc).getD i 0=acc.getD i 0) ∧
  (∀ j o,l[j]?=some o→∃ acc':Array Nat,acc'.size=acc.size+j∧(∀ i,i<acc'.size→acc'.getD i 0=(l.foldl (fun acc o=>acc.push (bits acc o)) acc).getD i 0) ∧
   (l.foldl (fun acc o=>acc.push (bits acc o)) acc).getD (acc.size+j) 0=bits acc' o)
 | [],acc=>⟨rfl,fun _ _=>rfl,fun j o h=>by simp at h⟩
 | o::l,acc=>by
   obtain ⟨h1,h2,h3⟩:=before_go l (acc.push (bits acc o));simp only [List.foldl_cons]
   have hlow:∀ i,i<acc.size→(l.foldl (fun acc o=>acc.push (bits acc o)) (acc.push (bits acc o))).getD i 0=acc.getD i 0:=by
    intro i hi;rw [h2 i (by simp;omega),Array.getD_eq_getD_getElem?,Array.getD_eq_getD_getElem?,Array.getElem?_push,if_neg (by omega)]
   refine ⟨by rw [h1];simp;omega,hlow,?_⟩;intro j o' hj
   cases j with
   | zero =>
     simp at hj;subst hj;refine ⟨acc,rfl,fun i hi=>(hlow i hi).symm,?_⟩;rw [Nat.add_zero,h2 _ (by simp),Array.getD_eq_getD_getElem?];simp
   | succ j =>
     obtain ⟨acc',e1,e2,e3⟩:=h3 j o' (by simpa using hj);refine ⟨acc',by rw [e1];simp;omega,e2,?_⟩;rw [← e3];congr 1;simp;omega
theorem bits_testBit (acc:Array Nat) (k:Nat):∀ (l:List Edge) (s:Nat),(l.foldl (fun s e=>if Region.binds .any e then s ||| 2 ^ e.on ||| acc.getD e.on 0 else s) s).testBit k=true ↔
  s.testBit k=true∨∃ e∈l,Region.binds .any e=true∧(e.on=k∨(acc.getD e.on 0).testBit k=true)
 | [],s=>by simp
 | e::l,s=>by
   simp only [List.foldl_cons];rw [bits_testBit acc k l]
   by_cases hb:Region.binds .any e=true
   ·rw [if_pos hb];simp only [Nat.testBit_or,Bool.or_eq_true,Nat.testBit_two_pow,decide_eq_true_eq,List.mem_cons];constructor
    ·rintro (((h | h) | h) | ⟨e',he',h⟩)
     ·exact .inl h
     ·exact .inr ⟨e,.inl rfl,hb,.inl h⟩
     ·exact .inr ⟨e,.inl rfl,hb,.inr h⟩
     ·exact .inr ⟨e',.inr he',h⟩
    ·rintro (h | ⟨e',rfl | he',h1,h2⟩)
     ·exact .inl (.inl (.inl h))
     ·rcases h2 with h2 | h2
      ·exact .inl (.inl (.inr h2))
      ·exact .inl (.inr h2)
     ·exact .inr ⟨e',he',h1,h2⟩
   ·rw [if_neg hb];constructor
    ·rintro (h | ⟨e',he',h⟩)
     ·exact .inl h
     ·exact .inr ⟨e',List.mem_cons_of_mem _ he',h⟩
    ·rintro (h | ⟨e',he',h1,h2⟩)
     ·exact .inl h
     ·rcases List.mem_cons.1 he' with rfl | he'
      ·exact absurd h1 hb
      ·exact .inr ⟨e',he',h1,h2⟩
def Bef (ops:Array Oper) (j i:Nat):Prop:=((Region.before ops).getD j 0).testBit i=true
theorem bef_iff {ops:Array Oper} {j:Nat} {o:Oper} (ho:ops[j]?=some o) (hback:∀ e∈o.after,Region.binds .any e=true→e.on<j) (k:Nat) :
  Bef ops j k↔∃ e∈o.after,Region.binds .any e=true∧(e.on=k∨Bef ops e.on k):=by
 unfold Bef;have h:=(before_go ops.toList #[]).2.2 j o (by simpa using ho);rw [← before_eq] at h;obtain ⟨acc',e1,e2,e3⟩:=h;simp only [List.size_toArray,List.length_nil,Nat.zero_add] at e1 e3;rw [e3];unfold bits;rw [← Array.foldl_toList,bits_testBit];simp only [Nat.zero_testBit,Bool.false_eq_true,false_or,Array.mem_toList_iff];constructor
 ·rintro ⟨e,he,hb,h⟩;refine ⟨e,he,hb,?_⟩;rw [← e2 _ (by rw [e1];exact hback e he hb)];exact h
 ·rintro ⟨e,he,hb,h⟩;refine ⟨e,he,hb,?_⟩;rw [e2 _ (by rw [e1];exact hback e he hb)];exact h
/-! ### What 'drawOk' says -/
structure Static (ops:Array Oper) (σ:List Nat):Prop where
 apart:∀ (i j:Nat) (x y:Oper),i≠j→ops[i]?=some x→ops[j]?=some y→¬ Bef ops i j→¬ Bef ops j i→apart ops x y=true∨apart ops y x=true
 back:∀ (j:Nat) (o:Oper),ops[j]?=some o→∀ e∈o.after,Region.binds .any e=true→e.on<j
 guard:∀ (j:Nat) (o:Oper) (g:Nat) (b:Bool),ops[j]?=some o→o.guard=some (g,b)→Bef ops j g
 order:σ.Pairwise fun i j=>i≠j∧¬ Bef ops i j∧∃ o,ops[j]?=some o∧(loud o.op=true→Bef ops j i)
 dsts:∀ (i j:Nat) (x y:Oper) (d:Tmp),i≠j→ops[i]?=some x→ops[j]?=some y→x.dst=some d→y.dst≠some d
 all:∀ i,i<ops.size→i∈σ
 mem:∀ i,i∈σ→i<ops.size
theorem dstsOk_spec {ops:Array Oper}:∀ {l:List Nat},dstsOk ops l=true→l.Pairwise fun i j=>∀ d,(ops[i]?).bind (·.dst)=some d→(ops[j]?).bind (·.dst)≠some d
 | [],_=>.nil
 | i::l,h=>by
   simp only [dstsOk,Bool.and_eq_true] at h;refine .cons ?_ (dstsOk_spec h.2);intro j hj d hd;have h1:=h.1;rw [hd] at h1;simp only [List.all_eq_true] at h1;have:=h1 j hj;simpa using this
theorem orderOk_spec {ops:Array Oper}:∀ {l:List Nat},orderOk ops (Region.before ops) l=true→l.Pairwise fun i j=>i≠j∧¬ Bef ops i j∧∃ o,ops[j]?=some o∧(loud o.op=true→Bef ops j i)
 | [],_=>.nil
 | i::l,h=>by
   simp only [orderOk,Bool.and_eq_true,List.all_eq_true] at h;refine .cons ?_ (orderOk_spec h.2);intro j hj;have h1:=h.1 j hj;obtain ⟨⟨h2,h3⟩,h4⟩:=h1;refine ⟨?_,?_,?_⟩
   ·intro e;subst e;simp at h2
   ·unfold Bef;intro hb;rw [hb] at h3;cases h3
   ·cases ho:ops[j]? with
    | none=>rw [ho] at h4;cases h4
    | some o =>
      rw [ho] at h4;refine ⟨o,rfl,fun hl=>?_⟩;dsimp only at h4;rw [hl] at h4;simpa [Bef] using h4
theorem static_of {ops:Array Oper} (h:drawOk ops=true):Static ops (sched ops (Region.before ops)):=by
 simp only [drawOk,Bool.and_eq_true] at h;obtain ⟨⟨⟨⟨⟨h1,h2⟩,h3⟩,h4⟩,h5⟩,h6⟩:=h
 have hlt:∀ {i:Nat} {x:Oper},ops[i]?=some x→i<ops.size:=fun {i x} e=>by
  rcases Nat.lt_or_ge i ops.size with h' | h'
  ·exact h'
  ·rw [Array.getElem?_eq_none h'] at e;cases e
 have hap:∀ (i j:Nat) (x y:Oper),i<j→ops[i]?=some x→ops[j]?=some y→¬ Bef ops j i→apart ops x y=true:=by
  intro i j x y hij hx hy hb;unfold pairsOk at h1;simp only [List.all_eq_true,List.mem_range] at h1;have:=h1 j (hlt hy) i hij;rw [Bool.or_eq_true] at this;rcases this with h | h
  ·exact absurd h hb
  ·rw [hx,hy] at h;exact h
 have hedge:∀ (j:Nat) (o:Oper),ops[j]?=some o→(o.after.all fun e=>!Region.binds .any e || Nat.blt e.on j)=true∧∀ g b,o.guard=some (g,b)→Bef ops j g:=by
  intro j o ho;unfold edgesOk at h2;simp only [List.all_eq_true,List.mem_range] at h2;have:=h2 j (hlt ho);rw [ho] at this;dsimp only at this;rw [Bool.and_eq_true] at this;refine ⟨this.1,fun g b hg=>?_⟩;have h7:=this.2;rw [hg] at h7;exact h7
 refine ⟨?_,?_,?_,orderOk_spec h3,?_,?_,?_⟩
 ·intro i j x y hne hx hy hb1 hb2;rcases Nat.lt_or_gt_of_ne hne with hl | hl
  ·exact .inl (hap i j x y hl hx hy hb2)
  ·exact .inr (hap j i y x hl hy hx hb1)
 ·intro j o ho e he hb;have:=(hedge j o ho).1;rw [Array.all_eq_true_iff_forall_mem] at this;have:=this e he;rw [hb] at this;simpa using this
 ·intro j o g b ho hg;exact (hedge j o ho).2 g b hg
 ·intro i j x y d hne hx hy hd hd';have hp:=dstsOk_spec h4
  have hnd:∀ i j,i<j→j<ops.size→∀ d,(ops[i]?).bind (·.dst)=some d→(ops[j]?).bind (·.dst)≠some d:=by
   intro i j hij hj;rw [List.pairwise_iff_getElem] at hp;have:=hp i j (by simp;omega) (by simpa using hj) hij;simpa using this
  rcases Nat.lt_or_gt_of_ne hne with hl | hl
  ·exact hnd i j hl (hlt hy) d (by rw [hx];exact hd) (by rw [hy];exact hd')
  ·exact hnd j i hl (hlt hx) d (by rw [hy];exact hd') (by rw [hx];exact hd)
 ·intro i hi;rw [List.all_eq_true] at h5;have:=h5 i (by simpa using hi);simpa using this
 ·intro i hi;rw [List.all_eq_true] at h6;have:=h6 i hi;simpa using this
theorem Static.off {ops:Array Oper} {σ:List Nat} (hs:Static ops σ) {i j:Nat} {x y:Oper} (hne:i≠j) (hx:ops[i]?=some x) (hy:ops[j]?=some y) (h1:¬ Bef ops i j) (h2:¬ Bef ops j i)
  {d:Tmp} (hd:x.dst=some d):d∉looks ops y:=by
 rcases hs.apart i j x y hne hx hy h1 h2 with h | h
 ·unfold Am.apart at h;rw [hd] at h;simp only [Bool.and_eq_true] at h;have:=h.1.1.1;simpa using this
 ·unfold Am.apart at h;rw [hd] at h;simp only [Bool.and_eq_true] at h;have:=h.1.2;simpa using this
/-! ### The small machine's own order, step by step -/
inductive Eff where
 | still
 | made (o:O)
 | loud (H:Heap)
section
variable (T:Tab) (ev:Ev) (fuel:Nat) (ops:Array Oper) (k:Nat)
noncomputable def stepD (i:Nat) (o:Oper) (sn:List (Nat×Heap)) (a:A) (H:Heap):Option (V×Eff):=
 cond (wanted ops a o) (
  cond (quiet o.op) (match quietAt T a (k+i) o.op with
   | some (v,none)=>some (v,.still)
   | some (v,some ob)=>some (v,.made ob)
   | none=>none)
  (cond (reads o.op) (match execOp T a H o.op with
   | .val v _=>cond (stood T a o v ((Region.before ops).getD i 0) sn) (some (v,.still)) none
   | _=>none)
  (match execOp T a H o.op with
   | .val v H'=>some (v,.loud H')
   | .call f args=>match calls T ev fuel f args H with
     | .returned v H'=>some (v,.loud H')
     | _=>none
   | .round l args=>match round ev l args H with
     | .returned v H'=>some (v,.loud H')
     | _=>none
   | _=>none))) (some (undefV,.still))
noncomputable def nextH (i:Nat) (H:Heap):Eff→Heap
 | .still=>H
 | .made ob=>H.put (k+i) ob
 | .loud H'=>H'
noncomputable def nextS (i:Nat) (H:Heap) (sn:List (Nat×Heap)):Eff→List (Nat×Heap)
 | .loud _=>(i,H)::sn
 | _=>sn
noncomputable def atD:List Nat→List (Nat×Heap)→A→Heap→Nat→Option (V×Eff×A×Heap×List (Nat×Heap))
 | [],_,_,_,_=>none
 | i::rest,sn,a,H,e=>match ops[i]? with
   | none=>none
   | some o=>match stepD T ev fuel ops k i o sn a H with
     | none=>none
     | some (v,f)=>cond (Nat.beq i e) (some (v,f,a,H,sn)) (atD rest (nextS i H sn f) (a.put o.dst v) (nextH k i H f) e)
end
variable {T:Tab} {ev:Ev} {fuel:Nat} {ops:Array Oper} {k:Nat}
theorem reads_same {a:A} {o:Op} {H H':Heap} {v:V} (hr:reads o=true) (e:execOp T a H o=.val v H'):H'=H:=by
 unfold reads at hr;split at hr
 ·simp only [Am.execOp] at e;obtain ⟨u,h1,e0⟩:=op1_inv e (by simp);split at e0
  ·unfold OR.ofV at e0;split at e0
   ·cases e0;rfl
   ·cases e0
  ·cases e0
 ·cases hr
theorem runDraw_cons {i:Nat} {rest:List Nat} {sn:List (Nat×Heap)} {a:A} {H:Heap} {r:A×Heap} (e:runDraw T ev fuel ops (Region.before ops) k (i::rest) sn a H=some r) :
  ∃ o v f,ops[i]?=some o∧stepD T ev fuel ops k i o sn a H=some (v,f)∧runDraw T ev fuel ops (Region.before ops) k rest (nextS i H sn f) (a.put o.dst v) (nextH k i H f)=some r:=by
 unfold runDraw at e
 cases ho:ops[i]? with
 | none=>rw [ho] at e;cases e
 | some o =>
   rw [ho] at e;dsimp only at e;refine ⟨o,?_⟩;unfold stepD
   cases hw:wanted ops a o with
   | false=>rw [hw] at e;exact ⟨_,_,by trivial,rfl,e⟩
   | true =>
     rw [hw] at e;simp only [cond_true] at e ⊢
     cases hq:quiet o.op with
     | true =>
       rw [hq] at e;simp only [cond_true] at e ⊢;split at e
       ·rename_i v h1;rw [h1];exact ⟨_,_,by trivial,rfl,e⟩
       ·rename_i v ob h1;rw [h1];exact ⟨_,_,by trivial,rfl,e⟩
       ·cases e
     | false =>
       rw [hq] at e;simp only [cond_false] at e ⊢
       cases hr:reads o.op with
       | true =>
         rw [hr] at e;simp only [cond_true] at e ⊢;split at e
         ·rename_i v H' h1;have:=reads_same hr h1;subst this
          cases hst:stood T a o v ((Region.before ops).getD i 0) sn with
          | false=>rw [hst] at e;cases e
          | true=>rw [hst] at e;rw [h1];dsimp only;rw [hst];exact ⟨_,_,by trivial,rfl,e⟩
         ·cases e
       | false =>
         rw [hr] at e;simp only [cond_false] at e ⊢;split at e
         ·rename_i v H' h1;rw [h1];exact ⟨_,_,by trivial,rfl,e⟩
         ·rename_i g args h1;rw [h1];dsimp only;split at e
          ·rename_i v H' h2;rw [h2];exact ⟨_,_,by trivial,rfl,e⟩
          ·cases e
         ·rename_i l args h1;rw [h1];dsimp only;split at e
          ·rename_i v H' h2;rw [h2];exact ⟨_,_,by trivial,rfl,e⟩
          ·cases e
         ·cases e
end Go.Am

namespace Go.Am
open Go
variable {T:Tab} {ev:Ev} {fuel:Nat} {ops:Array Oper} {k:Nat}
/-! ### Congruence -/
theorem eval_congr {a b:A} {x:Operand} (h:∀ t,x=.tmp t→a.tmps.get t=b.tmps.get t):a.eval x=b.eval x:=by
 cases x with
 | tmp t=>simp only [A.eval,A.tmp,h t rfl]
 | const v=>rfl
 | global g=>rfl
 | func f=>rfl
theorem evals_congr {a b:A}:∀ {xs:List Operand},(∀ x∈xs,a.eval x=b.eval x)→evals a xs=evals b xs
 | [],_=>rfl
 | x::xs,h=>by
   simp only [evals];rw [h x (by simp),evals_congr fun y hy=>h y (by simp [hy])]
theorem evalParts_congr {a b:A}:∀ {xs:List (Nat×Operand)},(∀ x∈xs,a.eval x.2=b.eval x.2)→evalParts a xs=evalParts b xs
 | [],_=>rfl
 | (i,x)::xs,h=>by
   simp only [evalParts];rw [h (i,x) (by simp),evalParts_congr fun y hy=>h y (by simp [hy])]
theorem evalOpt_congr {a b:A} {x:Option Operand} (h:∀ y,x=some y→a.eval y=b.eval y):evalOpt a x=evalOpt b x:=by
 cases x with
 | none=>rfl
 | some y=>simp only [evalOpt,h y rfl]
theorem op1_congr {a b:A} {x:Operand} {f g:V→OR} (h:a.eval x=b.eval x) (hf:∀ v,f v=g v):op1 a x f=op1 b x g:=by
 unfold op1;rw [h]
 cases b.eval x with
 | none=>rfl
 | some v=>exact hf v
theorem callOp_congr {a b:A} {H:Heap} {c:Call} (h:∀ x∈c.operands,a.eval x=b.eval x):callOp T a H c=callOp T b H c:=by
 have h1:evals a c.args.toList=evals b c.args.toList:=evals_congr fun x hx=>h x (by
  unfold Call.operands
  cases c.callee <;> simp <;> first | exact Array.mem_toList_iff.1 hx | exact .inr (Array.mem_toList_iff.1 hx))
 unfold callOp;rw [h1]
 cases hc:c.callee with
 | builtin f=>rfl
 | invoke r name =>
   have:a.eval r=b.eval r:=h r (by unfold Call.operands;rw [hc];simp);simp only [this]
 | value f =>
   have:a.eval f=b.eval f:=h f (by unfold Call.operands;rw [hc];simp);simp only [this]
theorem exec_congr {a b:A} {H:Heap} {o:Op} (h:∀ x∈o.operands,a.eval x=b.eval x):execOp T a H o=execOp T b H o:=by
 cases o
 case call c=>exact callOp_congr (by simpa [Op.operands] using h)
 case defer c =>
  have hc:∀ x∈c.operands,a.eval x=b.eval x:=h
  have h1:evals a c.args.toList=evals b c.args.toList:=evals_congr fun x hx=>hc x (by
   unfold Call.operands
   cases c.callee <;> simp <;> first | exact Array.mem_toList_iff.1 hx | exact .inr (Array.mem_toList_iff.1 hx))
  simp only [Am.execOp];rw [h1]
  cases hcl:c.callee with
  | builtin f=>rfl
  | invoke r name=>rfl
  | value f =>
    have:a.eval f=b.eval f:=hc f (by unfold Call.operands;rw [hcl];simp)
    cases evals b c.args.toList with
    | none=>rfl
    | some args=>simp only [this]
 case build t ps =>
  have h1:evalParts a ps.toList=evalParts b ps.toList:=evalParts_congr fun x hx=>h x.2 (by
   simp only [Op.operands,List.mem_toArray,List.mem_map];exact ⟨x,hx,rfl⟩)
  simp only [Am.execOp,h1]
 case buildSlice t n ps =>
  have h1:evalParts a ps.toList=evalParts b ps.toList:=evalParts_congr fun x hx=>h x.2 (by
   simp only [Op.operands,List.mem_toArray,List.mem_map];exact ⟨x,hx,rfl⟩)
  simp only [Am.execOp,h1]
 case makeFunc fn first captured =>
  have h1:evals a first.toList=evals b first.toList:=evals_congr fun x hx=>h x (by simp only [Op.operands,Array.mem_append];exact .inl (Array.mem_toList_iff.1 hx))
  have h2:evals a captured.toList=evals b captured.toList:=evals_congr fun x hx=>h x (by simp only [Op.operands,Array.mem_append];exact .inr (Array.mem_toList_iff.1 hx));simp only [Am.execOp,h1,h2]
 case makeMap t r =>
  cases r with
  | none=>rfl
  | some y =>
    simp only [Am.execOp];exact op1_congr (h y (by simp [Op.operands])) fun v=>rfl
 case slice t x lo hi mx =>
  simp only [Am.execOp];refine op1_congr (h x (by simp [Op.operands])) fun v=>?_;rw [evalOpt_congr (x:=lo) fun y hy=>h y (by simp [Op.operands,hy]),evalOpt_congr (x:=hi) fun y hy=>h y (by simp [Op.operands,hy]),evalOpt_congr (x:=mx) fun y hy=>h y (by simp [Op.operands,hy])]
 all_goals
  simp only [Am.execOp] <;>
  first
   | rfl
   | (simp only [Op.operands,List.mem_cons,List.mem_singleton,List.not_mem_nil,or_false,List.mem_toArray,forall_eq_or_imp,forall_eq] at h
      first
       | (refine op1_congr h fun v=>?_;rfl)
       | (obtain ⟨h1,h2,h3⟩:=h
          refine op1_congr h1 fun v=>?_
          first
           | (refine op1_congr h2 fun v=>?_;refine op1_congr h3 fun v=>?_;rfl)
           | (rcases v with _ | _ <;> first | rfl | (rename_i q;cases q <;> first | (exact op1_congr h2 fun v=>rfl) | (exact op1_congr h3 fun v=>rfl) | rfl)))
       | (obtain ⟨h1,h2⟩:=h
          refine op1_congr h1 fun v=>?_
          first
           | (refine op1_congr h2 fun v=>?_;rfl)
           | (cases v <;> first | rfl | (exact op1_congr h2 fun v=>rfl))))
theorem looks_eval {a b:A} {o:Oper} (h:∀ t,t∈looks ops o→a.tmps.get t=b.tmps.get t):∀ x∈o.op.operands,a.eval x=b.eval x:=by
 intro x hx;refine eval_congr fun t ht=>h t ?_;unfold looks;rw [List.mem_append]
 left
 unfold tmpsOf;rw [List.mem_filterMap];exact ⟨x,Array.mem_toList_iff.2 hx,by rw [ht]⟩
theorem wanted_congr {a b:A} {o:Oper} (h:∀ t,t∈looks ops o→a.tmps.get t=b.tmps.get t):wanted ops a o=wanted ops b o:=by
 unfold wanted
 cases hg:o.guard with
 | none=>rfl
 | some p =>
   obtain ⟨j,want⟩:=p;dsimp only
   cases hd:(ops[j]?).bind (·.dst) with
   | none=>rfl
   | some d =>
     dsimp only;unfold A.tmp;rw [h d];unfold looks;rw [List.mem_append]
     right
     rw [hg];dsimp only;rw [hd];simp
end Go.Am

namespace Go.Am
open Go
variable {T:Tab} {ev:Ev} {fuel:Nat} {ops:Array Oper} {k:Nat}
theorem Heap.get_put' (H:Heap) (q:Nat) (ob:O) (l:Nat):(H.put q ob).get l=if l=q∧q<H.n then some ob else H.get l:=by
 simp only [Heap.get_eq,Heap.put,Tr.get_set]
 by_cases h:l=q∧q<H.n
 ·obtain ⟨rfl,hq⟩:=h;simp [hq]
 ·rw [if_neg h]
  by_cases h2:l<H.n
  ·rw [if_pos h2,if_pos h2,if_neg (fun e:q=l=>h ⟨e.symm,by omega⟩)]
  ·rw [if_neg h2,if_neg h2]
theorem put_get (a:A) (d:Option Tmp) (v:V) (t:Tmp):(a.put d v).tmps.get t=if d=some t∧t<a.tmps.n then v else a.tmps.get t:=by
 cases d with
 | none=>simp [A.put]
 | some d =>
   simp only [A.put,Ts.get_put,Option.some.injEq]
   by_cases h:d=t
   ·subst h;rfl
   ·rw [if_neg (fun e=>h e.1),if_neg (fun e=>h e.1)]
@[simp] theorem put_n (a:A) (d:Option Tmp) (v:V):(a.put d v).tmps.n=a.tmps.n:=by cases d <;> simp [A.put]
@[simp] theorem put_defers (a:A) (d:Option Tmp) (v:V):(a.put d v).defers=a.defers:=by cases d <;> rfl
structure Split (T:Tab) (ev:Ev) (fuel:Nat) (ops:Array Oper) (k:Nat) (σ:List Nat) (sn:List (Nat×Heap)) (a:A) (H:Heap) (i:Nat) (v:V) (f:Eff) (ai:A) (Hi:Heap) (sni:List (Nat×Heap)) (pre post:List Nat):Prop where
 eq:σ=pre++i::post
 step:∃ o,ops[i]?=some o∧stepD T ev fuel ops k i o sni ai Hi=some (v,f)
 env:∀ t,(∀ p∈pre,∀ o,ops[p]?=some o→o.dst=some t→¬ t<a.tmps.n)→ai.tmps.get t=a.tmps.get t
 env2:∀ p∈pre,∀ o t,ops[p]?=some o→o.dst=some t→t<a.tmps.n→∃ vp fp ap Hp sp,atD T ev fuel ops k σ sn a H p=some (vp,fp,ap,Hp,sp)∧ai.tmps.get t=vp
 n:ai.tmps.n=a.tmps.n
 heap:∃ Ĥ,(∀ l o,Heap.get Ĥ l=some o→H.get l=some o∨∃ p∈pre,l=k+p∧∃ vp ap Hp sp,atD T ev fuel ops k σ sn a H p=some (vp,.made o,ap,Hp,sp)) ∧
  (Ĥ=Hi∨∃ h∈pre,(h,Ĥ)∈sni∧∃ vh H' ah Hh sh,atD T ev fuel ops k σ sn a H h=some (vh,.loud H',ah,Hh,sh))
 sub:∀ q∈sn,q∈sni
theorem at_cons {i:Nat} {rest:List Nat} {sn:List (Nat×Heap)} {a:A} {H:Heap} {e:Nat} {o:Oper} {v:V} {f:Eff} (ho:ops[i]?=some o) (hs:stepD T ev fuel ops k i o sn a H=some (v,f)) :
  atD T ev fuel ops k (i::rest) sn a H e=if i=e then some (v,f,a,H,sn) else atD T ev fuel ops k rest (nextS i H sn f) (a.put o.dst v) (nextH k i H f) e:=by
 simp only [atD,ho,hs,cond_beq]
theorem at_inv {i:Nat} {rest:List Nat} {sn:List (Nat×Heap)} {a:A} {H:Heap} {e:Nat} {r:V×Eff×A×Heap×List (Nat×Heap)} (h:atD T ev fuel ops k (i::rest) sn a H e=some r) :
  ∃ o v f,ops[i]?=some o∧stepD T ev fuel ops k i o sn a H=some (v,f):=by
 unfold atD at h;split at h
 ·cases h
 ·rename_i o ho;split at h
  ·cases h
  ·rename_i v f hs;exact ⟨o,v,f,ho,hs⟩
theorem at_some:∀ {σ:List Nat} {sn:List (Nat×Heap)} {a:A} {H:Heap} {r:A×Heap} {e:Nat},runDraw T ev fuel ops (Region.before ops) k σ sn a H=some r→e∈σ→∃ r,atD T ev fuel ops k σ sn a H e=some r
 | [],_,_,_,_,_,_,h=>by simp at h
 | i::rest,sn,a,H,r,e,hr,h=>by
   obtain ⟨o,v,f,ho,hs,hr'⟩:=runDraw_cons hr;rw [at_cons ho hs];split
   ·exact ⟨_,rfl⟩
   ·rename_i hi;rcases List.mem_cons.1 h with rfl | h
    ·exact absurd rfl hi
    ·exact at_some hr' h
theorem at_split (hd:∀ (i j:Nat) (x y:Oper) (d:Tmp),i≠j→ops[i]?=some x→ops[j]?=some y→x.dst=some d→y.dst≠some d):∀ {σ:List Nat} {sn:List (Nat×Heap)} {a:A} {H:Heap} {i:Nat} {v:V} {f:Eff} {ai:A} {Hi:Heap} {sni:List (Nat×Heap)},σ.Nodup →
  atD T ev fuel ops k σ sn a H i=some (v,f,ai,Hi,sni)→∃ pre post,Split T ev fuel ops k σ sn a H i v f ai Hi sni pre post
 | [],_,_,_,_,_,_,_,_,_,_,h=>by simp [atD] at h
 | p::rest,sn,a,H,i,v,f,ai,Hi,sni,hn,h=>by
   obtain ⟨o,vp,fp,ho,hs⟩:=at_inv h;have h0:=h;rw [at_cons ho hs] at h;split at h
   ·rename_i hi;subst hi;simp only [Option.some.injEq,Prod.mk.injEq] at h;obtain ⟨rfl,rfl,rfl,rfl,rfl⟩:=h;exact ⟨[],rest,rfl,⟨o,ho,hs⟩,fun _ _=>rfl,fun _ h=>by simp at h,rfl,⟨H,fun _ _ e=>.inl e,.inl rfl⟩,fun _ h=>h⟩
   ·rename_i hi;rw [List.nodup_cons] at hn;obtain ⟨pre,post,ih⟩:=at_split hd hn.2 h;have hpre:∀ q∈pre,q≠p:=fun q hq e=>hn.1 (by rw [ih.eq,← e];exact List.mem_append_left _ hq)
    have hat:∀ q,q≠p→atD T ev fuel ops k (p::rest) sn a H q=atD T ev fuel ops k rest (nextS p H sn fp) (a.put o.dst vp) (nextH k p H fp) q:=fun q hq=>by
     rw [at_cons ho hs,if_neg (Ne.symm hq)]
    refine ⟨p::pre,post,by rw [ih.eq];rfl,ih.step,?_,?_,by rw [ih.n];simp,?_,?_⟩
    ·intro t ht;rw [ih.env t fun q hq o' ho' hd'=>by rw [put_n];exact ht q (List.mem_cons_of_mem _ hq) o' ho' hd',put_get];rw [if_neg];rintro ⟨h1,h2⟩;exact ht p (by simp) o ho h1 h2
    ·intro q hq o' t ho' hd' ht;rcases List.mem_cons.1 hq with rfl | hq
     ·refine ⟨vp,fp,a,H,sn,by rw [at_cons ho hs,if_pos rfl],?_⟩;rw [ho] at ho';cases ho';rw [ih.env t fun q' hq' o'' ho'' hd''=>absurd hd'' (hd q q' o o'' t (Ne.symm (hpre q' hq')) ho ho'' hd'),put_get,if_pos ⟨hd',ht⟩]
     ·obtain ⟨v1,f1,a1,H1,s1,e1,e2⟩:=ih.env2 q hq o' t ho' hd' (by rw [put_n];exact ht);exact ⟨v1,f1,a1,H1,s1,by rw [hat q (hpre q hq)];exact e1,e2⟩
    ·obtain ⟨Ĥ,g1,g2⟩:=ih.heap
     have lift:∀ l o1,(∃ q∈pre,l=k+q∧∃ vq ap Hp sp,atD T ev fuel ops k rest (nextS p H sn fp) (a.put o.dst vp) (nextH k p H fp) q=some (vq,.made o1,ap,Hp,sp)) →
       ∃ q∈p::pre,l=k+q∧∃ vp ap Hp sp,atD T ev fuel ops k (p::rest) sn a H q=some (vp,.made o1,ap,Hp,sp):=by
      rintro l o1 ⟨q,hq,hl,v1,a1,H1,s1,e⟩;exact ⟨q,List.mem_cons_of_mem _ hq,hl,v1,a1,H1,s1,by rw [hat q (hpre q hq)];exact e⟩
     cases fp with
     | still =>
       refine ⟨Ĥ,fun l o1 e=>(g1 l o1 e).imp id (lift l o1),g2.imp id ?_⟩;rintro ⟨q,hq,h1,v1,H1,a1,H2,s1,e⟩;exact ⟨q,List.mem_cons_of_mem _ hq,h1,v1,H1,a1,H2,s1,by rw [hat q (hpre q hq)];exact e⟩
     | made ob =>
       refine ⟨Ĥ,fun l o1 e=>?_,g2.imp id ?_⟩
       ·rcases g1 l o1 e with h1 | h1
        ·simp only [nextH] at h1;rw [Heap.get_put'] at h1;split at h1
         ·rename_i hl
          cases h1
          exact .inr ⟨p,by simp,hl.1,vp,a,H,sn,by rw [at_cons ho hs,if_pos rfl]⟩
         ·exact .inl h1
        ·exact .inr (lift l o1 h1)
       ·rintro ⟨q,hq,h1,v1,H1,a1,H2,s1,e⟩;exact ⟨q,List.mem_cons_of_mem _ hq,h1,v1,H1,a1,H2,s1,by rw [hat q (hpre q hq)];exact e⟩
     | loud H'=>exact ⟨H,fun _ _ e=>.inl e,.inr ⟨p,by simp,ih.sub _ (by simp [nextS]),vp,H',a,H,sn,by rw [at_cons ho hs,if_pos rfl]⟩⟩
    ·intro q hq;refine ih.sub q ?_
     cases fp <;> simp [nextS,hq]
end Go.Am

namespace Go.Am
open Go
variable {P:Program} {T:Tab} {μ:Mu} {H:Heap} {w:World}
mutual
def V.top:V→Nat
 | .ptr l _=>l+1
 | .slice l _ _ _ _=>l+1
 | .map r=>r+1
 | .func (.yield l) us vs=>max (l+1) (max (V.tops us) (V.tops vs))
 | .func _ us vs=>max (V.tops us) (V.tops vs)
 | .iface _ v=>v.top
 | .agg cs=>V.tops cs
 | .tuple cs=>V.tops cs
 | _=>0
def V.tops:List V→Nat
 | []=>0
 | v::vs=>max v.top (V.tops vs)
end
mutual
theorem RV.low {μ μ':Mu} {N:Nat} (hm:∀ l,l<N→μ' l=μ l):∀ {v:V} {u:Value},RV μ' v u→v.top≤N→RV μ v u
 | _,_,.bool b,_=>.bool b
 | _,_,.int k n,_=>.int k n
 | _,_,.str s,_=>.str s
 | _,_,.ptr (l:=l) h,ht=>.ptr (by rw [← hm l (by simp only [V.top] at ht;omega)];exact h)
 | _,_,.nilPtr,_=>.nilPtr
 | _,_,.slice (l:=l) h hn hc htt ho hb,ht=>.slice (by rw [← hm l (by simp only [V.top] at ht;omega)];exact h) hn hc htt ho hb
 | _,_,.nilSlice,_=>.nilSlice
 | _,_,.map (r:=l) h,ht=>.map (by rw [← hm l (by simp only [V.top] at ht;omega)];exact h)
 | _,_,.nilMap,_=>.nilMap
 | _,_,.func h1 h2,ht=>.func (RVL.low hm h1 (by simp only [V.top] at ht;omega)) (RVL.low hm h2 (by simp only [V.top] at ht;omega))
 | _,_,.yield (l:=l) h,ht=>.yield (by rw [← hm l (by simp only [V.top] at ht;omega)];exact h)
 | _,_,.nilFunc,_=>.nilFunc
 | _,_,.iface h,ht=>.iface (RV.low hm h (by simpa [V.top] using ht))
 | _,_,.nilIface,_=>.nilIface
 | _,_,.agg h,ht=>.agg (RVL.low hm h (by simpa [V.top] using ht))
 | _,_,.tuple h,ht=>.tuple (RVL.low hm h (by simpa [V.top] using ht))
theorem RVL.low {μ μ':Mu} {N:Nat} (hm:∀ l,l<N→μ' l=μ l):∀ {v:List V} {u:List Value},RVL μ' v u→V.tops v≤N→RVL μ v u
 | _,_,.nil,_=>.nil
 | _,_,.cons h t,ht=>.cons (RV.low hm h (by simp only [V.tops] at ht;omega)) (RVL.low hm t (by simp only [V.tops] at ht;omega))
end
theorem V.top_le_tops:∀ {vs:List V} {j:Nat} {v:V},vs[j]?=some v→v.top≤V.tops vs
 | [],_,_,h=>by simp at h
 | x::xs,0,v,h=>by simp at h;subst h;simp only [V.tops];omega
 | x::xs,j+1,v,h=>by
   have:=V.top_le_tops (vs:=xs) (j:=j) (v:=v) (by simpa using h);simp only [V.tops];omega
inductive PlaceFn:(Nat→V)→Prop
 | ptr:PlaceFn fun n=>.ptr n 0
 | slice (m s:Nat) (c:Option Nat):PlaceFn fun n=>.slice n 0 m s c
 | map:PlaceFn fun n=>.map n
inductive PlaceOb:O→Prop
 | cells (vs:List V):PlaceOb (.cells false vs)
 | map:PlaceOb (.map [])
theorem ofV_val {H H':Heap} {x:Option V} {v:V} (e:OR.ofV H x=.val v H'):x=some v∧H'=H:=by
 cases x with
 | none=>cases e
 | some y=>cases e;exact ⟨rfl,rfl⟩
def Quiet (T:Tab) (a:A) (o:Op) (v:V) (k:Nat) (H':Heap):Prop:=
 (H'=⟨k,.leaf⟩∧∀ K,execOp T a K o=.val v K)∨∃ f ob,PlaceFn f∧PlaceOb ob∧v=f k∧H'=Heap.push ⟨k,.leaf⟩ ob∧∀ K:Heap,execOp T a K o=.val (f K.n) (K.push ob)
theorem leaf_get (k l:Nat):(⟨k,.leaf⟩:Heap).get l=none:=by
 simp only [Heap.get_eq,Tr.get_leaf];split <;> rfl
theorem slice_indep {t:TypeId} {x:V} {lo hi mx:Option V} {k:Nat} {v:V} (e:sliceOp T ⟨k,.leaf⟩ t x lo hi mx=some v) (K:Heap):sliceOp T K t x lo hi mx=some v:=by
 unfold sliceOp at e ⊢;split at e
 ·exact e
 ·exact e
 ·have:∀ l,cellsAt ⟨k,.leaf⟩ l=none:=fun l=>by unfold cellsAt;rw [leaf_get]
  split at e
  ·rw [this] at e;split at e
   ·rename_i h;cases h
   ·cases e
  ·cases e
 ·cases e
theorem quiet_indep {a:A} {o:Op} {k:Nat} {v:V} {H':Heap} (hq:quiet o=true) (e:execOp T a ⟨k,.leaf⟩ o=.val v H'):Quiet T a o v k H':=by
 cases o
 case alloc t =>
  simp only [Am.execOp] at e;split at e
  ·rename_i z hz
   cases e
   exact .inr ⟨_,_,.ptr,.cells z,rfl,rfl,fun K=>by simp only [Am.execOp,hz]⟩
  ·cases e
 case box t y =>
  simp only [Am.execOp] at e;obtain ⟨u,h1,e0⟩:=op1_inv e (by simp)
  cases e0
  exact .inr ⟨_,_,.ptr,.cells _,rfl,rfl,fun K=>by simp only [Am.execOp,op1,h1]⟩
 case buildSlice t n ps =>
  simp only [Am.execOp] at e;split at e
  ·rename_i el hu;split at e
   ·rename_i s b z qs hs hz hps
    cases hc:(Nat.ble (n * s) 16777216 && Nat.beq z.length s) with
    | false=>rw [hc] at e;cases e
    | true =>
      rw [hc] at e;simp only [cond_true] at e;split at e
      ·rename_i cs hcs
       cases e
       exact .inr ⟨_,_,.slice n s (some n),.cells cs,rfl,rfl,fun K=>by simp only [Am.execOp,hu,hs,hz,hps,hc,cond_true,hcs]⟩
      ·cases e
   ·cases e
  ·cases e
 case makeMap t r =>
  simp only [Am.execOp] at e
  cases r with
  | none=>cases e;exact .inr ⟨_,_,.map,.map,rfl,rfl,fun K=>rfl⟩
  | some y =>
    obtain ⟨u,h1,e0⟩:=op1_inv e (by simp);split at e0
    ·rename_i kt el j n hd
     cases e0
     exact .inr ⟨_,_,.map,.map,rfl,rfl,fun K=>by simp only [Am.execOp,op1,h1,hd]⟩
    ·cases e0
 case makeSlice t y z =>
  simp only [Am.execOp] at e;obtain ⟨u,h1,e0⟩:=op1_inv e (by simp);replace e:=e0;clear e0;obtain ⟨u2,h2,e0⟩:=op1_inv e (by simp);replace e:=e0;clear e0;split at e
  ·rename_i el n c hd hn hc;split at e
   ·rename_i s b zz hs hz
    cases hcc:(Nat.ble n c && Nat.blt (c * b) 17592186044416 && Nat.blt c 17592186044416 && Nat.beq zz.length s && Nat.blt 0 s) with
    | false=>rw [hcc] at e;cases e
    | true =>
      rw [hcc] at e
      cases e
      exact .inr ⟨_,_,.slice n s (some c),.cells _,rfl,rfl,fun K=>by simp only [Am.execOp,op1,h1,h2,hd,hn,hc,hs,hz,hcc,cond_true]⟩
   ·cases e
  ·cases e
 all_goals (try (simp [quiet] at hq;done))
 case call c =>
  have hb:c.callee=.builtin .len∨c.callee=.builtin .cap∨c.callee=.builtin .min∨c.callee=.builtin .max:=by
   obtain ⟨cal,args,ats⟩:=c;unfold quiet at hq;split at hq <;> simp_all
  left
  simp only [Am.execOp,callOp] at e ⊢;split at e
  ·cases e
  rename_i args hargs;rcases hb with hb | hb | hb | hb <;> rw [hb] at e <;> simp only [hb,hargs] <;> dsimp only at e
  all_goals
   simp only [Am.builtin] at e ⊢
   repeat' split at e
  all_goals first
   | contradiction
   | (cases e;done)
   | (cases e;exact ⟨rfl,fun K=>by simp only [*]⟩)
   | (obtain ⟨h1,rfl⟩:=ofV_val e;exact ⟨rfl,fun K=>by simp only [*,OR.ofV]⟩)
   | (rename_i hg;rw [leaf_get] at hg;cases hg)
 case slice t x lo hi mx =>
  left
  simp only [Am.execOp,op1] at e ⊢
  repeat' split at e
  all_goals first
   | (cases e;done)
   | skip
  obtain ⟨h1,rfl⟩:=ofV_val e;refine ⟨rfl,fun K=>?_⟩;rw [slice_indep h1 K]
  rfl
 all_goals
  left
  simp only [Am.execOp,op1,Bool.cond_eq_ite] at e ⊢
  repeat' split at e
 all_goals first
  | (cases e;done)
  | (cases e;refine ⟨rfl,fun K=>?_⟩;simp only [*];done)
  | (cases e;refine ⟨rfl,fun K=>?_⟩;simp only [*,if_true,Bool.false_eq_true,if_false];done)
  | (obtain ⟨h1,rfl⟩:=ofV_val e;refine ⟨rfl,fun K=>?_⟩;simp only [*,OR.ofV];done)
  | (obtain ⟨h1,rfl⟩:=ofV_val e;refine ⟨rfl,fun K=>?_⟩;simp only [*,OR.ofV,if_true,Bool.false_eq_true,if_false];done)
end Go.Am

namespace Go.Am
open Go
variable {P:Program} {T:Tab} {ev:Ev} {fuel:Nat} {ops:Array Oper} {k:Nat} {μ:Mu} {H:Heap} {w:World}
theorem sim_empty (h:Sim μ H w) {N:Nat} (hN:H.n≤N):Sim μ ⟨N,.leaf⟩ w:=
 ⟨fun l o e=>by (rw [leaf_get] at e;cases e),fun l l' o o' b x y b' x' y' e=>by (rw [leaf_get] at e;cases e),fun l x e=>Nat.lt_of_lt_of_le (h.dom l x e) hN⟩
def O.topp:O→Nat
 | .cells _ vs=>V.tops vs
 | _=>0
theorem PlaceOb.own {ob:O} (h:PlaceOb ob):ob.own=true:=by cases h <;> rfl
theorem placed (hT:TabOk P T) (h:Sim μ H w) {s:A} {x:Act} (ha:AR μ s x) {o:Oper} {q:Nat} {f:Nat→V} {ob:O} (hf:PlaceFn f) (hob:PlaceOb ob)
  (hall:∀ K:Heap,execOp T s K o.op=.val (f K.n) (K.push ob)) (hq:μ q=none) :
  ∃ u w' X,((Go.execOp x.eval o).run P w=.ok (.value u) w'∨((Go.execOp x.eval o).run P w=.ok .skip w'∧u=Go.undef))∧RV (upd μ q X) (f q) u∧ObjR (upd μ q X) w' q ob ∧
    w.heap.size≤X.1∧X.1<w'.heap.size∧(∀ b,b<w.heap.size→w'.heap[b]?=w.heap[b]?)∧w.heap.size≤w'.heap.size∧w'.os=w.os∧w'.tape=w.tape∧w'.output=w.output:=by
 have hN1:H.n≤max H.n ob.topp:=Nat.le_max_left _ _;have hN2:ob.topp≤max H.n ob.topp:=Nat.le_max_right _ _;generalize max H.n ob.topp=N at hN1 hN2;have hs:=sim_empty h hN1;obtain ⟨u,w',μ',hrun,hv,hp⟩:=exec_made (P:=P) hT hs ha (hall ⟨N,.leaf⟩);have hget:(Heap.push ⟨N,.leaf⟩ ob).get N=some ob:=by rw [Heap.get_push,if_pos rfl]
 have hno:∀ b,¬ Owned μ ⟨N,.leaf⟩ b:=fun b ⟨l,o,x,y,e,_⟩=>by rw [leaf_get] at e;cases e
 have hobj:=hp.sim.obj N ob hget;obtain ⟨b,y,z,hm,hlt⟩:=hobj.block (O.live_of_own hob.own)
 have hge:w.heap.size≤b:=by
  rcases Nat.lt_or_ge b w.heap.size with h' | h'
  ·exact absurd (hp.own b h' ⟨N,ob,y,z,hget,hob.own,hm⟩) (hno b)
  ·exact h'
 have hext:∀ l x,μ l=some x→upd μ q (b,y,z) l=some x:=fun l x e=>by
  rw [upd_other _ (fun h=>by rw [h,hq] at e;cases e)];exact e
 refine ⟨u,w',(b,y,z),hrun,?_,?_,hge,hlt,fun b' hb'=>hp.kept b' hb' (hno b'),hp.size,hp.os,hp.tape,hp.output⟩
 ·cases hf with
  | ptr =>
    cases hv with
    | ptr h1=>rw [hm] at h1;cases h1;exact .ptr (upd_same _ _ _)
  | slice m s c =>
    cases hv with
    | slice h1 hn hc ht ho hb=>rw [hm] at h1;cases h1;exact .slice (upd_same _ _ _) hn hc ht ho hb
  | map =>
    cases hv with
    | map h1=>rw [hm] at h1;cases h1;exact .map (upd_same _ _ _)
 ·cases hob with
  | cells vs =>
    obtain ⟨b',base,tot,cs,ty,fr,h1,h2,h3⟩:=hobj;rw [hm] at h1;cases h1;refine ⟨b,y,z,cs,ty,fr,upd_same _ _ _,h2,h3.len,h3.room,?_,h3.free⟩;intro j v hv';obtain ⟨u',e1,e2⟩:=h3.cell j v hv';refine ⟨u',e1,(RV.low (N:=N) (fun l hl=>hp.agree l hl) e2 ?_).mono hext⟩;have:=V.top_le_tops hv';simp only [O.topp] at hN2;omega
  | map =>
    obtain ⟨b',y',z',fs,clock,h1,h2,h3⟩:=hobj;rw [hm] at h1;cases h1;refine ⟨b,y,z,fs,clock,upd_same _ _ _,h2,?_⟩;generalize fs.toList=q at h3
    cases h3;exact .nil
theorem Sim.join (h:Sim μ H w) {q:Nat} {ob:O} {b y z:Nat} (hq:q<H.n) (hm:μ q=some (b,y,z)) (ho:ObjR μ w q ob) (hb:¬ Live μ H b):Sim μ (H.put q ob) w:=by
 refine ⟨?_,?_,by simpa using h.dom⟩
 ·intro l o e;rw [Heap.get_put hq] at e;split at e
  ·rename_i el;subst el;cases e;exact ho
  ·exact h.obj l o e
 ·intro l l' o o' b1 x1 y1 b2 x2 y2 e1 e2 ho1 ho2 m1 m2 hbb;rw [Heap.get_put hq] at e1 e2;split at e1
  ·rename_i el;subst el;split at e2
   ·rename_i el2;exact el2.symm
   ·rw [hm] at m1;cases m1;subst hbb;exact absurd ⟨l',o',x2,y2,e2,ho2,m2⟩ hb
  ·split at e2
   ·rename_i el2;subst el2;rw [hm] at m2;cases m2;subst hbb;exact absurd ⟨l,o,x1,y1,e1,O.live_of_own ho1,m1⟩ hb
   ·exact h.inj l l' o o' b1 x1 y1 b2 x2 y2 e1 e2 ho1 ho2 m1 m2 hbb
theorem Post.join {μ0:Mu} {H0:Heap} {w0:World} (p:Post μ0 H0 w0 μ H w) {q:Nat} {ob:O} {b y z:Nat} (hq:q<H.n) (hm:μ q=some (b,y,z)) (ho:ObjR μ w q ob) (hb:¬ Live μ H b)
  (hk:H0.n≤q) (hb0:w0.heap.size≤b):Post μ0 H0 w0 μ (H.put q ob) w:=by
 refine ⟨p.sim.join hq hm ho hb,p.os,p.tape,p.output,p.size,by simpa using p.n,p.agree,p.kept,?_,?_,?_⟩
 ·intro b' hb' ⟨l,o,x1,y1,e1,e2,e3⟩;rw [Heap.get_put hq] at e1;split at e1
  ·rename_i el;subst el;rw [hm] at e3;cases e3;omega
  ·exact p.own b' hb' ⟨l,o,x1,y1,e1,e2,e3⟩
 ·intro b' hb' ⟨l,o,x1,y1,e1,e2,e3⟩;rw [Heap.get_put hq] at e1;split at e1
  ·rename_i el;subst el;rw [hm] at e3;cases e3;omega
  ·exact p.live b' hb' ⟨l,o,x1,y1,e1,e2,e3⟩
 ·intro l hl e;rw [Heap.get_put hq,if_neg (by omega)];exact p.hole l hl e
theorem Post.place {μ0:Mu} {H0:Heap} {w0 w':World} (p:Post μ0 H0 w0 μ H w) {q:Nat} {X:Nat×Nat×Nat} (hμ:μ q=none) (hq:q<H.n) (hg:H.get q=none) (hk:H0.n≤q)
  (hkeep:∀ b,b<w.heap.size→w'.heap[b]?=w.heap[b]?) (hs:w.heap.size≤w'.heap.size) (h1:w'.os=w.os) (h2:w'.tape=w.tape) (h3:w'.output=w.output):Post μ0 H0 w0 (upd μ q X) H w':=by
 have hne:∀ {l:Nat} {o:O},H.get l=some o→l≠q:=fun {l o} e h=>by rw [h,hg] at e;cases e
 have hext:∀ l x,μ l=some x→upd μ q X l=some x:=fun l x e=>by
  rw [upd_other _ (fun h=>by rw [h,hμ] at e;cases e)];exact e
 refine ⟨⟨?_,?_,?_⟩,h1.trans p.os,h2.trans p.tape,h3.trans p.output,Nat.le_trans p.size hs,p.n,?_,?_,?_,?_,p.hole⟩
 ·intro l o e;refine (p.sim.obj l o e).mono hext fun b x y m hl=>hkeep b ?_;obtain ⟨b',x',y',m',hlt⟩:=(p.sim.obj l o e).block hl;rw [m] at m';cases m';exact hlt
 ·intro l l' o o' b x1 y1 b' x2 y2 e1 e2 ho1 ho2 m1 m2 hbb;rw [upd_other _ (hne e1)] at m1;rw [upd_other _ (hne e2)] at m2;exact p.sim.inj l l' o o' b x1 y1 b' x2 y2 e1 e2 ho1 ho2 m1 m2 hbb
 ·intro l x e
  by_cases el:l=q
  ·subst el;exact hq
  ·rw [upd_other _ el] at e;exact p.sim.dom l x e
 ·intro l hl;rw [upd_other _ (by omega)];exact p.agree l hl
 ·intro b hb hn;exact (hkeep b (Nat.lt_of_lt_of_le hb p.size)).trans (p.kept b hb hn)
 ·intro b hb ⟨l,o,x1,y1,e1,e2,e3⟩;rw [upd_other _ (hne e1)] at e3;exact p.own b hb ⟨l,o,x1,y1,e1,e2,e3⟩
 ·intro b hb ⟨l,o,x1,y1,e1,e2,e3⟩;rw [upd_other _ (hne e1)] at e3;exact p.live b hb ⟨l,o,x1,y1,e1,e2,e3⟩
theorem Post.keep (h:Sim μ H w) {n:Nat} (hc:H.clean n=true):Post μ H w μ (H.keep n) w:=by
 have hg:∀ l,(H.keep n).get l=H.get l:=by
  intro l;simp only [Heap.get_eq,Heap.keep]
  by_cases h1:l<H.n
  ·rw [if_pos h1,if_pos (by omega)]
  ·rw [if_neg h1];split
   ·rename_i h2;unfold Heap.clean at hc;simp only [List.all_eq_true,List.mem_range] at hc;have:=hc (l - H.n) (by omega);rw [show H.n+(l - H.n)=l by omega] at this;simpa using this
   ·rfl
 refine ⟨⟨fun l o e=>h.obj l o (by rw [← hg];exact e),fun l l' o o' b x y b' x' y' e1 e2=>h.inj l l' o o' b x y b' x' y' (by rw [← hg];exact e1) (by rw [← hg];exact e2),fun l x e=>?_⟩,rfl,rfl,rfl,Nat.le_refl _,?_,fun _ _=>rfl,fun _ _ _=>rfl,?_,?_,?_⟩
 ·have:=h.dom l x e;simp only [Heap.keep];omega
 ·simp [Heap.keep]
 ·rintro b _ ⟨l,o,x,y,e1,e2,e3⟩;exact ⟨l,o,x,y,by rw [← hg];exact e1,e2,e3⟩
 ·rintro b _ ⟨l,o,x,y,e1,e2,e3⟩;exact ⟨l,o,x,y,by rw [← hg];exact e1,e2,e3⟩
 ·intro l _ e;rw [hg];exact e
/-! ### The kinds of steps -/
inductive Kind (T:Tab) (ev:Ev) (fuel:Nat) (ops:Array Oper) (k:Nat) (i:Nat) (o:Oper) (sn:List (Nat×Heap)) (a:A) (H:Heap):V→Eff→Prop
 | off (hw:wanted ops a o=false):Kind T ev fuel ops k i o sn a H undefV .still
 | still {v:V} (hw:wanted ops a o=true) (hx:∀ K,execOp T a K o.op=.val v K):Kind T ev fuel ops k i o sn a H v .still
 | made {f:Nat→V} {ob:O} (hw:wanted ops a o=true) (hf:PlaceFn f) (hob:PlaceOb ob) (hx:∀ K:Heap,execOp T a K o.op=.val (f K.n) (K.push ob)):Kind T ev fuel ops k i o sn a H (f (k+i)) (.made ob)
 | read {v:V} (hw:wanted ops a o=true) (hr:reads o.op=true) (hx:execOp T a H o.op=.val v H) (hst:stood T a o v ((Region.before ops).getD i 0) sn=true):Kind T ev fuel ops k i o sn a H v .still
 | val {v:V} {H':Heap} (hw:wanted ops a o=true) (hl:loud o.op=true) (hx:execOp T a H o.op=.val v H'):Kind T ev fuel ops k i o sn a H v (.loud H')
 | call {v:V} {H':Heap} {g:FuncId} {args:List V} (hw:wanted ops a o=true) (hl:loud o.op=true) (hx:execOp T a H o.op=.call g args) (hc:calls T ev fuel g args H=.returned v H'):Kind T ev fuel ops k i o sn a H v (.loud H')
 | round {v:V} {H':Heap} {l:Nat} {args:List V} (hw:wanted ops a o=true) (hl:loud o.op=true) (hx:execOp T a H o.op=.round l args) (hc:round ev l args H=.returned v H'):Kind T ev fuel ops k i o sn a H v (.loud H')
theorem quietAt_spec {a:A} {o:Op} {q:Nat} {v:V} {ob:Option O} (hq:quiet o=true) (e:quietAt T a q o=some (v,ob)) :
  (ob=none∧∀ K,execOp T a K o=.val v K)∨∃ f ob',ob=some ob'∧PlaceFn f∧PlaceOb ob'∧v=f q∧∀ K:Heap,execOp T a K o=.val (f K.n) (K.push ob'):=by
 unfold quietAt at e;split at e
 ·rename_i v1 H1 hx;rw [cond_beq] at e;rcases quiet_indep hq hx with ⟨rfl,h2⟩ | ⟨f,ob',h1,h2,rfl,rfl,h5⟩
  ·rw [if_pos rfl] at e
   cases e
   exact .inl ⟨rfl,h2⟩
  ·rw [if_neg (by simp)] at e;rw [Heap.get_push,if_pos rfl] at e
   cases e
   exact .inr ⟨f,ob',rfl,h1,h2,rfl,h5⟩
 ·cases e
theorem step_kind {i:Nat} {o:Oper} {sn:List (Nat×Heap)} {a:A} {H:Heap} {v:V} {f:Eff} (e:stepD T ev fuel ops k i o sn a H=some (v,f)):Kind T ev fuel ops k i o sn a H v f:=by
 have e0:=e;unfold stepD at e
 cases hw:wanted ops a o with
 | false=>rw [hw] at e;cases e;exact .off hw
 | true =>
   rw [hw] at e;simp only [cond_true] at e
   cases hq:quiet o.op with
   | true =>
     rw [hq] at e;simp only [cond_true] at e;split at e
     ·rename_i v1 h1
      cases e
      rcases quietAt_spec hq h1 with ⟨_,h2⟩ | ⟨f,ob',h2,_⟩
      ·exact .still hw h2
      ·cases h2
     ·rename_i v1 ob h1
      cases e
      rcases quietAt_spec hq h1 with ⟨h2,_⟩ | ⟨f,ob',h2,h3,h4,rfl,h6⟩
      ·cases h2
      ·cases h2;exact .made hw h3 h4 h6
     ·cases e
   | false =>
     rw [hq] at e;simp only [cond_false] at e
     cases hr:reads o.op with
     | true =>
       rw [hr] at e;simp only [cond_true] at e;split at e
       ·rename_i v1 H1 h1;have:=reads_same hr h1;subst this
        cases hst:stood T a o v1 ((Region.before ops).getD i 0) sn with
        | false=>rw [hst] at e;cases e
        | true=>rw [hst] at e;cases e;exact .read hw hr h1 hst
       ·cases e
     | false =>
       have hl:loud o.op=true:=by unfold loud;rw [hq,hr];rfl
       rw [hr] at e;simp only [cond_false] at e;split at e
       ·rename_i v1 H1 h1;cases e;exact .val hw hl h1
       ·rename_i g args h1;split at e
        ·rename_i v1 H1 h2;cases e;exact .call hw hl h1 h2
        ·cases e
       ·rename_i l args h1;split at e
        ·rename_i v1 H1 h2;cases e;exact .round hw hl h1 h2
        ·cases e
       ·cases e
theorem same1_eq {x y:V} (h:sameV.same1 x y=true):x=y:=by
 unfold sameV.same1 at h;split at h <;> simp_all
theorem sameVs_eq:∀ {xs ys:List V},sameV.sameVs xs ys=true→xs=ys
 | [],[],_=>rfl
 | [],_::_,h=>by simp [sameV.sameVs] at h
 | _::_,[],h=>by simp [sameV.sameVs] at h
 | x::xs,y::ys,h=>by
   simp only [sameV.sameVs,Bool.and_eq_true] at h;rw [same1_eq h.1,sameVs_eq h.2]
theorem sameV_eq {x y:V} (h:sameV x y=true):x=y:=by
 unfold sameV at h;split at h
 ·rw [sameVs_eq h]
 ·exact same1_eq h
theorem stood_spec {a:A} {o:Oper} {v:V} {mask:Nat}:∀ {sn:List (Nat×Heap)},stood T a o v mask sn=true→∀ h K,(h,K)∈sn→mask.testBit h=false→∃ K',execOp T a K o.op=.val v K'
 | [],_,h,K,hm,_=>by simp at hm
 | (h1,K1)::sn,hs,h,K,hm,hb=>by
   simp only [stood,Bool.and_eq_true,Bool.or_eq_true] at hs;rcases List.mem_cons.1 hm with he | hm
   ·cases he
    rcases hs.1 with h2 | h2
    ·rw [hb] at h2;cases h2
    ·split at h2
     ·rename_i u K' hx;have:=sameV_eq h2;subst this;exact ⟨_,hx⟩
     ·cases h2
   ·exact stood_spec hs.2 h K hm hb
end Go.Am

namespace Go.Am
open Go
variable {P:Program} {T:Tab} {ev:Ev} {fuel:Nat} {ops:Array Oper} {k:Nat} {μ:Mu} {H:Heap} {w:World}
def Early (μ:Mu) (H:Heap) (w w0:World) (q:Nat) (ob:O):Prop:=∃ b y z,μ q=some (b,y,z)∧ObjR μ w q ob∧¬ Live μ H b∧w0.heap.size≤b∧b<w.heap.size
structure Inv (T:Tab) (ev:Ev) (fuel:Nat) (ops:Array Oper) (μ0:Mu) (H0:Heap) (w0:World) (r:A×Heap) (σ:List Nat) (sn:List (Nat×Heap)) (a:A) (H:Heap) (s:A) (μ:Mu) (w:World) (x:Act) (L:Nat→Bool):Prop where
 run:runDraw T ev fuel ops (Region.before ops) H0.n σ sn a H=some r
 pw:σ.Pairwise fun i j=>i≠j∧¬ Bef ops i j∧∃ o,ops[j]?=some o∧(loud o.op=true→Bef ops j i)
 mem:∀ i∈σ,i<ops.size
 out:∀ i,i<ops.size→i∉σ→L i=true
 closed:∀ i j,L i=true→Bef ops i j→L j=true
 post:Post μ0 H0 w0 μ H w
 room:H0.n+ops.size≤H.n
 res:∀ i∈σ,H.get (H0.n+i)=none
 fresh:∀ i,i<ops.size→L i=false→μ (H0.n+i)=none
 early:∀ e∈σ,L e=true→∃ v f ae He se,atD T ev fuel ops H0.n σ sn a H e=some (v,f,ae,He,se)∧((f=.still∧μ (H0.n+e)=none)∨∃ ob,f=.made ob∧Early μ H w w0 (H0.n+e) ob) ∧
  ∀ o d,ops[e]?=some o→o.dst=some d→d<a.tmps.n→s.tmps.get d=v
 dist:∀ e e' b y z y' z',e∈σ→e'∈σ→L e=true→L e'=true→μ (H0.n+e)=some (b,y,z)→μ (H0.n+e')=some (b,y',z')→e=e'
 rel:AR μ s x
 sn:s.tmps.n=a.tmps.n
 sd:s.defers=a.defers
 env:∀ t,(∀ e∈σ,L e=true→∀ o,ops[e]?=some o→o.dst=some t→¬ t<a.tmps.n)→s.tmps.get t=a.tmps.get t
variable {μ0:Mu} {H0:Heap} {w0:World} {r:A×Heap} {σ σs:List Nat} {sn:List (Nat×Heap)} {a s:A} {x:Act} {L:Nat→Bool}
theorem Inv.nodup (h:Inv T ev fuel ops μ0 H0 w0 r σ sn a H s μ w x L):σ.Nodup:=h.pw.imp fun h=>h.1
theorem Inv.looks (hst:Static ops σs) (h:Inv T ev fuel ops μ0 H0 w0 r σ sn a H s μ w x L) {i:Nat} {v:V} {f:Eff} {ai:A} {Hi:Heap} {si:List (Nat×Heap)} (hi:L i=false) (hanc:∀ j,Bef ops i j→L j=true)
  (hat:atD T ev fuel ops H0.n σ sn a H i=some (v,f,ai,Hi,si)) {o:Oper} (ho:ops[i]?=some o):∀ t,t∈looks ops o→s.tmps.get t=ai.tmps.get t:=by
 intro t ht;obtain ⟨pre,post,sp⟩:=at_split hst.dsts h.nodup hat;have hpw:=h.pw;rw [sp.eq,List.pairwise_append,List.pairwise_cons] at hpw;obtain ⟨_,⟨hpost,_⟩,hpre⟩:=hpw
 by_cases hw:∃ p∈pre,∃ op,ops[p]?=some op∧op.dst=some t∧t<a.tmps.n
 ·obtain ⟨p,hp,op,hop,hd,htn⟩:=hw;obtain ⟨hne,hb,_⟩:=hpre p hp i (by simp)
  by_cases hbi:Bef ops i p
  ·have hL:=hanc p hbi;obtain ⟨vp,fp,ap,Hp,sp',hatp,_,hget⟩:=h.early p (by rw [sp.eq];exact List.mem_append_left _ hp) hL;obtain ⟨vp',fp',ap',Hp',sp'',hatp',hai⟩:=sp.env2 p hp op t hop hd htn;rw [hatp] at hatp'
   cases hatp'
   rw [hget op t hop hd htn,hai]
  ·exact absurd ht (hst.off hne hop ho hb hbi hd)
 ·rw [sp.env t fun p hp op hop hd htn=>hw ⟨p,hp,op,hop,hd,htn⟩];refine h.env t fun e he hLe oe hoe hd htn=>?_;rw [sp.eq] at he;rcases List.mem_append.1 he with he | he
  ·exact hw ⟨e,he,oe,hoe,hd,htn⟩
  ·rcases List.mem_cons.1 he with rfl | he
   ·rw [hi] at hLe;cases hLe
   ·obtain ⟨hne,hb,_⟩:=hpost e he;have hb2:¬ Bef ops e i:=fun hb2=>by rw [h.closed e i hLe hb2] at hi;cases hi
    exact absurd ht (hst.off (Ne.symm hne) hoe ho hb2 hb hd)
theorem at_next {i:Nat} {rest:List Nat} {o:Oper} {v:V} {f:Eff} (ho:ops[i]?=some o) (hs:stepD T ev fuel ops k i o sn a H=some (v,f)) {e:Nat} (he:e≠i) :
  atD T ev fuel ops k (i::rest) sn a H e=atD T ev fuel ops k rest (nextS i H sn f) (a.put o.dst v) (nextH k i H f) e:=by
 rw [at_cons ho hs,if_neg (Ne.symm he)]
theorem Inv.join {p:Nat} {rest:List Nat} (h:Inv T ev fuel ops μ0 H0 w0 r (p::rest) sn a H s μ w x L) (hL:L p=true) :
  ∃ sn' a' H',Inv T ev fuel ops μ0 H0 w0 r rest sn' a' H' s μ w x L:=by
 obtain ⟨o,v,f,ho,hs,hrun⟩:=runDraw_cons h.run;obtain ⟨v1,f1,a1,H1,s1,hat,hkind,hget⟩:=h.early p (by simp) hL;rw [at_cons ho hs,if_pos rfl] at hat;simp only [Option.some.injEq,Prod.mk.injEq] at hat;obtain ⟨rfl,rfl,rfl,rfl,rfl⟩:=hat;have hpw:=h.pw;rw [List.pairwise_cons] at hpw;have hne:∀ e∈rest,e≠p:=fun e he heq=>(hpw.1 e he).1 heq.symm;have hps:H0.n+p<H.n:=by have:=h.mem p (by simp);have:=h.room;omega
 refine ⟨nextS p H sn f,a.put o.dst v,nextH H0.n p H f,hrun,hpw.2,fun i hi=>h.mem i (List.mem_cons_of_mem _ hi),?_,h.closed,?_,?_,?_,h.fresh,?_,?_,h.rel,?_,?_,?_⟩
 ·intro i hi hn
  by_cases hip:i=p
  ·subst hip;exact hL
  ·exact h.out i hi (by simp [hip,hn])
 ·rcases hkind with ⟨rfl,_⟩ | ⟨ob,rfl,b,y,z,h1,h2,h3,h4,h5⟩
  ·exact h.post
  ·exact h.post.join hps h1 h2 h3 (by omega) h4
 ·rcases hkind with ⟨rfl,_⟩ | ⟨ob,rfl,_⟩
  ·exact h.room
  ·simpa [nextH] using h.room
 ·intro i hi;rcases hkind with ⟨rfl,_⟩ | ⟨ob,rfl,_⟩
  ·exact h.res i (List.mem_cons_of_mem _ hi)
  ·simp only [nextH];rw [Heap.get_put hps,if_neg (by have:=hne i hi;omega)];exact h.res i (List.mem_cons_of_mem _ hi)
 ·intro e he hLe;obtain ⟨v1,f1,a1,H1,s1,e1,e2,e3⟩:=h.early e (List.mem_cons_of_mem _ he) hLe;rw [at_next ho hs (hne e he)] at e1;refine ⟨v1,f1,a1,H1,s1,e1,?_,by simpa using e3⟩;refine e2.imp id ?_;rintro ⟨ob,rfl,b,y,z,h1,h2,h3,h4,h5⟩;refine ⟨ob,rfl,b,y,z,h1,h2,?_,h4,h5⟩;rcases hkind with ⟨rfl,_⟩ | ⟨ob',rfl,b',y',z',g1,g2,g3,g4,g5⟩
  ·exact h3
  ·rintro ⟨l,o',x1,y1,m1,m2,m3⟩;simp only [nextH] at m1;rw [Heap.get_put hps] at m1;split at m1
   ·rename_i el;subst el;rw [g1] at m3;cases m3;exact hne e he (h.dist e p _ _ _ _ _ (List.mem_cons_of_mem _ he) (by simp) hLe hL h1 g1)
   ·exact h3 ⟨l,o',x1,y1,m1,m2,m3⟩
 ·intro e e' b y z y' z' he he';exact h.dist e e' b y z y' z' (List.mem_cons_of_mem _ he) (List.mem_cons_of_mem _ he')
 ·rw [put_n];exact h.sn
 ·rw [put_defers];exact h.sd
 ·intro t ht;rw [put_get];split
  ·rename_i hc;exact hget o t ho hc.1 hc.2
  ·rename_i hc;refine h.env t fun e he hLe oe hoe hd htn=>?_;rcases List.mem_cons.1 he with rfl | he
   ·rw [ho] at hoe;cases hoe;exact hc ⟨hd,htn⟩
   ·exact ht e he hLe oe hoe hd (by rw [put_n];exact htn)
theorem Inv.settle:∀ {σ:List Nat} {sn:List (Nat×Heap)} {a:A} {H:Heap},Inv T ev fuel ops μ0 H0 w0 r σ sn a H s μ w x L →
  ∃ σ' sn' a' H',Inv T ev fuel ops μ0 H0 w0 r σ' sn' a' H' s μ w x L∧∀ p rest,σ'=p::rest→L p=false
 | [],sn,a,H,h=>⟨[],sn,a,H,h,fun _ _ e=>by cases e⟩
 | p::rest,sn,a,H,h=>by
   cases hL:L p with
   | false=>exact ⟨p::rest,sn,a,H,h,fun _ _ e=>by cases e;exact hL⟩
   | true =>
     obtain ⟨sn',a',H',h'⟩:=h.join hL;exact Inv.settle h'
def also (L:Nat→Bool) (i:Nat):Nat→Bool:=fun j=>if j=i then true else L j
theorem Inv.take (h:Inv T ev fuel ops μ0 H0 w0 r σ sn a H s μ w x L) {i:Nat} {o:Oper} {v:V} {u:Value} {f:Eff} {ai:A} {Hi:Heap} {si:List (Nat×Heap)} (hi:L i=false) (him:i∈σ) (hanc:∀ j,Bef ops i j→L j=true)
  (ho:ops[i]?=some o) (hat:atD T ev fuel ops H0.n σ sn a H i=some (v,f,ai,Hi,si)) {μ':Mu} {w':World} (hd:∀ (i j:Nat) (x y:Oper) (d:Tmp),i≠j→ops[i]?=some x→ops[j]?=some y→x.dst=some d→y.dst≠some d)
  (hpost:Post μ0 H0 w0 μ' H w') (hext:∀ l y,μ l=some y→μ' l=some y) (hv:RV μ' v u)
  (hsame:∀ j,j<ops.size→j≠i→μ' (H0.n+j)=μ (H0.n+j))
  (hearly:∀ q ob,Early μ H w w0 q ob→Early μ' H w' w0 q ob)
  (hnew:(f=.still∧μ' (H0.n+i)=none)∨∃ ob,f=.made ob∧Early μ' H w' w0 (H0.n+i) ob∧∀ b y z,μ' (H0.n+i)=some (b,y,z)→w.heap.size≤b)
  (hlow:∀ e b y z,e∈σ→L e=true→μ (H0.n+e)=some (b,y,z)→b<w.heap.size) :
  Inv T ev fuel ops μ0 H0 w0 r σ sn a H (s.put o.dst v) μ' w' (x.put o.dst u) (also L i):=by
 have hL:∀ j,also L i j=true→j=i∨L j=true:=fun j hj=>by
  unfold also at hj;split at hj
  ·rename_i e;exact .inl e
  ·exact .inr hj
 have hL':∀ j,L j=true→also L i j=true:=fun j hj=>by
  unfold also;split
  ·rfl
  ·exact hj
 refine ⟨h.run,h.pw,h.mem,fun j hj hn=>hL' j (h.out j hj hn),?_,hpost,h.room,h.res,?_,?_,?_,(h.rel.mono hext).put hv _,by rw [put_n];exact h.sn,by rw [put_defers];exact h.sd,?_⟩
 ·intro j l hj hb;rcases hL j hj with rfl | hj
  ·exact hL' l (hanc l hb)
  ·exact hL' l (h.closed j l hj hb)
 ·intro j hj hf;have hji:j≠i:=fun e=>by unfold also at hf;rw [if_pos e] at hf;cases hf
  rw [hsame j hj hji];refine h.fresh j hj ?_;unfold also at hf;rw [if_neg hji] at hf;exact hf
 ·intro e he hLe;rcases hL e hLe with rfl | hLe'
  ·refine ⟨v,f,ai,Hi,si,hat,?_,?_⟩
   ·rcases hnew with h1 | ⟨ob,h1,h2,_⟩
    ·exact .inl h1
    ·exact .inr ⟨ob,h1,h2⟩
   ·intro o' d ho' hdd hdn;rw [ho] at ho';cases ho';rw [put_get,if_pos ⟨hdd,by rw [h.sn];exact hdn⟩]
  ·by_cases hei:e=i
   ·subst hei;rw [hi] at hLe';cases hLe'
   ·obtain ⟨v1,f1,a1,H1,s1,e1,e2,e3⟩:=h.early e he hLe';refine ⟨v1,f1,a1,H1,s1,e1,?_,?_⟩
    ·rcases e2 with ⟨e2,e2'⟩ | ⟨ob,e2,e2'⟩
     ·exact .inl ⟨e2,by rw [hsame e (h.mem e he) hei];exact e2'⟩
     ·exact .inr ⟨ob,e2,hearly _ _ e2'⟩
    ·intro o' d ho' hdd hdn;rw [put_get,if_neg (fun hc=>hd i e o o' d (Ne.symm hei) ho ho' hc.1 hdd)];exact e3 o' d ho' hdd hdn
 ·have clash:∀ e b y z y' z',e∈σ→L e=true→e≠i→μ' (H0.n+i)=some (b,y,z)→μ' (H0.n+e)=some (b,y',z')→False:=by
   intro e b y z y' z' he hLe hei h1 h2;rw [hsame e (h.mem e he) hei] at h2;have:=hlow e b y' z' he hLe h2;rcases hnew with ⟨_,h3⟩ | ⟨ob,_,_,h3⟩
   ·rw [h3] at h1;cases h1
   ·have:=h3 b y z h1;omega
  intro e e' b y z y' z' he he' hLe hLe' h1 h2
  by_cases hei:e=i
  ·subst hei
   by_cases hei':e'=e
   ·exact hei'.symm
   ·rcases hL e' hLe' with h3 | h3
    ·exact absurd h3 hei'
    ·exact (clash e' b y z y' z' he' h3 hei' h1 h2).elim
  ·by_cases hei':e'=i
   ·subst hei';rcases hL e hLe with h3 | h3
    ·exact absurd h3 hei
    ·exact (clash e b y' z' y z he h3 hei h2 h1).elim
   ·rcases hL e hLe with h3 | h3
    ·exact absurd h3 hei
    rcases hL e' hLe' with h4 | h4
    ·exact absurd h4 hei'
    rw [hsame e (h.mem e he) hei] at h1;rw [hsame e' (h.mem e' he') hei'] at h2;exact h.dist e e' b y z y' z' he he' h3 h4 h1 h2
 ·intro t ht;rw [put_get,if_neg (fun hc=>ht i him (by unfold also;rw [if_pos rfl]) o ho hc.1 (by rw [← h.sn];exact hc.2))];exact h.env t fun e he hLe=>ht e he (hL' e hLe)
end Go.Am

namespace Go.Am
open Go
variable {P:Program} {T:Tab} {ev:Ev} {fuel:Nat} {ops:Array Oper} {k:Nat} {μ:Mu} {H:Heap} {w:World}
variable {μ0:Mu} {H0:Heap} {w0:World} {r:A×Heap} {σ σs:List Nat} {sn:List (Nat×Heap)} {a s:A} {x:Act} {L:Nat→Bool}
theorem Early.post {μ':Mu} {H':Heap} {w':World} (hs:Sim μ H w) (p:Post μ H w μ' H' w') {q:Nat} {ob:O} (h:Early μ H w w0 q ob):Early μ' H' w' w0 q ob:=by
 obtain ⟨b,y,z,h1,h2,h3,h4,h5⟩:=h;refine ⟨b,y,z,p.ext hs _ _ h1,h2.mono (p.ext hs) ?_,fun hl=>h3 (p.live b h5 hl),h4,Nat.lt_of_lt_of_le h5 p.size⟩;intro b' x' y' m _;rw [h1] at m;cases m;exact p.kept b h5 fun ho=>h3 ho.live
theorem Inv.low (h:Inv T ev fuel ops μ0 H0 w0 r σ sn a H s μ w x L) {e b y z:Nat} (he:e∈σ) (hL:L e=true) (hm:μ (H0.n+e)=some (b,y,z)):b<w.heap.size:=by
 obtain ⟨v,f,ae,He,se,_,hk,_⟩:=h.early e he hL;rcases hk with ⟨_,h1⟩ | ⟨ob,_,b',y',z',h1,_,_,_,h5⟩
 ·rw [h1] at hm;cases hm
 ·rw [h1] at hm;cases hm;exact h5
theorem loadVar_congr {H K:Heap} {t:TypeId} {l off:Nat} (h:H.get l=K.get l):loadVar T H t l off=loadVar T K t l off:=by
 unfold loadVar cellsAt;rw [h]
theorem Inv.read (hT:TabOk P T) (hst:Static ops σs) (h:Inv T ev fuel ops μ0 H0 w0 r σ sn a H s μ w x L) {i:Nat} {o:Oper} {v:V} {f:Eff} {ai:A} {Hi:Heap} {si:List (Nat×Heap)} (hi:L i=false) (hanc:∀ j,Bef ops i j→L j=true)
  (ho:ops[i]?=some o) (hat:atD T ev fuel ops H0.n σ sn a H i=some (v,f,ai,Hi,si)) (hr:reads o.op=true) (hx:execOp T ai Hi o.op=.val v Hi) (hsd:stood T ai o v ((Region.before ops).getD i 0) si=true) :
  ∃ u,(Go.execOp x.eval o).run P w=.ok (.value u) w∧RV μ v u:=by
 obtain ⟨pre,post,sp⟩:=at_split hst.dsts h.nodup hat;obtain ⟨Ĥ,hH,hcase⟩:=sp.heap
 have hx':∃ K',execOp T ai Ĥ o.op=.val v K':=by
  rcases hcase with rfl | ⟨q,hq,hqs,vh,H',ah,Hh,sh,hath⟩
  ·exact ⟨_,hx⟩
  ·refine stood_spec hsd q Ĥ hqs ?_
   cases hb:((Region.before ops).getD i 0).testBit q with
   | false=>rfl
   | true =>
     obtain ⟨v1,f1,a1,H1,s1,e1,e2,_⟩:=h.early q (by rw [sp.eq];exact List.mem_append_left _ hq) (hanc q hb);rw [hath] at e1
     cases e1
     rcases e2 with ⟨e2,_⟩ | ⟨ob,e2,_⟩ <;> cases e2
 obtain ⟨K',hx'⟩:=hx';have hlk:=h.looks hst hi hanc hat ho;rw [← exec_congr (looks_eval hlk)] at hx';unfold reads at hr;split at hr
 ·rename_i t y hop;have hex:Go.execOp x.eval o=(do pure (.value (← Instr.loadAt t (x.eval y))):Sem Next):=by unfold Go.execOp;rw [hop]
  rw [hop] at hx';simp only [Am.execOp] at hx';obtain ⟨p,h1,e0⟩:=op1_inv hx' (by simp);split at e0
  ·rename_i l off;obtain ⟨hl,_⟩:=OR.ofV_val e0;have hp:=h.rel.eval h1;generalize hq:x.eval y=q at hp
   cases hp with
   | ptr hm =>
   have key:∃ K,Sim μ K w∧loadVar T K t l off=some v:=by
    cases hg:Ĥ.get l with
    | none =>
      unfold loadVar cellsAt at hl;rw [hg] at hl;cases hl
    | some ob =>
      rcases hH l ob hg with h2 | ⟨p,hpp,rfl,vp,ap,Hp,sp',hatp⟩
      ·exact ⟨H,h.post.sim,by rw [loadVar_congr (h2.trans hg.symm)];exact hl⟩
      ·have hps:p∈σ:=by rw [sp.eq];exact List.mem_append_left _ hpp
       cases hLp:L p with
       | false =>
         rw [h.fresh p (h.mem p hps) hLp] at hm;cases hm
       | true =>
         obtain ⟨v1,f1,a1,H1,s1,e1,e2,_⟩:=h.early p hps hLp;rw [hatp] at e1
         cases e1
         rcases e2 with ⟨e2,_⟩ | ⟨ob',e2,b',y',z',g1,g2,g3,g4,g5⟩
         ·cases e2
         ·cases e2
          have hlt:H0.n+p<H.n:=by have:=h.mem p hps;have:=h.room;omega
          refine ⟨H.put (H0.n+p) ob,h.post.sim.join hlt g1 g2 g3,?_⟩;rw [loadVar_congr (show (H.put (H0.n+p) ob).get (H0.n+p)=Ĥ.get (H0.n+p) by rw [Heap.get_put hlt,if_pos rfl,hg])];exact hl
   obtain ⟨K,hs,hlK⟩:=key;obtain ⟨u,hrun,hv⟩:=run_loadVar (P:=P) hT hs hlK hm;refine ⟨u,?_,hv⟩;rw [hex,hq];simp [Instr.loadAt,Instr.sureAddr,hrun]
  ·cases e0
 ·cases hr
theorem Inv.loud {i:Nat} {rest:List Nat} (h:Inv T ev fuel ops μ0 H0 w0 r (i::rest) sn a H s μ w x L) {o:Oper} {v:V} {u:Value} {H':Heap} (hi:L i=false) (hanc:∀ j,Bef ops i j→L j=true)
  (hd:∀ (i j:Nat) (x y:Oper) (d:Tmp),i≠j→ops[i]?=some x→ops[j]?=some y→x.dst=some d→y.dst≠some d)
  (ho:ops[i]?=some o) (hs:stepD T ev fuel ops H0.n i o sn a H=some (v,.loud H')) {μ':Mu} {w':World} (p:Post μ H w μ' H' w') (hv:RV μ' v u) :
  Inv T ev fuel ops μ0 H0 w0 r rest ((i,H)::sn) (a.put o.dst v) H' (s.put o.dst v) μ' w' (x.put o.dst u) (also L i):=by
 obtain ⟨o',v',f',ho',hs',hrun⟩:=runDraw_cons h.run;rw [ho] at ho';cases ho';rw [hs] at hs';cases hs';have hpw:=h.pw;rw [List.pairwise_cons] at hpw;have hne:∀ e∈rest,e≠i:=fun e he heq=>(hpw.1 e he).1 heq.symm
 have hL:∀ j,also L i j=true→j=i∨L j=true:=fun j hj=>by
  unfold also at hj;split at hj
  ·rename_i e;exact .inl e
  ·exact .inr hj
 have hL':∀ j,L j=true→also L i j=true:=fun j hj=>by
  unfold also;split
  ·rfl
  ·exact hj
 have hag:∀ j,j<ops.size→μ' (H0.n+j)=μ (H0.n+j):=fun j hj=>p.agree _ (by have:=h.room;omega);have hLr:∀ e∈rest,also L i e=true→L e=true:=fun e he hLe=>(hL e hLe).resolve_left (hne e he);refine ⟨hrun,hpw.2,fun j hj=>h.mem j (List.mem_cons_of_mem _ hj),?_,?_,h.post.trans p,Nat.le_trans h.room p.n,?_,?_,?_,?_,(h.rel.mono (p.ext h.post.sim)).put hv _,by rw [put_n,put_n];exact h.sn,by rw [put_defers,put_defers];exact h.sd,?_⟩
 ·intro j hj hn
  by_cases hji:j=i
  ·subst hji;unfold also;rw [if_pos rfl]
  ·exact hL' j (h.out j hj (by simp [hji,hn]))
 ·intro j l hj hb;rcases hL j hj with rfl | hj
  ·exact hL' l (hanc l hb)
  ·exact hL' l (h.closed j l hj hb)
 ·intro j hj;exact p.hole _ (by have:=h.room;have:=h.mem j (List.mem_cons_of_mem _ hj);omega) (h.res j (List.mem_cons_of_mem _ hj))
 ·intro j hj hf;rw [hag j hj];refine h.fresh j hj ?_;unfold also at hf;split at hf
  ·cases hf
  ·exact hf
 ·intro e he hLe;obtain ⟨v1,f1,a1,H1,s1,e1,e2,e3⟩:=h.early e (List.mem_cons_of_mem _ he) (hLr e he hLe);rw [at_next ho hs (hne e he)] at e1;refine ⟨v1,f1,a1,H1,s1,e1,?_,?_⟩
  ·rcases e2 with ⟨e2,e2'⟩ | ⟨ob,e2,e2'⟩
   ·exact .inl ⟨e2,by rw [hag e (h.mem e (List.mem_cons_of_mem _ he))];exact e2'⟩
   ·exact .inr ⟨ob,e2,e2'.post h.post.sim p⟩
  ·intro oe d hoe hdd hdn;rw [put_get,if_neg (fun hc=>hd i e o oe d (Ne.symm (hne e he)) ho hoe hc.1 hdd)];exact e3 oe d hoe hdd (by simpa using hdn)
 ·intro e e' b y z y' z' he he' hLe hLe' h1 h2;rw [hag e (h.mem e (List.mem_cons_of_mem _ he))] at h1;rw [hag e' (h.mem e' (List.mem_cons_of_mem _ he'))] at h2;exact h.dist e e' b y z y' z' (List.mem_cons_of_mem _ he) (List.mem_cons_of_mem _ he') (hLr e he hLe) (hLr e' he' hLe') h1 h2
 ·intro t ht;rw [put_get,put_get,h.sn]
  by_cases hc:o.dst=some t∧t<a.tmps.n
  ·rw [if_pos hc,if_pos hc]
  ·rw [if_neg hc,if_neg hc];refine h.env t fun e he hLe oe hoe hdd htn=>?_;rcases List.mem_cons.1 he with rfl | he
   ·rw [hi] at hLe;cases hLe
   ·exact ht e he (hL' e hLe) oe hoe hdd (by rw [put_n];exact htn)
def Ready (T:Tab) (ev:Ev) (fuel:Nat) (ops:Array Oper) (μ0:Mu) (H0:Heap) (w0:World) (r:A×Heap) (L:Nat→Bool) (x:Act) (w:World):Prop:=
 ∃ σ sn a H s μ,Inv T ev fuel ops μ0 H0 w0 r σ sn a H s μ w x L∧∀ p rest,σ=p::rest→L p=false
theorem ready_op (hT:TabOk P T) (hcall:CallOk P T (calls T ev fuel)) (hround:RoundOk P (round ev)) (hst:Static ops σs) {rd:Option Nat} {Q:Exit→Act→World→Prop} {K:Act→World→Prop}
  (h:Ready T ev fuel ops μ0 H0 w0 r L x w) {i:Nat} (hi:L i=false) (his:i<ops.size) (hanc:∀ j,Bef ops i j→L j=true)
  (hK:∀ x' w',Ready T ev fuel ops μ0 H0 w0 r (also L i) x' w'→K x' w'):wpOpIn (FW rd) 0 P ops Q i K x w:=by
 obtain ⟨σ,sn,a,H,s,μ,h,hhead⟩:=h
 have him:i∈σ:=by
  refine Classical.byContradiction fun hn=>?_;rw [h.out i his hn] at hi;cases hi
 obtain ⟨⟨v,f,ai,Hi,si⟩,hat⟩:=at_some h.run him;obtain ⟨pre,post,sp⟩:=at_split hst.dsts h.nodup hat;obtain ⟨o,ho,hs⟩:=sp.step;have hlk:=h.looks hst hi hanc hat ho;have hw1:=wanted_eq ops h.rel o;have hw2:=wanted_congr hlk;have hxc:∀ K,execOp T s K o.op=execOp T ai K o.op:=fun K=>exec_congr (looks_eval hlk);unfold wpOpIn;rw [ho];dsimp only
 have settle:∀ {σ:List Nat} {sn:List (Nat×Heap)} {a:A} {H:Heap} {s:A} {μ:Mu} {w:World} {x:Act},Inv T ev fuel ops μ0 H0 w0 r σ sn a H s μ w x (also L i)→K x w:=by
  intro σ sn a H s μ w x h;obtain ⟨σ',sn',a',H',h',hh'⟩:=h.settle;exact hK _ _ ⟨σ',sn',a',H',s,μ,h',hh'⟩
 have hfi:=h.fresh i his hi;have hqi:H0.n+i<H.n:=by have:=h.room;omega
 -- taken out of turn,no object made
 have still:∀ {u:Value} {μ':Mu} {w':World},f=.still→Post μ H w μ' H w'→RV μ' v u→K (x.put o.dst u) w':=by
  intro u μ' w' hf p hv
  refine settle (h.take hi him hanc ho hat hst.dsts (h.post.trans p) (p.ext h.post.sim) hv (fun j hj _=>p.agree _ (by have:=h.room;omega)) (fun q ob he=>he.post h.post.sim p)
   (.inl ⟨hf,by rw [p.agree _ hqi];exact hfi⟩) fun e b y z he hL hm=>h.low he hL hm)
 -- a loud one stands at the head
 have head:loud o.op=true→∃ rest,σ=i::rest∧ai=a∧Hi=H∧si=sn:=by
  intro hl
  have hpre:pre=[]:=by
   cases hp:pre with
   | nil=>rfl
   | cons p ps =>
     have hpw:=h.pw;rw [sp.eq,List.pairwise_append] at hpw;obtain ⟨_,_,o',ho',hb⟩:=hpw.2.2 p (by rw [hp];simp) i (by simp);rw [ho] at ho';cases ho';have h1:=hanc p (hb hl);have h2:=hhead p (ps++i::post) (by rw [sp.eq,hp];rfl);rw [h1] at h2;cases h2
  have he:σ=i::post:=by have:=sp.eq;rw [hpre] at this;exact this
  subst he;obtain ⟨o1,v1,f1,ho1,hs1⟩:=at_inv hat;rw [at_cons ho1 hs1] at hat;simp only [if_true,Option.some.injEq,Prod.mk.injEq] at hat;obtain ⟨_,_,rfl,rfl,rfl⟩:=hat;exact ⟨post,rfl,rfl,rfl,rfl⟩
 have after:∀ {H':Heap} {u:Value} {μ':Mu} {w':World},loud o.op=true→f=.loud H'→Post μ Hi w μ' H' w'→RV μ' v u→K (x.put o.dst u) w':=by
  intro H' u μ' w' hl hf p hv;obtain ⟨rest,rfl,rfl,rfl,rfl⟩:=head hl;subst hf;exact settle (h.loud hi hanc hst.dsts ho hs p hv)
 have hnd:∀ {q:OR},execOp T s H o.op=q→(∀ d,q≠.defer d)→q≠.stuck→∀ c,o.op≠.defer c:=by
  intro q hq h1 h2 c hc;rw [hc] at hq;rcases defer_kind hq with h | ⟨d,h⟩
  ·exact h2 h
  ·exact h1 d h
 cases step_kind hs with
 | off hw =>
   rw [if_neg (by rw [hw1,hw2,hw];simp)];exact ⟨fun _ _=>trivial,still rfl (.refl h.post.sim) (.undef μ)⟩
 | still hw hx =>
   rw [if_pos (by rw [hw1,hw2,hw])];refine ⟨fun _ _=>trivial,?_⟩;have hxs:=(hxc H).trans (hx H);rw [semAt_eq (hnd hxs (by simp) (by simp))];obtain ⟨u,w1,μ1,h1,h2,h3⟩:=exec_made (P:=P) hT h.post.sim h.rel hxs;rcases h1 with h1 | ⟨h1,rfl⟩
   ·rw [h1];exact still rfl h3 h2
   ·rw [h1];exact still rfl h3 h2
 | made hw hf hob hx =>
   rename_i fv ob;rw [if_pos (by rw [hw1,hw2,hw])];refine ⟨fun _ _=>trivial,?_⟩;have hxs:=(hxc H).trans (hx H);rw [semAt_eq (hnd hxs (by simp) (by simp))];obtain ⟨u,w1,X,hrun,hv,hobj,hge,hlt,hkeep,hsz,o1,o2,o3⟩:=placed (P:=P) (q:=H0.n+i) hT h.post.sim h.rel hf hob (fun K=>(hxc K).trans (hx K)) hfi;have hg:=h.res i him
   have hext:∀ l y,μ l=some y→upd μ (H0.n+i) X l=some y:=fun l y e=>by
    rw [upd_other _ (fun h=>by rw [h,hfi] at e;cases e)];exact e
   have hlive:∀ b,Live (upd μ (H0.n+i) X) H b→Live μ H b:=by
    rintro b ⟨l,o',x1,y1,m1,m2,m3⟩;refine ⟨l,o',x1,y1,m1,m2,?_⟩;rw [upd_other _ (fun e=>by rw [e,hg] at m1;cases m1)] at m3;exact m3
   have hlt':∀ b,Live μ H b→b<w.heap.size:=by
    rintro b ⟨l,o',x1,y1,m1,m2,m3⟩;obtain ⟨b',x',y',m',hlt⟩:=(h.post.sim.obj l o' m1).block m2;rw [m3] at m';cases m';exact hlt
   have hnew:=settle (h.take (u:=u) hi him hanc ho hat hst.dsts (h.post.place hfi hqi hg (by omega) hkeep hsz o1 o2 o3) hext hv (fun j hj hji=>upd_other _ (by omega))
    (fun q ob' ⟨b,y,z,e1,e2,e3,e4,e5⟩=>⟨b,y,z,hext _ _ e1,e2.mono hext fun b' x' y' m _=>by rw [e1] at m;cases m;exact hkeep b e5,fun hl=>e3 (hlive b hl),e4,Nat.lt_of_lt_of_le e5 hsz⟩)
    (.inr ⟨ob,rfl,⟨X.1,X.2.1,X.2.2,upd_same _ _ _,hobj,fun hl=>by have:=hlt' _ (hlive _ hl);omega,Nat.le_trans h.post.size hge,hlt⟩,fun b y z hm=>by rw [upd_same] at hm;cases hm;exact hge⟩)
    fun e b y z he hL hm=>h.low he hL hm)
   rcases hrun with hrun | ⟨hrun,rfl⟩
   ·rw [hrun];exact hnew
   ·rw [hrun];exact hnew
 | read hw hr hx hsd =>
   rw [if_pos (by rw [hw1,hw2,hw])];refine ⟨fun _ _=>trivial,?_⟩;obtain ⟨u,hrun,hv⟩:=h.read (P:=P) hT hst hi hanc ho hat hr hx hsd;rw [semAt_eq (fun c hc=>by rw [hc] at hr;simp [reads] at hr),hrun];exact still rfl (.refl h.post.sim) hv
 | val hw hl hx =>
   rw [if_pos (by rw [hw1,hw2,hw])];refine ⟨fun _ _=>trivial,?_⟩;obtain ⟨rest,_,_,rfl,_⟩:=head hl;have hxs:=(hxc _).trans hx;rw [semAt_eq (hnd hxs (by simp) (by simp))];obtain ⟨u,w1,μ1,h1,h2,h3⟩:=exec_made (P:=P) hT h.post.sim h.rel hxs;rcases h1 with h1 | ⟨h1,rfl⟩
   ·rw [h1];exact after hl rfl h3 h2
   ·rw [h1];exact after hl rfl h3 h2
 | call hw hl hx hc =>
   rename_i H' g args;rw [if_pos (by rw [hw1,hw2,hw])];refine ⟨fun _ _=>trivial,?_⟩;obtain ⟨rest,_,_,rfl,_⟩:=head hl;have hxs:=(hxc _).trans hx;rw [semAt_eq (hnd hxs (by simp) (by simp))];obtain ⟨c,hc',hco⟩:=exec_is_call hxs;obtain ⟨us,hus,hrun⟩:=callOp_call (P:=P) hT h.post.sim h.rel hc' hco;rcases (hcall g args _ (by rw [hc];simp) μ w us h.post.sim hus).1 with ⟨hci,hcf⟩ | ⟨u,w1,hcf,hp⟩
   case inr =>
    rw [hrun,hcf];rw [hc] at hp;obtain ⟨μ1,hv,hpost⟩:=hp;exact after hl rfl hpost hv
   rw [hrun,hcf];refine ⟨fun hh=>by simp [FW] at hh,?_⟩;refine (callsIn_fw hci).mono ?_;intro en w1 hp;rw [hc] at hp
   cases en with
   | returned u =>
     obtain ⟨μ1,hv,hpost⟩:=hp;exact after hl rfl hpost hv
   | panicked ch=>exact hp.elim
   | outgrown=>exact hp.elim
 | round hw hl hx hc =>
   rename_i H' l args;rw [if_pos (by rw [hw1,hw2,hw])];refine ⟨fun _ _=>trivial,?_⟩;obtain ⟨rest,_,_,rfl,_⟩:=head hl;have hxs:=(hxc _).trans hx;rw [semAt_eq (hnd hxs (by simp) (by simp))];obtain ⟨c,hc',hco⟩:=exec_is_round hxs;obtain ⟨us,b,y,z,hus,hm,hrun⟩:=callOp_round (P:=P) hT h.post.sim h.rel hc' hco;obtain ⟨fn,tmps,assign,body,hy,hri⟩:=hround l args _ (by rw [hc];simp) μ w us b y z h.post.sim hus hm;rw [hrun,hy];refine ⟨fun hh=>by simp [FW] at hh,?_⟩;refine (roundIn_fw hri).mono ?_;intro en w1 hp;rw [hc] at hp
   cases en with
   | returned u =>
     obtain ⟨μ1,hv,hpost⟩:=hp;exact after hl rfl hpost hv
   | panicked ch=>exact hp.elim
   | outgrown=>exact hp.elim
/-! ### All of them -/
def lst (listed:Array Bool):Nat→Bool:=fun i=>listed.getD i false
theorem lst_set {listed:Array Bool} {i:Nat} (hi:i<listed.size):lst (listed.setIfInBounds i true)=also (lst listed) i:=by
 funext j
 show (listed.setIfInBounds i true).getD j false=if j=i then true else listed.getD j false
 rw [Array.getD_eq_getD_getElem?,Array.getElem?_setIfInBounds,Array.getD_eq_getD_getElem?]
 by_cases e:i=j
 ·subst e;simp [hi]
 ·rw [if_neg e,if_neg (Ne.symm e)]
def left (L:Nat→Bool) (n:Nat):Nat:=(List.range n).countP fun i=>!L i
theorem left_also {L:Nat→Bool} {i n:Nat} (hi:i<n) (hL:L i=false):left (also L i) n<left L n:=by
 unfold left
 have key:∀ l:List Nat,l.countP (fun j=>!also L i j)≤l.countP (fun j=>!L j)∧(i∈l→l.countP (fun j=>!also L i j)<l.countP (fun j=>!L j)):=by
  intro l
  induction l with
  | nil=>simp
  | cons j l ih =>
    simp only [List.countP_cons]
    by_cases e:j=i
    ·subst e;have h1:also L j j=true:=by simp [also]
     simp only [h1,hL];constructor
     ·simp;omega
     ·intro _;simp;omega
    ·have h1:also L i j=L j:=by simp [also,e]
     simp only [h1];refine ⟨by omega,fun hm=>?_⟩;have:=ih.2 ((List.mem_cons.1 hm).resolve_left (Ne.symm e));omega
 exact (key (List.range n)).2 (by simpa using hi)
theorem ready_all (hT:TabOk P T) (hcall:CallOk P T (calls T ev fuel)) (hround:RoundOk P (round ev)) (hst:Static ops σs) {rd:Option Nat} {Q:Exit→Act→World→Prop}
  (hQ:∀ μ' w' x',Post μ0 H0 w0 μ' r.2 w'→AR μ' r.1 x'→Q .normal x' w') :
  ∀ (n:Nat) (listed:Array Bool) (x:Act) (w:World),listed.size=ops.size→left (lst listed) ops.size≤n→Ready T ev fuel ops μ0 H0 w0 r (lst listed) x w →
    wpAnyIn (FW rd) 0 P .any ops Q n listed x w:=by
 have done:∀ (listed:Array Bool) (x:Act) (w:World),Ready T ev fuel ops μ0 H0 w0 r (lst listed) x w→(∀ i,i<ops.size→lst listed i=true)→Q .normal x w:=by
  intro listed x w h hall;obtain ⟨σ,sn,a,H,s,μ,h,hhead⟩:=h
  cases σ with
  | cons p rest =>
    have h1:=hhead p rest rfl;rw [hall p (h.mem p (by simp))] at h1;cases h1
  | nil =>
    have hrun:=h.run;simp only [runDraw,Option.some.injEq] at hrun;have hp:=h.post;refine hQ μ w x (by rw [← hrun];exact hp) ?_;rw [← hrun];refine ⟨⟨by rw [h.rel.tmps.size,h.sn],fun t=>?_⟩,by rw [← h.sd];exact h.rel.defers⟩;have:=h.rel.tmps.get t;rw [h.env t fun e he=>by simp at he] at this;exact this
 have none_ready:∀ (listed:Array Bool),listed.size=ops.size→Region.ready .any ops listed=[]→∀ i,i<ops.size→lst listed i=true:=by
  intro listed hsz hr i
  induction i using Nat.strongRecOn with
  | _ i ih =>
    intro hi
    cases hl:lst listed i with
    | true=>rfl
    | false =>
      have:i∈Region.ready .any ops listed:=by
       rw [mem_ready];refine ⟨?_,ops[i],by simp [hi],fun e he hb=>ih e.on (hst.back i ops[i] (by simp [hi]) e he hb) ?_⟩
       ·unfold lst at hl;rw [Array.getD_eq_getD_getElem?] at hl ⊢;rw [Array.getElem?_eq_getElem (by omega)] at hl ⊢;exact hl
       ·have:=hst.back i ops[i] (by simp [hi]) e he hb;omega
      rw [hr] at this;simp at this
 intro n
 induction n with
 | zero =>
   intro listed x w hsz hn h
   have hall:∀ i,i<ops.size→lst listed i=true:=by
    intro i hi
    cases hl:lst listed i with
    | true=>rfl
    | false=>have:=left_also hi hl;omega
   refine ⟨?_,done listed x w h hall⟩;rw [List.eq_nil_iff_forall_not_mem];intro j hj;rw [mem_ready] at hj;obtain ⟨h1,o,ho,_⟩:=hj
   have hjs:j<ops.size:=by
    rcases Nat.lt_or_ge j ops.size with h' | h'
    ·exact h'
    ·rw [Array.getElem?_eq_none h'] at ho;cases ho
   have h2:=hall j hjs;unfold lst at h2;rw [Array.getD_eq_getD_getElem?] at h1 h2;rw [Array.getElem?_eq_getElem (by omega)] at h1 h2;simp only [Option.getD_some] at h1 h2;rw [h1] at h2;cases h2
 | succ n ih =>
   intro listed x w hsz hn h;refine ⟨fun hr=>done listed x w h (none_ready listed hsz hr),fun i hi=>?_⟩;rw [mem_ready] at hi;obtain ⟨h1,o,ho,hedge⟩:=hi
   have his:i<ops.size:=by
    rcases Nat.lt_or_ge i ops.size with h' | h'
    ·exact h'
    ·rw [Array.getElem?_eq_none h'] at ho;cases ho
   have hLi:lst listed i=false:=by
    unfold lst;rw [Array.getD_eq_getD_getElem?] at h1 ⊢;rw [Array.getElem?_eq_getElem (by omega)] at h1 ⊢;exact h1
   have hanc:∀ j,Bef ops i j→lst listed j=true:=by
    intro j hj;rw [bef_iff ho (hst.back i o ho)] at hj;obtain ⟨e,he,hb,hc⟩:=hj;have hon:=hedge e he hb;rcases hc with rfl | hc
    ·exact hon
    ·obtain ⟨σ,sn,a,H,s,μ,h,_⟩:=h;exact h.closed e.on j hon hc
   refine ready_op hT hcall hround hst h hLi his hanc fun x' w' h'=>?_;rw [← lst_set (by omega)] at h';refine ih _ _ _ (by simpa using hsz) ?_ h';rw [lst_set (by omega)];have:=left_also his hLi;omega
theorem draw_ok (hmix:P.follows .mixedOrders=true) (hT:TabOk P T) (hcall:CallOk P T (calls T ev fuel)) (hround:RoundOk P (round ev)):DrawOk P T ev fuel:=by
 intro id ops a H a' H' hd hc hrun μ w x rd Q h ha hQ;have hst:=static_of hd;apply wpIn_region_any hmix;have hp0:=(Post.keep h hc).trans (Post.drawn (Post.keep h hc).sim (w.drawn+1))
 have hlf:lst (Array.replicate ops.size false)=fun _=>false:=by
  funext j
  unfold lst;rw [Array.getD_eq_getD_getElem?,Array.getElem?_replicate];split <;> rfl
 have hkg:∀ i,(H.keep ops.size).get (H.n+i)=none∨ops.size≤i:=by
  intro i;rcases Nat.lt_or_ge i ops.size with hi | hi
  ·left
   unfold Heap.clean at hc;simp only [List.all_eq_true,List.mem_range] at hc;have:=hc i hi;simp only [Heap.get_eq,Heap.keep];rw [if_pos (by omega)];simpa using this
  ·exact .inr hi
 refine ready_all (μ0:=μ) (H0:=H) (w0:=w) (r:=(a',H')) hT hcall hround hst (fun μ' w' x' hp ha'=>hQ μ' w' x' hp ha') _ _ _ _ (by simp) ?_ ⟨_,_,_,_,a,μ,⟨hrun,hst.order,hst.mem,?_,?_,hp0,?_,?_,?_,?_,?_,ha,rfl,rfl,fun _ _=>rfl⟩,?_⟩
 ·unfold left;exact Nat.le_trans List.countP_le_length (by simp)
 ·intro i hi hn;exact absurd (hst.all i hi) hn
 ·intro i j hL;rw [hlf] at hL;cases hL
 ·simp [Heap.keep]
 ·intro i hi;rcases hkg i with h1 | h1
  ·exact h1
  ·have:=hst.mem i hi;omega
 ·intro i hi _
  cases hm:μ (H.n+i) with
  | none=>rfl
  | some q=>have:=h.dom _ _ hm;omega
 ·intro e he hL;rw [hlf] at hL;cases hL
 ·intro e e' b y z y' z' he he' hL;rw [hlf] at hL;cases hL
 ·intro p rest _;rw [hlf]
theorem run_ok (hmix:P.follows .mixedOrders=true) (hT:TabOk P T) (hP:PrimOk P T) {n:Nat} {f:FuncId} {as:List V} {H:Heap} (hpf:T.prim f=none) (hne:run T n f as H≠.stuck) {us:List Value} (h:Sim μ H w) (hr:RVL μ as us) :
  Calls P f ⟨us⟩ w (CallPost μ H w (run T n f as H)):=
 callsIn_wide.1 ((calls_ok hT hP (ev_ok hT hP (fun ev fuel hc hr=>draw_ok hmix hT hc hr) n) f as H hne μ w us h hr).2 hpf).1
end Go.Am
