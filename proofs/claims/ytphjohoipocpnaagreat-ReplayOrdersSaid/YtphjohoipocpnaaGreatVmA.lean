import Derived.Test.YtphjohoipocpnaaGreatWpB
set_option linter.unusedVariables false
set_option linter.unusedSimpArgs false
/- Values in depth: what a frame holds, without places. 'imm': a slice that stays as it is; 'fresh': one that its holder alone holds; 'own k n': the k-th thing that this frame made itself, while it has n elements. -/
namespace Go.Am.Vm
inductive D where
 | unk
 | atom (v:V)
 | agg (ds:List D)
 | tuple (ds:List D)
 | iface (t:TypeId) (d:D)
 | fn (f:FuncId) (first captured:List D)
 | imm (s:Nat) (es:List (List D))
 | iptr (cs:List D) (o:Nat)
 | own (k n:Nat)
 | optr (k n j c:Nat)
 | rptr (k c:Nat)
 | fresh (s:Nat) (es:List (List D))
 | omap (k:Nat)
inductive Hd where
 | dead
 | sl (w:V) (n s:Nat)
 | cell (l:Nat)
def Stb (K:(Nat→Prop)→List Nat→Heap→Prop):Prop:=
 ∀ (P P':Nat→Prop) (F:List Nat) (H H':Heap),K P F H→(∀ l,P l→P' l)→(∀ l o,(P l∨l∈F)→H.get l=some o→H'.get l=some o)→K P' F H'
inductive Ob where
 | dead
 | ghost (K:(Nat→Prop)→List Nat→Heap→Prop)
 | sl (s:Nat) (es:List (List D))
 | cell (cs:List D)
 | mp (es:List (V×D))
inductive RL (P:Nat→Prop) (H:Heap):List Hd→List D→List V→List Nat→Prop
 | nil {μ:List Hd}:RL P H μ [] [] []
 | unk {μ:List Hd} {v:V} {ds:List D} {vs:List V} {F:List Nat}:RL P H μ ds vs F→RL P H μ (.unk::ds) (v::vs) F
 | atom {μ:List Hd} {v:V} {ds:List D} {vs:List V} {F:List Nat}:RL P H μ ds vs F→RL P H μ (.atom v::ds) (v::vs) F
 | agg {μ:List Hd} {cs ds:List D} {ws vs:List V} {F G:List Nat}:RL P H μ cs ws F→RL P H μ ds vs G→RL P H μ (.agg cs::ds) (.agg ws::vs) (F++G)
 | tuple {μ:List Hd} {cs ds:List D} {ws vs:List V} {F G:List Nat}:RL P H μ cs ws F→RL P H μ ds vs G→RL P H μ (.tuple cs::ds) (.tuple ws::vs) (F++G)
 | iface {μ:List Hd} {t:TypeId} {d:D} {v:V} {ds:List D} {vs:List V} {F G:List Nat}:RL P H μ [d] [v] F→RL P H μ ds vs G→RL P H μ (.iface t d::ds) (.iface t v::vs) (F++G)
 | fn {μ:List Hd} {f:FuncId} {us ws ds:List D} {us' ws' vs:List V} {F G K:List Nat}:RL P H μ us us' F→RL P H μ ws ws' G→RL P H μ ds vs K→RL P H μ (.fn f us ws::ds) (.func (.func f) us' ws'::vs) (F++(G++K))
 | immNil {μ:List Hd} {s:Nat} {ds:List D} {vs:List V} {F:List Nat}:RL P H μ ds vs F→RL P H μ (.imm s []::ds) (.nilSlice::vs) F
 | imm {μ:List Hd} {l o s:Nat} {q:Option Nat} {ro:Bool} {cs ws:List V} {es:List (List D)} {ds:List D} {vs:List V} {F:List Nat} :
   P l→H.get l=some (.cells ro cs)→take? cs o (es.length * s)=some ws→RL P H [] es.flatten ws []→(∀ e,e∈es→e.length=s)→ws.all V.one=true→(∀ m,q=some m→es.length≤m) →
   RL P H μ ds vs F→RL P H μ (.imm s es::ds) (.slice l o es.length s q::vs) F
 | iptr {μ:List Hd} {l b o:Nat} {ro:Bool} {cs ws:List V} {es:List D} {ds:List D} {vs:List V} {F:List Nat} :
   P l→H.get l=some (.cells ro cs)→take? cs b es.length=some ws→RL P H [] es ws []→RL P H μ ds vs F→RL P H μ (.iptr es o::ds) (.ptr l (b+o)::vs) F
 | own {μ:List Hd} {k n:Nat} {h:Hd} {v:V} {ds:List D} {vs:List V} {F:List Nat}:μ[k]?=some h→(∀ w m s,h=.sl w m s→n≤m∧(n=m→v=w)) →
   RL P H μ ds vs F→RL P H μ (.own k n::ds) (v::vs) F
 | optr {μ:List Hd} {k n j c:Nat} {h:Hd} {v:V} {ds:List D} {vs:List V} {F:List Nat}:μ[k]?=some h→(∀ w m s,h=.sl w m s→n≤m∧(n=m→∃ l o q,w=.slice l o n s q∧v=.ptr l (o+(j * s+c)))) →
   RL P H μ ds vs F→RL P H μ (.optr k n j c::ds) (v::vs) F
 | rptr {μ:List Hd} {k c:Nat} {h:Hd} {v:V} {ds:List D} {vs:List V} {F:List Nat}:μ[k]?=some h→(∀ l,h=.cell l→v=.ptr l c) →
   RL P H μ ds vs F→RL P H μ (.rptr k c::ds) (v::vs) F
 | omap {μ:List Hd} {k:Nat} {h:Hd} {v:V} {ds:List D} {vs:List V} {F:List Nat}:μ[k]?=some h→(∀ l,h=.cell l→v=.map l) →
   RL P H μ ds vs F→RL P H μ (.omap k::ds) (v::vs) F
 | freshNil {μ:List Hd} {s:Nat} {ds:List D} {vs:List V} {F:List Nat}:RL P H μ ds vs F→RL P H μ (.fresh s []::ds) (.nilSlice::vs) F
 | fresh {μ:List Hd} {l s:Nat} {q:Option Nat} {pre ws rest:List V} {es:List (List D)} {ds:List D} {vs:List V} {F G:List Nat} :
   H.get l=some (.cells false (pre++(ws++rest)))→RL P H [] es.flatten ws F→(∀ e,e∈es→e.length=s)→ws.all V.one=true→(∀ m,q=some m→es.length≤m∧(m - es.length) * s≤rest.length) →
   RL P H μ ds vs G→RL P H μ (.fresh s es::ds) (.slice l pre.length es.length s q::vs) (l::(F++G))
variable {T:Tab} {P P':Nat→Prop} {H H':Heap} {μ μ':List Hd} {ds es:List D} {vs ws:List V} {F G:List Nat} {d:D} {v:V}
theorem RL.keep (h:RL P H μ ds vs F):(∀ l o,(P l∨l∈F)→H.get l=some o→H'.get l=some o)→RL P H' μ ds vs F:=by
 induction h with
 | nil=>exact fun _=>.nil
 | unk h ih=>exact fun k=>.unk (ih k)
 | atom h ih=>exact fun k=>.atom (ih k)
 | agg h1 h2 i1 i2=>exact fun k=>.agg (i1 fun l o hl=>k l o (hl.imp id fun h=>by simp [h])) (i2 fun l o hl=>k l o (hl.imp id fun h=>by simp [h]))
 | tuple h1 h2 i1 i2=>exact fun k=>.tuple (i1 fun l o hl=>k l o (hl.imp id fun h=>by simp [h])) (i2 fun l o hl=>k l o (hl.imp id fun h=>by simp [h]))
 | iface h1 h2 i1 i2=>exact fun k=>.iface (i1 fun l o hl=>k l o (hl.imp id fun h=>by simp [h])) (i2 fun l o hl=>k l o (hl.imp id fun h=>by simp [h]))
 | fn h1 h2 h3 i1 i2 i3=>exact fun k=>.fn (i1 fun l o hl=>k l o (hl.imp id fun h=>by simp [h])) (i2 fun l o hl=>k l o (hl.imp id fun h=>by simp [h])) (i3 fun l o hl=>k l o (hl.imp id fun h=>by simp [h]))
 | immNil h ih=>exact fun k=>.immNil (ih k)
 | imm p g t r e u c h ir ih=>exact fun k=>.imm p (k _ _ (.inl p) g) t (ir fun l o hl=>k l o (hl.imp id fun h=>by simp at h)) e u c (ih k)
 | iptr p g t r h ir ih=>exact fun k=>.iptr p (k _ _ (.inl p) g) t (ir fun l o hl=>k l o (hl.imp id fun h=>by simp at h)) (ih k)
 | own m c h ih=>exact fun k=>.own m c (ih k)
 | optr m c h ih=>exact fun k=>.optr m c (ih k)
 | rptr m c h ih=>exact fun k=>.rptr m c (ih k)
 | omap m c h ih=>exact fun k=>.omap m c (ih k)
 | freshNil h ih=>exact fun k=>.freshNil (ih k)
 | fresh g r e u c h ir ih=>exact fun k=>.fresh (k _ _ (.inr (by simp)) g) (ir fun l o hl=>k l o (hl.imp id fun h=>by simp [h])) e u c (ih fun l o hl=>k l o (hl.imp id fun h=>by simp [h]))
theorem RL.weakP (h:RL P H μ ds vs F) (k:∀ l,P l→P' l):RL P' H μ ds vs F:=by
 induction h with
 | nil=>exact .nil
 | unk h ih=>exact .unk ih
 | atom h ih=>exact .atom ih
 | agg h1 h2 i1 i2=>exact .agg i1 i2
 | tuple h1 h2 i1 i2=>exact .tuple i1 i2
 | iface h1 h2 i1 i2=>exact .iface i1 i2
 | fn h1 h2 h3 i1 i2 i3=>exact .fn i1 i2 i3
 | immNil h ih=>exact .immNil ih
 | imm p g t r e u c h ir ih=>exact .imm (k _ p) g t ir e u c ih
 | iptr p g t r h ir ih=>exact .iptr (k _ p) g t ir ih
 | own m c h ih=>exact .own m c ih
 | optr m c h ih=>exact .optr m c ih
 | rptr m c h ih=>exact .rptr m c ih
 | omap m c h ih=>exact .omap m c ih
 | freshNil h ih=>exact .freshNil ih
 | fresh g r e u c h ir ih=>exact .fresh g ir e u c ih
theorem RL.len (h:RL P H μ ds vs F):ds.length=vs.length:=by
 induction h <;> simp_all
theorem RL.app (h:RL P H μ ds vs F) (h':RL P H μ es ws G):RL P H μ (ds++es) (vs++ws) (F++G):=by
 induction h with
 | nil=>exact h'
 | unk h ih=>exact .unk (ih h')
 | atom h ih=>exact .atom (ih h')
 | agg h1 h2 i1 i2=>simp only [List.cons_append,List.append_assoc];exact .agg h1 (i2 h')
 | tuple h1 h2 i1 i2=>simp only [List.cons_append,List.append_assoc];exact .tuple h1 (i2 h')
 | iface h1 h2 i1 i2=>simp only [List.cons_append,List.append_assoc];exact .iface h1 (i2 h')
 | fn h1 h2 h3 i1 i2 i3=>simp only [List.cons_append,List.append_assoc];exact .fn h1 h2 (i3 h')
 | immNil h ih=>exact .immNil (ih h')
 | imm p g t r e u c h ir ih=>exact .imm p g t r e u c (ih h')
 | iptr p g t r h ir ih=>exact .iptr p g t r (ih h')
 | own m c h ih=>exact .own m c (ih h')
 | optr m c h ih=>exact .optr m c (ih h')
 | rptr m c h ih=>exact .rptr m c (ih h')
 | omap m c h ih=>exact .omap m c (ih h')
 | freshNil h ih=>exact .freshNil (ih h')
 | fresh g r e u c h ir ih=>simp only [List.cons_append,List.append_assoc];exact .fresh g r e u c (ih h')
theorem RL.uncons (h:RL P H μ (d::ds) vs F):∃ v vs' F1 F2,vs=v::vs'∧F=F1++F2∧RL P H μ [d] [v] F1∧RL P H μ ds vs' F2:=by
 cases h with
 | unk h=>exact ⟨_,_,[],_,rfl,rfl,.unk .nil,h⟩
 | atom h=>exact ⟨_,_,[],_,rfl,rfl,.atom .nil,h⟩
 | agg h1 h2=>exact ⟨_,_,_,_,rfl,rfl,by simpa using RL.agg h1 .nil,h2⟩
 | tuple h1 h2=>exact ⟨_,_,_,_,rfl,rfl,by simpa using RL.tuple h1 .nil,h2⟩
 | iface h1 h2=>exact ⟨_,_,_,_,rfl,rfl,by simpa using RL.iface h1 .nil,h2⟩
 | fn h1 h2 h3=>exact ⟨_,_,_++_,_,rfl,(List.append_assoc _ _ _).symm,by simpa using RL.fn h1 h2 .nil,h3⟩
 | immNil h=>exact ⟨_,_,[],_,rfl,rfl,.immNil .nil,h⟩
 | imm p g t r e u c h=>exact ⟨_,_,[],_,rfl,rfl,.imm p g t r e u c .nil,h⟩
 | iptr p g t r h=>exact ⟨_,_,[],_,rfl,rfl,.iptr p g t r .nil,h⟩
 | own m c h=>exact ⟨_,_,[],_,rfl,rfl,.own m c .nil,h⟩
 | optr m c h=>exact ⟨_,_,[],_,rfl,rfl,.optr m c .nil,h⟩
 | rptr m c h=>exact ⟨_,_,[],_,rfl,rfl,.rptr m c .nil,h⟩
 | omap m c h=>exact ⟨_,_,[],_,rfl,rfl,.omap m c .nil,h⟩
 | freshNil h=>exact ⟨_,_,[],_,rfl,rfl,.freshNil .nil,h⟩
 | fresh g r e u c h=>exact ⟨_,_,_::_,_,rfl,rfl,by simpa using RL.fresh g r e u c .nil,h⟩
theorem RL.split:∀ {ds:List D} {vs:List V} {F:List Nat},RL P H μ (ds++es) vs F→∃ vs1 vs2 F1 F2,vs=vs1++vs2∧F=F1++F2∧RL P H μ ds vs1 F1∧RL P H μ es vs2 F2
 | [],vs,F,h=>⟨[],vs,[],F,rfl,rfl,.nil,h⟩
 | d::ds,vs,F,h=>by
   obtain ⟨v,vs',F1,F2,rfl,rfl,h1,h2⟩:=RL.uncons h;obtain ⟨u1,u2,G1,G2,rfl,rfl,h3,h4⟩:=RL.split h2;exact ⟨v::u1,u2,F1++G1,G2,rfl,by simp,by simpa using h1.app h3,h4⟩
theorem RL.nil_inv (h:RL P H μ [] vs F):vs=[]∧F=[]:=by cases h;exact ⟨rfl,rfl⟩
theorem RL.one (h:RL P H μ [d] vs F):∃ v,vs=[v]∧RL P H μ [d] [v] F:=by
 obtain ⟨v,vs',F1,F2,rfl,rfl,h1,h2⟩:=h.uncons;obtain ⟨rfl,rfl⟩:=h2.nil_inv;exact ⟨v,rfl,by simpa using h1⟩
theorem RL.at (h:RL P H μ ds vs []) {i:Nat} {d:D} (hi:ds[i]?=some d):∃ v,vs[i]?=some v∧RL P H μ [d] [v] []:=by
 have hlt:i<ds.length:=by
  rcases Nat.lt_or_ge i ds.length with h | h
  ·exact h
  ·rw [List.getElem?_eq_none h] at hi;cases hi
 have hd:ds[i]=d:=by rw [List.getElem?_eq_getElem hlt] at hi;exact Option.some.inj hi
 have e:ds=ds.take i++d::ds.drop (i+1):=by rw [← hd];simp
 rw [e] at h;obtain ⟨v1,v2,F1,F2,rfl,hF,h1,h2⟩:=h.split;obtain ⟨v,v3,F3,F4,rfl,rfl,h3,h4⟩:=h2.uncons;have hl:=h1.len;rw [List.length_take,Nat.min_eq_left (Nat.le_of_lt hlt)] at hl;refine ⟨v,by rw [List.getElem?_append_right (by omega),hl];simp,?_⟩
 have:F3=[]:=by
  have:=hF.symm;simp only [List.append_eq_nil_iff] at this;exact this.2.1
 rw [this] at h3;exact h3
theorem RL.cut (h:RL P H μ ds vs []) (o n:Nat) (hn:o+n≤ds.length):take? vs o n=some ((vs.drop o).take n)∧RL P H μ ((ds.drop o).take n) ((vs.drop o).take n) []:=by
 have hl:=h.len;constructor
 ·simp only [take?,List.length_take,List.length_drop,cond_beq];rw [if_pos (by omega)]
 ·have e:ds=ds.take o++((ds.drop o).take n++(ds.drop o).drop n):=by rw [List.take_append_drop,List.take_append_drop]
  rw [e] at h;obtain ⟨v1,v2,F1,F2,rfl,hF,h1,h2⟩:=h.split;obtain ⟨v3,v4,F3,F4,rfl,rfl,h3,h4⟩:=h2.split;have l1:=h1.len;have l3:=h3.len;simp only [List.length_take,List.length_drop] at l1 l3;have hF':=hF.symm;simp only [List.append_eq_nil_iff] at hF';rw [hF'.2.1] at h3;have e1:(v1++(v3++v4)).drop o=v3++v4:=by rw [List.drop_append_of_le_length (by omega),List.drop_of_length_le (by omega)];rfl
  have l3':v3.length=n:=by rw [← l3,Nat.min_eq_left (by omega)]
  rw [e1,List.take_append_of_le_length (by omega),List.take_of_length_le (l:=v3) (by omega)];exact h3
def Goes (h h':Hd):Prop:=(∀ w m s,h'=.sl w m s→h=.sl w m s∨∃ w0 m0,h=.sl w0 m0 s∧m0<m)∧∀ l,h'=.cell l→h=.cell l
theorem Goes.refl (h:Hd):Goes h h:=⟨fun w m s e=>.inl e,fun l e=>e⟩
theorem Goes.trans {a b c:Hd} (h:Goes a b) (h':Goes b c):Goes a c:=by
 refine ⟨fun w m s e=>?_,fun l e=>h.2 l (h'.2 l e)⟩;rcases h'.1 w m s e with h1 | ⟨w0,m0,h1,h2⟩
 ·exact h.1 _ _ _ h1
 ·rcases h.1 _ _ _ h1 with h3 | ⟨w1,m1,h3,h4⟩
  ·exact .inr ⟨_,_,h3,h2⟩
  ·exact .inr ⟨_,_,h3,by omega⟩
def GoesL (μ μ':List Hd):Prop:=∀ (k:Nat) (h:Hd),μ[k]?=some h→∃ h',μ'[k]?=some h'∧Goes h h'
theorem GoesL.refl (μ:List Hd):GoesL μ μ:=fun k h e=>⟨h,e,Goes.refl h⟩
theorem GoesL.trans {a b c:List Hd} (h:GoesL a b) (h':GoesL b c):GoesL a c:=fun k x e=>by
 obtain ⟨y,e1,g1⟩:=h k x e;obtain ⟨z,e2,g2⟩:=h' k y e1;exact ⟨z,e2,g1.trans g2⟩
theorem get_lt {α:Type} {l:List α} {k:Nat} {x:α} (e:l[k]?=some x):k<l.length:=by
 rcases Nat.lt_or_ge k l.length with h | h
 ·exact h
 ·rw [List.getElem?_eq_none h] at e;cases e
theorem GoesL.app (μ ν:List Hd):GoesL μ (μ++ν):=fun k h e=>⟨h,by rw [List.getElem?_append_left (get_lt e)];exact e,Goes.refl h⟩
theorem GoesL.set {μ:List Hd} {k:Nat} {h h':Hd} (hk:μ[k]?=some h) (g:Goes h h'):GoesL μ (μ.set k h'):=fun j x e=>by
 by_cases hj:k=j
 ·subst hj;rw [hk] at e;cases e
  have hlt:k<μ.length:=by
   rcases Nat.lt_or_ge k μ.length with h | h
   ·exact h
   ·rw [List.getElem?_eq_none h] at hk;cases hk
  exact ⟨h',by rw [List.getElem?_set_self hlt],g⟩
 ·exact ⟨x,by rw [List.getElem?_set_ne hj];exact e,Goes.refl x⟩
theorem Goes.dead (h:Hd):Goes h .dead:=⟨fun w m s e=>Hd.noConfusion e,fun l e=>Hd.noConfusion e⟩
theorem RL.goes (h:RL P H μ ds vs F):GoesL μ μ'→RL P H μ' ds vs F:=by
 induction h with
 | nil=>exact fun _=>.nil
 | unk h ih=>exact fun k=>.unk (ih k)
 | atom h ih=>exact fun k=>.atom (ih k)
 | agg h1 h2 i1 i2=>exact fun k=>.agg (i1 k) (i2 k)
 | tuple h1 h2 i1 i2=>exact fun k=>.tuple (i1 k) (i2 k)
 | iface h1 h2 i1 i2=>exact fun k=>.iface (i1 k) (i2 k)
 | fn h1 h2 h3 i1 i2 i3=>exact fun k=>.fn (i1 k) (i2 k) (i3 k)
 | immNil h ih=>exact fun k=>.immNil (ih k)
 | imm p g t r e u c h ir ih=>exact fun k=>.imm p g t r e u c (ih k)
 | iptr p g t r h ir ih=>exact fun k=>.iptr p g t r (ih k)
 | own m c h ih =>
   intro k;obtain ⟨h',e,g1,g2⟩:=k _ _ m;refine .own e (fun w m s e=>?_) (ih k);rcases g1 w m s e with rfl | ⟨w0,m0,rfl,hl⟩
   ·exact c _ _ _ rfl
   ·have:=(c _ _ _ rfl).1;exact ⟨by omega,fun h=>by omega⟩
 | optr m c h ih =>
   intro k;obtain ⟨h',e,g1,g2⟩:=k _ _ m;refine .optr e (fun w m s e=>?_) (ih k);rcases g1 w m s e with rfl | ⟨w0,m0,rfl,hl⟩
   ·exact c _ _ _ rfl
   ·have:=(c _ _ _ rfl).1;exact ⟨by omega,fun h=>by omega⟩
 | rptr m c h ih =>
   intro k;obtain ⟨h',e,g1,g2⟩:=k _ _ m;exact .rptr e (fun l e=>c l (g2 l e)) (ih k)
 | omap m c h ih =>
   intro k;obtain ⟨h',e,g1,g2⟩:=k _ _ m;exact .omap e (fun l e=>c l (g2 l e)) (ih k)
 | freshNil h ih=>exact fun k=>.freshNil (ih k)
 | fresh g r e u c h ir ih=>exact fun k=>.fresh g r e u c (ih k)
theorem RL.any {μ:List Hd} (h:RL P H [] ds vs F):RL P H μ ds vs F:=h.goes fun k x e=>by simp at e
theorem RL.perm_keep (h:RL P H μ ds vs F) (hx:Ext H H'):RL P H' μ ds vs F:=h.keep fun l o _ e=>hx.get l o e
/-! ### The things that a frame made -/
inductive OL (P:Nat→Prop) (H:Heap) (μ0:List Hd):List Hd→List Ob→List Nat→Prop
 | nil:OL P H μ0 [] [] []
 | dead {hs:List Hd} {obs:List Ob} {F:List Nat}:OL P H μ0 hs obs F→OL P H μ0 (.dead::hs) (.dead::obs) F
 | ghost {K:(Nat→Prop)→List Nat→Heap→Prop} {Fk:List Nat} {hs:List Hd} {obs:List Ob} {G:List Nat}:Stb K→K P Fk H→(∀ l,l∈Fk→∃ o,H.get l=some o)→OL P H μ0 hs obs G→OL P H μ0 (.dead::hs) (.ghost K::obs) (Fk++G)
 | slNil {s:Nat} {hs:List Hd} {obs:List Ob} {F:List Nat}:OL P H μ0 hs obs F→OL P H μ0 (.sl .nilSlice 0 s::hs) (.sl s []::obs) F
 | sl {l s:Nat} {q:Option Nat} {pre ws rest:List V} {es:List (List D)} {hs:List Hd} {obs:List Ob} {F G:List Nat} :
   H.get l=some (.cells false (pre++(ws++rest)))→RL P H μ0 es.flatten ws F→(∀ e,e∈es→e.length=s)→ws.all V.one=true→(∀ m,q=some m→es.length≤m∧(m - es.length) * s≤rest.length) →
   OL P H μ0 hs obs G→OL P H μ0 (.sl (.slice l pre.length es.length s q) es.length s::hs) (.sl s es::obs) (l::(F++G))
 | cell {l:Nat} {ws:List V} {cs:List D} {hs:List Hd} {obs:List Ob} {G:List Nat} :
   H.get l=some (.cells false ws)→RL P H μ0 cs ws []→OL P H μ0 hs obs G→OL P H μ0 (.cell l::hs) (.cell cs::obs) (l::G)
 | mp {l:Nat} {es:List (V×V)} {ms:List (V×D)} {hs:List Hd} {obs:List Ob} {G:List Nat} :
   H.get l=some (.map es)→es.map (·.1)=ms.map (·.1)→RL P H μ0 (ms.map (·.2)) (es.map (·.2)) []→OL P H μ0 hs obs G→OL P H μ0 (.cell l::hs) (.mp ms::obs) (l::G)
variable {μ0 μ1 hs gs:List Hd} {obs ots:List Ob} {ob:Ob}
theorem OL.keep (h:OL P H μ0 hs obs F):(∀ l o,(P l∨l∈F)→H.get l=some o→H'.get l=some o)→OL P H' μ0 hs obs F:=by
 induction h with
 | nil=>exact fun _=>.nil
 | dead h ih=>exact fun k=>.dead (ih k)
 | ghost s k e h ih=>exact fun kk=>.ghost s (s _ _ _ _ _ k (fun _ h=>h) fun l o hl=>kk l o (hl.imp id fun h=>by simp [h])) (fun l hl=>(e l hl).elim fun o eo=>⟨o,kk l o (.inr (by simp [hl])) eo⟩) (ih fun l o hl=>kk l o (hl.imp id fun h=>by simp [h]))
 | slNil h ih=>exact fun k=>.slNil (ih k)
 | sl g r e u c h ih=>exact fun k=>.sl (k _ _ (.inr (by simp)) g) (r.keep fun l o hl=>k l o (hl.imp id fun h=>by simp [h])) e u c (ih fun l o hl=>k l o (hl.imp id fun h=>by simp [h]))
 | cell g r h ih=>exact fun k=>.cell (k _ _ (.inr (by simp)) g) (r.keep fun l o hl=>k l o (hl.imp id fun h=>by simp at h)) (ih fun l o hl=>k l o (hl.imp id fun h=>by simp [h]))
 | mp g e r h ih=>exact fun k=>.mp (k _ _ (.inr (by simp)) g) e (r.keep fun l o hl=>k l o (hl.imp id fun h=>by simp at h)) (ih fun l o hl=>k l o (hl.imp id fun h=>by simp [h]))
theorem OL.weakP (h:OL P H μ0 hs obs F) (k:∀ l,P l→P' l):OL P' H μ0 hs obs F:=by
 induction h with
 | nil=>exact .nil
 | dead h ih=>exact .dead ih
 | ghost s kk e h ih=>exact .ghost s (s _ _ _ _ _ kk k fun l o _ e=>e) e ih
 | slNil h ih=>exact .slNil ih
 | sl g r e u c h ih=>exact .sl g (r.weakP k) e u c ih
 | cell g r h ih=>exact .cell g (r.weakP k) ih
 | mp g e r h ih=>exact .mp g e (r.weakP k) ih
theorem OL.goes (h:OL P H μ0 hs obs F) (k:GoesL μ0 μ1):OL P H μ1 hs obs F:=by
 induction h with
 | nil=>exact .nil
 | dead h ih=>exact .dead ih
 | ghost s kk e h ih=>exact .ghost s kk e ih
 | slNil h ih=>exact .slNil ih
 | sl g r e u c h ih=>exact .sl g (r.goes k) e u c ih
 | cell g r h ih=>exact .cell g (r.goes k) ih
 | mp g e r h ih=>exact .mp g e (r.goes k) ih
theorem OL.len (h:OL P H μ0 hs obs F):hs.length=obs.length:=by induction h <;> simp_all
theorem OL.app (h:OL P H μ0 hs obs F) (h':OL P H μ0 gs ots G):OL P H μ0 (hs++gs) (obs++ots) (F++G):=by
 induction h with
 | nil=>exact h'
 | dead h ih=>exact .dead ih
 | ghost s kk e h ih=>simp only [List.cons_append,List.append_assoc];exact .ghost s kk e ih
 | slNil h ih=>exact .slNil ih
 | sl g r e u c h ih=>simp only [List.cons_append,List.append_assoc];exact .sl g r e u c ih
 | cell g r h ih=>exact .cell g r ih
 | mp g e r h ih=>exact .mp g e r ih
theorem OL.uncons (h:OL P H μ0 hs (ob::obs) F):∃ x hs' F1 F2,hs=x::hs'∧F=F1++F2∧OL P H μ0 [x] [ob] F1∧OL P H μ0 hs' obs F2:=by
 cases h with
 | dead h=>exact ⟨_,_,[],_,rfl,rfl,.dead .nil,h⟩
 | ghost s kk e h=>exact ⟨_,_,_,_,rfl,rfl,by simpa using OL.ghost s kk e .nil,h⟩
 | slNil h=>exact ⟨_,_,[],_,rfl,rfl,.slNil .nil,h⟩
 | sl g r e u c h=>exact ⟨_,_,_::_,_,rfl,rfl,by simpa using OL.sl g r e u c .nil,h⟩
 | cell g r h=>exact ⟨_,_,[_],_,rfl,rfl,.cell g r .nil,h⟩
 | mp g e r h=>exact ⟨_,_,[_],_,rfl,rfl,.mp g e r .nil,h⟩
theorem OL.split:∀ {obs:List Ob} {hs:List Hd} {F:List Nat},OL P H μ0 hs (obs++ots) F→∃ h1 h2 F1 F2,hs=h1++h2∧F=F1++F2∧OL P H μ0 h1 obs F1∧OL P H μ0 h2 ots F2
 | [],hs,F,h=>⟨[],hs,[],F,rfl,rfl,.nil,h⟩
 | ob::obs,hs,F,h=>by
   obtain ⟨x,hs',F1,F2,rfl,rfl,h1,h2⟩:=OL.uncons h;obtain ⟨u1,u2,G1,G2,rfl,rfl,h3,h4⟩:=OL.split h2;exact ⟨x::u1,u2,F1++G1,G2,rfl,by simp,by simpa using h1.app h3,h4⟩
theorem OL.at {k:Nat} (h:OL P H μ0 hs obs F) (hk:obs[k]?=some ob):∃ x F1 Fk F2,hs[k]?=some x∧F=F1++(Fk++F2)∧OL P H μ0 [x] [ob] Fk ∧
  ∀ (P':Nat→Prop) (H':Heap) (x':Hd) (ob':Ob) (F':List Nat),(∀ l,P l→P' l)→OL P' H' μ0 [x'] [ob'] F'→(∀ l o,(P l∨l∈F1∨l∈F2)→H.get l=some o→H'.get l=some o)→OL P' H' μ0 (hs.set k x') (obs.set k ob') (F1++(F'++F2)):=by
 have hlt:k<obs.length:=by
  rcases Nat.lt_or_ge k obs.length with h | h
  ·exact h
  ·rw [List.getElem?_eq_none h] at hk;cases hk
 have hd:obs[k]=ob:=by rw [List.getElem?_eq_getElem hlt] at hk;exact Option.some.inj hk
 have e:obs=obs.take k++ob::obs.drop (k+1):=by rw [← hd];simp
 rw [e] at h;obtain ⟨h1,h2,F1,F2,rfl,rfl,o1,o2⟩:=h.split;obtain ⟨x,h3,F3,F4,rfl,rfl,o3,o4⟩:=o2.uncons;have hl:=o1.len;rw [List.length_take,Nat.min_eq_left (Nat.le_of_lt hlt)] at hl;refine ⟨x,F1,F3,F4,by rw [List.getElem?_append_right (by omega),hl];simp,rfl,o3,?_⟩;intro P' H' x' ob' F' hp o5 hk';have e2:(h1++x::h3).set k x'=h1++x'::h3:=by rw [List.set_append_right _ _ (by omega),hl];simp
 have e3:obs.set k ob'=obs.take k++ob'::obs.drop (k+1):=by
  conv=>lhs;rw [e]
  rw [List.set_append_right _ _ (by rw [List.length_take];omega),List.length_take,Nat.min_eq_left (Nat.le_of_lt hlt)];simp
 rw [e2,e3];have o1':=(o1.keep (H':=H') fun l o hl=>hk' l o (hl.imp id .inl)).weakP hp;have o4':=(o4.keep (H':=H') fun l o hl=>hk' l o (hl.imp id .inr)).weakP hp;have:=o1'.app (o5.app o4');simpa using this
theorem OL.get (h:OL P H μ0 hs obs F):∀ l,l∈F→∃ o,H.get l=some o:=by
 have rl:∀ {ν:List Hd} {ds:List D} {vs:List V} {F:List Nat},RL P H ν ds vs F→∀ l,l∈F→∃ o,H.get l=some o:=by
  intro ν ds vs F h
  induction h with
  | nil=>simp
  | agg h1 h2 i1 i2=>intro l hl;simp only [List.mem_append] at hl;exact hl.elim (i1 l) (i2 l)
  | tuple h1 h2 i1 i2=>intro l hl;simp only [List.mem_append] at hl;exact hl.elim (i1 l) (i2 l)
  | iface h1 h2 i1 i2=>intro l hl;simp only [List.mem_append] at hl;exact hl.elim (i1 l) (i2 l)
  | fn h1 h2 h3 i1 i2 i3=>intro l hl;simp only [List.mem_append] at hl;exact hl.elim (i1 l) fun h=>h.elim (i2 l) (i3 l)
  | fresh g r e u c h ir ih=>intro l hl;simp only [List.mem_cons,List.mem_append] at hl;exact hl.elim (fun e=>⟨_,e ▸ g⟩) fun h=>h.elim (ir l) (ih l)
  | _=>assumption
 induction h with
 | nil=>simp
 | dead h ih=>exact ih
 | ghost s kk e h ih=>intro l hl;simp only [List.mem_append] at hl;exact hl.elim (e l) (ih l)
 | slNil h ih=>exact ih
 | sl g r e u c h ih=>intro l hl;simp only [List.mem_cons,List.mem_append] at hl;exact hl.elim (fun e=>⟨_,e ▸ g⟩) fun h=>h.elim (rl r l) (ih l)
 | cell g r h ih=>intro l hl;simp only [List.mem_cons] at hl;exact hl.elim (fun e=>⟨_,e ▸ g⟩) (ih l)
 | mp g e r h ih=>intro l hl;simp only [List.mem_cons] at hl;exact hl.elim (fun e=>⟨_,e ▸ g⟩) (ih l)
end Go.Am.Vm

namespace Go.Am.Vm
open Go.Am
variable {T:Tab} {P P':Nat→Prop} {H H':Heap} {μ μ':List Hd} {ds es:List D} {vs ws:List V} {F G X:List Nat} {d:D} {v:V} {μ0 μ1 hs gs:List Hd} {obs ots:List Ob} {ob:Ob}
/-! ### What is no longer written to -/
mutual
def D.im:D→D
 | .fresh s es=>.imm s (imLL es)
 | .agg ds=>.agg (imL ds)
 | .tuple ds=>.tuple (imL ds)
 | .iface t d=>.iface t (D.im d)
 | .fn f u w=>.fn f (imL u) (imL w)
 | .own _ _=>.unk
 | .optr _ _ _ _=>.unk
 | .rptr _ _=>.unk
 | .omap _=>.unk
 | .unk=>.unk
 | .atom v=>.atom v
 | .imm s es=>.imm s es
 | .iptr cs o=>.iptr cs o
def imL:List D→List D
 | []=>[]
 | d::ds=>D.im d::imL ds
def imLL:List (List D)→List (List D)
 | []=>[]
 | e::es=>imL e::imLL es
end
theorem imL_append:∀ (a b:List D),imL (a++b)=imL a++imL b
 | [],b=>rfl
 | d::a,b=>by simp only [List.cons_append,imL,imL_append a b]
theorem imLL_flatten:∀ es:List (List D),(imLL es).flatten=imL es.flatten
 | []=>rfl
 | e::es=>by simp only [imLL,List.flatten_cons,imL_append,imLL_flatten es]
theorem imL_length:∀ a:List D,(imL a).length=a.length
 | []=>rfl
 | d::a=>by simp only [imL,List.length_cons,imL_length a]
theorem imLL_length:∀ a:List (List D),(imLL a).length=a.length
 | []=>rfl
 | d::a=>by simp only [imLL,List.length_cons,imLL_length a]
theorem imLL_mem:∀ {es:List (List D)} {s:Nat},(∀ e,e∈es→e.length=s)→∀ e,e∈imLL es→e.length=s
 | [],_,_,e,h=>by cases h
 | x::es,s,k,e,h=>by
   simp only [imLL,List.mem_cons] at h;rcases h with rfl | h
   ·rw [imL_length];exact k x (by simp)
   ·exact imLL_mem (fun e h=>k e (by simp [h])) e h
theorem imLL_get:∀ (es:List (List D)) (j:Nat),(imLL es)[j]?=(es[j]?).map imL
 | [],j=>by simp [imLL]
 | e::es,0=>by simp [imLL]
 | e::es,j+1=>by simp [imLL,imLL_get es j]
theorem dflatten_len {s:Nat}:∀ {es:List (List D)} (he:∀ e,e∈es→e.length=s),es.flatten.length=es.length * s
 | [],_=>by simp
 | e::es,he=>by
   simp only [List.flatten_cons,List.length_append,List.length_cons,he e (by simp),dflatten_len (es:=es) fun e h=>he e (by simp [h])];rw [Nat.add_mul];omega
theorem RL.im (h:RL P H μ ds vs F):∀ {ν:List Hd},RL (fun l=>P l∨l∈F) H ν (imL ds) vs []:=by
 induction h with
 | nil=>exact .nil
 | unk h ih=>exact .unk ih
 | atom h ih=>exact .atom ih
 | agg h1 h2 i1 i2=>exact .agg (F:=[]) (G:=[]) (i1.weakP fun l h=>h.imp id fun h=>by simp [h]) (i2.weakP fun l h=>h.imp id fun h=>by simp [h])
 | tuple h1 h2 i1 i2=>exact .tuple (F:=[]) (G:=[]) (i1.weakP fun l h=>h.imp id fun h=>by simp [h]) (i2.weakP fun l h=>h.imp id fun h=>by simp [h])
 | iface h1 h2 i1 i2=>exact .iface (F:=[]) (G:=[]) (i1.weakP fun l h=>h.imp id fun h=>by simp [h]) (i2.weakP fun l h=>h.imp id fun h=>by simp [h])
 | fn h1 h2 h3 i1 i2 i3=>exact .fn (F:=[]) (G:=[]) (K:=[]) (i1.weakP fun l h=>h.imp id fun h=>by simp [h]) (i2.weakP fun l h=>h.imp id fun h=>by simp [h]) (i3.weakP fun l h=>h.imp id fun h=>by simp [h])
 | immNil h ih=>exact .immNil ih
 | imm p g t r e u c h ir ih=>exact .imm (.inl p) g t (r.weakP fun l h=>.inl h) e u c ih
 | iptr p g t r h ir ih=>exact .iptr (.inl p) g t (r.weakP fun l h=>.inl h) ih
 | own m c h ih=>exact .unk ih
 | optr m c h ih=>exact .unk ih
 | rptr m c h ih=>exact .unk ih
 | omap m c h ih=>exact .unk ih
 | freshNil h ih=>simp only [imL,D.im,imLL];exact .immNil ih
 | @fresh μ l s q pre ws rest es ds vs F G g r e u c h ir ih =>
   simp only [imL,D.im];rw [← imLL_length es];refine .imm (ws:=ws) (.inr (by simp)) g ?_ ?_ (imLL_mem e) u ?_ (ih.weakP fun l h=>h.imp id fun h=>by simp [h])
   ·rw [imLL_length];exact take?_pre _ _ _ (by rw [← r.len,dflatten_len e])
   ·rw [imLL_flatten];exact ir.weakP fun l h=>h.imp id fun h=>by simp [h]
   ·intro m hm;rw [imLL_length];exact (c m hm).1
theorem OL.slInv {x:Hd} {s:Nat} {rows:List (List D)} (h:OL P H μ0 [x] [.sl s rows] F):(x=.sl .nilSlice 0 s∧rows=[]∧F=[]) ∨
  ∃ l q pre ws rest F',x=.sl (.slice l pre.length rows.length s q) rows.length s∧F=l::F'∧H.get l=some (.cells false (pre++(ws++rest)))∧RL P H μ0 rows.flatten ws F'∧(∀ e,e∈rows→e.length=s) ∧
    ws.all V.one=true∧∀ m,q=some m→rows.length≤m∧(m - rows.length) * s≤rest.length:=by
 cases h with
 | slNil h=>cases h;exact .inl ⟨rfl,rfl,rfl⟩
 | sl g r e u c h=>cases h;exact .inr ⟨_,_,_,_,_,_,rfl,by simp,g,r,e,u,c⟩
theorem OL.cellInv {x:Hd} {cs:List D} (h:OL P H μ0 [x] [.cell cs] F):∃ l ws,x=.cell l∧F=[l]∧H.get l=some (.cells false ws)∧RL P H μ0 cs ws []:=by
 cases h with
 | cell g r h=>cases h;exact ⟨_,_,rfl,rfl,g,r⟩
theorem RL.ownInv {k n:Nat} (h:RL P H μ [.own k n] [v] F):F=[]∧∃ x,μ[k]?=some x∧∀ w m s,x=.sl w m s→n≤m∧(n=m→v=w):=by
 cases h with
 | own m c h=>cases h;exact ⟨rfl,_,m,c⟩
theorem RL.optrInv {k n j c:Nat} (h:RL P H μ [.optr k n j c] [v] F):F=[]∧∃ x,μ[k]?=some x∧∀ w m s,x=.sl w m s→n≤m∧(n=m→∃ l o q,w=.slice l o n s q∧v=.ptr l (o+(j * s+c))):=by
 cases h with
 | optr m c h=>cases h;exact ⟨rfl,_,m,c⟩
theorem RL.rptrInv {k c:Nat} (h:RL P H μ [.rptr k c] [v] F):F=[]∧∃ x,μ[k]?=some x∧∀ l,x=.cell l→v=.ptr l c:=by
 cases h with
 | rptr m c h=>cases h;exact ⟨rfl,_,m,c⟩
theorem RL.omapInv {k:Nat} (h:RL P H μ [.omap k] [v] F):F=[]∧∃ x,μ[k]?=some x∧∀ l,x=.cell l→v=.map l:=by
 cases h with
 | omap m c h=>cases h;exact ⟨rfl,_,m,c⟩
theorem OL.mpInv {x:Hd} {ms:List (V×D)} (h:OL P H μ0 [x] [.mp ms] F):∃ l es,x=.cell l∧F=[l]∧H.get l=some (.map es)∧es.map (·.1)=ms.map (·.1)∧RL P H μ0 (ms.map (·.2)) (es.map (·.2)) []:=by
 cases h with
 | mp g e r h=>cases h;exact ⟨_,_,rfl,rfl,g,e,r⟩
theorem RL.immInv {s:Nat} {rows:List (List D)} (h:RL P H μ [.imm s rows] [v] F):F=[]∧((v=.nilSlice∧rows=[])∨∃ l o q ro cs ws,v=.slice l o rows.length s q∧P l∧H.get l=some (.cells ro cs) ∧
  take? cs o (rows.length * s)=some ws∧RL P H [] rows.flatten ws []∧(∀ e,e∈rows→e.length=s)∧ws.all V.one=true∧∀ m,q=some m→rows.length≤m):=by
 cases h with
 | immNil h=>cases h;exact ⟨rfl,.inl ⟨rfl,rfl⟩⟩
 | imm p g t r e u c h=>cases h;exact ⟨rfl,.inr ⟨_,_,_,_,_,_,rfl,p,g,t,r,e,u,c⟩⟩
theorem RL.iptrInv {cs:List D} {o:Nat} (h:RL P H μ [.iptr cs o] [v] F):F=[]∧∃ l b ro us ws,v=.ptr l (b+o)∧P l∧H.get l=some (.cells ro us)∧take? us b cs.length=some ws∧RL P H [] cs ws []:=by
 cases h with
 | iptr p g t r h=>cases h;exact ⟨rfl,_,_,_,_,_,rfl,p,g,t,r⟩
theorem RL.atomInv {w:V} (h:RL P H μ [.atom w] [v] F):F=[]∧v=w:=by
 cases h with
 | atom h=>cases h;exact ⟨rfl,rfl⟩
theorem RL.aggInv {cs:List D} (h:RL P H μ [.agg cs] [v] F):∃ ws,v=.agg ws∧RL P H μ cs ws F:=by
 cases h with
 | agg h1 h=>cases h;exact ⟨_,rfl,by simpa using h1⟩
theorem RL.tupleInv {cs:List D} (h:RL P H μ [.tuple cs] [v] F):∃ ws,v=.tuple ws∧RL P H μ cs ws F:=by
 cases h with
 | tuple h1 h=>cases h;exact ⟨_,rfl,by simpa using h1⟩
theorem RL.ifaceInv {t:TypeId} (h:RL P H μ [.iface t d] [v] F):∃ w,v=.iface t w∧RL P H μ [d] [w] F:=by
 cases h with
 | iface h1 h=>cases h;exact ⟨_,rfl,by simpa using h1⟩
theorem RL.fnInv {f:FuncId} {us ws:List D} (h:RL P H μ [.fn f us ws] [v] F):∃ us' ws' F1 F2,v=.func (.func f) us' ws'∧F=F1++F2∧RL P H μ us us' F1∧RL P H μ ws ws' F2:=by
 cases h with
 | fn h1 h2 h=>cases h;exact ⟨_,_,_,_,rfl,by simp,h1,h2⟩
theorem RL.agg1 (h:RL P H μ ds vs F):RL P H μ [.agg ds] [.agg vs] F:=by simpa using RL.agg h .nil
theorem RL.tuple1 (h:RL P H μ ds vs F):RL P H μ [.tuple ds] [.tuple vs] F:=by simpa using RL.tuple h .nil
theorem RL.iface1 {t:TypeId} (h:RL P H μ [d] [v] F):RL P H μ [.iface t d] [.iface t v] F:=by simpa using RL.iface h .nil
theorem RL.fn1 {f:FuncId} (h:RL P H μ ds vs F) (h':RL P H μ es ws G):RL P H μ [.fn f ds es] [.func (.func f) vs ws] (F++G):=by simpa using RL.fn h h' .nil
theorem RL.atoms:∀ vs:List V,RL P H μ (vs.map .atom) vs []
 | []=>.nil
 | v::vs=>.atom (RL.atoms vs)
theorem RL.atom1 (v:V):RL P H μ [.atom v] [v] []:=.atom .nil
theorem RL.cons (h:RL P H μ [d] [v] F) (h':RL P H μ ds vs G):RL P H μ (d::ds) (v::vs) (F++G):=h.app h'
/-! ### Snapshots -/
def imQ (so:List Ob):D→D
 | .own k n=>match so[k]? with
   | some (.sl s es)=>if es.length=n then .imm s (imLL es) else .unk
   | _=>.unk
 | .optr k n j c=>match so[k]? with
   | some (.sl s es)=>if es.length=n then (match es[j]? with
     | some e=>.iptr (imL e) c
     | none=>.unk) else .unk
   | _=>.unk
 | d=>D.im d
def imN (so:List Ob):D→D
 | .rptr k c=>match so[k]? with
   | some (.cell cs)=>.iptr (cs.map (imQ so)) c
   | _=>.unk
 | d=>imQ so d
def im1 (so:List Ob):D→D
 | .agg ds=>.agg (ds.map (imN so))
 | .tuple ds=>.tuple (ds.map (imN so))
 | .iface t d=>.iface t (imN so d)
 | .fn f u w=>.fn f (u.map (imN so)) (w.map (imN so))
 | d=>imN so d
theorem take?_row {cs ws:List V} {o s n j:Nat} (h:take? cs o (n * s)=some ws) (hj:j<n):take? cs (o+j * s) s=some ((ws.drop (j * s)).take s):=by
 obtain ⟨e,hl⟩:=tk_eq h;have h1:(j+1) * s≤n * s:=Nat.mul_le_mul_right s hj;have h2:(j+1) * s=j * s+s:=by rw [Nat.add_mul];omega
 have e2:(ws.drop (j * s)).take s=(cs.drop (o+j * s)).take s:=by
  subst e;rw [List.drop_take,List.take_take,Nat.min_eq_left (by omega),List.drop_drop]
 rw [e2];have h3:((cs.drop o).take (n * s)).length=n * s:=by rw [← e];exact hl
 rw [List.length_take,List.length_drop] at h3;simp only [take?,cond_beq,List.length_take,List.length_drop];rw [if_pos (by omega)]
theorem drow {s:Nat}:∀ {es:List (List D)} (he:∀ e,e∈es→e.length=s) {j:Nat} {e:List D} (hj:es[j]?=some e),(es.flatten.drop (j * s)).take s=e
 | [],_,_,_,hj=>by simp at hj
 | x::es,he,0,e,hj=>by
   simp only [List.getElem?_cons_zero,Option.some.injEq] at hj;subst hj;have:=he x (by simp);simp only [Nat.zero_mul,List.drop_zero,List.flatten_cons];rw [List.take_append_of_le_length (by omega),List.take_of_length_le (by omega)]
 | x::es,he,j+1,e,hj=>by
   have hx:=he x (by simp);simp only [List.getElem?_cons_succ] at hj;have e1:(j+1) * s=x.length+j * s:=by rw [hx,Nat.add_mul];omega
   rw [e1,List.flatten_cons,← List.drop_drop,List.drop_left];exact drow (fun e h=>he e (by simp [h])) hj
theorem RL.row {s n:Nat} {rows:List (List D)} (h:RL P H μ rows.flatten ws []) (he:∀ e,e∈rows→e.length=s) {j:Nat} {e:List D} (hj:rows[j]?=some e):RL P H μ e ((ws.drop (j * s)).take s) []∧e.length=s∧j * s+s≤ws.length:=by
 have hlt:=get_lt hj;have h1:(j+1) * s≤rows.length * s:=Nat.mul_le_mul_right s hlt;have h2:(j+1) * s=j * s+s:=by rw [Nat.add_mul];omega
 have hl:=h.len;rw [dflatten_len he] at hl;have:=(h.cut (j * s) s (by rw [dflatten_len he];omega)).2;rw [drow he hj] at this;exact ⟨this,he e (List.mem_of_getElem? hj),by omega⟩
theorem im1_ok {μs:List Hd} (ho:OL P H μ μ obs F) (h:RL P H μ [d] [v] []):RL (fun l=>P l∨l∈F) H μs [im1 obs d] [v] []:=by
 have low:∀ {ν:List Hd} {ds:List D} {vs:List V},RL P H ν ds vs []→∀ (νs:List Hd),RL (fun l=>P l∨l∈F) H νs (imL ds) vs []:=by
  intro ν ds vs h νs
  have key:∀ {ν:List Hd} {ds:List D} {vs:List V} {K:List Nat},RL P H ν ds vs K→K=[]→RL (fun l=>P l∨l∈F) H νs (imL ds) vs []:=by
   intro ν ds vs K h
   induction h with
   | nil=>exact fun _=>.nil
   | unk h ih=>exact fun e=>.unk (ih e)
   | atom h ih=>exact fun e=>.atom (ih e)
   | agg h1 h2 i1 i2=>intro e;rw [List.append_eq_nil_iff] at e;exact .agg (F:=[]) (G:=[]) (i1 e.1) (i2 e.2)
   | tuple h1 h2 i1 i2=>intro e;rw [List.append_eq_nil_iff] at e;exact .tuple (F:=[]) (G:=[]) (i1 e.1) (i2 e.2)
   | iface h1 h2 i1 i2=>intro e;rw [List.append_eq_nil_iff] at e;exact .iface (F:=[]) (G:=[]) (i1 e.1) (i2 e.2)
   | fn h1 h2 h3 i1 i2 i3=>intro e;rw [List.append_eq_nil_iff,List.append_eq_nil_iff] at e;exact .fn (F:=[]) (G:=[]) (K:=[]) (i1 e.1) (i2 e.2.1) (i3 e.2.2)
   | immNil h ih=>exact fun e=>.immNil (ih e)
   | imm p g t r e u c h ir ih=>exact fun k=>.imm (.inl p) g t (r.weakP fun l h=>.inl h) e u c (ih k)
   | iptr p g t r h ir ih=>exact fun k=>.iptr (.inl p) g t (r.weakP fun l h=>.inl h) (ih k)
   | own m c h ih=>exact fun e=>.unk (ih e)
   | optr m c h ih=>exact fun e=>.unk (ih e)
   | rptr m c h ih=>exact fun e=>.unk (ih e)
   | omap m c h ih=>exact fun e=>.unk (ih e)
   | freshNil h ih=>intro e;simp only [imL,D.im,imLL];exact .immNil (ih e)
   | fresh g r e u c h ir ih=>intro e;cases e
  exact key h rfl
 have base:∀ {d v},RL P H μ [d] [v] []→∀ (μs:List Hd),RL (fun l=>P l∨l∈F) H μs [imQ obs d] [v] []:=by
  intro d v h μs
  cases d with
  | own k n =>
    simp only [imQ];split
    ·rename_i s es hk;split
     ·rename_i hn;obtain ⟨_,x,hx,hc⟩:=h.ownInv;obtain ⟨y,F1,Fk,F2,hy,rfl,ho1,_⟩:=ho.at hk;rw [hx] at hy;cases hy;rcases ho1.slInv with ⟨rfl,rfl,rfl⟩ | ⟨l,q,pre,ws,rest,F',rfl,rfl,g,r,e,u,c⟩
      ·have:=(hc _ _ _ rfl).2 (by simpa using hn.symm);subst this;simp only [imLL];exact .immNil .nil
      ·have:=(hc _ _ _ rfl).2 hn.symm;subst this;rw [← imLL_length es];refine .imm (ws:=ws) (.inr (by simp)) g ?_ ?_ (imLL_mem e) u ?_ .nil
       ·rw [imLL_length];exact take?_pre _ _ _ (by rw [← r.len,dflatten_len e])
       ·rw [imLL_flatten];exact r.im.weakP fun l h=>h.imp id fun h=>by simp [h]
       ·intro m hm;rw [imLL_length];exact (c m hm).1
     ·exact .unk .nil
    ·exact .unk .nil
  | optr k n j c =>
    simp only [imQ];split
    ·rename_i s es hk;split
     ·rename_i hn;split
      ·rename_i e hj;obtain ⟨_,x,hx,hc⟩:=h.optrInv;obtain ⟨y,F1,Fk,F2,hy,rfl,ho1,_⟩:=ho.at hk;rw [hx] at hy;cases hy;rcases ho1.slInv with ⟨rfl,rfl,rfl⟩ | ⟨l,q,pre,ws,rest,F',rfl,rfl,g,r,he,u,cq⟩
       ·simp at hj
       ·obtain ⟨l',o',q',h1,h2⟩:=(hc _ _ _ rfl).2 hn.symm
        cases h1
        have r':=r.im (ν:=[]);rw [← imLL_flatten] at r';have hrow:=RL.row (n:=0) r' (imLL_mem he) (j:=j) (e:=imL e) (by rw [imLL_get,hj];rfl);subst h2
        have tk:take? (pre++(ws++rest)) (pre.length+j * s) (imL e).length=some ((ws.drop (j * s)).take s):=by
         have hl:=hrow.1.len;have h3:=hrow.2.2;simp only [take?,cond_beq,hrow.2.1];rw [← List.drop_drop,List.drop_left,List.drop_append_of_le_length (by omega),List.take_append_of_le_length (by rw [List.length_drop];omega),List.length_take,List.length_drop,if_pos (by omega)]
        rw [← Nat.add_assoc];exact .iptr (.inr (by simp)) g tk ((hrow.1.any).weakP fun l h=>h.imp id fun h=>by simp [h]) .nil
      ·exact .unk .nil
     ·exact .unk .nil
    ·exact .unk .nil
  | _=>simpa [imQ,imL] using low h μs
 have mid:∀ {d v},RL P H μ [d] [v] []→RL (fun l=>P l∨l∈F) H μs [imN obs d] [v] []:=by
  intro d v h
  cases d with
  | rptr k c =>
    simp only [imN];split
    ·rename_i cs hk;obtain ⟨_,x,hx,hc⟩:=h.rptrInv;obtain ⟨y,F1,Fk,F2,hy,rfl,ho1,_⟩:=ho.at hk;rw [hx] at hy;cases hy;obtain ⟨l,ws,rfl,rfl,g,r⟩:=ho1.cellInv;have:=hc _ rfl;subst this
     have tk:take? ws 0 (cs.map (imQ obs)).length=some ws:=by
      simp only [take?,cond_beq,List.length_map,r.len,List.drop_zero,List.take_length,if_true]
     have rr:∀ {cs:List D} {ws:List V},RL P H μ cs ws []→RL (fun x=>P x∨x∈F1++([l]++F2)) H [] (cs.map (imQ obs)) ws []:=by
      intro cs
      induction cs with
      | nil=>intro ws h;obtain ⟨rfl,_⟩:=h.nil_inv;exact .nil
      | cons d cs ih =>
        intro ws h;obtain ⟨v,vs',G1,G2,rfl,hF,h1,h2⟩:=h.uncons;have hF':=hF.symm;rw [List.append_eq_nil_iff] at hF';rw [hF'.1] at h1;rw [hF'.2] at h2;simpa using (base h1 []).cons (ih h2)
     have:RL (fun l'=>P l'∨l'∈F1++([l]++F2)) H μs [.iptr (cs.map (imQ obs)) c] [.ptr l (0+c)] []:=.iptr (.inr (by simp)) g tk (rr r) .nil;rw [Nat.zero_add] at this;exact this
    ·exact .unk .nil
  | _=>simpa [imN] using base h μs
 have mids:∀ {cs:List D} {ws:List V},RL P H μ cs ws []→RL (fun l=>P l∨l∈F) H μs (cs.map (imN obs)) ws []:=by
  intro cs
  induction cs with
  | nil=>intro ws h;obtain ⟨rfl,_⟩:=h.nil_inv;exact .nil
  | cons d cs ih =>
    intro ws h;obtain ⟨v,vs',G1,G2,rfl,hF,h1,h2⟩:=h.uncons;have hF':=hF.symm;rw [List.append_eq_nil_iff] at hF';rw [hF'.1] at h1;rw [hF'.2] at h2;simpa using (mid h1).cons (ih h2)
 cases d with
 | agg cs=>obtain ⟨ws,rfl,r⟩:=h.aggInv;exact (mids r).agg1
 | tuple cs=>obtain ⟨ws,rfl,r⟩:=h.tupleInv;exact (mids r).tuple1
 | iface t d=>obtain ⟨w,rfl,r⟩:=h.ifaceInv;exact (mid r).iface1
 | fn f u w =>
   obtain ⟨us,ws,F1,F2,rfl,hF,r1,r2⟩:=h.fnInv;have hF':=hF.symm;rw [List.append_eq_nil_iff] at hF';rw [hF'.1] at r1;rw [hF'.2] at r2;exact (mids r1).fn1 (mids r2)
 | _=>simpa [im1] using mid h
theorem im1s_ok {μs:List Hd} (ho:OL P H μ μ obs F):∀ {ds:List D} {vs:List V},RL P H μ ds vs []→RL (fun l=>P l∨l∈F) H μs (ds.map (im1 obs)) vs []
 | [],vs,h=>by obtain ⟨rfl,_⟩:=h.nil_inv;exact .nil
 | d::ds,vs,h=>by
   obtain ⟨v,vs',G1,G2,rfl,hF,h1,h2⟩:=h.uncons;have hF':=hF.symm;rw [List.append_eq_nil_iff] at hF';rw [hF'.1] at h1;rw [hF'.2] at h2;simpa using (im1_ok ho h1).cons (im1s_ok ho h2)
end Go.Am.Vm

namespace Go.Am.Vm
open Go.Am
structure St where
 tm:List (Nat×D)
 so:List Ob
 n:Nat
structure Gh where
 H0:Heap
 P0:Nat→Prop
 B:Nat→Prop
 μ0:List Hd
 /-- in a round of a range over a function: its loop -/
 ρ:Option Nat
 /-- where what the frame's ranges leave to be called may be -/
 U:Nat→Prop
structure Rho (g:Gh):Prop where
 lp:∀ l,g.ρ=some l→¬ g.B l∧∃ s p C,g.H0.get l=some (loopO s p C)
 u:∀ r,g.U r→g.H0.n≤r
 no:g.ρ=none→∀ r,g.H0.n≤r→g.U r
 so:∀ l,g.ρ=some l→∀ r,¬ g.U r
theorem Rho.frame (H:Heap) (P B:Nat→Prop) (μ:List Hd):Rho ⟨H,P,B,μ,none,fun r=>H.n≤r⟩:=⟨fun l h=>(by cases h),fun r h=>h,fun _ r h=>h,fun l h=>(by cases h)⟩
def Dfr (U:Nat→Prop) (es:List Go.Am.D) (H:Heap) (P:Nat→Prop) (L:List Nat):Prop:=
 ∃ ds:List Nat,ds.Nodup∧es=ds.map Go.Am.D.collected∧∀ r,r∈ds→H.get r=some (.deferred (some []))∧U r∧¬ P r∧¬ r∈L
theorem Dfr.nil (U:Nat→Prop) (H:Heap) (P:Nat→Prop) (L:List Nat):Dfr U [] H P L:=⟨[],List.nodup_nil,rfl,by simp⟩
theorem Dfr.to {U U':Nat→Prop} {es:List Go.Am.D} {H H':Heap} {P P':Nat→Prop} {L L':List Nat} (h:Dfr U es H P L) (h1:∀ r,U r→H.get r=some (.deferred (some []))→¬ P r→¬ r∈L→H'.get r=some (.deferred (some []))∧U' r)
  (h2:∀ l,P' l→P l∨l∈L∨H.n≤l) (h3:∀ l,l∈L'→l∈L∨H.n≤l):Dfr U' es H' P' L':=by
 obtain ⟨ds,nd,e,k⟩:=h;refine ⟨ds,nd,e,fun r hr=>?_⟩;obtain ⟨k1,k2,k3,k4⟩:=k r hr;obtain ⟨e1,e2⟩:=h1 r k2 k1 k3 k4;have lt:=Heap.lt k1;refine ⟨e1,e2,fun p=>?_,fun m=>?_⟩
 ·rcases h2 r p with h | h | h
  ·exact k3 h
  ·exact k4 h
  ·omega
 ·rcases h3 r m with h | h
  ·exact k4 h
  ·omega
theorem Dfr.same {U:Nat→Prop} {es:List Go.Am.D} {H:Heap} {P:Nat→Prop} {L L':List Nat} (h:Dfr U es H P L) (h3:∀ l,l∈L'→l∈L):Dfr U es H P L':=h.to (fun _ u e _ _=>⟨e,u⟩) (fun _=>.inl) fun l hl=>.inl (h3 l hl)
def tget:List (Nat×D)→Nat→D
 | [],_=>.unk
 | (t,d)::l,i=>if t=i then d else tget l i
def St.put (st:St) (dst:Option Tmp) (d:D):St:=
 match dst with
 | none=>st
 | some t=>if t<st.n then ⟨(t,d)::st.tm,st.so,st.n⟩ else st
def cD:V→D
 | .agg vs=>.agg (vs.map .atom)
 | v=>.atom v
def St.eval (st:St):Operand→Option D
 | .tmp t=>some (tget st.tm t)
 | .const v=>(ofVal v).map cD
 | .func f=>some (.atom (.func (.func f) [] []))
 | .global _=>none
structure Rl (g:Gh) (st:St) (a:A) (H:Heap) (P:Nat→Prop) (μ:List Hd) (F X:List Nat):Prop where
 wf:H.WF
 nt:a.tmps.n=st.n
 nd:Dfr g.U a.defers H P (X++F)
 tms:∀ t,RL P H μ [tget st.tm t] [a.tmp t] []
 obs:OL P H μ μ st.so F
 nodup:(X++F).Nodup
 apart:∀ l,l∈X++F→¬ P l
 old:∀ l,l∈X++F→g.B l∨g.H0.n≤l
 lt:∀ l,l∈X++F→l<H.n
 p1:∀ l,g.P0 l→P l
 p2:∀ l,P l→g.P0 l∨g.B l∨g.H0.n≤l
 pl:∀ l,P l→∃ o,H.get l=some o
 ext:ExtB g.B g.H0 H
 gl:GoesL g.μ0 μ
variable {T:Tab} {P P':Nat→Prop} {H H':Heap} {μ μ':List Hd} {ds es:List D} {vs ws:List V} {F G X K:List Nat} {d:D} {v:V} {μ0 μ1 hs gs:List Hd} {obs ots:List Ob} {ob:Ob}
 {g:Gh} {st:St} {a:A}
theorem Rl.plt (r:Rl g st a H P μ F X):∀ l,P l→l<H.n:=fun l p=>by
 obtain ⟨o,e⟩:=r.pl l p;exact Heap.lt e
theorem Rl.permX {X':List Nat} (r:Rl g st a H P μ F X) (p:X.Perm X'):Rl g st a H P μ F X':=
 have m:∀ l,l∈X'++F→l∈X++F:=fun l h=>by
  rw [List.mem_append] at h ⊢;exact h.imp p.mem_iff.2 id
 { r with nd:=r.nd.same m,nodup:=(p.append_right F).nodup_iff.1 r.nodup,apart:=fun l h=>r.apart l (m l h),old:=fun l h=>r.old l (m l h),lt:=fun l h=>r.lt l (m l h) }
theorem Rl.dropX {X':List Nat} (r:Rl g st a H P μ F (K++X)):Rl g st a H P μ F X:=
 have m:∀ l,l∈X++F→l∈K++X++F:=fun l h=>by rw [List.append_assoc];exact List.mem_append_right _ h
 { r with nd:=r.nd.same m,nodup:=by have:=r.nodup;rw [List.append_assoc] at this;exact (List.nodup_append.1 this).2.1,apart:=fun l h=>r.apart l (m l h),old:=fun l h=>r.old l (m l h),lt:=fun l h=>r.lt l (m l h) }
theorem Rl.evalOk (r:Rl g st a H P μ F X) {x:Operand} (h:st.eval x=some d):∃ v,a.eval x=some v∧RL P H μ [d] [v] []:=by
 cases x with
 | tmp t=>cases h;exact ⟨_,rfl,r.tms t⟩
 | const c =>
   simp only [St.eval,Option.map_eq_some_iff] at h;obtain ⟨w,h1,rfl⟩:=h;refine ⟨w,h1,?_⟩
   cases w <;> first | exact .atom .nil | exact (RL.atoms _).agg1
 | func f=>cases h;exact ⟨_,rfl,.atom .nil⟩
 | global _=>cases h
def St.evals (st:St):List Operand→Option (List D)
 | []=>some []
 | x::xs=>match st.eval x with
   | none=>none
   | some d=>match St.evals st xs with
     | none=>none
     | some ds=>some (d::ds)
theorem Rl.evalsOk (r:Rl g st a H P μ F X):∀ {xs:List Operand} {ds:List D},st.evals xs=some ds→∃ vs,evals a xs=some vs∧RL P H μ ds vs []
 | [],ds,h=>by cases h;exact ⟨[],rfl,.nil⟩
 | x::xs,ds,h=>by
   simp only [St.evals] at h;split at h
   ·cases h
   ·rename_i d hd;split at h
    ·cases h
    ·rename_i ds' hds
     cases h
     obtain ⟨v,e1,r1⟩:=r.evalOk hd;obtain ⟨vs,e2,r2⟩:=r.evalsOk hds;exact ⟨v::vs,by simp only [evals,e1,e2],by simpa using r1.cons r2⟩
def St.evalParts (st:St):List (Nat×Operand)→Option (List (Nat×D))
 | []=>some []
 | (i,x)::xs=>match st.eval x with
   | none=>none
   | some d=>match St.evalParts st xs with
     | none=>none
     | some ds=>some ((i,d)::ds)
inductive RP (P:Nat→Prop) (H:Heap) (μ:List Hd):List (Nat×D)→List (Nat×V)→Prop
 | nil:RP P H μ [] []
 | cons {i:Nat} {d:D} {v:V} {ds:List (Nat×D)} {vs:List (Nat×V)}:RL P H μ [d] [v] []→RP P H μ ds vs→RP P H μ ((i,d)::ds) ((i,v)::vs)
theorem Rl.evalPartsOk (r:Rl g st a H P μ F X):∀ {xs:List (Nat×Operand)} {ds:List (Nat×D)},st.evalParts xs=some ds→∃ vs,evalParts a xs=some vs∧RP P H μ ds vs
 | [],ds,h=>by cases h;exact ⟨[],rfl,.nil⟩
 | (i,x)::xs,ds,h=>by
   simp only [St.evalParts] at h;split at h
   ·cases h
   ·rename_i d hd;split at h
    ·cases h
    ·rename_i ds' hds
     cases h
     obtain ⟨v,e1,r1⟩:=r.evalOk hd;obtain ⟨vs,e2,r2⟩:=r.evalPartsOk hds;exact ⟨(i,v)::vs,by simp only [Go.Am.evalParts,e1,e2],RP.cons r1 r2⟩
/-! ### New objects -/
theorem Rl.push (r:Rl g st a H P μ F X) (o:O):Rl g st a (H.push o) P μ F (H.n::X)∧(H.push o).get H.n=some o:=by
 have hx:=(Ext.refl r.wf).push o;have k:∀ l o',H.get l=some o'→(H.push o).get l=some o':=hx.get;have hn:∀ l,l∈X++F→l≠H.n:=fun l h e=>by have:=r.lt l h;omega
 refine ⟨{ wf:=hx.wf,nt:=r.nt,nd:=r.nd.to (fun j u e _ _=>⟨k _ _ e,u⟩) (fun l h=>.inl h) (fun l h=>by rw [List.cons_append,List.mem_cons] at h;exact h.elim (fun e=>.inr (Nat.le_of_eq e.symm)) .inl),tms:=fun t=>(r.tms t).keep fun l o' _=>k l o',obs:=r.obs.keep fun l o' _=>k l o',nodup:=?_,apart:=?_,old:=?_,lt:=?_,p1:=r.p1,p2:=r.p2,pl:=?_,ext:=r.ext.push o,gl:=r.gl },get_push_same _ _⟩
 ·rw [List.cons_append,List.nodup_cons];exact ⟨fun h=>hn _ h rfl,r.nodup⟩
 ·intro l h;rw [List.cons_append,List.mem_cons] at h;rcases h with rfl | h
  ·intro p;have:=r.plt _ p;omega
  ·exact r.apart l h
 ·intro l h;rw [List.cons_append,List.mem_cons] at h;rcases h with rfl | h
  ·exact .inr r.ext.n
  ·exact r.old l h
 ·intro l h;rw [List.cons_append,List.mem_cons] at h;simp only [Heap.n_push];rcases h with rfl | h
  ·omega
  ·have:=r.lt l h;omega
 ·intro l p;obtain ⟨o',e⟩:=r.pl l p;exact ⟨o',k l o' e⟩
theorem Rl.take (r:Rl g st a H P μ F (K++X)) {x:Hd} (h:OL P H (μ++[x]) [x] [ob] K):Rl g ⟨st.tm,st.so++[ob],st.n⟩ a H P (μ++[x]) (F++K) X:=by
 have gl:=GoesL.app μ [x]
 have m:∀ l,l∈X++(F++K)→l∈K++X++F:=fun l h=>by
  simp only [List.mem_append] at h ⊢;rcases h with h | h | h
  ·exact .inl (.inr h)
  ·exact .inr h
  ·exact .inl (.inl h)
 refine { wf:=r.wf,nt:=r.nt,nd:=r.nd.same m,tms:=fun t=>(r.tms t).goes gl,obs:=(r.obs.goes gl).app h,nodup:=?_,apart:=fun l h=>r.apart l (m l h),old:=fun l h=>r.old l (m l h),lt:=fun l h=>r.lt l (m l h),p1:=r.p1,p2:=r.p2,pl:=r.pl,ext:=r.ext,gl:=r.gl.trans gl };refine List.Perm.nodup ?_ r.nodup
 have e1:(K++X++F).Perm (X++F++K):=by
  rw [List.append_assoc];exact List.perm_append_comm
 rw [← List.append_assoc];exact e1
/-! ### Without names -/
mutual
def D.nl:D→Bool
 | .own _ _=>false
 | .optr _ _ _ _=>false
 | .rptr _ _=>false
 | .omap _=>false
 | .agg ds=>nlL ds
 | .tuple ds=>nlL ds
 | .iface t d=>D.nl d
 | .fn f u w=>nlL u && nlL w
 | .unk=>true
 | .atom v=>true
 | .imm s es=>true
 | .iptr cs o=>true
 | .fresh s es=>true
def nlL:List D→Bool
 | []=>true
 | d::ds=>D.nl d && nlL ds
end
theorem RL.nl (h:RL P H μ ds vs F):nlL ds=true→∀ {ν:List Hd},RL P H ν ds vs F:=by
 induction h with
 | nil=>exact fun _ ν=>.nil
 | unk h ih=>intro e ν;simp only [nlL,D.nl,Bool.true_and] at e;exact .unk (ih e)
 | atom h ih=>intro e ν;simp only [nlL,D.nl,Bool.true_and] at e;exact .atom (ih e)
 | agg h1 h2 i1 i2=>intro e ν;simp only [nlL,D.nl,Bool.and_eq_true] at e;exact .agg (i1 e.1) (i2 e.2)
 | tuple h1 h2 i1 i2=>intro e ν;simp only [nlL,D.nl,Bool.and_eq_true] at e;exact .tuple (i1 e.1) (i2 e.2)
 | iface h1 h2 i1 i2=>intro e ν;simp only [nlL,D.nl,Bool.and_eq_true] at e;exact .iface (i1 (by simp [nlL,e.1])) (i2 e.2)
 | fn h1 h2 h3 i1 i2 i3=>intro e ν;simp only [nlL,D.nl,Bool.and_eq_true] at e;exact .fn (i1 e.1.1) (i2 e.1.2) (i3 e.2)
 | immNil h ih=>intro e ν;simp only [nlL,D.nl,Bool.true_and] at e;exact .immNil (ih e)
 | imm p g t r e u c h ir ih=>intro k ν;simp only [nlL,D.nl,Bool.true_and] at k;exact .imm p g t r e u c (ih k)
 | iptr p g t r h ir ih=>intro k ν;simp only [nlL,D.nl,Bool.true_and] at k;exact .iptr p g t r (ih k)
 | own m c h ih=>intro e;simp [nlL,D.nl] at e
 | optr m c h ih=>intro e;simp [nlL,D.nl] at e
 | rptr m c h ih=>intro e;simp [nlL,D.nl] at e
 | omap m c h ih=>intro e;simp [nlL,D.nl] at e
 | freshNil h ih=>intro e ν;simp only [nlL,D.nl,Bool.true_and] at e;exact .freshNil (ih e)
 | fresh g r e u c h ir ih=>intro k ν;simp only [nlL,D.nl,Bool.true_and] at k;exact .fresh g r e u c (ih k)
def nlR:List (List D)→Bool
 | []=>true
 | e::es=>nlL e && nlR es
theorem nlL_append:∀ (a b:List D),nlL (a++b)=(nlL a && nlL b)
 | [],b=>by simp [nlL]
 | d::a,b=>by simp [nlL,nlL_append a b,Bool.and_assoc]
theorem nlR_flatten:∀ es:List (List D),nlL es.flatten=nlR es
 | []=>rfl
 | e::es=>by simp [nlL_append,nlR,nlR_flatten es]
theorem Rl.give (r:Rl g st a H P μ F X) {k s:Nat} {es:List (List D)} (hk:st.so[k]?=some (.sl s es)) (hnl:nlR es=true) (hv:RL P H μ [.own k es.length] [v] []) :
  ∃ μ' F' K,Rl g ⟨st.tm,st.so.set k .dead,st.n⟩ a H P μ' F' (K++X)∧RL P H [] [.fresh s es] [v] K∧GoesL μ μ':=by
 obtain ⟨x,F1,Fk,F2,hx,rfl,o1,put⟩:=r.obs.at hk;obtain ⟨_,y,hy,hc⟩:=hv.ownInv;rw [hx] at hy;cases hy;have gl:GoesL μ (μ.set k .dead):=GoesL.set hx (Goes.dead x);have o2:=(put P H .dead .dead [] (fun l h=>h) (.dead .nil) fun l o _ h=>h).goes gl
 have perm:(X++(F1++(Fk++F2))).Perm (Fk++X++(F1++([]++F2))):=by
  rw [List.nil_append,← List.append_assoc F1,← List.append_assoc X,← List.append_assoc X];refine (List.perm_append_comm (l₁:=X++F1) (l₂:=Fk)).append_right F2 |>.trans ?_;simp
 have m:∀ l,l∈Fk++X++(F1++([]++F2))→l∈X++(F1++(Fk++F2)):=fun l h=>perm.mem_iff.2 h;refine ⟨μ.set k .dead,F1++([]++F2),Fk,{ wf:=r.wf,nt:=r.nt,nd:=r.nd.same m,tms:=fun t=>(r.tms t).goes gl,obs:=o2,nodup:=perm.nodup r.nodup,apart:=fun l h=>r.apart l (m l h),old:=fun l h=>r.old l (m l h),lt:=fun l h=>r.lt l (m l h),p1:=r.p1,p2:=r.p2,pl:=r.pl,ext:=r.ext,gl:=r.gl.trans gl },?_,gl⟩;rcases o1.slInv with ⟨rfl,rfl,rfl⟩ | ⟨l,q,pre,ws,rest,F',rfl,rfl,g',r',e,u1,c⟩
 ·rw [(hc _ _ _ rfl).2 rfl];exact .freshNil .nil
 ·rw [(hc _ _ _ rfl).2 rfl];simpa using RL.fresh g' (r'.nl (by rw [nlR_flatten];exact hnl)) e u1 c .nil
def out0 (so:List Ob):D→Option (D×List Ob)
 | .own k n=>match so[k]? with
   | some (.sl s es)=>if es.length=n∧nlR es=true then some (.fresh s es,so.set k .dead) else none
   | _=>none
 | d=>if D.nl d then some (d,so) else none
def outs (so:List Ob):List D→Option (List D×List Ob)
 | []=>some ([],so)
 | d::ds=>match out0 so d with
   | none=>none
   | some (d',so')=>match outs so' ds with
     | none=>none
     | some (ds',so2)=>some (d'::ds',so2)
theorem Rl.out0Ok (r:Rl g st a H P μ F X) {d d':D} {so':List Ob} (h:out0 st.so d=some (d',so')) (hv:RL P H μ [d] [v] []) :
  ∃ μ' F' K,Rl g ⟨st.tm,so',st.n⟩ a H P μ' F' (K++X)∧RL P H [] [d'] [v] K∧GoesL μ μ':=by
 have base:∀ {d},RL P H μ [d] [v] []→(if D.nl d then some (d,st.so) else none)=some (d',so')→∃ μ' F' K,Rl g ⟨st.tm,so',st.n⟩ a H P μ' F' (K++X)∧RL P H [] [d'] [v] K∧GoesL μ μ':=by
  intro d hv h;split at h
  ·rename_i hn;cases h;exact ⟨μ,F,[],r,hv.nl (by simp [nlL,hn]),GoesL.refl μ⟩
  ·cases h
 cases d with
 | own k n =>
   simp only [out0] at h;split at h
   ·rename_i s es hk;split at h
    ·rename_i hn;obtain ⟨hn,hnl⟩:=hn
     cases h;subst hn
     exact r.give hk hnl hv
    ·cases h
   ·cases h
 | _=>exact base hv h
theorem Rl.outsOk:∀ {ds ds':List D} {vs:List V} {st:St} {so':List Ob} {μ:List Hd} {F X:List Nat},Rl g st a H P μ F X→outs st.so ds=some (ds',so')→RL P H μ ds vs [] →
  ∃ μ' F' K,Rl g ⟨st.tm,so',st.n⟩ a H P μ' F' (K++X)∧RL P H [] ds' vs K∧GoesL μ μ'
 | [],ds',vs,st,so',μ,F,X,r,h,hv=>by
   cases h;obtain ⟨rfl,_⟩:=hv.nil_inv
   exact ⟨μ,F,[],r,.nil,GoesL.refl μ⟩
 | d::ds,ds',vs,st,so',μ,F,X,r,h,hv=>by
   simp only [outs] at h;split at h
   ·cases h
   ·rename_i d1 so1 h1;split at h
    ·cases h
    ·rename_i ds2 so2 h2
     cases h
     obtain ⟨v,vs',G1,G2,rfl,hF,q1,q2⟩:=hv.uncons;have hF':=hF.symm;rw [List.append_eq_nil_iff] at hF';rw [hF'.1] at q1;rw [hF'.2] at q2;obtain ⟨μ1,F1,K1,r1,p1,g1⟩:=r.out0Ok h1 q1;obtain ⟨μ2,F2,K2,r2,p2,g2⟩:=Rl.outsOk (st:=⟨st.tm,so1,st.n⟩) r1 h2 (q2.goes g1);refine ⟨μ2,F2,K1++K2,r2.permX ?_,p1.cons p2,g1.trans g2⟩;rw [← List.append_assoc];exact (List.perm_append_comm (l₁:=K2) (l₂:=K1)).append_right X
/-! ### Cells -/
def aliveS (so:List Ob) (k n:Nat):Bool:=
 match so[k]? with
 | some (.sl _ es)=>Nat.beq es.length n
 | _=>false
def aliveC (so:List Ob) (k:Nat):Bool:=
 match so[k]? with
 | some (.cell _)=>true
 | _=>false
def aliveM (so:List Ob) (k:Nat):Bool:=
 match so[k]? with
 | some (.mp _)=>true
 | _=>false
def okD (so:List Ob):D→Bool
 | .atom v=>v.one
 | .own k n=>aliveS so k n
 | .optr k n _ _=>aliveS so k n
 | .rptr k _=>aliveC so k
 | .omap k=>aliveM so k
 | .iface _ _=>true
 | .fn _ _ _=>true
 | .imm _ _=>true
 | .iptr _ _=>true
 | _=>false
theorem Rl.okOk (r:Rl g st a H P μ F X) (h:okD st.so d=true) (hv:RL P H μ [d] [v] []):v.one=true:=by
 cases d with
 | atom w=>rw [hv.atomInv.2];exact h
 | own k n =>
   simp only [okD,aliveS] at h;split at h
   ·rename_i s es hk;obtain ⟨x,F1,Fk,F2,hx,rfl,o1,_⟩:=r.obs.at hk;obtain ⟨_,y,hy,hc⟩:=hv.ownInv;rw [hx] at hy;cases hy;rw [Nat.beq_eq] at h;rcases o1.slInv with ⟨rfl,rfl,rfl⟩ | ⟨l,q,pre,ws,rest,F',rfl,rfl,g',r',e,u1,c⟩
    ·rw [(hc _ _ _ rfl).2 h.symm];rfl
    ·rw [(hc _ _ _ rfl).2 h.symm];rfl
   ·cases h
 | optr k n j c =>
   simp only [okD,aliveS] at h;split at h
   ·rename_i s es hk;obtain ⟨x,F1,Fk,F2,hx,rfl,o1,_⟩:=r.obs.at hk;obtain ⟨_,y,hy,hc⟩:=hv.optrInv;rw [hx] at hy;cases hy;rw [Nat.beq_eq] at h;rcases o1.slInv with ⟨rfl,rfl,rfl⟩ | ⟨l,q,pre,ws,rest,F',rfl,rfl,g',r',e,u1,c⟩
    ·obtain ⟨l,o,q,e1,e2⟩:=(hc _ _ _ rfl).2 h.symm;rw [e2];rfl
    ·obtain ⟨l,o,q,e1,e2⟩:=(hc _ _ _ rfl).2 h.symm;rw [e2];rfl
   ·cases h
 | rptr k c =>
   simp only [okD,aliveC] at h;split at h
   ·rename_i cs hk;obtain ⟨x,F1,Fk,F2,hx,rfl,o1,_⟩:=r.obs.at hk;obtain ⟨_,y,hy,hc⟩:=hv.rptrInv;rw [hx] at hy;cases hy;obtain ⟨l,ws,rfl,rfl,g',r'⟩:=o1.cellInv;rw [hc _ rfl];rfl
   ·cases h
 | omap k =>
   simp only [okD,aliveM] at h;split at h
   ·rename_i cs hk;obtain ⟨x,F1,Fk,F2,hx,rfl,o1,_⟩:=r.obs.at hk;obtain ⟨_,y,hy,hc⟩:=hv.omapInv;rw [hx] at hy;cases hy;obtain ⟨l,es,rfl,_⟩:=o1.mpInv;rw [hc _ rfl];rfl
   ·cases h
 | iface t d=>obtain ⟨w,rfl,_⟩:=hv.ifaceInv;rfl
 | fn f u w=>obtain ⟨_,_,_,_,rfl,_⟩:=hv.fnInv;rfl
 | imm s es=>rcases hv.immInv with ⟨_,⟨rfl,_⟩ | ⟨_,_,_,_,_,_,rfl,_⟩⟩ <;> rfl
 | iptr cs o=>obtain ⟨_,_,_,_,_,_,rfl,_⟩:=hv.iptrInv;rfl
 | _=>cases h
def okDs (so:List Ob):List D→Bool
 | []=>true
 | d::ds=>okD so d && okDs so ds
theorem Rl.oksOk (r:Rl g st a H P μ F X):∀ {ds:List D} {vs:List V},okDs st.so ds=true→RL P H μ ds vs []→vs.all V.one=true
 | [],vs,_,hv=>by obtain ⟨rfl,_⟩:=hv.nil_inv;rfl
 | d::ds,vs,h,hv=>by
   simp only [okDs,Bool.and_eq_true] at h;obtain ⟨v,vs',G1,G2,rfl,hF,q1,q2⟩:=hv.uncons;have hF':=hF.symm;rw [List.append_eq_nil_iff] at hF';rw [hF'.1] at q1;rw [hF'.2] at q2;simp only [List.all_cons,r.okOk h.1 q1,r.oksOk h.2 q2,Bool.and_self]
def cellsD (so:List Ob):D→Option (List D)
 | .agg ds=>if okDs so ds then some ds else none
 | d=>if okD so d then some [d] else none
theorem Rl.cellsOk (r:Rl g st a H P μ F X) (h:cellsD st.so d=some ds) (hv:RL P H μ [d] [v] []):RL P H μ ds v.cells []∧v.cells.all V.one=true:=by
 have base:∀ {d},RL P H μ [d] [v] []→(if okD st.so d then some [d] else none)=some ds→RL P H μ ds v.cells []∧v.cells.all V.one=true:=by
  intro d hv h;split at h
  ·rename_i ho;cases h;have:=r.okOk ho hv;rw [cells_one this];exact ⟨hv,by simp [this]⟩
  ·cases h
 cases d with
 | agg cs =>
   simp only [cellsD] at h;split at h
   ·rename_i ho;cases h;obtain ⟨ws,rfl,q⟩:=hv.aggInv;exact ⟨q,r.oksOk ho q⟩
   ·cases h
 | _=>exact base hv h
/-! ### Reading -/
mutual
/-- Nothing in it is held by its holder alone. -/
def D.nf:D→Bool
 | .fresh _ _=>false
 | .agg ds=>nfL ds
 | .tuple ds=>nfL ds
 | .iface t d=>D.nf d
 | .fn f u w=>nfL u && nfL w
 | .unk=>true
 | .atom v=>true
 | .imm s es=>true
 | .iptr cs o=>true
 | .own _ _=>true
 | .optr _ _ _ _=>true
 | .rptr _ _=>true
 | .omap _=>true
def nfL:List D→Bool
 | []=>true
 | d::ds=>D.nf d && nfL ds
end
theorem RL.nf (h:RL P H μ ds vs F):nfL ds=true→F=[]:=by
 induction h with
 | nil=>exact fun _=>rfl
 | agg h1 h2 i1 i2=>intro e;simp only [nfL,D.nf,Bool.and_eq_true] at e;rw [i1 e.1,i2 e.2];rfl
 | tuple h1 h2 i1 i2=>intro e;simp only [nfL,D.nf,Bool.and_eq_true] at e;rw [i1 e.1,i2 e.2];rfl
 | iface h1 h2 i1 i2=>intro e;simp only [nfL,D.nf,Bool.and_eq_true] at e;rw [i1 (by simp [nfL,e.1]),i2 e.2];rfl
 | fn h1 h2 h3 i1 i2 i3=>intro e;simp only [nfL,D.nf,Bool.and_eq_true] at e;rw [i1 e.1.1,i2 e.1.2,i3 e.2];rfl
 | imm p g t r e u c h ir ih=>intro e;simp only [nfL,D.nf,Bool.true_and] at e;exact ih e
 | iptr p g t r h ir ih=>intro e;simp only [nfL,D.nf,Bool.true_and] at e;exact ih e
 | fresh g r e u c h ir ih=>intro k;simp [nfL,D.nf] at k
 | freshNil h ih=>intro k;simp [nfL,D.nf] at k
 | _ h ih=>first | (intro e;simp only [nfL,D.nf,Bool.true_and] at e;exact ih e) | (rename_i ih;intro e;simp only [nfL,D.nf,Bool.true_and] at e;exact ih e)
theorem RL.cutF (h:RL P H μ ds vs F) (o n:Nat) (hn:o+n≤ds.length):take? vs o n=some ((vs.drop o).take n)∧∃ F1 F2 F3,F=F1++(F2++F3)∧RL P H μ (ds.take o) (vs.take o) F1∧RL P H μ ((ds.drop o).take n) ((vs.drop o).take n) F2 ∧
  RL P H μ (ds.drop (o+n)) (vs.drop (o+n)) F3:=by
 have hl:=h.len;constructor
 ·simp only [take?,List.length_take,List.length_drop,cond_beq];rw [if_pos (by omega)]
 ·have e:ds=ds.take o++((ds.drop o).take n++(ds.drop o).drop n):=by rw [List.take_append_drop,List.take_append_drop]
  rw [e] at h;obtain ⟨v1,v2,F1,F2,rfl,rfl,h1,h2⟩:=h.split;obtain ⟨v3,v4,F3,F4,rfl,rfl,h3,h4⟩:=h2.split;have l1:=h1.len;have l3:=h3.len;simp only [List.length_take,List.length_drop] at l1 l3;have l3':v3.length=n:=by rw [← l3,Nat.min_eq_left (by omega)]
  have l1':v1.length=o:=by omega
  have e1:(v1++(v3++v4)).drop o=v3++v4:=by rw [← l1'];simp
  have e2:(v1++(v3++v4)).take o=v1:=by rw [← l1'];simp
  have e3:(v3++v4).take n=v3:=by rw [← l3'];simp
  have e4:(v1++(v3++v4)).drop (o+n)=v4:=by rw [← l1',← l3',← List.append_assoc,← List.length_append];simp
  refine ⟨F1,F3,F4,rfl,by rw [e2];exact h1,by rw [e1,e3];exact h3,by rw [e4,← List.drop_drop];exact h4⟩
def rd (T:Tab) (t:TypeId) (cs:List D) (o:Nat):Option D:=
 match isAgg? T t with
 | some true=>match sizeN T t with
   | some n=>if o+n≤cs.length then (if nfL ((cs.drop o).take n) then some (.agg ((cs.drop o).take n)) else none) else none
   | none=>none
 | some false=>match cs[o]? with
   | some d=>if D.nf d then some d else none
   | none=>none
 | none=>none
theorem rd_ok {l b o:Nat} {ro:Bool} {us ws:List V} {t:TypeId} {cs:List D} (hg:H.get l=some (.cells ro us)) (ht:take? us b cs.length=some ws) (h:RL P H μ cs ws F) (hr:rd T t cs o=some d) :
  ∃ v,loadVar T H t l (b+o)=some v∧RL P H μ [d] [v] []:=by
 obtain ⟨hws,hwl⟩:=tk_eq ht;simp only [rd] at hr;split at hr
 ·rename_i hag;split at hr
  ·rename_i n hn;split at hr
   ·rename_i hle;split at hr
    ·rename_i hnf
     cases hr
     obtain ⟨t1,F1,F2,F3,rfl,_,r2,_⟩:=h.cutF o n hle;have:=r2.nf hnf;subst this;refine ⟨_,?_,r2.agg1⟩;simp only [sizeN,Option.map_eq_some_iff] at hn;obtain ⟨⟨n',b'⟩,h1,h2⟩:=hn;simp only at h2;subst h2
     have e1:take? us (b+o) n'=some ((ws.drop o).take n'):=by
      have e2:(us.drop (b+o)).take n'=(ws.drop o).take n':=by
       subst hws;rw [List.drop_take,List.take_take,Nat.min_eq_left (by omega),List.drop_drop]
      have hwl':=hwl;rw [hws,List.length_take,List.length_drop] at hwl';simp only [take?,cond_beq,List.length_take,List.length_drop];rw [if_pos (by omega),e2]
     simp only [loadVar,cellsAt_of_get hg,hag,h1,e1,Option.map_some]
    ·cases hr
   ·cases hr
  ·cases hr
 ·rename_i hag;split at hr
  ·rename_i d' hd;split at hr
   ·rename_i hnf
    cases hr
    have hlt:=get_lt hd;obtain ⟨t1,F1,F2,F3,rfl,_,r2,_⟩:=h.cutF o 1 (by omega)
    have e0:(cs.drop o).take 1=[d]:=by
     have:cs[o]=d:=by rw [List.getElem?_eq_getElem hlt] at hd;exact Option.some.inj hd
     rw [List.drop_eq_getElem_cons hlt,this];simp
    rw [e0] at r2;have:=r2.nf (by simp [nfL,hnf]);subst this;obtain ⟨v,hv,r3⟩:=r2.one;refine ⟨v,?_,r3⟩;simp only [loadVar,cellsAt_of_get hg,hag]
    have h2:ws[o]?=some v:=by
     have:=congrArg (fun l=>l[0]?) hv;simpa using this
    rw [← tk_get ht o (by omega),h2]
   ·cases hr
  ·cases hr
 ·cases hr
def vLoad (T:Tab) (so:List Ob) (t:TypeId):D→Option D
 | .iptr cs o=>rd T t cs o
 | .optr k n j c=>match so[k]? with
   | some (.sl _ es)=>if es.length=n then (match es[j]? with
     | some e=>rd T t e c
     | none=>none) else none
   | _=>none
 | .rptr k c=>match so[k]? with
   | some (.cell cs)=>rd T t cs c
   | _=>none
 | _=>none
theorem Rl.loadOk (r:Rl g st a H P μ F X) {t:TypeId} {p d:D} (h:vLoad T st.so t p=some d) (hv:RL P H μ [p] [v] []):∃ l o u,v=.ptr l o∧loadVar T H t l o=some u∧RL P H μ [d] [u] []:=by
 cases p with
 | iptr cs o =>
   obtain ⟨_,l,b,ro,us,ws,rfl,p,g',t',r'⟩:=hv.iptrInv;obtain ⟨u,h1,h2⟩:=rd_ok g' t' r' h;exact ⟨l,_,u,rfl,h1,h2.any⟩
 | optr k n j c =>
   simp only [vLoad] at h;split at h
   ·rename_i s es hk;split at h
    ·rename_i hn;split at h
     ·rename_i e he;obtain ⟨x,F1,Fk,F2,hx,rfl,o1,_⟩:=r.obs.at hk;obtain ⟨_,y,hy,hc⟩:=hv.optrInv;rw [hx] at hy;cases hy;rcases o1.slInv with ⟨rfl,rfl,rfl⟩ | ⟨l,q,pre,ws,rest,F',rfl,rfl,g',r',el,u1,cq⟩
      ·simp at he
      ·obtain ⟨l',o',q',e1,e2⟩:=(hc _ _ _ rfl).2 hn.symm
       cases e1
       have hlt:=get_lt he;have h1:(j+1) * s≤es.length * s:=Nat.mul_le_mul_right s hlt;have h2:(j+1) * s=j * s+s:=by rw [Nat.add_mul];omega
       have hel:=el e (List.mem_of_getElem? he);have hwl:=r'.len;rw [dflatten_len el] at hwl;obtain ⟨t1,G1,G2,G3,rfl,_,r2,_⟩:=r'.cutF (j * s) s (by rw [dflatten_len el];omega);rw [drow el he] at r2
       have tk:take? (pre++(ws++rest)) (pre.length+j * s) e.length=some ((ws.drop (j * s)).take s):=by
        simp only [take?,cond_beq,hel];rw [← List.drop_drop,List.drop_left,List.drop_append_of_le_length (by omega),List.take_append_of_le_length (by rw [List.length_drop];omega),List.length_take,List.length_drop,if_pos (by omega)]
       obtain ⟨u,h3,h4⟩:=rd_ok g' tk r2 h;rw [Nat.add_assoc] at h3;exact ⟨_,_,u,e2,h3,h4⟩
     ·cases h
    ·cases h
   ·cases h
 | rptr k c =>
   simp only [vLoad] at h;split at h
   ·rename_i cs hk;obtain ⟨x,F1,Fk,F2,hx,rfl,o1,_⟩:=r.obs.at hk;obtain ⟨_,y,hy,hc⟩:=hv.rptrInv;rw [hx] at hy;cases hy;obtain ⟨l,ws,rfl,rfl,g',r'⟩:=o1.cellInv
    have tk:take? ws 0 cs.length=some ws:=by
     simp only [take?,cond_beq,r'.len,List.drop_zero,List.take_length,if_true]
    obtain ⟨u,h3,h4⟩:=rd_ok g' tk r' h;rw [Nat.zero_add] at h3;exact ⟨_,_,u,hc _ rfl,h3,h4⟩
   ·cases h
 | _=>cases h
end Go.Am.Vm

namespace Go.Am.Vm
open Go.Am
variable {T:Tab} {P P':Nat→Prop} {H H':Heap} {μ μ':List Hd} {ds es cs:List D} {vs ws us:List V} {F G X K F' X':List Nat} {d:D} {v:V} {μ0 μ1 hs gs:List Hd} {obs ots so':List Ob} {ob:Ob}
 {g:Gh} {st:St} {a:A}
theorem nodup_le {A B:List Nat} (h:A.Nodup) (k:∀ a,B.count a≤A.count a):B.Nodup:=by
 rw [List.nodup_iff_count] at h ⊢;exact fun a=>Nat.le_trans (k a) (h a)
theorem mem_le {A B:List Nat} (k:∀ a,B.count a≤A.count a) {l:Nat} (h:l∈B):l∈A:=by
 rw [← List.count_pos_iff] at h ⊢;exact Nat.lt_of_lt_of_le h (k l)
theorem Rl.upd (r:Rl g st a H P μ F X) {l:Nat} (hl:l∈X++F) (o:O) (hgl:GoesL μ μ') (ho:OL P (H.put l o) μ' μ' so' F') (hc:∀ a,(X'++F').count a≤(X++F).count a) :
  Rl g ⟨st.tm,so',st.n⟩ a (H.put l o) P μ' F' X':=by
 have hlt:=r.lt l hl;refine { wf:=r.wf.put hlt o,nt:=r.nt,nd:=r.nd.to (fun j u e _ hj=>⟨by rw [Heap.get_put_ne (show ¬ j=l from fun e2=>hj (e2 ▸ hl))];exact e,u⟩) (fun l h=>.inl h) (fun l h=>.inl (mem_le hc h)),tms:=fun t=>((r.tms t).goes hgl).keep fun j o' hj e=>?_,obs:=ho,nodup:=nodup_le r.nodup hc,apart:=fun j h=>r.apart j (mem_le hc h),old:=fun j h=>r.old j (mem_le hc h),lt:=fun j h=>(by rw [Heap.n_put];exact r.lt j (mem_le hc h)),p1:=r.p1,p2:=r.p2,pl:=?_,ext:=?_,gl:=r.gl.trans hgl }
 rotate_left
 ·intro j p;obtain ⟨o',e⟩:=r.pl j p;have hne:¬ j=l:=by rintro rfl;exact r.apart _ hl p
  exact ⟨o',by rw [Heap.get_put_ne hne];exact e⟩
 ·have hold:g.B l∨g.H0.n≤l:=r.old l hl;exact r.ext.put hold hlt o
 rcases hj with hj | hj
 ·have hne:¬ j=l:=by rintro rfl;exact r.apart _ hl hj
  rw [Heap.get_put_ne hne];exact e
 ·cases hj
def overD (ds:List D) (o:Nat) (cs:List D):List D:=ds.take o++(cs++ds.drop (o+cs.length))
theorem overD_length {o:Nat} (h:o+cs.length≤ds.length):(overD ds o cs).length=ds.length:=by
 simp only [overD,List.length_append,List.length_take,List.length_drop];omega
theorem RL.over {o:Nat} (h:RL P H μ ds vs F) (h':RL P H μ cs us K) (ho:o+cs.length≤ds.length):∃ F1 F2 F3,F=F1++(F2++F3)∧RL P H μ (overD ds o cs) (over vs o us) (F1++(K++F3)):=by
 obtain ⟨_,F1,F2,F3,rfl,r1,_,r3⟩:=h.cutF o cs.length ho;refine ⟨F1,F2,F3,rfl,?_⟩;have hl:=h.len;have hl':=h'.len
 have e:Go.Am.over vs o us=vs.take o++(us++vs.drop (o+cs.length)):=by
  have e0:vs=vs.take o++vs.drop o:=(List.take_append_drop o vs).symm;have e1:(vs.take o).length=o:=by rw [List.length_take];omega
  have:=over_app (vs.take o) (vs.drop o) us (by rw [List.length_drop];omega);rw [e1,List.take_append_drop] at this;rw [this,List.drop_drop,hl',List.append_assoc]
 rw [e];exact r1.app (h'.app r3)
theorem rows_set {s:Nat}:∀ {rows:List (List D)} (he:∀ e,e∈rows→e.length=s) {j c:Nat} {e cs:List D} (hj:rows[j]?=some e) (hc:c+cs.length≤s),(rows.set j (overD e c cs)).flatten=overD rows.flatten (j * s+c) cs
 | [],_,_,_,_,_,hj,_=>by simp at hj
 | x::rows,he,0,c,e,cs,hj,hc=>by
   simp only [List.getElem?_cons_zero,Option.some.injEq] at hj;subst hj;have hx:=he x (by simp);simp only [List.set_cons_zero,List.flatten_cons,overD,Nat.zero_mul,Nat.zero_add];rw [List.take_append_of_le_length (by omega),List.drop_append_of_le_length (by omega)];simp
 | x::rows,he,j+1,c,e,cs,hj,hc=>by
   have hx:=he x (by simp);simp only [List.getElem?_cons_succ] at hj;have ih:=rows_set (fun e h=>he e (by simp [h])) hj hc;have e1:(j+1) * s+c=x.length+(j * s+c):=by rw [hx,Nat.add_mul];omega
   simp only [List.set_cons_succ,List.flatten_cons,ih];simp only [overD,e1,List.take_length_add_append,Nat.add_assoc x.length,List.drop_length_add_append,List.append_assoc]
theorem over_all {o:Nat} (h:ws.all V.one=true) (h':us.all V.one=true):(over ws o us).all V.one=true:=by
 have:∀ (ws:List V) (o:Nat) (us:List V),ws.all V.one=true→us.all V.one=true→(over ws o us).all V.one=true:=by
  intro ws
  induction ws with
  | nil=>intro o us _ _;cases o <;> cases us <;> rfl
  | cons w ws ih =>
    intro o us h1 h2;simp only [List.all_cons,Bool.and_eq_true] at h1
    cases o with
    | zero =>
      cases us with
      | nil=>simp [Go.Am.over,h1.1,h1.2]
      | cons u us =>
        simp only [List.all_cons,Bool.and_eq_true] at h2;simp only [Go.Am.over,List.all_cons,h2.1,ih 0 us h1.2 h2.2,Bool.and_self]
    | succ o=>simp only [Go.Am.over,List.all_cons,h1.1,ih o us h1.2 h2,Bool.and_self]
 exact this ws o us h h'
theorem over_pre (ws us:List V) (o:Nat):∀ pre:List V,over (pre++ws) (pre.length+o) us=pre++over ws o us
 | []=>by simp
 | p::pre=>by
   rw [List.length_cons,Nat.add_right_comm,List.cons_append,List.cons_append,← over_pre ws us o pre];simp only [Go.Am.over]
theorem over_front2 {o:Nat} (h:o+us.length≤ws.length) (rest:List V):over (ws++rest) o us=over ws o us++rest:=by
 have:∀ (ws:List V) (o:Nat) (us:List V),o+us.length≤ws.length→over (ws++rest) o us=over ws o us++rest:=by
  intro ws
  induction ws with
  | nil=>intro o us h;have h1:o=0:=by simp at h;omega
         have h2:us=[]:=by simp at h;exact h.2
         subst h1;subst h2;cases rest <;> rfl
  | cons w ws ih =>
    intro o us h
    cases o with
    | zero =>
      cases us with
      | nil=>rfl
      | cons u us=>simp only [List.cons_append,Go.Am.over];rw [ih 0 us (by simpa using h)]
    | succ o=>simp only [List.cons_append,Go.Am.over];rw [ih o us (by simp only [List.length_cons] at h;omega)]
 exact this ws o us h
/-! ### Stores -/
def vStore (T:Tab) (so:List Ob) (t:TypeId) (p y:D):Option (List Ob):=
 match sizeN T t,cellsD so y with
 | some m,some cs=>if cs.length=m then (match p with
   | .optr k n j c=>match outs so cs with
     | some (cs',so')=>match so'[k]? with
       | some (.sl s es)=>if es.length=n then (match es[j]? with
         | some e=>if c+cs'.length≤e.length then some (so'.set k (.sl s (es.set j (overD e c cs')))) else none
         | none=>none) else none
       | _=>none
     | none=>none
   | .rptr k c=>match so[k]? with
     | some (.cell es)=>if c+cs.length≤es.length then some (so.set k (.cell (overD es c cs))) else none
     | _=>none
   | _=>none) else none
 | _,_=>none
theorem outs_length:∀ {ds ds':List D} {so so':List Ob},outs so ds=some (ds',so')→ds'.length=ds.length
 | [],ds',so,so',h=>by cases h;rfl
 | d::ds,ds',so,so',h=>by
   simp only [outs] at h;split at h
   ·cases h
   ·split at h
    ·cases h
    ·rename_i h2;cases h;simp [outs_length h2]
theorem Rl.storeOk (r:Rl g st a H P μ F []) {t:TypeId} {p y:D} {u w:V} (h:vStore T st.so t p y=some so') (hp:RL P H μ [p] [u] []) (hy:RL P H μ [y] [w] []) :
  ∃ l o H' μ' F',u=.ptr l o∧storeVar T H t l o w=some H'∧Rl g ⟨st.tm,so',st.n⟩ a H' P μ' F' []∧GoesL μ μ':=by
 simp only [vStore] at h;split at h
 ·rename_i m cs hm hcs;split at h
  ·rename_i hlen;obtain ⟨q1,q2⟩:=r.cellsOk hcs hy;have hl1:=q1.len;simp only [sizeN,Option.map_eq_some_iff] at hm;obtain ⟨⟨m',b'⟩,hsz,hmm⟩:=hm;simp only at hmm;subst hmm
   cases p with
   | optr k n j c =>
     simp only at h;split at h
     ·rename_i cs' so1 ho;split at h
      ·rename_i s es hk;split at h
       ·rename_i hn;split at h
        ·rename_i e hj;split at h
         ·rename_i hle
          cases h
          obtain ⟨μ1,F1,K,r1,q3,g1⟩:=r.outsOk ho q1;obtain ⟨x,G1,Gk,G2,hx,rfl,o1,put⟩:=r1.obs.at hk;obtain ⟨_,y',hy',hc⟩:=(hp.goes g1).optrInv;rw [hx] at hy';cases hy';rcases o1.slInv with ⟨rfl,rfl,rfl⟩ | ⟨l,q,pre,wz,rest,F',rfl,rfl,g',r',el,u1,cq⟩
          ·simp at hj
          ·obtain ⟨l',o',q',e1,rfl⟩:=(hc _ _ _ rfl).2 hn.symm
           cases e1
           have hel:=el e (List.mem_of_getElem? hj);have hcl:=outs_length ho;have hlt:=get_lt hj;have h1:(j+1) * s≤es.length * s:=Nat.mul_le_mul_right s hlt;have h2:(j+1) * s=j * s+s:=by rw [Nat.add_mul];omega
           have hwl:=r'.len;have hfl:=dflatten_len el;have hle2:(j * s+c)+w.cells.length≤wz.length:=by omega
           obtain ⟨A,B,C,rfl,r2⟩:=r'.over (o:=j * s+c) q3.any (by omega);rw [← rows_set el hj (by omega)] at r2;have hll:l∈(K++[])++(G1++(l::(A++(B++C))++G2)):=by simp
           have hne:∀ j,j∈K∨j∈A∨j∈B∨j∈C∨j∈G1∨j∈G2→j≠l:=by
            intro j hj e;subst e;have h3:(K++[]++(G1++(j::(A++(B++C))++G2))).count j≤1:=List.nodup_iff_count.1 r1.nodup j;simp only [List.count_append,List.count_cons,List.count_nil,beq_self_eq_true,if_true] at h3;rcases hj with h | h | h | h | h | h <;> (have:=List.count_pos_iff.2 h;omega)
           have keep:∀ (o':O) j ob,(P j∨j∈K∨j∈A∨j∈B∨j∈C∨j∈G1∨j∈G2)→H.get j=some ob→(H.put l o').get j=some ob:=by
            intro o' j ob hj e;rw [Heap.get_put_ne]
            ·exact e
            ·rcases hj with hj | hj
             ·intro e2;exact r1.apart l hll (e2 ▸ hj)
             ·exact hne j hj
           have eo:over (pre++(wz++rest)) (pre.length+(j * s+c)) w.cells=pre++(over wz (j * s+c) w.cells++rest):=by rw [over_pre,over_front2 hle2 rest]
           have o2:OL P (H.put l (.cells false (pre++(over wz (j * s+c) w.cells++rest)))) μ1 [.sl (.slice l pre.length (es.set j (overD e c cs')).length s q) (es.set j (overD e c cs')).length s] [.sl s (es.set j (overD e c cs'))] (l::((A++(K++C))++[])):=by
            refine .sl (pre:=pre) (ws:=over wz (j * s+c) w.cells) (rest:=rest) (get_put_same (r1.lt l hll) _) (r2.keep fun j ob hj e=>keep _ j ob ?_ e) ?_ (over_all u1 q2) ?_ .nil
            ·simp only [List.mem_append] at hj;rcases hj with h | h | h | h
             ·exact .inl h
             ·exact .inr (.inr (.inl h))
             ·exact .inr (.inl h)
             ·exact .inr (.inr (.inr (.inr (.inl h))))
            ·intro e' he';rcases List.mem_or_eq_of_mem_set he' with h | rfl
             ·exact el _ h
             ·rw [overD_length hle];exact hel
            ·intro m hm;rw [List.length_set];exact cq m hm
           rw [List.length_set] at o2;have o3:=put P (H.put l (.cells false (pre++(over wz (j * s+c) w.cells++rest)))) _ _ _ (fun l h=>h) o2 (fun j ob hj e=>keep _ j ob (hj.imp id fun h=>.inr (.inr (.inr (.inr h)))) e)
           have hset:μ1.set k (.sl (.slice l pre.length es.length s q) es.length s)=μ1:=by
            apply List.ext_getElem?;intro i
            by_cases hi:k=i
            ·subst hi;rw [List.getElem?_set_self (get_lt hx),hx]
            ·rw [List.getElem?_set_ne hi]
           rw [hset] at o3;refine ⟨l,pre.length+(j * s+c),H.put l (.cells false (pre++(over wz (j * s+c) w.cells++rest))),μ1,_,rfl,?_,r1.upd (μ':=μ1) (X':=[]) hll _ (GoesL.refl μ1) o3 (fun a=>?_),g1⟩
           ·have hcl2:w.cells.length=m':=by omega
            simp only [storeVar,hsz,hcl2,Nat.beq_refl,cond_true,];rw [putCells_eq g' (by rw [List.length_append,List.length_append];omega) q2,eo]
           ·simp only [List.count_append,List.count_cons,List.count_nil];omega
         ·cases h
        ·cases h
       ·cases h
      ·cases h
     ·cases h
   | rptr k c =>
     simp only at h;split at h
     ·rename_i es hk;split at h
      ·rename_i hle
       cases h
       obtain ⟨x,G1,Gk,G2,hx,rfl,o1,put⟩:=r.obs.at hk;obtain ⟨_,y',hy',hc⟩:=hp.rptrInv;rw [hx] at hy';cases hy';obtain ⟨l,wz,rfl,rfl,g',r'⟩:=o1.cellInv;obtain rfl:=hc _ rfl;have hwl:=r'.len;obtain ⟨A,B,C,hABC,r2⟩:=r'.over (o:=c) q1 (by omega);have hA:=hABC.symm;rw [List.append_eq_nil_iff,List.append_eq_nil_iff] at hA;rw [hA.1,hA.2.2] at r2;have hll:l∈[]++(G1++([l]++G2)):=by simp
       have hne:∀ j,j∈G1∨j∈G2→j≠l:=by
        intro j hj e;subst e;have h3:([]++(G1++([j]++G2))).count j≤1:=List.nodup_iff_count.1 r.nodup j;simp only [List.count_append,List.count_cons,List.count_nil,beq_self_eq_true,if_true] at h3;rcases hj with h | h <;> (have:=List.count_pos_iff.2 h;omega)
       have keep:∀ (o':O) j ob,(P j∨j∈G1∨j∈G2)→H.get j=some ob→(H.put l o').get j=some ob:=by
        intro o' j ob hj e;rw [Heap.get_put_ne]
        ·exact e
        ·rcases hj with hj | hj
         ·intro e2;exact r.apart l hll (e2 ▸ hj)
         ·exact hne j hj
       have o2:OL P (H.put l (.cells false (over wz c w.cells))) μ [.cell l] [.cell (overD es c cs)] (l::[]):=
        .cell (get_put_same (r.lt l hll) _) (r2.keep fun j ob hj e=>keep _ j ob (hj.imp id fun h=>by simp at h) e) .nil
       have o3:=put P (H.put l (.cells false (over wz c w.cells))) _ _ _ (fun l h=>h) o2 (fun j ob hj e=>keep _ j ob hj e)
       have hset:μ.set k (.cell l)=μ:=by
        apply List.ext_getElem?;intro i
        by_cases hi:k=i
        ·subst hi;rw [List.getElem?_set_self (get_lt hx),hx]
        ·rw [List.getElem?_set_ne hi]
       rw [hset] at o3;refine ⟨l,c,H.put l (.cells false (over wz c w.cells)),μ,_,rfl,?_,r.upd (X':=[]) hll _ (GoesL.refl μ) o3 (fun a=>?_),GoesL.refl μ⟩
       ·have hcl2:w.cells.length=m':=by omega
        simp only [storeVar,hsz,hcl2,Nat.beq_refl,cond_true];rw [putCells_eq g' (by omega) q2]
       ·simp only [List.count_append,List.count_cons,List.count_nil];omega
      ·cases h
     ·cases h
   | _=>cases h
  ·cases h
 ·cases h
end Go.Am.Vm

namespace Go.Am.Vm
open Go.Am
variable {T:Tab} {P P':Nat→Prop} {H H':Heap} {μ μ':List Hd} {ds es cs:List D} {vs ws us:List V} {F G X K F' X':List Nat} {d:D} {v:V} {μ0 μ1 hs gs:List Hd} {obs ots so':List Ob} {ob:Ob}
 {g:Gh} {st:St} {a:A}
theorem chunk {s:Nat}:∀ {n:Nat} {ws:List V},ws.length=n * s→∃ rs:List (List V),rs.flatten=ws∧rs.length=n∧∀ r,r∈rs→r.length=s
 | 0,ws,h=>⟨[],by simp at h;simp [h],rfl,by simp⟩
 | n+1,ws,h=>by
   have e:(n+1) * s=s+n * s:=by rw [Nat.add_mul];omega
   obtain ⟨rs,h1,h2,h3⟩:=chunk (s:=s) (n:=n) (ws:=ws.drop s) (by rw [List.length_drop];omega);refine ⟨ws.take s::rs,by rw [List.flatten_cons,h1,List.take_append_drop],by simp [h2],?_⟩;intro r hr;rcases List.mem_cons.1 hr with rfl | hr
   ·rw [List.length_take];omega
   ·exact h3 r hr
theorem Rl.grow (r:Rl g st a H P μ F X) {Q:Nat→Prop} (hx:ExtB Q H H') (hQ:∀ l,Q l→l∈X++F) (hgl:GoesL μ μ') (ho:OL P H' μ' μ' so' F')
  (m:∀ j,j∈X'++F'→j∈X++F∨(H.n≤j∧j<H'.n)) (hnd:(X'++F').Nodup):Rl g ⟨st.tm,so',st.n⟩ a H' P μ' F' X':=by
 refine { wf:=hx.wf,nt:=r.nt,nd:=r.nd.to (fun j u e _ hj=>⟨hx.get _ _ (fun q=>hj (hQ j q)) e,u⟩) (fun l h=>.inl h) (fun l h=>(m l h).imp id (·.1)),tms:=fun t=>((r.tms t).goes hgl).keep fun j o' hj e=>?_,obs:=ho,nodup:=hnd,apart:=?_,old:=?_,lt:=?_,p1:=r.p1,p2:=r.p2,pl:=fun j h=>(r.pl j h).elim fun o e=>⟨o,hx.get _ _ (fun q=>r.apart j (hQ j q) h) e⟩,ext:=?_,gl:=r.gl.trans hgl }
 ·rcases hj with hj | hj
  ·exact hx.get _ _ (fun q=>r.apart j (hQ j q) hj) e
  ·cases hj
 ·intro j h p;rcases m j h with h | h
  ·exact r.apart _ h p
  ·have:=r.plt _ p;omega
 ·intro j h;rcases m j h with h | h
  ·exact r.old _ h
  ·exact .inr (Nat.le_trans r.ext.n h.1)
 ·intro j h;rcases m j h with h | h
  ·exact Nat.lt_of_lt_of_le (r.lt j h) hx.n
  ·exact h.2
 ·exact r.ext.trans' hx fun l q=>r.old l (hQ l q)
def nfR:List (List D)→Bool
 | []=>true
 | e::es=>nfL e && nfR es
theorem nfL_append:∀ (a b:List D),nfL (a++b)=(nfL a && nfL b)
 | [],b=>by simp [Vm.nfL]
 | d::a,b=>by simp [Vm.nfL,nfL_append a b,Bool.and_assoc]
theorem nfR_flatten:∀ es:List (List D),nfL es.flatten=nfR es
 | []=>rfl
 | e::es=>by simp [nfL_append,nfR,nfR_flatten es]
theorem nfR_map {α:Type} {f:α→List D} (h:∀ x,nfL (f x)=true):∀ xs:List α,nfR (xs.map f)=true
 | []=>rfl
 | x::xs=>by simp [nfR,h x,nfR_map h xs]
def appRows (so:List Ob) (s:Nat):D→Option (List (List D)×List Ob)
 | .imm s' es=>if s'=s then some (es,so) else none
 | .own k n=>match so[k]? with
   | some (.sl s' es)=>if es.length=n∧s'=s∧nlR es=true then (if nfR es then some (es,so) else some (es,so.set k .dead)) else none
   | _=>none
 | .atom .nilSlice=>some ([],so)
 | _=>none
theorem Rl.appRowsOk (r:Rl g st a H P μ F []) {s:Nat} {y:D} {fs:List (List D)} {w:V} (h:appRows st.so s y=some (fs,so')) (hy:RL P H μ [y] [w] []) :
  ∃ μ1 F1 K rows,Rl g ⟨st.tm,so',st.n⟩ a H P μ1 F1 K∧GoesL μ μ1∧Sl H w s rows∧RL P H [] fs.flatten rows.flatten K∧rows.length=fs.length∧(∀ f,f∈fs→f.length=s)∧(∀ f,f∈rows→f.all V.one=true):=by
 have all_rows:∀ {rows:List (List V)},rows.flatten.all V.one=true→∀ f,f∈rows→f.all V.one=true:=by
  intro rows h f hf;rw [List.all_eq_true] at h ⊢;exact fun x hx=>h x (List.mem_flatten.2 ⟨f,hf,hx⟩)
 cases y with
 | imm s' es =>
   simp only [appRows] at h;split at h
   ·rename_i e;subst e;cases h;rcases hy.immInv with ⟨_,⟨rfl,rfl⟩ | ⟨l,o,q,ro,cs,wz,rfl,p,g',t,r',el,u1,c⟩⟩
    ·exact ⟨μ,F,[],[],r,GoesL.refl μ,Sl.nil _ _,.nil,rfl,by simp,by simp⟩
    ·have hl:=r'.len;rw [dflatten_len el] at hl;obtain ⟨rs,h1,h2,h3⟩:=chunk hl.symm;refine ⟨μ,F,[],rs,r,GoesL.refl μ,⟨h3,.inr ⟨l,o,q,ro,cs,by rw [h2],g',by rw [h2,h1];exact t,fun m hm=>by rw [h2];exact c m hm⟩⟩,by rw [h1];exact r',h2,el,all_rows (by rw [h1];exact u1)⟩
   ·cases h
 | own k n =>
   simp only [appRows] at h;split at h
   ·rename_i s' es hk;split at h
    ·rename_i hn;obtain ⟨hn,rfl,hnl⟩:=hn;obtain ⟨x,G1,Gk,G2,hx,rfl,o1,put⟩:=r.obs.at hk;obtain ⟨_,y',hy',hc⟩:=hy.ownInv;rw [hx] at hy';cases hy';split at h
     ·rename_i hnf
      cases h
      rcases o1.slInv with ⟨rfl,rfl,rfl⟩ | ⟨l,q,pre,wz,rest,F',rfl,rfl,g',r',el,u1,cq⟩
      ·rw [(hc _ _ _ rfl).2 (by simpa using hn.symm)];exact ⟨μ,_,[],[],r,GoesL.refl μ,Sl.nil _ _,.nil,rfl,by simp,by simp⟩
      ·rw [(hc _ _ _ rfl).2 hn.symm];have hl:=r'.len;rw [dflatten_len el] at hl;obtain ⟨rs,h1,h2,h3⟩:=chunk hl.symm;have:=r'.nf (by rw [nfR_flatten];exact hnf);subst this;refine ⟨μ,_,[],rs,r,GoesL.refl μ,⟨h3,.inr ⟨l,pre.length,q,false,_,by rw [h2],g',by rw [h2,h1];exact take?_pre _ _ _ hl.symm,fun m hm=>by rw [h2];exact (cq m hm).1⟩⟩,by rw [h1];exact r'.nl (by rw [nlR_flatten];exact hnl),h2,el,all_rows (by rw [h1];exact u1)⟩
     ·cases h
      obtain ⟨μ1,F1,K,r1,q1,g1⟩:=r.give hk hnl (v:=w) (by rw [hn];exact hy)
      cases q1 with
      | freshNil h0 =>
        obtain ⟨_,rfl⟩:=h0.nil_inv;exact ⟨μ1,F1,[],[],by simpa using r1,g1,Sl.nil _ _,.nil,rfl,by simp,by simp⟩
      | @fresh _ l s q pre wz rest es ds vs F' G g' r' el u1 cq h0 =>
        obtain ⟨_,rfl⟩:=h0.nil_inv;have hl:=r'.len;rw [dflatten_len el] at hl;obtain ⟨rs,h1,h2,h3⟩:=chunk hl.symm;refine ⟨μ1,F1,F',rs,?_,g1,⟨h3,.inr ⟨l,pre.length,q,false,_,by rw [h2],g',by rw [h2,h1];exact take?_pre _ _ _ hl.symm,fun m hm=>by rw [h2];exact (cq m hm).1⟩⟩,by rw [h1];exact r',h2,el,all_rows (by rw [h1];exact u1)⟩;have r2:Rl g ⟨st.tm,st.so.set k .dead,st.n⟩ a H P μ1 F1 ([l]++F'):=by simpa using r1
        exact r2.dropX (X':=F')
    ·cases h
   ·cases h
 | atom w' =>
   cases w' with
   | nilSlice =>
     cases h
     rw [hy.atomInv.2];exact ⟨μ,F,[],[],r,GoesL.refl μ,Sl.nil _ _,.nil,rfl,by simp,by simp⟩
   | _=>cases h
 | _=>cases h
def vAppend (T:Tab) (so:List Ob) (t0 t1:TypeId) (x y:D):Option (D×List Ob):=
 match appOk T t0 t1 with
 | some (s,b)=>match appRows so s y with
   | some (fs,so1)=>match x with
     | .own k n=>match so1[k]? with
       | some (.sl s' es)=>if s'=s∧es.length=n∧n+fs.length<17592186044416∧(n+fs.length) * b<17592186044416 then some (.own k (n+fs.length),so1.set k (.sl s (es++fs))) else none
       | _=>none
     | .atom .nilSlice=>if fs.length<17592186044416∧fs.length * b<17592186044416 then some (.own so1.length fs.length,so1++[.sl s fs]) else none
     | _=>none
   | none=>none
 | none=>none
theorem RL.own1 {k n:Nat} {h:Hd} (hk:μ[k]?=some h) (hc:∀ w m s,h=.sl w m s→n≤m∧(n=m→v=w)):RL P H μ [.own k n] [v] []:=.own hk hc .nil
theorem more {Q:Nat→Prop} {t0 t1:TypeId} {s b:Nat} (wf:H.WF) (ha:appOk T t0 t1=some (s,b)) {w v0:V} {rows rows0:List (List V)} {es fs:List (List D)} {F0 K:List Nat} (sl:Sl H w s rows) (rr:RL P H [] fs.flatten rows.flatten K)
  (rl:rows.length=fs.length) (rs:∀ f,f∈fs→f.length=s) (rone:∀ f,f∈rows→f.all V.one=true)
  (m0:Mine 0 H v0 s rows0) {μq:List Hd} (q0:RL P H μq es.flatten rows0.flatten F0) (el:∀ e,e∈es→e.length=s) (hl0:rows0.length=es.length) (one0:rows0.flatten.all V.one=true)
  (b1:es.length+fs.length<17592186044416) (b2:(es.length+fs.length) * b<17592186044416) (hne:∀ l,(P l∨l∈F0∨l∈K)→¬ Of v0 l) :
  ∃ v' H' L,append T H t0 t1 v0 w=some (v',H')∧ExtB (Of v0) H H'∧(L=[]∨∃ l',L=l'::(F0++K)∧(Of v0 l'∨H.n≤l')∧l'<H'.n)∧(fs=[]→v'=v0) ∧
          ∀ (ν:List Hd),GoesL μq ν→OL P H' ν [.sl v' (es++fs).length s] [.sl s (es++fs)] L:=by
 obtain ⟨v',H',e1,m1,hx1,hof⟩:=append_own m0 wf (Nat.zero_le _) ha sl rone (by rw [hl0,rl];exact b1) (by rw [hl0,rl];exact b2);have elen:(rows0++rows).length=(es++fs).length:=by simp [hl0,rl]
 have hsame:fs=[]→v'=v0:=by
  intro hf;subst hf;have h0:rows=[]:=List.length_eq_zero_iff.1 (by simpa using rl);subst h0;have:=append_eq ha sl (x:=v0) (H:=H);rw [this] at e1;rcases m0.2 with ⟨rfl,rfl⟩ | ⟨l,q,pre,rest,rfl,_⟩
  ·simp at e1;exact e1.1.symm
  ·simp only [List.length_nil,Nat.add_zero,true_and,if_true] at e1;split at e1
   ·cases e1;rfl
   ·cases e1
 rcases id m1.2 with ⟨rfl,hnil⟩ | ⟨l',q,pre,rest,rfl,h2,h3,h4⟩
 ·have hz:es++fs=[]:=by
   have:=congrArg List.length hnil;rw [elen] at this;exact List.length_eq_zero_iff.1 this
  refine ⟨.nilSlice,H',[],e1,hx1,.inl rfl,hsame,fun ν hν=>?_⟩;rw [hz];exact .slNil .nil
 ·refine ⟨_,H',l'::(F0++K),e1,hx1,.inr ⟨l',rfl,hof l' rfl,Heap.lt h3⟩,hsame,fun ν hν=>?_⟩;rw [elen];have rr2:RL P H ν (es++fs).flatten (rows0++rows).flatten (F0++K):=by rw [List.flatten_append,List.flatten_append];exact (q0.goes hν).app rr.any
  have rr3:RL P H' ν (es++fs).flatten (rows0++rows).flatten (F0++K):=rr2.keep fun l o hl e=>hx1.get l o (hne l (by
   rcases hl with h | h
   ·exact .inl h
   ·rw [List.mem_append] at h;exact .inr h)) e
  have rone2:rows.flatten.all V.one=true:=all_flatten rone
  have:=OL.sl (μ0:=ν) (hs:=[]) (obs:=[]) (G:=[]) h3 rr3 (fun e he=>(List.mem_append.1 he).elim (el e) (rs e))
   (by rw [List.flatten_append,List.all_append,one0,rone2];rfl) (fun m hm=>by rw [← elen];exact h4 m hm) .nil
  simpa using this
theorem Rl.appendOk (r:Rl g st a H P μ F []) {t0 t1:TypeId} {x y d:D} {u w:V} (h:vAppend T st.so t0 t1 x y=some (d,so')) (hx:RL P H μ [x] [u] []) (hy:RL P H μ [y] [w] []) :
  ∃ v H' μ' F',append T H t0 t1 u w=some (v,H')∧Rl g ⟨st.tm,so',st.n⟩ a H' P μ' F' []∧RL P H' μ' [d] [v] []:=by
 simp only [vAppend] at h;split at h
 ·rename_i s b ha;split at h
  ·rename_i fs so1 hr;obtain ⟨μ1,F1,K,rows,r1,g1,sl,rr,rl,rs,rone⟩:=r.appRowsOk hr hy;have wf:=r.wf;split at h
   ·rename_i k n;split at h
    ·rename_i s' es hk;split at h
     ·rename_i hcond;obtain ⟨rfl,hn,b1,b2⟩:=hcond
      cases h
      subst hn;obtain ⟨hd,G1,Gk,G2,hhd,rfl,o1,put⟩:=r1.obs.at hk;obtain ⟨_,y',hy',hc⟩:=(hx.goes g1).ownInv;rw [hhd] at hy';cases hy';have nd:=List.nodup_iff_count.1 r1.nodup
      have nd1:∀ j,K.count j+(G1.count j+(Gk.count j+G2.count j))≤1:=fun j=>by
       have:=nd j;simp only [List.count_append] at this;exact this
      have ex:∃ rows0 F0,Mine 0 H u s' rows0∧RL P H μ1 es.flatten rows0.flatten F0∧(∀ e,e∈es→e.length=s')∧rows0.length=es.length∧rows0.flatten.all V.one=true∧hd=.sl u es.length s' ∧
        ((∀ l,¬ Of u l)∧F0=[]∧Gk=[]∨∃ l,Gk=l::F0∧∀ j,Of u j↔j=l):=by
       rcases o1.slInv with ⟨rfl,rfl,rfl⟩ | ⟨l,q,pre,wz,rest,F',rfl,rfl,g',r',el,u1,cq⟩
       ·rw [(hc _ _ _ rfl).2 rfl];exact ⟨[],[],Mine.nil _ _ _,.nil,by simp,rfl,rfl,rfl,.inl ⟨fun l h=>of_nil h,rfl,rfl⟩⟩
       ·rw [(hc _ _ _ rfl).2 rfl];have hl:=r'.len;rw [dflatten_len el] at hl;obtain ⟨rs0,h1,h2,h3⟩:=chunk hl.symm;refine ⟨rs0,F',⟨h3,.inr ⟨l,q,pre,rest,by rw [h2],Nat.zero_le _,by rw [h1];exact g',fun m hm=>by rw [h2];exact cq m hm⟩⟩,by rw [h1];exact r',el,h2,by rw [h1];exact u1,rfl,.inr ⟨l,rfl,fun j=>?_⟩⟩;rw [of_slice];exact eq_comm
      obtain ⟨rows0,F0,m0,q0,el,hl0,one0,rfl,hg⟩:=ex;have cnt:∀ {j:Nat} {A:List Nat},j∈A→0<A.count j:=fun h=>List.count_pos_iff.2 h
      have hQ:∀ l,Of u l→l∈K++(G1++(Gk++G2)):=by
       intro l hl;rcases hg with ⟨h2,_⟩ | ⟨l0,rfl,h2⟩
       ·exact (h2 _ hl).elim
       ·rw [(h2 _).1 hl];simp
      have hoff:∀ j,Of u j→K.count j=0∧G1.count j=0∧G2.count j=0∧F0.count j=0:=by
       intro j hof;rcases hg with ⟨h2,_⟩ | ⟨l,rfl,h2⟩
       ·exact (h2 _ hof).elim
       ·obtain rfl:=(h2 _).1 hof;have:=nd1 j;simp only [List.count_cons,beq_self_eq_true,if_true] at this;omega
      have hne:∀ l,(P l∨l∈F0∨l∈K)→¬ Of u l:=by
       intro j hj hof;obtain ⟨h1,h2,h3,h4⟩:=hoff j hof;rcases hj with h | h | h
       ·exact r1.apart j (hQ j hof) h
       ·have:=cnt h;omega
       ·have:=cnt h;omega
      obtain ⟨v',H',L,e1,hx1,hL,hsame,ol⟩:=more (Q:=fun _=>False) wf ha sl rr rl rs rone m0 q0 el hl0 one0 b1 b2 hne
      have gset:GoesL μ1 (μ1.set k (.sl v' (es++fs).length s')):=by
       refine GoesL.set hhd ⟨fun w m z e=>?_,fun l e=>by cases e⟩
       cases e
       by_cases hf:fs=[]
       ·left;rw [hsame hf,hf];simp
       ·right
        refine ⟨_,_,rfl,?_⟩;have:=List.length_pos_iff.2 hf;simp;omega
      have o3:=put P H' _ _ L (fun l h=>h) (ol μ1 (GoesL.refl μ1)) (fun j o hj e=>hx1.get j o (fun hof=>by
       obtain ⟨h1,h2,h3,h4⟩:=hoff j hof;rcases hj with h | h | h
       ·exact r1.apart j (hQ j hof) h
       ·have:=cnt h;omega
       ·have:=cnt h;omega) e)
      have o4:=o3.goes gset;have hlen:(es++fs).length=es.length+fs.length:=List.length_append;refine ⟨v',H',_,_,e1,r1.grow (X':=[]) hx1 hQ gset o4 ?_ ?_,RL.own1 (h:=.sl v' (es++fs).length s') (by rw [List.getElem?_set_self (get_lt hhd)]) (fun w m z e=>by cases e;exact ⟨by omega,fun _=>rfl⟩)⟩
      ·intro j hj;simp only [List.nil_append,List.mem_append] at hj ⊢;rcases hj with h | h | h
       ·simp [h]
       ·rcases hL with rfl | ⟨l',rfl,h1,h2⟩
        ·cases h
        ·simp only [List.mem_cons,List.mem_append] at h;rcases h with rfl | h | h
         ·rcases h1 with h1 | h1
          ·left;simpa using hQ _ h1
          ·exact .inr ⟨h1,h2⟩
         ·left
          rcases hg with ⟨_,rfl,_⟩ | ⟨l,rfl,_⟩
          ·cases h
          ·simp [h]
         ·simp [h]
       ·simp [h]
      ·rw [List.nodup_iff_count];intro j;have n1:=nd1 j
       have hF0:F0.count j≤Gk.count j:=by
        rcases hg with ⟨_,rfl,rfl⟩ | ⟨l,rfl,_⟩
        ·exact Nat.le_refl _
        ·rw [List.count_cons];omega
       rcases hL with rfl | ⟨l',rfl,h1,h2⟩
       ·simp only [List.nil_append,List.count_append];omega
       ·simp only [List.nil_append,List.count_append,List.count_cons]
        by_cases hj:l'=j
        ·subst hj;simp only [beq_self_eq_true,if_true];rcases h1 with h1 | h1
         ·obtain ⟨a1,a2,a3,a4⟩:=hoff _ h1;omega
         ·have:¬ l'∈K++(G1++(Gk++G2)):=fun h=>by have:=r1.lt _ h;omega
          have:=List.count_eq_zero.2 this;simp only [List.count_append] at this;omega
        ·simp only [beq_iff_eq,hj,if_false];omega
     ·cases h
    ·cases h
   ·split at h
    ·rename_i hcond;obtain ⟨b1,b2⟩:=hcond
     cases h
     rw [hx.atomInv.2];obtain ⟨v',H',L,e1,hx1,hL,hsame,ol⟩:=more (Q:=fun _=>False) wf ha sl rr rl rs rone (Mine.nil 0 H s) (es:=[]) (F0:=[]) .nil (by simp) rfl rfl (by simpa using b1) (by simpa using b2) (fun l _ h=>of_nil h);have gset:=GoesL.app μ1 [.sl v' ([]++fs).length s];have o4:=((r1.obs.keep (H':=H') fun j o hj e=>hx1.get j o of_nil e).goes gset).app (ol _ gset);refine ⟨v',H',_,_,e1,r1.grow (X':=[]) hx1 (fun l h=>(of_nil h).elim) gset o4 ?_ ?_,RL.own1 (h:=.sl v' ([]++fs).length s) (by rw [← r1.obs.len,List.getElem?_append_right (Nat.le_refl _)];simp) (fun w m z e=>by cases e;exact ⟨by simp,fun _=>rfl⟩)⟩
     ·intro j hj;simp only [List.nil_append,List.mem_append] at hj ⊢;rcases hj with h | h
      ·simp [h]
      ·rcases hL with rfl | ⟨l',rfl,h1,h2⟩
       ·cases h
       ·simp only [List.nil_append,List.mem_cons] at h;rcases h with rfl | h
        ·rcases h1 with h1 | h1
         ·exact (of_nil h1).elim
         ·exact .inr ⟨h1,h2⟩
        ·simp [h]
     ·rw [List.nodup_iff_count];intro j;have n1:=List.nodup_iff_count.1 r1.nodup j;simp only [List.count_append] at n1;rcases hL with rfl | ⟨l',rfl,h1,h2⟩
      ·simp only [List.nil_append,List.append_nil];omega
      ·simp only [List.nil_append,List.count_append,List.count_cons]
       by_cases hj:l'=j
       ·subst hj;simp only [beq_self_eq_true,if_true];rcases h1 with h1 | h1
        ·exact (of_nil h1).elim
        ·have:¬ l'∈K++F1:=fun h=>by have:=r1.lt _ h;omega
         have:=List.count_eq_zero.2 this;simp only [List.count_append] at this;omega
       ·simp only [beq_iff_eq,hj,if_false];omega
    ·cases h
   ·cases h
  ·cases h
 ·cases h
end Go.Am.Vm
