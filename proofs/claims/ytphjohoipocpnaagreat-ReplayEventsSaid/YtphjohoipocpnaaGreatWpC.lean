import Derived.Test.YtphjohoipocpnaaGreatWpB
set_option linter.unusedSimpArgs false
set_option linter.unusedVariables false
/- Slices of slices, of which their holder alone holds each. No conditions. -/
namespace Go.Am
variable {T:Tab} {H H':Heap}
def SlG (H:Heap) (v:V) (rows:List (List (List V))):Prop:=
 ∃ vs:List V,Sl H v 1 (vs.map fun u=>[u])∧vs.length=rows.length∧∀ i (h1:i < vs.length) (h2:i < rows.length),Sl H vs[i] 1 rows[i]
def MineG (n:Nat) (H:Heap) (v:V) (rows:List (List (List V))):Prop:=
 ∃ vs:List V,Mine n H v 1 (vs.map fun u=>[u])∧vs.length=rows.length∧(∀ i (h1:i < vs.length) (h2:i < rows.length),Mine n H vs[i] 1 rows[i]) ∧
   (∀ i j (hi:i < vs.length) (hj:j < vs.length) m,i ≠ j→Of vs[i] m→¬ Of vs[j] m)∧(∀ i (hi:i < vs.length) m,Of vs[i] m→¬ Of v m)
variable {v:V} {rows:List (List (List V))} {n:Nat}
theorem MineG.sl (h:MineG n H v rows):SlG H v rows:=let ⟨vs,a,b,c,_⟩:=h;⟨vs,a.sl,b,fun i h1 h2=>(c i h1 h2).sl⟩
theorem SlG.mono (h:SlG H v rows) (hx:Ext H H'):SlG H' v rows:=let ⟨vs,a,b,c⟩:=h;⟨vs,a.mono hx,b,fun i h1 h2=>(c i h1 h2).mono hx⟩
theorem MineG.mono (h:MineG n H v rows) (hx:Ext H H'):MineG n H' v rows:=let ⟨vs,a,b,c,d⟩:=h;⟨vs,a.mono hx,b,fun i h1 h2=>(c i h1 h2).mono hx,d⟩
theorem MineG.ext {P:Nat→Prop} (h:MineG n H v rows) (hx:ExtB P H H') (hp:∀ m,n≤m→m < H.n→¬ P m):MineG n H' v rows:=
 let ⟨vs,a,b,c,d⟩:=h
 ⟨vs,a.ext hx fun l hl=>hp l (a.ge hl) (a.lt hl),b,fun i h1 h2=>(c i h1 h2).ext hx fun l hl=>hp l ((c i h1 h2).ge hl) ((c i h1 h2).lt hl),d⟩
theorem MineG.lower {m:Nat} (h:MineG n H v rows) (hm:m≤n):MineG m H v rows:=let ⟨vs,a,b,c,d⟩:=h;⟨vs,a.lower hm,b,fun i h1 h2=>(c i h1 h2).lower hm,d⟩
theorem SlG.len (h:SlG H v rows):lenS v=some rows.length:=by
 obtain ⟨vs,a,b,_⟩:=h
 rw [a.len,List.length_map,b]
theorem SlG.one (h:SlG H v rows):v.one=true:=let ⟨_,a,_⟩:=h;a.one
theorem SlG.idx (h:SlG H v rows) (t:TypeId) (ht:elemSize T t=some 1) (k:IntKind) (j:Nat) (hj:j < rows.length):idxP T t v (.int k (j:Int))=some (ptrAt v j):=by
 obtain ⟨vs,a,b,_⟩:=h
 exact a.idx t ht k j (by simp;omega)
theorem SlG.idxI (h:SlG H v rows) (t:TypeId) (ht:elemSize T t=some 1) (k:IntKind) (n:Int) (h0:0≤n) (hj:n < rows.length):idxP T t v (.int k n)=some (ptrAt v n.toNat):=by
 obtain ⟨vs,a,b,_⟩:=h
 exact a.idxI t ht k n h0 (by simp;omega)
theorem SlG.row (h:SlG H v rows) (t:TypeId) (ht:isAgg? T t=some false) (j:Nat) (hj:j < rows.length):∃ u,(∀ H',Ext H H'→loadP T H' t (ptrAt v j)=some u)∧Sl H u 1 rows[j]:=by
 obtain ⟨vs,a,b,c⟩:=h
 have hv:j < vs.length:=by omega
 refine ⟨vs[j],fun H' hx=>?_,c j hv hj⟩
 rw [(a.mono hx).load1 t ht j (by simpa using hv)]
 simp
theorem MineG.row2 {H0:Heap} (h:MineG n H0 v rows) (hx0:Ext H0 H) (t:TypeId) (ht:isAgg? T t=some false) (hs:sizeN T t=some 1) (j:Nat) (hj:j < rows.length) :
  ∃ u,(∀ H',Ext H0 H'→loadP T H' t (ptrAt v j)=some u)∧Mine n H0 u 1 rows[j]∧Mine n H u 1 rows[j]∧(∀ m,Of u m→¬ Of v m)∧(∀ H',ExtB (Of u) H H'→loadP T H' t (ptrAt v j)=some u) ∧
    ∀ (H2:Heap) (u':V) (es:List (List V)),ExtB (Of u) H H2→Mine n H2 u' 1 es→(∀ m,Of u' m→Of u m∨H.n≤m) →
      ∃ H3,storeP T H2 t (ptrAt v j) u'=some H3∧MineG n H3 v (rows.set j es)∧ExtB (Of v) H2 H3∧H3.n=H2.n:=by
 obtain ⟨vs,a,b,c,d,e⟩:=h
 have hv:j < vs.length:=by omega
 have c0:=c j hv hj
 have l0:∀ H',Ext H0 H'→loadP T H' t (ptrAt v j)=some vs[j]:=fun H' hx=>by
  rw [(a.mono hx).sl.load1 t ht j (by simpa using hv)]
  simp
 replace a:=a.mono hx0
 replace c:∀ i (h1:i < vs.length) (h2:i < rows.length),Mine n H vs[i] 1 rows[i]:=fun i h1 h2=>(c i h1 h2).mono hx0
 refine ⟨vs[j],l0,c0,c j hv hj,fun m=>e j hv m,fun H' hx=>?_,?_⟩
 · rw [(a.ext hx fun l hl h2=>e j hv l h2 hl).sl.load1 t ht j (by simpa using hv)]
   simp
 intro H2 u' es hx hm hof
 have a2:Mine n H2 v 1 (vs.map fun u=>[u]):=a.ext hx fun l hl h2=>e j hv l h2 hl
 obtain ⟨H3,s1,s2,s3,s4⟩:=a2.store1 hx.wf hs (j:=j) (by simpa using hv) (x:=u') hm.sl.one
 have nv:∀ m,Of u' m→¬ Of v m:=fun m h1 h2=>by
  rcases hof m h1 with h3 | h3
  · exact e j hv m h3 h2
  · have:=a.lt h2;omega
 refine ⟨H3,s1,⟨vs.set j u',?_,by simp [b],?_,?_,?_⟩,s3,s4⟩
 · rw [List.map_set];exact s2
 · intro i h1 h2
   simp only [List.length_set] at h1 h2
   rw [List.getElem_set,List.getElem_set]
   by_cases hij:j=i
   · subst hij
     rw [if_pos rfl,if_pos rfl]
     exact hm.ext s3 fun l hl=>nv l hl
   · rw [if_neg hij,if_neg hij]
     refine ((c i h1 h2).ext hx fun l hl h3=>d j i hv h1 l hij h3 hl).ext s3 fun l hl h3=>?_
     exact e i h1 l hl h3
 · intro i k hi hk m hik h1 h2
   simp only [List.length_set] at hi hk
   rw [List.getElem_set] at h1 h2
   by_cases h3:j=i
   · subst h3
     rw [if_pos rfl] at h1
     rw [if_neg hik] at h2
     rcases hof m h1 with h4 | h4
     · exact d j k hv hk m hik h4 h2
     · have:=(c k hk (by omega)).lt h2;omega
   · rw [if_neg h3] at h1
     by_cases h5:j=k
     · subst h5
       rw [if_pos rfl] at h2
       rcases hof m h2 with h4 | h4
       · exact d i j hi hv m (fun e=>h3 e.symm) h1 h4
       · have:=(c i hi (by omega)).lt h1;omega
     · rw [if_neg h5] at h2
       exact d i k hi hk m hik h1 h2
 · intro i hi m h1
   simp only [List.length_set] at hi
   rw [List.getElem_set] at h1
   by_cases h3:j=i
   · rw [if_pos h3] at h1;exact nv m h1
   · rw [if_neg h3] at h1;exact e i hi m h1
theorem MineG.made {H:Heap} {k:Nat} (hm:Mine n H v 1 (List.replicate k [V.nilSlice])):MineG n H v (List.replicate k []):=by
 refine ⟨List.replicate k .nilSlice,by simpa using hm,by simp,fun i h1 h2=>?_,fun i j hi hj m _ h1=>?_,fun i hi m h1=>?_⟩
 · simp only [List.getElem_replicate];exact Mine.nil _ _ _
 · rw [List.getElem_replicate] at h1;exact absurd h1 of_nil
 · rw [List.getElem_replicate] at h1;exact absurd h1 of_nil
end Go.Am
