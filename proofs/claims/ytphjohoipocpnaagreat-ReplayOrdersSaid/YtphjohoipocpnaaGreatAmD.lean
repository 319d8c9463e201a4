import Derived.Test.YtphjohoipocpnaaGreatAmC
import Derived.RangeFuncNested
set_option linter.unusedSimpArgs false
set_option linter.unusedVariables false
/- One operation, all kinds. -/
namespace Go.Am
open Go
variable {P:Program} {T:Tab} {μ:Mu} {H:Heap} {w:World}
theorem op1_inv {a:A} {x:Operand} {k:V→OR} {r:OR} (e:op1 a x k=r) (hr:r≠.stuck):∃ v,a.eval x=some v∧k v=r:=by
 unfold op1 at e;split at e
 ·rename_i v hv;exact ⟨v,hv,e⟩
 ·exact absurd e.symm hr
def Made (P:Program) (μ:Mu) (H:Heap) (w:World) (s:Sem Next) (v:V) (H':Heap):Prop:=
 ∃ u w' μ',(s.run P w=.ok (.value u) w'∨(s.run P w=.ok .skip w'∧u=Go.undef))∧RV μ' v u∧Post μ H w μ' H' w'
theorem VGood.made {s:Sem Value} {v:V} {H':Heap} (h:VGood P μ H w s v H'):Made P μ H w (do pure (.value (← s))) v H':=by
 obtain ⟨u,w',μ',h1,h2,h3⟩:=h;exact ⟨u,w',μ',.inl (by simp [h1]),h2,h3⟩
theorem made_unit {s:Sem Unit} {H':Heap} (h:∃ w',s.run P w=.ok () w'∧Post μ H w μ H' w'):Made P μ H w (do s;pure .skip) undefV H':=by
 obtain ⟨w',h1,h2⟩:=h;exact ⟨Go.undef,w',μ,.inr ⟨by simp [h1],rfl⟩,RV.undef _,h2⟩
theorem made_same (h:Sim μ H w) {v:V} {u:Value} (hv:RV μ v u):Made P μ H w (pure (.value u)) v H:=⟨u,w,μ,.inl (by simp),hv,.refl h⟩
theorem ex_move (hT:TabOk P T) (h:Sim μ H w) {a:A} {x:Act} (ha:AR μ a x) {o:Oper} (y:Operand) (ho:o.op=.move y) {v:V} {H':Heap} (e:execOp T a H (.move y)=.val v H'):Made P μ H w (Go.execOp x.eval o) v H':=by
  have hx:Go.execOp x.eval o=(pure (.value (x.eval y)):Sem Next):=by unfold Go.execOp;rw [ho]
  simp only [Am.execOp] at e;rw [hx];obtain ⟨u,h1,e0⟩:=op1_inv e (by simp);replace e:=e0;clear e0;cases e;exact made_same h (ha.eval h1)
theorem ex_assign (hT:TabOk P T) (h:Sim μ H w) {a:A} {x:Act} (ha:AR μ a x) {o:Oper} (y:Operand) (ho:o.op=.assign y) {v:V} {H':Heap} (e:execOp T a H (.assign y)=.val v H'):Made P μ H w (Go.execOp x.eval o) v H':=by
  have hx:Go.execOp x.eval o=(pure (.value (x.eval y)):Sem Next):=by unfold Go.execOp;rw [ho]
  simp only [Am.execOp] at e;rw [hx];obtain ⟨u,h1,e0⟩:=op1_inv e (by simp);replace e:=e0;clear e0;cases e;exact made_same h (ha.eval h1)
theorem ex_pick (hT:TabOk P T) (h:Sim μ H w) {a:A} {x:Act} (ha:AR μ a x) {o:Oper} (c y z:Operand) (ho:o.op=.pick c y z) {v:V} {H':Heap} (e:execOp T a H (.pick c y z)=.val v H'):Made P μ H w (Go.execOp x.eval o) v H':=by
  have hx:Go.execOp x.eval o=(do pure (.value (if ← asBool (x.eval c) then x.eval y else x.eval z)):Sem Next):=by unfold Go.execOp;rw [ho]
  simp only [Am.execOp] at e;rw [hx];obtain ⟨u,h1,e0⟩:=op1_inv e (by simp);replace e:=e0;clear e0;have hu:=ha.eval h1;split at e
  ·obtain ⟨q,h2,e0⟩:=op1_inv e (by simp);replace e:=e0;clear e0;cases e;refine ⟨_,w,μ,.inl ?_,ha.eval h2,.refl h⟩;rw [hu.bool_inv];simp [asBool]
  ·obtain ⟨q,h2,e0⟩:=op1_inv e (by simp);replace e:=e0;clear e0;cases e;refine ⟨_,w,μ,.inl ?_,ha.eval h2,.refl h⟩;rw [hu.bool_inv];simp [asBool]
  ·cases e
theorem ex_alloc (hT:TabOk P T) (h:Sim μ H w) {a:A} {x:Act} (ha:AR μ a x) {o:Oper} (t:TypeId) (ho:o.op=.alloc t) {v:V} {H':Heap} (e:execOp T a H (.alloc t)=.val v H'):Made P μ H w (Go.execOp x.eval o) v H':=by
  have hx:Go.execOp x.eval o=(do pure (.value (← Instr.alloc t true (.tuple #[]))):Sem Next):=by unfold Go.execOp;rw [ho]
  simp only [Am.execOp] at e;rw [hx];split at e
  ·rename_i z hz;cases e;exact (good_alloc hT h hz).made
  ·cases e
theorem ex_box (hT:TabOk P T) (h:Sim μ H w) {a:A} {x:Act} (ha:AR μ a x) {o:Oper} (t:TypeId) (y:Operand) (ho:o.op=.box t y) {v:V} {H':Heap} (e:execOp T a H (.box t y)=.val v H'):Made P μ H w (Go.execOp x.eval o) v H':=by
  have hx:Go.execOp x.eval o=(do pure (.value (← Instr.box t (x.eval y))):Sem Next):=by unfold Go.execOp;rw [ho]
  simp only [Am.execOp] at e;rw [hx];obtain ⟨u,h1,e0⟩:=op1_inv e (by simp);replace e:=e0;clear e0;cases e;exact (good_box h (ha.eval h1)).made
theorem ex_build (hT:TabOk P T) (h:Sim μ H w) {a:A} {x:Act} (ha:AR μ a x) {o:Oper} (t:TypeId) (ps:Array (Nat×Operand)) (ho:o.op=.build t ps) {v:V} {H':Heap} (e:execOp T a H (.build t ps)=.val v H'):Made P μ H w (Go.execOp x.eval o) v H':=by
  have hx:Go.execOp x.eval o=(do pure (.value (← Instr.build t (ps.map fun p=>(p.1,x.eval p.2)))):Sem Next):=by unfold Go.execOp;rw [ho]
  simp only [Am.execOp] at e;rw [hx];split at e
  ·rename_i z qs fs hz hps hu
   cases hs:sizesOk T fs.toList with
   | false=>rw [hs] at e;cases e
   | true =>
     rw [hs] at e;obtain ⟨e0,hH⟩:=OR.ofV_val e;replace e:=e0;clear e0;subst hH;simp only [Option.map_eq_some_iff] at e;obtain ⟨r,e0,hr0⟩:=e;subst hr0;refine (good_build_struct (qs:=ps.map fun p=>(p.1,x.eval p.2)) hT h hz hu hs ?_ e0).made;simpa using ha.evalParts hps
  ·rename_i z qs n el hz hps hu;split at e
   ·rename_i s b hs;obtain ⟨e0,hH⟩:=OR.ofV_val e;replace e:=e0;clear e0;subst hH;simp only [Option.map_eq_some_iff] at e;obtain ⟨r,e0,hr0⟩:=e;subst hr0;refine (good_build_array (qs:=ps.map fun p=>(p.1,x.eval p.2)) hT h hz hu hs ?_ e0).made;simpa using ha.evalParts hps
   ·cases e
  ·cases e
theorem ex_buildSlice (hT:TabOk P T) (h:Sim μ H w) {a:A} {x:Act} (ha:AR μ a x) {o:Oper} (t:TypeId) (n:Nat) (ps:Array (Nat×Operand)) (ho:o.op=.buildSlice t n ps) {v:V} {H':Heap} (e:execOp T a H (.buildSlice t n ps)=.val v H'):Made P μ H w (Go.execOp x.eval o) v H':=by
  have hx:Go.execOp x.eval o=(do pure (.value (← Instr.buildSlice t n (ps.map fun p=>(p.1,x.eval p.2)))):Sem Next):=by unfold Go.execOp;rw [ho]
  simp only [Am.execOp] at e;rw [hx];split at e
  ·rename_i el hu;split at e
   ·rename_i s b z qs hs hz hps
    cases hc:(Nat.ble (n * s) 16777216 && Nat.beq z.length s) with
    | false=>rw [hc] at e;cases e
    | true =>
      rw [hc] at e;simp only [cond_true] at e;rw [Bool.and_eq_true,Nat.ble_eq,Nat.beq_eq] at hc;split at e
      ·rename_i cs hcs
       cases e
       have hq:PR μ qs (ps.map fun p=>(p.1,x.eval p.2)).toList:=by simpa using ha.evalParts hps
       obtain ⟨hc1,hc2⟩:=hc;have g:=good_buildSlice (P:=P) hT h hu hs hz hq hc1 hc2 hcs;exact g.made
      ·cases e
   ·cases e
  ·cases e
theorem ex_load (hT:TabOk P T) (h:Sim μ H w) {a:A} {x:Act} (ha:AR μ a x) {o:Oper} (t:TypeId) (y:Operand) (ho:o.op=.load t y) {v:V} {H':Heap} (e:execOp T a H (.load t y)=.val v H'):Made P μ H w (Go.execOp x.eval o) v H':=by
  have hx:Go.execOp x.eval o=(do pure (.value (← Instr.loadAt t (x.eval y))):Sem Next):=by unfold Go.execOp;rw [ho]
  simp only [Am.execOp] at e;rw [hx];obtain ⟨u,h1,e0⟩:=op1_inv e (by simp);replace e:=e0;clear e0;split at e
  ·obtain ⟨e0,hH⟩:=OR.ofV_val e;replace e:=e0;clear e0;subst hH;exact (good_load hT h (ha.eval h1) e).made
  ·cases e
theorem ex_store (hT:TabOk P T) (h:Sim μ H w) {a:A} {x:Act} (ha:AR μ a x) {o:Oper} (t:TypeId) (y z:Operand) (ho:o.op=.store t y z) {v:V} {H':Heap} (e:execOp T a H (.store t y z)=.val v H'):Made P μ H w (Go.execOp x.eval o) v H':=by
  have hx:Go.execOp x.eval o=(do Instr.storeAt t (x.eval y) (x.eval z);pure .skip:Sem Next):=by unfold Go.execOp;rw [ho]
  simp only [Am.execOp] at e;rw [hx];obtain ⟨u,h1,e0⟩:=op1_inv e (by simp);replace e:=e0;clear e0;split at e
  ·obtain ⟨u2,h2,e0⟩:=op1_inv e (by simp);replace e:=e0;clear e0;obtain ⟨e0,hH⟩:=OR.ofH_val e;replace e:=e0;clear e0;subst hH;exact made_unit (good_store hT h (ha.eval h1) (ha.eval h2) e)
  ·cases e
theorem ex_nilCheck (hT:TabOk P T) (h:Sim μ H w) {a:A} {x:Act} (ha:AR μ a x) {o:Oper} (y:Operand) (ho:o.op=.nilCheck y) {v:V} {H':Heap} (e:execOp T a H (.nilCheck y)=.val v H'):Made P μ H w (Go.execOp x.eval o) v H':=by
  simp only [Am.execOp] at e;obtain ⟨u,h1,e0⟩:=op1_inv e (by simp);replace e:=e0;clear e0;have hu:=ha.eval h1
  have key:u≠.nilPtr→u≠.nilIface→u≠.nilFunc→(∀ n b c,u=.func (.method n) b c→False)→v=u→H'=H→Made P μ H w (Go.execOp x.eval o) v H':=by
   intro n1 n2 n3 n4 hv hH;subst hv hH;refine ⟨x.eval y,w,μ,.inl ?_,hu,.refl h⟩;unfold Go.execOp;rw [ho];dsimp only;generalize x.eval y=q at hu
   cases hu <;> first | (exact absurd rfl n1) | (exact absurd rfl n2) | (exact absurd rfl n3) | rfl
  split at e
  ·cases e
  ·cases e
  ·cases e
  ·cases e;exact key (by simp) (by simp) (by simp) (by simp) rfl rfl
  ·cases e;exact key (by simp) (by simp) (by simp) (by simp) rfl rfl
  ·cases e
  ·rename_i g1 g2 g3 g4 g5 g6
   cases e
   exact key (fun hh=>g1 hh) (fun hh=>g2 hh) (fun hh=>g3 hh) (fun n b c hh=>g6 _ _ _ hh) rfl rfl
theorem ex_binOp (hT:TabOk P T) (h:Sim μ H w) {a:A} {x:Act} (ha:AR μ a x) {o:Oper} (op:BinOp) (t:TypeId) (y z:Operand) (yt:TypeId) (ho:o.op=.binOp op t y z yt) {v:V} {H':Heap} (e:execOp T a H (.binOp op t y z yt)=.val v H'):Made P μ H w (Go.execOp x.eval o) v H':=by
  have hx:Go.execOp x.eval o=(do pure (.value (← (do Go.eqGuard op t y z (x.eval y) (x.eval z);Go.binOp op t (x.eval y) (x.eval z)))):Sem Next):=by unfold Go.execOp;rw [ho]
  simp only [Am.execOp] at e;rw [hx];obtain ⟨u,h1,e0⟩:=op1_inv e (by simp);replace e:=e0;clear e0;obtain ⟨u2,h2,e0⟩:=op1_inv e (by simp);replace e:=e0;clear e0;obtain ⟨e0,hH⟩:=OR.ofV_val e;replace e:=e0;clear e0;subst hH;exact (good_binOp hT h (ha.eval h1) (ha.eval h2) e y z (fun h=>h)).made
theorem ex_unOp (hT:TabOk P T) (h:Sim μ H w) {a:A} {x:Act} (ha:AR μ a x) {o:Oper} (op:UnOp) (t:TypeId) (y:Operand) (ho:o.op=.unOp op t y) {v:V} {H':Heap} (e:execOp T a H (.unOp op t y)=.val v H'):Made P μ H w (Go.execOp x.eval o) v H':=by
  have hx:Go.execOp x.eval o=(do pure (.value (← Op.unary op (x.eval y))):Sem Next):=by unfold Go.execOp;rw [ho]
  simp only [Am.execOp] at e;rw [hx];obtain ⟨u,h1,e0⟩:=op1_inv e (by simp);replace e:=e0;clear e0;obtain ⟨e0,hH⟩:=OR.ofV_val e;replace e:=e0;clear e0;subst hH;exact (good_unOp h (ha.eval h1) e).made
theorem ex_convert (hT:TabOk P T) (h:Sim μ H w) {a:A} {x:Act} (ha:AR μ a x) {o:Oper} (s d:TypeId) (y:Operand) (ho:o.op=.convert s d y) {v:V} {H':Heap} (e:execOp T a H (.convert s d y)=.val v H'):Made P μ H w (Go.execOp x.eval o) v H':=by
  have hx:Go.execOp x.eval o=(do pure (.value (← Go.convert s d (x.eval y))):Sem Next):=by unfold Go.execOp;rw [ho]
  simp only [Am.execOp] at e;rw [hx];obtain ⟨u,h1,e0⟩:=op1_inv e (by simp);replace e:=e0;clear e0;exact (good_convert hT h (ha.eval h1) (OR.ofVH_val e)).made
theorem ex_makeInterface (hT:TabOk P T) (h:Sim μ H w) {a:A} {x:Act} (ha:AR μ a x) {o:Oper} (t:TypeId) (y:Operand) (ho:o.op=.makeInterface t y) {v:V} {H':Heap} (e:execOp T a H (.makeInterface t y)=.val v H'):Made P μ H w (Go.execOp x.eval o) v H':=by
  have hx:Go.execOp x.eval o=(do pure (.value (← Instr.makeInterface t (x.eval y))):Sem Next):=by unfold Go.execOp;rw [ho]
  simp only [Am.execOp] at e;rw [hx];obtain ⟨u,h1,e0⟩:=op1_inv e (by simp);replace e:=e0;clear e0;split at e
  ·cases e
  ·cases e
  ·rename_i d hn hd;cases e;exact (good_makeInterface hT h (ha.eval h1) hd (fun ms hm=>hn ms hm)).made
theorem ex_makeFunc (hT:TabOk P T) (h:Sim μ H w) {a:A} {x:Act} (ha:AR μ a x) {o:Oper} (fn:Fn) (first captured:Array Operand) (ho:o.op=.makeFunc fn first captured) {v:V} {H':Heap} (e:execOp T a H (.makeFunc fn first captured)=.val v H'):Made P μ H w (Go.execOp x.eval o) v H':=by
  have hx:Go.execOp x.eval o=(do pure (.value (← Instr.makeFunc fn (first.map x.eval) (captured.map x.eval))):Sem Next):=by unfold Go.execOp;rw [ho]
  simp only [Am.execOp] at e;split at e
  ·rename_i f us vs g1 g2
   cases e
   have r1:=ha.evals g1;have r2:=ha.evals g2;rw [hx];refine (VGood.same h (u:=.func (.func f) (first.map x.eval) (captured.map x.eval)) (by simp [Instr.makeFunc]) ?_).made;have:=RV.func (f:=f) r1 r2;rw [← Array.toList_map,← Array.toList_map] at this;exact this
  ·cases e
theorem ex_makeMap (hT:TabOk P T) (h:Sim μ H w) {a:A} {x:Act} (ha:AR μ a x) {o:Oper} (t:TypeId) (r:Option Operand) (ho:o.op=.makeMap t r) {v:V} {H':Heap} (e:execOp T a H (.makeMap t r)=.val v H'):Made P μ H w (Go.execOp x.eval o) v H':=by
  have hx:Go.execOp x.eval o=(do pure (.value (← Instr.makeMap t (r.map x.eval))):Sem Next):=by unfold Go.execOp;rw [ho]
  simp only [Am.execOp] at e
  cases r with
  | none=>simp only at e;cases e;rw [hx];exact (good_makeMap h t _ (.inl rfl)).made
  | some y =>
    simp only at e;obtain ⟨u,h1,e0⟩:=op1_inv e (by simp);replace e:=e0;clear e0;split at e
    ·rename_i k el j n hd
     cases e
     rw [hx];refine (good_makeMap h t _ (.inr ⟨k,el,j,n,hT.und _ _ hd,?_⟩)).made;simp [(ha.eval h1).int_inv]
    ·cases e
theorem ex_makeSlice (hT:TabOk P T) (h:Sim μ H w) {a:A} {x:Act} (ha:AR μ a x) {o:Oper} (t:TypeId) (y z:Operand) (ho:o.op=.makeSlice t y z) {v:V} {H':Heap} (e:execOp T a H (.makeSlice t y z)=.val v H'):Made P μ H w (Go.execOp x.eval o) v H':=by
  have hx:Go.execOp x.eval o=(do pure (.value (← Instr.makeSlice t (x.eval y) (x.eval z))):Sem Next):=by unfold Go.execOp;rw [ho]
  simp only [Am.execOp] at e;rw [hx];obtain ⟨u,h1,e0⟩:=op1_inv e (by simp);replace e:=e0;clear e0;obtain ⟨u2,h2,e0⟩:=op1_inv e (by simp);replace e:=e0;clear e0;split at e
  ·rename_i el n c hd hn hc;split at e
   ·rename_i s b zz hs hz
    cases hcc:(Nat.ble n c && Nat.blt (c * b) 17592186044416 && Nat.blt c 17592186044416 && Nat.beq zz.length s && Nat.blt 0 s) with
    | false=>rw [hcc] at e;cases e
    | true =>
      rw [hcc] at e
      cases e
      simp only [Bool.and_eq_true,Nat.ble_eq,Nat.blt_eq,Nat.beq_eq] at hcc;obtain ⟨⟨⟨⟨g1,g2⟩,g3⟩,g4⟩,g5⟩:=hcc;obtain ⟨k,rfl⟩:=natOf_eq hn;obtain ⟨k',rfl⟩:=natOf_eq hc;have:=good_makeSlice (P:=P) (k:=k) (k':=k') hT h hd hs hz g1 g2 g3 g4 g5;have r1:=(ha.eval h1).int_inv;have r2:=(ha.eval h2).int_inv;have hm:=this.made;rw [r1,r2];exact hm
   ·cases e
  ·cases e
theorem ex_slice (hT:TabOk P T) (h:Sim μ H w) {a:A} {x:Act} (ha:AR μ a x) {o:Oper} (t:TypeId) (y:Operand) (lo hi mx:Option Operand) (ho:o.op=.slice t y lo hi mx) {v:V} {H':Heap} (e:execOp T a H (.slice t y lo hi mx)=.val v H'):Made P μ H w (Go.execOp x.eval o) v H':=by
  have hx:Go.execOp x.eval o=(do pure (.value (← Instr.sliceAt t (x.eval y) (lo.map x.eval) (hi.map x.eval) (mx.map x.eval))):Sem Next):=by unfold Go.execOp;rw [ho]
  simp only [Am.execOp] at e;rw [hx];obtain ⟨u,h1,e0⟩:=op1_inv e (by simp);replace e:=e0;clear e0;split at e
  ·rename_i vlo vhi vmx g1 g2 g3;obtain ⟨e0,hH⟩:=OR.ofV_val e;replace e:=e0;clear e0;subst hH;exact (good_slice hT h (ha.eval h1) (ha.evalOpt g1) (ha.evalOpt g2) (ha.evalOpt g3) e).made
  ·cases e
theorem ex_fieldAddr (hT:TabOk P T) (h:Sim μ H w) {a:A} {x:Act} (ha:AR μ a x) {o:Oper} (t:TypeId) (y:Operand) (i:Nat) (ho:o.op=.fieldAddr t y i) {v:V} {H':Heap} (e:execOp T a H (.fieldAddr t y i)=.val v H'):Made P μ H w (Go.execOp x.eval o) v H':=by
  have hx:Go.execOp x.eval o=(do pure (.value (← Instr.fieldAt t (x.eval y) i)):Sem Next):=by unfold Go.execOp;rw [ho]
  simp only [Am.execOp] at e;rw [hx];obtain ⟨u,h1,e0⟩:=op1_inv e (by simp);replace e:=e0;clear e0;split at e
  ·split at e
   ·rename_i fs hfs;split at e
    ·rename_i f hf;split at e
     ·rename_i n b hs;simp only [cond_beq] at e;split at e
      ·cases e
      ·rename_i hn
       cases e
       refine (good_field_addr hT h (ha.eval h1) ?_ hf hs hn).made;unfold fieldsOf at hfs;split at hfs
       ·cases hfs;assumption
       ·cases hfs
     ·cases e
    ·cases e
   ·cases e
  ·cases e
theorem ex_field (hT:TabOk P T) (h:Sim μ H w) {a:A} {x:Act} (ha:AR μ a x) {o:Oper} (t:TypeId) (y:Operand) (i:Nat) (ho:o.op=.field t y i) {v:V} {H':Heap} (e:execOp T a H (.field t y i)=.val v H'):Made P μ H w (Go.execOp x.eval o) v H':=by
  have hx:Go.execOp x.eval o=(do pure (.value (← Instr.field t (x.eval y) i)):Sem Next):=by unfold Go.execOp;rw [ho]
  simp only [Am.execOp] at e;rw [hx];obtain ⟨u,h1,e0⟩:=op1_inv e (by simp);replace e:=e0;clear e0;split at e
  ·split at e
   ·rename_i fs hfs;split at e
    ·rename_i f hf;obtain ⟨e0,hH⟩:=OR.ofV_val e;replace e:=e0;clear e0;subst hH;refine (good_field hT h (ha.eval h1) ?_ hf e).made;unfold fieldsOf at hfs;split at hfs
     ·cases hfs;assumption
     ·cases hfs
    ·cases e
   ·cases e
  ·cases e
theorem ex_indexAddr (hT:TabOk P T) (h:Sim μ H w) {a:A} {x:Act} (ha:AR μ a x) {o:Oper} (t:TypeId) (y z:Operand) (ho:o.op=.indexAddr t y z) {v:V} {H':Heap} (e:execOp T a H (.indexAddr t y z)=.val v H'):Made P μ H w (Go.execOp x.eval o) v H':=by
  have hx:Go.execOp x.eval o=(do pure (.value (← Instr.indexAt t (x.eval y) (x.eval z))):Sem Next):=by unfold Go.execOp;rw [ho]
  simp only [Am.execOp] at e;rw [hx];obtain ⟨u,h1,e0⟩:=op1_inv e (by simp);replace e:=e0;clear e0;obtain ⟨u2,h2,e0⟩:=op1_inv e (by simp);replace e:=e0;clear e0;split at e
  ·rename_i el l o n s c j hd hj;split at e
   ·rename_i sz b hs
    cases hc:(Nat.beq sz s && Nat.blt j n) with
    | false=>rw [hc] at e;cases e
    | true =>
      rw [hc] at e
      cases e
      rw [Bool.and_eq_true,Nat.beq_eq,Nat.blt_eq] at hc;obtain ⟨rfl,hjn⟩:=hc;obtain ⟨k,rfl⟩:=natOf_eq hj;have hm:=(good_indexAddr_slice (P:=P) (k:=k) hT h (ha.eval h1) hd hs hjn).made;rw [(ha.eval h2).int_inv];exact hm
   ·cases e
  ·rename_i n el l o j hd hj;split at e
   ·rename_i sz b hs;simp only [cond_blt] at e;split at e
    ·rename_i hjn
     cases e
     obtain ⟨k,rfl⟩:=natOf_eq hj;have hm:=(good_indexAddr_array (P:=P) (k:=k) hT h (ha.eval h1) hd hs hjn).made;rw [(ha.eval h2).int_inv];exact hm
    ·cases e
   ·cases e
  ·cases e
theorem ex_index (hT:TabOk P T) (h:Sim μ H w) {a:A} {x:Act} (ha:AR μ a x) {o:Oper} (t:TypeId) (y z:Operand) (ho:o.op=.index t y z) {v:V} {H':Heap} (e:execOp T a H (.index t y z)=.val v H'):Made P μ H w (Go.execOp x.eval o) v H':=by
  have hx:Go.execOp x.eval o=(do pure (.value (← Instr.index t (x.eval y) (x.eval z))):Sem Next):=by unfold Go.execOp;rw [ho]
  simp only [Am.execOp] at e;rw [hx];obtain ⟨u,h1,e0⟩:=op1_inv e (by simp);replace e:=e0;clear e0;obtain ⟨u2,h2,e0⟩:=op1_inv e (by simp);replace e:=e0;clear e0;split at e
  ·rename_i s j hd hj;split at e
   ·rename_i b hb
    cases e
    obtain ⟨k,rfl⟩:=natOf_eq hj;have hm:=(good_index_str (P:=P) (k:=k) hT h (ha.eval h1) hd hb).made;rw [(ha.eval h2).int_inv];exact hm
   ·cases e
  ·rename_i n el cs j hd hj;split at e
   ·rename_i sz b hs;simp only [cond_blt] at e;split at e
    ·rename_i hjn;obtain ⟨e0,hH⟩:=OR.ofV_val e;replace e:=e0;clear e0;subst hH;obtain ⟨k,rfl⟩:=natOf_eq hj;have hm:=(good_index_array (P:=P) (k:=k) hT h (ha.eval h1) hd hs hjn e).made;rw [(ha.eval h2).int_inv];exact hm
    ·cases e
   ·cases e
  ·cases e
theorem ex_lookup (hT:TabOk P T) (h:Sim μ H w) {a:A} {x:Act} (ha:AR μ a x) {o:Oper} (t:TypeId) (y z:Operand) (ok:Bool) (ho:o.op=.lookup t y z ok) {v:V} {H':Heap} (e:execOp T a H (.lookup t y z ok)=.val v H'):Made P μ H w (Go.execOp x.eval o) v H':=by
  have hx:Go.execOp x.eval o=(do pure (.value (← Instr.lookup t (x.eval y) (x.eval z) ok)):Sem Next):=by unfold Go.execOp;rw [ho]
  simp only [Am.execOp] at e;rw [hx];obtain ⟨u,h1,e0⟩:=op1_inv e (by simp);replace e:=e0;clear e0;obtain ⟨u2,h2,e0⟩:=op1_inv e (by simp);replace e:=e0;clear e0;obtain ⟨e0,hH⟩:=OR.ofV_val e;replace e:=e0;clear e0;subst hH;exact (good_lookup hT h (ha.eval h1) (ha.eval h2) e).made
theorem ex_mapUpdate (hT:TabOk P T) (h:Sim μ H w) {a:A} {x:Act} (ha:AR μ a x) {o:Oper} (t:TypeId) (m k y:Operand) (ho:o.op=.mapUpdate t m k y) {v:V} {H':Heap} (e:execOp T a H (.mapUpdate t m k y)=.val v H'):Made P μ H w (Go.execOp x.eval o) v H':=by
  have hx:Go.execOp x.eval o=(do Instr.mapUpdate t (x.eval m) (x.eval k) (x.eval y);pure .skip:Sem Next):=by unfold Go.execOp;rw [ho]
  simp only [Am.execOp] at e;rw [hx];obtain ⟨u,h1,e0⟩:=op1_inv e (by simp);replace e:=e0;clear e0;obtain ⟨u2,h2,e0⟩:=op1_inv e (by simp);replace e:=e0;clear e0;obtain ⟨u3,h3,e0⟩:=op1_inv e (by simp);replace e:=e0;clear e0;obtain ⟨e0,hH⟩:=OR.ofH_val e;replace e:=e0;clear e0;subst hH;exact made_unit (good_mapUpdate hT h (ha.eval h1) (ha.eval h2) (ha.eval h3) e)
theorem ex_insert (hT:TabOk P T) (h:Sim μ H w) {a:A} {x:Act} (ha:AR μ a x) {o:Oper} (t:TypeId) (m k y:Operand) (ho:o.op=.insert t m k y) {v:V} {H':Heap} (e:execOp T a H (.insert t m k y)=.val v H'):Made P μ H w (Go.execOp x.eval o) v H':=by
  have hx:Go.execOp x.eval o=(do Instr.mapUpdate t (x.eval m) (x.eval k) (x.eval y);pure .skip:Sem Next):=by unfold Go.execOp;rw [ho]
  simp only [Am.execOp] at e;rw [hx];obtain ⟨u,h1,e0⟩:=op1_inv e (by simp);replace e:=e0;clear e0;obtain ⟨u2,h2,e0⟩:=op1_inv e (by simp);replace e:=e0;clear e0;obtain ⟨u3,h3,e0⟩:=op1_inv e (by simp);replace e:=e0;clear e0;obtain ⟨e0,hH⟩:=OR.ofH_val e;replace e:=e0;clear e0;subst hH;exact made_unit (good_mapUpdate hT h (ha.eval h1) (ha.eval h2) (ha.eval h3) e)
theorem ex_typeAssert (hT:TabOk P T) (h:Sim μ H w) {a:A} {x:Act} (ha:AR μ a x) {o:Oper} (y:Operand) (xt u:TypeId) (ok:Bool) (ho:o.op=.typeAssert y xt u ok) {v:V} {H':Heap} (e:execOp T a H (.typeAssert y xt u ok)=.val v H'):Made P μ H w (Go.execOp x.eval o) v H':=by
  have hx:Go.execOp x.eval o=(do pure (.value (← Instr.typeAssert (x.eval y) xt u ok)):Sem Next):=by unfold Go.execOp;rw [ho]
  simp only [Am.execOp] at e;obtain ⟨q,h1,e0⟩:=op1_inv e (by simp);replace e:=e0;clear e0;have hq:=ha.eval h1;rw [hx];split at e
  ·cases e
  ·cases e
  ·rename_i d t w' hn hd;simp only [cond_beq] at e;split at e
   ·rename_i ht;cases e;exact (good_typeAssert hT h hq hd (fun ms hm=>hn ms hm) (.inl ⟨t,w',rfl,.inl ⟨ht,rfl⟩⟩)).made
   ·rename_i ht
    cases ok with
    | false=>cases e
    | true =>
      simp only [cond_true] at e;split at e
      ·rename_i z hz;cases e;exact (good_typeAssert hT h hq hd (fun ms hm=>hn ms hm) (.inl ⟨t,w',rfl,.inr ⟨ht,rfl,z,hz,rfl⟩⟩)).made
      ·cases e
  ·rename_i d hn hd
   cases ok with
   | false=>cases e
   | true =>
     simp only [cond_true] at e;split at e
     ·rename_i z hz;cases e;exact (good_typeAssert hT h hq hd (fun ms hm=>hn ms hm) (.inr ⟨rfl,rfl,z,hz,rfl⟩)).made
     ·cases e
  ·cases e
theorem ex_extract (hT:TabOk P T) (h:Sim μ H w) {a:A} {x:Act} (ha:AR μ a x) {o:Oper} (y:Operand) (i:Nat) (ho:o.op=.extract y i) {v:V} {H':Heap} (e:execOp T a H (.extract y i)=.val v H'):Made P μ H w (Go.execOp x.eval o) v H':=by
  have hx:Go.execOp x.eval o=(do pure (.value (← Instr.extract (x.eval y) i)):Sem Next):=by unfold Go.execOp;rw [ho]
  simp only [Am.execOp] at e;rw [hx];obtain ⟨u,h1,e0⟩:=op1_inv e (by simp);replace e:=e0;clear e0;split at e
  ·obtain ⟨e0,hH⟩:=OR.ofV_val e;replace e:=e0;clear e0;subst hH;exact (good_extract h (ha.eval h1) e).made
  ·cases e
theorem exec_val (hT:TabOk P T) (h:Sim μ H w) {a:A} {x:Act} (ha:AR μ a x) {o:Oper} (hc:∀ c,o.op≠.call c) {v:V} {H':Heap} (e:execOp T a H o.op=.val v H'):Made P μ H w (Go.execOp x.eval o) v H':=by
 cases ho:o.op <;> rw [ho] at e
 case move=>exact ex_move hT h ha _ ho e
 case assign=>exact ex_assign hT h ha _ ho e
 case pick=>exact ex_pick hT h ha _ _ _ ho e
 case alloc=>exact ex_alloc hT h ha _ ho e
 case box=>exact ex_box hT h ha _ _ ho e
 case build=>exact ex_build hT h ha _ _ ho e
 case buildSlice=>exact ex_buildSlice hT h ha _ _ _ ho e
 case load=>exact ex_load hT h ha _ _ ho e
 case store=>exact ex_store hT h ha _ _ _ ho e
 case nilCheck=>exact ex_nilCheck hT h ha _ ho e
 case binOp=>exact ex_binOp hT h ha _ _ _ _ _ ho e
 case unOp=>exact ex_unOp hT h ha _ _ _ ho e
 case convert=>exact ex_convert hT h ha _ _ _ ho e
 case makeInterface=>exact ex_makeInterface hT h ha _ _ ho e
 case makeFunc=>exact ex_makeFunc hT h ha _ _ _ ho e
 case makeMap=>exact ex_makeMap hT h ha _ _ ho e
 case makeSlice=>exact ex_makeSlice hT h ha _ _ _ ho e
 case slice=>exact ex_slice hT h ha _ _ _ _ _ ho e
 case fieldAddr=>exact ex_fieldAddr hT h ha _ _ _ ho e
 case field=>exact ex_field hT h ha _ _ _ ho e
 case indexAddr=>exact ex_indexAddr hT h ha _ _ _ ho e
 case index=>exact ex_index hT h ha _ _ _ ho e
 case lookup=>exact ex_lookup hT h ha _ _ _ _ ho e
 case mapUpdate=>exact ex_mapUpdate hT h ha _ _ _ _ ho e
 case insert=>exact ex_insert hT h ha _ _ _ _ ho e
 case typeAssert=>exact ex_typeAssert hT h ha _ _ _ _ ho e
 case extract=>exact ex_extract hT h ha _ _ ho e
 case call c=>exact absurd ho (hc c)
 case defer c =>
  simp only [Am.execOp] at e;split at e
  ·split at e <;> cases e
  ·cases e
 case panic y =>
  simp only [Am.execOp] at e;obtain ⟨u,h1,e0⟩:=op1_inv e (by simp);replace e:=e0;clear e0;split at e <;> cases e
 all_goals (simp only [Am.execOp] at e;cases e)
end Go.Am

namespace Go.Am
open Go
variable {P:Program} {T:Tab} {μ:Mu} {H:Heap} {w:World}
theorem len_congr {ts:Array TypeId} {t:TypeId} (h:ts[0]?=some t) (ty:TypeId) (us:Array Value):Builtin.len_ ts ty us=Builtin.len_ #[t] ty us:=by
 unfold Builtin.len_;rw [h];rfl
theorem cap_congr {ts:Array TypeId} {t:TypeId} (h:ts[0]?=some t) (ty:TypeId) (us:Array Value):Builtin.cap_ ts ty us=Builtin.cap_ #[t] ty us:=by
 unfold Builtin.cap_;rw [h];rfl
theorem append_congr {ts:Array TypeId} {t t':TypeId} (h:ts[0]?=some t) (h':ts[1]?=some t') (ty:TypeId) (us:Array Value):Builtin.append_ ts ty us=Builtin.append_ #[t,t'] ty us:=by
 unfold Builtin.append_;rw [h,h'];rfl
theorem RVL.one {x:V} {us:List Value} (h:RVL μ [x] us):∃ u,us=[u]∧RV μ x u:=by
 cases h with
 | cons h t=>cases t;exact ⟨_,rfl,h⟩
theorem RVL.two {x y:V} {us:List Value} (h:RVL μ [x,y] us):∃ u v,us=[u,v]∧RV μ x u∧RV μ y v:=by
 cases h with
 | cons h t=>cases t with
   | cons h2 t=>cases t;exact ⟨_,_,rfl,h,h2⟩
theorem builtin_len (hT:TabOk P T) (h:Sim μ H w) {ts:Array TypeId} {ty:TypeId} {cs:Array Bool} {x:V} {us:List Value} {v:V} {H':Heap} (hr:RVL μ [x] us) (e:builtin T H .len ts [x]=.val v H'):Made P μ H w (Go.builtin .len ts ty cs ⟨us⟩) v H':=by
 obtain ⟨u,rfl,hu⟩:=hr.one;simp only [Am.builtin] at e;split at e
 ·cases e
 rename_i t ht;show Made P μ H w (do pure (.value (← Builtin.len_ ts ty #[u]))) v H';rw [len_congr ht];split at e
 ·rename_i hd;split at e
  ·rename_i s;cases e;exact (good_len hT h hu hd (.inl ⟨s,rfl,rfl,rfl⟩)).made
  ·cases e
 ·rename_i el hd;split at e
  ·rename_i l o n s c;cases e;exact (good_len hT h hu hd (.inr (.inl ⟨el,rfl,.inl ⟨l,o,s,c,rfl⟩⟩))).made
  ·cases e;exact (good_len hT h hu hd (.inr (.inl ⟨el,rfl,.inr ⟨rfl,rfl⟩⟩))).made
  ·cases e
 ·rename_i k el hd;split at e
  ·cases e;exact (good_len hT h hu hd (.inr (.inr ⟨k,el,rfl,.inl ⟨rfl,rfl⟩⟩))).made
  ·rename_i r;split at e
   ·rename_i es hg;cases e;exact (good_len hT h hu hd (.inr (.inr ⟨k,el,rfl,.inr ⟨r,es,rfl,hg,rfl⟩⟩))).made
   ·cases e
  ·cases e
 ·cases e
theorem builtin_cap (hT:TabOk P T) (h:Sim μ H w) {ts:Array TypeId} {ty:TypeId} {cs:Array Bool} {x:V} {us:List Value} {v:V} {H':Heap} (hr:RVL μ [x] us) (e:builtin T H .cap ts [x]=.val v H'):Made P μ H w (Go.builtin .cap ts ty cs ⟨us⟩) v H':=by
 obtain ⟨u,rfl,hu⟩:=hr.one;simp only [Am.builtin] at e;split at e
 ·cases e
 rename_i t ht;show Made P μ H w (do pure (.value (← Builtin.cap_ ts ty #[u]))) v H';rw [cap_congr ht];split at e
 ·rename_i el hd;split at e
  ·rename_i l o n s c;cases e;exact (good_cap hT h hu hd (.inl ⟨l,o,n,s,rfl⟩)).made
  ·cases e;exact (good_cap hT h hu hd (.inr ⟨rfl,rfl⟩)).made
  ·cases e
 ·cases e
theorem builtin_append (hT:TabOk P T) (h:Sim μ H w) {ts:Array TypeId} {ty:TypeId} {cs:Array Bool} {x y:V} {us:List Value} {v:V} {H':Heap} (hr:RVL μ [x,y] us) (e:builtin T H .append ts [x,y]=.val v H'):Made P μ H w (Go.builtin .append ts ty cs ⟨us⟩) v H':=by
 obtain ⟨u,u2,rfl,hu,hu2⟩:=hr.two;simp only [Am.builtin] at e;split at e
 ·rename_i t0 t1 h0 h1;show Made P μ H w (do pure (.value (← Builtin.append_ ts ty #[u,u2]))) v H';rw [append_congr h0 h1];exact (good_append hT h hu hu2 (OR.ofVH_val e)).made
 ·cases e
theorem builtin_copy (hT:TabOk P T) (h:Sim μ H w) {ts:Array TypeId} {ty:TypeId} {cs:Array Bool} {x y:V} {us:List Value} {v:V} {H':Heap} (hr:RVL μ [x,y] us) (e:builtin T H .copy ts [x,y]=.val v H'):Made P μ H w (Go.builtin .copy ts ty cs ⟨us⟩) v H':=by
 obtain ⟨u,u2,rfl,hu,hu2⟩:=hr.two;simp only [Am.builtin] at e;split at e
 ·rename_i t0 h0;show Made P μ H w (do pure (.value (← Builtin.copy_ ts ty #[u,u2]))) v H';exact (good_copy hT h h0 hu hu2 (OR.ofVH_val e)).made
 ·cases e
theorem builtin_clear (hT:TabOk P T) (h:Sim μ H w) {ts:Array TypeId} {ty:TypeId} {cs:Array Bool} {x:V} {us:List Value} {v:V} {H':Heap} (hr:RVL μ [x] us) (e:builtin T H .clear ts [x]=.val v H'):Made P μ H w (Go.builtin .clear ts ty cs ⟨us⟩) v H':=by
 obtain ⟨u,rfl,hu⟩:=hr.one;simp only [Am.builtin] at e;split at e
 ·rename_i t0 h0;show Made P μ H w (do pure (.value (← Builtin.clear_ ts ty #[u]))) v H';split at e
  ·rename_i el hd;cases e;exact (good_clear0 hT h h0 hu hd (.inl rfl)).made
  ·rename_i el l o n s c hd;split at e
   ·rename_i z hz;simp only [cond_beq] at e;split at e
    ·rename_i hzl;split at e
     ·rename_i hn;subst hn;cases e;exact (good_clear0 hT h h0 hu hd (.inr ⟨l,o,s,c,rfl⟩)).made
     ·rename_i hn;obtain ⟨e0,hH⟩:=OR.ofH_val e;subst hH;exact (good_clear hT h h0 hu hd hz hzl hn e0).made
    ·cases e
   ·cases e
  ·cases e
 ·cases e
theorem builtin_minmax (h:Sim μ H w) {b:Builtin} (hb:b=.min∨b=.max) {ts:Array TypeId} {ty:TypeId} {cs:Array Bool} {x:V} {xs:List V} {us:List Value} {v:V} {H':Heap} (hr:RVL μ (x::xs) us) (e:builtin T H b ts (x::xs)=.val v H') :
  Made P μ H w (Go.builtin b ts ty cs ⟨us⟩) v H':=by
 cases hr with
 | cons hx t =>
 rcases hb with rfl | rfl
 ·have e':OR.ofV H (extremum (fun b a=>decide (b<a)) x xs)=.val v H':=by
   cases xs <;> simpa [Am.builtin] using e
  obtain ⟨e0,hH⟩:=OR.ofV_val e';subst hH;obtain ⟨u',h1,h2⟩:=good_min (P:=P) h t hx e0;have g:VGood P μ H' w (Builtin.min_ ts ty ⟨_::_⟩) v H':=.same h (by simpa [Builtin.min_] using h1) h2;exact g.made
 ·have e':OR.ofV H (extremum (fun b a=>decide (b > a)) x xs)=.val v H':=by
   cases xs <;> simpa [Am.builtin] using e
  obtain ⟨e0,hH⟩:=OR.ofV_val e';subst hH;obtain ⟨u',h1,h2⟩:=good_max (P:=P) h t hx e0;have g:VGood P μ H' w (Builtin.max_ ts ty ⟨_::_⟩) v H':=.same h (by simpa [Builtin.max_] using h1) h2;exact g.made
theorem builtin_val (hT:TabOk P T) (h:Sim μ H w) {b:Builtin} {ts:Array TypeId} {ty:TypeId} {cs:Array Bool} {args:List V} {us:List Value} {v:V} {H':Heap} (hr:RVL μ args us)
  (e:builtin T H b ts args=.val v H'):Made P μ H w (Go.builtin b ts ty cs ⟨us⟩) v H':=by
 have e':=e;unfold Am.builtin at e;split at e
 ·exact builtin_len hT h hr e'
 ·exact builtin_cap hT h hr e'
 ·exact builtin_append hT h hr e'
 ·exact builtin_copy hT h hr e'
 ·exact builtin_clear hT h hr e'
 ·exact builtin_minmax h (.inl rfl) hr e'
 ·exact builtin_minmax h (.inr rfl) hr e'
 ·cases e
 ·cases e
theorem builtin_kind {b:Builtin} {ts:Array TypeId} {args:List V} {r:OR} (e:builtin T H b ts args=r):r=.stuck∨r=.recover∨∃ v H',r=.val v H':=by
 subst e;unfold Am.builtin;simp only [cond_beq]
 repeat' split
 all_goals first | exact .inl rfl | exact .inr (.inl rfl) | exact .inr (.inr ⟨_,_,rfl⟩) | (unfold OR.ofVH;split <;> first | exact .inl rfl | exact .inr (.inr ⟨_,_,rfl⟩)) | (unfold OR.ofV;split <;> first | exact .inl rfl | exact .inr (.inr ⟨_,_,rfl⟩)) | (unfold OR.ofH;split <;> first | exact .inl rfl | exact .inr (.inr ⟨_,_,rfl⟩))
end Go.Am

namespace Go.Am
open Go
variable {P:Program} {T:Tab} {μ:Mu} {H:Heap} {w:World}
theorem exec_call_eq {ρ:Operand→Value} {o:Oper} {c:Call} (ho:o.op=.call c):Go.execOp ρ o=(do let d ← resolve ρ c o.type;invoke d.target d.args):=by
 unfold Go.execOp;rw [ho]
theorem run_callFunc (hT:TabOk P T) {f:FuncId} {fn:Func} {c:Code} (hf:T.func f=some fn) (hb:fn.body=some c) (us:Array Value):(callFunc f us).run P w=.ok (.enter f us) w:=by
 obtain ⟨h1,h2⟩:=hT.func _ _ hf;simp only [callFunc,Sem.run_bind,run_program,Result.andThen_ok,h1,h2,hb,Bool.false_eq_true,if_false,Option.isNone_some,Sem.run_pure]
theorem evals_run {a:A} {x:Act} (ha:AR μ a x) {c:Call} {args:List V} (he:evals a c.args.toList=some args):∃ us:List Value,RVL μ args us∧c.args.map x.eval=⟨us⟩:=by
 have:=ha.evals he;exact ⟨_,this,by apply Array.toList_inj.1;simp⟩
theorem callee_call {f:V} {args:List V} {g:FuncId} {as:List V} (e:callee f args=.call g as):∃ first captured,f=.func (.func g) first captured∧as=first++args++captured:=by
 unfold callee at e;split at e
 ·cases e;exact ⟨_,_,rfl,rfl⟩
 ·cases e
 ·cases e
theorem callee_round {f:V} {args:List V} {l:Nat} {as:List V} (e:callee f args=.round l as):f=.func (.yield l) [] []∧as=args:=by
 unfold callee at e;split at e
 ·cases e
 ·cases e;exact ⟨rfl,rfl⟩
 ·cases e
theorem run_value_call {ρ:Operand→Value} {c:Call} {g:Operand} {ty:TypeId} {f:FuncId} {first captured us:List Value} (hc:c.callee=.value g) (hg:ρ g=.func (.func f) ⟨first⟩ ⟨captured⟩) (hargs:c.args.map ρ=⟨us⟩) :
  (resolve ρ c ty).run P w=.ok { target:=.fn (.func f) ⟨captured⟩,args:=⟨first++us⟩ } w:=by
 unfold resolve;rw [hc,hargs];simp [Deferred.ofValue,hg]
theorem run_wrap (xt:TypeId) (ad:Addr) (s m:ByteArray):(Builtin.ssaWrapNilChk_ #[xt] xt #[.pointer (some ad),.string s,.string m]).run P w=.ok (.pointer (some ad)) w:=rfl
inductive PlR (μ:Mu):Pl→Place→Prop
 | val {v:V} {u:Value} (h:RV μ v u):PlR μ (.val v) (.val u)
 | var {l o b base tot:Nat} (h:μ l=some (b,base,tot)):PlR μ (.var l o) (.var ⟨b,base+o,none⟩)
theorem run_place (hT:TabOk P T) (h:Sim μ H w) {t:TypeId} {x:Pl} {X:Place} {v:V} (hx:PlR μ x X) (e:x.get T H t=some v):∃ u,(X.get t).run P w=.ok u w∧RV μ v u:=by
 cases hx with
 | val hv =>
   simp only [Pl.get,Option.some.injEq] at e;subst e;exact ⟨_,by simp [Place.get],hv⟩
 | var hm =>
   obtain ⟨u,hr,hv⟩:=run_loadVar (P:=P) hT h e hm;exact ⟨u,by simpa [Place.get] using hr,hv⟩
theorem run_fieldPlace (hT:TabOk P T) {f:Field} {n bs b off:Nat} (hs:T.size f.type=some (n,bs)) (hn:¬ n=0):(fieldPlace ⟨b,off,none⟩ f).run P w=.ok ⟨b,off+f.offset,none⟩ w:=by
 obtain ⟨i,hi,h1,_⟩:=hT.size _ _ _ hs;have:¬ i.size=0:=by omega
 simp [fieldPlace,run_size hi,this,add_eq]
theorem run_follow (hT:TabOk P T) (h:Sim μ H w):∀ (path:List FieldStep) (t:TypeId) (x:Pl) (X:Place) (r:TypeId×Pl),PlR μ x X→follow T H path t x=some r→∃ Y,(Go.follow path t X).run P w=.ok (r.1,Y) w∧PlR μ r.2 Y
 | [],t,x,X,r,hx,e=>by
   simp only [Am.follow,Option.some.injEq] at e;subst e;exact ⟨X,by simp [Go.follow],hx⟩
 | s::rest,t,x,X,r,hx,e=>by
   unfold Am.follow at e;split at e
   ·rename_i fs hu;split at e
    ·rename_i f hf;split at e
     ·rename_i n bs hs;rw [cond_beq] at e;split at e
      ·cases e
      rename_i hn
      cases hd:s.deref with
      | true =>
        rw [hd] at e;dsimp only at e;split at e
        ·rename_i l o hg;obtain ⟨u,hr,hv⟩:=run_place (P:=P) hT h hx hg
         cases hv with
         | ptr hm =>
         obtain ⟨Y,h1,h2⟩:=run_follow hT h rest f.type _ _ r (.var (o:=o+f.offset) hm) e;refine ⟨Y,?_,h2⟩;rw [← Nat.add_assoc] at h1;simp [Go.follow,run_und (hT.und _ _ hu),hf,hd,hr,asAddr,run_fieldPlace hT hs hn,h1]
        ·cases e
      | false =>
        rw [hd] at e;dsimp only at e;split at e
        ·rename_i l o
         cases hx with
         | var hm =>
         obtain ⟨Y,h1,h2⟩:=run_follow hT h rest f.type _ _ r (.var (o:=o+f.offset) hm) e;refine ⟨Y,?_,h2⟩;rw [← Nat.add_assoc] at h1;simp [Go.follow,run_und (hT.und _ _ hu),hf,hd,run_fieldPlace hT hs hn,h1]
        ·rename_i cs;split at e
         ·rename_i v hp
          cases hx with
          | val hv =>
          cases hv with
          | agg hv =>
          obtain ⟨u,hr,hv'⟩:=run_part (P:=P) (w:=w) hT hv hp;obtain ⟨Y,h1,h2⟩:=run_follow hT h rest f.type _ _ r (.val hv') e;refine ⟨Y,?_,h2⟩;simp [Go.follow,run_und (hT.und _ _ hu),hf,hd,hr,h1]
         ·cases e
        ·cases e
     ·cases e
    ·cases e
   ·cases e
theorem run_receiver (hT:TabOk P T) (h:Sim μ H w) {t:TypeId} {x:Pl} {X:Place} {p:Bool} {y:V} (hx:PlR μ x X) (e:receiver T H t x p=some y) (wr:Option String):∃ u,(receiverAt t X p wr).run P w=.ok u w∧RV μ y u:=by
 unfold receiver at e;split at e
 ·rename_i el hd;split at e
  ·obtain ⟨u,hr,hv⟩:=run_place (P:=P) hT h hx e;exact ⟨u,by simp [receiverAt,run_und (hT.und _ _ hd),hr],hv⟩
  ·split at e
   ·rename_i l o hg;obtain ⟨u,hr,hv⟩:=run_place (P:=P) hT h hx hg
    cases hv with
    | ptr hm =>
    obtain ⟨u',hr',hv'⟩:=run_loadVar (P:=P) hT h e hm;refine ⟨u',?_,hv'⟩
    cases wr with
    | none=>simp [receiverAt,run_und (hT.und _ _ hd),hr,asAddr,hr']
    | some name=>simp [receiverAt,run_und (hT.und _ _ hd),hr,strVal,run_wrap,asAddr,hr']
   ·cases e
 ·rename_i d hn hd;split at e
  ·rename_i l o
   cases e
   cases hx with
   | var hm =>
   refine ⟨_,?_,.ptr hm⟩;unfold receiverAt;rw [Sem.run_bind,run_und (hT.und _ _ hd),Result.andThen_ok]
   cases d <;> first | exact absurd rfl (hn _) | simp
  ·obtain ⟨u,hr,hv⟩:=run_place (P:=P) hT h hx e;refine ⟨u,?_,hv⟩;unfold receiverAt;rw [Sem.run_bind,run_und (hT.und _ _ hd),Result.andThen_ok]
   cases d <;> first | exact absurd rfl (hn _) | simpa using hr
  ·cases e
 ·cases e
theorem run_method (hT:TabOk P T) (h:Sim μ H w) {t:TypeId} {name:String} {path:List FieldStep} {f:FuncId} {p:Bool} {v y:V} {u:Value} {r:TypeId×Pl} (hv:RV μ v u) (hm:T.meth t name=some (path,f,p))
  (hf:follow T H path t (.val v)=some r) (hy:receiver T H r.1 r.2 p=some y) (n:Nat) :
  ∃ u',(method (n+1) t u name).run P w=.ok (f,u') w∧RV μ y u':=by
 obtain ⟨i,m,hi,hfi,hp,hmf⟩:=hT.meth _ _ _ _ _ hm;obtain ⟨Y,h1,h2⟩:=run_follow (P:=P) hT h path t (.val v) (.val u) r (.val hv) hf;rw [← hp] at h1;obtain ⟨u', h3, h4⟩ := run_receiver (P := P) hT h h2 hy (if m.path.isEmpty then some ((name.splitOn ".").getLastD name) else none)
 refine ⟨u',?_,h4⟩;simp only [method,Sem.run_bind,run_info hi,Result.andThen_ok,hfi,h1,hmf,h3,Sem.run_pure]
theorem invoked_call {r:V} {name:String} {args as:List V} {f:FuncId} (e:invoked T H r name args=.call f as):∃ t v path p q y,r=.iface t v∧T.meth t name=some (path,f,p)∧follow T H path t (.val v)=some q∧receiver T H q.1 q.2 p=some y∧as=y::args:=by
 unfold invoked at e;split at e
 ·rename_i t v;split at e
  ·rename_i path f' p hm;split at e
   ·rename_i xt x hf;split at e
    ·rename_i y hy
     cases e
     exact ⟨t,v,path,p,(xt,x),y,rfl,hm,hf,hy,rfl⟩
    ·cases e
   ·cases e
  ·cases e
 ·cases e
theorem invoked_kind {r:V} {name:String} {args:List V} {q:OR} (e:invoked T H r name args=q):q=.stuck∨∃ f as,q=.call f as:=by
 subst e;unfold invoked
 repeat' split
 all_goals first | exact .inl rfl | exact .inr ⟨_,_,rfl⟩
theorem callee_kind {f:V} {args:List V} {q:OR} (e:callee f args=q):q=.stuck∨(∃ f as,q=.call f as)∨∃ l as,q=.round l as:=by
 subst e;unfold callee
 repeat' split
 all_goals first | exact .inl rfl | exact .inr (.inl ⟨_,_,rfl⟩) | exact .inr (.inr ⟨_,_,rfl⟩)
theorem callOp_val (hT:TabOk P T) (h:Sim μ H w) {a:A} {x:Act} (ha:AR μ a x) {o:Oper} {c:Call} (ho:o.op=.call c) {v:V} {H':Heap} (e:callOp T a H c=.val v H'):Made P μ H w (Go.execOp x.eval o) v H':=by
 rw [exec_call_eq ho];unfold callOp at e;split at e
 ·cases e
 rename_i args hargs;obtain ⟨us,hr,hus⟩:=evals_run ha hargs;split at e
 ·rename_i b hc;have hb:=builtin_val (P:=P) (cs:=c.args.map fun | .const _=>true | _=>false) (ty:=o.type) hT h hr e;obtain ⟨u,w',μ',h1,h2,h3⟩:=hb;refine ⟨u,w',μ',?_,h2,h3⟩;simp only [resolve,hc,hus,Sem.run_bind,Sem.run_pure,Result.andThen_ok,invoke];exact h1
 ·split at e
  ·rcases invoked_kind e with h0 | ⟨f,as,h0⟩ <;> cases h0
  ·cases e
 ·split at e
  ·rcases callee_kind e with h0 | ⟨f,as,h0⟩ | ⟨l,as,h0⟩ <;> cases h0
  ·cases e
theorem callOp_call (hT:TabOk P T) (h:Sim μ H w) {a:A} {x:Act} (ha:AR μ a x) {o:Oper} {c:Call} (ho:o.op=.call c) {f:FuncId} {as:List V} (e:callOp T a H c=.call f as) :
  ∃ us,RVL μ as us∧(Go.execOp x.eval o).run P w=(callFunc f ⟨us⟩).run P w:=by
 rw [exec_call_eq ho];unfold callOp at e;split at e
 ·cases e
 rename_i args hargs;obtain ⟨us,hr,hus⟩:=evals_run ha hargs;split at e
 ·rcases builtin_kind e with h0 | h0 | ⟨v,H',h0⟩ <;> cases h0
 ·rename_i r name hc;split at e
  ·rename_i rv hrv;obtain ⟨t,v,path,p,q,y,rfl,hm,hf,hy,rfl⟩:=invoked_call e;have hv:=ha.eval hrv;generalize hq:x.eval r=q' at hv
   cases hv with
   | iface hv =>
   rename_i uv;have hfuel:P.types.size+Made.depth=(P.types.size+99)+1:=rfl;obtain ⟨u',hmr,hv'⟩:=run_method (P:=P) hT h hv hm hf hy (P.types.size+99);refine ⟨u'::us,.cons hv' hr,?_⟩;simp only [resolve,hc,hus,Sem.run_bind,Sem.run_pure,Result.andThen_ok,invoke,hq];simp [callMethod,hfuel,hmr]
  ·cases e
 ·rename_i g hc;split at e
  ·rename_i fv hfv;obtain ⟨first,captured,rfl,rfl⟩:=callee_call e;have hv:=ha.eval hfv;generalize hq:x.eval g=q at hv
   cases hv with
   | func h1 h2 =>
   rename_i u1 u2;refine ⟨u1++us++u2,(h1.append hr).append h2,?_⟩;rw [Sem.run_bind,run_value_call hc hq hus,Result.andThen_ok];simp [invoke]
  ·cases e
theorem callOp_round (hT:TabOk P T) (h:Sim μ H w) {a:A} {x:Act} (ha:AR μ a x) {o:Oper} {c:Call} (ho:o.op=.call c) {l:Nat} {as:List V} (e:callOp T a H c=.round l as) :
  ∃ us b y z,RVL μ as us∧μ l=some (b,y,z)∧(Go.execOp x.eval o).run P w=(Instr.yield b ⟨us⟩).run P w:=by
 rw [exec_call_eq ho];unfold callOp at e;split at e
 ·cases e
 rename_i args hargs;obtain ⟨us,hr,hus⟩:=evals_run ha hargs;split at e
 ·rcases builtin_kind e with h0 | h0 | ⟨v,H',h0⟩ <;> cases h0
 ·split at e
  ·rcases invoked_kind e with h0 | ⟨f,as,h0⟩ <;> cases h0
  ·cases e
 ·rename_i g hc;split at e
  ·rename_i fv hfv;obtain ⟨rfl,rfl⟩:=callee_round e;have hv:=ha.eval hfv;generalize hq:x.eval g=q at hv
   cases hv with
   | yield hm =>
   refine ⟨us,_,_,_,hr,hm,?_⟩;simp [resolve,hc,hus,Deferred.ofValue,hq,invoke]
  ·cases e
theorem exec_made (hT:TabOk P T) (h:Sim μ H w) {a:A} {x:Act} (ha:AR μ a x) {o:Oper} {v:V} {H':Heap} (e:execOp T a H o.op=.val v H'):Made P μ H w (Go.execOp x.eval o) v H':=by
 by_cases hc:∃ c,o.op=.call c
 ·obtain ⟨c,ho⟩:=hc;rw [ho] at e;exact callOp_val hT h ha ho e
 ·exact exec_val hT h ha (fun c ho=>hc ⟨c,ho⟩) e
def OR.quiet:OR→Prop
 | .val _ _ | .stuck=>True
 | _=>False
theorem op1_quiet {a:A} {x:Operand} {k:V→OR} (h:∀ v,(k v).quiet):(op1 a x k).quiet:=by
 unfold op1;split
 ·exact h _
 ·trivial
theorem ofV_quiet (H:Heap) (v:Option V):(OR.ofV H v).quiet:=by cases v <;> trivial
theorem ofH_quiet (H:Option Heap):(OR.ofH H).quiet:=by cases H <;> trivial
theorem ofVH_quiet (v:Option (V×Heap)):(OR.ofVH v).quiet:=by cases v <;> trivial
theorem cond_quiet {b:Bool} {x y:OR} (hx:x.quiet) (hy:y.quiet):(cond b x y).quiet:=by cases b <;> assumption
theorem exec_quiet {a:A} {o:Op} (hc:∀ c,o≠.call c) (hd:∀ c,o≠.defer c) (hp:∀ x,o≠.panic x):(execOp T a H o).quiet:=by
 cases o
 case call c=>exact absurd rfl (hc c)
 case defer c=>exact absurd rfl (hd c)
 case panic c=>exact absurd rfl (hp c)
 case makeMap t r =>
  cases r with
  | none=>exact trivial
  | some x =>
    simp only [Am.execOp];refine op1_quiet fun v=>?_;split <;> trivial
 all_goals
  simp only [Am.execOp]
  repeat' first
   | exact trivial
   | exact ofV_quiet _ _
   | exact ofH_quiet _
   | exact ofVH_quiet _
   | refine cond_quiet ?_ ?_
   | (refine op1_quiet fun v=>?_)
   | split
theorem defer_kind {a:A} {c:Call} {q:OR} (e:execOp T a H (.defer c)=q):q=.stuck∨∃ d,q=.defer d:=by
 subst e;simp only [Am.execOp]
 repeat' split
 all_goals first | exact .inl rfl | exact .inr ⟨_,rfl⟩
theorem panic_kind {a:A} {x:Operand} {q:OR} (e:execOp T a H (.panic x)=q):q=.stuck∨∃ d,q=.panic d:=by
 subst e;simp only [Am.execOp,op1]
 repeat' split
 all_goals first | exact .inl rfl | exact .inr ⟨_,rfl⟩
theorem call_kind {a:A} {c:Call} {q:OR} (e:callOp T a H c=q):q=.stuck∨q=.recover∨(∃ v H',q=.val v H')∨(∃ f as,q=.call f as)∨∃ l as,q=.round l as:=by
 unfold callOp at e;split at e
 ·exact .inl e.symm
 ·split at e
  ·rcases builtin_kind e with h | h | h
   ·exact .inl h
   ·exact .inr (.inl h)
   ·exact .inr (.inr (.inl h))
  ·split at e
   ·rcases invoked_kind e with h | h
    ·exact .inl h
    ·exact .inr (.inr (.inr (.inl h)))
   ·exact .inl e.symm
  ·split at e
   ·rcases callee_kind e with h | h | h
    ·exact .inl h
    ·exact .inr (.inr (.inr (.inl h)))
    ·exact .inr (.inr (.inr (.inr h)))
   ·exact .inl e.symm
theorem exec_kind {a:A} {o:Op} {q:OR} (e:execOp T a H o=q) (hq:¬ q.quiet):(∃ c,o=.call c∧callOp T a H c=q)∨(∃ c,o=.defer c)∨∃ x,o=.panic x:=by
 by_cases hc:∃ c,o=.call c
 ·obtain ⟨c,rfl⟩:=hc;exact .inl ⟨c,rfl,e⟩
 ·by_cases hd:∃ c,o=.defer c
  ·exact .inr (.inl hd)
  ·by_cases hp:∃ x,o=.panic x
   ·exact .inr (.inr hp)
   ·exact absurd (e ▸ exec_quiet (T:=T) (H:=H) (a:=a) (o:=o) (fun c h=>hc ⟨c,h⟩) (fun c h=>hd ⟨c,h⟩) (fun c h=>hp ⟨c,h⟩)) hq
theorem exec_is_call {a:A} {o:Op} {f:FuncId} {as:List V} (e:execOp T a H o=.call f as):∃ c,o=.call c∧callOp T a H c=.call f as:=by
 rcases exec_kind e (fun h=>h) with h | ⟨c,rfl⟩ | ⟨x,rfl⟩
 ·exact h
 ·rcases defer_kind e with h | ⟨d,h⟩ <;> cases h
 ·rcases panic_kind e with h | ⟨d,h⟩ <;> cases h
theorem exec_is_round {a:A} {o:Op} {l:Nat} {as:List V} (e:execOp T a H o=.round l as):∃ c,o=.call c∧callOp T a H c=.round l as:=by
 rcases exec_kind e (fun h=>h) with h | ⟨c,rfl⟩ | ⟨x,rfl⟩
 ·exact h
 ·rcases defer_kind e with h | ⟨d,h⟩ <;> cases h
 ·rcases panic_kind e with h | ⟨d,h⟩ <;> cases h
theorem exec_panic {a:A} {x:Act} (ha:AR μ a x) {o:Oper} {v:V} (e:execOp T a H o.op=.panic v):∃ t z u,v=.iface t z∧RV μ v u∧(Go.execOp x.eval o).run P w=.halt (.panic u) w:=by
 rcases exec_kind e (fun h=>h) with ⟨c,_,h⟩ | ⟨c,hc⟩ | ⟨y,ho⟩
 ·rcases call_kind h with h | h | ⟨_,_,h⟩ | ⟨_,_,h⟩ | ⟨_,_,h⟩ <;> cases h
 ·rw [hc] at e;rcases defer_kind e with h | ⟨d,h⟩ <;> cases h
 ·rw [ho] at e;simp only [Am.execOp] at e;obtain ⟨u,h1,e0⟩:=op1_inv e (by simp);split at e0
  ·rename_i t z
   cases e0
   have hv:=ha.eval h1;refine ⟨t,z,_,rfl,hv,?_⟩;unfold Go.execOp;rw [ho];generalize hq:x.eval y=q at hv
   cases hv with
   | iface hv=>simp [Instr.panic,hq]
  ·cases e0
theorem exec_defer {a:A} {x:Act} (ha:AR μ a x) {o:Oper} {d:D} (e:execOp T a H o.op=.defer d):∃ df,DR μ d df∧(Go.execOp x.eval o).run P w=.ok (.defer df) w:=by
 have key:∃ c,o.op=.defer c∧execOp T a H (.defer c)=.defer d:=by
  rcases exec_kind e (fun h=>h) with ⟨c,_,h⟩ | ⟨c,hc⟩ | ⟨y,ho⟩
  ·rcases call_kind h with h | h | ⟨_,_,h⟩ | ⟨_,_,h⟩ | ⟨_,_,h⟩ <;> cases h
  ·exact ⟨c,hc,hc ▸ e⟩
  ·rw [ho] at e;rcases panic_kind e with h | ⟨d,h⟩ <;> cases h
 obtain ⟨c,ho,e⟩:=key;simp only [Am.execOp] at e;split at e
 ·rename_i g args hc hargs;obtain ⟨us,hr,hus⟩:=evals_run ha hargs;split at e
  ·rename_i f first captured hg
   cases e
   have hv:=ha.eval hg;generalize hq:x.eval g=q at hv
   cases hv with
   | func h1 h2 =>
   rename_i u1 u2;refine ⟨{ target:=.fn (.func f) ⟨u2⟩,args:=⟨u1++us⟩ },.fn ((h1.append hr).append h2),?_⟩;unfold Go.execOp;rw [ho];simp only [Sem.run_bind,run_value_call hc hq hus,Result.andThen_ok,Sem.run_pure]
  ·cases e
 ·cases e
end Go.Am

namespace Go.Am
open Go
variable {P:Program} {T:Tab} {μ:Mu} {H:Heap} {w:World}
def FW (r:Option Nat):Fence:={ fn:=fun _=>True,depth:=none,alive:=false,round:=r }
theorem fw_room (r:Option Nat) (n:Nat):(FW r).room n:=fun _ h=>by simp [FW] at h
theorem callsIn_fw {r r':Option Nat} {n n':Nat} {f:FuncId} {args:Array Value} {w:World} {R:Ending→World→Prop} (h:CallsIn (FW r) n P f args w R):CallsIn (FW r') n' P f args w R:=
 ⟨trivial,fun cs _=>h.2 cs (fw_room _ _)⟩
theorem roundIn_fw {r r':Option Nat} {n n':Nat} {l:Nat} {f:FuncId} {tmps:Array Value} {assign body:Code} {w:World} {R:Ending→World→Prop} (h:RoundIn (FW r) n P l f tmps assign body w R):RoundIn (FW r') n' P l f tmps assign body w R:=
 ⟨trivial,fun c cs _=>h.2 c cs (fw_room _ _)⟩
inductive ExR (μ:Mu):Ex→Exit→Prop
 | normal:ExR μ .normal .normal
 | exit (id:Nat):ExR μ (.exit id) (.exit id)
 | goto (l:Nat):ExR μ (.goto l) (.goto l)
 | ret:ExR μ .ret .ret
 | panic {v:V} {u:Value} (h:RV μ v u):ExR μ (.panic v) (.panic [{ v:=u,recovered:=false }])
inductive RhoR (μ:Mu):Option Nat→Option Nat→Prop
 | out:RhoR μ none none
 | within {l b y z:Nat} (h:μ l=some (b,y,z)):RhoR μ (some l) (some b)
theorem RhoR.mono {μ μ':Mu} (hm:∀ l x,μ l=some x→μ' l=some x) {ρ r:Option Nat}:RhoR μ ρ r→RhoR μ' ρ r
 | .out=>.out
 | .within h=>.within (hm _ _ h)
def EvOk (P:Program) (ev:Ev):Prop:=∀ (ρ:Option Nat) (c:Code) (a:A) (H:Heap) (ex:Ex) (a':A) (H':Heap),ev ρ c a H=some (ex,a',H') →
 ∀ (μ:Mu) (w:World) (x:Act) (r:Option Nat) (Q:Exit→Act→World→Prop),Sim μ H w→AR μ a x→RhoR μ ρ r →
   (∀ μ' w' x' e',Post μ H w μ' H' w'→AR μ' a' x'→ExR μ' ex e'→Q e' x' w')→c.wpIn (FW r) 0 P Q x w
def CallPost (μ:Mu) (H:Heap) (w:World):CR→Ending→World→Prop
 | .returned v H',.returned u,w'=>∃ μ',RV μ' v u∧Post μ H w μ' H' w'
 | .panicked v H',.panicked [⟨u,false,false⟩],w'=>∃ μ',RV μ' v u∧Post μ H w μ' H' w'
 | _,_,_=>False
def Entered (P:Program) (μ:Mu) (H:Heap) (w:World) (f:FuncId) (us:List Value) (r:CR):Prop:=
 (CallsIn (FW none) 0 P f ⟨us⟩ w (CallPost μ H w r)∧(callFunc f ⟨us⟩).run P w=.ok (.enter f ⟨us⟩) w)∨∃ u w',(callFunc f ⟨us⟩).run P w=.ok (.value u) w'∧CallPost μ H w r (.returned u) w'
def CallOk (P:Program) (T:Tab) (call:FuncId→List V→Heap→CR):Prop:=∀ (f:FuncId) (as:List V) (H:Heap),call f as H≠.stuck →
 ∀ (μ:Mu) (w:World) (us:List Value),Sim μ H w→RVL μ as us→Entered P μ H w f us (call f as H) ∧
   (T.prim f=none→CallsIn (FW none) 0 P f ⟨us⟩ w (CallPost μ H w (call f as H))∧(callFunc f ⟨us⟩).run P w=.ok (.enter f ⟨us⟩) w)
def RoundOk (P:Program) (rnd:Nat→List V→Heap→CR):Prop:=∀ (l:Nat) (as:List V) (H:Heap),rnd l as H≠.stuck →
 ∀ (μ:Mu) (w:World) (us:List Value) (b y z:Nat),Sim μ H w→RVL μ as us→μ l=some (b,y,z) →
   ∃ f tmps assign body,(Instr.yield b ⟨us⟩).run P w=.ok (.round b f tmps assign body) w∧RoundIn (FW none) 0 P b f tmps assign body w (CallPost μ H w (rnd l as H))
theorem wanted_eq (ops:Array Oper) {a:A} {x:Act} (ha:AR μ a x) (o:Oper):Region.wanted o (yielded ops x.tmps)=wanted ops a o:=by
 unfold Region.wanted wanted yielded
 cases o.guard with
 | none=>rfl
 | some p =>
   obtain ⟨j,want⟩:=p;dsimp only
   cases hd:(ops[j]?).bind (·.dst) with
   | none=>simp
   | some d =>
     have hg:=ha.tmps.get d;simp only [Option.bind_some];unfold A.tmp;rw [Array.getD_eq_getD_getElem?] at hg
     cases hx:x.tmps[d]? with
     | none =>
       rw [hx] at hg;simp only [Option.getD_none] at hg;generalize a.tmps.get d=q at hg;unfold Go.undef at hg
       cases hg with
       | tuple h=>simp
     | some u =>
       rw [hx] at hg;simp only [Option.getD_some] at hg;generalize a.tmps.get d=q at hg
       cases hg <;> simp
theorem semAt_eq {r:Option Nat} {ρ:Operand→Value} {o:Oper} (h:∀ c,o.op≠.defer c):o.semAt r ρ=Go.execOp ρ o:=Oper.semAt_eq r ρ o h
theorem runOps_ok (hT:TabOk P T) {ev:Ev} {fuel:Nat} (hcall:CallOk P T (calls T ev fuel)) (hround:RoundOk P (round ev)) {ops:Array Oper} {ρ:Option Nat} :
  ∀ (idx:List Nat) (a:A) (H:Heap) (ex:Ex) (a':A) (H':Heap),runOps T ev fuel ρ ops idx a H=some (ex,a',H') →
  ∀ (μ:Mu) (w:World) (x:Act) (r:Option Nat) (Q:Exit→Act→World→Prop),Sim μ H w→AR μ a x→RhoR μ ρ r →
  (∀ μ' w' x' e',Post μ H w μ' H' w'→AR μ' a' x'→ExR μ' ex e'→Q e' x' w')→wpOpsIn (FW r) 0 P ops Q idx x w:=by
 intro idx
 induction idx with
 | nil =>
   intro a H ex a' H' e μ w x r Q h ha hr hQ;simp only [runOps,Option.some.injEq,Prod.mk.injEq] at e;obtain ⟨rfl,rfl,rfl⟩:=e;exact hQ μ w x _ (.refl h) ha .normal
 | cons i rest ih =>
   intro a H ex a' H' e μ w x r Q h ha hr hQ;unfold runOps at e
   cases ho:ops[i]? with
   | none=>rw [ho] at e;cases e
   | some o =>
     rw [ho] at e;dsimp only at e;simp only [wpOpsIn,ho];have hw:=wanted_eq ops ha o
     have next:∀ {v:V} {u:Value} {μ1:Mu} {w1:World} {a1:A} {H1:Heap} {x1:Act},runOps T ev fuel ρ ops rest (a1.put o.dst v) H1=some (ex,a',H')→RV μ1 v u→Post μ H w μ1 H1 w1→AR μ1 a1 x1 →
       wpOpsIn (FW r) 0 P ops Q rest (x1.put o.dst u) w1:=by
      intro v u μ1 w1 a1 H1 x1 e1 hv hp ha1;exact ih _ _ _ _ _ e1 μ1 w1 (x1.put o.dst u) r Q hp.sim (ha1.put hv _) (hr.mono (hp.ext h)) fun μ' w' x' e' hp' ha' hx'=>hQ μ' w' x' e' (hp.trans hp') ha' hx'
     cases hwt:wanted ops a o with
     | false =>
       rw [hwt] at e hw;simp only [cond_false] at e;rw [if_neg (by rw [hw];simp)];exact ⟨fun _ _=>trivial,next e (RV.undef μ) (.refl h) ha⟩
     | true =>
       rw [hwt] at e hw;simp only [cond_true] at e;rw [if_pos hw];refine ⟨fun _ _=>trivial,?_⟩;show o.uponIn (FW r) 0 P x (wpOpsIn (FW r) 0 P ops Q rest) Q ((o.semAt r x.eval).run P w);split at e
       ·-- a value
        rename_i v H1 hex;obtain ⟨u,w1,μ1,h1,h2,h3⟩:=exec_made (P:=P) hT h ha hex
        have hnd:∀ c,o.op≠.defer c:=fun c hc=>by
         rw [hc] at hex;rcases defer_kind hex with h | ⟨d,h⟩ <;> cases h
        rw [semAt_eq hnd];rcases h1 with h1 | ⟨h1,rfl⟩
        ·rw [h1];exact next e h2 h3 (ha.mono (h3.ext h))
        ·rw [h1];exact next e h2 h3 (ha.mono (h3.ext h))
       ·-- a call
        rename_i f as hex;obtain ⟨c,hc,hco⟩:=exec_is_call hex;have hnd:∀ c,o.op≠.defer c:=fun c' hc'=>by rw [hc'] at hc;cases hc
        rw [semAt_eq hnd];obtain ⟨us,hus,hrun⟩:=callOp_call (P:=P) hT h ha hc hco
        have hne:calls T ev fuel f as H≠.stuck:=by
         intro hs;rw [hs] at e;simp at e
        rcases (hcall f as H hne μ w us h hus).1 with ⟨hci,hcf⟩ | ⟨u,w1,hcf,hp⟩
        case inr =>
         rw [hrun,hcf];split at e
         ·rename_i v H1 hcr;rw [hcr] at hp;obtain ⟨μ1,hv,hpost⟩:=hp;exact next e hv hpost (ha.mono (hpost.ext h))
         ·rename_i v H1 hcr;rw [hcr] at hp;exact hp.elim
         ·cases e
        rw [hrun,hcf];refine ⟨fun hh=>by simp [FW] at hh,?_⟩;refine (callsIn_fw hci).mono ?_;intro en w1 hp;split at e
        ·rename_i v H1 hcr;rw [hcr] at hp
         cases en with
         | returned u =>
           obtain ⟨μ1,hv,hpost⟩:=hp;exact next e hv hpost (ha.mono (hpost.ext h))
         | panicked ch=>exact hp.elim
         | outgrown=>exact hp.elim
        ·rename_i v H1 hcr;rw [hcr] at hp;simp only [Option.some.injEq,Prod.mk.injEq] at e;obtain ⟨rfl,rfl,rfl⟩:=e
         cases en with
         | returned u=>exact hp.elim
         | outgrown=>exact hp.elim
         | panicked ch =>
           unfold CallPost at hp;split at hp
           ·rename_i h1 h2;cases h1
           ·rename_i h1 h2
            cases h1;cases h2
            obtain ⟨μ1,hv,hpost⟩:=hp;exact hQ μ1 _ x _ hpost (ha.mono (hpost.ext h)) (.panic hv)
           ·exact hp.elim
        ·cases e
       ·-- a round
        rename_i l as hex;obtain ⟨c,hc,hco⟩:=exec_is_round hex;have hnd:∀ c,o.op≠.defer c:=fun c' hc'=>by rw [hc'] at hc;cases hc
        rw [semAt_eq hnd];obtain ⟨us,b,y,z,hus,hm,hrun⟩:=callOp_round (P:=P) hT h ha hc hco
        have hne:round ev l as H≠.stuck:=by
         intro hs;rw [hs] at e;simp at e
        obtain ⟨f,tmps,assign,body,hy,hri⟩:=hround l as H hne μ w us b y z h hus hm;rw [hrun,hy];refine ⟨fun hh=>by simp [FW] at hh,?_⟩;refine (roundIn_fw hri).mono ?_;intro en w1 hp;split at e
        ·rename_i v H1 hcr;rw [hcr] at hp
         cases en with
         | returned u =>
           obtain ⟨μ1,hv,hpost⟩:=hp;exact next e hv hpost (ha.mono (hpost.ext h))
         | panicked ch=>exact hp.elim
         | outgrown=>exact hp.elim
        ·cases e
       ·-- defer
        rename_i d hex
        cases hρ:ρ.isNone with
        | false=>rw [hρ] at e;cases e
        | true =>
          rw [hρ] at e;simp only [cond_true] at e;have hρn:ρ=none:=by cases ρ <;> simp_all
          subst hρn
          cases hr
          obtain ⟨df,hdr,hrun⟩:=exec_defer (P:=P) (w:=w) ha hex;show o.uponIn _ 0 P x _ Q ((Go.execOp x.eval o).run P w);rw [hrun];refine next (a1:=⟨a.tmps,d::a.defers⟩) (x1:={ x with defers:=df::x.defers }) e (RV.undef μ) (.refl h) ⟨ha.tmps,.cons hdr ha.defers⟩
       ·-- panic
        rename_i v hex;simp only [Option.some.injEq,Prod.mk.injEq] at e;obtain ⟨rfl,rfl,rfl⟩:=e;obtain ⟨t,z,u,hvz,hv,hrun⟩:=exec_panic (P:=P) (w:=w) ha hex
        have hnd:∀ c,o.op≠.defer c:=fun c hc=>by
         rw [hc] at hex;rcases defer_kind hex with h | ⟨d,h⟩ <;> cases h
        rw [semAt_eq hnd,hrun];exact hQ μ w x _ (.refl h) ha (.panic hv)
       ·cases e
       ·cases e
end Go.Am

namespace Go.Am
open Go
variable {P:Program} {T:Tab} {μ:Mu} {H:Heap} {w:World}
theorem initT_get:∀ (vs:List V) (i:Nat) (t:Tr V) (j:Nat),(initT vs i t).get j=if i≤j∧j<i+vs.length then vs[j - i]? else t.get j
 | [],i,t,j=>by simp only [initT,List.length_nil,Nat.add_zero];rw [if_neg (by omega)]
 | v::vs,i,t,j=>by
   simp only [initT];rw [initT_get vs (i+1),Tr.get_set]
   by_cases h1:i+1≤j∧j<i+1+vs.length
   ·rw [if_pos h1,if_pos (by simp only [List.length_cons];omega)];have:j - i=(j - (i+1))+1:=by omega
    rw [this];simp
   ·rw [if_neg h1]
    by_cases h2:i=j
    ·subst h2;simp
    ·rw [if_neg h2,if_neg (by simp only [List.length_cons];omega)]
theorem start_rel {as:List V} {us:List Value} {n:Nat} (h:RVL μ as us) (hn:as.length≤n) :
  AR μ (start as n) { tmps:=(⟨us⟩:Array Value)++Array.replicate (n - us.length) Go.undef,defers:=[] }:=by
 have hl:=h.length;refine ⟨⟨?_,fun i=>?_⟩,.nil⟩
 ·simp [start];omega
 ·show RV μ ((((initT as 0 .leaf).get i)).getD undefV) _;rw [initT_get];rw [Array.getD_eq_getD_getElem?,Array.getElem?_append]
  by_cases hi:i<as.length
  ·rw [if_pos ⟨Nat.zero_le _,by omega⟩,if_pos (by simp;omega)];have h1:as[i]?=some as[i]:=List.getElem?_eq_getElem hi;obtain ⟨u,hu,hr⟩:=h.get h1;have h2:(⟨us⟩:Array Value)[i]?=some u:=by simpa using hu
   simp only [Nat.sub_zero,h1,h2,Option.getD_some];exact hr
  ·rw [if_neg (by omega),if_neg (by simp;omega)]
   have:(Array.replicate (n - us.length) Go.undef)[i - (⟨us⟩:Array Value).size]?.getD Go.undef=Go.undef:=by
    rw [Array.getElem?_replicate];split <;> rfl
   rw [this];simp only [Tr.get_leaf,Option.getD_none];exact .undef μ
def resOne (tmps:Array Value):ResultVar→Sem Value
 | .tmp t=>pure (tmps.getD t Go.undef)
 | .cell p t=>do Go.loadVar t (← asAddr (tmps.getD p Go.undef))
theorem results_eq (fn:Func) (tmps:Array Value):Go.results fn tmps=(do
  let vs ← fn.results.mapM (resOne tmps)
  pure (if h:vs.size=1 then vs[0] else .tuple vs)):=by
 unfold Go.results
 congr 2
theorem run_results_list (hT:TabOk P T) (h:Sim μ H w) {a:A} {x:Act} (ha:AR μ a x):∀ (rs:List ResultVar) (vs:List V),results T H a rs=some vs →
  ∃ us:List Value,RVL μ vs us∧(rs.mapM (resOne x.tmps)).run P w=.ok us w
 | [],vs,e=>by
   simp only [results,Option.some.injEq] at e;subst e;exact ⟨[],.nil,rfl⟩
 | .tmp t::rs,vs,e=>by
   simp only [results] at e;split at e
   ·rename_i vs' hvs
    cases e
    obtain ⟨us,h1,h2⟩:=run_results_list hT h ha rs vs' hvs;refine ⟨_,.cons (ha.tmps.get t) h1,?_⟩;rw [List.mapM_cons];simp only [resOne,Sem.run_bind,Sem.run_pure,Result.andThen_ok,h2]
   ·cases e
 | .cell p t::rs,vs,e=>by
   simp only [results] at e;split at e
   ·rename_i l o hp;split at e
    ·rename_i v vs' hv hvs
     cases e
     obtain ⟨us,h1,h2⟩:=run_results_list hT h ha rs vs' hvs;have hr:=ha.tmps.get p;unfold A.tmp at hp;rw [hp] at hr;generalize hq:x.tmps.getD p Go.undef=q at hr
     cases hr with
     | ptr hm =>
     obtain ⟨u,hu,hv'⟩:=run_loadVar (P:=P) hT h hv hm;refine ⟨u::us,.cons hv' h1,?_⟩;rw [List.mapM_cons];simp only [resOne,Sem.run_bind,hq,asAddr,Sem.run_pure,Result.andThen_ok,hu,h2]
    ·cases e
   ·cases e
theorem pack_rel {vs:List V} {us:List Value} (h:RVL μ vs us):RV μ (pack vs) (if h:us.toArray.size=1 then us.toArray[0] else .tuple us.toArray):=by
 cases h with
 | nil=>exact .tuple .nil
 | cons h1 t=>cases t with
   | nil=>exact h1
   | cons h2 t2 =>
     rw [dif_neg (by simp)];exact .tuple (.cons h1 (.cons h2 t2))
theorem run_results (hT:TabOk P T) (h:Sim μ H w) {a:A} {x:Act} (ha:AR μ a x) {fn:Func} {vs:List V} (e:results T H a fn.results.toList=some vs) :
  ∃ u,RV μ (pack vs) u∧(Go.results fn x.tmps).run P w=.ok u w:=by
 obtain ⟨us,h1,h2⟩:=run_results_list hT h ha _ _ e;refine ⟨_,pack_rel h1,?_⟩;rw [results_eq,Array.mapM_eq_mapM_toList];simp only [map_eq_pure_bind,bind_assoc,pure_bind,Sem.run_bind,h2,Result.andThen_ok,Sem.run_pure]
inductive MdR (μ:Mu):Md→FrameMode→Prop
 | returning:MdR μ .returning .returning
 | panicking {v:V} {u:Value} (h:RV μ v u):MdR μ (.panicking v) (.panicking [{ v:=u,recovered:=false }])
 | recovered {v:V} {u:Value} (h:RV μ v u):MdR μ (.recovered v) (.panicking [{ v:=u,recovered:=true }])
theorem MdR.mono {μ μ':Mu} (hm:∀ l x,μ l=some x→μ' l=some x) {m:Md} {u:FrameMode}:MdR μ m u→MdR μ' m u
 | .returning=>.returning
 | .panicking h=>.panicking (h.mono hm)
 | .recovered h=>.recovered (h.mono hm)
theorem MdR.run {m:Md} {u:FrameMode} (h:MdR μ m u):u≠.run:=by cases h <;> simp
theorem exec_recover {a:A} {x:Act} {o:Oper} (e:execOp T a H o.op=.recover):(Go.execOp x.eval o).run P w=.ok .recover w:=by
 rcases exec_kind e (fun h=>h) with ⟨c,hc,h⟩ | ⟨c,hc⟩ | ⟨y,ho⟩
 ·rw [exec_call_eq hc];unfold callOp at h;split at h
  ·cases h
  rename_i args hargs;split at h
  ·rename_i b hb;unfold Am.builtin at h;simp only [cond_beq] at h
   repeat' split at h
   all_goals first
    | cases h
    | (unfold OR.ofVH at h;split at h <;> cases h)
    | (unfold OR.ofV at h;split at h <;> cases h)
    | (unfold OR.ofH at h;split at h <;> cases h)
    | skip
   simp only [resolve,hb,Sem.run_bind,Sem.run_pure,Result.andThen_ok,invoke]
   have:c.args.toList=[]:=by
    cases hq:c.args.toList with
    | nil=>rfl
    | cons q qs =>
      rw [hq] at hargs;simp only [evals] at hargs;split at hargs
      ·cases hargs
      ·split at hargs <;> cases hargs
   have:c.args=#[]:=Array.toList_inj.1 this;rw [this]
   rfl
  ·split at h
   ·rcases invoked_kind h with h0 | ⟨f,as,h0⟩ <;> cases h0
   ·cases h
  ·split at h
   ·rcases callee_kind h with h0 | ⟨f,as,h0⟩ | ⟨l,as,h0⟩ <;> cases h0
   ·cases h
 ·rw [hc] at e;rcases defer_kind e with h | ⟨d,h⟩ <;> cases h
 ·rw [ho] at e;rcases panic_kind e with h | ⟨d,h⟩ <;> cases h
theorem opsD_ok (hT:TabOk P T) {ops:Array Oper} {n:Nat}:∀ (idx:List Nat) (m:Md) (a:A) (H:Heap) (ex:Ex) (m':Md) (a':A) (H':Heap),opsD T ops idx m a H=some (ex,m',a',H') →
  ∀ (μ:Mu) (w:World) (x:Act) (u:FrameMode) (c₀:Frame) (cs:List Frame) (Q:Exit→Act→List Frame→World→Prop),Sim μ H w→AR μ a x→MdR μ m u →
  (∀ μ' w' x' u',ex=.normal→Post μ H w μ' H' w'→AR μ' a' x'→a'.defers=a.defers→MdR μ' m' u'→Q .normal x' ({ c₀ with mode:=u' }::cs) w') →
  wpOpsSIn (FW none) n P ops Q idx x ({ c₀ with mode:=u }::cs) w:=by
 intro idx
 induction idx with
 | nil =>
   intro m a H ex m' a' H' e μ w x u c₀ cs Q h ha hm hQ;simp only [opsD,Option.some.injEq,Prod.mk.injEq] at e;obtain ⟨rfl,rfl,rfl,rfl⟩:=e;exact hQ μ w x u rfl (.refl h) ha rfl hm
 | cons i rest ih =>
   intro m a H ex m' a' H' e μ w x u c₀ cs Q h ha hm hQ;unfold opsD at e
   cases ho:ops[i]? with
   | none=>rw [ho] at e;cases e
   | some o =>
     rw [ho] at e;dsimp only at e;simp only [wpOpsSIn,ho];refine ⟨fun _ _=>trivial,?_⟩;have hw:=wanted_eq ops ha o
     have next:∀ {v:V} {y:Value} {μ1:Mu} {w1:World} {H1:Heap} {m1:Md} {u1:FrameMode},opsD T ops rest m1 (a.put o.dst v) H1=some (ex,m',a',H')→RV μ1 v y→Post μ H w μ1 H1 w1→MdR μ1 m1 u1 →
       wpOpsSIn (FW none) n P ops Q rest (x.put o.dst y) ({ c₀ with mode:=u1 }::cs) w1:=by
      intro v y μ1 w1 H1 m1 u1 e1 hv hp hm1;refine ih _ _ _ _ _ _ _ e1 μ1 w1 (x.put o.dst y) u1 c₀ cs Q hp.sim ((ha.mono (hp.ext h)).put hv _) hm1 fun μ' w' x' u' hex hp' ha' hd' hm'=>hQ μ' w' x' u' hex (hp.trans hp') ha' ?_ hm';rw [hd'];cases o.dst <;> rfl
     cases hwt:wanted ops a o with
     | false =>
       rw [hwt] at e hw;simp only [cond_false] at e;rw [if_neg (by rw [hw];simp)];exact next e (RV.undef μ) (.refl h) hm
     | true =>
       rw [hwt] at e hw;simp only [cond_true] at e;rw [if_pos hw];split at e
       ·rename_i v H1 hex;obtain ⟨y,w1,μ1,h1,h2,h3⟩:=exec_made (P:=P) hT h ha hex;rcases h1 with h1 | ⟨h1,rfl⟩
        ·rw [h1];exact next e h2 h3 (hm.mono (h3.ext h))
        ·rw [h1];exact next e h2 h3 (hm.mono (h3.ext h))
       ·rename_i hex;rw [exec_recover (P:=P) (w:=w) (x:=x) hex]
        cases hm with
        | panicking hv =>
          simp only [recoverD];exact next e hv (.refl h) (.recovered hv)
        | returning =>
          simp only [recoverD];exact next e .nilIface (.refl h) .returning
        | recovered hv =>
          simp only [recoverD];exact next e .nilIface (.refl h) (.recovered hv)
       ·cases e
theorem evD_ok (hT:TabOk P T) {n:Nat}:∀ (k:Nat) (c:Code) (m:Md) (a:A) (H:Heap) (ex:Ex) (m':Md) (a':A) (H':Heap),evD T k c m a H=some (ex,m',a',H') →
  ∀ (μ:Mu) (w:World) (x:Act) (u:FrameMode) (c₀:Frame) (cs:List Frame) (Q:Exit→Act→List Frame→World→Prop),Sim μ H w→AR μ a x→MdR μ m u →
  (∀ μ' w' x' u' e',((ex=.normal∧e'=.normal)∨(ex=.ret∧e'=.ret))→Post μ H w μ' H' w'→AR μ' a' x'→a'.defers=a.defers→MdR μ' m' u'→Q e' x' ({ c₀ with mode:=u' }::cs) w') →
  c.wpSIn (FW none) n P Q x ({ c₀ with mode:=u }::cs) w:=by
 intro k
 induction k with
 | zero=>intro c m a H ex m' a' H' e;simp [evD] at e
 | succ k ih =>
   intro c m a H ex m' a' H' e μ w x u c₀ cs Q h ha hm hQ;unfold evD at e;split at e
   ·simp only [Option.some.injEq,Prod.mk.injEq] at e;obtain ⟨rfl,rfl,rfl,rfl⟩:=e;exact wpSIn_of_wpIn rfl (wpIn_skip (hQ μ w x u _ (.inl ⟨rfl,rfl⟩) (.refl h) ha rfl hm))
   ·simp only [Option.some.injEq,Prod.mk.injEq] at e;obtain ⟨rfl,rfl,rfl,rfl⟩:=e;exact wpSIn_of_wpIn rfl (wpIn_ret (hQ μ w x u _ (.inr ⟨rfl,rfl⟩) (.refl h) ha rfl hm))
   ·rename_i y z;apply wpSIn_seq;split at e
    ·rename_i m1 a1 H1 h1;refine ih _ _ _ _ _ _ _ _ h1 μ w x u c₀ cs _ h ha hm ?_;intro μ1 w1 x1 u1 e1 he1 hp1 ha1 hd1 hm1;rcases he1 with ⟨_,rfl⟩ | ⟨hh,_⟩
     ·refine ih _ _ _ _ _ _ _ _ e μ1 w1 x1 u1 c₀ cs Q hp1.sim ha1 hm1 ?_;intro μ2 w2 x2 u2 e2 he2 hp2 ha2 hd2 hm2;exact hQ μ2 w2 x2 u2 e2 he2 (hp1.trans hp2) ha2 (hd2.trans hd1) hm2
     ·cases hh
    ·rename_i hn;refine ih _ _ _ _ _ _ _ _ e μ w x u c₀ cs _ h ha hm ?_;intro μ1 w1 x1 u1 e1 he1 hp1 ha1 hd1 hm1;rcases he1 with ⟨rfl,rfl⟩ | ⟨rfl,rfl⟩
     ·exact absurd e (hn _ _ _)
     ·exact hQ μ1 w1 x1 u1 _ (.inr ⟨rfl,rfl⟩) hp1 ha1 hd1 hm1
   ·rename_i cnd y z;split at e
    ·rename_i hc;have hv:=ha.eval hc;generalize hq:x.eval cnd=q at hv
     cases hv
     exact wpSIn_cond hq (ih _ _ _ _ _ _ _ _ e μ w x u c₀ cs Q h ha hm hQ)
    ·rename_i hc;have hv:=ha.eval hc;generalize hq:x.eval cnd=q at hv
     cases hv
     exact wpSIn_cond hq (ih _ _ _ _ _ _ _ _ e μ w x u c₀ cs Q h ha hm hQ)
    ·cases e
   ·apply wpSIn_region;refine opsD_ok hT _ _ _ _ _ _ _ _ e μ w x u c₀ cs Q h ha hm ?_;intro μ' w' x' u' hex hp ha' hd hm';exact hQ μ' w' x' u' _ (.inl ⟨hex,rfl⟩) hp ha' hd hm'
   ·cases e
theorem callD_ok (hT:TabOk P T) {k:Nat} {f:FuncId} {args:List V} {m m':Md} {H':Heap} (e:callD T k f args m H=some (m',H')) (h:Sim μ H w) {us:List Value} (hr:RVL μ args us) {u:FrameMode} (hm:MdR μ m u) :
  CallsDIn (FW none) 0 P f ⟨us⟩ u w (fun e' u' w'=>∃ v,e'=.returned v∧∃ μ',Post μ H w μ' H' w'∧MdR μ' m' u')∧(callFunc f ⟨us⟩).run P w=.ok (.enter f ⟨us⟩) w:=by
 unfold callD at e;split at e
 ·cases e
 rename_i fn hf;split at e
 ·cases e
 rename_i c hb;rw [cond_ble] at e;split at e
 ·rename_i hle
  have hend:∀ ex a' ,evD T k c m (start args fn.ntmps) H=some (ex,m',a',H')→fn.results.isEmpty=true→CallsDIn (FW none) 0 P f ⟨us⟩ u w (fun e' u' w'=>∃ v,e'=.returned v∧∃ μ',Post μ H w μ' H' w'∧MdR μ' m' u'):=by
   intro ex a' h1 hre;have hne:fn.results=#[]:=by simpa using hre
   refine callsDIn_of_wpSIn (hT.func _ _ hf).1 hb trivial fun c₀ cs hu=>?_;have hc:({ c₀ with mode:=u }:Frame)=c₀:=by subst hu;rfl
   have:=evD_ok (P:=P) (n:=0) hT _ _ _ _ _ _ _ _ _ h1 μ w _ u c₀ cs (bodyPostS P fn c₀ cs (fun e' u' w'=>∃ v,e'=.returned v∧∃ μ',Post μ H w μ' H' w'∧MdR μ' m' u')) h (start_rel hr hle) hm ?_
   ·rw [hc] at this;exact this
   ·intro μ' w' x' u' e' he hp ha' hd hm'
    have hd0:x'.defers=[]:=by
     have h2:=ha'.defers;rw [hd] at h2;simp only [start] at h2;generalize x'.defers=q at h2
     cases h2;rfl
    have hres:(Go.results fn x'.tmps).run P w'=.ok (.tuple #[]) w':=by
     rw [results_eq,hne,Array.mapM_eq_mapM_toList];simp [Sem.run_bind,Sem.run_pure,Result.andThen_ok]
    rcases he with ⟨_,rfl⟩ | ⟨_,rfl⟩
    ·exact ⟨hd0,u',rfl,_,hres,_,rfl,μ',hp,hm'⟩
    ·exact ⟨hd0,u',rfl,_,hres,_,rfl,μ',hp,hm'⟩
  refine ⟨?_,run_callFunc hT hf hb ⟨us⟩⟩;split at e
  ·rename_i m1 a1 H1 h1
   cases hre:fn.results.isEmpty with
   | false=>rw [hre] at e;cases e
   | true=>rw [hre] at e;cases e;exact hend _ _ h1 hre
  ·rename_i m1 a1 H1 h1
   cases hre:fn.results.isEmpty with
   | false=>rw [hre] at e;cases e
   | true=>rw [hre] at e;cases e;exact hend _ _ h1 hre
  ·cases e
 ·cases e
theorem MdR.settle {m:Md} {u:FrameMode} (h:MdR μ m u):MdR μ m.settle (Go.settle u):=by
 cases h with
 | returning=>exact .returning
 | panicking h=>exact .panicking h
 | recovered h=>exact .returning
theorem leave_ok (hT:TabOk P T) {k:Nat} {fn:Func} {a:A} {x:Act} {R:Ending→World→Prop}:∀ (ds:List D) (m:Md) (H:Heap) (μ:Mu) (w:World) (u:FrameMode) (es:List Deferred),leave T k fn a ds m H≠.stuck→(∀ v,m≠.recovered v) →
  Sim μ H w→AR μ a x→MdR μ m u→DRL μ ds es→(∀ e w',CallPost μ H w (leave T k fn a ds m H) e w'→R e w')→LeavesInM (FW none) 0 P fn x.tmps R es u w:=by
 intro ds
 induction ds with
 | nil =>
   intro m H μ w u es hne hnr h ha hm hds hR
   cases hds
   show LeavesIn _ _ _ _ _ _ [] u w
   cases hm with
   | panicking hv =>
     exact hR _ _ ⟨μ,hv,.refl h⟩
   | returning =>
     unfold leave at hne hR
     cases hr:results T H a fn.results.toList with
     | none=>rw [hr] at hne;exact absurd rfl hne
     | some vs =>
       obtain ⟨y,hy,hrun⟩:=run_results (P:=P) hT h ha hr;rw [hr] at hR;exact ⟨y,hrun,hR (.returned y) w ⟨μ,hy,.refl h⟩⟩
   | recovered hv=>exact absurd rfl (hnr _)
 | cons d ds ih =>
   intro m H μ w u es hne hnr h ha hm hds hR
   cases hds with
   | cons hd hds =>
   rename_i dd es;refine ⟨hm.run,?_⟩
   cases hd with
   | collected hmr =>
     left
     simp only [leave] at hne hR;split at hne
     ·rename_i hget;rw [hget] at hR;dsimp only at hR;obtain ⟨b',x',y',e1,e2,_⟩:=h.obj _ _ hget;rw [hmr] at e1;cases e1;have htk:=run_takeDeferred (P:=P) e2
      have hp:Post μ H w μ (H.put _ (.deferred none)) (w.putObj _ (.deferred none)):=
       Post.turn h hget rfl hmr (.deferred none) ⟨_,_,_,hmr,World.putObj_heap_same (by
        rcases Nat.lt_or_ge _ w.heap.size with h' | h'
        ·exact h'
        ·rw [Array.getElem?_eq_none h'] at e2;cases e2),by simp⟩
      refine ⟨_,_,rfl,htk,ih _ _ μ _ u es hne hnr hp.sim ha hm hds ?_⟩;intro e w' hc;refine hR e w' ?_
      revert hc
      unfold CallPost;split
      ·exact fun ⟨μ',q1,q2⟩=>⟨μ',q1,hp.trans q2⟩
      ·exact fun ⟨μ',q1,q2⟩=>⟨μ',q1,hp.trans q2⟩
      ·exact id
     ·exact absurd rfl hne
   | fn hargs =>
     right
     rename_i g args as cap;simp only [leave] at hne hR;split at hne
     ·rename_i m1 H1 hcall;rw [hcall] at hR;dsimp only at hR;obtain ⟨hcd,hcf⟩:=callD_ok (P:=P) hT hcall h hargs hm;refine ⟨fun q=>by simp [FW] at q,.func g,⟨cap⟩,g,⟨as++cap⟩,rfl,?_,fun _ _=>trivial,?_⟩
      ·simp only [invoke];have:(⟨as⟩:Array Value)++⟨cap⟩=⟨as++cap⟩:=by apply Array.toList_inj.1;simp
       rw [this];exact hcf
      ·refine hcd.mono ?_;rintro e' u' w' ⟨v,rfl,μ1,hp,hm1⟩;refine ih _ _ μ1 w' _ es hne (by cases m1 <;> simp [Md.settle]) hp.sim (ha.mono (hp.ext h)) hm1.settle (hds.mono (hp.ext h)) ?_;intro e w'' hc;refine hR e w'' ?_
       revert hc
       unfold CallPost;split
       ·exact fun ⟨μ',q1,q2⟩=>⟨μ',q1,hp.trans q2⟩
       ·exact fun ⟨μ',q1,q2⟩=>⟨μ',q1,hp.trans q2⟩
       ·exact id
     ·exact absurd rfl hne
end Go.Am

namespace Go.Am
open Go
variable {P:Program} {T:Tab} {μ:Mu} {H:Heap} {w:World}
def PrimOk (P:Program) (T:Tab):Prop:=∀ (f:FuncId) (g:List V→Heap→Option (V×Heap)),T.prim f=some g→∀ (as:List V) (H:Heap) (v:V) (H':Heap),g as H=some (v,H') →
 ∀ (μ:Mu) (w:World) (us:List Value),Sim μ H w→RVL μ as us→Entered P μ H w f us (.returned v H')
theorem CallPost.before {μ1:Mu} {H1:Heap} {w1:World} {r:CR} {e:Ending} {w':World} (hp:Post μ H w μ1 H1 w1) (h:CallPost μ1 H1 w1 r e w'):CallPost μ H w r e w':=by
 revert h
 unfold CallPost;split
 ·exact fun ⟨μ',q1,q2⟩=>⟨μ',q1,hp.trans q2⟩
 ·exact fun ⟨μ',q1,q2⟩=>⟨μ',q1,hp.trans q2⟩
 ·exact id
theorem enter_ok (hT:TabOk P T) {ev:Ev} (hev:EvOk P ev) {fuel:Nat} {f:FuncId} {as:List V} {H:Heap} (hne:enter T ev fuel f as H≠.stuck) {μ:Mu} {w:World} {us:List Value} (h:Sim μ H w) (hr:RVL μ as us) :
  CallsIn (FW none) 0 P f ⟨us⟩ w (CallPost μ H w (enter T ev fuel f as H))∧(callFunc f ⟨us⟩).run P w=.ok (.enter f ⟨us⟩) w:=by
 have hne0:=hne;unfold enter at hne;split at hne
 ·exact absurd rfl hne
 rename_i fn hf;split at hne
 ·exact absurd rfl hne
 rename_i c hb;rw [cond_ble] at hne;split at hne
 ·rename_i hle;refine ⟨?_,run_callFunc hT hf hb ⟨us⟩⟩;refine callsIn_of_wp_marks (hT.func _ _ hf).1 hb trivial ?_;have hs:=start_rel hr hle;split at hne
  ·rename_i a H' he;refine hev none c _ H _ _ _ he μ w _ none _ h hs .out ?_;intro μ' w' x' e' hp ha hx
   cases hx
   refine leave_ok hT _ _ H' μ' w' _ _ hne (by simp) hp.sim ha .returning ha.defers ?_;intro e w'' hc
   have:enter T ev fuel f as H=leave T fuel fn a a.defers .returning H':=by
    unfold enter;simp only [hf,hb,cond_ble,if_pos hle,he]
   rw [this];exact hc.before hp
  ·rename_i a H' he;refine hev none c _ H _ _ _ he μ w _ none _ h hs .out ?_;intro μ' w' x' e' hp ha hx
   cases hx
   refine leave_ok hT _ _ H' μ' w' _ _ hne (by simp) hp.sim ha .returning ha.defers ?_;intro e w'' hc
   have:enter T ev fuel f as H=leave T fuel fn a a.defers .returning H':=by
    unfold enter;simp only [hf,hb,cond_ble,if_pos hle,he]
   rw [this];exact hc.before hp
  ·rename_i v a H' he;refine hev none c _ H _ _ _ he μ w _ none _ h hs .out ?_;intro μ' w' x' e' hp ha hx
   cases hx with
   | panic hv =>
   refine leave_ok hT _ _ H' μ' w' _ _ hne (by simp) hp.sim ha (.panicking hv) ha.defers ?_;intro e w'' hc
   have:enter T ev fuel f as H=leave T fuel fn a a.defers (.panicking v) H':=by
    unfold enter;simp only [hf,hb,cond_ble,if_pos hle,he]
   rw [this];exact hc.before hp
  ·exact absurd rfl hne
 ·exact absurd rfl hne
theorem calls_ok (hT:TabOk P T) (hP:PrimOk P T) {ev:Ev} (hev:EvOk P ev) {fuel:Nat}:CallOk P T (calls T ev fuel):=by
 intro f as H hne μ w us h hr
 cases hg:T.prim f with
 | some g =>
   cases hgv:g as H with
   | some p =>
     obtain ⟨v,H'⟩:=p;have:calls T ev fuel f as H=.returned v H':=by unfold calls;rw [hg];dsimp only;rw [hgv]
     rw [this];exact ⟨hP f g hg as H v H' hgv μ w us h hr,fun h0=>by cases h0⟩
   | none =>
     refine absurd ?_ hne;unfold calls;rw [hg];dsimp only;rw [hgv]
 | none =>
   have:calls T ev fuel f as H=enter T ev fuel f as H:=by unfold calls;rw [hg]
   rw [this] at hne ⊢;have:=enter_ok hT hev hne h hr;exact ⟨.inl this,fun _=>this⟩
theorem zip_put {ps:List Tmp} {as:List V} {us:List Value} (hr:RVL μ as us):∀ {t:Ts} {x:Array Value},TsR μ t x→TsR μ ((ps.zip as).foldl (fun t (x:Tmp×V)=>t.put x.1 x.2) t) ((ps.zip us).foldl (fun tmps (y:Tmp×Value)=>tmps.setIfInBounds y.1 y.2) x):=by
 induction ps generalizing as us with
 | nil=>intro t x h;simpa using h
 | cons p ps ih =>
   intro t x h
   cases hr with
   | nil=>simpa using h
   | cons h1 h2=>simpa using ih h2 (h.put h1 p)
theorem lt_of_get {b:Nat} {z:Obj} (e:w.heap[b]?=some z):b<w.heap.size:=by
 rcases Nat.lt_or_ge b w.heap.size with h' | h'
 ·exact h'
 ·rw [Array.getElem?_eq_none h'] at e;cases e
theorem turn_loop (h:Sim μ H w) {l:Nat} {st st':LoopState} {p p':Option Code} {fn:FuncId} {tmps:Ts} {ps:List Tmp} {as bo:Code} {ds b y z:Nat} {r:Loop} (hl:H.get l=some (.loop st p fn tmps ps as bo ds)) (hm:μ l=some (b,y,z)) (hb:w.heap[b]?=some (.loop r)) :
  Post μ H w μ (H.put l (.loop st' p' fn tmps ps as bo ds)) (w.putObj b (.loop { r with state:=st',pending:=p' })):=by
 obtain ⟨b',y',z',r',db,q1,q2,e1,e2,e3,e4,e5,e6,e7,e8,e9,e10⟩:=h.obj _ _ hl;rw [hm] at e1;cases e1;rw [hb] at e2;cases e2;exact Post.turn h hl rfl hm _ ⟨_,_,_,_,db,q1,q2,hm,World.putObj_heap_same (lt_of_get hb),rfl,rfl,e5,e6,e7,e8,e9,e10⟩
noncomputable def roundOut (H2:Heap) (l:Nat) (fn2:FuncId) (tmps2:Ts) (ps2:List Tmp) (as2 bo2:Code) (ds2:Nat):Ex→CR
 | .normal=>.returned (.bool true) (H2.put l (.loop .ready none fn2 tmps2 ps2 as2 bo2 ds2))
 | .ret=>.returned (.bool false) (H2.put l (.loop .done (some .ret) fn2 tmps2 ps2 as2 bo2 ds2))
 | .exit id=>.returned (.bool false) (H2.put l (.loop .done (some (.exit id)) fn2 tmps2 ps2 as2 bo2 ds2))
 | _=>.stuck
theorem round_end {b:Nat} {r:Loop} {j:Option Code} (hm:w.heap[b]?=some (.loop r)):(Instr.endRound b j).run P w=.ok (.bool j.isNone) (w.putObj b (.loop { r with state:=if j.isNone then .ready else .done,pending:=j })):=run_endRound j hm
theorem round_ok {ev:Ev} (hev:EvOk P ev):RoundOk P (round ev):=by
 intro l as H hne μ w us b y z h hr hm;have hne0:=hne;unfold round at hne;split at hne
 ·rename_i p fn tmps params assign body ds hl;rw [cond_beq] at hne;split at hne
  ·rename_i hlen;obtain ⟨b',y',z',r,db,q1,q2,e1,e2,e3,e4,e5,e6,e7,e8,e9,e10⟩:=h.obj _ _ hl;rw [hm] at e1;cases e1
   have hsz:(⟨us⟩:Array Value).size=r.params.size:=by
    have h1:=hr.length;have h2:r.params.size=params.length:=by rw [← e6];simp
    simp;omega
   refine ⟨r.fn,_,r.assign,r.body,run_yield e2 hsz,?_⟩
   have hz:TsR μ ((params.zip as).foldl (fun t (x:Tmp×V)=>t.put x.1 x.2) tmps) ((r.params.zip ⟨us⟩).foldl (fun tmps (t,a)=>tmps.setIfInBounds t a) r.tmps):=by
    have:=zip_put (ps:=params) hr e5;rw [← Array.foldl_toList,Array.toList_zip,e6];exact this
   refine roundIn_of_wpIn trivial ?_;dsimp only at hne;split at hne
   ·rename_i a1 H1 he1;rw [e7];refine hev (some l) assign _ H _ _ _ he1 μ w _ (some b) _ h ⟨hz,.nil⟩ (.within hm) ?_;intro μ1 w1 x1 ex1 hp1 ha1 hx1
    cases hx1
    have hm1:=hp1.ext h _ _ hm;split at hne
    ·rename_i p1 fn1 tmps1 ps1 as1 bo1 ds1 hl1;obtain ⟨b1,y1,z1,r1,db1,q11,q21,f1,f2,f3,f4,f5,f6,f7,f8,f9,f10⟩:=hp1.sim.obj _ _ hl1;rw [hm1] at f1;cases f1;refine ⟨_,run_beginRound f2 f3,?_⟩
     have hpt:Post μ1 H1 w1 μ1 (H1.put l (.loop .busy p1 fn1 tmps1 ps1 as1 bo1 ds1)) (w1.putObj b (.loop { r1 with state:=.busy })):=by
      have:=turn_loop hp1.sim (st':=.busy) (p':=p1) hl1 hm1 f2;rw [show ({ r1 with state:=.busy }:Loop)={ r1 with state:=.busy,pending:=p1 } by rw [← f4]];exact this
     split at hne
     ·rename_i e a2 H2 he2;rw [e8];refine hev (some l) body _ _ _ _ _ he2 μ1 _ x1 (some b) _ hpt.sim ha1 (.within hm1) ?_;intro μ2 w2 x2 ex2 hp2 ha2 hx2;have hm2:=hp2.ext hpt.sim _ _ hm1;have hall:=(hp1.trans hpt).trans hp2;split at hne
      ·rename_i p2 fn2 tmps2 ps2 as2 bo2 ds2 hl2;obtain ⟨b2,y2,z2,r2,db2,q12,q22,g1,g2,g3,g4,g5,g6,g7,g8,g9,g10⟩:=hp2.sim.obj _ _ hl2;rw [hm2] at g1;cases g1
       have hrd:round ev l as H=roundOut H2 l fn2 tmps2 ps2 as2 bo2 ds2 e:=by
        unfold round;rw [hl];dsimp only;rw [cond_beq,if_pos hlen,he1];dsimp only;rw [hl1];dsimp only;rw [he2];dsimp only;rw [hl2]
        cases e <;> rfl
       rw [hrd];split at hne
       ·cases hx2
        exact ⟨_,_,round_end g2,μ2,.bool true,hall.trans (turn_loop hp2.sim hl2 hm2 g2)⟩
       ·cases hx2
        exact ⟨_,_,round_end g2,μ2,.bool false,hall.trans (turn_loop hp2.sim hl2 hm2 g2)⟩
       ·cases hx2
        exact ⟨_,_,round_end g2,μ2,.bool false,hall.trans (turn_loop hp2.sim hl2 hm2 g2)⟩
       ·exact absurd rfl hne
      ·exact absurd rfl hne
     ·exact absurd rfl hne
    ·exact absurd rfl hne
   ·exact absurd rfl hne
  ·exact absurd rfl hne
 ·exact absurd rfl hne
end Go.Am

namespace Go.Am
open Go
variable {P:Program} {T:Tab} {μ:Mu} {H:Heap} {w:World}
section
variable {F:Fence} {n:Nat} {Q:Exit→Act→World→Prop} {a:Act} {b:Frame} {k:List Item} {cs:List Frame}
theorem stepR_scope' {c:Code}:Go.step P (lone (b.atR a (.code (.scope c)::k)) cs w)=.next (lone (b.atR a (.code c::.inScope c::k)) cs w):=
 step_lone_go (by simp [stepG,stepG.exec,Frame.atR])
theorem stepR_inScope' {c:Code}:Go.step P (lone (b.atR a (.inScope c::k)) cs w)=.next (lone (b.atR a k) cs w):=
 step_lone_go (by simp [stepG,stepG.exec,Frame.atR])
theorem wpIn_scope' {c:Code} (h:c.wpIn F n P (Exit.noGoto Q) a w):(Code.scope c).wpIn F n P Q a w:=by
 intro b k cs hro hb hr;have h0:(lone (b.atR a (.code (.scope c)::k)) cs w).fenced P F:=fenced_calm hb hr rfl;obtain ⟨e,a₁,w₁,hq,harr⟩:=h b (.inScope c::k) cs hro hb hr;have hx:∀ id,exitTo id (.inScope c::k)=exitTo id k:=fun id=>by simp [exitTo]
 cases e with
 | normal=>exact ⟨.normal,a₁,w₁,hq,.head h0 stepR_scope' (StepsIn.trans harr (.one (fenced_calm hb hr rfl) stepR_inScope'))⟩
 | exit id=>exact ⟨.exit id,a₁,w₁,hq,fun k' hk=>.head h0 stepR_scope' (harr.1 k' (by rw [hx];exact hk)),
    fun hr' hk=>let ⟨k₁,h1,h2⟩:=harr.2 hr' (by rw [hx];exact hk);⟨k₁,h1,.head h0 stepR_scope' h2⟩⟩
 | goto l=>exact hq.elim
 | ret=>exact ⟨_,a₁,w₁,hq,.of_steps (.one h0 stepR_scope') harr⟩
 | panic ch=>exact ⟨_,a₁,w₁,hq,.of_steps (.one h0 stepR_scope') harr⟩
 | outgrown=>exact ⟨_,a₁,w₁,hq,.of_steps (.one h0 stepR_scope') harr⟩
end
def DrawOk (P:Program) (T:Tab) (ev:Ev) (fuel:Nat):Prop:=∀ (id:Nat) (ops:Array Oper) (a:A) (H:Heap) (a':A) (H':Heap),drawOk ops=true→H.clean ops.size=true →
 runDraw T ev fuel ops (Region.before ops) H.n (sched ops (Region.before ops)) [] a (H.keep ops.size)=some (a',H') →
 ∀ (μ:Mu) (w:World) (x:Act) (r:Option Nat) (Q:Exit→Act→World→Prop),Sim μ H w→AR μ a x →
   (∀ μ' w' x',Post μ H w μ' H' w'→AR μ' a' x'→Q .normal x' w')→(Code.region id ops true).wpIn (FW r) 0 P Q x w
theorem range_ok (hT:TabOk P T) {ev:Ev} {fuel:Nat} (hcall:CallOk P T (calls T ev fuel)) {f:Operand} {params:Array Tmp} {assign body:Code} {ρ:Option Nat} {a a':A} {ex:Ex} {H':Heap}
  (e:Am.step T ev fuel ρ (.rangeFunc f params assign body) a H=some (ex,a',H')) {x:Act} {r:Option Nat} {Q:Exit→Act→World→Prop} (h:Sim μ H w) (ha:AR μ a x) (hr:RhoR μ ρ r)
  (hQ:∀ μ' w' x' e',Post μ H w μ' H' w'→AR μ' a' x'→ExR μ' ex e'→Q e' x' w'):(Code.rangeFunc f params assign body).wpIn (FW r) 0 P Q x w:=by
 simp only [Am.step] at e;split at e
 ·cases e
 rename_i g hg;split at e
 ·cases e
 rename_i ds mark H1 hH1;apply wpIn_rangeFunc;intro fn _
 -- the record is laid
 have enter:∃ (marks:List Deferred) (w0:World) (rec:Loop) (μ0:Mu),Post μ H w μ0 H1 w0∧DRL μ0 mark marks∧(∃ db q1 q2,μ0 ds=some (db,q1,q2)∧rec.defers=db) ∧
   rec.state=.ready∧rec.pending=none∧rec.tmps=x.tmps∧rec.params=params∧rec.assign=assign∧rec.body=body ∧
   (Instr.enterLoop fn x.tmps params assign body r).run P w=.ok (w0.heap.size,marks) (w0.alloc (.loop rec)):=by
  cases hr with
  | out =>
    simp only [Option.some.injEq,Prod.mk.injEq] at hH1;obtain ⟨rfl,rfl,rfl⟩:=hH1
    have hp:Post μ H w (upd μ H.n (w.heap.size,0,0)) (H.push (.deferred (some []))) (w.alloc (.deferred (some []))):=
     Post.alloc h ⟨_,_,_,upd_same _ _ _,World.alloc_heap_new _ _,by simp⟩
    refine ⟨_,_,{ state:=.ready,pending:=none,fn:=fn,tmps:=x.tmps,params:=params,assign:=assign,body:=body,defers:=w.heap.size },_,hp,.cons (.collected (upd_same _ _ _)) .nil,⟨_,_,_,upd_same _ _ _,rfl⟩,rfl,rfl,rfl,rfl,rfl,rfl,?_⟩;rw [run_enterLoop_outer];simp only [World.size_alloc]
  | within hm =>
    dsimp only at hH1;split at hH1
    ·rename_i st p fn0 tmps0 ps0 as0 bo0 ds0 hl;simp only [Option.some.injEq,Prod.mk.injEq] at hH1;obtain ⟨rfl,rfl,rfl⟩:=hH1;obtain ⟨b',y',z',r',db,q1,q2,e1,e2,e3,e4,e5,e6,e7,e8,e9,e10⟩:=h.obj _ _ hl;rw [hm] at e1;cases e1;exact ⟨_,_,{ state:=.ready,pending:=none,fn:=fn,tmps:=x.tmps,params:=params,assign:=assign,body:=body,defers:=r'.defers },_,.refl h,.nil,⟨_,_,_,e9,e10⟩,rfl,rfl,rfl,rfl,rfl,rfl,run_enterLoop_inner e2 fn x.tmps params assign body⟩
    ·cases hH1
 obtain ⟨marks,w0,rec,μ0,hp0,hmk,⟨db,q1,q2,hds,hrd⟩,r1,r2,r3,r4,r5,r6,hen⟩:=enter;have ha0:=ha.mono (hp0.ext h)
 have hp1:Post μ0 H1 w0 (upd μ0 H1.n (w0.heap.size,0,0)) (H1.push (.loop .ready none 0 a.tmps params.toList assign body ds)) (w0.alloc (.loop rec)):=by
  have hext:=upd_ext hp0.sim (w0.heap.size,0,0);exact Post.alloc hp0.sim ⟨_,_,_,rec,db,q1,q2,upd_same _ _ _,World.alloc_heap_new _ _,r1,r2,by rw [r3];exact ha0.tmps.mono hext,by rw [r4],r5,r6,hext _ _ hds,hrd⟩
 have hp01:=hp0.trans hp1;have ha1:=ha0.mono (hp1.ext hp0.sim);split at e
 ·rename_i k args hcl;obtain ⟨first,captured,rfl,rfl⟩:=callee_call hcl;have hv:=ha1.eval hg;generalize hq:x.eval f=q at hv
  cases hv with
  | func h1 h2 =>
  rename_i u1 u2;have hyl:RVL (upd μ0 H1.n (w0.heap.size,0,0)) [.func (.yield H1.n) [] []] [.func (.yield w0.heap.size) #[] #[]]:=.cons (.yield (upd_same _ _ _)) .nil;have hargs:=(h1.append hyl).append h2;have hres:=run_value_call (P:=P) (w:=w0.alloc (.loop rec)) (c:=rangeCall f w0.heap.size) (g:=f) (ty:=0) (us:=[.func (.yield w0.heap.size) #[] #[]]) rfl hq (by simp [Act.eval])
  cases hpk:T.prim k with
  | some q=>rw [hpk] at e;cases e
  | none =>
  rw [hpk] at e;simp only [Option.isSome_none,cond_false] at e;split at e
  ·rename_i vr H2 hcr;obtain ⟨hci,hcf⟩:=(hcall k _ _ (by rw [hcr];simp) _ _ _ hp01.sim hargs).2 hpk;rw [hcr] at hci;refine ⟨w0.heap.size,marks,w0.alloc (.loop rec),{ target:=.fn (.func k) ⟨u2⟩,args:=⟨u1++[Value.func (.yield w0.heap.size) #[] #[]]⟩ },w0.alloc (.loop rec),k,⟨u1++[Value.func (.yield w0.heap.size) #[] #[]]++u2⟩,w0.alloc (.loop rec),hen,hres,fun _ _=>trivial,?_,fun hh=>by simp [FW] at hh,?_⟩
   ·simp only [invoke];rw [show (⟨u1++[Value.func (.yield w0.heap.size) #[] #[]]⟩:Array Value)++⟨u2⟩=⟨u1++[Value.func (.yield w0.heap.size) #[] #[]]++u2⟩ by apply Array.toList_inj.1;simp];exact hcf
   ·refine (callsIn_fw hci).mono ?_;intro en w2 hc
    cases en with
    | panicked ch=>exact hc.elim
    | outgrown=>exact hc.elim
    | returned u =>
    obtain ⟨μ2,_,hp2⟩:=hc;have hm2:=hp2.ext hp01.sim _ _ (upd_same μ0 H1.n (w0.heap.size,0,0));split at e
    ·rename_i st p fn2 tmps2 ps2 as2 bo2 ds2 hl2;obtain ⟨b',y',z',r',db',q1',q2',e1,e2,e3,e4,e5,e6,e7,e8,e9,e10⟩:=hp2.sim.obj _ _ hl2;rw [hm2] at e1;cases e1;have hsb:st≠.busy:=by rintro rfl;simp at e
     replace e:(match (generalizing:=false) p with
        | none=>some (Ex.normal,(⟨a.tmps,mark++a.defers⟩:A),H2.put H1.n (.loop .exhausted p fn2 tmps2 ps2 as2 bo2 ds2))
        | some .ret=>some (.ret,⟨a.tmps,mark++a.defers⟩,H2.put H1.n (.loop .exhausted p fn2 tmps2 ps2 as2 bo2 ds2))
        | some (.exit id)=>some (.exit id,⟨a.tmps,mark++a.defers⟩,H2.put H1.n (.loop .exhausted p fn2 tmps2 ps2 as2 bo2 ds2))
        | some _=>none)=some (ex,a',H'):=by
      cases st <;> first | exact absurd rfl hsb | exact e
     have hnb:r'.state≠.busy:=by rw [e3];exact hsb
     have hend:=run_endLoop (P:=P) e2 hnb
     have hp3:Post μ2 H2 w2 μ2 (H2.put H1.n (.loop .exhausted p fn2 tmps2 ps2 as2 bo2 ds2)) (w2.putObj w0.heap.size (.loop { r' with state:=.exhausted })):=by
      have:=turn_loop hp2.sim (st':=.exhausted) (p':=p) hl2 hm2 e2;rw [show ({ r' with state:=.exhausted }:Loop)={ r' with state:=.exhausted,pending:=p } by rw [← e4]];exact this
     have hall:=(hp01.trans hp2).trans hp3
     have ha':AR μ2 ⟨a.tmps,mark++a.defers⟩ { x with defers:=marks++x.defers }:=by
      have ext2:=(hp2.trans hp3).ext hp01.sim;refine ⟨(ha1.tmps.mono ext2),DRL.append ?_ (ha1.defers.mono ext2)⟩;exact (hmk.mono (hp1.ext hp0.sim)).mono ext2
     refine ⟨_,_,hend,?_⟩;rw [e4] at hall ⊢;split at e
     ·cases e
      exact hQ _ _ _ _ hall ha' .normal
     ·cases e
      exact wpIn_ret (hQ _ _ _ _ hall ha' .ret)
     ·cases e
      exact wpIn_exit (hQ _ _ _ _ hall ha' (.exit _))
     ·cases e
    ·cases e
  ·cases e
 ·cases e
theorem seq_ok {ev:Ev} (hev:EvOk P ev) {y z:Code} {ρ:Option Nat} {a a':A} {ex:Ex} {H':Heap}
  (e:(match ev ρ y a H with
   | some (.normal,a',H')=>ev ρ z a' H'
   | r=>r)=some (ex,a',H')) {x:Act} {r:Option Nat} {Q:Exit→Act→World→Prop} (h:Sim μ H w) (ha:AR μ a x) (hr:RhoR μ ρ r)
  (hQ:∀ μ' w' x' e',Post μ H w μ' H' w'→AR μ' a' x'→ExR μ' ex e'→Q e' x' w'):(Code.seq y z).wpIn (FW r) 0 P Q x w:=by
 apply wpIn_seq;split at e
 ·rename_i a1 H1 h1;refine hev ρ y a H _ _ _ h1 μ w x r _ h ha hr ?_;intro μ1 w1 x1 e1 hp1 ha1 he1
  cases he1
  refine hev ρ z a1 H1 _ _ _ e μ1 w1 x1 r _ hp1.sim ha1 (hr.mono (hp1.ext h)) ?_;intro μ2 w2 x2 e2 hp2 ha2 he2;exact hQ μ2 w2 x2 e2 (hp1.trans hp2) ha2 he2
 ·rename_i hn;refine hev ρ y a H _ _ _ e μ w x r _ h ha hr ?_;intro μ1 w1 x1 e1 hp1 ha1 he1;have hq:=hQ μ1 w1 x1 e1 hp1 ha1 he1
  cases he1 with
  | normal=>exact absurd e (hn _ _)
  | exit id=>exact hq
  | goto l=>exact hq
  | ret=>exact hq
  | panic hv=>exact hq
theorem loop_ok {N:Nat} (ih:∀ k,k≤N→EvOk P (ev T k)) {r:Option Nat} {Q:Exit→Act→World→Prop} {b:Code} {ρ:Option Nat} {ex:Ex} {a':A} {H':Heap} :
  ∀ (k:Nat),k≤N+1→∀ (a:A) (H:Heap),ev T k ρ (.loop b) a H=some (ex,a',H')→∀ (μ:Mu) (w:World) (x:Act),Sim μ H w→AR μ a x→RhoR μ ρ r →
  (∀ μ' w' x' e',Post μ H w μ' H' w'→AR μ' a' x'→ExR μ' ex e'→Q e' x' w')→∀ (fr:Frame) (kk:List Item) (cs:List Frame),fr.roundOf=r →
  ∃ e x' w',Q e x' w'∧ArrivesIn (Machine.fenced P (FW r)) P (lone (fr.atR x (.code b::.inLoop b::kk)) cs w) fr kk cs e x' w':=by
 intro k
 induction k with
 | zero=>intro _ a H e;simp [ev] at e
 | succ k ihk =>
   intro hk a H e μ w x h ha hr hQ fr kk cs hfr;rw [ev,Am.step] at e;have hb:=ih k (by omega);split at e
   ·rename_i a1 H1 h1
    obtain ⟨e1,x1,w1,⟨he1,μ1,hp1,ha1⟩,harr⟩:=hb ρ b a H _ _ _ h1 μ w x r (fun e1 x1 w1=>e1=.normal∧∃ μ1,Post μ H w μ1 H1 w1∧AR μ1 a1 x1) h ha hr
     (fun μ1 w1 x1 e1 hp1 ha1 he1=>by cases he1;exact ⟨rfl,μ1,hp1,ha1⟩) fr (.inLoop b::kk) cs hfr trivial (fw_room _ _)
    subst he1;obtain ⟨e2,x2,w2,hq,harr2⟩:=ihk (by omega) a1 H1 e μ1 w1 x1 hp1.sim ha1 (hr.mono (hp1.ext h)) (fun μ2 w2 x2 e2 hp2 ha2 he2=>hQ μ2 w2 x2 e2 (hp1.trans hp2) ha2 he2) fr kk cs hfr;exact ⟨e2,x2,w2,hq,.of_steps (StepsIn.trans harr (.one (fenced_calm (F:=FW r) (n:=0) trivial (fw_room _ _) rfl) stepR_inLoop)) harr2⟩
   ·rename_i hn
    obtain ⟨e1,x1,w1,⟨hne,hq⟩,harr⟩:=hb ρ b a H _ _ _ e μ w x r (fun e1 x1 w1=>e1≠.normal∧Q e1 x1 w1) h ha hr
     (fun μ1 w1 x1 e1 hp1 ha1 he1=>by
      refine ⟨?_,hQ μ1 w1 x1 e1 hp1 ha1 he1⟩;rintro rfl
      cases he1
      exact hn _ _ e) fr (.inLoop b::kk) cs hfr trivial (fw_room _ _)
    exact ⟨e1,x1,w1,hq,.pass (x:=.inLoop b) rfl (fun _ _=>.inl hne) harr⟩
theorem ev_ok (hT:TabOk P T) (hP:PrimOk P T) (hD:∀ (ev:Ev) (fuel:Nat),CallOk P T (calls T ev fuel)→RoundOk P (round ev)→DrawOk P T ev fuel):∀ n,EvOk P (ev T n):=by
 intro n
 induction n using Nat.strongRecOn with
 | _ n ih =>
 cases n with
 | zero=>intro ρ c a H ex a' H' e;simp [ev] at e
 | succ n =>
 have hev:=ih n (by omega);have hcall:=calls_ok hT hP hev (fuel:=n);have hround:=round_ok hev;intro ρ c a H ex a' H' e μ w x r Q h ha hr hQ;have e0:=e;rw [ev] at e;have e1:=e;unfold Am.step at e;split at e
 ·cases e;exact wpIn_skip (hQ _ _ _ _ (.refl h) ha .normal)
 ·cases e;exact wpIn_label (hQ _ _ _ _ (.refl h) ha .normal)
 ·cases e;exact wpIn_ret (hQ _ _ _ _ (.refl h) ha .ret)
 ·cases e;exact wpIn_exit (hQ _ _ _ _ (.refl h) ha (.exit _))
 ·exact seq_ok hev e h ha hr hQ
 ·rename_i cnd y z;split at e
  ·rename_i hc;have hv:=ha.eval hc;generalize hq:x.eval cnd=q at hv
   cases hv
   exact wpIn_cond_true hq (hev ρ y a H _ _ _ e μ w x r Q h ha hr hQ)
  ·rename_i hc;have hv:=ha.eval hc;generalize hq:x.eval cnd=q at hv
   cases hv
   exact wpIn_cond_false hq (hev ρ z a H _ _ _ e μ w x r Q h ha hr hQ)
  ·cases e
 ·rename_i id b;apply wpIn_block;split at e
  ·rename_i j a1 H1 h1;rw [cond_beq] at e;split at e
   ·rename_i hj
    cases e
    refine hev ρ b a H _ _ _ h1 μ w x r _ h ha hr ?_;intro μ1 w1 x1 e1 hp1 ha1 he1
    cases he1
    simp only [Exit.inBlock,hj,if_true];exact hQ μ1 w1 x1 _ hp1 ha1 .normal
   ·rename_i hj
    cases e
    refine hev ρ b a H _ _ _ h1 μ w x r _ h ha hr ?_;intro μ1 w1 x1 e1 hp1 ha1 he1
    cases he1
    simp only [Exit.inBlock,if_neg hj];exact hQ μ1 w1 x1 _ hp1 ha1 (.exit _)
  ·rename_i hn;refine hev ρ b a H _ _ _ e μ w x r _ h ha hr ?_;intro μ1 w1 x1 e1 hp1 ha1 he1;have hq:=hQ μ1 w1 x1 e1 hp1 ha1 he1
   cases he1 with
   | normal=>exact hq
   | exit id=>exact absurd e (hn _ _ _)
   | goto l=>exact hq
   | ret=>exact hq
   | panic hv=>exact hq
 ·rename_i b;intro fr kk cs hro hb hroom;obtain ⟨e',x',w',hq,harr⟩:=loop_ok (P:=P) (T:=T) (N:=n) (fun k hk=>ih k (by omega)) (n+1) (Nat.le_refl _) a H e0 μ w x h ha hr hQ fr kk cs hro;exact ⟨e',x',w',hq,.of_steps (.one (fenced_calm hb hroom rfl) stepR_loop) harr⟩
 ·rename_i b;apply wpIn_scope';split at e
  ·cases e
  ·rename_i hn;refine hev ρ b a H _ _ _ e μ w x r _ h ha hr ?_;intro μ1 w1 x1 e1 hp1 ha1 he1;have hq:=hQ μ1 w1 x1 e1 hp1 ha1 he1
   cases he1 with
   | normal=>exact hq
   | exit id=>exact hq
   | goto l=>exact absurd e (hn _ _ _)
   | ret=>exact hq
   | panic hv=>exact hq
 ·exact wpIn_region (runOps_ok hT hcall hround _ _ _ _ _ _ e μ w x r Q h ha hr hQ)
 ·rename_i id ops
  cases hc:(drawOk ops && H.clean ops.size) with
  | false=>rw [hc] at e;cases e
  | true =>
    rw [hc] at e;simp only [cond_true] at e;rw [Bool.and_eq_true] at hc;split at e
    ·rename_i a1 H1 h1
     cases e
     exact hD (ev T n) n hcall hround id ops a H _ _ hc.1 hc.2 h1 μ w x r Q h ha fun μ1 w1 x1 hp1 ha1=>hQ μ1 w1 x1 _ hp1 ha1 .normal
    ·cases e
 ·exact range_ok hT hcall e1 h ha hr hQ
 ·cases e
end Go.Am
