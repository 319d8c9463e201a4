import Derived.Test.YtphjohoipocpnaaGreatWpA
set_option linter.unusedVariables false
set_option linter.unusedSimpArgs false
/- Regions that draw their order, walked in the small machine's own order. -/
namespace Go.Am
variable {T:Tab} {ρ:Option Nat} {k:List Fr} {a:A} {H:Heap} {Q:Qt} {ops:Array Oper}
def isAlloc:Op→Bool
 | .alloc _ | .box .. | .buildSlice .. | .makeMap .. | .makeSlice ..=>true
 | _=>false
def blind (T:Tab):Op→Bool
 | .call { callee:=.builtin .len,argTypes:=ts,.. }=>(ts[0]?).any fun t=>isSlice T t || isStr T t
 | .call { callee:=.builtin .cap,.. } | .call { callee:=.builtin .min,.. } | .call { callee:=.builtin .max,.. }=>true
 | .slice t ..=>isSlice T t || isStr T t
 | .move _ | .assign _ | .pick .. | .build .. | .nilCheck _ | .binOp .. | .unOp .. | .makeInterface .. | .makeFunc .. | .fieldAddr .. | .field .. | .indexAddr .. | .index .. | .typeAssert .. | .extract ..=>true
 | _=>false
def readsOk (ops:Array Oper) (bef:Array Nat):List Nat→List Nat→Bool
 | [],_=>true
 | i::l,ls=>match ops[i]? with
   | none=>false
   | some o=>cond (reads o.op) ((ls.all fun h=>(bef.getD i 0).testBit h) && readsOk ops bef l ls)
     (cond (quiet o.op) (readsOk ops bef l ls) (readsOk ops bef l (i::ls)))
def classOk (T:Tab) (ops:Array Oper):Bool:=ops.all fun o=>cond (quiet o.op) (isAlloc o.op || blind T o.op) true
def natsEq:List Nat→List Nat→Bool
 | [],[]=>true
 | x::xs,y::ys=>Nat.beq x y && natsEq xs ys
 | _,_=>false
def drawChk (T:Tab) (ops:Array Oper) (n:Nat) (l:List Nat):Bool:=
 Nat.beq ops.size n && drawOk ops && natsEq (sched ops (Region.before ops)) l && readsOk ops (Region.before ops) l [] && classOk T ops
theorem natsEq_eq:∀ {xs ys:List Nat},natsEq xs ys=true→xs=ys
 | [],[],_=>rfl
 | x::xs,y::ys,h=>by
   simp only [natsEq,Bool.and_eq_true,Nat.beq_eq] at h;rw [h.1,natsEq_eq h.2]
 | [],_::_,h=>by cases h
 | _::_,[],h=>by cases h
theorem op1_ofV {x:Operand} {f:Heap→V→OR} (h:∀ v,∃ r:Option V,∀ H:Heap,f H v=OR.ofV H r):∃ r:Option V,∀ H:Heap,op1 a x (f H)=OR.ofV H r:=by
 unfold op1
 cases a.eval x with
 | none=>exact ⟨none,fun H=>rfl⟩
 | some v=>exact h v
theorem ofV_ofV (r:Option V):∃ q:Option V,∀ H:Heap,OR.ofV H r=OR.ofV H q:=⟨r,fun _=>rfl⟩
theorem val_ofV (v:V):∃ q:Option V,∀ H:Heap,OR.val v H=OR.ofV H q:=⟨some v,fun _=>rfl⟩
theorem stuck_ofV:∃ q:Option V,∀ H:Heap,OR.stuck=OR.ofV H q:=⟨none,fun _=>rfl⟩
theorem sliceOp_blind {t:TypeId} (h:(isSlice T t || isStr T t)=true) (x:V) (lo hi mx:Option V) (H H':Heap):sliceOp T H t x lo hi mx=sliceOp T H' t x lo hi mx:=by
 unfold sliceOp
 cases hu:T.und t with
 | none=>simp [isSlice,isStr,hu] at h
 | some d =>
   cases d <;> first | rfl | (simp [isSlice,isStr,hu] at h)
theorem blind_ofV {o:Op} (h:blind T o=true):∃ r:Option V,∀ H:Heap,execOp T a H o=OR.ofV H r:=by
 cases o with
 | move x=>exact op1_ofV fun v=>val_ofV v
 | assign x=>exact op1_ofV fun v=>val_ofV v
 | pick c x y =>
   refine op1_ofV fun v=>?_
   cases v with
   | bool b=>cases b <;> exact op1_ofV fun v=>val_ofV v
   | _=>exact stuck_ofV
 | build t ps =>
   show ∃ r:Option V,∀ H:Heap,(match T.zero t,evalParts a ps.toList,T.und t with
    | some z,some ps,some (.struct fs)=>cond (sizesOk T fs.toList) (OR.ofV H ((fill (placeOf T fs) z ps).map .agg)) .stuck
    | some z,some ps,some (.array _ e)=>match T.size e with
      | some (s,_)=>.ofV H ((fill (fun i=>some (i * s,s)) z ps).map .agg)
      | none=>.stuck
    | _,_,_=>.stuck)=_
   cases T.zero t with
   | none=>exact stuck_ofV
   | some z =>
     cases evalParts a ps.toList with
     | none=>exact stuck_ofV
     | some q =>
       cases T.und t with
       | none=>exact stuck_ofV
       | some d =>
         cases d with
         | struct fs =>
           simp only
           cases sizesOk T fs.toList
           ·exact stuck_ofV
           ·exact ofV_ofV _
         | array n e =>
           simp only
           cases T.size e with
           | none=>exact stuck_ofV
           | some q=>exact ofV_ofV _
         | _=>exact stuck_ofV
 | nilCheck x =>
   refine op1_ofV fun v=>?_
   cases v with
   | func f u w=>cases f <;> first | exact val_ofV _ | exact stuck_ofV
   | _=>first | exact val_ofV _ | exact stuck_ofV
 | binOp op t x y rt=>exact op1_ofV fun u=>op1_ofV fun v=>ofV_ofV _
 | unOp op t x=>exact op1_ofV fun v=>ofV_ofV _
 | makeInterface t x =>
   refine op1_ofV fun v=>?_
   cases T.und t with
   | none=>exact stuck_ofV
   | some d=>cases d <;> first | exact val_ofV _ | exact stuck_ofV
 | makeFunc fn first captured =>
   clear h
   show ∃ r:Option V,∀ H:Heap,(match fn,evals a first.toList,evals a captured.toList with
    | .func f,some u,some v=>OR.val (.func (.func f) u v) H
    | _,_,_=>.stuck)=_
   cases fn <;> cases evals a first.toList <;> cases evals a captured.toList <;> first | exact val_ofV _ | exact stuck_ofV
 | fieldAddr t x i =>
   refine op1_ofV fun p=>?_
   cases p with
   | ptr l o =>
     simp only
     cases fieldsOf T t with
     | none=>exact stuck_ofV
     | some fs =>
       simp only
       cases fs[i]? with
       | none=>exact stuck_ofV
       | some f =>
         simp only
         cases T.size f.type with
         | none=>exact stuck_ofV
         | some q =>
           obtain ⟨n,b⟩:=q;simp only
           cases Nat.beq n 0
           ·exact val_ofV _
           ·exact stuck_ofV
   | _=>exact stuck_ofV
 | field t x i =>
   refine op1_ofV fun p=>?_
   cases p with
   | agg cs =>
     simp only
     cases fieldsOf T t with
     | none=>exact stuck_ofV
     | some fs =>
       simp only
       cases fs[i]? with
       | none=>exact stuck_ofV
       | some f=>exact ofV_ofV _
   | _=>exact stuck_ofV
 | indexAddr t x i =>
   refine ⟨(a.eval x).bind fun u=>(a.eval i).bind fun v=>idxP T t u v,fun H=>?_⟩;rw [xo_indexAddr];simp only [op1]
   cases a.eval x with
   | none=>rfl
   | some u=>cases a.eval i <;> rfl
 | index t x i =>
   refine op1_ofV fun u=>op1_ofV fun v=>?_
   cases T.und t with
   | none=>exact stuck_ofV
   | some d =>
     cases d with
     | string =>
       cases u with
       | str s =>
         cases natOf v with
         | none=>exact stuck_ofV
         | some j =>
           simp only
           cases s[j]? with
           | none=>exact stuck_ofV
           | some b=>exact val_ofV _
       | _=>exact stuck_ofV
     | array n e =>
       cases u with
       | agg cs =>
         cases natOf v with
         | none=>exact stuck_ofV
         | some j =>
           simp only
           cases T.size e with
           | none=>exact stuck_ofV
           | some q =>
             obtain ⟨s,b⟩:=q;simp only
             cases Nat.blt j n
             ·exact stuck_ofV
             ·exact ofV_ofV _
       | _=>exact stuck_ofV
     | _=>exact stuck_ofV
 | slice t x lo hi mx =>
   refine op1_ofV fun v=>?_
   cases evalOpt a lo with
   | none=>exact stuck_ofV
   | some lo =>
     cases evalOpt a hi with
     | none=>exact stuck_ofV
     | some hi =>
       cases evalOpt a mx with
       | none=>exact stuck_ofV
       | some mx=>exact ⟨sliceOp T Heap.empty t v lo hi mx,fun H=>by simp only;rw [sliceOp_blind h v lo hi mx H Heap.empty]⟩
 | typeAssert x t u ok =>
   refine op1_ofV fun v=>?_
   cases T.und u with
   | none=>exact stuck_ofV
   | some d =>
     have key:∃ r:Option V,∀ H:Heap,(match v with
       | .iface t w=>cond (Nat.beq t u) (OR.val (cond ok (.tuple [w,.bool true]) w) H)
         (cond ok (match T.zeroV u with
          | some z=>.val (.tuple [z,.bool false]) H
          | none=>.stuck) .stuck)
       | .nilIface=>cond ok (match T.zeroV u with
          | some z=>.val (.tuple [z,.bool false]) H
          | none=>.stuck) .stuck
       | _=>.stuck)=OR.ofV H r:=by
      cases v with
      | iface t w =>
        simp only
        cases Nat.beq t u
        ·cases ok
         ·exact stuck_ofV
         ·cases T.zeroV u
          ·exact stuck_ofV
          ·exact val_ofV _
        ·exact val_ofV _
      | nilIface =>
        cases ok
        ·exact stuck_ofV
        ·cases T.zeroV u
         ·exact stuck_ofV
         ·exact val_ofV _
      | _=>exact stuck_ofV
     obtain ⟨r,hr⟩:=key
     cases d with
     | interface _=>exact stuck_ofV
     | _=>exact ⟨r,fun H=>by rw [← hr H];cases v <;> rfl⟩
 | extract x i =>
   refine ⟨(a.eval x).bind fun v=>nth? v i,fun H=>?_⟩;rw [xo_extract];simp only [op1]
   cases a.eval x <;> rfl
 | call c =>
   obtain ⟨cal,args,ts⟩:=c
   cases cal with
   | builtin b =>
     simp only [xo_call,callOp_builtin]
     cases evals a args.toList with
     | none=>exact stuck_ofV
     | some vs =>
       simp only
       cases b with
       | len =>
         simp only [blind] at h
         match vs with
         | []=>exact stuck_ofV
         | [x] =>
           simp only [builtin]
           cases hts:ts[0]? with
           | none=>exact stuck_ofV
           | some t =>
             rw [hts] at h;simp only [Option.any_some,Bool.or_eq_true,isSlice,isStr] at h;simp only
             cases hu:T.und t with
             | none=>exact stuck_ofV
             | some d =>
               rw [hu] at h
               cases d <;> first | exact stuck_ofV | (exfalso;revert h;simp;done) | (cases x <;> first | exact val_ofV _ | exact stuck_ofV)
         | _::_::_=>exact stuck_ofV
       | cap =>
         match vs with
         | []=>exact stuck_ofV
         | [x] =>
           simp only [builtin]
           cases ts[0]? with
           | none=>exact stuck_ofV
           | some t =>
             simp only
             cases T.und t with
             | none=>exact stuck_ofV
             | some d =>
               cases d with
               | slice e =>
                 cases x with
                 | slice l o n s c=>cases c <;> first | exact val_ofV _ | exact stuck_ofV
                 | nilSlice=>exact val_ofV _
                 | _=>exact stuck_ofV
               | _=>exact stuck_ofV
         | _::_::_=>exact stuck_ofV
       | min =>
         cases vs with
         | nil=>exact stuck_ofV
         | cons x xs=>exact ofV_ofV _
       | max =>
         cases vs with
         | nil=>exact stuck_ofV
         | cons x xs=>exact ofV_ofV _
       | _=>cases h
   | _=>cases h
 | _=>cases h
theorem blind_at {o:Op} (h:blind T o=true) {v:V} {H':Heap} (e:execOp T a H o=.val v H') (n:Nat):quietAt T a n o=some (v,none)∧H'=H:=by
 obtain ⟨r,hr⟩:=blind_ofV (T:=T) (a:=a) h;rw [hr] at e
 cases r with
 | none=>cases e
 | some u =>
   cases e
   refine ⟨?_,rfl⟩;unfold quietAt;rw [hr];simp [OR.ofV]
noncomputable def runS (T:Tab) (ev:Ev) (fuel:Nat) (ops:Array Oper) (k:Nat):List Nat→A→Heap→Option (A×Heap)
 | [],a,H=>some (a,H)
 | i::rest,a,H=>match ops[i]? with
   | none=>none
   | some o=>cond (wanted ops a o) (
     cond (isAlloc o.op) (match quietAt T a (k+i) o.op with
      | some (v,some ob)=>runS T ev fuel ops k rest (a.put o.dst v) (H.put (k+i) ob)
      | _=>none)
     (match execOp T a H o.op with
      | .val v H'=>runS T ev fuel ops k rest (a.put o.dst v) H'
      | .call f args=>match calls T ev fuel f args H with
        | .returned v H'=>runS T ev fuel ops k rest (a.put o.dst v) H'
        | _=>none
      | .round l args=>match round ev l args H with
        | .returned v H'=>runS T ev fuel ops k rest (a.put o.dst v) H'
        | _=>none
      | _=>none)) (runS T ev fuel ops k rest (a.put o.dst undefV) H)
theorem isAlloc_quiet {o:Op} (h:isAlloc o=true):quiet o=true:=by cases o <;> first | rfl | cases h
theorem reads_not_quiet {o:Op} (h:reads o=true):quiet o=false:=by cases o <;> first | rfl | cases h
theorem reads_kind {o:Op} (h:reads o=true):(∃ v,execOp T a H o=.val v H)∨execOp T a H o=.stuck:=by
 cases o with
 | load t x =>
   rw [xo_load];unfold op1
   cases a.eval x with
   | none=>exact .inr rfl
   | some p =>
     simp only
     cases loadP T H t p with
     | none=>exact .inr rfl
     | some v=>exact .inl ⟨v,rfl⟩
 | _=>cases h
theorem stood_all (T:Tab) (a:A) (o:Oper) (v:V) (m:Nat):∀ (sn:List (Nat×Heap)),(∀ h H,(h,H)∈sn→m.testBit h=true)→stood T a o v m sn=true
 | [],_=>rfl
 | (h,H)::rest,hs=>by
   simp only [stood,hs h H (by simp),Bool.true_or,Bool.true_and];exact stood_all T a o v m rest fun h' H' e=>hs h' H' (by simp [e])
theorem runS_ok {ev:Ev} {fuel k0:Nat} {bef:Array Nat} (hc:classOk T ops=true):∀ (l:List Nat) (ls:List Nat) (sn:List (Nat×Heap)) (a:A) (H:Heap) (r:A×Heap),readsOk ops bef l ls=true→(∀ h H,(h,H)∈sn→h∈ls) →
  runS T ev fuel ops k0 l a H=some r→runDraw T ev fuel ops bef k0 l sn a H=some r:=by
 intro l
 induction l with
 | nil=>intro ls sn a H r _ _ h;exact h
 | cons i l ih =>
   intro ls sn a H r hr hs h;unfold runS at h;unfold runDraw;simp only [readsOk] at hr
   cases ho:ops[i]? with
   | none=>rw [ho] at h;cases h
   | some o =>
     rw [ho] at h hr;simp only at h hr ⊢
     have hcl:(cond (quiet o.op) (isAlloc o.op || blind T o.op) true)=true:=by
      have:=Array.all_eq_true_iff_forall_mem.1 hc o (Array.mem_of_getElem? ho);exact this
     -- what is left of the reading operations
     have hrest:∃ ls',readsOk ops bef l ls'=true∧(∀ x,x∈ls→x∈ls')∧(reads o.op=false→quiet o.op=false→i∈ls'):=by
      cases h1:reads o.op with
      | true =>
        rw [h1] at hr;simp only [cond_true,Bool.and_eq_true] at hr;exact ⟨ls,hr.2,fun _ h=>h,fun q=>by cases q⟩
      | false =>
        rw [h1] at hr;simp only [cond_false] at hr
        cases h2:quiet o.op with
        | true=>rw [h2] at hr;exact ⟨ls,hr,fun _ h=>h,fun _ q=>by cases q⟩
        | false=>rw [h2] at hr;exact ⟨i::ls,hr,fun _ h=>by simp [h],fun _ _=>by simp⟩
     obtain ⟨ls',hr',hsub,hloud⟩:=hrest;have hsn:∀ h H,(h,H)∈sn→h∈ls':=fun h H e=>hsub _ (hs h H e)
     cases hw:wanted ops a o with
     | false=>rw [hw] at h;exact ih ls' sn _ _ _ hr' hsn h
     | true =>
       rw [hw] at h;simp only [cond_true] at h ⊢
       cases ha:isAlloc o.op with
       | true =>
         rw [ha] at h;simp only [cond_true] at h;rw [isAlloc_quiet ha];simp only [cond_true];split at h
         ·rename_i v ob hq;rw [hq];exact ih ls' sn _ _ _ hr' hsn h
         ·cases h
       | false =>
         rw [ha] at h;simp only [cond_false] at h
         cases hq:quiet o.op with
         | true =>
           rw [hq,ha] at hcl;simp only [cond_true,Bool.false_or] at hcl ⊢
           cases hx:execOp T a H o.op with
           | val v H' =>
             rw [hx] at h;obtain ⟨h1,h2⟩:=blind_at hcl hx (k0+i);rw [h1];subst h2;exact ih ls' sn _ _ _ hr' hsn h
           | call f args =>
             obtain ⟨q,hb⟩:=blind_ofV (T:=T) (a:=a) hcl;rw [hb] at hx;cases q <;> cases hx
           | round f args =>
             obtain ⟨q,hb⟩:=blind_ofV (T:=T) (a:=a) hcl;rw [hb] at hx;cases q <;> cases hx
           | defer d=>rw [hx] at h;cases h
           | panic v=>rw [hx] at h;cases h
           | recover=>rw [hx] at h;cases h
           | stuck=>rw [hx] at h;cases h
         | false =>
           simp only [cond_false]
           cases hrd:reads o.op with
           | true =>
             rw [hrd] at hr;simp only [cond_true,Bool.and_eq_true,List.all_eq_true] at hr ⊢
             cases hx:execOp T a H o.op with
             | val v H' =>
               rw [hx] at h;simp only at h ⊢;rw [stood_all T a o v _ sn fun h' H' e=>hr.1 h' (hs h' H' e)];exact ih ls' sn _ _ _ hr' hsn h
             | call f args =>
               rcases reads_kind (T:=T) (a:=a) (H:=H) hrd with ⟨u,hu⟩ | hu <;> rw [hu] at hx <;> cases hx
             | round f args =>
               rcases reads_kind (T:=T) (a:=a) (H:=H) hrd with ⟨u,hu⟩ | hu <;> rw [hu] at hx <;> cases hx
             | defer d=>rw [hx] at h;cases h
             | panic v=>rw [hx] at h;cases h
             | recover=>rw [hx] at h;cases h
             | stuck=>rw [hx] at h;cases h
           | false =>
             simp only [cond_false]
             have hsn':∀ h K,(h,K)∈(i,H)::sn→h∈ls':=by
              intro h K e;rcases List.mem_cons.1 e with e | e
              ·cases e;exact hloud hrd hq
              ·exact hsn h K e
             cases hx:execOp T a H o.op with
             | val v H'=>rw [hx] at h;exact ih ls' _ _ _ _ hr' hsn' h
             | call f args =>
               rw [hx] at h;simp only at h ⊢
               cases hcc:calls T ev fuel f args H with
               | returned v H'=>rw [hcc] at h;exact ih ls' _ _ _ _ hr' hsn' h
               | panicked v H'=>rw [hcc] at h;cases h
               | stuck=>rw [hcc] at h;cases h
             | round f args =>
               rw [hx] at h;simp only at h ⊢
               cases hcc:round ev f args H with
               | returned v H'=>rw [hcc] at h;exact ih ls' _ _ _ _ hr' hsn' h
               | panicked v H'=>rw [hcc] at h;cases h
               | stuck=>rw [hcc] at h;cases h
             | defer d=>rw [hx] at h;cases h
             | panic v=>rw [hx] at h;cases h
             | recover=>rw [hx] at h;cases h
             | stuck=>rw [hx] at h;cases h
theorem runS_mono {e e':Ev} (he:EvLe e e') {n m:Nat} (hm:n≤m) {k0:Nat}:∀ (l:List Nat) (a:A) (H:Heap) r,runS T e n ops k0 l a H=some r→runS T e' m ops k0 l a H=some r:=by
 intro l
 induction l with
 | nil=>intro a H r h;exact h
 | cons i l ih =>
   intro a H r h;unfold runS at h ⊢
   cases ho:ops[i]? with
   | none=>rw [ho] at h;cases h
   | some o =>
     rw [ho] at h;simp only at h ⊢
     cases hw:wanted ops a o with
     | false=>rw [hw] at h;exact ih _ _ _ h
     | true =>
       rw [hw] at h;simp only [cond_true] at h ⊢
       cases ha:isAlloc o.op with
       | true =>
         rw [ha] at h;simp only [cond_true] at h ⊢;split at h
         ·rename_i v ob hq;exact ih _ _ _ h
         ·cases h
       | false =>
         rw [ha] at h;simp only [cond_false] at h ⊢
         cases hx:execOp T a H o.op with
         | val v H'=>rw [hx] at h;exact ih _ _ _ h
         | call f args =>
           rw [hx] at h;simp only at h ⊢;have hne:calls T e n f args H≠.stuck:=by intro q;rw [q] at h;cases h
           rw [calls_mono he hm hne]
           cases hc:calls T e n f args H with
           | returned v H'=>rw [hc] at h;exact ih _ _ _ h
           | panicked v H'=>rw [hc] at h;cases h
           | stuck=>exact (hne hc).elim
         | round l args =>
           rw [hx] at h;simp only at h ⊢;have hne:round e l args H≠.stuck:=by intro q;rw [q] at h;cases h
           rw [round_mono he hne]
           cases hc:round e l args H with
           | returned v H'=>rw [hc] at h;exact ih _ _ _ h
           | panicked v H'=>rw [hc] at h;cases h
           | stuck=>exact (hne hc).elim
         | defer d=>rw [hx] at h;cases h
         | panic v=>rw [hx] at h;cases h
         | recover=>rw [hx] at h;cases h
         | stuck=>rw [hx] at h;cases h
def WpS (T:Tab) (ρ:Option Nat) (ops:Array Oper) (k0:Nat) (l:List Nat) (k:List Fr) (a:A) (H:Heap) (Q:Qt):Prop:=
 ∃ n a' H',runS T (ev T n) n ops k0 l a H=some (a',H')∧unw T ρ Q k .normal a' H'
def WpSX (T:Tab) (ρ:Option Nat) (ops:Array Oper) (k0:Nat) (d:Option Tmp) (l:List Nat) (k:List Fr) (a:A) (H:Heap) (Q:Qt):OR→Prop
 | .val v H'=>WpS T ρ ops k0 l k (a.put d v) H' Q
 | .call f as=>CallsTo T f as H (fun v H'=>WpS T ρ ops k0 l k (a.put d v) H' Q)
 | .round r as=>RoundTo T r as H (fun v H'=>WpS T ρ ops k0 l k (a.put d v) H' Q)
 | _=>False
def WpSA (T:Tab) (ρ:Option Nat) (ops:Array Oper) (k0:Nat) (d:Option Tmp) (i:Nat) (l:List Nat) (k:List Fr) (a:A) (H:Heap) (Q:Qt):Option (V×Option O)→Prop
 | some (v,some ob)=>WpS T ρ ops k0 l k (a.put d v) (H.put (k0+i) ob) Q
 | _=>False
theorem wpK_draw (n:Nat) (l:List Nat) {id:Nat} (hw:H.WF) (hd:drawChk T ops n l=true) (h:WpS T ρ ops H.n l k a (H.keep n) Q):WpK T ρ (.region id ops true) k a H Q:=by
 simp only [drawChk,Bool.and_eq_true,Nat.beq_eq] at hd;obtain ⟨⟨⟨⟨hz,hd⟩,hs⟩,hr⟩,hc⟩:=hd;subst hz;obtain ⟨n,a',H',h1,h2⟩:=h;rw [WpK,wp_step];refine ⟨n,.normal,a',H',?_,h2⟩;simp only [step,hd,hw.clean,Bool.and_self,cond_true];rw [natsEq_eq hs,runS_ok hc l [] [] _ _ _ hr (fun h H e=>by cases e) h1]
variable {k0:Nat} {l:List Nat} {d:Option Tmp}
theorem wpS_nil:WpS T ρ ops k0 [] k a H Q=unw T ρ Q k .normal a H:=by
 apply propext;constructor
 ·rintro ⟨n,a',H',h,q⟩;cases h;exact q
 ·intro q;exact ⟨0,_,_,rfl,q⟩
def WpSW (T:Tab) (ρ:Option Nat) (ops:Array Oper) (k0:Nat) (w:Bool) (o:Oper) (i:Nat) (l:List Nat) (k:List Fr) (a:A) (H:Heap) (Q:Qt):Prop:=
 cond w (cond (isAlloc o.op) (WpSA T ρ ops k0 o.dst i l k a H Q (quietAt T a (k0+i) o.op)) (WpSX T ρ ops k0 o.dst l k a H Q (execOp T a H o.op)))
  (WpS T ρ ops k0 l k (a.put o.dst undefV) H Q)
def WpSO (T:Tab) (ρ:Option Nat) (ops:Array Oper) (k0:Nat) (o:Option Oper) (i:Nat) (l:List Nat) (k:List Fr) (a:A) (H:Heap) (Q:Qt):Prop:=
 match o with
 | none=>False
 | some o=>WpSW T ρ ops k0 (wanted ops a o) o i l k a H Q
theorem wpSO_some (o:Oper) (i:Nat):WpSO T ρ ops k0 (some o) i l k a H Q=WpSW T ρ ops k0 (wanted ops a o) o i l k a H Q:=Eq.trans rfl rfl
theorem wpSW_true (o:Oper) (i:Nat):WpSW T ρ ops k0 true o i l k a H Q=cond (isAlloc o.op) (WpSA T ρ ops k0 o.dst i l k a H Q (quietAt T a (k0+i) o.op)) (WpSX T ρ ops k0 o.dst l k a H Q (execOp T a H o.op)):=Eq.trans rfl rfl
theorem wpSW_false (o:Oper) (i:Nat):WpSW T ρ ops k0 false o i l k a H Q=WpS T ρ ops k0 l k (a.put o.dst undefV) H Q:=Eq.trans rfl rfl
theorem wpS_cons (i:Nat):WpS T ρ ops k0 (i::l) k a H Q=WpSO T ρ ops k0 ops[i]? i l k a H Q:=by
 apply propext;unfold WpSO WpSW;unfold WpS;simp only [runS]
 cases ho:ops[i]? with
 | none=>simp
 | some o =>
   simp only
   cases hw:wanted ops a o with
   | false=>exact Iff.rfl
   | true =>
     simp only [cond_true]
     cases ha:isAlloc o.op with
     | true =>
       simp only [cond_true]
       cases hq:quietAt T a (k0+i) o.op with
       | none=>simp [WpSA]
       | some q =>
         obtain ⟨v,ob⟩:=q
         cases ob with
         | none=>simp [WpSA]
         | some ob=>exact Iff.rfl
     | false =>
       simp only [cond_false]
       cases hx:execOp T a H o.op with
       | val v H'=>exact Iff.rfl
       | call f args =>
         simp only [WpSX];constructor
         ·rintro ⟨n,a',H',h,q⟩
          cases hc:calls T (ev T n) n f args H with
          | returned v H1=>rw [hc] at h;exact ⟨n,v,H1,hc,n,a',H',h,q⟩
          | panicked v H1=>rw [hc] at h;cases h
          | stuck=>rw [hc] at h;cases h
         ·rintro ⟨n,v,H1,hc,m,a',H',h,q⟩;refine ⟨max n m,a',H',?_,q⟩;have:=run_up (Nat.le_max_left n m) hc;unfold run at this;rw [this];exact runS_mono (ev_mono m _ (Nat.le_max_right n m)) (Nat.le_max_right n m) _ _ _ _ h
       | round f args =>
         simp only [WpSX];constructor
         ·rintro ⟨n,a',H',h,q⟩
          cases hc:round (ev T n) f args H with
          | returned v H1=>rw [hc] at h;exact ⟨n,v,H1,hc,n,a',H',h,q⟩
          | panicked v H1=>rw [hc] at h;cases h
          | stuck=>rw [hc] at h;cases h
         ·rintro ⟨n,v,H1,hc,m,a',H',h,q⟩;refine ⟨max n m,a',H',?_,q⟩
          have:round (ev T (max n m)) f args H=.returned v H1:=by
           rw [round_mono (ev_mono n _ (Nat.le_max_left n m)) (by rw [hc];simp)];exact hc
          rw [this];exact runS_mono (ev_mono m _ (Nat.le_max_right n m)) (Nat.le_max_right n m) _ _ _ _ h
       | _=>simp [WpSX]
theorem wpSX_val (v:V) (H':Heap):WpSX T ρ ops k0 d l k a H Q (.val v H')=WpS T ρ ops k0 l k (a.put d v) H' Q:=Eq.trans rfl rfl
theorem wpSA_some (i:Nat) (v:V) (ob:O):WpSA T ρ ops k0 d i l k a H Q (some (v,some ob))=WpS T ρ ops k0 l k (a.put d v) (H.put (k0+i) ob) Q:=Eq.trans rfl rfl
theorem wpSX_call {f:FuncId} {as:List V} {R:V→Heap→Prop} (h:CallsTo T f as H R) (hk:∀ v H',R v H'→WpS T ρ ops k0 l k (a.put d v) H' Q):WpSX T ρ ops k0 d l k a H Q (.call f as):=h.mono hk
theorem wpSX_round {f:Nat} {as:List V} {R:V→Heap→Prop} (h:RoundTo T f as H R) (hk:∀ v H',R v H'→WpS T ρ ops k0 l k (a.put d v) H' Q):WpSX T ρ ops k0 d l k a H Q (.round f as):=h.mono hk
/-! What an object made in such a region is. -/
theorem quietAt_alloc (n:Nat) (t:TypeId):quietAt T a n (.alloc t)=(T.zero t).map fun z=>(.ptr n 0,some (.cells false z)):=by
 simp only [quietAt,xo_alloc]
 cases T.zero t with
 | none=>rfl
 | some z =>
   have h1:Nat.beq (n+1) n=false:=by rw [← Bool.not_eq_true,Nat.beq_eq];omega
   have h2:=get_push_same ⟨n,.leaf⟩ (.cells false z);simp only at h2;simp only [Heap.n_push,h1,cond_false,h2,Option.map_some]
theorem quietAt_box (n:Nat) (t:TypeId) (x:Tmp):quietAt T a n (.box t (.tmp x))=some (.ptr n 0,some (.cells false (a.tmp x).cells)):=by
 have h1:Nat.beq (n+1) n=false:=by rw [← Bool.not_eq_true,Nat.beq_eq];omega
 have h2:=get_push_same ⟨n,.leaf⟩ (.cells false (a.tmp x).cells);simp only at h2;simp only [quietAt,xo_box,op1_tmp,Heap.n_push,h1,cond_false,h2]
end Go.Am

namespace Go.Am
variable {T:Tab} {ρ:Option Nat} {k:List Fr} {a:A} {H:Heap} {Q:Qt} {ops:Array Oper}
/-! ### Structs that are built -/
def isStruct (T:Tab) (t:TypeId):Bool:=
 match T.und t with
 | some (.struct fs)=>sizesOk T fs.toList
 | _=>false
def fldSz (T:Tab) (t:TypeId) (i:Nat):Option (Nat×Nat):=
 match T.und t with
 | some (.struct fs)=>placeOf T fs i
 | _=>none
def buildV (T:Tab) (t:TypeId) (q:List (Nat×V)):Option V:=
 match T.zero t,T.und t with
 | some z,some (.struct fs)=>cond (sizesOk T fs.toList) ((fill (placeOf T fs) z q).map .agg) none
 | some z,some (.array _ e)=>match T.size e with
   | some (s,_)=>(fill (fun i=>some (i * s,s)) z q).map .agg
   | none=>none
 | _,_=>none
theorem xo_build (t:TypeId) (ps:Array (Nat×Operand)):execOp T a H (.build t ps)=match evalParts a ps.toList with
  | some q=>OR.ofV H (buildV T t q)
  | none=>.stuck:=by
 show (match T.zero t,evalParts a ps.toList,T.und t with
  | some z,some ps,some (.struct fs)=>cond (sizesOk T fs.toList) (OR.ofV H ((fill (placeOf T fs) z ps).map .agg)) .stuck
  | some z,some ps,some (.array _ e)=>match T.size e with
    | some (s,_)=>.ofV H ((fill (fun i=>some (i * s,s)) z ps).map .agg)
    | none=>.stuck
  | _,_,_=>.stuck)=_
 unfold buildV
 cases T.zero t with
 | none=>cases evalParts a ps.toList <;> rfl
 | some z =>
   cases evalParts a ps.toList with
   | none=>rfl
   | some q =>
     cases T.und t with
     | none=>rfl
     | some d =>
       cases d with
       | struct fs=>simp only;cases sizesOk T fs.toList <;> rfl
       | array n e=>simp only;cases T.size e <;> rfl
       | _=>rfl
theorem buildV_struct (t:TypeId) (h:isStruct T t=true) (q:List (Nat×V)):buildV T t q=(T.zero t).bind fun z=>(fill (fldSz T t) z q).map .agg:=by
 unfold isStruct at h
 have hf:∀ fs,T.und t=some (.struct fs)→fldSz T t=placeOf T fs:=by
  intro fs e;funext i;simp only [fldSz,e]
 split at h
 ·rename_i fs e;unfold buildV;rw [hf fs e,e]
  cases T.zero t with
  | none=>rfl
  | some z=>simp only [h,cond_true];rfl
 ·cases h
theorem fill_nil (p:Nat→Option (Nat×Nat)) (cs:List V):fill p cs []=some cs:=Eq.trans rfl rfl
theorem fill_cons (p:Nat→Option (Nat×Nat)) (cs:List V) (i:Nat) (v:V) (r:List (Nat×V)) :
  fill p cs ((i,v)::r)=(p i).bind fun q=>if v.cells.length=q.2∧q.1+q.2≤cs.length then fill p (over cs q.1 v.cells) r else none:=by
 show (match p i with | none=>none | some (off,size)=>cond (Nat.beq v.cells.length size && Nat.ble (off+size) cs.length) (fill p (over cs off v.cells) r) none)=_
 cases p i with
 | none=>rfl
 | some q =>
   obtain ⟨o,s⟩:=q;simp only [Option.bind_some,Bool.cond_eq_ite,Bool.and_eq_true,Nat.beq_eq,Nat.ble_eq]
/-! ### Slices that are made -/
def esz (T:Tab) (t:TypeId):Nat:=(elemSize T t).getD 0
def ebytes (T:Tab) (t:TypeId):Nat:=
 match T.und t with
 | some (.slice e)=>match T.size e with
   | some (_,b)=>b
   | none=>0
 | _=>0
def ezero (T:Tab) (t:TypeId):List V:=
 match T.und t with
 | some (.slice e)=>(T.zero e).getD []
 | _=>[]
def mkOk (T:Tab) (t:TypeId):Bool:=
 match T.und t with
 | some (.slice e)=>match T.size e,T.zero e with
   | some (s,_),some z=>Nat.beq z.length s && Nat.blt 0 s && Nat.blt s 1000
   | _,_=>false
 | _=>false
theorem mkOk_eq {t:TypeId} (h:mkOk T t=true):∃ e,T.und t=some (.slice e)∧T.size e=some (esz T t,ebytes T t)∧T.zero e=some (ezero T t)∧(ezero T t).length=esz T t∧0<esz T t∧esz T t<1000:=by
 unfold mkOk at h;split at h
 ·rename_i e he;split at h
  ·rename_i s b z hs hz;simp only [Bool.and_eq_true,Nat.beq_eq,Nat.blt_eq] at h;refine ⟨e,he,?_⟩;simp only [esz,elemSize,ebytes,ezero,he,hs,hz,Option.map_some,Option.getD_some,true_and];exact ⟨h.1.1,h.1.2,h.2⟩
  ·cases h
 ·cases h
theorem xo_buildSlice0 (t:TypeId) (h:mkOk T t=true):execOp T a H (.buildSlice t 0 #[])=.val (.slice H.n 0 0 (esz T t) (some 0)) (H.push (.cells false [])):=by
 obtain ⟨e,h1,h2,h3,h4,h5,h6⟩:=mkOk_eq h
 show (match T.und t with
  | some (.slice e)=>match T.size e,T.zero e,evalParts a [] with
    | some (s,_),some z,some ps=>cond (Nat.ble (0 * s) 16777216 && Nat.beq z.length s) (match fill (fun i=>some (i * s,s)) (zeros z 0) ps with
      | some cs=>OR.val (.slice H.n 0 0 s (some 0)) (H.push (.cells false cs))
      | none=>.stuck) .stuck
    | _,_,_=>.stuck
  | _=>.stuck)=_
 simp [h1,h2,h3,h4,evalParts,fill,zeros]
 rfl
theorem over_zero_len (z cs:List V) (h:cs.length=z.length):over z 0 cs=cs:=over_whole z cs h
theorem xo_buildSlice1 (t:TypeId) (h:mkOk T t=true) (x:Tmp) (hx:(a.tmp x).cells.length=esz T t):execOp T a H (.buildSlice t 1 #[(0,.tmp x)])=.val (.slice H.n 0 1 (esz T t) (some 1)) (H.push (.cells false (a.tmp x).cells)):=by
 obtain ⟨e,h1,h2,h3,h4,h5,h6⟩:=mkOk_eq h;have hz:over (ezero T t) 0 (a.tmp x).cells=(a.tmp x).cells:=over_whole _ _ (by rw [hx,h4])
 show (match T.und t with
  | some (.slice e)=>match T.size e,T.zero e,evalParts a [(0,.tmp x)] with
    | some (s,_),some z,some ps=>cond (Nat.ble (1 * s) 16777216 && Nat.beq z.length s) (match fill (fun i=>some (i * s,s)) (zeros z 1) ps with
      | some cs=>OR.val (.slice H.n 0 1 s (some 1)) (H.push (.cells false cs))
      | none=>.stuck) .stuck
    | _,_,_=>.stuck
  | _=>.stuck)=_
 simp only [h1,h2,h3,evalParts_tmp,evalParts_nil,Option.map_some,zeros,List.append_nil,h4,Nat.one_mul,Nat.beq_refl,Bool.and_true];have hle:Nat.ble (esz T t) 16777216=true:=by rw [Nat.ble_eq];omega
 rw [hle];simp only [cond_true,fill_cons,fill_nil,Option.bind_some,Nat.zero_mul,Nat.zero_add,hx,h4,Nat.le_refl,and_self,if_true,hz]
noncomputable def bs1 (T:Tab) (H:Heap) (t:TypeId) (v:V):OR:=
 if v.cells.length=esz T t then .val (.slice H.n 0 1 (esz T t) (some 1)) (H.push (.cells false v.cells)) else .stuck
theorem xo_bs1 (t:TypeId) (h:mkOk T t=true) (x:Tmp):execOp T a H (.buildSlice t 1 #[(0,.tmp x)])=bs1 T H t (a.tmp x):=by
 by_cases hx:(a.tmp x).cells.length=esz T t
 ·rw [xo_buildSlice1 t h x hx,bs1,if_pos hx]
 ·rw [bs1,if_neg hx];obtain ⟨e,h1,h2,h3,h4,h5,h6⟩:=mkOk_eq h
  show (match T.und t with
   | some (.slice e)=>match T.size e,T.zero e,evalParts a [(0,.tmp x)] with
     | some (s,_),some z,some ps=>cond (Nat.ble (1 * s) 16777216 && Nat.beq z.length s) (match fill (fun i=>some (i * s,s)) (zeros z 1) ps with
       | some cs=>OR.val (.slice H.n 0 1 s (some 1)) (H.push (.cells false cs))
       | none=>.stuck) .stuck
     | _,_,_=>.stuck
   | _=>.stuck)=_
  simp only [h1,h2,h3,evalParts_tmp,evalParts_nil,Option.map_some,zeros,List.append_nil,h4,Nat.one_mul,Nat.beq_refl,Bool.and_true];have hle:Nat.ble (esz T t) 16777216=true:=by rw [Nat.ble_eq];omega
  rw [hle];simp only [cond_true,fill_cons,fill_nil,Option.bind_some,Nat.zero_mul,Nat.zero_add,hx,false_and,if_false]
theorem bs1_eq (t:TypeId) (v:V):bs1 T H t v=if v.cells.length=esz T t then .val (.slice H.n 0 1 (esz T t) (some 1)) (H.push (.cells false v.cells)) else .stuck:=Eq.trans rfl rfl
noncomputable def mkS (T:Tab) (H:Heap) (t:TypeId) (u v:V):OR:=
 match T.und t,natOf u,natOf v with
  | some (.slice e),some n,some c=>match T.size e,T.zero e with
    | some (s,bytes),some z=>cond (Nat.ble n c && Nat.blt (c * bytes) 17592186044416 && Nat.blt c 17592186044416 && Nat.beq z.length s && Nat.blt 0 s)
      (.val (.slice H.n 0 n s (some c)) (H.push (.cells false (zeros z c)))) .stuck
    | _,_=>.stuck
  | _,_,_=>.stuck
theorem xo_mkS (t:TypeId) (x y:Operand):execOp T a H (.makeSlice t x y)=op1 a x fun u=>op1 a y fun v=>mkS T H t u v:=Eq.trans rfl rfl
theorem zeros_eq (z:List V):∀ n,zeros z n=(List.replicate n z).flatten
 | 0=>rfl
 | n+1=>by simp [zeros,zeros_eq z n,List.replicate_succ]
theorem mkS_eq (t:TypeId) (h:mkOk T t=true) (kx ky:IntKind) (n c:Nat) (hn:n≤c) (hb:c * ebytes T t<17592186044416) (hc:c<17592186044416) :
  mkS T H t (.int kx n) (.int ky c)=.val (.slice H.n 0 n (esz T t) (some c)) (H.push (.cells false (List.replicate c (ezero T t)).flatten)):=by
 obtain ⟨e,h1,h2,h3,h4,h5,h6⟩:=mkOk_eq h;have e1:natOf (.int kx (n:Int))=some n:=rfl;have e2:natOf (.int ky (c:Int))=some c:=rfl;have b1:Nat.ble n c=true:=by rw [Nat.ble_eq];exact hn
 have b2:Nat.blt (c * ebytes T t) 17592186044416=true:=by rw [Nat.blt_eq];exact hb
 have b3:Nat.blt c 17592186044416=true:=by rw [Nat.blt_eq];exact hc
 have b4:Nat.blt 0 (esz T t)=true:=by rw [Nat.blt_eq];exact h5
 simp only [mkS,e1,e2,h1,h2,h3,b1,b2,b3,b4,h4,Nat.beq_refl,Bool.and_self,cond_true,zeros_eq]
/-! ### Slices of slices -/
theorem xo_slice_tmp (t:TypeId) (x:Tmp) (lo hi mx:Option Operand):execOp T a H (.slice t (.tmp x) lo hi mx)=match evalOpt a lo,evalOpt a hi,evalOpt a mx with
  | some lo,some hi,some mx=>OR.ofV H (sliceOp T H t (a.tmp x) lo hi mx)
  | _,_,_=>.stuck:=Eq.trans rfl rfl
theorem evalOpt_none:evalOpt a none=some none:=Eq.trans rfl rfl
theorem evalOpt_tmp (t:Tmp):evalOpt a (some (.tmp t))=some (some (a.tmp t)):=Eq.trans rfl rfl
theorem evalOpt_int (kd:IntKind) (n:Int):evalOpt a (some (.const (.int kd n)))=some (some (.int kd n)):=Eq.trans rfl rfl
/-! ### Interfaces -/
theorem xo_typeAssert (x:Operand) (s u:TypeId) (ok:Bool) (f:Option (TypeDesc)):f=T.und u→execOp T a H (.typeAssert x s u ok)=op1 a x fun v=>match f,v with
  | some (.interface _),_ | none,_=>.stuck
  | some _,.iface t w=>cond (Nat.beq t u) (.val (cond ok (.tuple [w,.bool true]) w) H)
    (cond ok (match T.zeroV u with
     | some z=>.val (.tuple [z,.bool false]) H
     | none=>.stuck) .stuck)
  | some _,.nilIface=>cond ok (match T.zeroV u with
     | some z=>.val (.tuple [z,.bool false]) H
     | none=>.stuck) .stuck
  | _,_=>.stuck:=by rintro rfl;rfl
def isIface (T:Tab) (t:TypeId):Option Bool:=
 match T.und t with
 | some (.interface _)=>some true
 | some _=>some false
 | none=>none
theorem xo_makeInterface (t:TypeId) (h:isIface T t=some false) (x:Operand):execOp T a H (.makeInterface t x)=op1 a x fun v=>.val (.iface t v) H:=by
 show op1 a x _=op1 a x _
 congr 1;funext v
 unfold isIface at h;split at h
 ·cases h
 ·rename_i d hd hne;rw [hne]
  cases d <;> first | rfl | exact absurd rfl (hd _)
 ·cases h
def methP (T:Tab) (t:TypeId) (name:String):Option (FuncId×Option TypeId):=
 match T.meth t name with
 | some ([],f,p)=>match T.und t with
   | some (.pointer e)=>match p with
     | true=>some (f,none)
     | false=>some (f,some e)
   | some _=>match p with
     | false=>some (f,none)
     | true=>none
   | none=>none
 | _=>none
theorem invoked_self {t:TypeId} {name:String} {f:FuncId} (h:methP T t name=some (f,none)) (v:V) (args:List V):invoked T H (.iface t v) name args=.call f (v::args):=by
 unfold methP at h;split at h
 ·rename_i g p hm;simp only [invoked,hm,follow,receiver];split at h
  ·rename_i e hu;rw [hu]
   cases p with
   | true=>cases h;simp [Pl.get]
   | false=>cases h
  ·rename_i d hd hu;rw [hu]
   cases p with
   | true=>cases h
   | false=>cases h;cases d <;> first | (simp [Pl.get];done) | exact absurd rfl (hd _)
  ·cases h
 ·cases h
theorem invoked_deref {t e:TypeId} {name:String} {f:FuncId} (h:methP T t name=some (f,some e)) {v w:V} (hl:loadP T H e v=some w) (args:List V):invoked T H (.iface t v) name args=.call f (w::args):=by
 unfold methP at h;split at h
 ·rename_i g p hm;simp only [invoked,hm,follow,receiver];split at h
  ·rename_i e hu;rw [hu]
   cases p with
   | true=>cases h
   | false =>
     cases h
     cases v <;> simp only [loadP] at hl <;> first | cases hl | (simp [Pl.get,hl])
  ·rename_i d hd hu
   cases p <;> cases h
  ·cases h
 ·cases h
/-! ### A range over a function -/
structure LC where
 fn:FuncId
 tmps:Ts
 params:List Tmp
 assign:Code
 body:Code
 ds:Nat
def loopO (st:LoopState) (p:Option Code) (C:LC):O:=.loop st p C.fn C.tmps C.params C.assign C.body C.ds
def RQ2 (l:Nat) (C:LC) (R:V→Heap→Prop):Qt:=fun e a H=>H.get l=some (loopO .busy none C)∧match e with
 | .normal=>R (.bool true) (H.put l (loopO .ready none C))
 | .ret=>R (.bool false) (H.put l (loopO .done (some .ret) C))
 | .exit id=>R (.bool false) (H.put l (loopO .done (some (.exit id)) C))
 | _=>False
def RQ1 (T:Tab) (l:Nat) (C:LC) (R:V→Heap→Prop):Qt:=fun e a H=>match e with
 | .normal=>H.get l=some (loopO .ready none C)∧WpK T (some l) C.body [] a (H.put l (loopO .busy none C)) (RQ2 l C R)
 | _=>False
theorem rq1_normal (l:Nat) (C:LC) (R:V→Heap→Prop):RQ1 T l C R .normal a H=(H.get l=some (loopO .ready none C)∧WpK T (some l) C.body [] a (H.put l (loopO .busy none C)) (RQ2 l C R)):=Eq.trans rfl rfl
theorem rq2_normal (l:Nat) (C:LC) (R:V→Heap→Prop):RQ2 l C R .normal a H=(H.get l=some (loopO .busy none C)∧R (.bool true) (H.put l (loopO .ready none C))):=Eq.trans rfl rfl
theorem rq2_ret (l:Nat) (C:LC) (R:V→Heap→Prop):RQ2 l C R .ret a H=(H.get l=some (loopO .busy none C)∧R (.bool false) (H.put l (loopO .done (some .ret) C))):=Eq.trans rfl rfl
theorem rq2_exit (l:Nat) (C:LC) (R:V→Heap→Prop) (id:Nat):RQ2 l C R (.exit id) a H=(H.get l=some (loopO .busy none C)∧R (.bool false) (H.put l (loopO .done (some (.exit id)) C))):=Eq.trans rfl rfl
noncomputable def rTmps (C:LC) (args:List V):A:=⟨(C.params.zip args).foldl (fun t (x:Tmp×V)=>t.put x.1 x.2) C.tmps,[]⟩
noncomputable def putAll (a:A):List (Tmp×V)→A
 | []=>a
 | x::xs=>putAll (a.put (some x.1) x.2) xs
theorem putAll_nil (a:A):putAll a []=a:=Eq.trans rfl rfl
theorem putAll_cons (a:A) (t:Tmp) (v:V) (xs:List (Tmp×V)):putAll a ((t,v)::xs)=putAll (a.put (some t) v) xs:=Eq.trans rfl rfl
theorem rTmps_eq (C:LC) (args:List V):rTmps C args=putAll ⟨C.tmps,[]⟩ (C.params.zip args):=by
 unfold rTmps;generalize C.params.zip args=l;generalize C.tmps=ts
 induction l generalizing ts with
 | nil=>rfl
 | cons x l ih=>simp only [List.foldl_cons,putAll];rw [ih];rfl
theorem round_to {l:Nat} {C:LC} {args:List V} {R:V→Heap→Prop} (hg:H.get l=some (loopO .ready none C)) (hl:args.length=C.params.length)
  (h:WpK T (some l) C.assign [] (rTmps C args) H (RQ1 T l C R)):RoundTo T l args H R:=by
 obtain ⟨n,e,a1,H1,h1,h2⟩:=h
 cases e with
 | normal =>
   obtain ⟨h3,m,e,a2,H2,h4,h5,h6⟩:=h2;have hlen:Nat.beq args.length C.params.length=true:=by rw [Nat.beq_eq];exact hl
   have h1':=ev_up (Nat.le_max_left n m) h1;have h4':=ev_up (Nat.le_max_right n m) h4
   have key:∀ r,(match e with
     | .normal=>CR.returned (.bool true) (H2.put l (loopO .ready none C))
     | .ret=>.returned (.bool false) (H2.put l (loopO .done (some .ret) C))
     | .exit id=>.returned (.bool false) (H2.put l (loopO .done (some (.exit id)) C))
     | _=>.stuck)=r→round (ev T (max n m)) l args H=r:=by
    intro r hr;unfold round;rw [hg];simp only [loopO] at h3 h5 ⊢;rw [hlen];simp only [cond_true];unfold rTmps at h1';rw [h1'];simp only;rw [h3];simp only;simp only [loopO] at h4';rw [h4'];simp only;rw [h5];simp only;rw [← hr]
    cases e <;> rfl
   cases e with
   | normal=>exact ⟨max n m,_,_,key _ rfl,h6⟩
   | ret=>exact ⟨max n m,_,_,key _ rfl,h6⟩
   | exit id=>exact ⟨max n m,_,_,key _ rfl,h6⟩
   | goto j=>exact h6.elim
   | panic v=>exact h6.elim
 | _=>exact h2.elim
def after (T:Tab) (ρ:Option Nat) (k:List Fr) (Q:Qt) (p:Option Code) (a:A) (H:Heap):Prop:=
 match p with
 | none=>unw T ρ Q k .normal a H
 | some .ret=>unw T ρ Q k .ret a H
 | some (.exit id)=>unw T ρ Q k (.exit id) a H
 | some _=>False
theorem after_none:after T ρ k Q none a H=unw T ρ Q k .normal a H:=Eq.trans rfl rfl
theorem after_ret:after T ρ k Q (some .ret) a H=unw T ρ Q k .ret a H:=Eq.trans rfl rfl
theorem after_exit (id:Nat):after T ρ k Q (some (.exit id)) a H=unw T ρ Q k (.exit id) a H:=Eq.trans rfl rfl
theorem wpK_rangeFunc {x:Operand} {params:Array Tmp} {assign body:Code} {g:V} {kf:FuncId} {args:List V} (hx:a.eval x=some g) (hc:callee g [.func (.yield (H.n+1)) [] []]=.call kf args) (hp:T.prim kf=none)
  (h:CallsTo T kf args ((H.push (.deferred (some []))).push (loopO .ready none ⟨0,a.tmps,params.toList,assign,body,H.n⟩)) fun _ H2=>∃ st p C,H2.get (H.n+1)=some (loopO st p C)∧st≠.busy ∧
   after T none k Q p ⟨a.tmps,.collected H.n::a.defers⟩ (H2.put (H.n+1) (loopO .exhausted p C))):WpK T none (.rangeFunc x params assign body) k a H Q:=by
 obtain ⟨n,v,H2,h1,st,p,C,h2,h3,h4⟩:=h
 have key:∀ r,(match p with
   | none=>some (Ex.normal,A.mk a.tmps (.collected H.n::a.defers),H2.put (H.n+1) (loopO .exhausted p C))
   | some .ret=>some (.ret,A.mk a.tmps (.collected H.n::a.defers),H2.put (H.n+1) (loopO .exhausted p C))
   | some (.exit id)=>some (.exit id,A.mk a.tmps (.collected H.n::a.defers),H2.put (H.n+1) (loopO .exhausted p C))
   | some _=>none)=some r→step T (ev T n) n none (.rangeFunc x params assign body) a H=some r:=by
  intro r hr;simp only [step,hx,Heap.n_push,hc,hp,Option.isSome_none,cond_false];unfold run at h1;simp only [loopO] at h1 h2 hr;rw [h1];simp only;rw [h2];simp only
  cases st <;> first | exact absurd rfl h3 | (simp only [cond_false,List.singleton_append];rw [← hr];cases p with
   | none=>rfl
   | some q=>cases q <;> rfl)
 rw [WpK,wp_step]
 cases p with
 | none=>exact ⟨n,_,_,_,key _ rfl,h4⟩
 | some q =>
   cases q <;> first | exact h4.elim | exact ⟨n,_,_,_,key _ rfl,h4⟩
def WpF (T:Tab) (ρ:Option Nat) (v:V) (params:Array Tmp) (assign body:Code) (k:List Fr) (a:A) (H:Heap) (Q:Qt):Prop:=
 ∀ x,a.eval x=some v→WpK T ρ (.rangeFunc x params assign body) k a H Q
theorem wpK_rf (t:Tmp) (params:Array Tmp) (assign body:Code):WpK T ρ (.rangeFunc (.tmp t) params assign body) k a H Q=WpF T ρ (a.tmp t) params assign body k a H Q:=by
 apply propext;constructor
 ·intro h x hx;rw [WpK,wp_step] at h ⊢;obtain ⟨n,e,a',H',h1,h2⟩:=h;refine ⟨n,e,a',H',?_,h2⟩;have ht:a.eval (.tmp t)=some (a.tmp t):=rfl;simp only [step,ht] at h1;simp only [step,hx];exact h1
 ·intro h;exact h _ rfl
end Go.Am

namespace Go.Am
variable {T:Tab} {ρ:Option Nat} {k:List Fr} {a:A} {H:Heap} {Q:Qt} {ops:Array Oper}
noncomputable def stoodL (T:Tab) (a:A) (o:Op) (v:V) (m:Nat):List (Nat×Heap)→Bool
 | []=>true
 | (h,H)::rest=>(m.testBit h || (match execOp T a H o with
   | .val u _=>sameV u v
   | _=>false)) && stoodL T a o v m rest
theorem stoodL_eq (T:Tab) (a:A) (o:Oper) (v:V) (m:Nat):∀ sn,stood T a o v m sn=stoodL T a o.op v m sn
 | []=>rfl
 | (h,H)::rest=>by simp only [stood,stoodL,stoodL_eq T a o v m rest];rfl
theorem stoodL_nil (T:Tab) (a:A) (o:Op) (v:V) (m:Nat):stoodL T a o v m []=true:=Eq.trans rfl rfl
def sameR (v:V):OR→Bool
 | .val u _=>sameV u v
 | _=>false
theorem stoodL_cons (T:Tab) (a:A) (o:Op) (v:V) (m h:Nat) (H:Heap) (rest:List (Nat×Heap)) :
  stoodL T a o v m ((h,H)::rest)=((m.testBit h || sameR v (execOp T a H o)) && stoodL T a o v m rest):=by
 simp only [stoodL,sameR]
theorem sameR_val (v u:V):sameR v (.val u H)=sameV u v:=Eq.trans rfl rfl
theorem sameV_int (kd:IntKind) (n:Int):sameV (.int kd n) (.int kd n)=true:=by simp [sameV,sameV.same1]
theorem sameV_bool (b:Bool):sameV (.bool b) (.bool b)=true:=by simp [sameV,sameV.same1]
theorem sameV_str (s:List UInt8):sameV (.str s) (.str s)=true:=by simp [sameV,sameV.same1]
theorem sameV_ptr (l o:Nat):sameV (.ptr l o) (.ptr l o)=true:=by simp [sameV,sameV.same1]
theorem sameV_slice (l o n s:Nat) (c:Option Nat):sameV (.slice l o n s c) (.slice l o n s c)=true:=by simp [sameV,sameV.same1]
theorem sameV_nilSlice:sameV .nilSlice .nilSlice=true:=by simp [sameV,sameV.same1]
noncomputable def runT (T:Tab) (ev:Ev) (fuel:Nat) (ops:Array Oper) (bl:List Nat) (k:Nat):List Nat→List (Nat×Heap)→A→Heap→Option (A×Heap)
 | [],_,a,H=>some (a,H)
 | i::rest,sn,a,H=>match ops[i]? with
   | none=>none
   | some o=>cond (wanted ops a o) (
     cond (isAlloc o.op) (match quietAt T a (k+i) o.op with
      | some (v,some ob)=>runT T ev fuel ops bl k rest sn (a.put o.dst v) (H.put (k+i) ob)
      | _=>none)
     (match execOp T a H o.op with
      | .val v H'=>cond (reads o.op) (cond (stoodL T a o.op v (bl.getD i 0) sn) (runT T ev fuel ops bl k rest sn (a.put o.dst v) H') none)
        (runT T ev fuel ops bl k rest (cond (quiet o.op) sn ((i,H)::sn)) (a.put o.dst v) H')
      | .call f args=>match calls T ev fuel f args H with
        | .returned v H'=>runT T ev fuel ops bl k rest ((i,H)::sn) (a.put o.dst v) H'
        | _=>none
      | .round l args=>match round ev l args H with
        | .returned v H'=>runT T ev fuel ops bl k rest ((i,H)::sn) (a.put o.dst v) H'
        | _=>none
      | _=>none)) (runT T ev fuel ops bl k rest sn (a.put o.dst undefV) H)
theorem runT_ok {ev:Ev} {fuel k0:Nat} {bef:Array Nat} {bl:List Nat} (hb:∀ i,bef.getD i 0=bl.getD i 0) (hc:classOk T ops=true):∀ (l:List Nat) (sn:List (Nat×Heap)) (a:A) (H:Heap) (r:A×Heap),
  runT T ev fuel ops bl k0 l sn a H=some r→runDraw T ev fuel ops bef k0 l sn a H=some r:=by
 intro l
 induction l with
 | nil=>intro sn a H r h;exact h
 | cons i l ih =>
   intro sn a H r h;unfold runT at h;unfold runDraw
   cases ho:ops[i]? with
   | none=>rw [ho] at h;cases h
   | some o =>
     rw [ho] at h;simp only at h ⊢;have hcl:(cond (quiet o.op) (isAlloc o.op || blind T o.op) true)=true:=Array.all_eq_true_iff_forall_mem.1 hc o (Array.mem_of_getElem? ho)
     cases hw:wanted ops a o with
     | false=>rw [hw] at h;exact ih sn _ _ _ h
     | true =>
       rw [hw] at h;simp only [cond_true] at h ⊢
       cases ha:isAlloc o.op with
       | true =>
         rw [ha] at h;simp only [cond_true] at h;rw [isAlloc_quiet ha];simp only [cond_true];split at h
         ·rename_i v ob hq;rw [hq];exact ih sn _ _ _ h
         ·cases h
       | false =>
         rw [ha] at h;simp only [cond_false] at h
         cases hq:quiet o.op with
         | true =>
           rw [hq,ha] at hcl;simp only [cond_true,Bool.false_or] at hcl ⊢
           have hrd:reads o.op=false:=by
            cases hr:reads o.op with
            | false=>rfl
            | true=>rw [reads_not_quiet hr] at hq;cases hq
           cases hx:execOp T a H o.op with
           | val v H' =>
             rw [hx] at h;simp only [hrd,hq,cond_false,cond_true] at h;obtain ⟨h1,h2⟩:=blind_at hcl hx (k0+i);rw [h1];subst h2;exact ih sn _ _ _ h
           | call f args =>
             obtain ⟨q,hb⟩:=blind_ofV (T:=T) (a:=a) hcl;rw [hb] at hx;cases q <;> cases hx
           | round f args =>
             obtain ⟨q,hb⟩:=blind_ofV (T:=T) (a:=a) hcl;rw [hb] at hx;cases q <;> cases hx
           | defer d=>rw [hx] at h;cases h
           | panic v=>rw [hx] at h;cases h
           | recover=>rw [hx] at h;cases h
           | stuck=>rw [hx] at h;cases h
         | false =>
           simp only [cond_false]
           cases hrd:reads o.op with
           | true =>
             simp only [cond_true]
             cases hx:execOp T a H o.op with
             | val v H' =>
               rw [hx] at h;simp only [hrd,cond_true] at h ⊢;rw [stoodL_eq,hb]
               cases hs:stoodL T a o.op v (bl.getD i 0) sn with
               | false=>rw [hs] at h;cases h
               | true=>rw [hs] at h;exact ih sn _ _ _ h
             | call f args=>rcases reads_kind (T:=T) (a:=a) (H:=H) hrd with ⟨u,hu⟩ | hu <;> rw [hu] at hx <;> cases hx
             | round f args=>rcases reads_kind (T:=T) (a:=a) (H:=H) hrd with ⟨u,hu⟩ | hu <;> rw [hu] at hx <;> cases hx
             | defer d=>rw [hx] at h;cases h
             | panic v=>rw [hx] at h;cases h
             | recover=>rw [hx] at h;cases h
             | stuck=>rw [hx] at h;cases h
           | false =>
             simp only [cond_false]
             cases hx:execOp T a H o.op with
             | val v H'=>rw [hx] at h;simp only [hrd,hq,cond_false] at h;exact ih _ _ _ _ h
             | call f args =>
               rw [hx] at h;simp only at h ⊢
               cases hcc:calls T ev fuel f args H with
               | returned v H'=>rw [hcc] at h;exact ih _ _ _ _ h
               | panicked v H'=>rw [hcc] at h;cases h
               | stuck=>rw [hcc] at h;cases h
             | round f args =>
               rw [hx] at h;simp only at h ⊢
               cases hcc:round ev f args H with
               | returned v H'=>rw [hcc] at h;exact ih _ _ _ _ h
               | panicked v H'=>rw [hcc] at h;cases h
               | stuck=>rw [hcc] at h;cases h
             | defer d=>rw [hx] at h;cases h
             | panic v=>rw [hx] at h;cases h
             | recover=>rw [hx] at h;cases h
             | stuck=>rw [hx] at h;cases h
theorem runT_mono {e e':Ev} (he:EvLe e e') {n m:Nat} (hm:n≤m) {bl:List Nat} {k0:Nat}:∀ (l:List Nat) (sn:List (Nat×Heap)) (a:A) (H:Heap) r,runT T e n ops bl k0 l sn a H=some r→runT T e' m ops bl k0 l sn a H=some r:=by
 intro l
 induction l with
 | nil=>intro sn a H r h;exact h
 | cons i l ih =>
   intro sn a H r h;unfold runT at h ⊢
   cases ho:ops[i]? with
   | none=>rw [ho] at h;cases h
   | some o =>
     rw [ho] at h;simp only at h ⊢
     cases hw:wanted ops a o with
     | false=>rw [hw] at h;exact ih _ _ _ _ h
     | true =>
       rw [hw] at h;simp only [cond_true] at h ⊢
       cases ha:isAlloc o.op with
       | true =>
         rw [ha] at h;simp only [cond_true] at h ⊢;split at h
         ·rename_i v ob hq;exact ih _ _ _ _ h
         ·cases h
       | false =>
         rw [ha] at h;simp only [cond_false] at h ⊢
         cases hx:execOp T a H o.op with
         | val v H' =>
           rw [hx] at h;simp only at h ⊢
           cases hr:reads o.op with
           | true =>
             rw [hr] at h;simp only [cond_true] at h ⊢
             cases hs:stoodL T a o.op v (bl.getD i 0) sn with
             | false=>rw [hs] at h;cases h
             | true=>rw [hs] at h;exact ih _ _ _ _ h
           | false=>rw [hr] at h;exact ih _ _ _ _ h
         | call f args =>
           rw [hx] at h;simp only at h ⊢;have hne:calls T e n f args H≠.stuck:=by intro q;rw [q] at h;cases h
           rw [calls_mono he hm hne]
           cases hc:calls T e n f args H with
           | returned v H'=>rw [hc] at h;exact ih _ _ _ _ h
           | panicked v H'=>rw [hc] at h;cases h
           | stuck=>exact (hne hc).elim
         | round l args =>
           rw [hx] at h;simp only at h ⊢;have hne:round e l args H≠.stuck:=by intro q;rw [q] at h;cases h
           rw [round_mono he hne]
           cases hc:round e l args H with
           | returned v H'=>rw [hc] at h;exact ih _ _ _ _ h
           | panicked v H'=>rw [hc] at h;cases h
           | stuck=>exact (hne hc).elim
         | defer d=>rw [hx] at h;cases h
         | panic v=>rw [hx] at h;cases h
         | recover=>rw [hx] at h;cases h
         | stuck=>rw [hx] at h;cases h
def WpT (T:Tab) (ρ:Option Nat) (ops:Array Oper) (bl:List Nat) (k0:Nat) (l:List Nat) (sn:List (Nat×Heap)) (k:List Fr) (a:A) (H:Heap) (Q:Qt):Prop:=
 ∃ n a' H',runT T (ev T n) n ops bl k0 l sn a H=some (a',H')∧unw T ρ Q k .normal a' H'
def WpTX (T:Tab) (ρ:Option Nat) (ops:Array Oper) (bl:List Nat) (k0:Nat) (o:Op) (d:Option Tmp) (i:Nat) (l:List Nat) (sn:List (Nat×Heap)) (k:List Fr) (a:A) (H:Heap) (Q:Qt):OR→Prop
 | .val v H'=>cond (reads o) (stoodL T a o v (bl.getD i 0) sn=true∧WpT T ρ ops bl k0 l sn k (a.put d v) H' Q) (WpT T ρ ops bl k0 l (cond (quiet o) sn ((i,H)::sn)) k (a.put d v) H' Q)
 | .call f as=>CallsTo T f as H (fun v H'=>WpT T ρ ops bl k0 l ((i,H)::sn) k (a.put d v) H' Q)
 | .round r as=>RoundTo T r as H (fun v H'=>WpT T ρ ops bl k0 l ((i,H)::sn) k (a.put d v) H' Q)
 | _=>False
def WpTA (T:Tab) (ρ:Option Nat) (ops:Array Oper) (bl:List Nat) (k0:Nat) (d:Option Tmp) (i:Nat) (l:List Nat) (sn:List (Nat×Heap)) (k:List Fr) (a:A) (H:Heap) (Q:Qt):Option (V×Option O)→Prop
 | some (v,some ob)=>WpT T ρ ops bl k0 l sn k (a.put d v) (H.put (k0+i) ob) Q
 | _=>False
def WpTW (T:Tab) (ρ:Option Nat) (ops:Array Oper) (bl:List Nat) (k0:Nat) (w:Bool) (o:Oper) (i:Nat) (l:List Nat) (sn:List (Nat×Heap)) (k:List Fr) (a:A) (H:Heap) (Q:Qt):Prop:=
 cond w (cond (isAlloc o.op) (WpTA T ρ ops bl k0 o.dst i l sn k a H Q (quietAt T a (k0+i) o.op)) (WpTX T ρ ops bl k0 o.op o.dst i l sn k a H Q (execOp T a H o.op)))
  (WpT T ρ ops bl k0 l sn k (a.put o.dst undefV) H Q)
def WpTO (T:Tab) (ρ:Option Nat) (ops:Array Oper) (bl:List Nat) (k0:Nat) (o:Option Oper) (i:Nat) (l:List Nat) (sn:List (Nat×Heap)) (k:List Fr) (a:A) (H:Heap) (Q:Qt):Prop:=
 match o with
 | none=>False
 | some o=>WpTW T ρ ops bl k0 (wanted ops a o) o i l sn k a H Q
def drawChk2 (T:Tab) (ops:Array Oper) (n:Nat) (l bl:List Nat):Bool:=
 Nat.beq ops.size n && drawOk ops && natsEq (sched ops (Region.before ops)) l && classOk T ops && natsEq (Region.before ops).toList bl
theorem wpK_draw2 (n:Nat) (l bl:List Nat) {id:Nat} (hw:H.WF) (hd:drawChk2 T ops n l bl=true) (h:WpT T ρ ops bl H.n l [] k a (H.keep n) Q):WpK T ρ (.region id ops true) k a H Q:=by
 simp only [drawChk2,Bool.and_eq_true,Nat.beq_eq] at hd;obtain ⟨⟨⟨⟨hz,hd⟩,hs⟩,hc⟩,hb⟩:=hd;subst hz;obtain ⟨n,a',H',h1,h2⟩:=h;rw [WpK,wp_step];refine ⟨n,.normal,a',H',?_,h2⟩
 have hb':∀ i,(Region.before ops).getD i 0=bl.getD i 0:=by
  intro i;rw [← natsEq_eq hb,Array.getD_eq_getD_getElem?,List.getD_eq_getElem?_getD,Array.getElem?_toList]
 simp only [step,hd,hw.clean,Bool.and_self,cond_true];rw [natsEq_eq hs,runT_ok hb' hc l [] _ _ _ h1]
variable {bl:List Nat} {k0:Nat} {l:List Nat} {d:Option Tmp} {sn:List (Nat×Heap)}
theorem wpT_nil:WpT T ρ ops bl k0 [] sn k a H Q=unw T ρ Q k .normal a H:=by
 apply propext;constructor
 ·rintro ⟨n,a',H',h,q⟩;cases h;exact q
 ·intro q;exact ⟨0,_,_,rfl,q⟩
theorem wpT_cons (i:Nat):WpT T ρ ops bl k0 (i::l) sn k a H Q=WpTO T ρ ops bl k0 ops[i]? i l sn k a H Q:=by
 apply propext;unfold WpTO WpTW;unfold WpT;simp only [runT]
 cases ho:ops[i]? with
 | none=>simp
 | some o =>
   simp only
   cases hw:wanted ops a o with
   | false=>exact Iff.rfl
   | true =>
     simp only [cond_true]
     cases ha:isAlloc o.op with
     | true =>
       simp only [cond_true]
       cases hq:quietAt T a (k0+i) o.op with
       | none=>simp [WpTA]
       | some q =>
         obtain ⟨v,ob⟩:=q
         cases ob with
         | none=>simp [WpTA]
         | some ob=>exact Iff.rfl
     | false =>
       simp only [cond_false]
       cases hx:execOp T a H o.op with
       | val v H' =>
         simp only [WpTX]
         cases hr:reads o.op with
         | true =>
           simp only [cond_true]
           cases hs:stoodL T a o.op v (bl.getD i 0) sn with
           | false=>simp
           | true=>simp only [cond_true,true_and];exact Iff.rfl
         | false=>exact Iff.rfl
       | call f args =>
         simp only [WpTX];constructor
         ·rintro ⟨n,a',H',h,q⟩
          cases hc:calls T (ev T n) n f args H with
          | returned v H1=>rw [hc] at h;exact ⟨n,v,H1,hc,n,a',H',h,q⟩
          | panicked v H1=>rw [hc] at h;cases h
          | stuck=>rw [hc] at h;cases h
         ·rintro ⟨n,v,H1,hc,m,a',H',h,q⟩;refine ⟨max n m,a',H',?_,q⟩;have:=run_up (Nat.le_max_left n m) hc;unfold run at this;rw [this];exact runT_mono (ev_mono m _ (Nat.le_max_right n m)) (Nat.le_max_right n m) _ _ _ _ _ h
       | round f args =>
         simp only [WpTX];constructor
         ·rintro ⟨n,a',H',h,q⟩
          cases hc:round (ev T n) f args H with
          | returned v H1=>rw [hc] at h;exact ⟨n,v,H1,hc,n,a',H',h,q⟩
          | panicked v H1=>rw [hc] at h;cases h
          | stuck=>rw [hc] at h;cases h
         ·rintro ⟨n,v,H1,hc,m,a',H',h,q⟩;refine ⟨max n m,a',H',?_,q⟩
          have:round (ev T (max n m)) f args H=.returned v H1:=by
           rw [round_mono (ev_mono n _ (Nat.le_max_left n m)) (by rw [hc];simp)];exact hc
          rw [this];exact runT_mono (ev_mono m _ (Nat.le_max_right n m)) (Nat.le_max_right n m) _ _ _ _ _ h
       | _=>simp [WpTX]
theorem wpTO_some (o:Oper) (i:Nat):WpTO T ρ ops bl k0 (some o) i l sn k a H Q=WpTW T ρ ops bl k0 (wanted ops a o) o i l sn k a H Q:=Eq.trans rfl rfl
theorem wpTW_true (o:Oper) (i:Nat):WpTW T ρ ops bl k0 true o i l sn k a H Q=cond (isAlloc o.op) (WpTA T ρ ops bl k0 o.dst i l sn k a H Q (quietAt T a (k0+i) o.op)) (WpTX T ρ ops bl k0 o.op o.dst i l sn k a H Q (execOp T a H o.op)):=Eq.trans rfl rfl
theorem wpTW_false (o:Oper) (i:Nat):WpTW T ρ ops bl k0 false o i l sn k a H Q=WpT T ρ ops bl k0 l sn k (a.put o.dst undefV) H Q:=Eq.trans rfl rfl
theorem wpTX_val (o:Op) (i:Nat) (v:V) (H':Heap):WpTX T ρ ops bl k0 o d i l sn k a H Q (.val v H')=cond (reads o) (stoodL T a o v (bl.getD i 0) sn=true∧WpT T ρ ops bl k0 l sn k (a.put d v) H' Q) (WpT T ρ ops bl k0 l (cond (quiet o) sn ((i,H)::sn)) k (a.put d v) H' Q):=Eq.trans rfl rfl
theorem wpTA_some (i:Nat) (v:V) (ob:O):WpTA T ρ ops bl k0 d i l sn k a H Q (some (v,some ob))=WpT T ρ ops bl k0 l sn k (a.put d v) (H.put (k0+i) ob) Q:=Eq.trans rfl rfl
theorem wpTX_call {o:Op} {i:Nat} {f:FuncId} {as:List V} {R:V→Heap→Prop} (h:CallsTo T f as H R) (hk:∀ v H',R v H'→WpT T ρ ops bl k0 l ((i,H)::sn) k (a.put d v) H' Q):WpTX T ρ ops bl k0 o d i l sn k a H Q (.call f as):=h.mono hk
/-! ### Methods of interface values, by the tables -/
def callL (f:FuncId) (args:List V):Option V→OR
 | some w=>.call f (w::args)
 | none=>.stuck
noncomputable def invM (T:Tab) (H:Heap) (v:V) (args:List V):Option (FuncId×Option TypeId)→OR
 | some (f,none)=>.call f (v::args)
 | some (f,some e)=>callL f args (loadP T H e v)
 | none=>.stuck
theorem invoked_m (t:TypeId) (name:String) (h:(methP T t name).isSome=true) (v:V) (args:List V):invoked T H (.iface t v) name args=invM T H v args (methP T t name):=by
 cases hm:methP T t name with
 | none=>rw [hm] at h;cases h
 | some q =>
   obtain ⟨f,e⟩:=q
   cases e with
   | none=>rw [invoked_self hm];rfl
   | some e =>
     cases hl:loadP T H e v with
     | some w=>rw [invoked_deref hm hl];simp [invM,hl,callL]
     | none =>
       simp only [invM,hl,callL];unfold methP at hm;split at hm
       ·rename_i g p hmm;simp only [invoked,hmm,follow,receiver];split at hm
        ·rename_i e2 hu;rw [hu]
         cases p with
         | true=>cases hm
         | false =>
           cases hm
           cases v <;> first | (simp only [loadP] at hl;simp [Pl.get,hl];done) | simp [Pl.get]
        ·rename_i d hd hu
         cases p <;> cases hm
        ·cases hm
       ·cases hm
theorem invM_self (v:V) (args:List V) (f:FuncId):invM T H v args (some (f,none))=.call f (v::args):=Eq.trans rfl rfl
theorem invM_deref (v:V) (args:List V) (f:FuncId) (e:TypeId):invM T H v args (some (f,some e))=callL f args (loadP T H e v):=Eq.trans rfl rfl
theorem callL_some (f:FuncId) (args:List V) (w:V):callL f args (some w)=.call f (w::args):=Eq.trans rfl rfl
noncomputable def asrt (T:Tab) (H:Heap) (u:TypeId) (v:V):OR:=
 match v with
 | .iface t w=>if t=u then .val w H else .stuck
 | _=>.stuck
theorem xo_asrt (x:Operand) (s u:TypeId) (h:isIface T u=some false):execOp T a H (.typeAssert x s u false)=op1 a x fun v=>asrt T H u v:=by
 rw [xo_typeAssert _ _ _ _ _ rfl]
 congr 1;funext v
 unfold isIface at h;split at h
 ·cases h
 ·rename_i d hd hne;rw [hne]
  have key:(match some d,v with
   | some (.interface _),_ | none,_=>OR.stuck
   | some _,.iface t w=>cond (Nat.beq t u) (.val (cond false (.tuple [w,.bool true]) w) H) (cond false (match T.zeroV u with
     | some z=>.val (.tuple [z,.bool false]) H
     | none=>.stuck) .stuck)
   | some _,.nilIface=>cond false (match T.zeroV u with
     | some z=>.val (.tuple [z,.bool false]) H
     | none=>.stuck) .stuck
   | _,_=>.stuck)=asrt T H u v:=by
   unfold asrt
   cases v with
   | iface t w=>cases d <;> first | exact absurd rfl (hd _) | (simp only [cond_beq,cond_false])
   | nilIface=>cases d <;> first | exact absurd rfl (hd _) | rfl
   | _=>cases d <;> first | exact absurd rfl (hd _) | rfl
  exact key
 ·cases h
theorem asrt_iface (u t:TypeId) (w:V):asrt T H u (.iface t w)=if t=u then .val w H else .stuck:=Eq.trans rfl rfl
noncomputable def qbs1 (T:Tab) (n:Nat) (t:TypeId) (v:V):Option (V×Option O):=
 if v.cells.length=esz T t then some (.slice n 0 1 (esz T t) (some 1),some (.cells false v.cells)) else none
theorem quietAt_bs1 (n:Nat) (t:TypeId) (h:mkOk T t=true) (x:Tmp):quietAt T a n (.buildSlice t 1 #[(0,.tmp x)])=qbs1 T n t (a.tmp x):=by
 by_cases hl:(a.tmp x).cells.length=esz T t
 ·have h1:Nat.beq (n+1) n=false:=by rw [← Bool.not_eq_true,Nat.beq_eq];omega
  have h2:=get_push_same ⟨n,.leaf⟩ (.cells false (a.tmp x).cells);simp only at h2;simp only [quietAt,xo_bs1 t h,bs1,qbs1,if_pos hl,Heap.n_push,h1,cond_false,h2]
 ·simp only [quietAt,xo_bs1 t h,bs1,qbs1,if_neg hl]
theorem qbs1_eq (n:Nat) (t:TypeId) (v:V):qbs1 T n t v=if v.cells.length=esz T t then some (.slice n 0 1 (esz T t) (some 1),some (.cells false v.cells)) else none:=Eq.trans rfl rfl
theorem quietAt_bs0 (n:Nat) (t:TypeId) (h:mkOk T t=true):quietAt T a n (.buildSlice t 0 #[])=some (.slice n 0 0 (esz T t) (some 0),some (.cells false [])):=by
 have h1:Nat.beq (n+1) n=false:=by rw [← Bool.not_eq_true,Nat.beq_eq];omega
 have h2:=get_push_same ⟨n,.leaf⟩ (.cells false []);simp only at h2;simp only [quietAt,xo_buildSlice0 t h,Heap.n_push,h1,cond_false,h2]
/-! ### Structs, side by side -/
theorem bin_eql_agg (t:TypeId) (h:isStruct T t=true) (f:Bool) (xs ys:List V):binOp T .eql t f (.agg xs) (.agg ys)=(T.eqS t xs ys).map V.bool:=by
 unfold isStruct at h;split at h
 ·rename_i fs e;simp [binOp,equal,e]
 ·cases h
theorem bin_neq_agg (t:TypeId) (h:isStruct T t=true) (f:Bool) (xs ys:List V):binOp T .neq t f (.agg xs) (.agg ys)=(T.eqS t xs ys).map fun b=>V.bool (!b):=by
 unfold isStruct at h;split at h
 ·rename_i fs e;simp [binOp,equal,e]
 ·cases h
end Go.Am

set_option linter.defProp false
namespace Go.Am
def wb0:=And.intro @unw_nil<|And.intro @unw_sq<|And.intro @unw_sq_ret<|And.intro @unw_sq_exit<|And.intro @unw_bk<|And.intro @unw_bk_ret<|And.intro @unw_bk_exit<|And.intro @unw_lp<|And.intro @unw_lp_ret<|And.intro @unw_lp_exit<|And.intro @unw_sc<|And.intro @unw_sc_ret<|And.intro @unw_sc_exit<|And.intro @wpK_skip<|And.intro @wpK_label<|And.intro @wpK_ret<|And.intro @wpK_exit<|And.intro @wpK_seq<|And.intro @wpK_block<|And.intro @wpK_scope<|And.intro @wpK_condB<|And.intro @wpB_true<|And.intro @wpB_false<|And.intro @wpK_region<|And.intro @wpO_nil<|And.intro @wpO_cons<|And.intro @wpOW_true<|And.intro @wpOW_false<|And.intro @wpX_val<|@wpS_nil
def wb1:=And.intro @wpS_cons<|And.intro @wpSO_some<|And.intro @wpSW_true<|And.intro @wpSW_false<|And.intro @wpSX_val<|And.intro @wpSA_some<|And.intro @quietAt_alloc<|And.intro @quietAt_box<|And.intro @cond_true.{1}<|And.intro @cond_false.{1}<|And.intro @op1_tmp<|And.intro @op1_int<|And.intro @op1_bool<|And.intro @op1_str<|And.intro @op1_nilSlice<|And.intro @op1_nilPtr<|And.intro @op1_nilFunc<|And.intro @op1_nilIface<|And.intro @op1_nilMap<|And.intro @op1_func<|And.intro @evals_nil<|And.intro @evals_tmp<|And.intro @evals_int<|And.intro @evals_bool<|And.intro @evals_str<|And.intro @evals_nilSlice<|And.intro @evals_nilFunc<|And.intro @evals_func<|And.intro @evalParts_nil<|@evalParts_tmp
def wb2:=And.intro @evalParts_int<|And.intro @ofV_some<|And.intro @ofH_some<|And.intro @ofVH_some<|And.intro @Option.map_some.{0,0}<|And.intro @Option.bind_some.{0,0}<|And.intro @xo_move<|And.intro @xo_assign<|And.intro @xo_load<|And.intro @xo_store_tmp<|And.intro @xo_store_int<|And.intro @xo_store_bool<|And.intro @xo_store_nilSlice<|And.intro @xo_store_nilFunc<|And.intro @xo_fieldAddr<|And.intro @xo_indexAddr<|And.intro @xo_binOp<|And.intro @xo_unOp<|And.intro @xo_alloc<|And.intro @xo_box<|And.intro @xo_pick<|And.intro @xo_extract<|And.intro @xo_makeFunc<|And.intro @xo_nilCheck<|And.intro @xo_call<|And.intro @callOp_value_tmp<|And.intro @callOp_value_func<|And.intro @callOp_builtin<|And.intro @callOp_invoke_tmp<|@b_len
def wb3:=And.intro @b_len_str<|And.intro @nth_tuple<|And.intro @lenS_slice<|And.intro @lenS_nil<|And.intro @isNilS_nil<|And.intro @isNilS_slice<|And.intro @bin_add<|And.intro @bin_sub<|And.intro @bin_mul<|And.intro @bin_quo<|And.intro @bin_rem<|And.intro @bin_eql<|And.intro @bin_neq<|And.intro @bin_lss<|And.intro @bin_leq<|And.intro @bin_gtr<|And.intro @bin_geq<|And.intro @bin_eql_str<|And.intro @bin_neq_str<|And.intro @bin_eql_bool<|And.intro @bin_neq_bool<|And.intro @bin_eql_nilS<|And.intro @bin_neq_nilS<|And.intro @un_not<|And.intro @not_dec<|And.intro @i64_wrap<|And.intro @isPtr_ptr<|And.intro @ptrOff_ptr<|And.intro @isPtr_off<|@ptrOff_off
def wb4:=And.intro @A.defers_put<|And.intro @A.n_put<|And.intro @A.put_none<|And.intro @A.tmp_puts<|And.intro @A.tmp_of<|And.intro @start_tmp<|And.intro @start_n<|And.intro @start_defers<|And.intro @cellsAt_push_same<|And.intro @cellsAt_push_eq<|And.intro @cellsAt_push<|And.intro @cellsAt_put_same<|And.intro @cellsAt_put<|And.intro @put_push<|And.intro @put_push_eq<|And.intro @put_put<|And.intro @get_push_same<|And.intro @get_push_eq<|And.intro @get_push_ne<|And.intro @get_put_same<|And.intro @Heap.get_put_ne<|And.intro @Heap.n_push<|And.intro @Heap.n_put<|And.intro @Heap.n_keep<|And.intro @loadP_ptr<|And.intro @loadP_agg<|And.intro @storeP_one<|And.intro @storeP_agg<|And.intro @putCells_get<|And.intro @putC_some<|And.intro @List.all_cons.{0}<|And.intro @List.all_nil.{0}<|And.intro @over_one<|And.intro @retQ_normal<|And.intro @retQ_ret<|@leave_nil
def wb5:=And.intro @leave_collected<|And.intro @resOk_some<|And.intro @results_nil<|And.intro @results_tmp<|And.intro @results_cell<|And.intro @pack_one<|And.intro @pack_nil<|And.intro @pack_two<|And.intro @cells_agg<|And.intro @cells_int<|And.intro @cells_bool<|And.intro @cells_str<|And.intro @cells_ptr<|And.intro @cells_slice<|And.intro @cells_nilSlice<|And.intro @cells_func<|And.intro @cells_nilFunc<|And.intro @cells_iface<|And.intro @cells_nilIface<|And.intro @cells_map<|And.intro @cells_nilMap<|And.intro @cells_nilPtr<|And.intro @List.getElem?_toArray.{0}<|And.intro @List.getElem?_cons_zero.{0}<|And.intro @List.getElem?_cons_succ.{0}<|And.intro @List.getD_cons_zero.{0}<|And.intro @List.getD_cons_succ.{0}<|And.intro @List.append_nil.{0}<|And.intro @List.nil_append.{0}<|@List.cons_append.{0}
def wb6:=And.intro @List.set_cons_zero.{0}<|And.intro @List.set_cons_succ.{0}<|And.intro @List.length_cons.{0}<|And.intro @List.length_nil.{0}<|And.intro @List.length_map.{0,0}<|And.intro @List.length_append.{0}<|And.intro @List.getElem_map.{0,0}<|And.intro @Nat.zero_add<|And.intro @Nat.add_zero<|And.intro @false_and<|And.intro @and_false<|And.intro @Nat.lt_irrefl<|And.intro @eq_self.{1}<|And.intro @not_true_eq_false<|And.intro @not_false_eq_true<|And.intro @decide_true<|And.intro @decide_false<|And.intro @Bool.not_true<|And.intro @Bool.not_false<|And.intro @Bool.true_beq<|And.intro @Bool.false_beq<|And.intro @beq_self_eq_true.{0}<|And.intro @Bool.true_and<|And.intro @Bool.false_and<|And.intro @Bool.and_true<|And.intro @Bool.and_false<|And.intro @Bool.true_or<|And.intro @Bool.false_or<|And.intro @Bool.or_true<|@Bool.or_false
def wb7:=And.intro @and_true<|And.intro @true_and<|And.intro @Option.bind_none.{0,0}<|@Option.map_none.{0,0}
def wb8:=And.intro @V_one_int<|And.intro @V_one_bool<|And.intro @V_one_str<|And.intro @V_one_ptr<|And.intro @V_one_slice<|And.intro @V_one_nilSlice<|And.intro @V_one_func<|And.intro @V_one_nilFunc<|And.intro @V_one_iface<|And.intro @V_one_nilIface<|And.intro @V_one_map<|And.intro @V_one_nilMap<|And.intro @V_one_nilPtr<|And.intro @rTmps_eq<|And.intro @putAll_nil<|And.intro @putAll_cons<|And.intro @List.zip_cons_cons.{0,0}<|And.intro @List.zip_nil_left.{0,0}<|And.intro @wpK_rf<|And.intro @b_append<|And.intro @xo_build<|And.intro @buildV_struct<|And.intro @fill_nil<|And.intro @fill_cons<|And.intro @xo_buildSlice0<|And.intro @xo_bs1<|And.intro @bs1_eq<|And.intro @xo_mkS<|And.intro @mkS_eq<|And.intro @xo_slice_tmp<|And.intro @evalOpt_none<|And.intro @evalOpt_tmp<|And.intro @evalOpt_int<|And.intro @xo_makeInterface<|And.intro @rq1_normal<|And.intro @rq2_normal<|And.intro @rq2_ret<|And.intro @rq2_exit<|And.intro @after_none<|And.intro @after_ret<|And.intro @after_exit<|And.intro @Bool.and_self @Nat.le_refl
def wb9:=And.intro @bin_eql_agg<|And.intro @bin_neq_agg<|And.intro @quietAt_bs1<|And.intro @quietAt_bs0<|And.intro @qbs1_eq<|And.intro @invoked_m<|And.intro @invM_self<|And.intro @invM_deref<|And.intro @callL_some<|And.intro @xo_asrt<|And.intro @asrt_iface<|And.intro @Option.isSome_some.{0}<|And.intro @wpT_nil<|And.intro @wpT_cons<|And.intro @wpTO_some<|And.intro @wpTW_true<|And.intro @wpTW_false<|And.intro @wpTX_val<|And.intro @wpTA_some<|And.intro @stoodL_nil<|And.intro @stoodL_cons<|And.intro @sameR_val<|And.intro @sameV_int<|And.intro @sameV_bool<|And.intro @sameV_str<|And.intro @sameV_ptr<|And.intro @sameV_slice @sameV_nilSlice
def wd:=And.intro @Option.isSome_some.{0}<|And.intro @V_one_int<|And.intro @V_one_bool<|And.intro @V_one_str<|And.intro @V_one_ptr<|And.intro @V_one_slice<|And.intro @V_one_nilSlice<|And.intro @V_one_func<|And.intro @V_one_nilFunc<|And.intro @V_one_iface<|And.intro @V_one_nilIface<|And.intro @V_one_map<|And.intro @V_one_nilMap<|And.intro @V_one_nilPtr<|And.intro @A.n_put<|And.intro @start_n<|And.intro @Heap.n_push<|And.intro @Heap.n_put<|And.intro @Heap.n_keep<|And.intro @not_false_eq_true<|And.intro @List.length_map.{0,0}<|And.intro @List.length_cons.{0}<|And.intro @List.length_nil.{0}<|And.intro @List.length_append.{0}<|And.intro @ne_eq.{1}<|And.intro @List.all_cons.{0}<|And.intro @List.all_nil.{0}<|And.intro @Bool.and_self @Bool.true_and
def wa:=And.intro wb0<|And.intro wb1<|And.intro wb2<|And.intro wb3<|And.intro wb4<|And.intro wb5<|And.intro wb6<|And.intro wb7<|And.intro wb8 wb9
end Go.Am
