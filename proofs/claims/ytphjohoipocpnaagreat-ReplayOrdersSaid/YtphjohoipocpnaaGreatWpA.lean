import Derived.Test.YtphjohoipocpnaaGreatAmA
import Derived.IntWalk
set_option linter.unusedVariables false
/- More fuel: the small machine comes to the same with more of it. -/
namespace Go.Am
theorem ai {a b:Prop} (x:a) (y:b):a∧b:=⟨x,y⟩
variable {T:Tab}
def EvLe (e e':Ev):Prop:=∀ ρ c a H r,e ρ c a H=some r→e' ρ c a H=some r
theorem evD_mono:∀ (n m:Nat),n≤m→∀ c md a H r,evD T n c md a H=some r→evD T m c md a H=some r:=by
 intro n
 induction n with
 | zero=>intro m _ c md a H r h;simp [evD] at h
 | succ n ih =>
   intro m hm c md a H r h;obtain ⟨m,rfl⟩:∃ k,m=k+1:=⟨m - 1,by omega⟩
   have hle:n≤m:=by omega
   unfold evD at h ⊢
   cases c with
   | seq x y =>
     simp only at h ⊢
     cases hx:evD T n x md a H with
     | none=>rw [hx] at h;cases h
     | some q =>
       rw [hx] at h;rw [ih m hle _ _ _ _ _ hx];obtain ⟨e,m',a',H'⟩:=q
       cases e <;> simp only at h ⊢ <;> first | exact ih m hle _ _ _ _ _ h | exact h
   | cond x y z =>
     simp only at h ⊢;split at h
     ·exact ih m hle _ _ _ _ _ h
     ·exact ih m hle _ _ _ _ _ h
     ·cases h
   | region id ops d=>cases d <;> exact h
   | _=>exact h
theorem callD_mono {n m:Nat} (hm:n≤m) {f:FuncId} {args:List V} {md:Md} {H:Heap} {r:Md×Heap} (h:callD T n f args md H=some r):callD T m f args md H=some r:=by
 unfold callD at h ⊢
 cases hf:T.func f with
 | none=>rw [hf] at h;cases h
 | some fn =>
   rw [hf] at h;simp only at h ⊢
   cases hb:fn.body with
   | none=>rw [hb] at h;cases h
   | some c =>
     rw [hb] at h;simp only at h ⊢
     cases hle:Nat.ble args.length fn.ntmps with
     | false=>rw [hle] at h;cases h
     | true =>
       rw [hle] at h;simp only [cond_true] at h ⊢
       cases he:evD T n c md (start args fn.ntmps) H with
       | none=>rw [he] at h;cases h
       | some q=>rw [he] at h;rw [evD_mono n m hm _ _ _ _ _ he];exact h
theorem leave_mono {n m:Nat} (hm:n≤m) {fn:Func} {a:A}:∀ {ds:List D} {md:Md} {H:Heap},leave T n fn a ds md H≠.stuck→leave T m fn a ds md H=leave T n fn a ds md H:=by
 intro ds
 induction ds with
 | nil=>intro md H _;cases md <;> rfl
 | cons d ds ih =>
   intro md H h
   cases d with
   | collected r =>
     simp only [leave] at h ⊢;split at h
     ·rename_i hg;exact ih h
     ·exact (h rfl).elim
   | fn g args =>
     simp only [leave] at h ⊢
     cases hc:callD T n g args md H with
     | none=>rw [hc] at h;exact (h rfl).elim
     | some q=>rw [hc] at h;rw [callD_mono hm hc];simp only at h ⊢;exact ih h
theorem enter_mono {e e':Ev} (he:EvLe e e') {n m:Nat} (hm:n≤m) {f:FuncId} {args:List V} {H:Heap} (h:enter T e n f args H≠.stuck):enter T e' m f args H=enter T e n f args H:=by
 unfold enter at h ⊢
 cases hf:T.func f with
 | none=>rw [hf] at h;try exact (h rfl).elim
 | some fn =>
   rw [hf] at h;simp only at h ⊢
   cases hb:fn.body with
   | none=>rw [hb] at h;try exact (h rfl).elim
   | some c =>
     rw [hb] at h;simp only at h ⊢
     cases hle:Nat.ble args.length fn.ntmps with
     | false=>rw [hle] at h;exact (h rfl).elim
     | true =>
       rw [hle] at h;simp only [cond_true] at h ⊢
       cases hv:e none c (start args fn.ntmps) H with
       | none=>rw [hv] at h;exact (h rfl).elim
       | some q =>
         rw [hv] at h;rw [he _ _ _ _ _ hv];obtain ⟨x,a,H'⟩:=q
         cases x <;> first | exact leave_mono hm h | exact (h rfl).elim
theorem calls_mono {e e':Ev} (he:EvLe e e') {n m:Nat} (hm:n≤m) {f:FuncId} {args:List V} {H:Heap} (h:calls T e n f args H≠.stuck):calls T e' m f args H=calls T e n f args H:=by
 unfold calls at h ⊢;split at h
 ·rfl
 ·exact enter_mono he hm h
theorem round_mono {e e':Ev} (he:EvLe e e') {l:Nat} {args:List V} {H:Heap} (h:round e l args H≠.stuck):round e' l args H=round e l args H:=by
 unfold round at h ⊢;split at h
 ·rename_i p fn tmps params assign body ds hg
  cases hl:Nat.beq args.length params.length with
  | false=>rw [hl] at h;exact (h rfl).elim
  | true =>
    rw [hl] at h;simp only [cond_true] at h ⊢
    cases ha:e (some l) assign ⟨(params.zip args).foldl (fun t (x:Tmp×V)=>t.put x.1 x.2) tmps,[]⟩ H with
    | none=>rw [ha] at h;exact (h rfl).elim
    | some q =>
      rw [ha] at h;rw [he _ _ _ _ _ ha];obtain ⟨x,a,H1⟩:=q
      cases x <;> simp only at h ⊢ <;> try exact (h rfl).elim
      split at h
      ·rename_i p1 fn1 tmps1 params1 assign1 body1 ds1 hg1
       cases hb:e (some l) body a (H1.put l (.loop .busy p1 fn1 tmps1 params1 assign1 body1 ds1)) with
       | none=>rw [hb] at h;exact (h rfl).elim
       | some q=>rw [he _ _ _ _ _ hb]
      ·exact (h rfl).elim
 ·exact (h rfl).elim
theorem runOps_mono {e e':Ev} (he:EvLe e e') {n m:Nat} (hm:n≤m) {ρ:Option Nat} {ops:Array Oper}:∀ (l:List Nat) (a:A) (H:Heap) r,runOps T e n ρ ops l a H=some r→runOps T e' m ρ ops l a H=some r:=by
 intro l
 induction l with
 | nil=>intro a H r h;exact h
 | cons i l ih =>
   intro a H r h;unfold runOps at h ⊢
   cases ho:ops[i]? with
   | none=>rw [ho] at h;cases h
   | some o =>
     rw [ho] at h;simp only at h ⊢
     cases hw:wanted ops a o with
     | false=>rw [hw] at h;exact ih _ _ _ h
     | true =>
       rw [hw] at h;simp only [cond_true] at h ⊢
       cases hx:execOp T a H o.op with
       | val v H'=>rw [hx] at h;exact ih _ _ _ h
       | call f args =>
         rw [hx] at h;simp only at h ⊢;have hne:calls T e n f args H≠.stuck:=by intro q;rw [q] at h;cases h
         rw [calls_mono he hm hne]
         cases hc:calls T e n f args H with
         | returned v H'=>rw [hc] at h;exact ih _ _ _ h
         | panicked v H'=>rw [hc] at h;exact h
         | stuck=>exact (hne hc).elim
       | round l args =>
         rw [hx] at h;simp only at h ⊢;have hne:round e l args H≠.stuck:=by intro q;rw [q] at h;cases h
         rw [round_mono he hne]
         cases hc:round e l args H with
         | returned v H'=>rw [hc] at h;exact ih _ _ _ h
         | panicked v H'=>rw [hc] at h;cases h
         | stuck=>exact (hne hc).elim
       | defer d =>
         rw [hx] at h;simp only at h ⊢
         cases hr:ρ.isNone with
         | false=>rw [hr] at h;cases h
         | true=>rw [hr] at h;exact ih _ _ _ h
       | panic v=>rw [hx] at h;exact h
       | recover=>rw [hx] at h;cases h
       | stuck=>rw [hx] at h;cases h
theorem runDraw_mono {e e':Ev} (he:EvLe e e') {n m:Nat} (hm:n≤m) {ops:Array Oper} {bef:Array Nat} {k:Nat}:∀ (l:List Nat) (sn:List (Nat×Heap)) (a:A) (H:Heap) r,runDraw T e n ops bef k l sn a H=some r→runDraw T e' m ops bef k l sn a H=some r:=by
 intro l
 induction l with
 | nil=>intro sn a H r h;exact h
 | cons i l ih =>
   intro sn a H r h;unfold runDraw at h ⊢
   cases ho:ops[i]? with
   | none=>rw [ho] at h;cases h
   | some o =>
     rw [ho] at h;simp only at h ⊢
     cases hw:wanted ops a o with
     | false=>rw [hw] at h;exact ih _ _ _ _ h
     | true =>
       rw [hw] at h;simp only [cond_true] at h ⊢
       cases hq:quiet o.op with
       | true =>
         rw [hq] at h;simp only [cond_true] at h ⊢;split at h
         ·exact ih _ _ _ _ h
         ·exact ih _ _ _ _ h
         ·cases h
       | false =>
         rw [hq] at h;simp only [cond_false] at h ⊢
         cases hr:reads o.op with
         | true =>
           rw [hr] at h;simp only [cond_true] at h ⊢;split at h
           ·rename_i v H' hx
            cases hs:stood T a o v (bef.getD i 0) sn with
            | false=>rw [hs] at h;cases h
            | true=>rw [hs] at h;exact ih _ _ _ _ h
           ·cases h
         | false =>
           rw [hr] at h;simp only [cond_false] at h ⊢
           cases hx:execOp T a H o.op with
           | val v H'=>rw [hx] at h;exact ih _ _ _ _ h
           | call f args =>
             rw [hx] at h;simp only at h ⊢;have hne:calls T e n f args H≠.stuck:=by intro q;rw [q] at h;cases h
             rw [calls_mono he hm hne]
             cases hc:calls T e n f args H with
             | returned v H'=>rw [hc] at h;exact ih _ _ _ _ h
             | panicked v H'=>rw [hc] at h;cases h
             | stuck=>exact (hne hc).elim
           | round l args =>
             rw [hx] at h;simp only at h ⊢;have hne:round e l args H≠.stuck:=by intro q;rw [q] at h;cases h
             rw [round_mono he hne]
             cases hc:round e l args H with
             | returned v H'=>rw [hc] at h;exact ih _ _ _ _ h
             | panicked v H'=>rw [hc] at h;cases h
             | stuck=>exact (hne hc).elim
           | defer d=>rw [hx] at h;cases h
           | panic v=>rw [hx] at h;cases h
           | recover=>rw [hx] at h;cases h
           | stuck=>rw [hx] at h;cases h
theorem step_mono {e e':Ev} (he:EvLe e e') {n m:Nat} (hm:n≤m):EvLe (step T e n) (step T e' m):=by
 intro ρ c a H r h;unfold step at h ⊢
 cases c with
 | seq x y =>
   simp only at h ⊢
   cases hx:e ρ x a H with
   | none=>rw [hx] at h;cases h
   | some q =>
     rw [hx] at h;rw [he _ _ _ _ _ hx];obtain ⟨k,a',H'⟩:=q
     cases k <;> simp only at h ⊢ <;> first | exact he _ _ _ _ _ h | exact h
 | cond x y z =>
   simp only at h ⊢;split at h
   ·exact he _ _ _ _ _ h
   ·exact he _ _ _ _ _ h
   ·cases h
 | block id b =>
   simp only at h ⊢
   cases hx:e ρ b a H with
   | none=>rw [hx] at h;cases h
   | some q=>rw [hx] at h;rw [he _ _ _ _ _ hx];exact h
 | loop b =>
   simp only at h ⊢
   cases hx:e ρ b a H with
   | none=>rw [hx] at h;cases h
   | some q =>
     rw [hx] at h;rw [he _ _ _ _ _ hx];obtain ⟨k,a',H'⟩:=q
     cases k <;> simp only at h ⊢ <;> first | exact he _ _ _ _ _ h | exact h
 | scope b =>
   simp only at h ⊢
   cases hx:e ρ b a H with
   | none=>rw [hx] at h;cases h
   | some q=>rw [hx] at h;rw [he _ _ _ _ _ hx];exact h
 | region id ops d =>
   cases d with
   | false=>exact runOps_mono he hm _ _ _ _ h
   | true =>
     simp only at h ⊢
     cases hk:drawOk ops && H.clean ops.size with
     | false=>rw [hk] at h;cases h
     | true =>
       rw [hk] at h;simp only [cond_true] at h ⊢
       cases hd:runDraw T e n ops (Region.before ops) H.n (sched ops (Region.before ops)) [] a (H.keep ops.size) with
       | none=>rw [hd] at h;cases h
       | some q=>rw [hd] at h;rw [runDraw_mono he hm _ _ _ _ _ hd];exact h
 | rangeFunc f params assign body =>
   simp only at h ⊢;split at h
   ·cases h
   ·rename_i g hg;split at h
    ·cases h
    ·rename_i ds mark H1 hds;split at h
     ·rename_i k args hk
      cases hp:(T.prim k).isSome with
      | true=>rw [hp] at h;cases h
      | false =>
        rw [hp] at h;simp only [cond_false] at h ⊢;have hne:calls T e n k args (H1.push (.loop .ready none 0 a.tmps params.toList assign body ds))≠.stuck:=by intro q;rw [q] at h;cases h
        rw [calls_mono he hm hne];exact h
     ·cases h
 | _=>exact h
theorem ev_mono:∀ (n m:Nat),n≤m→EvLe (ev T n) (ev T m):=by
 intro n
 induction n with
 | zero=>intro m _ ρ c a H r h;cases h
 | succ n ih =>
   intro m hm;obtain ⟨m,rfl⟩:∃ k,m=k+1:=⟨m - 1,by omega⟩
   exact step_mono (ih m (by omega)) (by omega)
theorem run_mono {n m:Nat} (hm:n≤m) {f:FuncId} {args:List V} {H:Heap} (h:run T n f args H≠.stuck):run T m f args H=run T n f args H:=
 calls_mono (ev_mono n m hm) hm h
end Go.Am

set_option linter.unusedSimpArgs false
namespace Go.Am
variable {T:Tab} {ρ:Option Nat}
abbrev Qt:=Ex→A→Heap→Prop
def Wp (T:Tab) (ρ:Option Nat) (c:Code) (a:A) (H:Heap) (Q:Qt):Prop:=∃ n e a' H',ev T n ρ c a H=some (e,a',H')∧Q e a' H'
def CallsTo (T:Tab) (f:FuncId) (as:List V) (H:Heap) (R:V→Heap→Prop):Prop:=∃ n v H',run T n f as H=.returned v H'∧R v H'
def RoundTo (T:Tab) (l:Nat) (as:List V) (H:Heap) (R:V→Heap→Prop):Prop:=∃ n v H',round (ev T n) l as H=.returned v H'∧R v H'
theorem ev_up {n m:Nat} (h:n≤m) {c:Code} {a:A} {H:Heap} {r:Ex×A×Heap} (e:ev T n ρ c a H=some r):ev T m ρ c a H=some r:=ev_mono n m h _ _ _ _ _ e
theorem run_up {n m:Nat} (hm:n≤m) {f:FuncId} {args:List V} {H H':Heap} {v:V} (h:run T n f args H=.returned v H'):run T m f args H=.returned v H':=by
 rw [run_mono hm (by rw [h];simp)];exact h
theorem CallsTo.mono {f:FuncId} {as:List V} {H:Heap} {R R':V→Heap→Prop} (h:CallsTo T f as H R) (hr:∀ v H',R v H'→R' v H'):CallsTo T f as H R':=
 let ⟨n,v,H',e,r⟩:=h;⟨n,v,H',e,hr v H' r⟩
theorem RoundTo.mono {l:Nat} {as:List V} {H:Heap} {R R':V→Heap→Prop} (h:RoundTo T l as H R) (hr:∀ v H',R v H'→R' v H'):RoundTo T l as H R':=
 let ⟨n,v,H',e,r⟩:=h;⟨n,v,H',e,hr v H' r⟩
theorem Wp.mono {c:Code} {a:A} {H:Heap} {Q Q':Qt} (h:Wp T ρ c a H Q) (hq:∀ e a' H',Q e a' H'→Q' e a' H'):Wp T ρ c a H Q':=
 let ⟨n,e,a',H',h1,h2⟩:=h;⟨n,e,a',H',h1,hq _ _ _ h2⟩
/-! ### Frames -/
inductive Fr where
 | sq (c:Code)
 | bk (id:Nat)
 | lp (b:Code)
 | sc
def unw (T:Tab) (ρ:Option Nat) (Q:Qt):List Fr→Qt
 | [],e,a,H=>Q e a H
 | .sq y::k,e,a,H=>match e with
   | .normal=>Wp T ρ y a H (unw T ρ Q k)
   | e=>unw T ρ Q k e a H
 | .bk id::k,e,a,H=>match e with
   | .exit j=>if j=id then unw T ρ Q k .normal a H else unw T ρ Q k (.exit j) a H
   | e=>unw T ρ Q k e a H
 | .lp b::k,e,a,H=>match e with
   | .normal=>Wp T ρ (.loop b) a H (unw T ρ Q k)
   | e=>unw T ρ Q k e a H
 | .sc::k,e,a,H=>match e with
   | .goto _=>False
   | e=>unw T ρ Q k e a H
def WpK (T:Tab) (ρ:Option Nat) (c:Code) (k:List Fr) (a:A) (H:Heap) (Q:Qt):Prop:=Wp T ρ c a H (unw T ρ Q k)
variable {k:List Fr} {a:A} {H:Heap} {Q:Qt}
theorem unw_nil (e:Ex):unw T ρ Q [] e a H=Q e a H:=Eq.trans rfl rfl
theorem unw_sq (c:Code):unw T ρ Q (.sq c::k) .normal a H=WpK T ρ c k a H Q:=Eq.trans rfl rfl
theorem unw_sq_ret (c:Code):unw T ρ Q (.sq c::k) .ret a H=unw T ρ Q k .ret a H:=Eq.trans rfl rfl
theorem unw_sq_exit (c:Code) (j:Nat):unw T ρ Q (.sq c::k) (.exit j) a H=unw T ρ Q k (.exit j) a H:=Eq.trans rfl rfl
theorem unw_bk (id:Nat):unw T ρ Q (.bk id::k) .normal a H=unw T ρ Q k .normal a H:=Eq.trans rfl rfl
theorem unw_bk_ret (id:Nat):unw T ρ Q (.bk id::k) .ret a H=unw T ρ Q k .ret a H:=Eq.trans rfl rfl
theorem unw_bk_exit (id j:Nat):unw T ρ Q (.bk id::k) (.exit j) a H=if j=id then unw T ρ Q k .normal a H else unw T ρ Q k (.exit j) a H:=Eq.trans rfl rfl
theorem unw_lp (b:Code):unw T ρ Q (.lp b::k) .normal a H=WpK T ρ (.loop b) k a H Q:=Eq.trans rfl rfl
theorem unw_lp_ret (b:Code):unw T ρ Q (.lp b::k) .ret a H=unw T ρ Q k .ret a H:=Eq.trans rfl rfl
theorem unw_lp_exit (b:Code) (j:Nat):unw T ρ Q (.lp b::k) (.exit j) a H=unw T ρ Q k (.exit j) a H:=Eq.trans rfl rfl
theorem unw_sc:unw T ρ Q (.sc::k) .normal a H=unw T ρ Q k .normal a H:=Eq.trans rfl rfl
theorem unw_sc_ret:unw T ρ Q (.sc::k) .ret a H=unw T ρ Q k .ret a H:=Eq.trans rfl rfl
theorem unw_sc_exit (j:Nat):unw T ρ Q (.sc::k) (.exit j) a H=unw T ρ Q k (.exit j) a H:=Eq.trans rfl rfl
theorem wp_step {c:Code}:Wp T ρ c a H Q↔∃ n e a' H',step T (ev T n) n ρ c a H=some (e,a',H')∧Q e a' H':=by
 constructor
 ·rintro ⟨n,e,a',H',h,q⟩
  cases n with
  | zero=>cases h
  | succ n=>exact ⟨n,e,a',H',h,q⟩
 ·rintro ⟨n,e,a',H',h,q⟩;exact ⟨n+1,e,a',H',h,q⟩
theorem wpK_skip:WpK T ρ .skip k a H Q=unw T ρ Q k .normal a H:=by
 apply propext;rw [WpK,wp_step];constructor
 ·rintro ⟨n,e,a',H',h,q⟩;cases h;exact q
 ·intro q;exact ⟨0,_,_,_,rfl,q⟩
theorem wpK_label (id:Nat):WpK T ρ (.label id) k a H Q=unw T ρ Q k .normal a H:=by
 apply propext;rw [WpK,wp_step];constructor
 ·rintro ⟨n,e,a',H',h,q⟩;cases h;exact q
 ·intro q;exact ⟨0,_,_,_,rfl,q⟩
theorem wpK_ret:WpK T ρ .ret k a H Q=unw T ρ Q k .ret a H:=by
 apply propext;rw [WpK,wp_step];constructor
 ·rintro ⟨n,e,a',H',h,q⟩;cases h;exact q
 ·intro q;exact ⟨0,_,_,_,rfl,q⟩
theorem wpK_exit (id:Nat):WpK T ρ (.exit id) k a H Q=unw T ρ Q k (.exit id) a H:=by
 apply propext;rw [WpK,wp_step];constructor
 ·rintro ⟨n,e,a',H',h,q⟩;cases h;exact q
 ·intro q;exact ⟨0,_,_,_,rfl,q⟩
theorem wpK_seq (x y:Code):WpK T ρ (.seq x y) k a H Q=WpK T ρ x (.sq y::k) a H Q:=by
 apply propext;unfold WpK;rw [wp_step];constructor
 ·rintro ⟨n,e,a',H',h,q⟩;simp only [step] at h
  cases hx:ev T n ρ x a H with
  | none=>rw [hx] at h;cases h
  | some r =>
    rw [hx] at h;obtain ⟨e1,a1,H1⟩:=r;refine ⟨n,e1,a1,H1,hx,?_⟩
    cases e1 <;> simp only [unw] at h ⊢ <;> first | exact ⟨n,e,a',H',h,q⟩ | (cases h;exact q)
 ·rintro ⟨n,e1,a1,H1,hx,q⟩
  cases e1 with
  | normal =>
    obtain ⟨m,e,a',H',hy,q⟩:=q;refine ⟨max n m,e,a',H',?_,q⟩;simp only [step];rw [ev_up (Nat.le_max_left n m) hx];exact ev_up (Nat.le_max_right n m) hy
  | _=>refine ⟨n,_,_,_,?_,q⟩;simp only [step];rw [hx]
theorem wpK_block (id:Nat) (b:Code):WpK T ρ (.block id b) k a H Q=WpK T ρ b (.bk id::k) a H Q:=by
 apply propext;unfold WpK;rw [wp_step];constructor
 ·rintro ⟨n,e,a',H',h,q⟩;simp only [step] at h
  cases hx:ev T n ρ b a H with
  | none=>rw [hx] at h;cases h
  | some r =>
    rw [hx] at h;obtain ⟨e1,a1,H1⟩:=r;refine ⟨n,e1,a1,H1,hx,?_⟩
    cases e1 with
    | exit j =>
      simp only [cond_beq] at h;simp only [unw];split at h <;> (cases h;rename_i hj;simp [hj,q])
    | _=>cases h;exact q
 ·rintro ⟨n,e1,a1,H1,hx,q⟩
  cases e1 with
  | exit j =>
    simp only [unw] at q
    by_cases hj:j=id
    ·rw [if_pos hj] at q;refine ⟨n,_,_,_,?_,q⟩;simp only [step];rw [hx];simp [hj]
    ·rw [if_neg hj] at q;refine ⟨n,_,_,_,?_,q⟩;simp only [step];rw [hx];simp only [cond_beq,if_neg hj]
  | _=>refine ⟨n,_,_,_,?_,q⟩;simp only [step];rw [hx]
theorem wpK_loop (b:Code):WpK T ρ (.loop b) k a H Q=WpK T ρ b (.lp b::k) a H Q:=by
 apply propext;unfold WpK;rw [wp_step];constructor
 ·rintro ⟨n,e,a',H',h,q⟩;simp only [step] at h
  cases hx:ev T n ρ b a H with
  | none=>rw [hx] at h;cases h
  | some r =>
    rw [hx] at h;obtain ⟨e1,a1,H1⟩:=r;refine ⟨n,e1,a1,H1,hx,?_⟩
    cases e1 <;> simp only [unw] at h ⊢ <;> first | exact ⟨n,e,a',H',h,q⟩ | (cases h;exact q)
 ·rintro ⟨n,e1,a1,H1,hx,q⟩
  cases e1 with
  | normal =>
    obtain ⟨m,e,a',H',hy,q⟩:=q;refine ⟨max n m,e,a',H',?_,q⟩;simp only [step];rw [ev_up (Nat.le_max_left n m) hx];exact ev_up (Nat.le_max_right n m) hy
  | _=>refine ⟨n,_,_,_,?_,q⟩;simp only [step];rw [hx]
theorem wpK_scope (b:Code):WpK T ρ (.scope b) k a H Q=WpK T ρ b (.sc::k) a H Q:=by
 apply propext;unfold WpK;rw [wp_step];constructor
 ·rintro ⟨n,e,a',H',h,q⟩;simp only [step] at h
  cases hx:ev T n ρ b a H with
  | none=>rw [hx] at h;cases h
  | some r =>
    rw [hx] at h;obtain ⟨e1,a1,H1⟩:=r;refine ⟨n,e1,a1,H1,hx,?_⟩
    cases e1 <;> simp only [unw] at h ⊢ <;> first | (cases h;exact q) | cases h
 ·rintro ⟨n,e1,a1,H1,hx,q⟩
  cases e1 with
  | goto _=>exact q.elim
  | _=>refine ⟨n,_,_,_,?_,q⟩;simp only [step];rw [hx]
theorem wpK_cond {x:Operand} (y z:Code) {b:Bool} (hb:a.eval x=some (.bool b)):WpK T ρ (.cond x y z) k a H Q=cond b (WpK T ρ y k a H Q) (WpK T ρ z k a H Q):=by
 apply propext;unfold WpK;rw [wp_step];simp only [step,hb]
 cases b
 ·exact Iff.rfl
 ·exact Iff.rfl
/-! ### Regions -/
noncomputable def runL (T:Tab) (ev:Ev) (fuel:Nat) (ρ:Option Nat) (ops:Array Oper):List Oper→A→Heap→Option (Ex×A×Heap)
 | [],a,H=>some (.normal,a,H)
 | o::rest,a,H=>cond (wanted ops a o) (
    match execOp T a H o.op with
    | .val v H'=>runL T ev fuel ρ ops rest (a.put o.dst v) H'
    | .call f args=>match calls T ev fuel f args H with
      | .returned v H'=>runL T ev fuel ρ ops rest (a.put o.dst v) H'
      | .panicked v H'=>some (.panic v,a,H')
      | .stuck=>none
    | .round l args=>match round ev l args H with
      | .returned v H'=>runL T ev fuel ρ ops rest (a.put o.dst v) H'
      | _=>none
    | .defer d=>cond ρ.isNone (runL T ev fuel ρ ops rest ((A.mk a.tmps (d::a.defers)).put o.dst undefV) H) none
    | .panic v=>some (.panic v,a,H)
    | .recover=>none
    | .stuck=>none) (runL T ev fuel ρ ops rest (a.put o.dst undefV) H)
theorem runOps_eq (T:Tab) (ev:Ev) (fuel:Nat) (ρ:Option Nat) (ops:Array Oper):∀ (l:List Nat) (os:List Oper),l.map (ops[·]?)=os.map some→∀ (a:A) (H:Heap),runOps T ev fuel ρ ops l a H=runL T ev fuel ρ ops os a H
 | [],[],_,a,H=>rfl
 | [],_::_,h,_,_=>by simp at h
 | _::_,[],h,_,_=>by simp at h
 | i::l,o::os,h,a,H=>by
   simp only [List.map_cons,List.cons.injEq] at h;unfold runOps runL;simp only [h.1,runOps_eq T ev fuel ρ ops l os h.2]
   cases wanted ops a o
   ·rfl
   ·cases execOp T a H o.op <;> first | rfl | (simp only [cond_true];split <;> rfl)
theorem runOps_all (T:Tab) (ev:Ev) (fuel:Nat) (ρ:Option Nat) (ops:Array Oper) (a:A) (H:Heap):runOps T ev fuel ρ ops (List.range ops.size) a H=runL T ev fuel ρ ops ops.toList a H:=by
 refine runOps_eq _ _ _ _ _ _ _ ?_ _ _;apply List.ext_getElem?;intro i;simp only [List.getElem?_map,List.getElem?_range]
 by_cases hi:i<ops.size
 ·simp [hi]
 ·simp [hi]
theorem runL_mono {e e':Ev} (he:EvLe e e') {n m:Nat} (hm:n≤m) {ops:Array Oper}:∀ (l:List Oper) (a:A) (H:Heap) r,runL T e n ρ ops l a H=some r→runL T e' m ρ ops l a H=some r:=by
 intro l
 induction l with
 | nil=>intro a H r h;exact h
 | cons o l ih =>
   intro a H r h;unfold runL at h ⊢
   cases hw:wanted ops a o with
   | false=>rw [hw] at h;exact ih _ _ _ h
   | true =>
     rw [hw] at h;simp only [cond_true] at h ⊢
     cases hx:execOp T a H o.op with
     | val v H'=>rw [hx] at h;exact ih _ _ _ h
     | call f args =>
       rw [hx] at h;simp only at h ⊢;have hne:calls T e n f args H≠.stuck:=by intro q;rw [q] at h;cases h
       rw [calls_mono he hm hne]
       cases hc:calls T e n f args H with
       | returned v H'=>rw [hc] at h;exact ih _ _ _ h
       | panicked v H'=>rw [hc] at h;exact h
       | stuck=>exact (hne hc).elim
     | round l args =>
       rw [hx] at h;simp only at h ⊢;have hne:round e l args H≠.stuck:=by intro q;rw [q] at h;cases h
       rw [round_mono he hne]
       cases hc:round e l args H with
       | returned v H'=>rw [hc] at h;exact ih _ _ _ h
       | panicked v H'=>rw [hc] at h;cases h
       | stuck=>exact (hne hc).elim
     | defer d =>
       rw [hx] at h;simp only at h ⊢
       cases hr:ρ.isNone with
       | false=>rw [hr] at h;cases h
       | true=>rw [hr] at h;exact ih _ _ _ h
     | panic v=>rw [hx] at h;exact h
     | recover=>rw [hx] at h;cases h
     | stuck=>rw [hx] at h;cases h
def WpO (T:Tab) (ρ:Option Nat) (ops:Array Oper) (os:List Oper) (k:List Fr) (a:A) (H:Heap) (Q:Qt):Prop:=
 ∃ n e a' H',runL T (ev T n) n ρ ops os a H=some (e,a',H')∧unw T ρ Q k e a' H'
def WpX (T:Tab) (ρ:Option Nat) (ops:Array Oper) (d:Option Tmp) (os:List Oper) (k:List Fr) (a:A) (H:Heap) (Q:Qt):OR→Prop
 | .val v H'=>WpO T ρ ops os k (a.put d v) H' Q
 | .call f as=>CallsTo T f as H (fun v H'=>WpO T ρ ops os k (a.put d v) H' Q)∨∃ n v H',run T n f as H=.panicked v H'∧unw T ρ Q k (.panic v) a H'
 | .round l as=>RoundTo T l as H (fun v H'=>WpO T ρ ops os k (a.put d v) H' Q)
 | .defer x=>ρ.isNone=true∧WpO T ρ ops os k ((A.mk a.tmps (x::a.defers)).put d undefV) H Q
 | .panic v=>unw T ρ Q k (.panic v) a H
 | _=>False
theorem wpK_region (id:Nat) (ops:Array Oper):WpK T ρ (.region id ops false) k a H Q=WpO T ρ ops ops.toList k a H Q:=by
 apply propext;rw [WpK,wp_step];simp only [step,runOps_all];exact Iff.rfl
variable {ops:Array Oper} {os:List Oper} {d:Option Tmp}
theorem wpO_nil:WpO T ρ ops [] k a H Q=unw T ρ Q k .normal a H:=by
 apply propext;constructor
 ·rintro ⟨n,e,a',H',h,q⟩;cases h;exact q
 ·intro q;exact ⟨0,_,_,_,rfl,q⟩
def WpOW (T:Tab) (ρ:Option Nat) (ops:Array Oper) (w:Bool) (o:Oper) (os:List Oper) (k:List Fr) (a:A) (H:Heap) (Q:Qt):Prop:=
 cond w (WpX T ρ ops o.dst os k a H Q (execOp T a H o.op)) (WpO T ρ ops os k (a.put o.dst undefV) H Q)
theorem wpOW_true (o:Oper):WpOW T ρ ops true o os k a H Q=WpX T ρ ops o.dst os k a H Q (execOp T a H o.op):=Eq.trans rfl rfl
theorem wpOW_false (o:Oper):WpOW T ρ ops false o os k a H Q=WpO T ρ ops os k (a.put o.dst undefV) H Q:=Eq.trans rfl rfl
theorem wpO_cons (o:Oper):WpO T ρ ops (o::os) k a H Q=WpOW T ρ ops (wanted ops a o) o os k a H Q:=by
 apply propext;unfold WpOW
 cases hw:wanted ops a o with
 | false =>
   simp only [cond_false,WpO,runL,hw]
 | true =>
   simp only [cond_true];unfold WpO;simp only [runL,hw,cond_true]
   cases hx:execOp T a H o.op with
   | val v H'=>exact Iff.rfl
   | call f args =>
     simp only [WpX];constructor
     ·rintro ⟨n,e,a',H',h,q⟩
      cases hc:calls T (ev T n) n f args H with
      | returned v H1=>rw [hc] at h;exact .inl ⟨n,v,H1,hc,n,e,a',H',h,q⟩
      | panicked v H1=>rw [hc] at h;cases h;exact .inr ⟨n,v,_,hc,q⟩
      | stuck=>rw [hc] at h;cases h
     ·rintro (⟨n,v,H1,hc,m,e,a',H',h,q⟩ | ⟨n,v,H1,hc,q⟩)
      ·refine ⟨max n m,e,a',H',?_,q⟩;have:=run_up (Nat.le_max_left n m) hc;unfold run at this;rw [this];exact runL_mono (ev_mono m _ (Nat.le_max_right n m)) (Nat.le_max_right n m) _ _ _ _ h
      ·refine ⟨n,.panic v,a,H1,?_,q⟩;unfold run at hc;rw [hc]
   | round l args =>
     simp only [WpX];constructor
     ·rintro ⟨n,e,a',H',h,q⟩
      cases hc:round (ev T n) l args H with
      | returned v H1=>rw [hc] at h;exact ⟨n,v,H1,hc,n,e,a',H',h,q⟩
      | panicked v H1=>rw [hc] at h;cases h
      | stuck=>rw [hc] at h;cases h
     ·rintro ⟨n,v,H1,hc,m,e,a',H',h,q⟩;refine ⟨max n m,e,a',H',?_,q⟩
      have:round (ev T (max n m)) l args H=.returned v H1:=by
       rw [round_mono (ev_mono n _ (Nat.le_max_left n m)) (by rw [hc];simp)];exact hc
      rw [this];exact runL_mono (ev_mono m _ (Nat.le_max_right n m)) (Nat.le_max_right n m) _ _ _ _ h
   | defer x =>
     simp only [WpX]
     cases hr:ρ.isNone with
     | false=>simp
     | true=>simp only [cond_true,true_and];exact Iff.rfl
   | panic v =>
     simp only [WpX];constructor
     ·rintro ⟨n,e,a',H',h,q⟩;cases h;exact q
     ·intro q;exact ⟨0,_,_,_,rfl,q⟩
   | recover =>
     simp only [WpX];constructor
     ·rintro ⟨n,e,a',H',h,q⟩;cases h
     ·intro q;exact q.elim
   | stuck =>
     simp only [WpX];constructor
     ·rintro ⟨n,e,a',H',h,q⟩;cases h
     ·intro q;exact q.elim
theorem wpX_val (v:V) (H':Heap):WpX T ρ ops d os k a H Q (.val v H')=WpO T ρ ops os k (a.put d v) H' Q:=Eq.trans rfl rfl
theorem wpX_call {f:FuncId} {as:List V} {R:V→Heap→Prop} (h:CallsTo T f as H R) (hk:∀ v H',R v H'→WpO T ρ ops os k (a.put d v) H' Q):WpX T ρ ops d os k a H Q (.call f as):=
 .inl (h.mono hk)
theorem wpX_round {l:Nat} {as:List V} {R:V→Heap→Prop} (h:RoundTo T l as H R) (hk:∀ v H',R v H'→WpO T ρ ops os k (a.put d v) H' Q):WpX T ρ ops d os k a H Q (.round l as):=
 h.mono hk
/-! ### Calls -/
def ResOk (o:Option (List V)) (R:V→Heap→Prop) (H:Heap):Prop:=
 match o with
 | some vs=>R (pack vs) H
 | none=>False
theorem resOk_some (vs:List V) (R:V→Heap→Prop):ResOk (some vs) R H=R (pack vs) H:=Eq.trans rfl rfl
theorem resOk_ex {o:Option (List V)} {R:V→Heap→Prop} (h:ResOk o R H):∃ vs,o=some vs∧R (pack vs) H:=by
 cases o with
 | none=>exact h.elim
 | some vs=>exact ⟨vs,rfl,h⟩
theorem pack_one (v:V):pack [v]=v:=Eq.trans rfl rfl
theorem pack_nil:pack []=.tuple []:=Eq.trans rfl rfl
theorem pack_two (v w:V) (vs:List V):pack (v::w::vs)=.tuple (v::w::vs):=Eq.trans rfl rfl
def Leave (T:Tab) (rs:List ResultVar) (R:V→Heap→Prop) (a:A):List D→Heap→Prop
 | [],H=>ResOk (results T H a rs) R H
 | .collected r::ds,H=>H.get r=some (.deferred (some []))∧Leave T rs R a ds (H.put r (.deferred none))
 | .fn _ _::_,_=>False
def RetQ (T:Tab) (rs:List ResultVar) (R:V→Heap→Prop):Qt:=fun e a H=>match e with
 | .normal | .ret=>Leave T rs R a a.defers H
 | _=>False
theorem retQ_normal (rs:List ResultVar) (R:V→Heap→Prop):RetQ T rs R .normal a H=Leave T rs R a a.defers H:=Eq.trans rfl rfl
theorem retQ_ret (rs:List ResultVar) (R:V→Heap→Prop):RetQ T rs R .ret a H=Leave T rs R a a.defers H:=Eq.trans rfl rfl
theorem wleave_ok {n:Nat} {fn:Func} {R:V→Heap→Prop} {a:A}:∀ {ds:List D} {H:Heap},Leave T fn.results.toList R a ds H→∃ v H',leave T n fn a ds .returning H=.returned v H'∧R v H':=by
 intro ds
 induction ds with
 | nil=>intro H hh;obtain ⟨vs,h,r⟩:=resOk_ex hh;exact ⟨_,_,by simp only [leave];rw [h],r⟩
 | cons d ds ih =>
   intro H h
   cases d with
   | fn _ _=>exact h.elim
   | collected r =>
     obtain ⟨h1,h2⟩:=h;obtain ⟨v,H',e,r'⟩:=ih h2;exact ⟨v,H',by simp only [leave];rw [h1];exact e,r'⟩
theorem calls_enter {f:FuncId} {fn:Func} {c:Code} {as:List V} {R:V→Heap→Prop} (hp:T.prim f=none) (hf:T.func f=some fn) (hb:fn.body=some c) (hn:as.length≤fn.ntmps)
  (h:WpK T none c [] (start as fn.ntmps) H (RetQ T fn.results.toList R)):CallsTo T f as H R:=by
 obtain ⟨n,e,a',H',h1,h2⟩:=h
 have h3:Leave T fn.results.toList R a' a'.defers H'∧(e=.normal∨e=.ret):=by
  cases e <;> first | exact ⟨h2,by simp⟩ | exact h2.elim
 obtain ⟨v,H2,e2,r⟩:=wleave_ok (n:=n) h3.1;refine ⟨n,v,H2,?_,r⟩;unfold run calls;rw [hp];simp only;unfold enter;rw [hf];simp only;rw [hb];simp only [cond_ble,if_pos hn,h1];rcases h3.2 with rfl | rfl <;> exact e2
/-! ### Temporaries -/
@[simp] theorem A.defers_put (a:A) (d:Option Tmp) (v:V):(a.put d v).defers=a.defers:=by cases d <;> rfl
@[simp] theorem A.n_put (a:A) (d:Option Tmp) (v:V):(a.put d v).tmps.n=a.tmps.n:=by cases d <;> simp [A.put]
theorem A.put_none (a:A) (v:V):a.put none v=a:=Eq.trans rfl rfl
theorem A.tmp_puts (a:A) (d t:Nat) (v:V):(a.put (some d) v).tmp t=if d=t∧d<a.tmps.n then v else a.tmp t:=by
 simp only [A.tmp,A.put,Ts.get_put]
theorem A.tmp_of (a:A) (ds:List D) (t:Nat):(A.mk a.tmps ds).tmp t=a.tmp t:=Eq.trans rfl rfl
@[simp] theorem A.tmp_mk (ts:Ts) (ds:List D) (t:Nat):(A.mk ts ds).tmp t=ts.get t:=Eq.trans rfl rfl
theorem winitT_get:∀ (vs:List V) (i:Nat) (t:Tr V) (j:Nat),(initT vs i t).get j=if i≤j∧j<i+vs.length then vs[j - i]? else t.get j:=by
 intro vs
 induction vs with
 | nil=>intro i t j;simp only [initT,List.length_nil];rw [if_neg (by omega)]
 | cons v vs ih =>
   intro i t j;simp only [initT,ih,Tr.get_set,List.length_cons]
   by_cases h1:i=j
   ·subst h1;rw [if_neg (by omega),if_pos rfl,if_pos (by omega)];simp
   ·by_cases h2:i+1≤j∧j<i+1+vs.length
    ·rw [if_pos h2,if_pos (by omega)];have:j - i=(j - (i+1))+1:=by omega
     rw [this];simp
    ·rw [if_neg h2,if_neg h1,if_neg (by omega)]
theorem start_tmp (as:List V) (n t:Nat):(start as n).tmp t=as.getD t undefV:=by
 simp only [start,A.tmp,Ts.get,winitT_get,List.getD_eq_getElem?_getD,Tr.get_leaf]
 by_cases h:t<as.length
 ·rw [if_pos (by omega)];simp
 ·rw [if_neg (by omega)];simp [List.getElem?_eq_none (Nat.le_of_not_lt h)]
@[simp] theorem start_n (as:List V) (n:Nat):(start as n).tmps.n=n:=Eq.trans rfl rfl
@[simp] theorem start_defers (as:List V) (n:Nat):(start as n).defers=[]:=Eq.trans rfl rfl
end Go.Am

namespace Go.Am
variable {T:Tab} {ρ:Option Nat} {k:List Fr} {a:A} {H:Heap} {Q:Qt} {ops:Array Oper} {os:List Oper} {d:Option Tmp}
/-! ### A branch -/
def WpB (T:Tab) (ρ:Option Nat) (v:V) (y z:Code) (k:List Fr) (a:A) (H:Heap) (Q:Qt):Prop:=
 match v with
 | .bool b=>cond b (WpK T ρ y k a H Q) (WpK T ρ z k a H Q)
 | _=>False
theorem wpK_condB (t:Tmp) (y z:Code):WpK T ρ (.cond (.tmp t) y z) k a H Q=WpB T ρ (a.tmp t) y z k a H Q:=by
 by_cases h:∃ b,a.tmp t=.bool b
 ·obtain ⟨b,hb⟩:=h;rw [wpK_cond (x:=.tmp t) y z (b:=b) (by rw [← hb];rfl),hb];rfl
 ·apply propext
  have hF:WpB T ρ (a.tmp t) y z k a H Q=False:=by
   cases hv:a.tmp t <;> first | rfl | exact absurd ⟨_,hv⟩ h
  rw [hF,WpK,wp_step];simp only [iff_false];rintro ⟨n,e,a',H',hs,_⟩;simp only [step,A.eval] at hs;split at hs
  ·rename_i hb;exact h ⟨_,Option.some.inj hb⟩
  ·rename_i hb;exact h ⟨_,Option.some.inj hb⟩
  ·cases hs
theorem wpB_true (y z:Code):WpB T ρ (.bool true) y z k a H Q=WpK T ρ y k a H Q:=Eq.trans rfl rfl
theorem wpB_false (y z:Code):WpB T ρ (.bool false) y z k a H Q=WpK T ρ z k a H Q:=Eq.trans rfl rfl
theorem wpB_dec {p:Prop} [Decidable p] {y z:Code} (h1:p→WpK T ρ y k a H Q) (h2:¬ p→WpK T ρ z k a H Q):WpB T ρ (.bool (decide p)) y z k a H Q:=by
 by_cases hp:p
 ·simpa [WpB,hp] using h1 hp
 ·simpa [WpB,hp] using h2 hp
theorem wpB_bool {b:Bool} {y z:Code} (h1:b=true→WpK T ρ y k a H Q) (h2:b=false→WpK T ρ z k a H Q):WpB T ρ (.bool b) y z k a H Q:=by
 cases b
 ·exact h2 rfl
 ·exact h1 rfl
/-! ### Operands -/
theorem op1_tmp (t:Tmp) (f:V→OR):op1 a (.tmp t) f=f (a.tmp t):=Eq.trans rfl rfl
theorem op1_int (kd:IntKind) (n:Int) (f:V→OR):op1 a (.const (.int kd n)) f=f (.int kd n):=Eq.trans rfl rfl
theorem op1_bool (b:Bool) (f:V→OR):op1 a (.const (.bool b)) f=f (.bool b):=Eq.trans rfl rfl
theorem op1_str (s:List UInt8) (f:V→OR):op1 a (.const (.string ⟨⟨s⟩⟩)) f=f (.str s):=Eq.trans rfl rfl
theorem op1_nilSlice (f:V→OR):op1 a (.const (.slice none 0 0)) f=f .nilSlice:=Eq.trans rfl rfl
theorem op1_nilPtr (f:V→OR):op1 a (.const (.pointer none)) f=f .nilPtr:=Eq.trans rfl rfl
theorem op1_nilFunc (f:V→OR):op1 a (.const .nilFunc) f=f .nilFunc:=Eq.trans rfl rfl
theorem op1_nilIface (f:V→OR):op1 a (.const .nilIface) f=f .nilIface:=Eq.trans rfl rfl
theorem op1_nilMap (f:V→OR):op1 a (.const (.map none)) f=f .nilMap:=Eq.trans rfl rfl
theorem op1_func (g:FuncId) (f:V→OR):op1 a (.func g) f=f (.func (.func g) [] []):=Eq.trans rfl rfl
theorem evals_nil:evals a []=some []:=Eq.trans rfl rfl
theorem evals_tmp (t:Tmp) (xs:List Operand):evals a (.tmp t::xs)=(evals a xs).map (a.tmp t::·):=by
 show (match evals a xs with | none=>none | some vs=>some (a.tmp t::vs))=_;cases evals a xs <;> rfl
theorem evals_int (kd:IntKind) (n:Int) (xs:List Operand):evals a (.const (.int kd n)::xs)=(evals a xs).map (V.int kd n::·):=by
 show (match evals a xs with | none=>none | some vs=>some (V.int kd n::vs))=_;cases evals a xs <;> rfl
theorem evals_bool (b:Bool) (xs:List Operand):evals a (.const (.bool b)::xs)=(evals a xs).map (V.bool b::·):=by
 show (match evals a xs with | none=>none | some vs=>some (V.bool b::vs))=_;cases evals a xs <;> rfl
theorem evals_str (s:List UInt8) (xs:List Operand):evals a (.const (.string ⟨⟨s⟩⟩)::xs)=(evals a xs).map (V.str s::·):=by
 show (match evals a xs with | none=>none | some vs=>some (V.str s::vs))=_;cases evals a xs <;> rfl
theorem evals_nilSlice (xs:List Operand):evals a (.const (.slice none 0 0)::xs)=(evals a xs).map (V.nilSlice::·):=by
 show (match evals a xs with | none=>none | some vs=>some (V.nilSlice::vs))=_;cases evals a xs <;> rfl
theorem evals_nilFunc (xs:List Operand):evals a (.const .nilFunc::xs)=(evals a xs).map (V.nilFunc::·):=by
 show (match evals a xs with | none=>none | some vs=>some (V.nilFunc::vs))=_;cases evals a xs <;> rfl
theorem evals_func (g:FuncId) (xs:List Operand):evals a (.func g::xs)=(evals a xs).map (V.func (.func g) [] []::·):=by
 show (match evals a xs with | none=>none | some vs=>some (V.func (.func g) [] []::vs))=_;cases evals a xs <;> rfl
theorem evalParts_nil:evalParts a []=some []:=Eq.trans rfl rfl
theorem evalParts_tmp (i:Nat) (t:Tmp) (xs:List (Nat×Operand)):evalParts a ((i,.tmp t)::xs)=(evalParts a xs).map ((i,a.tmp t)::·):=by
 show (match evalParts a xs with | none=>none | some vs=>some ((i,a.tmp t)::vs))=_;cases evalParts a xs <;> rfl
theorem evalParts_int (i:Nat) (kd:IntKind) (n:Int) (xs:List (Nat×Operand)):evalParts a ((i,.const (.int kd n))::xs)=(evalParts a xs).map ((i,V.int kd n)::·):=by
 show (match evalParts a xs with | none=>none | some vs=>some ((i,V.int kd n)::vs))=_;cases evalParts a xs <;> rfl
theorem ofV_some (v:V):OR.ofV H (some v)=.val v H:=Eq.trans rfl rfl
theorem ofH_some:OR.ofH (some H)=.val undefV H:=Eq.trans rfl rfl
theorem ofVH_some (v:V):OR.ofVH (some (v,H))=.val v H:=Eq.trans rfl rfl
/-! ### Pointers -/
noncomputable def loadP (T:Tab) (H:Heap) (t:TypeId):V→Option V
 | .ptr l o=>loadVar T H t l o
 | _=>none
noncomputable def storeP (T:Tab) (H:Heap) (t:TypeId):V→V→Option Heap
 | .ptr l o,v=>storeVar T H t l o v
 | _,_=>none
def fldAt (T:Tab) (t:TypeId) (i:Nat):Option Nat:=
 match fieldsOf T t with
 | some fs=>match fs[i]? with
   | some f=>match T.size f.type with
     | some (n,_)=>cond (Nat.beq n 0) none (some f.offset)
     | none=>none
   | none=>none
 | none=>none
def ptrOff:V→Nat→V
 | .ptr l o,c=>.ptr l (o+c)
 | v,_=>v
def isPtr:V→Bool
 | .ptr _ _=>true
 | _=>false
def elemSize (T:Tab) (t:TypeId):Option Nat:=
 match T.und t with
 | some (.slice e)=>(T.size e).map (·.1)
 | _=>none
def sizeN (T:Tab) (t:TypeId):Option Nat:=(T.size t).map (·.1)
def idxP (T:Tab) (t:TypeId) (u v:V):Option V:=
 match T.und t,u,natOf v with
 | some (.slice e),.slice l o n s _,some j=>match T.size e with
   | some (sz,_)=>cond (Nat.beq sz s && Nat.blt j n) (some (.ptr l (o+j * s))) none
   | none=>none
 | some (.array n e),.ptr l o,some j=>match T.size e with
   | some (s,_)=>cond (Nat.blt j n) (some (.ptr l (o+j * s))) none
   | none=>none
 | _,_,_=>none
def isSlice (T:Tab) (t:TypeId):Bool:=
 match T.und t with
 | some (.slice _)=>true
 | _=>false
theorem xo_move (x:Operand):execOp T a H (.move x)=op1 a x fun v=>.val v H:=Eq.trans rfl rfl
theorem xo_assign (x:Operand):execOp T a H (.assign x)=op1 a x fun v=>.val v H:=Eq.trans rfl rfl
theorem xo_load (t:TypeId) (x:Operand):execOp T a H (.load t x)=op1 a x fun p=>OR.ofV H (loadP T H t p):=by
 show op1 a x _=op1 a x _
 congr 1;funext p;cases p <;> rfl
theorem xo_store_tmp (t:TypeId) (x:Operand) (y:Tmp):execOp T a H (.store t x (.tmp y))=op1 a x fun p=>OR.ofH (storeP T H t p (a.tmp y)):=by
 show op1 a x _=op1 a x _
 congr 1;funext p;cases p <;> rfl
theorem xo_store_int (t:TypeId) (x:Operand) (kd:IntKind) (n:Int):execOp T a H (.store t x (.const (.int kd n)))=op1 a x fun p=>OR.ofH (storeP T H t p (.int kd n)):=by
 show op1 a x _=op1 a x _
 congr 1;funext p;cases p <;> rfl
theorem xo_store_bool (t:TypeId) (x:Operand) (b:Bool):execOp T a H (.store t x (.const (.bool b)))=op1 a x fun p=>OR.ofH (storeP T H t p (.bool b)):=by
 show op1 a x _=op1 a x _
 congr 1;funext p;cases p <;> rfl
theorem xo_store_nilSlice (t:TypeId) (x:Operand):execOp T a H (.store t x (.const (.slice none 0 0)))=op1 a x fun p=>OR.ofH (storeP T H t p .nilSlice):=by
 show op1 a x _=op1 a x _
 congr 1;funext p;cases p <;> rfl
theorem xo_store_nilFunc (t:TypeId) (x:Operand):execOp T a H (.store t x (.const .nilFunc))=op1 a x fun p=>OR.ofH (storeP T H t p .nilFunc):=by
 show op1 a x _=op1 a x _
 congr 1;funext p;cases p <;> rfl
theorem xo_fieldAddr (t:TypeId) (x:Operand) (i:Nat):execOp T a H (.fieldAddr t x i)=op1 a x fun p=>cond (isPtr p) (OR.ofV H ((fldAt T t i).map (ptrOff p))) .stuck:=by
 show op1 a x _=op1 a x _
 congr 1;funext p
 cases p with
 | ptr l o =>
   simp only [isPtr,cond_true,fldAt]
   cases fieldsOf T t with
   | none=>rfl
   | some fs =>
     simp only
     cases fs[i]? with
     | none=>rfl
     | some f =>
       simp only
       cases T.size f.type with
       | none=>rfl
       | some q=>obtain ⟨n,b⟩:=q;simp only [cond_beq];split <;> rfl
 | _=>rfl
theorem xo_indexAddr (t:TypeId) (x i:Operand):execOp T a H (.indexAddr t x i)=op1 a x fun u=>op1 a i fun v=>OR.ofV H (idxP T t u v):=by
 show op1 a x _=op1 a x _
 congr 1;funext u
 congr 1;funext v
 unfold idxP
 cases T.und t with
 | none=>rfl
 | some td =>
   cases td with
   | slice e =>
     cases u with
     | slice l o n s c =>
       cases natOf v with
       | none=>rfl
       | some j =>
         simp only
         cases T.size e with
         | none=>rfl
         | some q =>
           obtain ⟨sz,b⟩:=q;simp only
           cases Nat.beq sz s && Nat.blt j n <;> rfl
     | _=>rfl
   | array n e =>
     cases u with
     | ptr l o =>
       cases natOf v with
       | none=>rfl
       | some j =>
         simp only
         cases T.size e with
         | none=>rfl
         | some q =>
           obtain ⟨sz,b⟩:=q;simp only
           cases Nat.blt j n <;> rfl
     | _=>rfl
   | _=>rfl
theorem xo_binOp (op:BinOp) (t:TypeId) (x y:Operand) (r:TypeId):execOp T a H (.binOp op t x y r)=op1 a x fun u=>op1 a y fun v=>OR.ofV H (binOp T op t (isConst x || isConst y) u v):=Eq.trans rfl rfl
theorem xo_unOp (op:UnOp) (t:TypeId) (x:Operand):execOp T a H (.unOp op t x)=op1 a x fun v=>OR.ofV H (unOp op v):=Eq.trans rfl rfl
theorem xo_alloc (t:TypeId):execOp T a H (.alloc t)=match T.zero t with
  | some z=>.val (.ptr H.n 0) (H.push (.cells false z))
  | none=>.stuck:=Eq.trans rfl rfl
theorem xo_box (t:TypeId) (x:Operand):execOp T a H (.box t x)=op1 a x fun v=>.val (.ptr H.n 0) (H.push (.cells false v.cells)):=Eq.trans rfl rfl
theorem xo_pick (c x y:Operand):execOp T a H (.pick c x y)=op1 a c fun v=>match v with
  | .bool true=>op1 a x fun v=>.val v H
  | .bool false=>op1 a y fun v=>.val v H
  | _=>.stuck:=Eq.trans rfl rfl
def nth?:V→Nat→Option V
 | .tuple vs,i=>vs[i]?
 | _,_=>none
theorem xo_extract (x:Operand) (i:Nat):execOp T a H (.extract x i)=op1 a x fun v=>OR.ofV H (nth? v i):=by
 show op1 a x _=op1 a x _
 congr 1;funext p;cases p <;> rfl
theorem xo_makeFunc (g:FuncId) (first captured:Array Operand):execOp T a H (.makeFunc (.func g) first captured)=match evals a first.toList,evals a captured.toList with
  | some u,some v=>.val (.func (.func g) u v) H
  | _,_=>.stuck:=by
 show (match Fn.func g,evals a first.toList,evals a captured.toList with
  | .func f,some u,some v=>OR.val (.func (.func f) u v) H
  | _,_,_=>.stuck)=_
 cases evals a first.toList <;> cases evals a captured.toList <;> rfl
theorem xo_nilCheck (x:Operand):execOp T a H (.nilCheck x)=op1 a x fun v=>match v with
  | .nilPtr | .nilIface | .nilFunc=>.stuck
  | .func (.func f) u v=>.val (.func (.func f) u v) H
  | .func (.yield f) u v=>.val (.func (.yield f) u v) H
  | .func _ _ _=>.stuck
  | v=>.val v H:=Eq.trans rfl rfl
theorem xo_call (c:Call):execOp T a H (.call c)=callOp T a H c:=Eq.trans rfl rfl
theorem callOp_value_tmp (t:Tmp) (args:Array Operand) (ts:Array TypeId):callOp T a H { callee:=.value (.tmp t),args:=args,argTypes:=ts }=match evals a args.toList with
  | none=>.stuck
  | some as=>callee (a.tmp t) as:=Eq.trans rfl rfl
theorem callOp_value_func (g:FuncId) (args:Array Operand) (ts:Array TypeId):callOp T a H { callee:=.value (.func g),args:=args,argTypes:=ts }=match evals a args.toList with
  | none=>.stuck
  | some as=>.call g as:=by
 show (match evals a args.toList with | none=>OR.stuck | some as=>callee (.func (.func g) [] []) as)=_
 cases evals a args.toList with
 | none=>rfl
 | some as=>simp [callee]
theorem callOp_builtin (b:Builtin) (args:Array Operand) (ts:Array TypeId):callOp T a H { callee:=.builtin b,args:=args,argTypes:=ts }=match evals a args.toList with
  | none=>.stuck
  | some as=>builtin T H b ts as:=Eq.trans rfl rfl
theorem callOp_invoke_tmp (t:Tmp) (name:String) (args:Array Operand) (ts:Array TypeId):callOp T a H { callee:=.invoke (.tmp t) name,args:=args,argTypes:=ts }=match evals a args.toList with
  | none=>.stuck
  | some as=>invoked T H (a.tmp t) name as:=Eq.trans rfl rfl
/-! ### Lengths -/
def lenS:V→Option Nat
 | .slice _ _ n _ _=>some n
 | .nilSlice=>some 0
 | _=>none
theorem b_len (t:TypeId) (h:isSlice T t=true) (v:V):builtin T H .len #[t] [v]=OR.ofV H ((lenS v).map fun n:Nat=>V.int .i64 (n:Int)):=by
 unfold isSlice at h;split at h
 ·rename_i e he;simp only [builtin,List.getElem?_toArray,List.getElem?_cons_zero,he]
  cases v <;> rfl
 ·cases h
def isStr (T:Tab) (t:TypeId):Bool:=
 match T.und t with
 | some .string=>true
 | _=>false
theorem b_len_str (t:TypeId) (h:isStr T t=true) (s:List UInt8):builtin T H .len #[t] [.str s]=.val (.int .i64 s.length) H:=by
 unfold isStr at h;split at h
 ·rename_i he;simp only [builtin,List.getElem?_toArray,List.getElem?_cons_zero,he]
 ·cases h
theorem b_append (t0 t1:TypeId) (x y:V):builtin T H .append #[t0,t1] [x,y]=OR.ofVH (append T H t0 t1 x y):=by
 simp [builtin]
/-! ### Whole numbers, truth values -/
theorem bin_add (t:TypeId) (f:Bool) (kd:IntKind) (x y:Int):binOp T .add t f (.int kd x) (.int kd y)=some (.int kd (kd.wrap (x+y))):=by simp [binOp,intOp]
theorem bin_sub (t:TypeId) (f:Bool) (kd:IntKind) (x y:Int):binOp T .sub t f (.int kd x) (.int kd y)=some (.int kd (kd.wrap (x - y))):=by simp [binOp,intOp]
theorem bin_mul (t:TypeId) (f:Bool) (kd:IntKind) (x y:Int):binOp T .mul t f (.int kd x) (.int kd y)=some (.int kd (kd.wrap (x * y))):=by simp [binOp,intOp]
theorem bin_quo (t:TypeId) (f:Bool) (kd:IntKind) (x y:Int) (h:y≠0):binOp T .quo t f (.int kd x) (.int kd y)=some (.int kd (kd.wrap (x.tdiv y))):=by simp [binOp,intOp,h]
theorem bin_rem (t:TypeId) (f:Bool) (kd:IntKind) (x y:Int) (h:y≠0):binOp T .rem t f (.int kd x) (.int kd y)=some (.int kd (x.tmod y)):=by simp [binOp,intOp,h]
theorem bin_eql (t:TypeId) (f:Bool) (kd:IntKind) (x y:Int):binOp T .eql t f (.int kd x) (.int kd y)=some (.bool (decide (x=y))):=by simp [binOp,intOp]
theorem bin_neq (t:TypeId) (f:Bool) (kd:IntKind) (x y:Int):binOp T .neq t f (.int kd x) (.int kd y)=some (.bool (decide (¬ x=y))):=by simp [binOp,intOp]
theorem bin_lss (t:TypeId) (f:Bool) (kd:IntKind) (x y:Int):binOp T .lss t f (.int kd x) (.int kd y)=some (.bool (decide (x<y))):=by simp [binOp,intOp]
theorem bin_leq (t:TypeId) (f:Bool) (kd:IntKind) (x y:Int):binOp T .leq t f (.int kd x) (.int kd y)=some (.bool (decide (x≤y))):=by simp [binOp,intOp]
theorem bin_gtr (t:TypeId) (f:Bool) (kd:IntKind) (x y:Int):binOp T .gtr t f (.int kd x) (.int kd y)=some (.bool (decide (y<x))):=by simp [binOp,intOp]
theorem bin_geq (t:TypeId) (f:Bool) (kd:IntKind) (x y:Int):binOp T .geq t f (.int kd x) (.int kd y)=some (.bool (decide (y≤x))):=by simp [binOp,intOp]
theorem bin_eql_str (t:TypeId) (f:Bool) (x y:List UInt8):binOp T .eql t f (.str x) (.str y)=some (.bool (decide (x=y))):=by simp [binOp,strOp,Bool.beq_eq_decide_eq]
theorem bin_neq_str (t:TypeId) (f:Bool) (x y:List UInt8):binOp T .neq t f (.str x) (.str y)=some (.bool (decide (¬ x=y))):=by simp [binOp,strOp,Bool.beq_eq_decide_eq]
def isBool (T:Tab) (t:TypeId):Bool:=
 match T.und t with
 | some .bool=>true
 | _=>false
theorem bin_eql_bool (t:TypeId) (h:isBool T t=true) (f:Bool) (x y:Bool):binOp T .eql t f (.bool x) (.bool y)=some (.bool (decide (x=y))):=by
 unfold isBool at h;split at h
 ·rename_i he;simp [binOp,equal,he];cases x <;> cases y <;> rfl
 ·cases h
theorem bin_neq_bool (t:TypeId) (h:isBool T t=true) (f:Bool) (x y:Bool):binOp T .neq t f (.bool x) (.bool y)=some (.bool (decide (¬ x=y))):=by
 unfold isBool at h;split at h
 ·rename_i he;simp [binOp,equal,he];cases x <;> cases y <;> rfl
 ·cases h
def isNilS:V→Option Bool
 | .nilSlice=>some true
 | .slice _ _ _ _ _=>some false
 | _=>none
theorem bin_eql_nilS (t:TypeId) (h:isSlice T t=true) (f:Bool) (v:V):binOp T .eql t f v .nilSlice=(isNilS v).map .bool:=by
 unfold isSlice at h;split at h
 ·rename_i e he;cases v <;> simp [binOp,equal,he,isNilS]
 ·cases h
theorem bin_neq_nilS (t:TypeId) (h:isSlice T t=true) (f:Bool) (v:V):binOp T .neq t f v .nilSlice=(isNilS v).map fun b=>.bool !b:=by
 unfold isSlice at h;split at h
 ·rename_i e he;cases v <;> simp [binOp,equal,he,isNilS]
 ·cases h
theorem un_not (b:Bool):unOp .not (.bool b)=some (.bool !b):=Eq.trans rfl rfl
theorem not_dec (p:Prop) [Decidable p]:(!decide p)=decide (¬ p):=by simp
theorem i64_wrap {x:Int} (h:-9223372036854775808≤x∧x≤9223372036854775807):IntKind.i64.wrap x=x:=IntWalk.i64_in x h
/-! ### The heap grown -/
def Heap.WF (H:Heap):Prop:=∀ l,H.n≤l→H.t.get l=none
structure Ext (H H':Heap):Prop where
 n:H.n≤H'.n
 get:∀ l o,H.get l=some o→H'.get l=some o
 wf:H'.WF
theorem Heap.WF.push {H:Heap} (h:H.WF) (o:O):(H.push o).WF:=by
 intro l hl;simp only [Heap.push] at hl ⊢;rw [Tr.get_set,if_neg (by omega)];exact h l (by omega)
theorem Heap.WF.put {H:Heap} (h:H.WF) {l:Nat} (hl:l<H.n) (o:O):(H.put l o).WF:=by
 intro j hj;simp only [Heap.put] at hj ⊢;rw [Tr.get_set,if_neg (by omega)];exact h j hj
theorem Heap.WF.keep {H:Heap} (h:H.WF) (n:Nat):(H.keep n).WF:=fun l hl=>h l (by simp only [Heap.keep] at hl;omega)
theorem Heap.get_keep {H:Heap} (h:H.WF) (n l:Nat):(H.keep n).get l=H.get l:=by
 simp only [Heap.get_eq,Heap.keep]
 by_cases h1:l<H.n
 ·rw [if_pos (by omega),if_pos h1]
 ·rw [if_neg h1];split
  ·exact h l (by omega)
  ·rfl
@[simp] theorem Heap.n_keep (H:Heap) (n:Nat):(H.keep n).n=H.n+n:=Eq.trans rfl rfl
theorem Heap.WF.clean {H:Heap} (h:H.WF) (n:Nat):H.clean n=true:=by
 unfold Heap.clean;rw [List.all_eq_true];intro i _;rw [h _ (by omega)];rfl
theorem Ext.refl {H:Heap} (h:H.WF):Ext H H:=⟨Nat.le_refl _,fun _ _ e=>e,h⟩
theorem Ext.trans {H H1 H2:Heap} (p:Ext H H1) (q:Ext H1 H2):Ext H H2:=⟨Nat.le_trans p.n q.n,fun l o e=>q.get l o (p.get l o e),q.wf⟩
theorem Ext.push {H H1:Heap} (p:Ext H H1) (o:O):Ext H (H1.push o):=
 ⟨by have:=p.n;simp;omega,fun l o' e=>by rw [Heap.get_push,if_neg (by have:=Heap.lt (p.get l o' e);omega)];exact p.get l o' e,p.wf.push o⟩
theorem Ext.keep {H H1:Heap} (p:Ext H H1) (n:Nat):Ext H (H1.keep n):=
 ⟨by have:=p.n;simp;omega,fun l o' e=>by rw [Heap.get_keep p.wf];exact p.get l o' e,p.wf.keep n⟩
theorem cellsAt_push_same (H:Heap) (ro:Bool) (vs:List V):cellsAt (H.push (.cells ro vs)) H.n=some vs:=by simp [cellsAt,Heap.get_push]
theorem cellsAt_push {H:Heap} {l:Nat} (h:¬ l=H.n) (o:O):cellsAt (H.push o) l=cellsAt H l:=by simp [cellsAt,Heap.get_push,h]
theorem cellsAt_put_same {H:Heap} {l:Nat} (h:l<H.n) (ro:Bool) (vs:List V):cellsAt (H.put l (.cells ro vs)) l=some vs:=by simp [cellsAt,Heap.get_put h]
theorem Heap.get_put_ne {H:Heap} {l j:Nat} (h:¬ j=l) (o:O):(H.put l o).get j=H.get j:=by
 simp only [Heap.get_eq,Heap.put,Tr.get_set,if_neg (fun e:l=j=>h e.symm)]
theorem cellsAt_put {H:Heap} {l j:Nat} (h:¬ j=l) (o:O):cellsAt (H.put l o) j=cellsAt H j:=by simp [cellsAt,Heap.get_put_ne h]
theorem cellsAt_of_get {H:Heap} {l:Nat} {ro:Bool} {vs:List V} (h:H.get l=some (.cells ro vs)):cellsAt H l=some vs:=by simp [cellsAt,h]
theorem get_push_same (H:Heap) (o:O):(H.push o).get H.n=some o:=by simp [Heap.get_push]
theorem get_push_ne {H:Heap} {l:Nat} (h:¬ l=H.n) (o:O):(H.push o).get l=H.get l:=by simp [Heap.get_push,h]
theorem get_put_same {H:Heap} {l:Nat} (h:l<H.n) (o:O):(H.put l o).get l=some o:=by simp [Heap.get_put h]
theorem Tr.set_set {α:Type} (x y:α):∀ (t:Tr α) (i:Nat),(t.set i x).set i y=t.set i y:=by
 have hmk:∀ (f i:Nat),i<f→(Tr.mk f i x).set i y=Tr.mk f i y:=by
  intro f
  induction f with
  | zero=>intro i h;omega
  | succ f ih =>
    intro i h;simp only [Tr.mk,cond_beq]
    by_cases hi:i=0
    ·simp only [if_pos hi,Tr.set_node,cond_beq]
    ·by_cases ho:i % 2=1
     ·simp only [if_neg hi,if_pos ho,Tr.set_node,cond_beq,ih _ (show i / 2<f by omega)]
     ·simp only [if_neg hi,if_neg ho,Tr.set_node,cond_beq,ih _ (show i / 2 - 1<f by omega)]
 intro t
 induction t with
 | leaf=>intro i;simp only [Tr.set_leaf];exact hmk _ _ (by omega)
 | node v l r ihl ihr =>
   intro i;simp only [Tr.set_node,cond_beq]
   by_cases hi:i=0
   ·simp only [if_pos hi,Tr.set_node,cond_beq]
   ·by_cases ho:i % 2=1
    ·simp only [if_neg hi,if_pos ho,Tr.set_node,cond_beq,ihl]
    ·simp only [if_neg hi,if_neg ho,Tr.set_node,cond_beq,ihr]
theorem put_push (H:Heap) (o o':O):(H.push o).put H.n o'=H.push o':=by
 simp only [Heap.push,Heap.put,Tr.set_set]
theorem put_put (H:Heap) (l:Nat) (o o':O):(H.put l o).put l o'=H.put l o':=by
 simp only [Heap.put,Tr.set_set]
theorem get_push_eq {H:Heap} {l:Nat} (h:l=H.n) (o:O):(H.push o).get l=some o:=by subst h;exact get_push_same H o
theorem cellsAt_push_eq {H:Heap} {l:Nat} (h:l=H.n) (ro:Bool) (vs:List V):cellsAt (H.push (.cells ro vs)) l=some vs:=by subst h;exact cellsAt_push_same H ro vs
theorem put_push_eq {H:Heap} {l:Nat} (h:l=H.n) (o o':O):(H.push o).put l o'=H.push o':=by subst h;exact put_push H o o'
/-! ### Loads and stores -/
theorem loadP_ptr (t:TypeId) (h:isAgg? T t=some false) (l o:Nat):loadP T H t (.ptr l o)=(cellsAt H l).bind (·[o]?):=by
 simp only [loadP,loadVar,h]
 cases cellsAt H l <;> rfl
theorem loadP_agg (t:TypeId) (h:isAgg? T t=some true) (l o:Nat):loadP T H t (.ptr l o)=(sizeN T t).bind fun n=>(cellsAt H l).bind fun vs=>(take? vs o n).map .agg:=by
 simp only [loadP,loadVar,h,sizeN]
 cases cellsAt H l with
 | none=>cases T.size t <;> rfl
 | some vs=>cases T.size t <;> rfl
theorem cells_one {v:V} (h:v.one=true):v.cells=[v]:=by cases v <;> first | rfl | cases h
theorem storeP_one (t:TypeId) (h:sizeN T t=some 1) (l o:Nat) {v:V} (hv:v.one=true):storeP T H t (.ptr l o) v=putCells H l o [v]:=by
 simp only [sizeN,Option.map_eq_some_iff] at h;obtain ⟨⟨n,b⟩,h1,h2⟩:=h;simp only at h2;subst h2;simp [storeP,storeVar,h1,cells_one hv]
theorem storeP_agg (t:TypeId) (l o:Nat) (cs:List V) (h:sizeN T t=some cs.length):storeP T H t (.ptr l o) (.agg cs)=putCells H l o cs:=by
 simp only [sizeN,Option.map_eq_some_iff] at h;obtain ⟨⟨n,b⟩,h1,h2⟩:=h;simp only at h2;subst h2;simp [storeP,storeVar,h1,V.cells]
theorem putCells_eq {l o:Nat} {vs cs:List V} (h:H.get l=some (.cells false vs)) (hl:o+cs.length≤vs.length) (h1:cs.all V.one=true):putCells H l o cs=some (H.put l (.cells false (over vs o cs))):=by
 simp only [putCells,h];rw [h1];have:Nat.ble (o+cs.length) vs.length=true:=by rw [Nat.ble_eq];exact hl
 rw [this];rfl
noncomputable def putC (H:Heap) (l o:Nat) (cs:List V):Option O→Option Heap
 | some (.cells false vs)=>if o+cs.length≤vs.length∧cs.all V.one=true then some (H.put l (.cells false (over vs o cs))) else none
 | _=>none
theorem putCells_get (l o:Nat) (cs:List V):putCells H l o cs=putC H l o cs (H.get l):=by
 unfold putCells putC
 cases H.get l with
 | none=>rfl
 | some ob =>
   cases ob with
   | cells ro vs=>cases ro <;> simp only [Bool.cond_eq_ite,Bool.and_eq_true,Nat.ble_eq]
   | _=>rfl
theorem putC_some (l o:Nat) (cs vs:List V):putC H l o cs (some (.cells false vs))=if o+cs.length≤vs.length∧cs.all V.one=true then some (H.put l (.cells false (over vs o cs))) else none:=Eq.trans rfl rfl
theorem over_one:∀ (vs:List V) (o:Nat) (v:V),over vs o [v]=vs.set o v
 | [],0,_=>rfl
 | [],_+1,_=>rfl
 | _::vs,0,v=>by cases vs <;> rfl
 | w::vs,o+1,v=>by simp [over,over_one vs o v]
theorem over_whole:∀ (vs cs:List V),cs.length=vs.length→over vs 0 cs=cs
 | [],[],_=>rfl
 | _::vs,c::cs,h=>by simp only [over];rw [over_whole vs cs (by simpa using h)]
 | [],_::_,h=>by simp at h
 | _::_,[],h=>by simp at h
/-! ### Forms -/
theorem isPtr_ptr (l o:Nat):isPtr (.ptr l o)=true:=Eq.trans rfl rfl
theorem ptrOff_ptr (l o c:Nat):ptrOff (.ptr l o) c=.ptr l (o+c):=Eq.trans rfl rfl
theorem nth_tuple (vs:List V) (i:Nat):nth? (.tuple vs) i=vs[i]?:=Eq.trans rfl rfl
theorem lenS_slice (l o n s:Nat) (c:Option Nat):lenS (.slice l o n s c)=some n:=Eq.trans rfl rfl
theorem lenS_nil:lenS .nilSlice=some 0:=Eq.trans rfl rfl
theorem isNilS_nil:isNilS .nilSlice=some true:=Eq.trans rfl rfl
theorem isNilS_slice (l o n s:Nat) (c:Option Nat):isNilS (.slice l o n s c)=some false:=Eq.trans rfl rfl
theorem cells_agg (cs:List V):V.cells (.agg cs)=cs:=Eq.trans rfl rfl
theorem cells_int (kd:IntKind) (n:Int):V.cells (.int kd n)=[.int kd n]:=Eq.trans rfl rfl
theorem cells_bool (b:Bool):V.cells (.bool b)=[.bool b]:=Eq.trans rfl rfl
theorem cells_str (s:List UInt8):V.cells (.str s)=[.str s]:=Eq.trans rfl rfl
theorem cells_ptr (l o:Nat):V.cells (.ptr l o)=[.ptr l o]:=Eq.trans rfl rfl
theorem cells_slice (l o n s:Nat) (c:Option Nat):V.cells (.slice l o n s c)=[.slice l o n s c]:=Eq.trans rfl rfl
theorem cells_nilSlice:V.cells .nilSlice=[.nilSlice]:=Eq.trans rfl rfl
theorem cells_func (f:Fn) (u v:List V):V.cells (.func f u v)=[.func f u v]:=Eq.trans rfl rfl
theorem cells_nilFunc:V.cells .nilFunc=[.nilFunc]:=Eq.trans rfl rfl
theorem cells_iface (t:TypeId) (v:V):V.cells (.iface t v)=[.iface t v]:=Eq.trans rfl rfl
theorem cells_nilIface:V.cells .nilIface=[.nilIface]:=Eq.trans rfl rfl
theorem cells_map (r:Nat):V.cells (.map r)=[.map r]:=Eq.trans rfl rfl
theorem cells_nilMap:V.cells .nilMap=[.nilMap]:=Eq.trans rfl rfl
theorem cells_nilPtr:V.cells .nilPtr=[.nilPtr]:=Eq.trans rfl rfl
theorem V_one_int (kd:IntKind) (n:Int):V.one (.int kd n)=true:=Eq.trans rfl rfl
theorem V_one_bool (b:Bool):V.one (.bool b)=true:=Eq.trans rfl rfl
theorem V_one_str (s:List UInt8):V.one (.str s)=true:=Eq.trans rfl rfl
theorem V_one_ptr (l o:Nat):V.one (.ptr l o)=true:=Eq.trans rfl rfl
theorem V_one_slice (l o n s:Nat) (c:Option Nat):V.one (.slice l o n s c)=true:=Eq.trans rfl rfl
theorem V_one_nilSlice:V.one .nilSlice=true:=Eq.trans rfl rfl
theorem V_one_func (f:Fn) (u v:List V):V.one (.func f u v)=true:=Eq.trans rfl rfl
theorem V_one_nilFunc:V.one .nilFunc=true:=Eq.trans rfl rfl
theorem V_one_iface (t:TypeId) (v:V):V.one (.iface t v)=true:=Eq.trans rfl rfl
theorem V_one_nilIface:V.one .nilIface=true:=Eq.trans rfl rfl
theorem V_one_map (r:Nat):V.one (.map r)=true:=Eq.trans rfl rfl
theorem V_one_nilMap:V.one .nilMap=true:=Eq.trans rfl rfl
theorem V_one_nilPtr:V.one .nilPtr=true:=Eq.trans rfl rfl
/-! ### Results -/
theorem results_nil:results T H a []=some []:=Eq.trans rfl rfl
theorem results_tmp (t:Tmp) (rs:List ResultVar):results T H a (.tmp t::rs)=(results T H a rs).map (a.tmp t::·):=by
 show (match results T H a rs with | some vs=>some (a.tmp t::vs) | none=>none)=_
 cases results T H a rs <;> rfl
theorem results_cell (p:Tmp) (t:TypeId) (rs:List ResultVar):results T H a (.cell p t::rs)=(loadP T H t (a.tmp p)).bind fun v=>(results T H a rs).map (v::·):=by
 show (match a.tmp p with
  | .ptr l o=>match loadVar T H t l o,results T H a rs with
    | some v,some vs=>some (v::vs)
    | _,_=>none
  | _=>none)=_
 cases a.tmp p <;> simp only [loadP,Option.bind_none]
 rename_i l o
 cases loadVar T H t l o <;> cases results T H a rs <;> rfl
theorem leave_nil (rs:List ResultVar) (R:V→Heap→Prop):Leave T rs R a [] H=ResOk (results T H a rs) R H:=Eq.trans rfl rfl
theorem leave_collected (rs:List ResultVar) (R:V→Heap→Prop) (r:Nat) (ds:List D):Leave T rs R a (.collected r::ds) H=(H.get r=some (.deferred (some []))∧Leave T rs R a ds (H.put r (.deferred none))):=Eq.trans rfl rfl
end Go.Am

namespace Go.Am
variable {T:Tab} {H H':Heap} {a:A}
theorem tk_eq {vs r:List V} {o n:Nat} (h:take? vs o n=some r):r=(vs.drop o).take n∧r.length=n:=by
 simp only [take?,cond_beq] at h;split at h
 ·rename_i hl;cases h;exact ⟨rfl,hl⟩
 ·cases h
theorem tk_get {vs r:List V} {o n:Nat} (h:take? vs o n=some r) (j:Nat) (hj:j<n):r[j]?=vs[o+j]?:=by
 obtain ⟨rfl,_⟩:=tk_eq h;simp only [List.getElem?_take,List.getElem?_drop,if_pos hj]
theorem flatten_len {s:Nat}:∀ {es:List (List V)} (he:∀ e,e∈es→e.length=s),es.flatten.length=es.length * s
 | [],_=>by simp
 | e::es,he=>by
   simp only [List.flatten_cons,List.length_append,List.length_cons,he e (by simp),flatten_len (es:=es) fun e h=>he e (by simp [h])];rw [Nat.add_mul];omega
def Sl (H:Heap) (v:V) (s:Nat) (es:List (List V)):Prop:=
 (∀ e,e∈es→e.length=s)∧((v=.nilSlice∧es=[])∨∃ l o c ro vs,v=.slice l o es.length s c∧H.get l=some (.cells ro vs)∧take? vs o (es.length * s)=some es.flatten∧∀ m,c=some m→es.length≤m)
variable {v:V} {s:Nat} {es:List (List V)}
theorem Sl.nil (H:Heap) (s:Nat):Sl H .nilSlice s []:=⟨by simp,.inl ⟨rfl,rfl⟩⟩
theorem Sl.mono (h:Sl H v s es) (hx:Ext H H'):Sl H' v s es:=by
 refine ⟨h.1,?_⟩;rcases h.2 with h | ⟨l,o,c,ro,vs,h1,h2,h3,hcap⟩
 ·exact .inl h
 ·exact .inr ⟨l,o,c,ro,vs,h1,hx.get _ _ h2,h3,hcap⟩
theorem Sl.isNil (h:Sl H v s es):∃ b,isNilS v=some b∧(b=true→v=.nilSlice∧es=[]):=by
 rcases h.2 with ⟨rfl,rfl⟩ | ⟨l,o,c,ro,vs,rfl,h2,h3,hcap⟩
 ·exact ⟨true,rfl,fun _=>⟨rfl,rfl⟩⟩
 ·exact ⟨false,rfl,fun h=>by cases h⟩
theorem Sl.lenOf (h:Sl H v s es):lenOf v=some es.length:=by
 rcases h.2 with ⟨rfl,rfl⟩ | ⟨l,o,c,ro,vs,rfl,h2,h3,hcap⟩ <;> rfl
theorem isPtr_off (p:V) (c:Nat):isPtr (ptrOff p c)=isPtr p:=by cases p <;> rfl
theorem ptrOff_off (p:V) (c e:Nat):ptrOff (ptrOff p c) e=ptrOff p (c+e):=by cases p <;> simp [ptrOff,Nat.add_assoc]
theorem Sl.firstCells (h:Sl H v s es):firstCells H s es.length v=some es.flatten:=by
 rcases id h.2 with ⟨rfl,rfl⟩ | ⟨l,o,q,ro,vs,rfl,h2,h3,hcap⟩
 ·rfl
 ·simp only [Am.firstCells,cellsAt_of_get h2,h3]
/-! ### What is kept, but for some -/
structure ExtB (P:Nat→Prop) (H H':Heap):Prop where
 n:H.n≤H'.n
 get:∀ l o,¬ P l→H.get l=some o→H'.get l=some o
 wf:H'.WF
theorem Ext.but (h:Ext H H') (P:Nat→Prop):ExtB P H H':=⟨h.n,fun l o _ e=>h.get l o e,h.wf⟩
theorem ExtB.trans {P:Nat→Prop} {H1 H2 H3:Heap} (p:ExtB P H1 H2) (q:ExtB P H2 H3):ExtB P H1 H3:=
 ⟨Nat.le_trans p.n q.n,fun l o hl e=>q.get l o hl (p.get l o hl e),q.wf⟩
theorem ExtB.trans' {P Q:Nat→Prop} {H1 H2 H3:Heap} (p:ExtB P H1 H2) (q:ExtB Q H2 H3) (h:∀ l,Q l→P l∨H1.n≤l):ExtB P H1 H3:=
 ⟨Nat.le_trans p.n q.n,fun l o hl e=>q.get l o (fun hq=>by
  rcases h l hq with h | h
  ·exact hl h
  ·have:=Heap.lt e;omega) (p.get l o hl e),q.wf⟩
theorem ExtB.weaken {P Q:Nat→Prop} (p:ExtB P H H') (h:∀ l,P l→Q l):ExtB Q H H':=⟨p.n,fun l o hl e=>p.get l o (fun hp=>hl (h l hp)) e,p.wf⟩
theorem Ext.thenB {P:Nat→Prop} {H0:Heap} (p:Ext H0 H) (q:ExtB P H H') (h:∀ l,P l→H0.n≤l):Ext H0 H':=
 ⟨Nat.le_trans p.n q.n,fun l o e=>q.get l o (fun hp=>by have:=h l hp;have:=Heap.lt e;omega) (p.get l o e),q.wf⟩
theorem ExtB.refl (P:Nat→Prop) (h:H.WF):ExtB P H H:=(Ext.refl h).but P
theorem ExtB.push {P:Nat→Prop} {H1:Heap} (p:ExtB P H H1) (o:O):ExtB P H (H1.push o):=p.trans ((Ext.refl p.wf).push o |>.but P)
theorem ExtB.keep {P:Nat→Prop} {H1:Heap} (p:ExtB P H H1) (n:Nat):ExtB P H (H1.keep n):=p.trans ((Ext.refl p.wf).keep n |>.but P)
theorem ExtB.put {P:Nat→Prop} {H1:Heap} (p:ExtB P H H1) {l:Nat} (h1:P l∨H.n≤l) (h2:l<H1.n) (o:O):ExtB P H (H1.put l o):=
 ⟨p.n,fun j o' hj e=>by
  have hne:¬ j=l:=by
   rintro rfl;rcases h1 with h1 | h1
   ·exact hj h1
   ·have:=Heap.lt e;omega
  rw [Heap.get_put_ne hne];exact p.get j o' hj e,p.wf.put h2 o⟩
def objOf:V→Option Nat
 | .slice l _ _ _ _=>some l
 | .ptr l _=>some l
 | .map r=>some r
 | _=>none
def Of (v:V):Nat→Prop:=fun l=>objOf v=some l
/-! ### A slice that its holder alone holds -/
def Mine (n:Nat) (H:Heap) (v:V) (s:Nat) (es:List (List V)):Prop:=
 (∀ e,e∈es→e.length=s)∧((v=.nilSlice∧es=[])∨∃ l q pre rest,v=.slice l pre.length es.length s q∧n≤l∧H.get l=some (.cells false (pre++(es.flatten++rest))) ∧
  ∀ m,q=some m→es.length≤m∧(m - es.length) * s≤rest.length)
theorem Mine.nil (n:Nat) (H:Heap) (s:Nat):Mine n H .nilSlice s []:=⟨by simp,.inl ⟨rfl,rfl⟩⟩
theorem take?_pre (pre vs rest:List V) {n:Nat} (h:vs.length=n):take? (pre++(vs++rest)) pre.length n=some vs:=by
 subst h;simp [take?]
theorem Mine.sl {n:Nat} (h:Mine n H v s es):Sl H v s es:=by
 refine ⟨h.1,?_⟩;rcases h.2 with h2 | ⟨l,q,pre,rest,h1,h2,h3,h4⟩
 ·exact .inl h2
 ·exact .inr ⟨l,pre.length,q,false,_,h1,h3,take?_pre _ _ _ (flatten_len h.1),fun m hm=>(h4 m hm).1⟩
def appOk (T:Tab) (t0 t1:TypeId):Option (Nat×Nat):=
 match T.und t0,T.und t1 with
 | some (.slice e),some (.slice _)=>match T.size e,T.zero e with
   | some (s,b),some z=>cond (Nat.beq z.length s) (some (s,b)) none
   | _,_=>none
 | _,_=>none
theorem append_eq {t0 t1:TypeId} {b:Nat} (ha:appOk T t0 t1=some (s,b)) {x y:V} {fs:List (List V)} (hy:Sl H y s fs) :
  append T H t0 t1 x y=match x with
    | .nilSlice=>if fs.length<17592186044416∧fs.length * b<17592186044416 then
      (if fs.length=0 then some (.nilSlice,H) else some (.slice H.n 0 fs.length s none,H.push (.cells false fs.flatten))) else none
    | .slice l o m s' c=>if s=s'∧m+fs.length<17592186044416∧(m+fs.length) * b<17592186044416 then (if fs.length=0 then some (.slice l o m s' c,H) else
      match firstCells H s m x with
      | none=>none
      | some old=>match c with
        | some q=>if m+fs.length≤q then (putCells H l (o+m * s) fs.flatten).map (fun H'=>(.slice l o (m+fs.length) s c,H'))
          else some (.slice H.n 0 (m+fs.length) s none,H.push (.cells false (old++fs.flatten)))
        | none=>if fs.flatten.all V.one=true then (match retire H l with
          | some H'=>some (.slice H'.n 0 (m+fs.length) s none,H'.push (.cells false (old++fs.flatten)))
          | none=>none) else none) else none
    | _=>none:=by
 simp only [appOk] at ha;split at ha
 ·rename_i e e1 h0 h1;split at ha
  ·rename_i s1 b1 z hs hz;simp only [cond_beq] at ha;split at ha
   ·rename_i hzl
    cases ha
    simp only [append,h0,h1,hs,hz,hzl,Nat.beq_refl,cond_true]
    have hn:appended H (.slice e1) s b z y=some (fs.length,fs.flatten):=by
     simp only [appended,hy.lenOf,hy.firstCells,Option.map_some]
    simp only [hn]
    cases x with
    | nilSlice =>
      simp only [Bool.cond_eq_ite,Bool.and_eq_true,Nat.blt_eq,Nat.beq_eq]
    | slice l o m s' c =>
      simp only [Bool.cond_eq_ite,Bool.and_eq_true,Nat.blt_eq,Nat.beq_eq,Nat.ble_eq,and_assoc]
      rfl
    | _=>rfl
   ·cases ha
  ·cases ha
 ·cases ha
theorem all_flatten {fs:List (List V)} (h:∀ f,f∈fs→f.all V.one=true):fs.flatten.all V.one=true:=by
 rw [List.all_eq_true];intro v hv;rw [List.mem_flatten] at hv;obtain ⟨f,h1,h2⟩:=hv;exact List.all_eq_true.1 (h f h1) v h2
theorem over_app:∀ (xs ys cs:List V),cs.length≤ys.length→over (xs++ys) xs.length cs=xs++cs++ys.drop cs.length
 | [],ys,[],_=>by cases ys <;> rfl
 | [],y::ys,c::cs,h=>by
   simp only [List.nil_append,List.length_nil,over,List.length_cons,List.drop_succ_cons,List.cons_append];have:=over_app [] ys cs (by simpa using h);simpa using this
 | [],[],_::_,h=>by simp at h
 | x::xs,ys,cs,h=>by simp [over,over_app xs ys cs h]
theorem append_own {n:Nat} (h:Mine n H v s es) (hw:H.WF) (hn:n≤H.n) {t0 t1:TypeId} {b:Nat} (ha:appOk T t0 t1=some (s,b)) {y:V} {fs:List (List V)} (hy:Sl H y s fs)
  (hone:∀ f,f∈fs→f.all V.one=true) (hb1:es.length+fs.length<17592186044416) (hb2:(es.length+fs.length) * b<17592186044416) :
  ∃ v' H',append T H t0 t1 v y=some (v',H')∧Mine n H' v' s (es++fs)∧ExtB (Of v) H H'∧∀ m,Of v' m→Of v m∨H.n≤m:=by
 have hall:∀ e,e∈es++fs→e.length=s:=by
  intro e he;rcases List.mem_append.1 he with he | he
  ·exact h.1 e he
  ·exact hy.1 e he
 rw [append_eq ha hy];rcases h.2 with ⟨rfl,rfl⟩ | ⟨l,q,pre,rest,rfl,h2,h3,h4⟩
 ·simp only [List.length_nil,Nat.zero_add] at hb1 hb2;simp only [hb1,hb2,and_self,if_true,List.nil_append]
  by_cases h0:fs.length=0
  ·rw [if_pos h0];have:fs=[]:=List.length_eq_zero_iff.1 h0;subst this;exact ⟨_,_,rfl,Mine.nil _ _ _,ExtB.refl _ hw,fun _ h=>.inl h⟩
  ·rw [if_neg h0];refine ⟨_,_,rfl,⟨hy.1,.inr ⟨H.n,none,[],[],rfl,hn,?_,by simp⟩⟩,(ExtB.refl _ hw).push _,fun m h=>by cases h;exact .inr (Nat.le_refl _)⟩;rw [get_push_same,List.append_nil];rfl
 ·simp only [true_and,hb1,hb2,and_self,if_true]
  by_cases h0:fs.length=0
  ·rw [if_pos h0];have:fs=[]:=List.length_eq_zero_iff.1 h0;subst this;exact ⟨_,_,rfl,by simpa using h,ExtB.refl _ hw,fun _ h=>.inl h⟩
  ·rw [if_neg h0];have hold:firstCells H s es.length (.slice l pre.length es.length s q)=some es.flatten:=h.sl.firstCells;rw [hold];simp only;have hlt:=Heap.lt h3
   cases q with
   | none =>
     simp only [all_flatten hone,if_true,retire,h3];refine ⟨_,_,rfl,⟨hall,.inr ⟨H.n,none,[],[],by simp,hn,?_,by simp⟩⟩,?_,fun m h=>by cases h;exact .inr (Nat.le_refl _)⟩
     ·have:=get_push_same (H.put l .stale) (.cells false (es.flatten++fs.flatten));simp only [Heap.n_put] at this;rw [this];simp
     ·exact ((ExtB.refl (Of (.slice l pre.length es.length s none)) hw).put (.inl rfl) hlt _).push _
   | some m =>
     obtain ⟨h5,h6⟩:=h4 m rfl;simp only
     by_cases hm:es.length+fs.length≤m
     ·rw [if_pos hm]
      have hfl:fs.flatten.length≤rest.length:=by
       rw [flatten_len hy.1];exact Nat.le_trans (Nat.mul_le_mul_right s (by omega)) h6
      have hel:=flatten_len h.1;rw [putCells_eq h3 (by rw [List.length_append,List.length_append];omega) (all_flatten hone)];refine ⟨_,_,rfl,⟨hall,.inr ⟨l,some m,pre,rest.drop fs.flatten.length,by simp,h2,?_,?_⟩⟩,(ExtB.refl (Of (.slice l pre.length es.length s (some m))) hw).put (.inl rfl) hlt _,fun _ h=>.inl h⟩
      ·have e3:pre.length+es.length * s=(pre++es.flatten).length:=by rw [List.length_append,hel]
       rw [get_put_same hlt,← List.append_assoc,e3,over_app _ _ _ hfl];simp
      ·intro m' hm'
       cases hm'
       simp only [List.length_append,List.length_drop];refine ⟨by omega,?_⟩;rw [flatten_len hy.1];have e4:(m - (es.length+fs.length)) * s=(m - es.length) * s - fs.length * s:=by rw [← Nat.sub_mul];congr 1;omega
       omega
     ·rw [if_neg hm];refine ⟨_,_,rfl,⟨hall,.inr ⟨H.n,none,[],[],by simp,hn,?_,by simp⟩⟩,(ExtB.refl _ hw).push _,fun m h=>by cases h;exact .inr (Nat.le_refl _)⟩;rw [get_push_same];simp
theorem Mine.empty {n:Nat} (hw:H.WF) (hn:n≤H.n) (s:Nat):Mine n (H.push (.cells false [])) (.slice H.n 0 0 s (some 0)) s []:=
 ⟨by simp,.inr ⟨H.n,some 0,[],[],rfl,hn,by rw [get_push_same];rfl,fun m h=>by cases h;simp⟩⟩
theorem of_slice {l o n s m:Nat} {c:Option Nat}:Of (.slice l o n s c) m↔l=m:=by simp [Of,objOf]
theorem of_nil {m:Nat}:¬ Of .nilSlice m:=by simp [Of,objOf]
end Go.Am
