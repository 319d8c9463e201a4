import Derived.Test.YtphjohoipocpnaaGreatVmD
import Derived.Test.YtphjohoipocpnaaGreatRkB
import Derived.Test.YtphjohoipocpnaaGreatRkA
set_option linter.unusedSimpArgs false
set_option linter.unusedVariables false
set_option maxRecDepth 8000
/- An account's operations, both answers. No conditions. -/
namespace Go.Proofs.YtphjohoipocpnaaGreat.W
open Go.Am
set_option linter.defProp false in
def xREsc:=@Vm.dl8
def money (n:Int):Prop:=0≤n∧n≤4611686018427387904
instance (n:Int):Decidable (money n):=inferInstanceAs (Decidable (_∧_))
def dep (x n:Int):Int×Int:=if n≤4611686018427387904 - x then (x+n,1) else (x,0)
def wdr (x n:Int):Int×Int:=if n≤x then (x - n,1) else (x,0)
def dPair (q:Int×Int):Vm.D:=.tuple [.atom (.int .i64 q.1),.atom (.int .i64 q.2)]
theorem u64_pos {n:Int} (h:0≤n) (h2:n≤9223372036854775807):IntKind.u64.wrap n=n:=by
 unfold IntKind.wrap;simp only [IntKind.bits,IntKind.signed,Bool.false_and,Bool.false_eq_true,if_false];omega
theorem dep_v (x n:Int) (hx:money x) (hn:money n):Vm.VC T 203 [.atom (.int .i64 x),.atom (.int .i64 n)] fun d=>d=dPair (dep x n):=by
 refine Vm.ve (T:=T) Tryz.func203 fun g hB hG0 hU=>?_;simp only [Tryz.f203,Vm.aC,Vm.aN,Nat.reduceAdd];have e1:=u64_pos hx.1 (by have:=hx.2;omega);have e2:=u64_pos hn.1 (by have:=hn.2;omega);have e3:=u64_pos (n:=4611686018427387904 - x) (by have:=hx.2;omega) (by have:=hx.1;omega);obtain ⟨h1,h2⟩:=hx;obtain ⟨h3,h4⟩:=hn;refine Vm.rn (ai xREsc<|ai @e1<|ai @e2 @e3) ?_;refine Vm.sb_dec (fun h=>?_) (fun h=>?_)
 ·refine Vm.rn xREsc ?_;refine Vm.rz xREsc ?_;rw [dep,if_neg (by omega)];rfl
 ·refine Vm.rn xREsc ?_;refine Vm.rz xREsc ?_;rw [dep,if_pos (by omega)];rfl
theorem wdr_v (x n:Int) (hx:money x) (hn:money n):Vm.VC T 204 [.atom (.int .i64 x),.atom (.int .i64 n)] fun d=>d=dPair (wdr x n):=by
 refine Vm.ve (T:=T) Tryz.func204 fun g hB hG0 hU=>?_;simp only [Tryz.f204,Vm.aC,Vm.aN,Nat.reduceAdd];have e1:=u64_pos hx.1 (by have:=hx.2;omega);have e2:=u64_pos hn.1 (by have:=hn.2;omega);obtain ⟨h1,h2⟩:=hx;obtain ⟨h3,h4⟩:=hn;refine Vm.rn (ai xREsc<|ai @e1 @e2) ?_;refine Vm.sb_dec (fun h=>?_) (fun h=>?_)
 ·refine Vm.rn xREsc ?_;refine Vm.rz xREsc ?_;rw [wdr,if_neg (by omega)];rfl
 ·refine Vm.rn xREsc ?_;refine Vm.rz xREsc ?_;rw [wdr,if_pos (by omega)];rfl
theorem bal_v (x n:Int):Vm.VC T 205 [.atom (.int .i64 x),.atom (.int .i64 n)] fun d=>d=dPair (x,x):=by
 refine Vm.ve (T:=T) Tryz.func205 fun g hB hG0 hU=>?_;simp only [Tryz.f205,Vm.aC,Vm.aN,Nat.reduceAdd];refine Vm.rn xREsc ?_;exact Vm.rx (Vm.cl (ai xREsc @dPair.eq_1))
def fineE (k a:Int):Bool:=decide ((k=13∨k=14)∧money a∨k=15∧a=0)
def knownE (k:Int):Bool:=decide (13≤k∧k≤15)
theorem emay_v (k a:Int):Vm.VC T 185 [.atom (.int .i64 k),.atom (.int .i64 a)] fun d=>d=.tuple [.atom (.bool (knownE k)),.atom (.bool (fineE k a))]:=by
 refine Vm.ve (T:=T) Tryz.func185 fun g hB hG0 hU=>?_;simp only [Tryz.f185,Vm.aC,Vm.aN,Nat.reduceAdd]
 by_cases h1:k=13
 ·subst h1
  by_cases h2:0≤a
  ·refine Vm.rn (ai xREsc @h2) ?_;refine Vm.rz xREsc ?_;simp [knownE,fineE,money,h2]
  ·refine Vm.rn (ai xREsc @h2) ?_;refine Vm.rz xREsc ?_;simp [knownE,fineE,money,h2]
 by_cases h2:k=14
 ·subst h2
  by_cases h2:0≤a
  ·refine Vm.rn (ai xREsc @h2) ?_;refine Vm.rz xREsc ?_;simp [knownE,fineE,money,h2]
  ·refine Vm.rn (ai xREsc @h2) ?_;refine Vm.rz xREsc ?_;simp [knownE,fineE,money,h2]
 by_cases h3:k=15
 ·subst h3;refine Vm.rn xREsc ?_;refine Vm.rz xREsc ?_;simp [knownE,fineE]
 ·refine Vm.rn (ai xREsc<|ai @h1<|ai @h2 @h3) ?_;refine Vm.rz xREsc ?_;simp [knownE,fineE,h1,h2,h3];omega
theorem does_v (k:Int) (h:13≤k∧k≤15):Vm.VC T 186 [.atom (.int .i64 k)] fun d=>d=.atom (.func (.func (if k=13 then 203 else if k=14 then 204 else 205)) [] []):=by
 refine Vm.ve (T:=T) Tryz.func186 fun g hB hG0 hU=>?_;simp only [Tryz.f186,Vm.aC,Vm.aN,Nat.reduceAdd];have h5:k=13∨k=14∨k=15:=by omega
 rcases h5 with rfl | rfl | rfl
 ·refine Vm.rn (ai xREsc @Vm.overD.eq_1) ?_;exact Vm.rx (Vm.cl xREsc)
 ·refine Vm.rn (ai xREsc @Vm.overD.eq_1) ?_;exact Vm.rx (Vm.cl xREsc)
 ·refine Vm.rn (ai xREsc @Vm.overD.eq_1) ?_;exact Vm.rx (Vm.cl xREsc)
noncomputable def appE (s:Sta) (k a b:Int):Ans:=
 if s.t≠5∨checkS s≠0 then bad 12 else if knownE k=false then bad 6 else if b≠0∨fineE k a=false then bad 2
 else if k=13 then ⟨⟨5,(dep s.n a).1,[]⟩,⟨2,(dep s.n a).2⟩,0⟩ else if k=14 then ⟨⟨5,(wdr s.n a).1,[]⟩,⟨2,(wdr s.n a).2⟩,0⟩ else ⟨⟨5,s.n,[]⟩,⟨2,s.n⟩,0⟩
theorem money_of {n:Int} {l:List Int} (h:checkS ⟨5,n,l⟩=0):money n:=by
 simp [checkS,formB,moneyB] at h;exact h.2
theorem esc_v (s:Sta) (k a b:Int) (hl:s.l.length<1000000000):Vm.VC T 164 [.agg (dS s),.atom (.int .i64 k),.atom (.int .i64 a),.atom (.int .i64 b)] fun d=>d=dAns (appE s k a b):=by
 refine Vm.VC.dl ?_;refine Vm.ve (T:=T) Tryz.func164 fun g hB hG0 hU=>?_;simp only [Tryz.f164,Vm.aC,Vm.aN,Nat.reduceAdd];obtain ⟨t,n,l⟩:=s
 by_cases h1:t=5
 ·subst h1;refine Vm.rn (ai xREsc @dS.eq_1) ?_;refine Vm.cq (ai xREsc @dS.eq_1) (emay_v k a) ?_;refine Vm.cq (ai xREsc @dS.eq_1) (check_v ⟨5,n,l⟩ hl) ?_;refine Vm.sb_dec (fun h2=>?_) (fun h2=>?_)
  ·refine Vm.rn (ai xREsc @Vm.overD.eq_1) ?_;refine Vm.rz xREsc ?_;rw [show appE ⟨5,n,l⟩ k a b=bad 12 from by simp [appE,h2]];simp [dAns,bad,z0,r0,dF,dR,Vm.dl8]
  have hm:=money_of (Decidable.not_not.1 h2);refine Vm.rn xREsc ?_
  by_cases h3:13≤k∧k≤15
  ·have e3:knownE k=true:=by simp [knownE,h3]
   refine Vm.rn (ai xREsc @e3) ?_
   by_cases h4:fineE k a=true
   ·by_cases h5:b=0
    ·subst h5;refine Vm.rn (ai xREsc @h4) ?_;refine Vm.fy 0 xREsc ?_;refine Vm.dv 11 [0,1,2,3,4,5,6,7,8,9,10] [0,1,0,4,0,31,63,127,127,255,1023] ?_;refine Vm.rt xREsc ?_
     (have hh:=ai xREsc @Am.vt;(first | refine Vm.callQ_eq2 (does_v k h3) (Vm.ct hh) (Vm.rt hh ?_) | refine Vm.call_eq2 (does_v k h3) (Vm.ct hh) (Vm.rt hh ?_));clear hh)
     have hc:k=13∨k=14∨k=15:=by omega
     rcases hc with rfl | rfl | rfl
     ·have hm2:money a:=by simpa [fineE] using h4
      refine Vm.rt xREsc ?_
      (have hh:=ai xREsc<|ai @dPair.eq_1 @Am.vt;(first | refine Vm.callQ_eq2 (dep_v n a hm hm2) (Vm.ct hh) (Vm.rt hh ?_) | refine Vm.call_eq2 (dep_v n a hm hm2) (Vm.ct hh) (Vm.rt hh ?_));clear hh)
      refine Vm.rn (ai xREsc @Vm.overD.eq_1) ?_;refine Vm.rz xREsc ?_;rw [show appE ⟨5,n,l⟩ 13 a 0=⟨⟨5,(dep n a).1,[]⟩,⟨2,(dep n a).2⟩,0⟩ from by simp [appE,h2,h4,e3]];simp [dAns,bad,z0,r0,dF,dR,Vm.dl8]
     ·have hm2:money a:=by simpa [fineE] using h4
      refine Vm.rt xREsc ?_
      (have hh:=ai xREsc<|ai @dPair.eq_1 @Am.vt;(first | refine Vm.callQ_eq2 (wdr_v n a hm hm2) (Vm.ct hh) (Vm.rt hh ?_) | refine Vm.call_eq2 (wdr_v n a hm hm2) (Vm.ct hh) (Vm.rt hh ?_));clear hh)
      refine Vm.rn (ai xREsc @Vm.overD.eq_1) ?_;refine Vm.rz xREsc ?_;rw [show appE ⟨5,n,l⟩ 14 a 0=⟨⟨5,(wdr n a).1,[]⟩,⟨2,(wdr n a).2⟩,0⟩ from by simp [appE,h2,h4,e3]];simp [dAns,bad,z0,r0,dF,dR,Vm.dl8]
     ·refine Vm.rt xREsc ?_
      (have hh:=ai xREsc<|ai @dPair.eq_1 @Am.vt;(first | refine Vm.callQ_eq2 (bal_v n a) (Vm.ct hh) (Vm.rt hh ?_) | refine Vm.call_eq2 (bal_v n a) (Vm.ct hh) (Vm.rt hh ?_));clear hh)
      refine Vm.rn (ai xREsc @Vm.overD.eq_1) ?_;refine Vm.rz xREsc ?_;rw [show appE ⟨5,n,l⟩ 15 a 0=⟨⟨5,n,[]⟩,⟨2,n⟩,0⟩ from by simp [appE,h2,h4,e3]];simp [dAns,bad,z0,r0,dF,dR,Vm.dl8]
    ·refine Vm.rn (ai xREsc<|ai @h4<|ai @h5 @Vm.overD.eq_1) ?_;refine Vm.rz xREsc ?_;rw [show appE ⟨5,n,l⟩ k a b=bad 2 from by simp [appE,h2,h4,h5,e3]];simp [dAns,bad,z0,r0,dF,dR,Vm.dl8]
   ·rw [Bool.not_eq_true] at h4;refine Vm.rn (ai xREsc<|ai @h4 @Vm.overD.eq_1) ?_;refine Vm.rz xREsc ?_;rw [show appE ⟨5,n,l⟩ k a b=bad 2 from by simp [appE,h2,h4,e3]];simp [dAns,bad,z0,r0,dF,dR,Vm.dl8]
  ·have e3:knownE k=false:=by simp only [knownE,h3,decide_false]
   refine Vm.rn (ai xREsc<|ai @e3 @Vm.overD.eq_1) ?_;refine Vm.rz xREsc ?_;rw [show appE ⟨5,n,l⟩ k a b=bad 6 from by simp [appE,h2,e3]];simp [dAns,bad,z0,r0,dF,dR,Vm.dl8]
 ·refine Vm.rn (ai xREsc @dS.eq_1) ?_;refine Vm.cq (ai xREsc<|ai @dS.eq_1<|ai @h1 @Vm.overD.eq_1) (emay_v k a) ?_;refine Vm.rz xREsc ?_;rw [show appE ⟨t,n,l⟩ k a b=bad 12 from by simp [appE,h1]];simp [dAns,bad,z0,r0,dF,dR,Vm.dl8]
theorem rmoney_v (n:Int):Vm.VC T 166 [.atom (.int .i64 n)] fun d=>d=.atom (.bool (decide (money n))):=by
 refine Vm.ve (T:=T) Tryz.func166 fun g hB hG0 hU=>?_;simp only [Tryz.f166,Vm.aC,Vm.aN,Nat.reduceAdd]
 by_cases h:0≤n
 ·refine Vm.rn (ai xREsc @h) ?_;refine Vm.rz xREsc ?_;simp [money,h]
 ·refine Vm.rn (ai xREsc @h) ?_;refine Vm.rz xREsc ?_;simp [money,h]
theorem rmay_v (k a:Int):Vm.VC T 150 [.atom (.int .i64 k),.atom (.int .i64 a)] fun d=>d=.atom (.bool (fineE k a)):=by
 refine Vm.ve (T:=T) Tryz.func150 fun g hB hG0 hU=>?_;simp only [Tryz.f150,Vm.aC,Vm.aN,Nat.reduceAdd]
 have main:∀ k,(k=13∨k=14)→fineE k a=decide (money a):=by
  rintro k (rfl | rfl) <;> simp [fineE]
 by_cases h1:k=13
 ·subst h1;refine Vm.rn xREsc ?_
  by_cases hm:money a
  ·refine Vm.cq (ai xREsc @hm) (rmoney_v a) ?_;exact Vm.rx (Vm.cl (ai xREsc<|ai (main 13 (.inl rfl)) @hm))
  ·refine Vm.cq (ai xREsc @hm) (rmoney_v a) ?_;exact Vm.rx (Vm.cl (ai xREsc<|ai (main 13 (.inl rfl)) @hm))
 by_cases h2:k=14
 ·subst h2;refine Vm.rn xREsc ?_
  by_cases hm:money a
  ·refine Vm.cq (ai xREsc @hm) (rmoney_v a) ?_;exact Vm.rx (Vm.cl (ai xREsc<|ai (main 14 (.inr rfl)) @hm))
  ·refine Vm.cq (ai xREsc @hm) (rmoney_v a) ?_;exact Vm.rx (Vm.cl (ai xREsc<|ai (main 14 (.inr rfl)) @hm))
 by_cases h3:k=15
 ·subst h3;refine Vm.rn xREsc ?_;refine Vm.rz xREsc ?_;simp [fineE]
 ·refine Vm.rn (ai xREsc<|ai @h1<|ai @h2 @h3) ?_;refine Vm.rz xREsc ?_;simp [fineE,h1,h2,h3]
theorem told_v (n x:Int):Vm.VC T 151 [.atom (.int .i64 n),.atom (.int .i64 x)] fun d=>d=.tuple [.agg [.atom (.int .i64 5),.atom (.int .i64 n),.atom .nilSlice],.agg (dR ⟨2,x⟩),.atom (.int .i64 0)]:=by
 refine Vm.ve (T:=T) Tryz.func151 fun g hB hG0 hU=>?_;simp only [Tryz.f151,Vm.aC,Vm.aN,Nat.reduceAdd];refine Vm.rn (ai xREsc @Vm.overD.eq_1) ?_;exact Vm.rx (Vm.cl (ai xREsc @dR.eq_1))
theorem refEsc_v (s:Sta) (k a b:Int) (hl:s.l.length<1000000000):Vm.VC T 121 [.agg (dS s),.atom (.int .i64 k),.atom (.int .i64 a),.atom (.int .i64 b)] fun d=>d=dAns (appE s k a b):=by
 refine Vm.VC.dl ?_;refine Vm.ve (T:=T) Tryz.func121 fun g hB hG0 hU=>?_;simp only [Tryz.f121,Vm.aC,Vm.aN,Nat.reduceAdd];obtain ⟨t,n,l⟩:=s
 by_cases h1:t=5
 ·subst h1;refine Vm.rn (ai xREsc @dS.eq_1) ?_;refine Vm.cq (ai xREsc @dS.eq_1) (refCheck_v ⟨5,n,l⟩ hl) ?_;refine Vm.sb_dec (fun h2=>?_) (fun h2=>?_)
  ·refine Vm.rn (ai xREsc @Vm.overD.eq_1) ?_;refine Vm.rz xREsc ?_;rw [show appE ⟨5,n,l⟩ k a b=bad 12 from by simp [appE,h2]];simp [dAns,bad,z0,r0,dF,dR,Vm.dl8]
  obtain ⟨hm1,hm2⟩:=money_of (Decidable.not_not.1 h2);refine Vm.rn xREsc ?_
  by_cases h3:13≤k∧k≤15
  ·have e3:knownE k=true:=by simp [knownE,h3]
   have e4:¬ k<13:=by omega
   have e6:¬ 15<k:=by omega
   by_cases h5:b=0
   ·subst h5;refine Vm.rn (ai xREsc<|ai @e4 @e6) ?_;refine Vm.cq xREsc (rmay_v k a) ?_
    by_cases h4:fineE k a=true
    ·refine Vm.rn (ai xREsc @h4) ?_;have hc:k=13∨k=14∨k=15:=by omega
     rcases hc with rfl | rfl | rfl
     ·have hm3:money a:=by simpa [fineE] using h4
      obtain ⟨hm3,hm4⟩:=hm3
      by_cases h7:a≤4611686018427387904 - n
      ·refine Vm.rn (ai xREsc @h7) ?_;refine Vm.cq (ai xREsc<|ai @dR.eq_1 @Vm.overD.eq_1) (told_v (n+a) 1) ?_;refine Vm.rz xREsc ?_;rw [show appE ⟨5,n,l⟩ 13 a 0=⟨⟨5,n+a,[]⟩,⟨2,1⟩,0⟩ from by simp [appE,h2,h4,e3,dep,h7]];simp [dAns,bad,z0,r0,dF,dR,Vm.dl8]
      ·refine Vm.rn (ai xREsc @h7) ?_;refine Vm.cq (ai xREsc<|ai @dR.eq_1 @Vm.overD.eq_1) (told_v n 0) ?_;refine Vm.rz xREsc ?_;rw [show appE ⟨5,n,l⟩ 13 a 0=⟨⟨5,n,[]⟩,⟨2,0⟩,0⟩ from by simp [appE,h2,h4,e3,dep,h7]];simp [dAns,bad,z0,r0,dF,dR,Vm.dl8]
     ·have hm3:money a:=by simpa [fineE] using h4
      obtain ⟨hm3,hm4⟩:=hm3
      by_cases h7:a≤n
      ·refine Vm.rn (ai xREsc @h7) ?_;refine Vm.cq (ai xREsc<|ai @dR.eq_1 @Vm.overD.eq_1) (told_v (n - a) 1) ?_;refine Vm.rz xREsc ?_;rw [show appE ⟨5,n,l⟩ 14 a 0=⟨⟨5,n - a,[]⟩,⟨2,1⟩,0⟩ from by simp [appE,h2,h4,e3,wdr,h7]];simp [dAns,bad,z0,r0,dF,dR,Vm.dl8]
      ·refine Vm.rn (ai xREsc @h7) ?_;refine Vm.cq (ai xREsc<|ai @dR.eq_1 @Vm.overD.eq_1) (told_v n 0) ?_;refine Vm.rz xREsc ?_;rw [show appE ⟨5,n,l⟩ 14 a 0=⟨⟨5,n,[]⟩,⟨2,0⟩,0⟩ from by simp [appE,h2,h4,e3,wdr,h7]];simp [dAns,bad,z0,r0,dF,dR,Vm.dl8]
     ·refine Vm.rn xREsc ?_;refine Vm.cq (ai xREsc<|ai @dR.eq_1 @Vm.overD.eq_1) (told_v n n) ?_;refine Vm.rz xREsc ?_;rw [show appE ⟨5,n,l⟩ 15 a 0=⟨⟨5,n,[]⟩,⟨2,n⟩,0⟩ from by simp [appE,h2,h4,e3]];simp [dAns,bad,z0,r0,dF,dR,Vm.dl8]
    ·rw [Bool.not_eq_true] at h4;refine Vm.rn (ai xREsc<|ai @h4 @Vm.overD.eq_1) ?_;refine Vm.rz xREsc ?_;rw [show appE ⟨5,n,l⟩ k a 0=bad 2 from by simp [appE,h2,h4,e3]];simp [dAns,bad,z0,r0,dF,dR,Vm.dl8]
   ·refine Vm.rn (ai xREsc<|ai @e4<|ai @e6<|ai @h5 @Vm.overD.eq_1) ?_;refine Vm.rz xREsc ?_;rw [show appE ⟨5,n,l⟩ k a b=bad 2 from by simp [appE,h2,h5,e3]];simp [dAns,bad,z0,r0,dF,dR,Vm.dl8]
  ·have e3:knownE k=false:=by simp only [knownE,h3,decide_false]
   by_cases e4:k<13
   ·refine Vm.rn (ai xREsc<|ai @e4 @Vm.overD.eq_1) ?_;refine Vm.rz xREsc ?_;rw [show appE ⟨5,n,l⟩ k a b=bad 6 from by simp [appE,h2,e3]];simp [dAns,bad,z0,r0,dF,dR,Vm.dl8]
   ·have e6:15<k:=by omega
    refine Vm.rn (ai xREsc<|ai @e4<|ai @e6 @Vm.overD.eq_1) ?_;refine Vm.rz xREsc ?_;rw [show appE ⟨5,n,l⟩ k a b=bad 6 from by simp [appE,h2,e3]];simp [dAns,bad,z0,r0,dF,dR,Vm.dl8]
 ·refine Vm.rn (ai xREsc<|ai @dS.eq_1<|ai @h1 @Vm.overD.eq_1) ?_;refine Vm.rz xREsc ?_;rw [show appE ⟨t,n,l⟩ k a b=bad 12 from by simp [appE,h1]];simp [dAns,bad,z0,r0,dF,dR,Vm.dl8]
set_option linter.defProp false in
def xRFifo:=@Vm.dl8
noncomputable def appQ (s:Sta) (k a b:Int):Ans:=
 if s.t≠4∨checkS s≠0 then bad 12 else if k<10∨12<k then bad 6 else if b≠0∨(k≠10∧a≠0) then bad 2
 else if k=10 then ⟨⟨4,0,s.l++[a]⟩,r0,0⟩ else if k=12 then ⟨⟨4,0,s.l⟩,⟨2,s.l.length⟩,0⟩
 else if s.l=[] then ⟨⟨4,0,[]⟩,⟨1,0⟩,0⟩ else ⟨⟨4,0,s.l.drop 1⟩,⟨2,s.l.headD 0⟩,0⟩
theorem qmay_v (s:Sta) (hl:s.l.length<1000000000):Vm.VC T 181 [.agg (dS s)] fun d=>d=.atom (.bool (decide (s.t=4∧checkS s=0))):=by
 refine Vm.ve (T:=T) Tryz.func181 fun g hB hG0 hU=>?_;simp only [Tryz.f181,Vm.aC,Vm.aN,Nat.reduceAdd];obtain ⟨t,n,l⟩:=s
 by_cases h:t=4
 ·subst h;refine Vm.rn (ai xRFifo @dS.eq_1) ?_;refine Vm.cq (ai xRFifo @dS.eq_1) (check_v ⟨4,n,l⟩ hl) ?_;exact Vm.rx (Vm.cl xRFifo)
 ·refine Vm.rn (ai xRFifo<|ai @dS.eq_1 @h) ?_;exact Vm.rx (Vm.cl (ai xRFifo @h))
theorem fifo_v (s:Sta) (k a b:Int) (hl:s.l.length<1000000000):Vm.VC T 163 [.agg (dS s),.atom (.int .i64 k),.atom (.int .i64 a),.atom (.int .i64 b)] fun d=>d=dAns (appQ s k a b):=by
 refine Vm.VC.dl ?_;refine Vm.ve (T:=T) Tryz.func163 fun g hB hG0 hU=>?_;simp only [Tryz.f163,Vm.aC,Vm.aN,Nat.reduceAdd];refine Vm.rn (ai xRFifo @dS.eq_1) ?_;refine Vm.cq (ai xRFifo @dS.eq_1) (qmay_v s hl) ?_;obtain ⟨t,n,l⟩:=s;dsimp only at hl;refine Vm.sb_dec (fun h1=>?_) (fun h1=>?_)
 ·refine Vm.rn (ai xRFifo @Vm.overD.eq_1) ?_;refine Vm.rz xRFifo ?_;rw [show appQ ⟨t,n,l⟩ k a b=bad 12 from by simp [appQ,Decidable.not_and_iff_or_not.1 h1]];simp [dAns,bad,z0,r0,dF,dR,Vm.dl8]
 obtain ⟨rfl,h2⟩:=Decidable.not_not.1 h1
 by_cases h3:k<10
 ·refine Vm.rn (ai xRFifo<|ai @h3 @Vm.overD.eq_1) ?_;refine Vm.rz xRFifo ?_;rw [show appQ ⟨4,n,l⟩ k a b=bad 6 from by simp [appQ,h2,h3]];simp [dAns,bad,z0,r0,dF,dR,Vm.dl8]
 by_cases h4:12<k
 ·refine Vm.rn (ai xRFifo<|ai @h3<|ai @h4 @Vm.overD.eq_1) ?_;refine Vm.rz xRFifo ?_;rw [show appQ ⟨4,n,l⟩ k a b=bad 6 from by simp [appQ,h2,h3,h4]];simp [dAns,bad,z0,r0,dF,dR,Vm.dl8]
 by_cases h5:b=0
 ·subst h5
  by_cases h6:k=10
  ·subst h6;refine Vm.rn xRFifo ?_;refine Vm.vw (T:=T) Tryz.func182 fun _ hGi hUi=>?_;simp only [Tryz.f182,Vm.aC,Vm.aN,Nat.reduceAdd];refine Vm.rn (ai xRFifo @dS.eq_1) ?_;refine Vm.cq xRFifo (cloneI_v (es:=l.map dI) (by simpa using hl)) ?_;refine Vm.rm (Vm.s1 xRFifo ?_);refine Vm.rn xRFifo ?_;refine Vm.vw (T:=T) Tryz.func183 fun _ hGi hUi=>?_;simp only [Tryz.f183,Vm.aC,Vm.aN,Nat.reduceAdd];refine Vm.rn xRFifo ?_;refine Vm.rm (Vm.s1 xRFifo ?_);refine Vm.rn xRFifo ?_;refine Vm.fy 6 (ai xRFifo @fz_I) ?_;refine Vm.dv 10 [0,1,2,3,4,5,7,6,8,9] [0,1,3,7,15,31,0,63,255,511] ?_;refine Vm.rt (ai xRFifo @Vm.overD.eq_1) ?_;refine Vm.rz xRFifo ?_;rw [show appQ ⟨4,n,l⟩ 10 a 0=⟨⟨4,0,l++[a]⟩,r0,0⟩ from by simp [appQ,h2]];simp [dAns,bad,z0,r0,dF,dR,Vm.dl8]
   rfl
  by_cases h7:a=0
  ·subst h7
   by_cases h8:k=12
   ·subst h8;refine Vm.rn xRFifo ?_;refine Vm.vw (T:=T) Tryz.func182 fun _ hGi hUi=>?_;simp only [Tryz.f182,Vm.aC,Vm.aN,Nat.reduceAdd];refine Vm.rn (ai xRFifo @dS.eq_1) ?_;refine Vm.cq xRFifo (cloneI_v (es:=l.map dI) (by simpa using hl)) ?_;refine Vm.rm (Vm.s1 xRFifo ?_);refine Vm.rn (ai xRFifo @Vm.overD.eq_1) ?_;refine Vm.fy 6 (ai xRFifo @fz_I) ?_;refine Vm.dv 10 [0,1,2,3,4,5,7,6,8,9] [0,1,3,7,15,31,0,63,255,511] ?_;refine Vm.rt (ai xRFifo @Vm.overD.eq_1) ?_;refine Vm.rz xRFifo ?_;rw [show appQ ⟨4,n,l⟩ 12 0 0=⟨⟨4,0,l⟩,⟨2,l.length⟩,0⟩ from by simp [appQ,h2]];simp [dAns,bad,z0,r0,dF,dR,Vm.dl8]
   ·have h9:k=11:=by omega
    subst h9;refine Vm.rn xRFifo ?_;refine Vm.vw (T:=T) Tryz.func182 fun _ hGi hUi=>?_;simp only [Tryz.f182,Vm.aC,Vm.aN,Nat.reduceAdd];refine Vm.rn (ai xRFifo @dS.eq_1) ?_;refine Vm.cq xRFifo (cloneI_v (es:=l.map dI) (by simpa using hl)) ?_;refine Vm.rm (Vm.s1 xRFifo ?_);refine Vm.rn (ai xRFifo @Vm.overD.eq_1) ?_;refine Vm.vw (T:=T) Tryz.func184 fun _ hGi hUi=>?_;simp only [Tryz.f184,Vm.aC,Vm.aN,Nat.reduceAdd];refine Vm.rn (ai xRFifo @len0) ?_;refine Vm.sb_dec (fun h10=>?_) (fun h10=>?_)
    ·subst h10;refine Vm.rn xRFifo ?_;refine Vm.rm (Vm.s1 xRFifo ?_);refine Vm.rn xRFifo ?_;refine Vm.fy 6 (ai xRFifo @fz_I) ?_;refine Vm.dv 10 [0,1,2,3,4,5,7,6,8,9] [0,1,3,7,15,31,0,63,255,511] ?_;refine Vm.rt (ai xRFifo @Vm.overD.eq_1) ?_;refine Vm.rz xRFifo ?_;rw [show appQ ⟨4,n,[]⟩ 11 0 0=⟨⟨4,0,[]⟩,⟨1,0⟩,0⟩ from by simp [appQ,h2]];simp [dAns,bad,z0,r0,dF,dR,Vm.dl8]
    ·obtain ⟨x,l,rfl⟩:=List.exists_cons_of_ne_nil h10;refine Vm.rn xRFifo ?_;have e:(l.map dI).take l.length=l.map dI:=List.take_of_length_le (by simp);refine Vm.dw 16 [0,1,2,3,4,5,6,7,8,9,10,11,12,13,14,15] ?_;refine Vm.rn (ai xRFifo<|ai @dI.eq_1<|ai @Vm.overD.eq_1<|ai @Nat.add_sub_cancel @e) ?_;refine Vm.rn xRFifo ?_;refine Vm.rm (Vm.s1 xRFifo ?_);refine Vm.rn (ai xRFifo @Vm.overD.eq_1) ?_;refine Vm.fy 6 (ai xRFifo @fz_I) ?_;refine Vm.dv 10 [0,1,2,3,4,5,7,6,8,9] [0,1,3,7,15,31,0,63,255,511] ?_;refine Vm.rt (ai xRFifo @Vm.overD.eq_1) ?_;refine Vm.rz xRFifo ?_;rw [show appQ ⟨4,n,x::l⟩ 11 0 0=⟨⟨4,0,l⟩,⟨2,x⟩,0⟩ from by simp [appQ,h2]];simp [dAns,bad,z0,r0,dF,dR,Vm.dl8]
  ·refine Vm.rn (ai xRFifo<|ai @h3<|ai @h4<|ai @h6<|ai @h7 @Vm.overD.eq_1) ?_;refine Vm.rz xRFifo ?_;rw [show appQ ⟨4,n,l⟩ k a 0=bad 2 from by simp [appQ,h2,h3,h4,h6,h7]];simp [dAns,bad,z0,r0,dF,dR,Vm.dl8]
 ·refine Vm.rn (ai xRFifo<|ai @h3<|ai @h4<|ai @h5 @Vm.overD.eq_1) ?_;refine Vm.rz xRFifo ?_;rw [show appQ ⟨4,n,l⟩ k a b=bad 2 from by simp [appQ,h2,h3,h4,h5]];simp [dAns,bad,z0,r0,dF,dR,Vm.dl8]
theorem refFifo_v (s:Sta) (k a b:Int) (hl:s.l.length<1000000000):Vm.VC T 120 [.agg (dS s),.atom (.int .i64 k),.atom (.int .i64 a),.atom (.int .i64 b)] fun d=>d=dAns (appQ s k a b):=by
 refine Vm.VC.dl ?_;refine Vm.ve (T:=T) Tryz.func120 fun g hB hG0 hU=>?_;simp only [Tryz.f120,Vm.aC,Vm.aN,Nat.reduceAdd];obtain ⟨t,n,l⟩:=s;dsimp only at hl
 by_cases h1:t=4
 ·subst h1;refine Vm.rn (ai xRFifo @dS.eq_1) ?_;refine Vm.cq (ai xRFifo @dS.eq_1) (refCheck_v ⟨4,n,l⟩ hl) ?_;refine Vm.sb_dec (fun h2=>?_) (fun h2=>?_)
  ·refine Vm.rn (ai xRFifo @Vm.overD.eq_1) ?_;refine Vm.rz xRFifo ?_;rw [show appQ ⟨4,n,l⟩ k a b=bad 12 from by simp [appQ,h2]];simp [dAns,bad,z0,r0,dF,dR,Vm.dl8]
  by_cases h3:k<10
  ·refine Vm.rn (ai xRFifo<|ai @h3 @Vm.overD.eq_1) ?_;refine Vm.rz xRFifo ?_;rw [show appQ ⟨4,n,l⟩ k a b=bad 6 from by simp [appQ,h2,h3]];simp [dAns,bad,z0,r0,dF,dR,Vm.dl8]
  by_cases h4:12<k
  ·refine Vm.rn (ai xRFifo<|ai @h3<|ai @h4 @Vm.overD.eq_1) ?_;refine Vm.rz xRFifo ?_;rw [show appQ ⟨4,n,l⟩ k a b=bad 6 from by simp [appQ,h2,h3,h4]];simp [dAns,bad,z0,r0,dF,dR,Vm.dl8]
  by_cases h5:b=0
  ·subst h5
   by_cases h6:k=10
   ·subst h6;refine Vm.rn (ai xRFifo @Vm.overD.eq_1) ?_;refine Vm.rz xRFifo ?_;rw [show appQ ⟨4,n,l⟩ 10 a 0=⟨⟨4,0,l++[a]⟩,r0,0⟩ from by simp [appQ,h2]];simp [dAns,bad,z0,r0,dF,dR,Vm.dl8]
    rfl
   by_cases h7:a=0
   ·subst h7
    by_cases h8:k=12
    ·subst h8;refine Vm.rn (ai xRFifo @Vm.overD.eq_1) ?_;refine Vm.fy 0 (ai xRFifo @fz_I) ?_;refine Vm.dv 8 [0,5,1,2,3,4,6,7] [0,0,2,6,14,1,63,127] ?_;refine Vm.rt (ai xRFifo @Vm.overD.eq_1) ?_;refine Vm.rz xRFifo ?_;rw [show appQ ⟨4,n,l⟩ 12 0 0=⟨⟨4,0,l⟩,⟨2,l.length⟩,0⟩ from by simp [appQ,h2]];simp [dAns,bad,z0,r0,dF,dR,Vm.dl8]
    ·have h9:k=11:=by omega
     subst h9;refine Vm.rn (ai xRFifo<|ai @len0 @Vm.overD.eq_1) ?_;refine Vm.sb_dec (fun h10=>?_) (fun h10=>?_)
     ·subst h10;refine Vm.rn (ai xRFifo @Vm.overD.eq_1) ?_;refine Vm.rz xRFifo ?_;rw [show appQ ⟨4,n,[]⟩ 11 0 0=⟨⟨4,0,[]⟩,⟨1,0⟩,0⟩ from by simp [appQ,h2]];simp [dAns,bad,z0,r0,dF,dR,Vm.dl8]
     ·obtain ⟨x,l,rfl⟩:=List.exists_cons_of_ne_nil h10;have e:(l.map dI).take l.length=l.map dI:=List.take_of_length_le (by simp);refine Vm.rn (ai xRFifo<|ai @dI.eq_1<|ai @Vm.overD.eq_1<|ai @Nat.add_sub_cancel @e) ?_;refine Vm.fy 0 (ai xRFifo @fz_I) ?_;refine Vm.dv 9 [0,6,1,2,3,4,5,7,8] [0,0,2,6,14,30,1,127,255] ?_;refine Vm.rt (ai xRFifo<|ai @dI.eq_1 @Vm.overD.eq_1) ?_;refine Vm.rz xRFifo ?_;rw [show appQ ⟨4,n,x::l⟩ 11 0 0=⟨⟨4,0,l⟩,⟨2,x⟩,0⟩ from by simp [appQ,h2]];simp [dAns,bad,z0,r0,dF,dR,Vm.dl8]
   ·refine Vm.rn (ai xRFifo<|ai @h3<|ai @h4<|ai @h6<|ai @h7 @Vm.overD.eq_1) ?_;refine Vm.rz xRFifo ?_;rw [show appQ ⟨4,n,l⟩ k a 0=bad 2 from by simp [appQ,h2,h3,h4,h6,h7]];simp [dAns,bad,z0,r0,dF,dR,Vm.dl8]
  ·refine Vm.rn (ai xRFifo<|ai @h3<|ai @h4<|ai @h5 @Vm.overD.eq_1) ?_;refine Vm.rz xRFifo ?_;rw [show appQ ⟨4,n,l⟩ k a b=bad 2 from by simp [appQ,h2,h3,h4,h5]];simp [dAns,bad,z0,r0,dF,dR,Vm.dl8]
 ·refine Vm.rn (ai xRFifo<|ai @dS.eq_1<|ai @h1 @Vm.overD.eq_1) ?_;refine Vm.rz xRFifo ?_;rw [show appQ ⟨t,n,l⟩ k a b=bad 12 from by simp [appQ,h1]];simp [dAns,bad,z0,r0,dF,dR,Vm.dl8]
end Go.Proofs.YtphjohoipocpnaaGreat.W
