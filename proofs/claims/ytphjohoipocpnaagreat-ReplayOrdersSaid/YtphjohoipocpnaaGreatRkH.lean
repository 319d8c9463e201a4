import Derived.Test.YtphjohoipocpnaaGreatVmD
import Derived.Test.YtphjohoipocpnaaGreatRkB
import Derived.Test.YtphjohoipocpnaaGreatRkF
set_option linter.unusedSimpArgs false
set_option linter.unusedVariables false
set_option maxRecDepth 20000
/- Names and operations that may be, both answers. No conditions. -/
namespace Go.Proofs.YtphjohoipocpnaaGreat.W
open Go.Am
set_option linter.defProp false in
def xROpn:=ai @nlR_dI @Vm.dl8
/-! ### Names -/
def partB (n:Int):Bool:=decide ((97≤n∧n≤122)∨(48≤n∧n≤57)∨n=95)
theorem part_v (n:Int):Vm.VC T 101 [.atom (.int .u8 n)] fun d=>d=.atom (.bool (partB n)):=by
 refine Vm.ve (T:=T) Tryz.func101 fun g hB hG0 hU=>?_;simp only [Tryz.f101,Vm.aC,Vm.aN,Nat.reduceAdd]
 by_cases h1:97≤n
 ·by_cases h2:n≤122
  ·refine Vm.rn (ai xROpn<|ai @h1 @h2) ?_;refine Vm.rz xROpn ?_;simp [partB,h1,h2]
  ·have h3:48≤n:=by omega
   have h4:¬ n≤57:=by omega
   have h5:¬ n=95:=by omega
   refine Vm.rn (ai xROpn<|ai @h1<|ai @h2<|ai @h3<|ai @h4 @h5) ?_;refine Vm.rz xROpn ?_;simp [partB,h2,h4,h5]
 ·by_cases h3:48≤n
  ·by_cases h4:n≤57
   ·refine Vm.rn (ai xROpn<|ai @h1<|ai @h3 @h4) ?_;refine Vm.rz xROpn ?_;simp [partB,h3,h4]
   ·refine Vm.rn (ai xROpn<|ai @h1<|ai @h3 @h4) ?_;refine Vm.rz xROpn ?_;simp [partB,h1,h4]
  ·refine Vm.rn (ai xROpn<|ai @h1 @h3) ?_;refine Vm.rz xROpn ?_;simp [partB,h1,h3]
def nameE (s:List UInt8):Int:=if s=[]∨32<(s.length:Int)∨((s.headD 0).toNat:Int)<97∨(122:Int)<(s.headD 0).toNat∨(s.all fun b=>partB b.toNat)=false then 7 else 0
theorem all_v (s:List UInt8) (hl:s.length<1000000000):Vm.VC T 100 [.atom (.str s),.atom (.func (.func 101) [] [])] fun d=>d=.atom (.bool (s.all fun b=>partB b.toNat)):=by
 refine Vm.ve (T:=T) Tryz.func100 fun g hB hG0 hU=>?_;simp only [Tryz.f100,Vm.aC,Vm.aN,Nat.reduceAdd];refine Vm.rn xROpn ?_;refine Vm.sk_loop (fun i:Nat=>s.length - i) (fun i=>⟨[(8,.atom (.int .i64 i)),(7,.atom (.int .i64 s.length)),(0,.atom (.str s)),(1,.atom (.func (.func 101) [] []))],[],18⟩) (fun i=>i≤s.length∧((s.take i).all fun b=>partB b.toNat)=true) 0 ?_ ⟨Nat.zero_le _,rfl⟩ ?_
 ·exact Vm.lx (Vm.cl xROpn)
 rintro i ⟨hi,ha⟩ ih;refine Vm.rn xROpn ?_;refine Vm.sb_dec (fun hlt=>?_) (fun hge=>?_)
 ·have h1:i<s.length:=by omega
  have hx:=List.getElem?_eq_getElem h1;have ht:s.take (i+1)=s.take i++[s[i]]:=by rw [List.take_add_one,hx];rfl
  generalize s[i]=b at hx ht;refine Vm.rn (ai xROpn @hx) ?_;refine Vm.cq xROpn (part_v b.toNat) ?_
  cases hp:partB b.toNat with
  | true =>
    refine Vm.rn xROpn ?_;refine ih (i+1) _ (by dsimp only;omega) ⟨by omega,by rw [ht,List.all_append,ha];simp [hp]⟩ ?_;exact Vm.lx (Vm.cl xROpn)
  | false =>
    refine Vm.rn xROpn ?_;refine Vm.rz xROpn ?_;have:(s.all fun b=>partB b.toNat)=false:=List.all_eq_false.2 ⟨b,List.mem_of_getElem? hx,by simp [hp]⟩;rw [this]
 ·have:i=s.length:=by omega
  subst this;rw [List.take_length] at ha;refine Vm.rn xROpn ?_;exact Vm.rx (Vm.cl (ai xROpn @ha))
theorem ncheck_v (s:List UInt8):Vm.VC T 73 [.atom (.str s)] fun d=>d=.atom (.int .i64 (nameE s)):=by
 refine Vm.ve (T:=T) Tryz.func73 fun g hB hG0 hU=>?_;simp only [Tryz.f73,Vm.aC,Vm.aN,Nat.reduceAdd]
 by_cases h0:s=[]
 ·refine Vm.rn (ai xROpn @h0) ?_;refine Vm.rz xROpn ?_;rw [nameE,if_pos (.inl rfl)]
 by_cases h1:32<(s.length:Int)
 ·refine Vm.rn (ai xROpn<|ai @h0 @h1) ?_;refine Vm.rz xROpn ?_;rw [nameE,if_pos (.inr (.inl h1))]
 have hc:s[0]?=some (s.headD 0):=by cases s with
  | nil=>exact absurd rfl h0
  | cons c r=>rfl
 by_cases h2:((s.headD 0).toNat:Int)<97
 ·refine Vm.rn (ai xROpn<|ai @h0<|ai @h1<|ai @hc @h2) ?_;refine Vm.rz xROpn ?_;rw [nameE,if_pos (.inr (.inr (.inl h2)))]
 by_cases h3:(122:Int)<(s.headD 0).toNat
 ·refine Vm.rn (ai xROpn<|ai @h0<|ai @h1<|ai @hc<|ai @h2 @h3) ?_;refine Vm.rz xROpn ?_;rw [nameE,if_pos (.inr (.inr (.inr (.inl h3))))]
 refine Vm.rn (ai xROpn<|ai @h0<|ai @h1<|ai @hc<|ai @h2 @h3) ?_;refine Vm.cq xROpn (all_v s (by omega)) ?_
 cases h4:s.all fun b=>partB b.toNat with
 | true =>
   refine Vm.rn xROpn ?_;refine Vm.rz xROpn ?_;rw [nameE,if_neg];simp only [not_or];exact ⟨h0,h1,h2,h3,by simp [h4]⟩
 | false =>
   refine Vm.rn xROpn ?_;refine Vm.rz xROpn ?_;rw [nameE,if_pos (.inr (.inr (.inr (.inr h4))))]
theorem rncheck_v (s:List UInt8):Vm.VC T 84 [.atom (.str s)] fun d=>d=.atom (.int .i64 (nameE s)):=by
 refine Vm.ve (T:=T) Tryz.func84 fun g hB hG0 hU=>?_;simp only [Tryz.f84,Vm.aC,Vm.aN,Nat.reduceAdd]
 by_cases h0:s=[]
 ·refine Vm.rn (ai xROpn @h0) ?_;refine Vm.rz xROpn ?_;rw [nameE,if_pos (.inl rfl)]
 have hp:¬ (s.length:Int)<1:=by
  have:=List.length_pos_iff.2 h0;omega
 by_cases h1:32<(s.length:Int)
 ·refine Vm.rn (ai xROpn<|ai @hp @h1) ?_;refine Vm.rz xROpn ?_;rw [nameE,if_pos (.inr (.inl h1))]
 have hc:s[0]?=some (s.headD 0):=by cases s with
  | nil=>exact absurd rfl h0
  | cons c r=>rfl
 by_cases h2:((s.headD 0).toNat:Int)<97
 ·refine Vm.rn (ai xROpn<|ai @hp<|ai @h1<|ai @hc @h2) ?_;refine Vm.rz xROpn ?_;rw [nameE,if_pos (.inr (.inr (.inl h2)))]
 by_cases h3:(122:Int)<(s.headD 0).toNat
 ·refine Vm.rn (ai xROpn<|ai @hp<|ai @h1<|ai @hc<|ai @h2 @h3) ?_;refine Vm.rz xROpn ?_;rw [nameE,if_pos (.inr (.inr (.inr (.inl h3))))]
 refine Vm.rn (ai xROpn<|ai @hp<|ai @h1<|ai @hc<|ai @h2 @h3) ?_;refine Vm.sk_loop (fun i:Nat=>s.length - i) (fun i=>⟨[(3,.atom (.int .i64 i)),(0,.atom (.str s))],[],51⟩) (fun i=>i≤s.length∧((s.take i).all fun b=>partB b.toNat)=true) 0 ?_ ⟨Nat.zero_le _,rfl⟩ ?_
 ·exact Vm.lx (Vm.cl xROpn)
 rintro i ⟨hi,ha⟩ ih;refine Vm.rn xROpn ?_;refine Vm.sb_dec (fun hlt=>?_) (fun hge=>?_)
 ·have g1:i<s.length:=by omega
  have hx:=List.getElem?_eq_getElem g1;have ht:s.take (i+1)=s.take i++[s[i]]:=by rw [List.take_add_one,hx];rfl
  generalize s[i]=b at hx ht;have yes:partB b.toNat=true→i+1≤s.length∧((s.take (i+1)).all fun b=>partB b.toNat)=true:=fun hb=>⟨by omega,by rw [ht,List.all_append,ha];simp [hb]⟩
  have no:partB b.toNat=false→nameE s=7:=fun hb=>by
   rw [nameE,if_pos (.inr (.inr (.inr (.inr (List.all_eq_false.2 ⟨b,List.mem_of_getElem? hx,by simp [hb]⟩)))))]
  have hpb:∀ n:Int,partB n=decide ((97≤n∧n≤122)∨(48≤n∧n≤57)∨n=95):=fun n=>rfl;rw [hpb] at yes no;generalize hn:(b.toNat:Int)=n at yes no;have go:((97≤n∧n≤122)∨(48≤n∧n≤57)∨n=95)→i+1≤s.length∧((s.take (i+1)).all fun b=>partB b.toNat)=true:=fun h=>yes (by simp [h]);have stop:¬ ((97≤n∧n≤122)∨(48≤n∧n≤57)∨n=95)→nameE s=7:=fun h=>no (by simp [h])
  by_cases k1:97≤n
  ·by_cases k2:n≤122
   ·refine Vm.rn (ai xROpn<|ai @hx<|ai @hn<|ai @k1 @k2) ?_;refine ih (i+1) _ (by dsimp only;omega) (go (.inl ⟨k1,k2⟩)) ?_;exact Vm.lx (Vm.cl xROpn)
   ·have k3:48≤n:=by omega
    have k4:¬ n≤57:=by omega
    have k5:¬ n=95:=by omega
    refine Vm.rn (ai xROpn<|ai @hx<|ai @hn<|ai @k1<|ai @k2<|ai @k3<|ai @k4 @k5) ?_;refine Vm.rz xROpn ?_;rw [stop (by omega)]
  ·by_cases k3:48≤n
   ·by_cases k4:n≤57
    ·refine Vm.rn (ai xROpn<|ai @hx<|ai @hn<|ai @k1<|ai @k3 @k4) ?_;refine ih (i+1) _ (by dsimp only;omega) (go (.inr (.inl ⟨k3,k4⟩))) ?_;exact Vm.lx (Vm.cl xROpn)
    ·by_cases k5:n=95
     ·refine Vm.rn (ai xROpn<|ai @hx<|ai @hn<|ai @k1<|ai @k3<|ai @k4 @k5) ?_;refine ih (i+1) _ (by dsimp only;omega) (go (.inr (.inr k5))) ?_;exact Vm.lx (Vm.cl xROpn)
     ·refine Vm.rn (ai xROpn<|ai @hx<|ai @hn<|ai @k1<|ai @k3<|ai @k4 @k5) ?_;refine Vm.rz xROpn ?_;rw [stop (by omega)]
   ·have k5:¬ n=95:=by omega
    refine Vm.rn (ai xROpn<|ai @hx<|ai @hn<|ai @k1<|ai @k3 @k5) ?_;refine Vm.rz xROpn ?_;rw [stop (by omega)]
 ·have:i=s.length:=by omega
  subst this;rw [List.take_length] at ha;refine Vm.rn xROpn ?_;refine Vm.rz xROpn ?_;rw [nameE,if_neg];simp only [not_or];exact ⟨h0,h1,h2,h3,by simp [ha]⟩
set_option linter.defProp false in
def xROpn2:=@nlR_dI
inductive RK where
 | no | any | truth | above | money
 deriving DecidableEq
def RK.fid:RK→FuncId
 | .no=>189
 | .any=>188
 | .truth=>191
 | .above=>192
 | .money=>195
def RK.holds:RK→Int→Bool
 | .no,_=>false
 | .any,_=>true
 | .truth,n=>decide (n=0∨n=1)
 | .above,n=>decide (0≤n∧n≤4611686018427387904)
 | .money,n=>decide (0≤n∧n≤4611686018427387904)
theorem rk_v (r:RK) (n:Int):Vm.VC T r.fid [.atom (.int .i64 n)] fun d=>d=.atom (.bool (r.holds n)):=by
 cases r with
 | no =>
   show Vm.VC T 189 _ _;refine Vm.ve (T:=T) Tryz.func189 fun g hB hG0 hU=>?_;simp only [Tryz.f189,Vm.aC,Vm.aN,Nat.reduceAdd];refine Vm.rn xROpn2 ?_;exact Vm.rx (Vm.cl (ai xROpn2<|ai @RK.holds.eq_1<|ai @RK.holds.eq_2<|ai @RK.holds.eq_3<|ai @RK.holds.eq_4 @RK.holds.eq_5))
 | any =>
   show Vm.VC T 188 _ _;refine Vm.ve (T:=T) Tryz.func188 fun g hB hG0 hU=>?_;simp only [Tryz.f188,Vm.aC,Vm.aN,Nat.reduceAdd];refine Vm.rn xROpn2 ?_;exact Vm.rx (Vm.cl (ai xROpn2<|ai @RK.holds.eq_1<|ai @RK.holds.eq_2<|ai @RK.holds.eq_3<|ai @RK.holds.eq_4 @RK.holds.eq_5))
 | truth =>
   show Vm.VC T 191 _ _;refine Vm.ve (T:=T) Tryz.func191 fun g hB hG0 hU=>?_;simp only [Tryz.f191,Vm.aC,Vm.aN,Nat.reduceAdd]
   by_cases h:n=0
   ·refine Vm.rn (ai xROpn2 @h) ?_;refine Vm.rz xROpn2 ?_;simp [RK.holds,h]
   ·refine Vm.rn (ai xROpn2 @h) ?_;refine Vm.rz xROpn2 ?_;simp [RK.holds,h]
 | above =>
   show Vm.VC T 192 _ _;refine Vm.ve (T:=T) Tryz.func192 fun g hB hG0 hU=>?_;simp only [Tryz.f192,Vm.aC,Vm.aN,Nat.reduceAdd]
   by_cases h:0≤n
   ·refine Vm.rn (ai xROpn2 @h) ?_;refine Vm.rz xROpn2 ?_;simp [RK.holds,h]
   ·refine Vm.rn (ai xROpn2 @h) ?_;refine Vm.rz xROpn2 ?_;simp [RK.holds,h]
 | money =>
   show Vm.VC T 195 _ _;refine Vm.ve (T:=T) Tryz.func195 fun g hB hG0 hU=>?_;simp only [Tryz.f195,Vm.aC,Vm.aN,Nat.reduceAdd]
   by_cases h:0≤n
   ·refine Vm.rn (ai xROpn2 @h) ?_;refine Vm.rz xROpn2 ?_;simp [RK.holds,h]
   ·refine Vm.rn (ai xROpn2 @h) ?_;refine Vm.rz xROpn2 ?_;simp [RK.holds,h]
structure Knd where
 n:Int
 typ:Int
 word:List UInt8
 args:Int
 ret:RK
 arg:RK
 done:Bool
 none:Bool
def dK (k:Knd):List Vm.D:=[.atom (.int .i64 k.n),.atom (.int .i64 k.typ),.atom (.str k.word),.atom (.int .i64 k.args),.atom (.func (.func k.ret.fid) [] []),.atom (.func (.func k.arg.fid) [] []),.atom (.bool k.done),.atom (.bool k.none)]
def pk (n t:Int) (w:List UInt8) (a:Int) (r:RK):Knd:=⟨n,t,w,a,r,.any,false,false⟩
def kindsO:List Knd:=[{ pk 1 1 [97,100,100] 1 .no with done:=true },pk 2 1 [114,101,97,100] 0 .any,pk 3 2 [105,110,115,101,114,116] 1 .truth,pk 4 2 [114,101,109,111,118,101] 1 .truth,pk 5 2 [104,97,115] 1 .truth,pk 6 2 [115,105,122,101] 0 .above,
 { pk 7 3 [112,117,116] 2 .any with none:=true },{ pk 8 3 [103,101,116] 1 .any with none:=true },{ pk 9 3 [100,101,108] 1 .any with none:=true },{ pk 10 4 [101,110,113] 1 .no with done:=true },{ pk 11 4 [100,101,113] 0 .any with none:=true },pk 12 4 [108,101,110] 0 .above,
 { pk 13 5 [100,101,112,111,115,105,116] 1 .truth with arg:=.money },{ pk 14 5 [119,105,116,104,100,114,97,119] 1 .truth with arg:=.money },pk 15 5 [98,97,108,97,110,99,101] 0 .money]
theorem plain_v (n t:Int) (w:List UInt8) (a:Int) (r:RK):Vm.VC T 187 [.atom (.int .i64 n),.atom (.int .i64 t),.atom (.str w),.atom (.int .i64 a),.atom (.func (.func r.fid) [] [])] fun d=>d=.agg (dK (pk n t w a r)):=by
 refine Vm.ve (T:=T) Tryz.func187 fun g hB hG0 hU=>?_;simp only [Tryz.f187,Vm.aC,Vm.aN,Nat.reduceAdd];refine Vm.rn (ai xROpn2 @Vm.overD.eq_1) ?_;exact Vm.rx (Vm.cl (ai xROpn2<|ai @dK.eq_1<|ai @pk.eq_1<|ai @RK.fid.eq_1<|ai @RK.fid.eq_2<|ai @RK.fid.eq_3<|ai @RK.fid.eq_4 @RK.fid.eq_5))
theorem just_v (k:Knd):Vm.VC T 190 [.agg (dK k)] fun d=>d=.agg (dK { k with done:=true }):=by
 refine Vm.ve (T:=T) Tryz.func190 fun g hB hG0 hU=>?_;simp only [Tryz.f190,Vm.aC,Vm.aN,Nat.reduceAdd];refine Vm.rn (ai xROpn2<|ai @Vm.overD.eq_1 @dK.eq_1) ?_;exact Vm.rx (Vm.cl (ai xROpn2 @dK.eq_1))
theorem maybe_v (k:Knd):Vm.VC T 193 [.agg (dK k)] fun d=>d=.agg (dK { k with none:=true }):=by
 refine Vm.ve (T:=T) Tryz.func193 fun g hB hG0 hU=>?_;simp only [Tryz.f193,Vm.aC,Vm.aN,Nat.reduceAdd];refine Vm.rn (ai xROpn2<|ai @Vm.overD.eq_1 @dK.eq_1) ?_;exact Vm.rx (Vm.cl (ai xROpn2 @dK.eq_1))
theorem of_v (k:Knd) (r:RK):Vm.VC T 194 [.agg (dK k),.atom (.func (.func r.fid) [] [])] fun d=>d=.agg (dK { k with arg:=r }):=by
 refine Vm.ve (T:=T) Tryz.func194 fun g hB hG0 hU=>?_;simp only [Tryz.f194,Vm.aC,Vm.aN,Nat.reduceAdd];refine Vm.rn (ai xROpn2<|ai @Vm.overD.eq_1 @dK.eq_1) ?_;exact Vm.rx (Vm.cl (ai xROpn2 @dK.eq_1))
theorem lit_r15 (x:List Vm.D):List.replicate 15 x=[x,x,x,x,x,x,x,x,x,x,x,x,x,x,x]:=rfl
theorem lit_815 (a0 a1 a2 a3 a4 a5 a6 a7 a8 a9 a10 a11 a12 a13 a14 a15 a16 a17 a18 a19 a20 a21 a22 a23 a24 a25 a26 a27 a28 a29 a30 a31 a32 a33 a34 a35 a36 a37 a38 a39 a40 a41 a42 a43 a44 a45 a46 a47 a48 a49 a50 a51 a52 a53 a54 a55 a56 a57 a58 a59 a60 a61 a62 a63 a64 a65 a66 a67 a68 a69 a70 a71 a72 a73 a74 a75 a76 a77 a78 a79 a80 a81 a82 a83 a84 a85 a86 a87 a88 a89 a90 a91 a92 a93 a94 a95 a96 a97 a98 a99 a100 a101 a102 a103 a104 a105 a106 a107 a108 a109 a110 a111 a112 a113 a114 a115 a116 a117 a118 a119:Vm.D):Vm.rowsOf 8 15 [a0,a1,a2,a3,a4,a5,a6,a7,a8,a9,a10,a11,a12,a13,a14,a15,a16,a17,a18,a19,a20,a21,a22,a23,a24,a25,a26,a27,a28,a29,a30,a31,a32,a33,a34,a35,a36,a37,a38,a39,a40,a41,a42,a43,a44,a45,a46,a47,a48,a49,a50,a51,a52,a53,a54,a55,a56,a57,a58,a59,a60,a61,a62,a63,a64,a65,a66,a67,a68,a69,a70,a71,a72,a73,a74,a75,a76,a77,a78,a79,a80,a81,a82,a83,a84,a85,a86,a87,a88,a89,a90,a91,a92,a93,a94,a95,a96,a97,a98,a99,a100,a101,a102,a103,a104,a105,a106,a107,a108,a109,a110,a111,a112,a113,a114,a115,a116,a117,a118,a119]=[[a0,a1,a2,a3,a4,a5,a6,a7],[a8,a9,a10,a11,a12,a13,a14,a15],[a16,a17,a18,a19,a20,a21,a22,a23],[a24,a25,a26,a27,a28,a29,a30,a31],[a32,a33,a34,a35,a36,a37,a38,a39],[a40,a41,a42,a43,a44,a45,a46,a47],[a48,a49,a50,a51,a52,a53,a54,a55],[a56,a57,a58,a59,a60,a61,a62,a63],[a64,a65,a66,a67,a68,a69,a70,a71],[a72,a73,a74,a75,a76,a77,a78,a79],[a80,a81,a82,a83,a84,a85,a86,a87],[a88,a89,a90,a91,a92,a93,a94,a95],[a96,a97,a98,a99,a100,a101,a102,a103],[a104,a105,a106,a107,a108,a109,a110,a111],[a112,a113,a114,a115,a116,a117,a118,a119]]:=rfl
theorem okinds_v:Vm.VC T 168 [] fun d=>d=.fresh 8 (kindsO.map dK):=by
 refine Vm.ve (T:=T) Tryz.func168 fun g hB hG0 hU=>?_;simp only [Tryz.f168,Vm.aC,Vm.aN,Nat.reduceAdd];refine Vm.rn xROpn2 ?_;refine Vm.cq (ai xROpn2<|ai @RK.fid.eq_1<|ai @RK.fid.eq_2<|ai @RK.fid.eq_3<|ai @RK.fid.eq_4<|ai @RK.fid.eq_5<|ai @dK.eq_1 @pk.eq_1) (plain_v 1 1 [97,100,100] 1 .no) ?_;refine Vm.cq (ai xROpn2<|ai @RK.fid.eq_1<|ai @RK.fid.eq_2<|ai @RK.fid.eq_3<|ai @RK.fid.eq_4<|ai @RK.fid.eq_5<|ai @dK.eq_1 @pk.eq_1) (just_v (pk 1 1 [97,100,100] 1 .no)) ?_;refine Vm.cq (ai xROpn2<|ai @RK.fid.eq_1<|ai @RK.fid.eq_2<|ai @RK.fid.eq_3<|ai @RK.fid.eq_4<|ai @RK.fid.eq_5<|ai @dK.eq_1 @pk.eq_1) (plain_v 2 1 [114,101,97,100] 0 .any) ?_;refine Vm.cq (ai xROpn2<|ai @RK.fid.eq_1<|ai @RK.fid.eq_2<|ai @RK.fid.eq_3<|ai @RK.fid.eq_4<|ai @RK.fid.eq_5<|ai @dK.eq_1 @pk.eq_1) (plain_v 3 2 [105,110,115,101,114,116] 1 .truth) ?_;refine Vm.cq (ai xROpn2<|ai @RK.fid.eq_1<|ai @RK.fid.eq_2<|ai @RK.fid.eq_3<|ai @RK.fid.eq_4<|ai @RK.fid.eq_5<|ai @dK.eq_1 @pk.eq_1) (plain_v 4 2 [114,101,109,111,118,101] 1 .truth) ?_;refine Vm.cq (ai xROpn2<|ai @RK.fid.eq_1<|ai @RK.fid.eq_2<|ai @RK.fid.eq_3<|ai @RK.fid.eq_4<|ai @RK.fid.eq_5<|ai @dK.eq_1 @pk.eq_1) (plain_v 5 2 [104,97,115] 1 .truth) ?_;refine Vm.cq (ai xROpn2<|ai @RK.fid.eq_1<|ai @RK.fid.eq_2<|ai @RK.fid.eq_3<|ai @RK.fid.eq_4<|ai @RK.fid.eq_5<|ai @dK.eq_1 @pk.eq_1) (plain_v 6 2 [115,105,122,101] 0 .above) ?_;refine Vm.cq (ai xROpn2<|ai @RK.fid.eq_1<|ai @RK.fid.eq_2<|ai @RK.fid.eq_3<|ai @RK.fid.eq_4<|ai @RK.fid.eq_5<|ai @dK.eq_1 @pk.eq_1) (plain_v 7 3 [112,117,116] 2 .any) ?_;refine Vm.cq (ai xROpn2<|ai @RK.fid.eq_1<|ai @RK.fid.eq_2<|ai @RK.fid.eq_3<|ai @RK.fid.eq_4<|ai @RK.fid.eq_5<|ai @dK.eq_1 @pk.eq_1) (maybe_v (pk 7 3 [112,117,116] 2 .any)) ?_;refine Vm.cq (ai xROpn2<|ai @RK.fid.eq_1<|ai @RK.fid.eq_2<|ai @RK.fid.eq_3<|ai @RK.fid.eq_4<|ai @RK.fid.eq_5<|ai @dK.eq_1 @pk.eq_1) (plain_v 8 3 [103,101,116] 1 .any) ?_;refine Vm.cq (ai xROpn2<|ai @RK.fid.eq_1<|ai @RK.fid.eq_2<|ai @RK.fid.eq_3<|ai @RK.fid.eq_4<|ai @RK.fid.eq_5<|ai @dK.eq_1 @pk.eq_1) (maybe_v (pk 8 3 [103,101,116] 1 .any)) ?_;refine Vm.cq (ai xROpn2<|ai @RK.fid.eq_1<|ai @RK.fid.eq_2<|ai @RK.fid.eq_3<|ai @RK.fid.eq_4<|ai @RK.fid.eq_5<|ai @dK.eq_1 @pk.eq_1) (plain_v 9 3 [100,101,108] 1 .any) ?_;refine Vm.cq (ai xROpn2<|ai @RK.fid.eq_1<|ai @RK.fid.eq_2<|ai @RK.fid.eq_3<|ai @RK.fid.eq_4<|ai @RK.fid.eq_5<|ai @dK.eq_1 @pk.eq_1) (maybe_v (pk 9 3 [100,101,108] 1 .any)) ?_;refine Vm.cq (ai xROpn2<|ai @RK.fid.eq_1<|ai @RK.fid.eq_2<|ai @RK.fid.eq_3<|ai @RK.fid.eq_4<|ai @RK.fid.eq_5<|ai @dK.eq_1 @pk.eq_1) (plain_v 10 4 [101,110,113] 1 .no) ?_;refine Vm.cq (ai xROpn2<|ai @RK.fid.eq_1<|ai @RK.fid.eq_2<|ai @RK.fid.eq_3<|ai @RK.fid.eq_4<|ai @RK.fid.eq_5<|ai @dK.eq_1 @pk.eq_1) (just_v (pk 10 4 [101,110,113] 1 .no)) ?_;refine Vm.cq (ai xROpn2<|ai @RK.fid.eq_1<|ai @RK.fid.eq_2<|ai @RK.fid.eq_3<|ai @RK.fid.eq_4<|ai @RK.fid.eq_5<|ai @dK.eq_1 @pk.eq_1) (plain_v 11 4 [100,101,113] 0 .any) ?_;refine Vm.cq (ai xROpn2<|ai @RK.fid.eq_1<|ai @RK.fid.eq_2<|ai @RK.fid.eq_3<|ai @RK.fid.eq_4<|ai @RK.fid.eq_5<|ai @dK.eq_1 @pk.eq_1) (maybe_v (pk 11 4 [100,101,113] 0 .any)) ?_;refine Vm.cq (ai xROpn2<|ai @RK.fid.eq_1<|ai @RK.fid.eq_2<|ai @RK.fid.eq_3<|ai @RK.fid.eq_4<|ai @RK.fid.eq_5<|ai @dK.eq_1 @pk.eq_1) (plain_v 12 4 [108,101,110] 0 .above) ?_;refine Vm.cq (ai xROpn2<|ai @RK.fid.eq_1<|ai @RK.fid.eq_2<|ai @RK.fid.eq_3<|ai @RK.fid.eq_4<|ai @RK.fid.eq_5<|ai @dK.eq_1 @pk.eq_1) (plain_v 13 5 [100,101,112,111,115,105,116] 1 .truth) ?_;refine Vm.cq (ai xROpn2<|ai @RK.fid.eq_1<|ai @RK.fid.eq_2<|ai @RK.fid.eq_3<|ai @RK.fid.eq_4<|ai @RK.fid.eq_5<|ai @dK.eq_1 @pk.eq_1) (of_v (pk 13 5 [100,101,112,111,115,105,116] 1 .truth) .money) ?_;refine Vm.cq (ai xROpn2<|ai @RK.fid.eq_1<|ai @RK.fid.eq_2<|ai @RK.fid.eq_3<|ai @RK.fid.eq_4<|ai @RK.fid.eq_5<|ai @dK.eq_1 @pk.eq_1) (plain_v 14 5 [119,105,116,104,100,114,97,119] 1 .truth) ?_;refine Vm.cq (ai xROpn2<|ai @RK.fid.eq_1<|ai @RK.fid.eq_2<|ai @RK.fid.eq_3<|ai @RK.fid.eq_4<|ai @RK.fid.eq_5<|ai @dK.eq_1 @pk.eq_1) (of_v (pk 14 5 [119,105,116,104,100,114,97,119] 1 .truth) .money) ?_;refine Vm.cq (ai xROpn2<|ai @RK.fid.eq_1<|ai @RK.fid.eq_2<|ai @RK.fid.eq_3<|ai @RK.fid.eq_4<|ai @RK.fid.eq_5<|ai @dK.eq_1<|ai @pk.eq_1<|ai @Vm.overD.eq_1<|ai @lit_r15 @lit_815) (plain_v 15 5 [98,97,108,97,110,99,101] 0 .money) ?_;exact Vm.rx (Vm.cl (ai xROpn2<|ai @kindsO.eq_1<|ai @dK.eq_1<|ai @pk.eq_1<|ai @RK.fid.eq_1<|ai @RK.fid.eq_2<|ai @RK.fid.eq_3<|ai @RK.fid.eq_4 @RK.fid.eq_5))
set_option linter.defProp false in
def xROpn3:=@nlR_dI
theorem nlR_dK (xs:List Knd):Vm.nlR (xs.map dK)=true:=Vm.nlR_map (fun x=>rfl) xs
theorem prLL_dK (xs:List Knd):Vm.prLL (xs.map dK)=true:=Vm.prLL_map (fun x=>rfl) xs
theorem imLL_K:∀ xs:List Knd,Vm.imLL (xs.map dK)=xs.map dK
 | []=>rfl
 | x::xs=>by simp only [List.map_cons,Vm.imLL,imLL_K xs];rfl
def idxK (p:Knd→Bool):List Knd→Nat→Int
 | [],_=>-1
 | k::ks,i=>if p k=true then (i:Int) else idxK p ks (i+1)
theorem idxK_find (p:Knd→Bool):∀ (ks:List Knd) (i:Nat),(idxK p ks i=-1∧ks.find? p=none)∨∃ (j:Nat) (k:Knd),idxK p ks i=((i+j:Nat):Int)∧ks[j]?=some k∧ks.find? p=some k
 | [],i=>.inl ⟨rfl,rfl⟩
 | k::ks,i=>by
   by_cases h:p k=true
   ·exact .inr ⟨0,k,by simp [idxK,h],rfl,by simp [h]⟩
   ·rcases idxK_find p ks (i+1) with ⟨h1,h2⟩ | ⟨j,k',h1,h2,h3⟩
    ·exact .inl ⟨by simp [idxK,h,h1],by simp [h,h2]⟩
    ·exact .inr ⟨j+1,k',by rw [idxK,if_neg h,h1];congr 1;omega,by simpa using h2,by simp [h,h3]⟩
theorem by1_v (k:Knd) (n:Int):Vm.VC T 157 [.agg (dK k),.iptr [.atom (.int .i64 n)] 0] fun d=>d=.atom (.bool (decide (k.n=n))):=by
 refine Vm.ve (T:=T) Tryz.func157 fun g hB hG0 hU=>?_;simp only [Tryz.f157,Vm.aC,Vm.aN,Nat.reduceAdd];refine Vm.rn (ai xROpn3<|ai @nlR_dK<|ai @prLL_dK<|ai @imLL_K @dK.eq_1) ?_;refine Vm.vw (T:=T) Tryz.func158 fun _ hGi hUi=>?_;simp only [Tryz.f158,Vm.aC,Vm.aN,Nat.reduceAdd];refine Vm.rn (ai xROpn3<|ai @nlR_dK<|ai @prLL_dK @imLL_K) ?_;refine Vm.rm (Vm.s1 (ai xROpn3<|ai @nlR_dK<|ai @prLL_dK @imLL_K) ?_);refine Vm.rn (ai xROpn3<|ai @nlR_dK<|ai @prLL_dK @imLL_K) ?_;exact Vm.rx (Vm.cl (ai xROpn3<|ai @nlR_dK<|ai @prLL_dK @imLL_K))
theorem idx_v (ks:List Knd) (hl:ks.length<1000000000) (n:Int):Vm.VC T 169 [.imm 8 (ks.map dK),.fn 157 [] [.iptr [.atom (.int .i64 n)] 0]] fun d=>d=.atom (.int .i64 (idxK (fun k=>decide (k.n=n)) ks 0)):=by
 refine Vm.ve (T:=T) Tryz.func169 fun g hB hG0 hU=>?_;simp only [Tryz.f169,Vm.aC,Vm.aN,Nat.reduceAdd];refine Vm.rn (ai xROpn3<|ai @nlR_dK<|ai @prLL_dK @imLL_K) ?_;refine Vm.sk_loop (fun i:Nat=>ks.length - i) (fun i=>⟨[(8,.atom (.int .i64 i)),(7,.atom (.int .i64 ks.length)),(0,.imm 8 (ks.map dK)),(1,.fn 157 [] [.iptr [.atom (.int .i64 n)] 0])],[],19⟩) (fun i=>i≤ks.length∧idxK (fun k=>decide (k.n=n)) (ks.drop i) i=idxK (fun k=>decide (k.n=n)) ks 0) 0 ?_ ⟨Nat.zero_le _,rfl⟩ ?_
 ·exact Vm.lx (Vm.cl (ai xROpn3<|ai @nlR_dK<|ai @prLL_dK @imLL_K))
 rintro i ⟨hi,he⟩ ih;refine Vm.rn (ai xROpn3<|ai @nlR_dK<|ai @prLL_dK @imLL_K) ?_;refine Vm.sb_dec (fun hlt=>?_) (fun hge=>?_)
 ·obtain ⟨k,hk,hkd⟩:=row_at (f:=dK) (l:=ks) (i:=i) (by omega);simp only [dK] at hkd;rw [drop_at hk] at he;simp only [idxK] at he;refine Vm.rn (ai xROpn3<|ai @nlR_dK<|ai @prLL_dK<|ai @imLL_K @hkd) ?_;refine Vm.cq (ai xROpn3<|ai @nlR_dK<|ai @prLL_dK<|ai @imLL_K @dK.eq_1) (by1_v k n) ?_;refine Vm.sb_dec (fun hc=>?_) (fun hc=>?_)
  ·rw [if_pos (by simpa using hc)] at he;refine Vm.rn (ai xROpn3<|ai @nlR_dK<|ai @prLL_dK @imLL_K) ?_;refine Vm.rz (ai xROpn3<|ai @nlR_dK<|ai @prLL_dK @imLL_K) ?_;rw [he]
  ·rw [if_neg (by simpa using hc)] at he;refine Vm.rn (ai xROpn3<|ai @nlR_dK<|ai @prLL_dK @imLL_K) ?_;refine ih (i+1) _ (by dsimp only;omega) ⟨by omega,he⟩ ?_;exact Vm.lx (Vm.cl (ai xROpn3<|ai @nlR_dK<|ai @prLL_dK @imLL_K))
 ·have:i=ks.length:=by omega
  subst this;rw [List.drop_length] at he;simp only [idxK] at he;refine Vm.rn (ai xROpn3<|ai @nlR_dK<|ai @prLL_dK @imLL_K) ?_;refine Vm.rz (ai xROpn3<|ai @nlR_dK<|ai @prLL_dK @imLL_K) ?_;rw [← he]
def kindO (n:Int):Option Knd:=kindsO.find? fun k=>decide (k.n=n)
def dK0:List Vm.D:=[.atom (.int .i64 0),.atom (.int .i64 0),.atom (.str []),.atom (.int .i64 0),.atom .nilFunc,.atom .nilFunc,.atom (.bool false),.atom (.bool false)]
def dBy:Option Knd→Vm.D
 | some k=>.tuple [.agg (dK k),.atom (.int .i64 0)]
 | none=>.tuple [.agg dK0,.atom (.int .i64 6)]
theorem find_v (n:Int):Vm.VC T 156 [.fn 157 [] [.iptr [.atom (.int .i64 n)] 0]] fun d=>d=dBy (kindO n):=by
 refine Vm.ve (T:=T) Tryz.func156 fun g hB hG0 hU=>?_;simp only [Tryz.f156,Vm.aC,Vm.aN,Nat.reduceAdd];refine Vm.rn (ai xROpn3<|ai @nlR_dK<|ai @prLL_dK @imLL_K) ?_;refine Vm.cq (ai xROpn3<|ai @nlR_dK<|ai @prLL_dK @imLL_K) (okinds_v) ?_;have hl:kindsO.length=15:=rfl;refine Vm.cq (ai xROpn3<|ai @nlR_dK<|ai @prLL_dK<|ai @imLL_K @hl) (idx_v kindsO (by rw [hl];decide) n) ?_;rcases idxK_find (fun k=>decide (k.n=n)) kindsO 0 with ⟨h1,h2⟩ | ⟨j,k,h1,h2,h3⟩
 ·rw [kindO,h2,h1];refine Vm.rn (ai xROpn3<|ai @nlR_dK<|ai @prLL_dK<|ai @imLL_K @Vm.overD.eq_1) ?_;exact Vm.rx (Vm.cl (ai xROpn3<|ai @nlR_dK<|ai @prLL_dK<|ai @imLL_K<|ai @dBy.eq_1<|ai @dBy.eq_2 @dK0.eq_1))
 ·rw [kindO,h3,h1];rw [Nat.zero_add];have hj:(kindsO.map dK)[j]?=some (dK k):=by rw [List.getElem?_map,h2];rfl
  have hjl:(j:Int)<15:=by
   rcases Nat.lt_or_ge j kindsO.length with h | h
   ·rw [hl] at h;omega
   ·rw [List.getElem?_eq_none h] at h2;cases h2
  have hn:¬ (j:Int)<0:=by omega
  simp only [dK] at hj;refine Vm.rn (ai xROpn3<|ai @nlR_dK<|ai @prLL_dK<|ai @imLL_K<|ai @hj<|ai @hjl<|ai @hn<|ai @hl @Vm.overD.eq_1) ?_;exact Vm.rx (Vm.cl (ai xROpn3<|ai @nlR_dK<|ai @prLL_dK<|ai @imLL_K<|ai @dBy.eq_1<|ai @dBy.eq_2 @dK.eq_1))
theorem by_v (n:Int):Vm.VC T 135 [.atom (.int .i64 n)] fun d=>d=dBy (kindO n):=by
 refine Vm.ve (T:=T) Tryz.func135 fun g hB hG0 hU=>?_;simp only [Tryz.f135,Vm.aC,Vm.aN,Nat.reduceAdd];refine Vm.rn (ai xROpn3<|ai @nlR_dK<|ai @prLL_dK @imLL_K) ?_;have hf:=find_v n
 cases hk:kindO n with
 | none =>
   rw [hk] at hf;refine Vm.cq (ai xROpn3<|ai @nlR_dK<|ai @prLL_dK<|ai @imLL_K<|ai @dBy.eq_1<|ai @dBy.eq_2<|ai @dK0.eq_1 @Vm.overD.eq_1) (hf) ?_;exact Vm.rx (Vm.cl (ai xROpn3<|ai @nlR_dK<|ai @prLL_dK<|ai @imLL_K<|ai @dBy.eq_1<|ai @dBy.eq_2 @dK0.eq_1))
 | some k =>
   rw [hk] at hf;refine Vm.cq (ai xROpn3<|ai @nlR_dK<|ai @prLL_dK<|ai @imLL_K<|ai @dBy.eq_1<|ai @dBy.eq_2<|ai @dK.eq_1 @Vm.overD.eq_1) (hf) ?_;exact Vm.rx (Vm.cl (ai xROpn3<|ai @nlR_dK<|ai @prLL_dK<|ai @imLL_K<|ai @dBy.eq_1<|ai @dBy.eq_2 @dK.eq_1))
def argB (k:Knd) (a b:Int):Bool:=(decide (0<k.args) || decide (a=0)) && ((decide (1<k.args) || decide (b=0)) && k.arg.holds a)
theorem args_v (k:Knd) (a b:Int):Vm.VC T 136 [.agg (dK k),.atom (.int .i64 a),.atom (.int .i64 b)] fun d=>d=.atom (.bool (argB k a b)):=by
 refine Vm.ve (T:=T) Tryz.func136 fun g hB hG0 hU=>?_;simp only [Tryz.f136,Vm.aC,Vm.aN,Nat.reduceAdd];have main:∀ (x:Bool),(decide (0<k.args) || decide (a=0))=true→(decide (1<k.args) || decide (b=0))=true→argB k a b=k.arg.holds a:=fun x h1 h2=>by rw [argB,h1,h2];simp
 by_cases h1:0<k.args
 ·by_cases h2:1<k.args
  ·refine Vm.rn (ai xROpn3<|ai @nlR_dK<|ai @prLL_dK<|ai @imLL_K<|ai @dK.eq_1<|ai @h1 @h2) ?_;refine Vm.cq (ai xROpn3<|ai @nlR_dK<|ai @prLL_dK @imLL_K) (rk_v k.arg a) ?_;refine Vm.rz (ai xROpn3<|ai @nlR_dK<|ai @prLL_dK @imLL_K) ?_;simp [argB,h1,h2]
  ·by_cases h3:b=0
   ·refine Vm.rn (ai xROpn3<|ai @nlR_dK<|ai @prLL_dK<|ai @imLL_K<|ai @dK.eq_1<|ai @h1<|ai @h2 @h3) ?_;refine Vm.cq (ai xROpn3<|ai @nlR_dK<|ai @prLL_dK @imLL_K) (rk_v k.arg a) ?_;refine Vm.rz (ai xROpn3<|ai @nlR_dK<|ai @prLL_dK @imLL_K) ?_;simp [argB,h1,h3]
   ·refine Vm.rn (ai xROpn3<|ai @nlR_dK<|ai @prLL_dK<|ai @imLL_K<|ai @dK.eq_1<|ai @h1<|ai @h2 @h3) ?_;refine Vm.rz (ai xROpn3<|ai @nlR_dK<|ai @prLL_dK @imLL_K) ?_;simp [argB,h2,h3]
 ·by_cases h3:a=0
  ·have h2:¬ 1<k.args:=by omega
   by_cases h4:b=0
   ·refine Vm.rn (ai xROpn3<|ai @nlR_dK<|ai @prLL_dK<|ai @imLL_K<|ai @dK.eq_1<|ai @h1<|ai @h2<|ai @h3 @h4) ?_;refine Vm.cq (ai xROpn3<|ai @nlR_dK<|ai @prLL_dK @imLL_K) (rk_v k.arg 0) ?_;refine Vm.rz (ai xROpn3<|ai @nlR_dK<|ai @prLL_dK @imLL_K) ?_;simp [argB,h3,h4]
   ·refine Vm.rn (ai xROpn3<|ai @nlR_dK<|ai @prLL_dK<|ai @imLL_K<|ai @dK.eq_1<|ai @h1<|ai @h2<|ai @h3 @h4) ?_;refine Vm.rz (ai xROpn3<|ai @nlR_dK<|ai @prLL_dK @imLL_K) ?_;simp [argB,h2,h4]
  ·refine Vm.rn (ai xROpn3<|ai @nlR_dK<|ai @prLL_dK<|ai @imLL_K<|ai @dK.eq_1<|ai @h1 @h3) ?_;refine Vm.rz (ai xROpn3<|ai @nlR_dK<|ai @prLL_dK @imLL_K) ?_;simp [argB,h1,h3]
def retB (k:Knd) (r:Rt):Bool:=if r.k=0∧r.n=0 then k.done else if r.k=1∧r.n=0 then k.none else decide (r.k=2) && k.ret.holds r.n
theorem ret_v (k:Knd) (r:Rt):Vm.VC T 137 [.agg (dK k),.agg (dR r)] fun d=>d=.atom (.bool (retB k r)):=by
 refine Vm.ve (T:=T) Tryz.func137 fun g hB hG0 hU=>?_;simp only [Tryz.f137,Vm.aC,Vm.aN,Nat.reduceAdd];obtain ⟨x,n⟩:=r
 by_cases h1:x=0
 ·by_cases h2:n=0
  ·refine Vm.rn (ai xROpn3<|ai @nlR_dK<|ai @prLL_dK<|ai @imLL_K<|ai @dK.eq_1<|ai @dR.eq_1<|ai @eqS_ret0<|ai @h1<|ai @h2 @Vm.overD.eq_1) ?_;refine Vm.rz (ai xROpn3<|ai @nlR_dK<|ai @prLL_dK @imLL_K) ?_;simp [retB]
  ·refine Vm.rn (ai xROpn3<|ai @nlR_dK<|ai @prLL_dK<|ai @imLL_K<|ai @dK.eq_1<|ai @dR.eq_1<|ai @eqS_ret0<|ai @h1<|ai @h2 @Vm.overD.eq_1) ?_;refine Vm.rz (ai xROpn3<|ai @nlR_dK<|ai @prLL_dK @imLL_K) ?_;simp [retB,h2]
 by_cases h3:x=1
 ·by_cases h2:n=0
  ·refine Vm.rn (ai xROpn3<|ai @nlR_dK<|ai @prLL_dK<|ai @imLL_K<|ai @dK.eq_1<|ai @dR.eq_1<|ai @eqS_ret0<|ai @h1<|ai @h3<|ai @h2 @Vm.overD.eq_1) ?_;refine Vm.rz (ai xROpn3<|ai @nlR_dK<|ai @prLL_dK @imLL_K) ?_;simp [retB]
  ·refine Vm.rn (ai xROpn3<|ai @nlR_dK<|ai @prLL_dK<|ai @imLL_K<|ai @dK.eq_1<|ai @dR.eq_1<|ai @eqS_ret0<|ai @h1<|ai @h3<|ai @h2 @Vm.overD.eq_1) ?_;refine Vm.rz (ai xROpn3<|ai @nlR_dK<|ai @prLL_dK @imLL_K) ?_;simp [retB,h2]
 by_cases h4:x=2
 ·refine Vm.rn (ai xROpn3<|ai @nlR_dK<|ai @prLL_dK<|ai @imLL_K<|ai @dK.eq_1<|ai @dR.eq_1<|ai @eqS_ret0<|ai @h1<|ai @h3<|ai @h4 @Vm.overD.eq_1) ?_;refine Vm.cq (ai xROpn3<|ai @nlR_dK<|ai @prLL_dK @imLL_K) (rk_v k.ret n) ?_;refine Vm.rz (ai xROpn3<|ai @nlR_dK<|ai @prLL_dK @imLL_K) ?_;simp [retB]
 ·refine Vm.rn (ai xROpn3<|ai @nlR_dK<|ai @prLL_dK<|ai @imLL_K<|ai @dK.eq_1<|ai @dR.eq_1<|ai @eqS_ret0<|ai @h1<|ai @h3<|ai @h4 @Vm.overD.eq_1) ?_;refine Vm.rz (ai xROpn3<|ai @nlR_dK<|ai @prLL_dK @imLL_K) ?_;simp [retB,h1,h3,h4]
def opE (p:Opr):Int:=match kindO p.k with
 | none=>6
 | some k=>if argB k p.a p.b=false then 2 else if retB k p.r=false then 9 else 0
def typO (n:Int):Int×Int:=match kindO n with
 | none=>(0,6)
 | some k=>(k.typ,0)
theorem ocheck_v (p:Opr):Vm.VC T 104 [.agg (dO p)] fun d=>d=.atom (.int .i64 (opE p)):=by
 refine Vm.ve (T:=T) Tryz.func104 fun g hB hG0 hU=>?_;simp only [Tryz.f104,Vm.aC,Vm.aN,Nat.reduceAdd];refine Vm.rn (ai xROpn3<|ai @nlR_dK<|ai @prLL_dK<|ai @imLL_K @dO.eq_1) ?_;have hf:=by_v p.k;unfold opE
 cases hk:kindO p.k with
 | none =>
   rw [hk] at hf;refine Vm.cq (ai xROpn3<|ai @nlR_dK<|ai @prLL_dK<|ai @imLL_K<|ai @dBy.eq_1<|ai @dBy.eq_2<|ai @dK0.eq_1 @Vm.overD.eq_1) (hf) ?_;exact Vm.rx (Vm.cl (ai xROpn3<|ai @nlR_dK<|ai @prLL_dK @imLL_K))
 | some k =>
   rw [hk] at hf;refine Vm.cq (ai xROpn3<|ai @nlR_dK<|ai @prLL_dK<|ai @imLL_K<|ai @dBy.eq_1<|ai @dBy.eq_2<|ai @dK.eq_1 @Vm.overD.eq_1) (hf) ?_;refine Vm.cq (ai xROpn3<|ai @nlR_dK<|ai @prLL_dK<|ai @imLL_K @dK.eq_1) (args_v k p.a p.b) ?_
   cases h1:argB k p.a p.b with
   | false =>
     refine Vm.rn (ai xROpn3<|ai @nlR_dK<|ai @prLL_dK @imLL_K) ?_;exact Vm.rx (Vm.cl (ai xROpn3<|ai @nlR_dK<|ai @prLL_dK<|ai @imLL_K @h1))
   | true =>
     refine Vm.rn (ai xROpn3<|ai @nlR_dK<|ai @prLL_dK @imLL_K) ?_;refine Vm.cq (ai xROpn3<|ai @nlR_dK<|ai @prLL_dK<|ai @imLL_K<|ai @dK.eq_1 @dR.eq_1) (ret_v k p.r) ?_
     cases h2:retB k p.r with
     | false =>
       refine Vm.rn (ai xROpn3<|ai @nlR_dK<|ai @prLL_dK @imLL_K) ?_;exact Vm.rx (Vm.cl (ai xROpn3<|ai @nlR_dK<|ai @prLL_dK<|ai @imLL_K<|ai @h1 @h2))
     | true =>
       refine Vm.rn (ai xROpn3<|ai @nlR_dK<|ai @prLL_dK @imLL_K) ?_;exact Vm.rx (Vm.cl (ai xROpn3<|ai @nlR_dK<|ai @prLL_dK<|ai @imLL_K<|ai @h1 @h2))
theorem otype_v (n:Int):Vm.VC T 105 [.atom (.int .i64 n)] fun d=>d=.tuple [.atom (.int .i64 (typO n).1),.atom (.int .i64 (typO n).2)]:=by
 refine Vm.ve (T:=T) Tryz.func105 fun g hB hG0 hU=>?_;simp only [Tryz.f105,Vm.aC,Vm.aN,Nat.reduceAdd];refine Vm.rn (ai xROpn3<|ai @nlR_dK<|ai @prLL_dK @imLL_K) ?_;have hf:=by_v n;unfold typO
 cases hk:kindO n with
 | none =>
   rw [hk] at hf;refine Vm.cq (ai xROpn3<|ai @nlR_dK<|ai @prLL_dK<|ai @imLL_K<|ai @dBy.eq_1<|ai @dBy.eq_2<|ai @dK0.eq_1 @Vm.overD.eq_1) (hf) ?_;exact Vm.rx (Vm.cl (ai xROpn3<|ai @nlR_dK<|ai @prLL_dK @imLL_K))
 | some k =>
   rw [hk] at hf;refine Vm.cq (ai xROpn3<|ai @nlR_dK<|ai @prLL_dK<|ai @imLL_K<|ai @dBy.eq_1<|ai @dBy.eq_2<|ai @dK.eq_1 @Vm.overD.eq_1) (hf) ?_;exact Vm.rx (Vm.cl (ai xROpn3<|ai @nlR_dK<|ai @prLL_dK @imLL_K))
set_option linter.defProp false in
def xROpn4:=@nlR_dI
structure RKd where
 typ:Int
 args:Int
 ret:Int
 word:List UInt8
def dQ (k:RKd):List Vm.D:=[.atom (.int .i64 k.typ),.atom (.int .i64 k.args),.atom (.int .i64 k.ret),.atom (.str k.word)]
def kindsR:List RKd:=[⟨1,1,0,[97,100,100]⟩,⟨1,0,2,[114,101,97,100]⟩,⟨2,1,1,[105,110,115,101,114,116]⟩,⟨2,1,1,[114,101,109,111,118,101]⟩,⟨2,1,1,[104,97,115]⟩,⟨2,0,3,[115,105,122,101]⟩,⟨3,2,4,[112,117,116]⟩,⟨3,1,4,[103,101,116]⟩,⟨3,1,4,[100,101,108]⟩,
 ⟨4,1,0,[101,110,113]⟩,⟨4,0,4,[100,101,113]⟩,⟨4,0,3,[108,101,110]⟩,⟨5,1,1,[100,101,112,111,115,105,116]⟩,⟨5,1,1,[119,105,116,104,100,114,97,119]⟩,⟨5,0,3,[98,97,108,97,110,99,101]⟩]
theorem lit_415 (a0 a1 a2 a3 a4 a5 a6 a7 a8 a9 a10 a11 a12 a13 a14 a15 a16 a17 a18 a19 a20 a21 a22 a23 a24 a25 a26 a27 a28 a29 a30 a31 a32 a33 a34 a35 a36 a37 a38 a39 a40 a41 a42 a43 a44 a45 a46 a47 a48 a49 a50 a51 a52 a53 a54 a55 a56 a57 a58 a59:Vm.D) :
  Vm.rowsOf 4 15 [a0,a1,a2,a3,a4,a5,a6,a7,a8,a9,a10,a11,a12,a13,a14,a15,a16,a17,a18,a19,a20,a21,a22,a23,a24,a25,a26,a27,a28,a29,a30,a31,a32,a33,a34,a35,a36,a37,a38,a39,a40,a41,a42,a43,a44,a45,a46,a47,a48,a49,a50,a51,a52,a53,a54,a55,a56,a57,a58,a59] =
  [[a0,a1,a2,a3],[a4,a5,a6,a7],[a8,a9,a10,a11],[a12,a13,a14,a15],[a16,a17,a18,a19],[a20,a21,a22,a23],[a24,a25,a26,a27],[a28,a29,a30,a31],[a32,a33,a34,a35],[a36,a37,a38,a39],[a40,a41,a42,a43],[a44,a45,a46,a47],[a48,a49,a50,a51],[a52,a53,a54,a55],[a56,a57,a58,a59]]:=rfl
theorem rkinds_v:Vm.VC T 167 [] fun d=>d=.fresh 4 (kindsR.map dQ):=by
 refine Vm.ve (T:=T) Tryz.func167 fun g hB hG0 hU=>?_;simp only [Tryz.f167,Vm.aC,Vm.aN,Nat.reduceAdd];refine Vm.rn (ai xROpn4<|ai @Vm.overD.eq_1<|ai @lit_r15 @lit_415) ?_;exact Vm.rx (Vm.cl (ai xROpn4<|ai @kindsR.eq_1 @dQ.eq_1))
def refO (n:Int):RKd×Bool:=if n<1∨15<n then (⟨0,0,0,[]⟩,false) else (kindsR.getD (n - 1).toNat ⟨0,0,0,[]⟩,true)
def dOf (q:RKd×Bool):Vm.D:=.tuple [.agg (dQ q.1),.atom (.bool q.2)]
theorem of1_v (n:Int):Vm.VC T 152 [.atom (.int .i64 n)] fun d=>d=dOf (refO n):=by
 refine Vm.ve (T:=T) Tryz.func152 fun g hB hG0 hU=>?_;simp only [Tryz.f152,Vm.aC,Vm.aN,Nat.reduceAdd]
 by_cases h1:n<1
 ·refine Vm.rn (ai xROpn4<|ai @h1 @Vm.overD.eq_1) ?_;refine Vm.rz xROpn4 ?_;rw [refO,if_pos (.inl h1)];rfl
 by_cases h2:15<n
 ·refine Vm.rn (ai xROpn4<|ai @h1<|ai @h2 @Vm.overD.eq_1) ?_;refine Vm.rz xROpn4 ?_;rw [refO,if_pos (.inr h2)];rfl
 obtain ⟨j,hj⟩:∃ j:Nat,n - 1=j:=⟨(n - 1).toNat,by omega⟩
 have hjl:j<kindsR.length:=by show j<15;omega
 have hl:kindsR.length=15:=rfl;obtain ⟨k,hk,hkd⟩:=row_at (f:=dQ) hjl
 have e:refO n=(k,true):=by
  rw [refO,if_neg (by omega),hj,Int.toNat_natCast,List.getD_eq_getElem?_getD,hk];rfl
 have hj15:(j:Int)<15:=by omega
 have hj0:¬ (j:Int)<0:=by omega
 simp only [dQ] at hkd;rw [e];refine Vm.rn (ai xROpn4<|ai @h1 @h2) ?_;refine Vm.cq (ai xROpn4<|ai @hj<|ai @hkd<|ai @hl<|ai @hj15<|ai @hj0 @Vm.overD.eq_1) (rkinds_v) ?_;exact Vm.rx (Vm.cl (ai xROpn4<|ai @dOf.eq_1 @dQ.eq_1))
def retR (c:Int) (r:Rt):Bool:=if c=0 then decide (r=⟨0,0⟩) else if c=1 then decide (r.k=2) && decide (r.n=0∨r.n=1) else if c=2 then decide (r.k=2) else if c=3 then decide (r.k=2) && decide (0≤r.n∧r.n≤4611686018427387904) else decide (r.k=2) || decide (r=⟨1,0⟩)
theorem rret_v (k:RKd) (r:Rt):Vm.VC T 153 [.agg (dQ k),.agg (dR r)] fun d=>d=.atom (.bool (retR k.ret r)):=by
 refine Vm.ve (T:=T) Tryz.func153 fun g hB hG0 hU=>?_;simp only [Tryz.f153,Vm.aC,Vm.aN,Nat.reduceAdd];obtain ⟨x,n⟩:=r;obtain ⟨t,a,c,w⟩:=k
 by_cases c0:c=0
 ·subst c0
  by_cases h1:x=0
  ·by_cases h2:n=0
   ·refine Vm.rn (ai xROpn4<|ai @dQ.eq_1<|ai @dR.eq_1<|ai @eqS_ret0<|ai @h1<|ai @h2 @Vm.overD.eq_1) ?_;refine Vm.rz xROpn4 ?_;simp [retR]
   ·refine Vm.rn (ai xROpn4<|ai @dQ.eq_1<|ai @dR.eq_1<|ai @eqS_ret0<|ai @h1<|ai @h2 @Vm.overD.eq_1) ?_;refine Vm.rz xROpn4 ?_;simp [retR,h2]
  ·refine Vm.rn (ai xROpn4<|ai @dQ.eq_1<|ai @dR.eq_1<|ai @eqS_ret0<|ai @h1 @Vm.overD.eq_1) ?_;refine Vm.rz xROpn4 ?_;simp [retR,h1]
 by_cases c1:c=1
 ·subst c1
  by_cases h1:x=2
  ·by_cases h2:n=0
   ·refine Vm.rn (ai xROpn4<|ai @dQ.eq_1<|ai @dR.eq_1<|ai @h1 @h2) ?_;refine Vm.rz xROpn4 ?_;simp [retR]
   ·refine Vm.rn (ai xROpn4<|ai @dQ.eq_1<|ai @dR.eq_1<|ai @h1 @h2) ?_;refine Vm.rz xROpn4 ?_;simp [retR,h2]
  ·refine Vm.rn (ai xROpn4<|ai @dQ.eq_1<|ai @dR.eq_1 @h1) ?_;refine Vm.rz xROpn4 ?_;simp [retR,h1]
 by_cases c2:c=2
 ·subst c2;refine Vm.rn (ai xROpn4<|ai @dQ.eq_1 @dR.eq_1) ?_;refine Vm.rz xROpn4 ?_;simp [retR]
 by_cases c3:c=3
 ·subst c3
  by_cases h1:x=2
  ·by_cases h2:0≤n
   ·refine Vm.rn (ai xROpn4<|ai @dQ.eq_1<|ai @dR.eq_1<|ai @h1 @h2) ?_;refine Vm.rz xROpn4 ?_;simp [retR,h2]
   ·refine Vm.rn (ai xROpn4<|ai @dQ.eq_1<|ai @dR.eq_1<|ai @h1 @h2) ?_;refine Vm.rz xROpn4 ?_;simp [retR,h2]
  ·refine Vm.rn (ai xROpn4<|ai @dQ.eq_1<|ai @dR.eq_1 @h1) ?_;refine Vm.rz xROpn4 ?_;simp [retR,h1]
 by_cases h1:x=2
 ·refine Vm.rn (ai xROpn4<|ai @dQ.eq_1<|ai @dR.eq_1<|ai @c0<|ai @c1<|ai @c2<|ai @c3 @h1) ?_;refine Vm.rz xROpn4 ?_;simp [retR,c0,c1,c2,c3]
 ·by_cases h3:x=1
  ·by_cases h2:n=0
   ·refine Vm.rn (ai xROpn4<|ai @dQ.eq_1<|ai @dR.eq_1<|ai @eqS_ret0<|ai @c0<|ai @c1<|ai @c2<|ai @c3<|ai @h3<|ai @h2 @Vm.overD.eq_1) ?_;refine Vm.rz xROpn4 ?_;simp [retR,c0,c1,c2,c3]
   ·refine Vm.rn (ai xROpn4<|ai @dQ.eq_1<|ai @dR.eq_1<|ai @eqS_ret0<|ai @c0<|ai @c1<|ai @c2<|ai @c3<|ai @h3<|ai @h2 @Vm.overD.eq_1) ?_;refine Vm.rz xROpn4 ?_;simp [retR,c0,c1,c2,c3,h2]
  ·refine Vm.rn (ai xROpn4<|ai @dQ.eq_1<|ai @dR.eq_1<|ai @eqS_ret0<|ai @c0<|ai @c1<|ai @c2<|ai @c3<|ai @h1<|ai @h3 @Vm.overD.eq_1) ?_;refine Vm.rz xROpn4 ?_;simp [retR,c0,c1,c2,c3,h1,h3]
def refE (k:RKd) (p:Opr):Int:=if (k.args<1∧p.a≠0)∨(k.args<2∧p.b≠0)∨(k.typ=5∧(p.a<0∨4611686018427387904<p.a)) then 2 else if retR k.ret p.r=false then 9 else 0
theorem opE_of {p:Opr} {k:Knd} {q:RKd} (h1:kindO p.k=some k) (h2:refO p.k=(q,true)) (ha:argB k p.a p.b=false↔(q.args<1∧p.a≠0)∨(q.args<2∧p.b≠0)∨(q.typ=5∧(p.a<0∨4611686018427387904<p.a))) (hr:retB k p.r=retR q.ret p.r) (ht:k.typ=q.typ) :
  opE p=(if (refO p.k).2=false then 6 else refE (refO p.k).1 p)∧typO p.k=(if (refO p.k).2=false then (0,6) else ((refO p.k).1.typ,0)):=by
 rw [h2];simp only [opE,typO,h1,Bool.true_eq_false,if_false,refE,ht,hr,and_true]
 by_cases h:argB k p.a p.b=false
 ·rw [if_pos h,if_pos (ha.1 h)]
 ·rw [if_neg h,if_neg (fun g=>h (ha.2 g))]
theorem refO_kind (p:Opr):opE p=(if (refO p.k).2=false then 6 else refE (refO p.k).1 p)∧typO p.k=(if (refO p.k).2=false then (0,6) else ((refO p.k).1.typ,0)):=by
 obtain ⟨n,a,b,u,v⟩:=p
 by_cases h:n<1∨15<n
 ·have hk:kindO n=none:=by
   rw [kindO,List.find?_eq_none];intro k hk;simp only [kindsO,pk,List.mem_cons,List.not_mem_nil,or_false] at hk;rcases hk with rfl | rfl | rfl | rfl | rfl | rfl | rfl | rfl | rfl | rfl | rfl | rfl | rfl | rfl | rfl <;> (simp;omega)
  simp [opE,typO,refO,h,hk]
 ·have hc:n=1∨n=2∨n=3∨n=4∨n=5∨n=6∨n=7∨n=8∨n=9∨n=10∨n=11∨n=12∨n=13∨n=14∨n=15:=by omega
  rcases hc with rfl | rfl | rfl | rfl | rfl | rfl | rfl | rfl | rfl | rfl | rfl | rfl | rfl | rfl | rfl
  all_goals
   refine opE_of rfl rfl ?_ ?_ rfl
   ·simp [argB,RK.holds,pk,kindsR];try omega
   ·simp only [retB,retR,RK.holds,pk,kindsR,List.getD_cons_zero,List.getD_cons_succ,Int.reduceSub,Int.reduceToNat]
    by_cases g0:u=0 <;> by_cases g1:u=1 <;> by_cases g2:u=2 <;> by_cases g3:v=0 <;> simp_all [kindsR]
set_option maxHeartbeats 4000000 in
theorem rocheck_v (p:Opr):Vm.VC T 123 [.agg (dO p)] fun d=>d=.atom (.int .i64 (opE p)):=by
 rw [(refO_kind p).1];refine Vm.ve (T:=T) Tryz.func123 fun g hB hG0 hU=>?_;simp only [Tryz.f123,Vm.aC,Vm.aN,Nat.reduceAdd];refine Vm.rn (ai xROpn4 @dO.eq_1) ?_;refine Vm.cq (ai xROpn4<|ai @dOf.eq_1<|ai @dQ.eq_1 @Vm.overD.eq_1) (of1_v p.k) ?_
 cases hb:(refO p.k).2 with
 | false =>
   by_cases h1:(refO p.k).1.typ=5
   ·by_cases h2:p.a<0
    ·refine Vm.rn (ai xROpn4<|ai @h1<|ai @h2 @hb) ?_;exact Vm.rx (Vm.cl xROpn4)
    ·refine Vm.rn (ai xROpn4<|ai @h1<|ai @h2 @hb) ?_;exact Vm.rx (Vm.cl xROpn4)
   ·refine Vm.rn (ai xROpn4<|ai @h1 @hb) ?_;exact Vm.rx (Vm.cl xROpn4)
 | true =>
   generalize (refO p.k).1=q;obtain ⟨n,a,b,r⟩:=p;obtain ⟨t,ar,c,w⟩:=q;have fin:refE ⟨t,ar,c,w⟩ ⟨n,a,b,r⟩=if (ar<1∧a≠0)∨(ar<2∧b≠0)∨(t=5∧(a<0∨4611686018427387904<a)) then 2 else if retR c r=false then 9 else 0:=rfl
   generalize refE ⟨t,ar,c,w⟩ ⟨n,a,b,r⟩=z at fin ⊢
   by_cases h1:t=5
   ·by_cases h2:a<0
    ·by_cases h4:ar<1
     ·by_cases h5:a=0
      ·have h6:ar<2:=by omega
       by_cases h7:b=0
       ·exfalso;omega
       ·exfalso;omega
      ·refine Vm.rn (ai xROpn4<|ai @h1<|ai @h2<|ai @hb<|ai @h4 @h5) ?_;refine Vm.rz xROpn4 ?_;rw [fin,if_pos (by omega)]
     ·by_cases h6:ar<2
      ·by_cases h7:b=0
       ·refine Vm.rn (ai xROpn4<|ai @h1<|ai @h2<|ai @hb<|ai @h4<|ai @h6 @h7) ?_;refine Vm.rz xROpn4 ?_;rw [fin,if_pos (by omega)]
       ·refine Vm.rn (ai xROpn4<|ai @h1<|ai @h2<|ai @hb<|ai @h4<|ai @h6 @h7) ?_;refine Vm.rz xROpn4 ?_;rw [fin,if_pos (by omega)]
      ·refine Vm.rn (ai xROpn4<|ai @h1<|ai @h2<|ai @hb<|ai @h4 @h6) ?_;refine Vm.rz xROpn4 ?_;rw [fin,if_pos (by omega)]
    ·by_cases h3:4611686018427387904<a
     ·by_cases h4:ar<1
      ·by_cases h5:a=0
       ·have h6:ar<2:=by omega
        by_cases h7:b=0
        ·exfalso;omega
        ·exfalso;omega
       ·refine Vm.rn (ai xROpn4<|ai @h1<|ai @h2<|ai @h3<|ai @hb<|ai @h4 @h5) ?_;refine Vm.rz xROpn4 ?_;rw [fin,if_pos (by omega)]
      ·by_cases h6:ar<2
       ·by_cases h7:b=0
        ·refine Vm.rn (ai xROpn4<|ai @h1<|ai @h2<|ai @h3<|ai @hb<|ai @h4<|ai @h6 @h7) ?_;refine Vm.rz xROpn4 ?_;rw [fin,if_pos (by omega)]
        ·refine Vm.rn (ai xROpn4<|ai @h1<|ai @h2<|ai @h3<|ai @hb<|ai @h4<|ai @h6 @h7) ?_;refine Vm.rz xROpn4 ?_;rw [fin,if_pos (by omega)]
       ·refine Vm.rn (ai xROpn4<|ai @h1<|ai @h2<|ai @h3<|ai @hb<|ai @h4 @h6) ?_;refine Vm.rz xROpn4 ?_;rw [fin,if_pos (by omega)]
     ·by_cases h4:ar<1
      ·by_cases h5:a=0
       ·have h6:ar<2:=by omega
        by_cases h7:b=0
        ·refine Vm.rn (ai xROpn4<|ai @h1<|ai @h2<|ai @h3<|ai @hb<|ai @h4<|ai @h5<|ai @h6 @h7) ?_;rw [fin,if_neg (by omega)];refine Vm.cq (ai xROpn4<|ai @dQ.eq_1<|ai @dR.eq_1 @h1) (rret_v ⟨t,ar,c,w⟩ r) ?_
         cases hr:retR c r with
         | false =>
           refine Vm.rn xROpn4 ?_;refine Vm.rz xROpn4 ?_
           try simp [hr]
         | true =>
           refine Vm.rn xROpn4 ?_;refine Vm.rz xROpn4 ?_
           try simp [hr]
        ·refine Vm.rn (ai xROpn4<|ai @h1<|ai @h2<|ai @h3<|ai @hb<|ai @h4<|ai @h5<|ai @h6 @h7) ?_;refine Vm.rz xROpn4 ?_;rw [fin,if_pos (by omega)]
       ·refine Vm.rn (ai xROpn4<|ai @h1<|ai @h2<|ai @h3<|ai @hb<|ai @h4 @h5) ?_;refine Vm.rz xROpn4 ?_;rw [fin,if_pos (by omega)]
      ·by_cases h6:ar<2
       ·by_cases h7:b=0
        ·refine Vm.rn (ai xROpn4<|ai @h1<|ai @h2<|ai @h3<|ai @hb<|ai @h4<|ai @h6 @h7) ?_;rw [fin,if_neg (by omega)];refine Vm.cq (ai xROpn4<|ai @dQ.eq_1<|ai @dR.eq_1 @h1) (rret_v ⟨t,ar,c,w⟩ r) ?_
         cases hr:retR c r with
         | false =>
           refine Vm.rn xROpn4 ?_;refine Vm.rz xROpn4 ?_
           try simp [hr]
         | true =>
           refine Vm.rn xROpn4 ?_;refine Vm.rz xROpn4 ?_
           try simp [hr]
        ·refine Vm.rn (ai xROpn4<|ai @h1<|ai @h2<|ai @h3<|ai @hb<|ai @h4<|ai @h6 @h7) ?_;refine Vm.rz xROpn4 ?_;rw [fin,if_pos (by omega)]
       ·refine Vm.rn (ai xROpn4<|ai @h1<|ai @h2<|ai @h3<|ai @hb<|ai @h4 @h6) ?_;rw [fin,if_neg (by omega)];refine Vm.cq (ai xROpn4<|ai @dQ.eq_1<|ai @dR.eq_1 @h1) (rret_v ⟨t,ar,c,w⟩ r) ?_
        cases hr:retR c r with
        | false =>
          refine Vm.rn xROpn4 ?_;refine Vm.rz xROpn4 ?_
          try simp [hr]
        | true =>
          refine Vm.rn xROpn4 ?_;refine Vm.rz xROpn4 ?_
          try simp [hr]
   ·by_cases h4:ar<1
    ·by_cases h5:a=0
     ·have h6:ar<2:=by omega
      by_cases h7:b=0
      ·refine Vm.rn (ai xROpn4<|ai @h1<|ai @hb<|ai @h4<|ai @h5<|ai @h6 @h7) ?_;rw [fin,if_neg (by omega)];refine Vm.cq (ai xROpn4<|ai @dQ.eq_1<|ai @dR.eq_1 @h1) (rret_v ⟨t,ar,c,w⟩ r) ?_
       cases hr:retR c r with
       | false =>
         refine Vm.rn xROpn4 ?_;refine Vm.rz xROpn4 ?_
         try simp [hr]
       | true =>
         refine Vm.rn xROpn4 ?_;refine Vm.rz xROpn4 ?_
         try simp [hr]
      ·refine Vm.rn (ai xROpn4<|ai @h1<|ai @hb<|ai @h4<|ai @h5<|ai @h6 @h7) ?_;refine Vm.rz xROpn4 ?_;rw [fin,if_pos (by omega)]
     ·refine Vm.rn (ai xROpn4<|ai @h1<|ai @hb<|ai @h4 @h5) ?_;refine Vm.rz xROpn4 ?_;rw [fin,if_pos (by omega)]
    ·by_cases h6:ar<2
     ·by_cases h7:b=0
      ·refine Vm.rn (ai xROpn4<|ai @h1<|ai @hb<|ai @h4<|ai @h6 @h7) ?_;rw [fin,if_neg (by omega)];refine Vm.cq (ai xROpn4<|ai @dQ.eq_1<|ai @dR.eq_1 @h1) (rret_v ⟨t,ar,c,w⟩ r) ?_
       cases hr:retR c r with
       | false =>
         refine Vm.rn xROpn4 ?_;refine Vm.rz xROpn4 ?_
         try simp [hr]
       | true =>
         refine Vm.rn xROpn4 ?_;refine Vm.rz xROpn4 ?_
         try simp [hr]
      ·refine Vm.rn (ai xROpn4<|ai @h1<|ai @hb<|ai @h4<|ai @h6 @h7) ?_;refine Vm.rz xROpn4 ?_;rw [fin,if_pos (by omega)]
     ·refine Vm.rn (ai xROpn4<|ai @h1<|ai @hb<|ai @h4 @h6) ?_;rw [fin,if_neg (by omega)];refine Vm.cq (ai xROpn4<|ai @dQ.eq_1<|ai @dR.eq_1 @h1) (rret_v ⟨t,ar,c,w⟩ r) ?_
      cases hr:retR c r with
      | false =>
        refine Vm.rn xROpn4 ?_;refine Vm.rz xROpn4 ?_
        try simp [hr]
      | true =>
        refine Vm.rn xROpn4 ?_;refine Vm.rz xROpn4 ?_
        try simp [hr]
theorem rotype_v (n:Int):Vm.VC T 124 [.atom (.int .i64 n)] fun d=>d=.tuple [.atom (.int .i64 (typO n).1),.atom (.int .i64 (typO n).2)]:=by
 rw [(refO_kind ⟨n,0,0,0,0⟩).2];refine Vm.ve (T:=T) Tryz.func124 fun g hB hG0 hU=>?_;simp only [Tryz.f124,Vm.aC,Vm.aN,Nat.reduceAdd];refine Vm.rn xROpn4 ?_;refine Vm.cq (ai xROpn4<|ai @dOf.eq_1<|ai @dQ.eq_1 @Vm.overD.eq_1) (of1_v n) ?_
 cases hb:(refO n).2 with
 | false =>
   refine Vm.rn (ai xROpn4 @hb) ?_;exact Vm.rx (Vm.cl xROpn4)
 | true =>
   refine Vm.rn (ai xROpn4 @hb) ?_;exact Vm.rx (Vm.cl xROpn4)
end Go.Proofs.YtphjohoipocpnaaGreat.W
