import Derived.Test.YtphjohoipocpnaaGreatProg
import Derived.Test.YtphjohoipocpnaaGreatVmC
import Derived.Test.YtphjohoipocpnaaGreatVmD
import Derived.Test.YtphjohoipocpnaaGreatAmF
import Derived.Test.YtphjohoipocpnaaGreatAmLay
import Derived.Test.YtphjohoipocpnaaGreatVmE
import Derived.KernelRfl
import Derived.Test.YtphjohoipocpnaaGreatAmLaw
/- The tables of the program, as closed facts; what is not walked. No conditions. -/
set_option maxRecDepth 100000
namespace Go.Proofs.YtphjohoipocpnaaGreat.W
open Go.Am
noncomputable def prim:FuncId→Option (List V→Heap→Option (V×Heap)):=fun f=>(cond (Nat.beq f 46) (some (Am.sortKP 47 5 1)) (cond (Nat.beq f 54) (some Am.sortP) (cond (Nat.beq f 55) (some Am.compactP) (cond (Nat.beq f 208) (some Am.insP) (cond (Nat.beq f 209) (some Am.delP) (cond (Nat.beq f 9) (some Am.closedTrue) none))))))
noncomputable def T:Tab:=tabOf Tryz.prog prim
theorem tyfacts:(Am.sizeN T 0=some 1)∧(Am.isAgg? T 0=some false)∧(Am.sizeN T 1=some 1)∧(Am.isAgg? T 1=some false)∧(T.zero 1=some [.nilFunc])∧(Am.sizeN T 2=some 1)∧(Am.isAgg? T 2=some false)∧(T.zero 2=some [.int .i64 0])∧(Am.sizeN T 3=some 1)∧(Am.isAgg? T 3=some false)∧(T.zero 3=some [.int .i64 0])∧(Am.isBool T 4=true)∧(Am.sizeN T 4=some 1)∧(Am.isAgg? T 4=some false)∧(T.zero 4=some [.bool false])∧(Am.sizeN T 5=some 1)∧(Am.isAgg? T 5=some false)∧(T.zero 5=some [.int .u8 0])∧(Am.isStr T 9=true)∧(Am.sizeN T 9=some 1)∧(Am.isAgg? T 9=some false)∧(T.zero 9=some [.str []])∧(Am.sizeN T 15=some 1)∧(Am.isAgg? T 15=some false)∧(T.zero 15=some [.nilPtr])∧(Am.isIface T 20=some true)∧(Am.sizeN T 20=some 1)∧(Am.isAgg? T 20=some false)∧(T.zero 20=some [.nilIface])∧(Am.isSlice T 22=true)∧(Am.mkOk T 22=true)∧(Am.esz T 22=3)∧(Am.ebytes T 22=40)∧(Am.ezero T 22=[.int .i64 0,.int .i64 0,.nilSlice])∧(Am.elemSize T 22=some 3)∧(Am.appOk T 22 22=some (3,40))∧(Am.sizeN T 22=some 1)∧(Am.isAgg? T 22=some false)∧(T.zero 22=some [.nilSlice])∧(Am.isSlice T 23=true)∧(Am.mkOk T 23=true)∧(Am.esz T 23=6)∧(Am.ebytes T 23=48)∧(Am.ezero T 23=[.int .i64 0,.int .i64 0,.int .i64 0,.int .i64 0,.int .i64 0,.int .i64 0])∧(Am.elemSize T 23=some 6)∧(Am.appOk T 23 23=some (6,48))∧(Am.sizeN T 23=some 1)∧(Am.isAgg? T 23=some false)∧(T.zero 23=some [.nilSlice])∧(Am.isSlice T 24=true)∧(Am.mkOk T 24=true)∧(Am.esz T 24=1)∧(Am.ebytes T 24=8)∧(Am.ezero T 24=[.int .i64 0])∧(Am.elemSize T 24=some 1)∧(Am.appOk T 24 24=some (1,8))∧(Am.sizeN T 24=some 1)∧(Am.isAgg? T 24=some false)∧(T.zero 24=some [.nilSlice])∧(Am.isStruct T 26=true)∧(Am.fldSz T 26 0=some (0,1))∧(Am.fldSz T 26 1=some (1,1))∧(Am.fldSz T 26 2=some (2,1))∧(Am.fldSz T 26 3=some (3,1))∧(Am.fldSz T 26 4=some (4,1))∧(Am.Vm.fldTy T 26 0=some (9,0))∧(Am.Vm.fldTy T 26 1=some (3,1))∧(Am.Vm.fldTy T 26 2=some (3,2))∧(Am.Vm.fldTy T 26 3=some (23,3))∧(Am.Vm.fldTy T 26 4=some (24,4))∧(Am.fldAt T 26 0=some 0)∧(Am.fldAt T 26 1=some 1)∧(Am.fldAt T 26 2=some 2)∧(Am.fldAt T 26 3=some 3)∧(Am.fldAt T 26 4=some 4)∧(Am.sizeN T 26=some 5)∧(Am.isAgg? T 26=some true)∧(T.zero 26=some [.str [],.int .i64 0,.int .i64 0,.nilSlice,.nilSlice])∧(Am.sizeN T 31=some 1)∧(Am.isAgg? T 31=some false)∧(T.zero 31=some [.int .i64 0])∧(Am.sizeN T 32=some 1)∧(Am.isAgg? T 32=some false)∧(Am.isStruct T 37=true)∧(Am.fldSz T 37 0=some (0,1))∧(Am.fldSz T 37 1=some (1,1))∧(Am.fldSz T 37 2=some (2,1))∧(Am.Vm.fldTy T 37 0=some (3,0))∧(Am.Vm.fldTy T 37 1=some (3,1))∧(Am.Vm.fldTy T 37 2=some (24,2))∧(Am.fldAt T 37 0=some 0)∧(Am.fldAt T 37 1=some 1)∧(Am.fldAt T 37 2=some 2)∧(Am.sizeN T 37=some 3)∧(Am.isAgg? T 37=some true)∧(T.zero 37=some [.int .i64 0,.int .i64 0,.nilSlice])∧(Am.isSlice T 40=true)∧(Am.mkOk T 40=true)∧(Am.esz T 40=1)∧(Am.ebytes T 40=16)∧(Am.ezero T 40=[.str []])∧(Am.elemSize T 40=some 1)∧(Am.appOk T 40 40=some (1,16))∧(Am.sizeN T 40=some 1)∧(Am.isAgg? T 40=some false)∧(T.zero 40=some [.nilSlice])∧(Am.isSlice T 41=true)∧(Am.mkOk T 41=true)∧(Am.esz T 41=5)∧(Am.ebytes T 41=80)∧(Am.ezero T 41=[.str [],.int .i64 0,.int .i64 0,.nilSlice,.nilSlice])∧(Am.elemSize T 41=some 5)∧(Am.appOk T 41 41=some (5,80))∧(Am.sizeN T 41=some 1)∧(Am.isAgg? T 41=some false)∧(T.zero 41=some [.nilSlice])∧(Am.isStruct T 43=true)∧(Am.fldSz T 43 0=some (0,1))∧(Am.fldSz T 43 1=some (1,1))∧(Am.fldSz T 43 2=some (2,1))∧(Am.Vm.fldTy T 43 0=some (40,0))∧(Am.Vm.fldTy T 43 1=some (22,1))∧(Am.Vm.fldTy T 43 2=some (41,2))∧(Am.fldAt T 43 0=some 0)∧(Am.fldAt T 43 1=some 1)∧(Am.fldAt T 43 2=some 2)∧(Am.sizeN T 43=some 3)∧(Am.isAgg? T 43=some true)∧(T.zero 43=some [.nilSlice,.nilSlice,.nilSlice])∧(Am.isStruct T 56=true)∧(Am.fldSz T 56 0=some (0,1))∧(Am.fldSz T 56 1=some (1,1))∧(Am.Vm.fldTy T 56 0=some (3,0))∧(Am.Vm.fldTy T 56 1=some (3,1))∧(Am.fldAt T 56 0=some 0)∧(Am.fldAt T 56 1=some 1)∧(Am.sizeN T 56=some 2)∧(Am.isAgg? T 56=some true)∧(T.zero 56=some [.int .i64 0,.int .i64 0])∧(Am.isStruct T 58=true)∧(Am.fldSz T 58 0=some (0,1))∧(Am.fldSz T 58 1=some (1,1))∧(Am.fldSz T 58 2=some (2,1))∧(Am.fldSz T 58 3=some (3,2))∧(Am.Vm.fldTy T 58 0=some (3,0))∧(Am.Vm.fldTy T 58 1=some (3,1))∧(Am.Vm.fldTy T 58 2=some (3,2))∧(Am.Vm.fldTy T 58 3=some (56,3))∧(Am.fldAt T 58 0=some 0)∧(Am.fldAt T 58 1=some 1)∧(Am.fldAt T 58 2=some 2)∧(Am.fldAt T 58 3=some 3)∧(Am.sizeN T 58=some 5)∧(Am.isAgg? T 58=some true)∧(T.zero 58=some [.int .i64 0,.int .i64 0,.int .i64 0,.int .i64 0,.int .i64 0])∧(Am.isStruct T 60=true)∧(Am.fldSz T 60 0=some (0,1))∧(Am.fldSz T 60 1=some (1,5))∧(Am.Vm.fldTy T 60 0=some (3,0))∧(Am.Vm.fldTy T 60 1=some (58,1))∧(Am.fldAt T 60 0=some 0)∧(Am.fldAt T 60 1=some 1)∧(Am.sizeN T 60=some 6)∧(Am.isAgg? T 60=some true)∧(T.zero 60=some [.int .i64 0,.int .i64 0,.int .i64 0,.int .i64 0,.int .i64 0,.int .i64 0])∧(Am.sizeN T 63=some 1)∧(Am.isAgg? T 63=some false)∧(T.zero 63=some [.nilPtr])∧(Am.sizeN T 64=some 1)∧(Am.isAgg? T 64=some false)∧(Am.sizeN T 72=some 1)∧(Am.isAgg? T 72=some false)∧(T.zero 72=some [.nilFunc])∧(Am.sizeN T 73=some 1)∧(Am.isAgg? T 73=some false)∧(T.zero 73=some [.nilFunc])∧(Am.sizeN T 80=some 1)∧(Am.isAgg? T 80=some false)∧(T.zero 80=some [.nilFunc])∧(Am.sizeN T 81=some 1)∧(Am.isAgg? T 81=some false)∧(Am.Vm.mapT T 84=some (9,128))∧(Am.Vm.isMap T 84=true)∧(T.zeroV 128=some (.nilPtr))∧(Am.sizeN T 84=some 1)∧(Am.isAgg? T 84=some false)∧(T.zero 84=some [.nilMap])∧(Am.sizeN T 89=some 1)∧(Am.isAgg? T 89=some false)∧(Am.sizeN T 91=some 1)∧(Am.isAgg? T 91=some false)∧(T.zero 91=some [.nilFunc])∧(Am.sizeN T 92=some 1)∧(Am.isAgg? T 92=some false)∧(Am.sizeN T 95=some 1)∧(Am.isAgg? T 95=some false)∧(T.zero 95=some [.nilFunc])∧(Am.sizeN T 108=some 1)∧(Am.isAgg? T 108=some false)∧(Am.sizeN T 109=some 1)∧(Am.isAgg? T 109=some false)∧(T.zero 109=some [.nilFunc])∧(Am.sizeN T 119=some 1)∧(Am.isAgg? T 119=some false)∧(Am.sizeN T 124=some 1)∧(Am.isAgg? T 124=some false)∧(T.zero 124=some [.int .u64 0])∧(Am.sizeN T 126=some 1)∧(Am.isAgg? T 126=some false)∧(T.zero 126=some [.nilFunc])∧(Am.sizeN T 127=some 1)∧(Am.isAgg? T 127=some false)∧(T.zero 127=some [.int .u8 0])∧(Am.sizeN T 128=some 1)∧(Am.isAgg? T 128=some false)∧(T.zero 128=some [.nilPtr])∧(Am.sizeN T 129=some 1)∧(Am.isAgg? T 129=some false)∧(Am.sizeN T 130=some 0)∧(Am.isAgg? T 130=some true)∧(T.zero 130=some [])∧(Am.sizeN T 131=some 1)∧(Am.isAgg? T 131=some false)∧(T.zero 131=some [.nilFunc])∧(Am.isStruct T 133=true)∧(Am.fldSz T 133 0=some (0,1))∧(Am.fldSz T 133 1=some (1,1))∧(Am.Vm.fldTy T 133 0=some (9,0))∧(Am.Vm.fldTy T 133 1=some (131,1))∧(Am.fldAt T 133 0=some 0)∧(Am.fldAt T 133 1=some 1)∧(Am.sizeN T 133=some 2)∧(Am.isAgg? T 133=some true)∧(T.zero 133=some [.str [],.nilFunc])∧(Am.Vm.isArr T 134=true)∧(Am.Vm.arrOf T 134=some (5,133,2))∧(Am.sizeN T 134=some 10)∧(Am.isAgg? T 134=some true)∧(T.zero 134=some [.str [],.nilFunc,.str [],.nilFunc,.str [],.nilFunc,.str [],.nilFunc,.str [],.nilFunc])∧(Am.isStruct T 136=true)∧(Am.fldSz T 136 0=some (0,1))∧(Am.fldSz T 136 1=some (1,1))∧(Am.fldSz T 136 2=some (2,1))∧(Am.Vm.fldTy T 136 0=some (3,0))∧(Am.Vm.fldTy T 136 1=some (3,1))∧(Am.Vm.fldTy T 136 2=some (24,2))∧(Am.fldAt T 136 0=some 0)∧(Am.fldAt T 136 1=some 1)∧(Am.fldAt T 136 2=some 2)∧(Am.sizeN T 136=some 3)∧(Am.isAgg? T 136=some true)∧(T.zero 136=some [.int .i64 0,.int .i64 0,.nilSlice])∧(Am.isSlice T 139=true)∧(Am.mkOk T 139=true)∧(Am.esz T 139=1)∧(Am.ebytes T 139=24)∧(Am.ezero T 139=[.nilSlice])∧(Am.elemSize T 139=some 1)∧(Am.appOk T 139 139=some (1,24))∧(Am.sizeN T 139=some 1)∧(Am.isAgg? T 139=some false)∧(T.zero 139=some [.nilSlice])∧(Am.sizeN T 140=some 1)∧(Am.isAgg? T 140=some false)∧(T.zero 140=some [.nilFunc])∧(Am.sizeN T 144=some 1)∧(Am.isAgg? T 144=some false)∧(T.zero 144=some [.nilFunc])∧(Am.isStruct T 155=true)∧(Am.fldSz T 155 0=some (0,1))∧(Am.fldSz T 155 1=some (1,1))∧(Am.fldSz T 155 2=some (2,1))∧(Am.fldSz T 155 3=some (3,1))∧(Am.fldSz T 155 4=some (4,1))∧(Am.fldSz T 155 5=some (5,1))∧(Am.fldSz T 155 6=some (6,1))∧(Am.fldSz T 155 7=some (7,1))∧(Am.Vm.fldTy T 155 0=some (3,0))∧(Am.Vm.fldTy T 155 1=some (3,1))∧(Am.Vm.fldTy T 155 2=some (9,2))∧(Am.Vm.fldTy T 155 3=some (3,3))∧(Am.Vm.fldTy T 155 4=some (95,4))∧(Am.Vm.fldTy T 155 5=some (95,5))∧(Am.Vm.fldTy T 155 6=some (4,6))∧(Am.Vm.fldTy T 155 7=some (4,7))∧(Am.fldAt T 155 0=some 0)∧(Am.fldAt T 155 1=some 1)∧(Am.fldAt T 155 2=some 2)∧(Am.fldAt T 155 3=some 3)∧(Am.fldAt T 155 4=some 4)∧(Am.fldAt T 155 5=some 5)∧(Am.fldAt T 155 6=some 6)∧(Am.fldAt T 155 7=some 7)∧(Am.sizeN T 155=some 8)∧(Am.isAgg? T 155=some true)∧(T.zero 155=some [.int .i64 0,.int .i64 0,.str [],.int .i64 0,.nilFunc,.nilFunc,.bool false,.bool false])∧(Am.sizeN T 156=some 1)∧(Am.isAgg? T 156=some false)∧(Am.isStruct T 162=true)∧(Am.fldSz T 162 0=some (0,1))∧(Am.fldSz T 162 1=some (1,1))∧(Am.fldSz T 162 2=some (2,1))∧(Am.Vm.fldTy T 162 0=some (3,0))∧(Am.Vm.fldTy T 162 1=some (3,1))∧(Am.Vm.fldTy T 162 2=some (109,2))∧(Am.fldAt T 162 0=some 0)∧(Am.fldAt T 162 1=some 1)∧(Am.fldAt T 162 2=some 2)∧(Am.sizeN T 162=some 3)∧(Am.isAgg? T 162=some true)∧(T.zero 162=some [.int .i64 0,.int .i64 0,.nilFunc])∧(Am.isSlice T 163=true)∧(Am.mkOk T 163=true)∧(Am.esz T 163=3)∧(Am.ebytes T 163=24)∧(Am.ezero T 163=[.int .i64 0,.int .i64 0,.nilFunc])∧(Am.elemSize T 163=some 3)∧(Am.appOk T 163 163=some (3,24))∧(Am.sizeN T 163=some 1)∧(Am.isAgg? T 163=some false)∧(T.zero 163=some [.nilSlice])∧(Am.isStruct T 171=true)∧(Am.fldSz T 171 0=some (0,1))∧(Am.fldSz T 171 1=some (1,1))∧(Am.fldSz T 171 2=some (2,1))∧(Am.fldSz T 171 3=some (3,1))∧(Am.Vm.fldTy T 171 0=some (3,0))∧(Am.Vm.fldTy T 171 1=some (3,1))∧(Am.Vm.fldTy T 171 2=some (3,2))∧(Am.Vm.fldTy T 171 3=some (9,3))∧(Am.fldAt T 171 0=some 0)∧(Am.fldAt T 171 1=some 1)∧(Am.fldAt T 171 2=some 2)∧(Am.fldAt T 171 3=some 3)∧(Am.sizeN T 171=some 4)∧(Am.isAgg? T 171=some true)∧(T.zero 171=some [.int .i64 0,.int .i64 0,.int .i64 0,.str []])∧(Am.sizeN T 172=some 1)∧(Am.isAgg? T 172=some false)∧(Am.sizeN T 179=some 1)∧(Am.isAgg? T 179=some false)∧(T.zero 179=some [.nilFunc])∧(Am.isSlice T 181=true)∧(Am.mkOk T 181=true)∧(Am.esz T 181=4)∧(Am.ebytes T 181=40)∧(Am.ezero T 181=[.int .i64 0,.int .i64 0,.int .i64 0,.str []])∧(Am.elemSize T 181=some 4)∧(Am.appOk T 181 181=some (4,40))∧(Am.sizeN T 181=some 1)∧(Am.isAgg? T 181=some false)∧(T.zero 181=some [.nilSlice])∧(Am.isSlice T 183=true)∧(Am.mkOk T 183=true)∧(Am.esz T 183=8)∧(Am.ebytes T 183=64)∧(Am.ezero T 183=[.int .i64 0,.int .i64 0,.str [],.int .i64 0,.nilFunc,.nilFunc,.bool false,.bool false])∧(Am.elemSize T 183=some 8)∧(Am.appOk T 183 183=some (8,64))∧(Am.sizeN T 183=some 1)∧(Am.isAgg? T 183=some false)∧(T.zero 183=some [.nilSlice])∧(Am.sizeN T 186=some 1)∧(Am.isAgg? T 186=some false)∧(T.zero 186=some [.nilFunc])∧(Am.sizeN T 187=some 1)∧(Am.isAgg? T 187=some false)∧(T.zero 187=some [.int .i64 0])∧(Am.sizeN T 188=some 1)∧(Am.isAgg? T 188=some false)∧(Am.sizeN T 189=some 1)∧(Am.isAgg? T 189=some false)∧(T.zero 189=some [.nilFunc])∧(Am.isSlice T 191=true)∧(Am.mkOk T 191=true)∧(Am.esz T 191=1)∧(Am.ebytes T 191=8)∧(Am.ezero T 191=[.int .i64 0])∧(Am.elemSize T 191=some 1)∧(Am.appOk T 191 191=some (1,8))∧(Am.sizeN T 191=some 1)∧(Am.isAgg? T 191=some false)∧(T.zero 191=some [.nilSlice])∧(Am.Vm.isArr T 192=true)∧(Am.Vm.arrOf T 192=some (4,189,1))∧(Am.sizeN T 192=some 4)∧(Am.isAgg? T 192=some true)∧(T.zero 192=some [.nilFunc,.nilFunc,.nilFunc,.nilFunc])∧(Am.sizeN T 193=some 1)∧(Am.isAgg? T 193=some false)∧(Am.Vm.isArr T 194=true)∧(Am.Vm.arrOf T 194=some (3,140,1))∧(Am.sizeN T 194=some 3)∧(Am.isAgg? T 194=some true)∧(T.zero 194=some [.nilFunc,.nilFunc,.nilFunc])∧(Am.sizeN T 196=some 1)∧(Am.isAgg? T 196=some false)∧(T.zero 196=some [.nilPtr])∧(Am.isStruct T 200=true)∧(Am.fldSz T 200 0=some (0,1))∧(Am.Vm.fldTy T 200 0=some (24,0))∧(Am.fldAt T 200 0=some 0)∧(Am.sizeN T 200=some 1)∧(Am.isAgg? T 200=some true)∧(T.zero 200=some [.nilSlice])∧(Am.isStruct T 202=true)∧(Am.fldSz T 202 0=some (0,1))∧(Am.Vm.fldTy T 202 0=some (200,0))∧(Am.fldAt T 202 0=some 0)∧(Am.sizeN T 202=some 1)∧(Am.isAgg? T 202=some true)∧(T.zero 202=some [.nilSlice])∧(Am.sizeN T 204=some 1)∧(Am.isAgg? T 204=some false)∧(Am.sizeN T 206=some 1)∧(Am.isAgg? T 206=some false)∧(T.zero 206=some [.int .i64 0])∧(Am.sizeN T 207=some 1)∧(Am.isAgg? T 207=some false)∧(Am.sizeN T 208=some 1)∧(Am.isAgg? T 208=some false)∧(T.zero 208=some [.nilFunc])∧(Am.sizeN T 210=some 1)∧(Am.isAgg? T 210=some false)∧(T.zero 210=some [.nilFunc])∧(Am.sizeN T 215=some 1)∧(Am.isAgg? T 215=some false)∧(T.zero 215=some [.nilFunc])∧(Am.sizeN T 216=some 1)∧(Am.isAgg? T 216=some false)∧(T.zero 216=some [.nilFunc])∧(Am.sizeN T 218=some 1)∧(Am.isAgg? T 218=some false)∧(T.zero 218=some [.nilPtr])∧(Am.Vm.isArr T 220=true)∧(Am.Vm.arrOf T 220=some (3,208,1))∧(Am.sizeN T 220=some 3)∧(Am.isAgg? T 220=some true)∧(T.zero 220=some [.nilFunc,.nilFunc,.nilFunc])∧(Am.isStruct T 226=true)∧(Am.fldSz T 226 0=some (0,1))∧(Am.fldSz T 226 1=some (1,1))∧(Am.fldSz T 226 2=some (2,1))∧(Am.fldSz T 226 3=some (3,1))∧(Am.Vm.fldTy T 226 0=some (17,0))∧(Am.Vm.fldTy T 226 1=some (17,1))∧(Am.Vm.fldTy T 226 2=some (17,2))∧(Am.Vm.fldTy T 226 3=some (9,3))∧(Am.fldAt T 226 0=some 0)∧(Am.fldAt T 226 1=some 1)∧(Am.fldAt T 226 2=some 2)∧(Am.fldAt T 226 3=some 3)∧(Am.sizeN T 226=some 4)∧(Am.isAgg? T 226=some true)∧(T.zero 226=some [.nilPtr,.nilPtr,.nilPtr,.str []])∧(Am.Vm.cvOf T 3 101=some (.int .u64))∧(Am.Vm.cvOf T 3 124=some (.int .u64))∧(Am.Vm.cvOf T 206 124=some (.int .u64))∧(Am.Vm.cvOf T 5 3=some (.int .i64))∧(Am.Vm.cvOf T 101 3=some (.int .i64))∧(Am.Vm.cvOf T 124 3=some (.int .i64)):=by
 refine ⟨?_,?_,?_,?_,?_,?_,?_,?_,?_,?_,?_,?_,?_,?_,?_,?_,?_,?_,?_,?_,?_,?_,?_,?_,?_,?_,?_,?_,?_,?_,?_,?_,?_,?_,?_,?_,?_,?_,?_,?_,?_,?_,?_,?_,?_,?_,?_,?_,?_,?_,?_,?_,?_,?_,?_,?_,?_,?_,?_,?_,?_,?_,?_,?_,?_,?_,?_,?_,?_,?_,?_,?_,?_,?_,?_,?_,?_,?_,?_,?_,?_,?_,?_,?_,?_,?_,?_,?_,?_,?_,?_,?_,?_,?_,?_,?_,?_,?_,?_,?_,?_,?_,?_,?_,?_,?_,?_,?_,?_,?_,?_,?_,?_,?_,?_,?_,?_,?_,?_,?_,?_,?_,?_,?_,?_,?_,?_,?_,?_,?_,?_,?_,?_,?_,?_,?_,?_,?_,?_,?_,?_,?_,?_,?_,?_,?_,?_,?_,?_,?_,?_,?_,?_,?_,?_,?_,?_,?_,?_,?_,?_,?_,?_,?_,?_,?_,?_,?_,?_,?_,?_,?_,?_,?_,?_,?_,?_,?_,?_,?_,?_,?_,?_,?_,?_,?_,?_,?_,?_,?_,?_,?_,?_,?_,?_,?_,?_,?_,?_,?_,?_,?_,?_,?_,?_,?_,?_,?_,?_,?_,?_,?_,?_,?_,?_,?_,?_,?_,?_,?_,?_,?_,?_,?_,?_,?_,?_,?_,?_,?_,?_,?_,?_,?_,?_,?_,?_,?_,?_,?_,?_,?_,?_,?_,?_,?_,?_,?_,?_,?_,?_,?_,?_,?_,?_,?_,?_,?_,?_,?_,?_,?_,?_,?_,?_,?_,?_,?_,?_,?_,?_,?_,?_,?_,?_,?_,?_,?_,?_,?_,?_,?_,?_,?_,?_,?_,?_,?_,?_,?_,?_,?_,?_,?_,?_,?_,?_,?_,?_,?_,?_,?_,?_,?_,?_,?_,?_,?_,?_,?_,?_,?_,?_,?_,?_,?_,?_,?_,?_,?_,?_,?_,?_,?_,?_,?_,?_,?_,?_,?_,?_,?_,?_,?_,?_,?_,?_,?_,?_,?_,?_,?_,?_,?_,?_,?_,?_,?_,?_,?_,?_,?_,?_,?_,?_,?_,?_,?_,?_,?_,?_,?_,?_,?_,?_,?_,?_,?_,?_,?_,?_,?_,?_,?_,?_,?_,?_,?_,?_,?_,?_,?_,?_,?_,?_,?_,?_,?_,?_,?_,?_,?_,?_,?_,?_,?_,?_,?_,?_,?_,?_,?_,?_,?_,?_,?_,?_,?_,?_,?_,?_,?_,?_,?_,?_,?_,?_,?_,?_,?_,?_,?_,?_,?_,?_,?_,?_,?_,?_,?_,?_,?_,?_,?_,?_,?_,?_,?_,?_,?_,?_,?_,?_,?_,?_,?_,?_,?_,?_,?_,?_,?_,?_,?_,?_,?_,?_,?_,?_,?_,?_⟩ <;> kernel_rfl
set_option linter.unusedSimpArgs false
set_option linter.unusedVariables false
set_option maxRecDepth 8000
structure Sta where
 t:Int
 n:Int
 l:List Int
 deriving DecidableEq
structure Rt where
 k:Int
 n:Int
 deriving DecidableEq
structure Opr where
 k:Int
 a:Int
 b:Int
 r:Rt
 deriving DecidableEq
structure Act where
 o:Int
 op:Opr
 deriving DecidableEq
structure Tra where
 name:List UInt8
 b:Int
 c:Int
 acts:List Act
 at_:List Int
 deriving DecidableEq
structure Cas where
 names:List (List UInt8)
 first:List Sta
 trans:List Tra
 deriving DecidableEq
def dI (n:Int):List Vm.D:=[.atom (.int .i64 n)]
def dS (s:Sta):List Vm.D:=[.atom (.int .i64 s.t),.atom (.int .i64 s.n),.imm 1 (s.l.map dI)]
def dF (s:Sta):List Vm.D:=[.atom (.int .i64 s.t),.atom (.int .i64 s.n),.fresh 1 (s.l.map dI)]
def dR (r:Rt):List Vm.D:=[.atom (.int .i64 r.k),.atom (.int .i64 r.n)]
def dO (p:Opr):List Vm.D:=[.atom (.int .i64 p.k),.atom (.int .i64 p.a),.atom (.int .i64 p.b),.atom (.int .i64 p.r.k),.atom (.int .i64 p.r.n)]
def dA (a:Act):List Vm.D:=[.atom (.int .i64 a.o),.atom (.int .i64 a.op.k),.atom (.int .i64 a.op.a),.atom (.int .i64 a.op.b),.atom (.int .i64 a.op.r.k),.atom (.int .i64 a.op.r.n)]
def dT (t:Tra):List Vm.D:=[.atom (.str t.name),.atom (.int .i64 t.b),.atom (.int .i64 t.c),.imm 6 (t.acts.map dA),.imm 1 (t.at_.map dI)]
def z0:Sta:=⟨0,0,[]⟩
def r0:Rt:=⟨0,0⟩
structure Ans where
 s:Sta
 r:Rt
 e:Int
def dAns (q:Ans):Vm.D:=.tuple [.agg (dF q.s),.agg (dR q.r),.atom (.int .i64 q.e)]
def bad (e:Int):Ans:=⟨z0,r0,e⟩
theorem nlR_dI (xs:List Int):Vm.nlR (xs.map dI)=true:=Vm.nlR_map (fun x=>rfl) xs
theorem imLL_I:∀ xs:List Int,Vm.imLL (xs.map dI)=xs.map dI
 | []=>rfl
 | x::xs=>by simp only [List.map_cons,Vm.imLL,imLL_I xs];rfl
theorem fz_I (k:Nat) (cs:List Vm.D) (xs:List Int):(xs.map dI).map (Vm.fzL k cs)=xs.map dI:=by simp [dI,Vm.fzL,Vm.fzD]
def wr (n:Int):Int:=IntKind.i64.wrap n
theorem wr_u (a b:Int):IntKind.i64.wrap (IntKind.u64.wrap (IntKind.u64.wrap a+IntKind.u64.wrap b))=wr (a+b):=by
 have h:IntKind.u64.wrap (IntKind.u64.wrap a+IntKind.u64.wrap b)=(a+b) % 2 ^ 64:=by
  simp only [IntKind.wrap,IntKind.bits,IntKind.signed,Bool.false_and,Bool.false_eq_true,if_false,← Int.add_emod,Int.emod_emod]
 have e:(a+b) % 2 ^ 64 % (2 ^ IntKind.i64.bits:Int)=(a+b) % (2 ^ IntKind.i64.bits:Int):=Int.emod_emod_of_dvd _ (Int.dvd_refl _);rw [h];unfold wr IntKind.wrap;rw [e]
theorem wrap_v (a b:Int):Vm.VC T 196 [.atom (.int .i64 a),.atom (.int .i64 b)] fun d=>d=.atom (.int .i64 (wr (a+b))):=by
 refine Vm.ve (T:=T) Tryz.func196 fun g hB hG0 hU=>?_;simp only [Tryz.f196,Vm.aC,Vm.aN,Nat.reduceAdd];refine Vm.rn True.intro ?_;exact Vm.rx (Vm.cl @wr_u)
theorem rwrap_v (a b:Int):Vm.VC T 142 [.atom (.int .i64 a),.atom (.int .i64 b)] fun d=>d=.atom (.int .i64 (wr (a+b))):=by
 refine Vm.ve (T:=T) Tryz.func142 fun g hB hG0 hU=>?_;simp only [Tryz.f142,Vm.aC,Vm.aN,Nat.reduceAdd];refine Vm.rn True.intro ?_;exact Vm.rx (Vm.cl @wr_u)
def kindD (w:List UInt8) (f:FuncId):List Vm.D:=[.atom (.str w),.atom (.func (.func f) [] [])]
def kindsD:Vm.D:=.agg (kindD [99,111,117,110,116,101,114] 130++(kindD [115,101,116] 131++(kindD [109,97,112] 132++(kindD [113,117,101,117,101] 133++kindD [101,115,99,114,111,119] 134))))
theorem kinds_v:Vm.VC T 103 [] fun d=>d=kindsD:=by
 refine Vm.ve (T:=T) Tryz.func103 fun g hB hG0 hU=>?_;simp only [Tryz.f103,Vm.aC,Vm.aN,Nat.reduceAdd];refine Vm.rn @Vm.overD.eq_1 ?_;exact Vm.rx (Vm.cl (ai @kindsD.eq_1 @kindD.eq_1))
theorem typed_v (n:Int):Vm.VC T 102 [.atom (.int .i64 n)] fun d=>d=.atom (.bool (decide (1≤n∧n≤5))):=by
 refine Vm.ve (T:=T) Tryz.func102 fun g hB hG0 hU=>?_;simp only [Tryz.f102,Vm.aC,Vm.aN,Nat.reduceAdd]
 by_cases h1:1≤n
 ·refine Vm.rn @h1 ?_;refine Vm.cq (ai @kindsD.eq_1 @kindD.eq_1) (kinds_v) ?_;exact Vm.rx (Vm.cl @h1)
 ·refine Vm.rn @h1 ?_;exact Vm.rx (Vm.cl @h1)
/-! ### States in their form -/
def Rises (l:List Int) (k:Nat):Prop:=∀ j:Nat,(j+1) * k<l.length→l.getD (j * k) 0<l.getD ((j+1) * k) 0
open Classical in
noncomputable def risesB (l:List Int) (k:Nat):Bool:=decide (Rises l k)
theorem dI_get {l:List Int} {i:Nat} (h:i<l.length):(l.map dI)[i]?=some (dI (l.getD i 0)):=by
 simp [List.getElem?_map,List.getD_eq_getElem?_getD,List.getElem?_eq_getElem h]
noncomputable def setB (s:Sta):Bool:=decide (s.n=0) && risesB s.l 1
noncomputable def pairsB (s:Sta):Bool:=decide (s.n=0) && (decide (s.l.length % 2=0) && risesB s.l 2)
def aloneB (s:Sta):Bool:=decide (s.l=[])
def listB (s:Sta):Bool:=decide (s.n=0)
def moneyB (s:Sta):Bool:=decide (s.l=[]) && (decide (0≤s.n) && decide (s.n≤4611686018427387904))
noncomputable def formB (s:Sta):Bool:=if s.t=1 then aloneB s else if s.t=2 then setB s else if s.t=3 then pairsB s else if s.t=4 then listB s else moneyB s
noncomputable def checkS (s:Sta):Int:=if 1≤s.t∧s.t≤5 then if formB s=true then 0 else 5 else 8
theorem len0 {α:Type} (l:List α):((l.length:Int)=0)=(l=[]):=by
 rw [eq_iff_iff];cases l <;> simp;omega
theorem alone_v (s:Sta):Vm.VC T 130 [.agg (dS s)] fun d=>d=.atom (.bool (aloneB s)):=by
 refine Vm.ve (T:=T) Tryz.func130 fun g hB hG0 hU=>?_;simp only [Tryz.f130,Vm.aC,Vm.aN,Nat.reduceAdd];refine Vm.rn @dS.eq_1 ?_;exact Vm.rx (Vm.cl (ai @len0 @aloneB.eq_1))
theorem rises_step {l:List Int} {k i j:Nat} (hk:1≤k) (hi:i=(j+1) * k) (hj:∀ m,m<j→l.getD (m * k) 0<l.getD ((m+1) * k) 0) (hlt:i<l.length) :
  (l.getD i 0≤l.getD (i - k) 0→risesB l k=false)∧(¬ l.getD i 0≤l.getD (i - k) 0→∀ m,m<j+1→l.getD (m * k) 0<l.getD ((m+1) * k) 0):=by
 have e:i - k=j * k:=by rw [hi,Nat.add_mul];omega
 rw [e];subst hi;refine ⟨fun h=>?_,fun h m hm=>?_⟩
 ·simp only [risesB,decide_eq_false_iff_not];intro hr;have:=hr j hlt;omega
 ·rcases Nat.lt_or_ge m j with h1 | h1
  ·exact hj m h1
  ·have:m=j:=by omega
   subst this;omega
theorem rises_end {l:List Int} {k i j:Nat} (hk:1≤k) (hi:i=(j+1) * k) (hj:∀ m,m<j→l.getD (m * k) 0<l.getD ((m+1) * k) 0) (hge:l.length≤i):risesB l k=true:=by
 simp only [risesB,decide_eq_true_eq];intro m hm;apply hj;rcases Nat.lt_or_ge m j with h | h
 ·exact h
 ·have:(j+1) * k≤(m+1) * k:=Nat.mul_le_mul_right k (by omega);omega
theorem frises_v (s:Sta) (k:Nat) (hk:1≤k) (hk2:k≤2) (hl:s.l.length<1000000000):Vm.VC T 155 [.agg (dS s),.atom (.int .i64 k)] fun d=>d=.atom (.bool (risesB s.l k)):=by
 refine Vm.ve (T:=T) Tryz.func155 fun g hB hG0 hU=>?_;simp only [Tryz.f155,Vm.aC,Vm.aN,Nat.reduceAdd];refine Vm.rn @dS.eq_1 ?_;refine Vm.sk_loop (fun i:Nat=>s.l.length+2 - i) (fun i=>⟨[(5,.atom (.int .i64 i)),(4,.atom (.bool false)),(2,.rptr 0 0),(1,.atom (.int .i64 k))],[.cell [.atom (.int .i64 s.t),.atom (.int .i64 s.n),.imm 1 (s.l.map dI)]],28⟩) (fun i=>k≤i∧i<s.l.length+2+k∧∃ j,i=(j+1) * k∧∀ m,m<j→s.l.getD (m * k) 0<s.l.getD ((m+1) * k) 0) k ?_ ⟨by omega,by omega,0,by omega,fun m h=>by omega⟩ ?_
 ·exact Vm.lx (Vm.cl True.intro)
 rintro i ⟨h1,h2,j,hj,hm⟩ ih;refine Vm.rn True.intro ?_;refine Vm.sb_dec (fun hlt=>?_) (fun hge=>?_)
 ·have hlt':i<s.l.length:=by omega
  have hx:=dI_get hlt';have hy:=dI_get (l:=s.l) (i:=i - k) (by omega);obtain ⟨q1,q2⟩:=rises_step hk hj hm hlt';refine Vm.rn True.intro ?_;refine Vm.dw 13 [0,1,2,3,4,5,6,7,8,9,10,11,12] ?_;refine Vm.rn (ai @hx<|ai @hy<|ai @dI.eq_1 @Int.toNat_sub) ?_;refine Vm.sb_dec (fun hle=>?_) (fun hgt=>?_)
  ·refine Vm.rn True.intro ?_;refine Vm.rz True.intro ?_;rw [q1 hle]
  ·refine Vm.rn True.intro ?_;refine ih (i+k) _ (by dsimp only;omega) ⟨by omega,by omega,j+1,by rw [hj,Nat.add_mul (j+1)];omega,q2 hgt⟩ ?_;exact Vm.lx (Vm.cl True.intro)
 ·refine Vm.rn True.intro ?_;refine Vm.rz True.intro ?_;rw [rises_end hk hj hm (by omega)]
set_option linter.defProp false in
def cw:=And.intro @wpK_skip<|And.intro @wpK_region<|And.intro @wpO_cons<|And.intro @wpOW_true<|And.intro @xo_assign<|And.intro @op1_nilSlice<|And.intro @wpX_val<|And.intro @wpO_nil<|And.intro @unw_sq<|And.intro @xo_move<|And.intro @op1_tmp<|And.intro @A.tmp_puts<|And.intro @start_n<|And.intro @start_tmp<|And.intro @List.getD_cons_zero.{0}<|And.intro @xo_binOp<|And.intro @bin_eql_nilS<|And.intro @A.n_put<|And.intro @Option.map_some.{0,0}<|And.intro @ofV_some<|And.intro @wpK_condB<|And.intro @wpK_ret<|And.intro @unw_sq_ret<|And.intro @unw_nil<|And.intro @retQ_ret<|And.intro @A.defers_put<|And.intro @start_defers<|And.intro @leave_nil<|And.intro @wpK_seq<|And.intro @xo_buildSlice0<|And.intro @xo_call<|And.intro @callOp_builtin<|And.intro @evals_tmp<|And.intro @evals_nil<|And.intro @b_append<|And.intro @ofVH_some<|And.intro @pack_one<|And.intro @wpO_cons<|And.intro @eq_self.{1}<|And.intro @false_and<|And.intro @and_false<|And.intro @and_true @true_and
theorem cloneI_v {es:List (List Vm.D)} (hlen:es.length<1000000000):Vm.VC T 64 [.imm 1 es] fun d=>d=.fresh 1 es:=by
 refine Vm.vc_clone fun H v rows wf hl hone hle=>?_;refine Am.calls_enter (T:=T) rfl Tryz.func64 rfl (by simp only [Tryz.f64,List.length_cons,List.length_nil];decide) ?_;simp only [Tryz.f64];obtain ⟨b,hb,hbt⟩:=hl.isNil;simp (maxSteps:=10000000) (disch:=first | assumption | (simp only [tyfacts,Am.wd,Nat.reduceEqDiff,Nat.reduceLT,reduceCtorEq];try omega;done) | omega) only [Am.wanted,Am.isAlloc,cw,Am.reads,Am.quiet,Am.over,Nat.testBit,Nat.reduceShiftRight,Nat.reduceAnd,Nat.reduceBNe,Nat.reduceLeDiff,Nat.reduceAdd,Nat.reduceMul,Nat.reduceLT,Nat.reduceEqDiff,Nat.reduceSub,reduceCtorEq,↓reduceIte,tyfacts,hb];refine wpB_bool (fun he=>?_) (fun he=>?_)
 ·simp (maxSteps:=10000000) (disch:=first | assumption | (simp only [tyfacts,Am.wd,Nat.reduceEqDiff,Nat.reduceLT,reduceCtorEq];try omega;done) | omega) only [Am.wanted,Am.isAlloc,cw,Am.reads,Am.quiet,Am.over,Nat.testBit,Nat.reduceShiftRight,Nat.reduceAnd,Nat.reduceBNe,Nat.reduceLeDiff,Nat.reduceAdd,Nat.reduceMul,Nat.reduceLT,Nat.reduceEqDiff,Nat.reduceSub,reduceCtorEq,↓reduceIte,tyfacts];have hxs:rows=[]:=(hbt he).2;subst hxs;exact ⟨Mine.nil _ _ _,Ext.refl wf⟩
 ·simp (maxSteps:=10000000) (disch:=first | assumption | (simp only [tyfacts,Am.wd,Nat.reduceEqDiff,Nat.reduceLT,reduceCtorEq];try omega;done) | omega) only [Am.wanted,Am.isAlloc,cw,Am.reads,Am.quiet,Am.over,Nat.testBit,Nat.reduceShiftRight,Nat.reduceAnd,Nat.reduceBNe,Nat.reduceLeDiff,Nat.reduceAdd,Nat.reduceMul,Nat.reduceLT,Nat.reduceEqDiff,Nat.reduceSub,reduceCtorEq,↓reduceIte,tyfacts];have hx:Ext H (H.push (.cells false [])):=(Ext.refl wf).push _;have ha:appOk T 24 24=some (1,8):=by simp only [tyfacts]
  have hap:=append_own (Mine.empty wf (Nat.le_refl _) 1) hx.wf hx.n ha (hl.mono hx) hone (by simp only [List.length_nil];omega) (by simp only [List.length_nil];omega);obtain ⟨r,H',h1,h2,h3,h4⟩:=hap;simp (maxSteps:=10000000) (disch:=first | assumption | (simp only [tyfacts,Am.wd,Nat.reduceEqDiff,Nat.reduceLT,reduceCtorEq];try omega;done) | omega) only [Am.wanted,Am.isAlloc,cw,Am.reads,Am.quiet,Am.over,Nat.testBit,Nat.reduceShiftRight,Nat.reduceAnd,Nat.reduceBNe,Nat.reduceLeDiff,Nat.reduceAdd,Nat.reduceMul,Nat.reduceLT,Nat.reduceEqDiff,Nat.reduceSub,reduceCtorEq,↓reduceIte,tyfacts,h1];refine ⟨by simpa [pack_one,A.tmp_puts,A.n_put,start_n] using h2,hx.thenB h3 fun l hl=>?_⟩;have:=of_slice.1 hl;omega
theorem cloneL_v {es:List (List Vm.D)} (hlen:es.length<1000000000):Vm.VC T 201 [.imm 1 es] fun d=>d=.fresh 1 es:=by
 refine Vm.vc_clone fun H v rows wf hl hone hle=>?_;refine Am.calls_enter (T:=T) rfl Tryz.func201 rfl (by simp only [Tryz.f201,List.length_cons,List.length_nil];decide) ?_;simp only [Tryz.f201];obtain ⟨b,hb,hbt⟩:=hl.isNil;simp (maxSteps:=10000000) (disch:=first | assumption | (simp only [tyfacts,Am.wd,Nat.reduceEqDiff,Nat.reduceLT,reduceCtorEq];try omega;done) | omega) only [Am.wanted,Am.isAlloc,cw,Am.reads,Am.quiet,Am.over,Nat.testBit,Nat.reduceShiftRight,Nat.reduceAnd,Nat.reduceBNe,Nat.reduceLeDiff,Nat.reduceAdd,Nat.reduceMul,Nat.reduceLT,Nat.reduceEqDiff,Nat.reduceSub,reduceCtorEq,↓reduceIte,tyfacts,hb];refine wpB_bool (fun he=>?_) (fun he=>?_)
 ·simp (maxSteps:=10000000) (disch:=first | assumption | (simp only [tyfacts,Am.wd,Nat.reduceEqDiff,Nat.reduceLT,reduceCtorEq];try omega;done) | omega) only [Am.wanted,Am.isAlloc,cw,Am.reads,Am.quiet,Am.over,Nat.testBit,Nat.reduceShiftRight,Nat.reduceAnd,Nat.reduceBNe,Nat.reduceLeDiff,Nat.reduceAdd,Nat.reduceMul,Nat.reduceLT,Nat.reduceEqDiff,Nat.reduceSub,reduceCtorEq,↓reduceIte,tyfacts];have hxs:rows=[]:=(hbt he).2;subst hxs;exact ⟨Mine.nil _ _ _,Ext.refl wf⟩
 ·simp (maxSteps:=10000000) (disch:=first | assumption | (simp only [tyfacts,Am.wd,Nat.reduceEqDiff,Nat.reduceLT,reduceCtorEq];try omega;done) | omega) only [Am.wanted,Am.isAlloc,cw,Am.reads,Am.quiet,Am.over,Nat.testBit,Nat.reduceShiftRight,Nat.reduceAnd,Nat.reduceBNe,Nat.reduceLeDiff,Nat.reduceAdd,Nat.reduceMul,Nat.reduceLT,Nat.reduceEqDiff,Nat.reduceSub,reduceCtorEq,↓reduceIte,tyfacts];have hx:Ext H (H.push (.cells false [])):=(Ext.refl wf).push _;have ha:appOk T 191 191=some (1,8):=by simp only [tyfacts]
  have hap:=append_own (Mine.empty wf (Nat.le_refl _) 1) hx.wf hx.n ha (hl.mono hx) hone (by simp only [List.length_nil];omega) (by simp only [List.length_nil];omega);obtain ⟨r,H',h1,h2,h3,h4⟩:=hap;simp (maxSteps:=10000000) (disch:=first | assumption | (simp only [tyfacts,Am.wd,Nat.reduceEqDiff,Nat.reduceLT,reduceCtorEq];try omega;done) | omega) only [Am.wanted,Am.isAlloc,cw,Am.reads,Am.quiet,Am.over,Nat.testBit,Nat.reduceShiftRight,Nat.reduceAnd,Nat.reduceBNe,Nat.reduceLeDiff,Nat.reduceAdd,Nat.reduceMul,Nat.reduceLT,Nat.reduceEqDiff,Nat.reduceSub,reduceCtorEq,↓reduceIte,tyfacts,h1];refine ⟨by simpa [pack_one,A.tmp_puts,A.n_put,start_n] using h2,hx.thenB h3 fun l hl=>?_⟩;have:=of_slice.1 hl;omega
theorem cloneS_v {es:List (List Vm.D)} (hlen:es.length<1000000000):Vm.VC T 79 [.imm 3 es] fun d=>d=.fresh 3 es:=by
 refine Vm.vc_clone fun H v rows wf hl hone hle=>?_;refine Am.calls_enter (T:=T) rfl Tryz.func79 rfl (by simp only [Tryz.f79,List.length_cons,List.length_nil];decide) ?_;simp only [Tryz.f79];obtain ⟨b,hb,hbt⟩:=hl.isNil;simp (maxSteps:=10000000) (disch:=first | assumption | (simp only [tyfacts,Am.wd,Nat.reduceEqDiff,Nat.reduceLT,reduceCtorEq];try omega;done) | omega) only [Am.wanted,Am.isAlloc,cw,Am.reads,Am.quiet,Am.over,Nat.testBit,Nat.reduceShiftRight,Nat.reduceAnd,Nat.reduceBNe,Nat.reduceLeDiff,Nat.reduceAdd,Nat.reduceMul,Nat.reduceLT,Nat.reduceEqDiff,Nat.reduceSub,reduceCtorEq,↓reduceIte,tyfacts,hb];refine wpB_bool (fun he=>?_) (fun he=>?_)
 ·simp (maxSteps:=10000000) (disch:=first | assumption | (simp only [tyfacts,Am.wd,Nat.reduceEqDiff,Nat.reduceLT,reduceCtorEq];try omega;done) | omega) only [Am.wanted,Am.isAlloc,cw,Am.reads,Am.quiet,Am.over,Nat.testBit,Nat.reduceShiftRight,Nat.reduceAnd,Nat.reduceBNe,Nat.reduceLeDiff,Nat.reduceAdd,Nat.reduceMul,Nat.reduceLT,Nat.reduceEqDiff,Nat.reduceSub,reduceCtorEq,↓reduceIte,tyfacts];have hxs:rows=[]:=(hbt he).2;subst hxs;exact ⟨Mine.nil _ _ _,Ext.refl wf⟩
 ·simp (maxSteps:=10000000) (disch:=first | assumption | (simp only [tyfacts,Am.wd,Nat.reduceEqDiff,Nat.reduceLT,reduceCtorEq];try omega;done) | omega) only [Am.wanted,Am.isAlloc,cw,Am.reads,Am.quiet,Am.over,Nat.testBit,Nat.reduceShiftRight,Nat.reduceAnd,Nat.reduceBNe,Nat.reduceLeDiff,Nat.reduceAdd,Nat.reduceMul,Nat.reduceLT,Nat.reduceEqDiff,Nat.reduceSub,reduceCtorEq,↓reduceIte,tyfacts];have hx:Ext H (H.push (.cells false [])):=(Ext.refl wf).push _;have ha:appOk T 22 22=some (3,40):=by simp only [tyfacts]
  have hap:=append_own (Mine.empty wf (Nat.le_refl _) 3) hx.wf hx.n ha (hl.mono hx) hone (by simp only [List.length_nil];omega) (by simp only [List.length_nil];omega);obtain ⟨r,H',h1,h2,h3,h4⟩:=hap;simp (maxSteps:=10000000) (disch:=first | assumption | (simp only [tyfacts,Am.wd,Nat.reduceEqDiff,Nat.reduceLT,reduceCtorEq];try omega;done) | omega) only [Am.wanted,Am.isAlloc,cw,Am.reads,Am.quiet,Am.over,Nat.testBit,Nat.reduceShiftRight,Nat.reduceAnd,Nat.reduceBNe,Nat.reduceLeDiff,Nat.reduceAdd,Nat.reduceMul,Nat.reduceLT,Nat.reduceEqDiff,Nat.reduceSub,reduceCtorEq,↓reduceIte,tyfacts,h1];refine ⟨by simpa [pack_one,A.tmp_puts,A.n_put,start_n] using h2,hx.thenB h3 fun l hl=>?_⟩;have:=of_slice.1 hl;omega
end Go.Proofs.YtphjohoipocpnaaGreat.W

namespace Go.Proofs.YtphjohoipocpnaaGreat.W
open Go Go.Am
def shR:Sh:=.pair .int (.pair .int .unit)
def shO:Sh:=.pair .int (.pair .int (.pair .int (.pair shR .unit)))
def shA:Sh:=.pair .int (.pair shO .unit)
def shS:Sh:=.pair .int (.pair .int (.pair (.slice .int) .unit))
def shT:Sh:=.pair .str (.pair .int (.pair .int (.pair (.slice shA) (.pair (.slice .int) .unit))))
def shC:Sh:=.pair (.slice .str) (.pair (.slice shS) (.pair (.slice shT) .unit))
def cvR (e:El shR):Rt:=(fun e:Int×Int×Unit=>⟨e.1,e.2.1⟩) e
def cvO (e:El shO):Opr:=(fun e:Int×Int×Int×El shR×Unit=>⟨e.1,e.2.1,e.2.2.1,cvR e.2.2.2.1⟩) e
def cvA (e:El shA):Act:=(fun e:Int×El shO×Unit=>⟨e.1,cvO e.2.1⟩) e
def cvS (e:El shS):Sta:=(fun e:Int×Int×List Int×Unit=>⟨e.1,e.2.1,e.2.2.1⟩) e
def cvT (e:El shT):Tra:=(fun e:List UInt8×Int×Int×List (El shA)×List Int×Unit=>⟨e.1,e.2.1,e.2.2.1,e.2.2.2.1.map cvA,e.2.2.2.2.1⟩) e
def cvC (e:El shC):Cas:=(fun e:List (List UInt8)×List (El shS)×List (El shT)×Unit=>⟨e.1,e.2.1.map cvS,e.2.2.1.map cvT⟩) e
theorem map_A (es:List (El shA)):es.map (toD shA)=(es.map cvA).map dA:=by rw [List.map_map];rfl
theorem map_S (es:List (El shS)):es.map (toD shS)=(es.map cvS).map dS:=by rw [List.map_map];rfl
def actsE (e:El shT):List (El shA):=(fun e:List UInt8×Int×Int×List (El shA)×List Int×Unit=>e.2.2.2.1) e
theorem toD_T (e:El shT):toD shT e=dT (cvT e):=
 congrArg (fun z=>[Vm.D.atom (.str (cvT e).name),.atom (.int .i64 (cvT e).b),.atom (.int .i64 (cvT e).c),.imm 6 z,.imm 1 ((cvT e).at_.map dI)]) (map_A (actsE e))
theorem map_T (es:List (El shT)):es.map (toD shT)=(es.map cvT).map dT:=by
 rw [List.map_map];exact List.map_congr_left fun e _=>toD_T e
theorem arg_Is (es:List Int):argD (.slice .int) es=.imm 1 (es.map dI):=rfl
def dC (c:Cas):List Vm.D:=[.imm 1 (c.names.map fun s=>[.atom (.str s)]),.imm 3 (c.first.map dS),.imm 5 (c.trans.map dT)]
def firstE (e:El shC):List (El shS):=(fun e:List (List UInt8)×List (El shS)×List (El shT)×Unit=>e.2.1) e
def transE (e:El shC):List (El shT):=(fun e:List (List UInt8)×List (El shS)×List (El shT)×Unit=>e.2.2.1) e
theorem arg_C (e:El shC):argD shC e=.agg (dC (cvC e)):=
 (congrArg (fun z=>Vm.D.agg [.imm 1 ((cvC e).names.map fun s=>[.atom (.str s)]),.imm 3 z,.imm 5 ((transE e).map (toD shT))]) (map_S (firstE e))).trans
  (congrArg (fun z=>Vm.D.agg [.imm 1 ((cvC e).names.map fun s=>[.atom (.str s)]),.imm 3 ((cvC e).first.map dS),.imm 5 z]) (map_T (transE e)))
def inI64 (n:Int):Prop:=-9223372036854775808≤n∧n≤9223372036854775807
theorem wf_I64 {n:Int} (h:(Lit.int .i64 n).wf=true):inI64 n:=by
 simp only [Lit.wf,Bool.and_eq_true,decide_eq_true_eq] at h;exact ⟨h.1,h.2⟩
theorem ok_A {e:El shA} (h:okE shA e):inI64 (cvA e).op.a∧inI64 (cvA e).op.b:=
 ⟨wf_I64 (h:okE .int _∧(okE .int _∧okE .int (cvA e).op.a∧okE .int (cvA e).op.b∧okE shR _∧True)∧True).2.1.2.1,wf_I64 (h:okE .int _∧(okE .int _∧okE .int (cvA e).op.a∧okE .int (cvA e).op.b∧okE shR _∧True)∧True).2.1.2.2.1⟩
theorem ok_T {e:El shT} (h:okE shT e):∀ a,a∈(cvT e).acts→inI64 a.op.a∧inI64 a.op.b:=by
 have h1:okE .str _∧okE .int _∧okE .int _∧(List.length (α:=El shA) (actsE e)≤maxLen∧∀ x,x∈(show List (El shA) from actsE e)→okE shA x)∧okE (.slice .int) _∧True:=h;intro a ha;have ha':a∈(actsE e).map cvA:=ha;obtain ⟨x,hx,rfl⟩:=List.mem_map.1 ha';exact ok_A (h1.2.2.2.1.2 x hx)
theorem ok_C {e:El shC} (h:okE shC e):∀ t,t∈(cvC e).trans→∀ a,a∈t.acts→inI64 a.op.a∧inI64 a.op.b:=by
 have h1:okE (.slice .str) _∧okE (.slice shS) _∧(List.length (α:=El shT) (transE e)≤maxLen∧∀ x,x∈(show List (El shT) from transE e)→okE shT x)∧True:=h;intro t ht;have ht':t∈(transE e).map cvT:=ht;obtain ⟨x,hx,rfl⟩:=List.mem_map.1 ht';exact ok_T (h1.2.2.1.2 x hx)
end Go.Proofs.YtphjohoipocpnaaGreat.W
