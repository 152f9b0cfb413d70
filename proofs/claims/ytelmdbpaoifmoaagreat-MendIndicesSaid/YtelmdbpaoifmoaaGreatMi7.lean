/-
  Part 7 of the texts behind a statement of this seat: ZN8, Kq2, Kq5, Kq6, Kq7, Kq8, Kr1, Kp13, Kp14, Kp15, Kq3, Kq4, Kr2.
-/
import Derived.Test.YtelmdbpaoifmoaaGreatProg
import Derived.KernelRfl
import Derived.Test.YtelmdbpaoifmoaaGreatMi6
namespace Go.Proofs.YtelmdbpaoifmoaaGreat
open Go.Sim
variable (P : Program) (K : VK)
/-! F13: pommel/pommelref06.Chances -/
noncomputable section
variable (l0 x3 i4 x5 k6 k7 q8 ba eL fk kJ fV rH Cq xp : Value) (L1 L2 : LQ) (xs : List Value) (h : ae)
def abU:=bp Tryz.prog 13 [[],[],[],[0],[3,4],[],[],[],[],[0,3,4,5],[6],[],[],[],[],[],[0,3,4,5],[0,3,4,5,44],[0,3,4,5,44,51],[],[],[],[],[0,4,5],[3,7],[],[],[],[0,3,4,5,7,8,82],[0,3,4,5,7,8,82,86],[0,3,4,5,7,8,88],[0,3,4,5,7,8,88,98],[0,3,4,5,7,8,88,98,102],[0,3,4,5,7,8,88,103],[],[0,3,4,5,7],[0,3,4,5],[],[0,3,4],[0,3],[],[3],[]]
@[irreducible] def DJ:=bw abU
@[irreducible] def DR:=DJ.r.r.l.r.l.l
@[irreducible] def VE:=DJ.r.r.r
@[irreducible] def anB:=DR.r.l.l.r.l.r.l.l
@[irreducible] def VC:=DR.r.l.l.r.r
@[irreducible] def VO:=DR.r.r
@[irreducible] def VN:=VE.l
@[irreducible] def DP:=VC.l
@[irreducible] def anI:=VO.l
@[irreducible] def anJ:=VN.r.l
@[irreducible] def VD:=DP.l.l.r.l
@[irreducible] def anC:=DP.l.r
@[irreducible] def Lb:=DP.r
@[irreducible] def anD:=VD.r.l
@[irreducible] def DQ:=Lb.l.r.l.l
@[irreducible] def VF:=Lb.r
@[irreducible] def VH:=DQ.r.l.l.r.l.r.l
@[irreducible] def anE:=DQ.r.l.l.r.r
@[irreducible] def VG:=DQ.r.r
@[irreducible] def anH:=VF.l
@[irreducible] def VI:=VH.r.l
@[irreducible] def anG:=VG.l
@[irreducible] def VJ:=VI.r.l
@[irreducible] def VL:=VJ.r.l
@[irreducible] def VM:=VL.r.l
@[irreducible] def anF:=VM.r.l
theorem BD:abU=some (118,DJ,[.tmp 2]):=by kernel_rfl
def CP (_P:Program) (K:VK):aq:=aO [.tmp 2] K
def aku:aq:=aC (ai P VE (CP P K)) (CP P K)
def aky:aq:=bz 0 (aku P K)
def CR:aq:=aC (fun f' aR=>(([0]:List Nat).map f':List Value)=[l0]∧L1 (([3,4]:List Nat).map f') aR) (aky P K)
def akz:aq:=aC (ai P VO (CR P K l0 L1)) (CR P K l0 L1)
def tq:aq:=bz 1 (akz P K l0 L1)
def akr:aq:=aC (ai P VC (tq P K l0 L1)) (tq P K l0 L1)
def aks:aq:=bz 2 (akr P K l0 L1)
def akt:aq:=aC (fun f' aR=>(([0,3,4,5]:List Nat).map f':List Value)=[l0,x3,i4,x5]∧L2 (([6]:List Nat).map f') aR) (aks P K l0 L1)
def SL:aq:=aC (ai P Lb (tq P K l0 L1)) (tq P K l0 L1)
def SM:aq:=aC (ai P anC (SL P K l0 L1)) (SL P K l0 L1)
def akv:aq:=aC (ai P VF (tq P K l0 L1)) (tq P K l0 L1)
def akw:aq:=bz 4 (akv P K l0 L1)
def CQ:aq:=aC (fun f' aR=>(([0,4,5]:List Nat).map f':List Value)=[l0,i4,x5]∧L2 (([3,7]:List Nat).map f') aR) (akw P K l0 L1)
def akx:aq:=aC (ai P VG (CQ P K l0 i4 x5 L1 L2)) (CQ P K l0 i4 x5 L1 L2)
def SN:aq:=bz 5 (akx P K l0 i4 x5 L1 L2)
def xF:aq:=aC (ai P anE (SN P K l0 i4 x5 L1 L2)) (SN P K l0 i4 x5 L1 L2)
def aen:Prop:=au (ai P DR (CR P K l0 L1)) ([0]++[3,4]) ([l0]++xs) h
def aeh:Prop:=au (ai P anB (akt P K l0 x3 i4 x5 L1 L2)) ([0,3,4,5]++[6]) ([l0,x3,i4,x5]++xs) h
def aei:Prop:=au (ai P DP (tq P K l0 L1)) [0,3,4,5] [l0,x3,i4,x5] h
def aej:Prop:=au (ai P VD (SM P K l0 L1)) [0,3,4,5,44] [l0,x3,i4,x5,ba] h
def Gu:Prop:=au (ai P anD (SM P K l0 L1)) [0,3,4,5,44,51] [l0,x3,i4,x5,ba,eL] h
def Pa:Prop:=au (ai P DQ (CQ P K l0 i4 x5 L1 L2)) ([0,4,5]++[3,7]) ([l0,i4,x5]++xs) h
def aek:Prop:=au (ai P VH (xF P K l0 i4 x5 L1 L2)) [0,3,4,5,7,8,82] [l0,x3,i4,x5,k7,q8,fk] h
def Pb:Prop:=au (ai P VI (xF P K l0 i4 x5 L1 L2)) [0,3,4,5,7,8,82,86] [l0,x3,i4,x5,k7,q8,fk,kJ] h
def Pc:Prop:=au (ai P VJ (xF P K l0 i4 x5 L1 L2)) [0,3,4,5,7,8,88] [l0,x3,i4,x5,k7,q8,fV] h
def Pd:Prop:=au (ai P VL (xF P K l0 i4 x5 L1 L2)) [0,3,4,5,7,8,88,98] [l0,x3,i4,x5,k7,q8,fV,rH] h
def Pe:Prop:=au (ai P VM (xF P K l0 i4 x5 L1 L2)) [0,3,4,5,7,8,88,98,102] [l0,x3,i4,x5,k7,q8,fV,rH,Cq] h
def Gv:Prop:=au (ai P anF (xF P K l0 i4 x5 L1 L2)) [0,3,4,5,7,8,88,103] [l0,x3,i4,x5,k7,q8,fV,xp] h
def Gw:Prop:=au (ai P anG (CQ P K l0 i4 x5 L1 L2)) [0,3,4,5,7] [l0,x3,i4,x5,k7] h
def ael:Prop:=au (ai P anH (tq P K l0 L1)) [0,3,4,5] [l0,x3,i4,x5] h
def zm:Prop:=au (ai P anI (CR P K l0 L1)) [0,3,4] [l0,x3,i4] h
def aem:Prop:=au (ai P VN (CP P K)) [0,3] [l0,x3] h
def Pf:Prop:=au (ai P anJ (CP P K)) [3] [x3] h
theorem awd (l0 x3 i4 x5:Value) (L1 L2:LQ) (k6:Value) (h:ae):aeh P K l0 x3 i4 x5 L1 L2 [k6] h=
 (OP (aS 2 l0 i4) fun aM=>
 OP (aE 0 aM) fun aT=>
 OP (af false 1 h aT) fun bf=>
 OP (aY bf) fun bt=>
 OP (ah .lss k6 bt) fun bV=>
 aL bV
 (OP (aS 2 l0 i4) fun bE=>
 OP (aE 0 bE) fun bZ=>
 OP (af false 1 h bZ) fun cP=>
 OP (aS 1 cP k6) fun cM=>
 OP (af false 1 h cM) fun dJ=>
 aj P 24 [dJ] h fun cm h_1=>
 OP (ft .not cm) fun dc=>
 aL dc
 (K (.int .i64 (2)) h_1)
 (OP (ah .add k6 (.int .i64 (1))) fun bL=>
 ([l0,x3,i4,x5]:List Value)=[l0,x3,i4,x5]∧L2 [bL] h_1))
 (aei P K l0 x3 i4 x5 L1 h)):=aw (by kernel_rfl)
theorem agi:Gu P K l0 x3 i4 x5 ba eL L1 h=
 (OP (bK ba (.bool true) eL) fun dK=>
 aL dK
 (zm P K l0 (.int .i64 (1)) i4 L1 h)
 (cB [x3,(.int .i64 (0))] h fun L2 xs hx=>
 Pa P K l0 i4 x5 L1 L2 xs hx)):=aw (by kernel_rfl)
theorem awf:aej P K l0 x3 i4 x5 ba L1 h=
 (bU ba false
 (OP (aS 2 l0 i4) fun gj=>
 OP (aE 1 gj) fun dS=>
 OP (af false 1 h dS) fun er=>
 aj P 46 [er,(.int .i64 (0)),(.int .i64 (50))] h fun dE h_1=>
 OP (ft .not dE) fun eL=>
 Gu P K l0 x3 i4 x5 ba eL L1 h_1)
 (Gu P K l0 x3 i4 x5 ba undef L1 h)):=aw (by kernel_rfl)
theorem awj:Gv P K l0 x3 i4 x5 k7 q8 fV xp L1 L2 h=
 (OP (bK fV (.bool true) xp) fun Cr=>
 aL Cr
 (Gw P K l0 (.int .i64 (1)) i4 x5 k7 L1 L2 h)
 (OP (af true 4 h x5) fun Ra=>
 OP (af true 4 h q8) fun Rb=>
 aj P 26 [Ra,Rb] h fun tf h_1=>
 aj P 25 [tf] h_1 fun zN h_2=>
 OH (aJ 4 h_2 x5 zN) fun _ h_3=>
 Gw P K l0 x3 i4 x5 k7 L1 L2 h_3)):=aw (by kernel_rfl)
theorem Qh:Pe P K l0 x3 i4 x5 k7 q8 fV rH Cq L1 L2 h=
 (bU fV false
 (OP (bK rH Cq (.bool false)) fun xp=>
 Gv P K l0 x3 i4 x5 k7 q8 fV xp L1 L2 h)
 (Gv P K l0 x3 i4 x5 k7 q8 fV undef L1 L2 h)):=aw (by kernel_rfl)
theorem agk:Pd P K l0 x3 i4 x5 k7 q8 fV rH L1 L2 h=
 (bU rH true
 (OP (aE 0 q8) fun x99=>
 OP (af true 2 h x99) fun azS=>
 aj P 48 [azS] h fun Q9 h_1=>
 OP (ah .eql Q9 (.int .i64 (0))) fun Cq=>
 Pe P K l0 x3 i4 x5 k7 q8 fV rH Cq L1 L2 h_1)
 (Pe P K l0 x3 i4 x5 k7 q8 fV rH undef L1 L2 h)):=aw (by kernel_rfl)
theorem awi:Pc P K l0 x3 i4 x5 k7 q8 fV L1 L2 h=
 (bU fV false
 (OP (aS 2 l0 i4) fun qI=>
 OP (aE 0 qI) fun ti=>
 OP (af false 1 h ti) fun Rf=>
 OP (aY Rf) fun zO=>
 OP (ah .sub zO (.int .i64 (1))) fun Rg=>
 OP (ah .eql k7 Rg) fun Ct=>
 Pd P K l0 x3 i4 x5 k7 q8 fV Ct L1 L2 h)
 (Pd P K l0 x3 i4 x5 k7 q8 fV undef L1 L2 h)):=aw (by kernel_rfl)
theorem agj:Pb P K l0 x3 i4 x5 k7 q8 fk kJ L1 L2 h=
 (OP (bK fk (.bool true) kJ) fun tg=>
 Pc P K l0 x3 i4 x5 k7 q8 tg L1 L2 h):=aw (by kernel_rfl)
theorem awh:aek P K l0 x3 i4 x5 k7 q8 fk L1 L2 h=
 (bU fk false
 (OP (aE 0 q8) fun mh=>
 OP (af true 2 h mh) fun gZ=>
 aj P 48 [gZ] h fun qH h_1=>
 OP (ah .lss qH (.int .i64 (0))) fun kJ=>
 Pb P K l0 x3 i4 x5 k7 q8 fk kJ L1 L2 h_1)
 (Pb P K l0 x3 i4 x5 k7 q8 fk undef L1 L2 h)):=aw (by kernel_rfl)
theorem awk:Gw P K l0 x3 i4 x5 k7 L1 L2 h=
 (OP (ah .add k7 (.int .i64 (1))) fun kH=>
 ([l0,i4,x5]:List Value)=[l0,i4,x5]∧L2 [x3,kH] h):=aw (by kernel_rfl)
theorem awg (l0 i4 x5:Value) (L1 L2:LQ) (x3 k7:Value) (h:ae):Pa P K l0 i4 x5 L1 L2 [x3,k7] h=
 (OP (aS 2 l0 i4) fun fU=>
 OP (aE 0 fU) fun dL=>
 OP (af false 1 h dL) fun gP=>
 OP (aY gP) fun eA=>
 OP (ah .lss k7 eA) fun gF=>
 aL gF
 (OP (aS 2 l0 i4) fun fJ=>
 OP (aE 0 fJ) fun mQ=>
 OP (af false 1 h mQ) fun fD=>
 OP (aS 1 fD k7) fun gn=>
 OP (af false 1 h gn) fun kI=>
 aj P 28 [kI] h fun fB h_1=>
 OH (aW 37 [(.bool false),(.slice none 0 0),(.bool false),(.slice none 0 0)] h_1) fun q8 h_2=>
 OH (aJ 4 h_2 q8 fB) fun _ h_3=>
 OP (aS 2 l0 i4) fun jG=>
 OP (aE 0 jG) fun gG=>
 OP (af false 1 h_3 gG) fun je=>
 OP (aS 1 je k7) fun eB=>
 OP (af false 1 h_3 eB) fun iS=>
 aj P 47 [iS,(.int .i64 (4))] h_3 fun qG h_4=>
 OP (ft .not qG) fun jH=>
 aek P K l0 x3 i4 x5 k7 q8 jH L1 L2 h_4)
 (ael P K l0 x3 i4 x5 L1 h)):=aw (by kernel_rfl)
theorem awl:ael P K l0 x3 i4 x5 L1 h=
 (OP (af true 4 h x5) fun HU=>
 (True)∧
 aj P 20 [(.int .i64 (1))] h fun Rc h_1=>
 (af true 4 h_1 x5=some HU∧True)∧
 aj P 29 [HU,Rc] h_1 fun Rd h_2=>
 (True)∧
 OP (ah .neq Rd (.int .i64 (0))) fun Re=>
 aL Re
 (zm P K l0 (.int .i64 (1)) i4 L1 h_2)
 (zm P K l0 x3 i4 L1 h_2)):=aw (by kernel_rfl)
theorem awe:aei P K l0 x3 i4 x5 L1 h=
 (OP (aS 2 l0 i4) fun cG=>
 OP (aE 0 cG) fun di=>
 OP (af false 1 h di) fun dB=>
 OP (aY dB) fun dm=>
 aj P 46 [dm,(.int .i64 (1)),(.int .i64 (8))] h fun dR h_1=>
 OP (ft .not dR) fun bM=>
 aej P K l0 x3 i4 x5 bM L1 h_1):=aw (by kernel_rfl)
theorem awm:zm P K l0 x3 i4 L1 h=
 (OP (ah .add i4 (.int .i64 (1))) fun aP=>
 ([l0]:List Value)=[l0]∧L1 [x3,aP] h):=aw (by kernel_rfl)
theorem awo (l0:Value) (L1:LQ) (x3 i4:Value) (h:ae):aen P K l0 L1 [x3,i4] h=
 (OP (aY l0) fun ax=>
 OP (ah .lss i4 ax) fun az=>
 aL az
 (aj P 20 [(.int .i64 (0))] h fun a9 h_1=>
 OH (aW 37 [(.bool false),(.slice none 0 0),(.bool false),(.slice none 0 0)] h_1) fun x5 h_2=>
 OH (aJ 4 h_2 x5 a9) fun _ h_3=>
 cB [(.int .i64 (0))] h_3 fun L2 xs hx=>
 aeh P K l0 x3 i4 x5 L1 L2 xs hx)
 (aem P K l0 x3 h)):=aw (by kernel_rfl)
theorem agl:Pf P K x3 h=
 (K x3 h):=aw (by kernel_rfl)
theorem awn:aem P K l0 x3 h=
 (OP (aY l0) fun azT=>
 aj P 46 [azT,(.int .i64 (1)),(.int .i64 (3))] h fun azU h_1=>
 OP (ft .not azU) fun azV=>
 aL azV
 (Pf P K (.int .i64 (1)) h_1)
 (Pf P K x3 h_1)):=aw (by kernel_rfl)
def JI:Prop:=
 cB [(.int .i64 (0)),(.int .i64 (0))] h fun L1 xs hx=>
 aen P K l0 L1 xs hx
theorem e13:ai P DJ (aO [.tmp 2] K) (bk [l0]) h=JI P K l0 h:=by kernel_rfl
theorem f13 {K:VK} {l0:Value} {h:ae} (H:JI Tryz.prog K l0 h):aj Tryz.prog 13 [l0] h K:=
 bD BD (Nat.le_of_ble_eq_true rfl) ((e13 Tryz.prog K l0 h).mpr H)
end
/-! F15: pommel/pommelref06.Index -/
noncomputable section
variable (c0 x1 c2 x4 x6 x7 x8 d9 : Value) (L1 : LQ) (xs : List Value) (h : ae)
def ab8:=bp Tryz.prog 15 [[],[],[],[],[1,2,4,6,8],[7,9],[],[],[],[],[],[1,2,4,6,7,8,9],[4,6,7],[]]
@[irreducible] def DU:=bw ab8
@[irreducible] def VT:=DU.r.r.r.l.r.l.l
@[irreducible] def VS:=DU.r.r.r.r
@[irreducible] def anN:=VT.r.r.l
@[irreducible] def anO:=VS.l
theorem k15:ab8=some (55,DU,[.cell true 4 4,.tmp 5]):=by kernel_rfl
def IM (_P:Program) (K:VK):aq:=aO [.cell true 4 4,.tmp 5] K
def akA:aq:=aC (ai P VS (IM P K)) (IM P K)
def akB:aq:=bz 0 (akA P K)
def SR:aq:=aC (fun f' aR=>(([1,2,4,6,8]:List Nat).map f':List Value)=[x1,c2,x4,x6,x8]∧L1 (([7,9]:List Nat).map f') aR) (akB P K)
def aeq:Prop:=au (ai P VT (SR P K x1 c2 x4 x6 x8 L1)) ([1,2,4,6,8]++[7,9]) ([x1,c2,x4,x6,x8]++xs) h
def Gz:Prop:=au (ai P anN (SR P K x1 c2 x4 x6 x8 L1)) [1,2,4,6,7,8,9] [x1,c2,x4,x6,x7,x8,d9] h
def aep:Prop:=au (ai P anO (IM P K)) [4,6,7] [x4,x6,x7] h
theorem aws:Gz P K x1 c2 x4 x6 x7 x8 d9 L1 h=
 (OP (ah .add d9 (.int .i64 (1))) fun bf=>
 ([x1,c2,x4,x6,x8]:List Value)=[x1,c2,x4,x6,x8]∧L1 [x7,bf] h):=aw (by kernel_rfl)
theorem awu (x1 c2 x4 x6 x8:Value) (L1:LQ) (x7 d9:Value) (h:ae):aeq P K x1 c2 x4 x6 x8 L1 [x7,d9] h=
 (OP (aE 0 c2) fun aP=>
 OP (af false 1 h aP) fun a9=>
 OP (aY a9) fun aX=>
 OP (ah .sub aX x1) fun aN=>
 OP (ah .leq d9 aN) fun aM=>
 aL aM
 (OP (af true 4 h x8) fun bt=>
 (True)∧
 OP (af true 2 h c2) fun bV=>
 (True)∧
 OP (ah .add x1 d9) fun cF=>
 OP (ah .sub cF (.int .i64 (1))) fun bR=>
 aj P 50 [bV,bR] h fun bE h_1=>
 (af true 4 h_1 x8=some bt∧True)∧
 aj P 26 [bt,bE] h_1 fun bZ h_2=>
 (True)∧
 aj P 25 [bZ] h_2 fun cP h_3=>
 (True)∧
 OH (aJ 4 h_3 x8 cP) fun _ h_4=>
 (True)∧
 OH (aW 37 [(.bool false),(.slice none 0 0),(.bool false),(.slice none 0 0)] h_4) fun v10 h_5=>
 OP (ee h_5 v10) fun u=>
 (True)∧
 OP (aE 1 c2) fun bY=>
 OP (af false 1 h_5 bY) fun cM=>
 (af false 1 h_4 bY=some cM∧True)∧
 aj P 20 [cM] h_5 fun dJ h_6=>
 (ee h_6 v10=some u∧True)∧
 OP (af true 2 h_6 c2) fun cm=>
 (af true 2 h_4 c2=some cm∧af true 2 h_5 c2=some cm∧True)∧
 aj P 50 [cm,x1] h_6 fun cQ h_7=>
 (ee h_7 v10=some u∧True)∧
 OP (af true 2 h_7 c2) fun dM=>
 (af true 2 h_4 c2=some dM∧af true 2 h_5 c2=some dM∧af true 2 h_6 c2=some dM∧True)∧
 OP (ah .add x1 d9) fun dB=>
 aj P 50 [dM,dB] h_7 fun dm h_8=>
 (ee h_8 v10=some u∧True)∧
 aj P 52 [cQ,dm] h_8 fun dR h_9=>
 (ee h_9 v10=some u∧True)∧
 aj P 27 [dJ,dR] h_9 fun bM h_10=>
 (ee h_10 v10=some u∧True)∧
 OP (af true 4 h_10 x8) fun ba=>
 (af true 4 h_4 x8=some ba∧af true 4 h_5 x8=some ba∧af true 4 h_6 x8=some ba∧af true 4 h_7 x8=some ba∧af true 4 h_8 x8=some ba∧af true 4 h_9 x8=some ba∧True)∧
 aj P 51 [bM,ba] h_10 fun bW h_11=>
 (ee h_11 v10=some u∧True)∧
 aj P 25 [bW] h_11 fun cg h_12=>
 (ee h_12 v10=some u∧True)∧
 OH (aJ 4 h_12 v10 cg) fun _ h_13=>
 (True)∧
 OP (af true 4 h_13 v10) fun gj=>
 OP (af true 4 h_13 x6) fun dS=>
 aj P 29 [gj,dS] h_13 fun er h_14=>
 OP (ah .gtr er (.int .i64 (0))) fun dE=>
 aL dE
 (OP (af true 4 h_14 v10) fun eL=>
 OH (aJ 4 h_14 x6 eL) fun _ h_15=>
 Gz P K x1 c2 x4 x6 d9 x8 d9 L1 h_15)
 (Gz P K x1 c2 x4 x6 x7 x8 d9 L1 h_14))
 (aep P K x4 x6 x7 h)):=aw (by kernel_rfl)
theorem awt:aep P K x4 x6 x7 h=
 (OP (af true 4 h x6) fun iR=>
 OH (aJ 4 h x4 iR) fun _ h_1=>
 OP (af true 4 h_1 x4) fun r0=>
 K (.tuple #[r0,x7]) h_1):=aw (by kernel_rfl)
def JV:Prop:=
 OH (bc 24 h c0) fun c2 h_1=>
 OH (aW 37 [(.bool false),(.slice none 0 0),(.bool false),(.slice none 0 0)] h_1) fun x4 h_2=>
 aj P 20 [(.int .i64 (-1))] h_2 fun ax h_3=>
 OH (aW 37 [(.bool false),(.slice none 0 0),(.bool false),(.slice none 0 0)] h_3) fun x6 h_4=>
 OH (aJ 4 h_4 x6 ax) fun _ h_5=>
 aj P 20 [(.int .i64 (0))] h_5 fun az h_6=>
 OH (aW 37 [(.bool false),(.slice none 0 0),(.bool false),(.slice none 0 0)] h_6) fun x8 h_7=>
 OH (aJ 4 h_7 x8 az) fun _ h_8=>
 cB [(.int .i64 (0)),(.int .i64 (1))] h_8 fun L1 xs hx=>
 aeq P K x1 c2 x4 x6 x8 L1 xs hx
theorem e15:ai P DU (aO [.cell true 4 4,.tmp 5] K) (bk [c0,x1]) h=JV P K c0 x1 h:=by kernel_rfl
theorem f15 {K:VK} {c0 x1:Value} {h:ae} (H:JV Tryz.prog K c0 x1 h):aj Tryz.prog 15 [c0,x1] h K:=
 bD k15 (Nat.le_of_ble_eq_true rfl) ((e15 Tryz.prog K c0 x1 h).mpr H)
end
/-! F47: pommel/pommelref01.Short -/
noncomputable section
variable (x0 n1 k5 i6 : Value) (L1 : LQ) (xs : List Value) (h : ae)
def aco:=bp Tryz.prog 47 [[],[],[],[0,1],[5,6],[],[],[],[],[0,1,5,6],[],[],[0,1,5,6],[],[]]
@[irreducible] def vh:=bw aco
@[irreducible] def Lg:=vh.r.r.l.r.l.l
@[irreducible] def aof:=vh.r.r.r
@[irreducible] def aod:=Lg.r.l.l.r.l
@[irreducible] def Wx:=Lg.r.r
@[irreducible] def aoe:=Wx.l
theorem k47:aco=some (26,vh,[.tmp 4]):=by kernel_rfl
def S8 (_P:Program) (K:VK):aq:=aO [.tmp 4] K
def akN:aq:=aC (ai P aof (S8 P K)) (S8 P K)
def akO:aq:=bz 0 (akN P K)
def CV:aq:=aC (fun f' aR=>(([0,1]:List Nat).map f':List Value)=[x0,n1]∧L1 (([5,6]:List Nat).map f') aR) (akO P K)
def akP:aq:=aC (ai P Wx (CV P K x0 n1 L1)) (CV P K x0 n1 L1)
def akM:aq:=bz 1 (akP P K x0 n1 L1)
def aeI:Prop:=au (ai P Lg (CV P K x0 n1 L1)) ([0,1]++[5,6]) ([x0,n1]++xs) h
def B1:Prop:=au (ai P aod (akM P K x0 n1 L1)) [0,1,5,6] [x0,n1,k5,i6] h
def aeH:Prop:=au (ai P aoe (CV P K x0 n1 L1)) [0,1,5,6] [x0,n1,k5,i6] h
theorem awW:B1 P K x0 n1 k5 i6 L1 h=
 (OP (ah .gtr k5 n1) fun bL=>
 aL bL
 (K (.bool false) h)
 (aeH P K x0 n1 k5 i6 L1 h)):=aw (by kernel_rfl)
theorem awX:aeH P K x0 n1 k5 i6 L1 h=
 (OP (ah .add i6 (.int .i64 (1))) fun az=>
 ([x0,n1]:List Value)=[x0,n1]∧L1 [k5,az] h):=aw (by kernel_rfl)
theorem awY (x0 n1:Value) (L1:LQ) (k5 i6:Value) (h:ae):aeI P K x0 n1 L1 [k5,i6] h=
 (OP (fe x0) fun x9=>
 OP (ah .lss i6 x9) fun aF=>
 aL aF
 (OP (hT x0 i6) fun a9=>
 OP (ah .eql a9 (.int .u8 (47))) fun aX=>
 aL aX
 (B1 P K x0 n1 (.int .i64 (0)) i6 L1 h)
 (OP (hT x0 i6) fun aM=>
 OP (ah .neq aM (.int .u8 (45))) fun aT=>
 aL aT
 (OP (ah .add k5 (.int .i64 (1))) fun bt=>
 B1 P K x0 n1 bt i6 L1 h)
 (B1 P K x0 n1 k5 i6 L1 h)))
 (K (.bool true) h)):=aw (by kernel_rfl)
def J8:Prop:=
 cB [(.int .i64 (0)),(.int .i64 (0))] h fun L1 xs hx=>
 aeI P K x0 n1 L1 xs hx
theorem e47:ai P vh (aO [.tmp 4] K) (bk [x0,n1]) h=J8 P K x0 n1 h:=by kernel_rfl
theorem f47 {K:VK} {x0 n1:Value} {h:ae} (H:J8 Tryz.prog K x0 n1 h):aj Tryz.prog 47 [x0,n1] h K:=
 bD k47 (Nat.le_of_ble_eq_true rfl) ((e47 Tryz.prog K x0 n1 h).mpr H)
end
/-! F50: pommel/pommelref06.above -/
noncomputable section
variable (c0 x1 c2 x4 x5 k6 : Value) (L1 : LQ) (xs : List Value) (h : ae)
def acq:=bp Tryz.prog 50 [[],[],[],[2,4,5],[6],[],[],[],[4,5],[]]
@[irreducible] def D3:=bw acq
@[irreducible] def aoh:=D3.r.r.l.r.l.l
@[irreducible] def Wz:=D3.r.r.r
@[irreducible] def aog:=Wz.l
theorem k50:acq=some (26,D3,[.cell true 4 4]):=by kernel_rfl
def IQ (_P:Program) (K:VK):aq:=aO [.cell true 4 4] K
def akQ:aq:=aC (ai P Wz (IQ P K)) (IQ P K)
def akR:aq:=bz 0 (akQ P K)
def akS:aq:=aC (fun f' aR=>(([2,4,5]:List Nat).map f':List Value)=[c2,x4,x5]∧L1 (([6]:List Nat).map f') aR) (akR P K)
def aeK:Prop:=au (ai P aoh (akS P K c2 x4 x5 L1)) ([2,4,5]++[6]) ([c2,x4,x5]++xs) h
def aeJ:Prop:=au (ai P aog (IQ P K)) [4,5] [x4,x5] h
theorem aw0 (c2 x4 x5:Value) (L1:LQ) (k6:Value) (h:ae):aeK P K c2 x4 x5 L1 [k6] h=
 (OP (aE 0 c2) fun aF=>
 OP (af false 1 h aF) fun ax=>
 OP (aY ax) fun az=>
 OP (ah .lss k6 az) fun ay=>
 aL ay
 (OP (af true 4 h x5) fun aX=>
 (True)∧
 OP (aE 0 c2) fun bH=>
 OP (af false 1 h bH) fun aN=>
 (True)∧
 OP (aS 1 aN k6) fun aT=>
 OP (af false 1 h aT) fun bf=>
 (True)∧
 aj P 28 [bf] h fun bt h_1=>
 (af true 4 h_1 x5=some aX∧True)∧
 aj P 26 [aX,bt] h_1 fun bV h_2=>
 (True)∧
 aj P 25 [bV] h_2 fun bC h_3=>
 (True)∧
 OH (aJ 4 h_3 x5 bC) fun _ h_4=>
 (True)∧
 OP (ah .add k6 (.int .i64 (1))) fun a9=>
 ([c2,x4,x5]:List Value)=[c2,x4,x5]∧L1 [a9] h_4)
 (aeJ P K x4 x5 h)):=aw (by kernel_rfl)
theorem awZ:aeJ P K x4 x5 h=
 (OP (af true 4 h x5) fun bL=>
 OH (aJ 4 h x4 bL) fun _ h_1=>
 OP (af true 4 h_1 x4) fun r0=>
 K r0 h_1):=aw (by kernel_rfl)
def Ka:Prop:=
 OH (bc 24 h c0) fun c2 h_1=>
 OH (aW 37 [(.bool false),(.slice none 0 0),(.bool false),(.slice none 0 0)] h_1) fun x4 h_2=>
 aj P 20 [(.int .i64 (0))] h_2 fun x7 h_3=>
 OH (aW 37 [(.bool false),(.slice none 0 0),(.bool false),(.slice none 0 0)] h_3) fun x5 h_4=>
 OH (aJ 4 h_4 x5 x7) fun _ h_5=>
 cB [x1] h_5 fun L1 xs hx=>
 aeK P K c2 x4 x5 L1 xs hx
theorem e50:ai P D3 (aO [.cell true 4 4] K) (bk [c0,x1]) h=Ka P K c0 x1 h:=by kernel_rfl
theorem f50 {K:VK} {c0 x1:Value} {h:ae} (H:Ka Tryz.prog K c0 x1 h):aj Tryz.prog 50 [c0,x1] h K:=
 bD k50 (Nat.le_of_ble_eq_true rfl) ((e50 Tryz.prog K c0 x1 h).mpr H)
end
end Go.Proofs.YtelmdbpaoifmoaaGreat

namespace Go.Proofs.YtelmdbpaoifmoaaGreat
open Go.Sim

section
variable {h : ae} {K : Value → ae → Prop}

theorem Ic {vs:Value} {ls:List (List UInt8)} {w:Int} {age:Nat} (hv:SS h vs ls) (hn:ls.length≤20) (hl:∀s∈ls,s.length≤700∧isNum s=true) (hs:∀s∈ls,cA 4 (bu s)) (ha:age≤ls.length)
  (hk:∀r h',EX h h'→QV h' r (ep ((ls.map bu).drop age))→K r h'):aj Tryz.prog 50 [.agg #[vs,I w],I age] h K:=by
 refine f50 ?_
 have e1:bc 24 h (.agg #[vs,I w])=some (pt h.length 0,h++[.arr 24 [vs,I w]]):=rfl
 have e2:∀g:ae,aW 37 [(.bool false),(.slice none 0 0),(.bool false),(.slice none 0 0)] g=some (pt g.length 0,g++[.arr 37 z4]):=fun _=>rfl
 simp only [Ka,e1,e2,aD,List.length_append,List.length_cons,List.length_nil,Nat.zero_add]
 have k0:(h++[ak.arr 24 [vs,I w]]++[ak.arr 37 z4])[h.length]?=some (.arr 24 [vs,I w]):=by simp
 have k1:(h++[ak.arr 24 [vs,I w]]++[ak.arr 37 z4])[h.length+1]?=some (.arr 37 z4):=by simp
 have x1:EX h (h++[ak.arr 24 [vs,I w]]++[ak.arr 37 z4]):=(EX.append _ _).push _
 have l1:(h++[ak.arr 24 [vs,I w]]++[ak.arr 37 z4]).length=h.length+2:=by simp
 generalize h++[ak.arr 24 [vs,I w]]++[ak.arr 37 z4]=h1 at k0 k1 x1 l1⊢
 refine xv (by decide) ?_
 intro r2 h2 x2 q2
 refine xX q2 ?_
 intro h3 x3 c3 l3
 have ay:=x2.trans x3
 have hle:h1.length≤h2.length:=x2.1
 refine db (σ:=Nat×ae) (fun q=>[I ((age:Int)+q.1)]) (fun q=>q.2) (fun q=>age+q.1≤ls.length∧EX h1 q.2∧iH q.2 h2.length (ep (((ls.map bu).drop age).take q.1))) (fun q=>ls.length-q.1) (0,h3) (by simp) rfl
  ⟨ha,ay,by simpa [ep] using c3⟩ ?_
 rintro ⟨i,g⟩ ⟨hi,xg,hc⟩ L hL
 simp only at hi xg hc hL⊢
 rw [aw0]
 have ld:af false 1 g (pt h.length 0)=some vs:=by simp [af,aQ,xg.get k0,ck]
 have kW:=hv.mono (x1.trans xg)
 simp only [bN,Nat.add_zero,ld,ag,kW.len,cK,bS,true_and]
 refine ⟨fun aB=>?_,fun cH=>?_⟩
 ·have bF:age+i<ls.length:=by omega
  obtain ⟨b,o,r1,r2⟩:=kW.get (age+i) bF
  have em:=List.getElem_mem bF
  obtain ⟨a1,a2⟩:=hl _ em
  have a3:=hs _ em
  obtain ⟨vc,lc,qc⟩:=hc.load
  have ea:(age:Int)+(i:Int)=((age+i:Nat):Int):=by omega
  simp only [lc,ea,r1,r2,ag]
  refine RN a1 a2 ?_
  intro r4 g4 x4 q4
  have lO:i<((ls.map bu).drop age).length:=by simp;omega
  have jC:=xl (qs:=(ls.map bu).drop age) (fun q hq=>by
   have:=List.mem_of_mem_drop hq
   obtain ⟨s,h1,rfl⟩:=List.mem_map.1 this
   exact hs s h1) i (by omega)
  refine ⟨⟨EX.load x4 lc,trivial⟩,?_⟩
  refine H9 ((qc.mono x4).un jC) (q4.un a3) (by omega) ?_
  intro r5 g5 x5 q5
  refine Cz q5 (by omega) ?_
  intro r6 g6 x6 q6
  have cg:=x4.trans (x5.trans x6)
  obtain ⟨g7,e7,s7⟩:=(hc.mono cg).store q6
  have e:ep (((ls.map bu).drop age).take i)+bu ls[age+i]=ep (((ls.map bu).drop age).take (i+1)):=by
   rw [zI lO];simp
  rw [e] at s7
  have ei:(age:Int)+((i+1:Nat):Int)=((age+i+1:Nat):Int):=by omega
  simp only [e7,aD,cC,ag,inc (age+i) (by omega)]
  have hh:=hL (i+1,g7) ⟨by show age+(i+1)≤_;omega,s7.ex (xg.trans cg) hle,s7.cell⟩ (by show ls.length-(i+1)<ls.length-i;omega)
  simp only [ei] at hh
  exact hh
 ·have hM:age+i=ls.length:=by omega
  rw [awZ]
  obtain ⟨vc,lc,qc⟩:=hc.load
  simp only [lc,ag]
  obtain ⟨g7,e7,s7⟩:=Ay (xg.get k1) qc
  simp only [e7,aD]
  obtain ⟨v8,l8,q8⟩:=s7.cell.load
  simp only [l8,ag]
  rw [List.take_of_length_le (by simp;omega)] at q8
  exact hk _ _ (s7.ex (x1.trans xg) (by omega)) q8

end
end Go.Proofs.YtelmdbpaoifmoaaGreat


namespace Go.Proofs.YtelmdbpaoifmoaaGreat
open Go.Sim

def mb (n:Nat):Nat→List UInt8→Bool
 | _,[]=>true
 | k,c::t=>let k':=if c=47 then 0 else if c=45 then k else k+1;if n<k' then false else mb n k' t

theorem QM {n:Nat}:∀{s:List UInt8} {k:Nat},hI s→k≤n→mb n k s=decide (k+s.length≤n)
 | [],k,_,hk=>by simp [mb,hk]
 | c::t,k,hd,hk=>by
  have h1:=hd c (by simp)
  have n1:c≠47:=fun e=>by rw [e] at h1;simp at h1
  have n2:c≠45:=fun e=>by rw [e] at h1;simp at h1
  simp only [mb,if_neg n1,if_neg n2,List.length_cons]
  by_cases h:n<k+1
  ·rw [if_pos h]
   exact (decide_eq_false (by omega)).symm
  ·rw [if_neg h,QM (fun x hx=>hd x (by simp [hx])) (by omega),decide_eq_decide]
   omega

theorem ahn {n:Nat} {u:List UInt8}:∀{s:List UInt8} {k:Nat},hI s→k≤n→mb n k (s++47::u)=(decide (k+s.length≤n)&&mb n 0 u)
 | [],k,_,hk=>by simp [mb,hk]
 | c::t,k,hd,hk=>by
  have h1:=hd c (by simp)
  have n1:c≠47:=fun e=>by rw [e] at h1;simp at h1
  have n2:c≠45:=fun e=>by rw [e] at h1;simp at h1
  simp only [List.cons_append,mb,if_neg n1,if_neg n2,List.length_cons]
  by_cases h:n<k+1
  ·rw [if_pos h,decide_eq_false (by omega),Bool.false_and]
  ·rw [if_neg h,ahn (fun x hx=>hd x (by simp [hx])) (by omega)]
   congr 1
   rw [decide_eq_decide]
   omega

theorem azM {s:List UInt8} (h0:0<s.length) (h:s.head?≠some 48) (hd:hI s):10^(s.length-1)≤cY s:=by
 cases s with
 | nil=>simp at h0
 | cons c t=>
  have h1:=hd c (by simp)
  have h2:c.toNat≠48:=by
   intro e
   apply h
   have:c=48:=UInt8.toNat_inj.1 e
   rw [this];rfl
  rw [Cm,List.length_cons,Nat.add_sub_cancel]
  have:=Nat.mul_le_mul_right (10^t.length) (show 1≤c.toNat-48 by omega)
  omega

/-- Few digits, or a small number. -/
theorem X1 {s:List UInt8} (h:fF s=true) {n:Nat} (hn:1≤n):s.length≤n↔cd s<10^n:=by
 unfold cd
 rw [if_pos h]
 obtain ⟨⟨h1,_⟩,h2,h3⟩:=oK.1 h
 constructor
 ·intro hl
  exact Nat.lt_of_lt_of_le (uE h3) (Nat.pow_le_pow_right (by decide) hl)
 ·intro hv
  by_cases jA:s.head?=some 48
  ·have:=h2 jA;omega
  ·have hg:=azM h1 jA h3
   apply Classical.byContradiction
   intro hc
   have:=Nat.pow_le_pow_right (show 0<10 by decide) (show n≤s.length-1 by omega)
   omega

theorem ay8 {n:Nat} (s:List UInt8):mb n 0 s=mb n 0 (dQ s):=by
 unfold dQ
 split
 ·rename_i h
  cases s with
  | nil=>rfl
  | cons c t=>
   have:c=45:=by simpa using h
   subst this
   simp [mb]
 ·rfl

theorem azj (t:List UInt8) (h:kP t=true):t=cO t++47::de t:=by
 unfold kP at h
 have h:=of_decide_eq_true h
 unfold cO de
 have e:t[t.idxOf 47]=47:=by simp
 generalize t.idxOf 47=i at*
 have e2:=List.drop_eq_getElem_cons h
 rw [e] at e2
 rw [←e2,List.take_append_drop]

theorem ay9 {s:List UInt8} (hn:isNum s=true) {n:Nat} (h1:1≤n):mb n 0 s=rU n (bu s):=by
 have hp:=aaw hn
 rw [ay8]
 rw [GO] at hp
 unfold ph at hp
 split at hp
 ·rename_i hc
  obtain ⟨c1,c2,_⟩:=hc
  injection hp with hp
  injection hp with e1 e2
  have en:(bu s).num.natAbs=cd (cO (dQ s)):=by
   rw [←e1];exact (Hq (m:=decide (s.head?=some 45)) (n:=cd (cO (dQ s)))).2
  unfold rU
  rw [en,←e2]
  generalize dQ s=t at*
  have l1:=X1 c2 h1
  obtain ⟨_,_,d2⟩:=oK.1 c2
  unfold nK
  cases hs:kP t with
  | true=>
   unfold mY at c1
   rw [hs,Bool.not_true,Bool.false_or,Bool.and_eq_true] at c1
   obtain ⟨c3,_⟩:=c1
   have l2:=X1 c3 h1
   obtain ⟨_,_,d3⟩:=oK.1 c3
   rw [if_pos rfl]
   conv=>lhs;rw [azj t hs]
   rw [ahn d2 (Nat.zero_le _),QM d3 (Nat.zero_le _)]
   congr 1 <;> rw [decide_eq_decide] <;> omega
  | false=>
   have:cO t=t:=by
    unfold kP at hs
    have:=of_decide_eq_false hs
    unfold cO
    exact List.take_of_length_le (by omega)
   rw [if_neg (by decide)]
   have m8:1<10^n:=Nat.one_lt_pow (by omega) (by decide)
   rw [this] at d2 l1⊢
   rw [QM d2 (Nat.zero_le _),decide_eq_true m8,Bool.and_true,decide_eq_decide]
   omega
 ·cases hp

theorem C47 {s:List UInt8} {n:Nat} {h:ae} {K:Value→ae→Prop} (hl:s.length≤700) (hk:K (B (mb n 0 s)) h):aj Tryz.prog 47 [S s,I n] h K:=by
 refine f47 ?_
 unfold J8
 refine db (σ:=Nat×Nat) (fun q=>[I q.2,I q.1]) (fun _=>h) (fun q=>q.1≤s.length∧q.2≤q.1∧mb n 0 s=mb n q.2 (s.drop q.1)) (fun q=>s.length-q.1) (0,0) rfl rfl ⟨Nat.zero_le _,Nat.le_refl _,rfl⟩ ?_
 rintro ⟨i,k⟩ ⟨hi,Fl,he⟩ L hL
 simp only at hi Fl he hL⊢
 rw [awY]
 simp only [jq,ag,cK,bS]
 refine ⟨fun aB=>?_,fun cH=>?_⟩
 rotate_left
 ·rw [List.drop_eq_nil_of_le (by omega)] at he
  rw [he] at hk
  exact hk
 have bF:i<s.length:=by omega
 rw [List.drop_eq_getElem_cons bF] at he
 have ni:=inc i (by omega)
 have nk:=inc k (by omega)
 have sP:∀k':Nat,k'≤i+1→(if s[i]=47 then 0 else if s[i]=45 then k else k+1)=k'→B1 Tryz.prog K (S s) (I n) (I k') (I i) L h:=by
  intro k' b7 ek
  rw [awW]
  simp only [eT,ag,bS]
  simp only [mb,ek] at he
  refine ⟨fun hc=>?_,fun hc=>?_⟩
  ·rw [if_pos (by omega)] at he
   rw [he] at hk
   exact hk
  ·rw [if_neg (by omega)] at he
   rw [awX]
   simp only [cC,ag,ni,true_and]
   exact hL (i+1,k') ⟨by show i+1≤_;omega,by show k'≤i+1;omega,he⟩ (by show s.length-(i+1)<s.length-i;omega)
 have vh:((s[i].toNat:Int)=47)↔s[i]=47:=by
  constructor
  ·intro e;apply UInt8.toNat_inj.1;show s[i].toNat=47;omega
  ·intro e;rw [e];rfl
 have xW:((s[i].toNat:Int)=45)↔s[i]=45:=by
  constructor
  ·intro e;apply UInt8.toNat_inj.1;show s[i].toNat=45;omega
  ·intro e;rw [e];rfl
 simp only [rj (a:=s) bF,ag,cv,fW,bS]
 refine ⟨fun hc=>?_,fun hc=>?_⟩
 ·exact sP 0 (by omega) (by rw [if_pos (vh.1 hc)])
 ·have n47:¬s[i]=47:=fun e=>hc (vh.2 e)
  simp only [nI,ag]
  by_cases AW:s[i]=45
  ·rw [decide_eq_true (xW.2 AW)]
   simp only [Bool.not_true,c7]
   exact sP k (by omega) (by rw [if_neg n47,if_pos AW])
  ·rw [decide_eq_false (fun e=>AW (xW.1 e))]
   simp only [Bool.not_false,dd,cC,ag,nk]
   exact sP (k+1) (by omega) (by rw [if_neg n47,if_neg AW])

end Go.Proofs.YtelmdbpaoifmoaaGreat


namespace Go.Proofs.YtelmdbpaoifmoaaGreat
open Go.Sim

def og (qs:List Rat) (k:Nat):Bool:=eP (qs.getD k 0)||(decide (k+1=qs.length)&&decide ((qs.getD k 0).num=0))
def mc (qs:List Rat):Nat→Rat
 | 0=>0
 | k+1=>if og qs k=true then mc qs k else mc qs k+qs.getD k 0
def lH (qs:List Rat):Nat→Bool
 | 0=>false
 | k+1=>lH qs k||og qs k

theorem aht {qs:List Rat}:∀{k:Nat},k≤qs.length→lH qs k=false→mc qs k=ep (qs.take k)
 | 0,_,_=>by rw [List.take_zero];rfl
 | k+1,hk,hb=>by
  simp only [lH,Bool.or_eq_false_iff] at hb
  have b7:k<qs.length:=by omega
  simp only [mc]
  rw [if_neg (by rw [hb.2];decide),aht (by omega) hb.1,zI b7,List.getD_eq_getElem?_getD,List.getElem?_eq_getElem b7,Option.getD_some]

theorem KM {qs:List Rat}:∀{k:Nat},lH qs k=true↔∃j,j<k∧og qs j=true
 | 0=>by simp [lH]
 | k+1=>by
  simp only [lH,Bool.or_eq_true,KM (k:=k)]
  constructor
  ·rintro (⟨j,h1,h2⟩ | h)
   ·exact ⟨j,by omega,h2⟩
   ·exact ⟨k,by omega,h⟩
  ·rintro ⟨j,h1,h2⟩
   by_cases e:j=k
   ·subst e;exact .inr h2
   ·exact .inl ⟨j,by omega,h2⟩

theorem QW {qs:List Rat}:∀{k:Nat},k≤qs.length→cA (5*k+1) (mc qs k)
 | 0,_=>cA.zero
 | k+1,hk=>by
  have ih:cA (5*k+1) (mc qs k):=QW (by omega)
  simp only [mc]
  split
  ·exact ih.le (by omega)
  ·rename_i hb
   have h4:cA 4 (qs.getD k 0):=by
    have:eP (qs.getD k 0)=false:=by
     cases e:eP (qs.getD k 0) with
     | false=>rfl
     | true=>exact absurd (by unfold og;rw [e,Bool.true_or]) hb
    unfold eP rU at this
    rw [Bool.or_eq_false_iff,Bool.not_eq_false',Bool.and_eq_true,decide_eq_true_eq,decide_eq_true_eq] at this
    exact this.2
   exact (ih.add h4).le (by omega)

theorem ata {qs:List Rat} (h1:1≤qs.length):(lH qs qs.length|| !decide (mc qs qs.length=1))= !(!sK qs&&(!qs.any eP&&decide (ep qs=1))):=by
 cases hb:lH qs qs.length with
 | false=>
  have hs:=aht (Nat.le_refl _) hb
  rw [List.take_length] at hs
  have no:∀j,j<qs.length→og qs j=false:=by
   intro j hj
   cases e:og qs j with
   | false=>rfl
   | true=>rw [KM.2 ⟨j,hj,e⟩] at hb;cases hb
  have hl:sK qs=false:=by
   have:=no (qs.length-1) (by omega)
   unfold og at this
   rw [Bool.or_eq_false_iff,decide_eq_true (show qs.length-1+1=qs.length by omega),Bool.true_and] at this
   exact this.2
  have ha:qs.any eP=false:=by
   cases e:qs.any eP with
   | false=>rfl
   | true=>
    obtain ⟨q,hq,E7⟩:=List.any_eq_true.1 e
    obtain ⟨j,hj,rfl⟩:=List.getElem_of_mem hq
    have:=no j hj
    unfold og at this
    rw [Bool.or_eq_false_iff,List.getD_eq_getElem?_getD,List.getElem?_eq_getElem hj,Option.getD_some,E7] at this
    exact absurd this.1 (by decide)
  rw [hl,ha,hs]
  simp
 | true=>
  obtain ⟨j,hj,hi⟩:=KM.1 hb
  unfold og at hi
  rw [Bool.or_eq_true] at hi
  rw [Bool.true_or]
  rcases hi with hi | hi
  ·have:qs.any eP=true:=by
    rw [List.getD_eq_getElem?_getD,List.getElem?_eq_getElem hj,Option.getD_some] at hi
    exact List.any_eq_true.2 ⟨_,List.getElem_mem hj,hi⟩
   rw [this];simp
  ·rw [Bool.and_eq_true,decide_eq_true_eq] at hi
   have vZ:j=qs.length-1:=by omega
   have:sK qs=true:=by unfold sK;rw [←vZ];exact hi.2
   rw [this];rfl

theorem yX {g:ae} {i o:Nat} {a b:Value} (h:af true 2 g (pt i o)=some (.agg #[a,b])):af false 1 g (pt i o)=some a∧af false 1 g (pt i (o+1))=some b:=by
 simp only [af] at h⊢
 cases hc:aQ g i with
 | none=>rw [hc] at h;cases h
 | some xs=>
  rw [hc] at h
  simp only [Option.bind_some,ck,if_true,Bool.false_eq_true,if_false] at h⊢
  split at h
  ·injection h with h
   injection h with h
   have h:=congrArg Array.toList h
   simp only [List.toList_toArray] at h
   have h0:=congrArg (fun l=>l[0]?) h
   have h1:=congrArg (fun l=>l[1]?) h
   simp only [List.getElem?_take,List.getElem?_drop] at h0 h1
   constructor
   ·simpa using h0
   ·simpa using h1
  ·cases h

end Go.Proofs.YtelmdbpaoifmoaaGreat


namespace Go.Proofs.YtelmdbpaoifmoaaGreat
open Go.Sim

theorem iH.num {g:ae} {i:Nat} {q:Rat} (p:iH g i q):∃u,af true 2 g (pt i 0)=some u∧ZV g u q.num:=by
 obtain ⟨a,b,c,d,e,u,w,e2,hu,hw⟩:=p
 refine ⟨_,iO e,u,?_,hu⟩
 injection e2 with e2
 have e3:=congrArg Array.toList e2
 simp only [List.cons.injEq] at e3
 rw [e3.1,e3.2.1]

theorem as8 (z:Int):decide (iN z<0)=decide (z<0):=by
 rw [decide_eq_decide]
 unfold iN
 split
 ·omega
 ·split <;> omega
theorem as9 (z:Int):decide (iN z=0)=decide (z=0):=by
 rw [decide_eq_decide]
 unfold iN
 split
 ·omega
 ·split <;> omega

def bI (b:Bool):Int:=if b then 1 else 0

section
variable {h : ae} {K : Value → ae → Prop}

theorem ait {v:Value} {cs:List (List (List UInt8)×Int)} {i is:Nat} {g0:ae} {b0:Bool} {L1:List Value→ae→Prop} (hv:mj h v cs) (hi:i<cs.length) (hl:cs[i].1.length≤8∧∀s∈cs[i].1,s.length≤700∧isNum s=true)
  (x0:EX h g0) (hs:h.length≤is) (c0:iH g0 is 0)
  (hk:∀b g',EX h g'→b=(b0||(lH (cs[i].1.map bu) (cs[i].1.map bu).length|| !decide (mc (cs[i].1.map bu) (cs[i].1.map bu).length=1)))→zm Tryz.prog K v (I (bI b)) (I i) L1 g'):
  cB [I (bI b0),I 0] g0 fun L2 xs hx=>Pa Tryz.prog K v (I i) (pt is 0) L1 L2 xs hx:=by
 obtain ⟨l8,hl⟩:=hl
 have ml:(cs[i].1.map bu).length=cs[i].1.length:=List.length_map ..
 refine db (σ:=Nat×ae) (fun q=>[I (bI (b0||lH (cs[i].1.map bu) q.1)),I q.1]) (fun q=>q.2) (fun q=>q.1≤cs[i].1.length∧EX h q.2∧iH q.2 is (mc (cs[i].1.map bu) q.1)) (fun q=>cs[i].1.length-q.1) (0,g0) (by simp [lH]) rfl
  ⟨Nat.zero_le _,x0,c0⟩ ?_
 rintro ⟨k,g⟩ ⟨fO,xg,hc⟩ L hL
 simp only at fO xg hc hL⊢
 rw [awg]
 obtain ⟨bi,o,vs,u1,u2,u3⟩:=(hv.mono xg).get hi
 obtain ⟨u4,u5⟩:=yX u2
 simp only [u1,ag,bN,Nat.add_zero,u4,u3.len,cK,bS]
 refine ⟨fun aB=>?_,fun cH=>?_⟩
 rotate_left
 ·have sk:k=cs[i].1.length:=by omega
  subst sk
  rw [awl]
  obtain ⟨vc,lc,qc⟩:=hc.load
  simp only [lc,ag,true_and]
  refine xv (by decide) ?_
  intro r1 g1 x1 q1
  refine ⟨⟨EX.load x1 lc,trivial⟩,?_⟩
  have s1:=QW (qs:=cs[i].1.map bu) (k:=cs[i].1.length) (by rw [ml];exact Nat.le_refl _)
  refine RO ((qc.mono x1).un s1) (q1.un ac7) (by omega) ?_
  intro g2 x2
  simp only [nI,ag,XR]
  have xx:=xg.trans (x1.trans x2)
  rw [ml] at hk
  have e1:((1:Int):Rat)=1:=rfl
  rw [e1]
  by_cases hq:mc (cs[i].1.map bu) cs[i].1.length=1
  ·rw [decide_eq_true hq]
   simp only [Bool.not_true,c7]
   exact hk _ g2 xx (by rw [decide_eq_true hq];simp)
  ·rw [decide_eq_false hq]
   simp only [Bool.not_false,dd]
   exact hk true g2 xx (by rw [decide_eq_false hq];simp)
 have bF:k<cs[i].1.length:=by omega
 obtain ⟨b,o',r1,r2⟩:=u3.get k bF
 have em:=List.getElem_mem bF
 obtain ⟨a1,a2⟩:=hl _ em
 have LP:(cs[i].1.map bu).getD k 0=bu cs[i].1[k]:=by
  rw [List.getD_eq_getElem?_getD,List.getElem?_map,List.getElem?_eq_getElem bF]
  rfl
 simp only [r1,r2,ag]
 refine RN a1 a2 ?_
 intro q71 g1 x1 qv
 have e2:∀g:ae,aW 37 [(.bool false),(.slice none 0 0),(.bool false),(.slice none 0 0)] g=some (pt g.length 0,g++[.arr 37 z4]):=fun _=>rfl
 rw [e2]
 simp only [aD]
 refine xX qv ?_
 intro g3 x3 c3 _
 have jN:is<g1.length:=by have:=hc.lt;have:=x1.1;omega
 generalize g1.length=iq at c3 jN⊢
 have jY:=xg.trans (x1.trans x3)
 simp only [EX.load (x1.trans x3) u4,r1,EX.load (x1.trans x3) r2,ag]
 refine C47 (n:=4) a1 ?_
 rw [ay9 a2 (by decide)]
 have MD:=hc.mono (x1.trans x3)
 -- pz comes after fS test
 have fin:∀{g4:ae},EX g3 g4→Gv Tryz.prog K v (I (bI (b0||lH (cs[i].1.map bu) k))) (I i) (pt is 0) (I k) (pt iq 0) (B (eP (bu cs[i].1[k]))) (if eP (bu cs[i].1[k])=true then undef else B (decide (k+1=cs[i].1.length)&&decide ((bu cs[i].1[k]).num=0))) L1 L g4:=by
  intro g4 x4
  rw [awj]
  have ase:bK (B (eP (bu cs[i].1[k]))) (.bool true) (if eP (bu cs[i].1[k])=true then undef else B (decide (k+1=cs[i].1.length)&&decide ((bu cs[i].1[k]).num=0)))=some (B (og (cs[i].1.map bu) k)):=by
   unfold og
   rw [LP,ml]
   cases eP (bu cs[i].1[k]) with
   | true=>rfl
   | false=>rfl
  rw [ase]
  simp only [ag]
  have sP:∀(bb:Bool) {g5:ae},EX h g5→iH g5 is (mc (cs[i].1.map bu) (k+1))→bb=(b0||lH (cs[i].1.map bu) (k+1))→Gw Tryz.prog K v (I (bI bb)) (I i) (pt is 0) (I k) L1 L g5:=by
   intro bb g5 x5 c5 hbb
   rw [awk]
   simp only [cC,ag,inc k (by omega),true_and]
   have:=hL (k+1,g5) ⟨by show k+1≤_;omega,x5,c5⟩ (by show cs[i].1.length-(k+1)<cs[i].1.length-k;omega)
   rw [hbb]
   exact this
  cases vX:og (cs[i].1.map bu) k with
  | true=>
   simp only [dd]
   refine sP true (jY.trans x4) ?_ (by simp only [lH,vX,Bool.or_true])
   simp only [mc,vX,if_true]
   exact MD.mono x4
  | false=>
   simp only [c7]
   obtain ⟨va,la,qa⟩:=(MD.mono x4).load
   obtain ⟨vb,lb,qb⟩:=(c3.mono x4).load
   simp only [la,lb,ag]
   have s1:=QW (qs:=cs[i].1.map bu) (k:=k) (by rw [ml];omega)
   have nb:eP (bu cs[i].1[k])=false:=by
    unfold og at vX
    rw [Bool.or_eq_false_iff,LP] at vX
    exact vX.1
   have s2:cA 4 (bu cs[i].1[k]):=by
    unfold eP rU at nb
    rw [Bool.or_eq_false_iff,Bool.not_eq_false',Bool.and_eq_true,decide_eq_true_eq,decide_eq_true_eq] at nb
    exact nb.2
   refine H9 (qa.un s1) (qb.un s2) (by omega) ?_
   intro r5 g5 x5 q5
   refine Cz q5 (by omega) ?_
   intro r6 g6 x6 q6
   obtain ⟨g7,e7,s7⟩:=((MD.mono x4).mono (x5.trans x6)).store q6
   simp only [e7,aD]
   refine sP _ (s7.ex (jY.trans (x4.trans (x5.trans x6))) hs) ?_ (by simp only [lH,vX,Bool.or_false])
   have:mc (cs[i].1.map bu) (k+1)=mc (cs[i].1.map bu) k+bu cs[i].1[k]:=by simp only [mc,vX,LP];rfl
   rw [this]
   exact s7.cell
 -- fS last one is not 0
 have last:∀{g4:ae},EX g3 g4→Pc Tryz.prog K v (I (bI (b0||lH (cs[i].1.map bu) k))) (I i) (pt is 0) (I k) (pt iq 0) (B (eP (bu cs[i].1[k]))) L1 L g4:=by
  intro g4 x4
  rw [awi]
  cases E7:eP (bu cs[i].1[k]) with
  | true=>
   have:=fin x4
   rw [E7,if_pos rfl] at this
   simp only [eY]
   rw [agk]
   simp only [tm]
   rw [Qh]
   simp only [eY]
   exact this
  | false=>
   have fin:=@fin
   rw [E7] at fin
   simp only [Bool.false_eq_true,if_false] at fin
   simp only [dF]
   obtain ⟨bi4,o4,vs4,m1,m2,m3⟩:=(hv.mono (jY.trans x4)).get hi
   obtain ⟨m4,m5⟩:=yX m2
   have ew:IntKind.wrap .i64 ((cs[i].1.length:Int)-1)=(cs[i].1.length:Int)-1:=wrap64 (by omega) (by omega)
   simp only [m1,ag,bN,Nat.add_zero,m4,m3.len,eW,ew,fW]
   have ed:decide ((k:Int)=(cs[i].1.length:Int)-1)=decide (k+1=cs[i].1.length):=by rw [decide_eq_decide];omega
   rw [ed,agk]
   by_cases Bc:k+1=cs[i].1.length
   ·rw [decide_eq_true Bc] at fin⊢
    simp only [eO]
    obtain ⟨un,ln,zn⟩:=(c3.mono x4).num
    simp only [bN,Nat.add_zero,ag,ln]
    refine Ib zn ?_
    intro g5 x5
    simp only [fW,ag,as9]
    rw [Qh]
    simp only [dF,dh,ag]
    have:=fin (x4.trans x5)
    rwa [Bool.true_and] at this
   ·rw [decide_eq_false Bc] at fin⊢
    simp only [ie]
    rw [Qh]
    simp only [dF,cV,ag]
    have:=fin x4
    rwa [Bool.false_and] at this
 simp only [nC,ag]
 rw [awh]
 cases hf:rU 4 (bu cs[i].1[k]) with
 | false=>
  have eb:eP (bu cs[i].1[k])=true:=by unfold eP;rw [hf];simp
  simp only [Bool.not_false,eY]
  rw [agj]
  simp only [dh,ag]
  have:=last (EX.refl g3)
  rwa [eb] at this
 | true=>
  have eb:eP (bu cs[i].1[k])=decide ((bu cs[i].1[k]).num<0):=by unfold eP;rw [hf];simp
  simp only [Bool.not_true,dF]
  obtain ⟨un,ln,zn⟩:=c3.num
  simp only [bN,Nat.add_zero,ag,ln]
  refine Ib zn ?_
  intro g5 x5
  simp only [cK,ag,as8]
  rw [agj]
  simp only [cV,ag]
  have:=last x5
  rwa [eb] at this

end
end Go.Proofs.YtelmdbpaoifmoaaGreat


namespace Go.Proofs.YtelmdbpaoifmoaaGreat
open Go.Sim

def pK (cs:List (List (List UInt8)×Int)):Int:=if iJ cs=false then 2 else if pH cs=false then 1 else 0
def sQ (cs:List (List (List UInt8)×Int)):Bool:=(lW cs).all fun c=>dw c.1 c.2

theorem ac5 {cs:List (List (List UInt8)×Int)} {i:Nat} (hi:i<cs.length):sQ (cs.take (i+1))=(sQ (cs.take i)&&dw (cs[i].1.map bu) cs[i].2):=by
 unfold sQ lW
 rw [List.take_succ_eq_append_getElem hi,List.map_append,List.all_append]
 simp
theorem ari {cs:List (List (List UInt8)×Int)} {i:Nat} (hi:i<cs.length):iJ (cs.take (i+1))=(iJ (cs.take i)&&cs[i].1.all isNum):=by
 unfold iJ
 rw [List.take_succ_eq_append_getElem hi,List.all_append]
 simp
theorem arh {cs:List (List (List UInt8)×Int)} {i:Nat} (hi:i<cs.length) (h:cs[i].1.all isNum=false):iJ cs=false:=by
 unfold iJ
 rw [List.all_eq_false]
 exact ⟨cs[i],List.getElem_mem hi,by rw [h];decide⟩

section
variable {h : ae} {K : Value → ae → Prop}

theorem C13 {v:Value} {cs:List (List (List UInt8)×Int)} (hv:mj h v cs) (hl:∀c∈cs,c.1.length≤1000∧∀s∈c.1,s.length≤700) (hn:cs.length≤1000)
  (hk:∀h',EX h h'→K (I (pK cs)) h'):aj Tryz.prog 13 [v] h K:=by
 refine f13 ?_
 unfold JI
 refine db (σ:=Nat×ae) (fun q=>[I (bI (!sQ (cs.take q.1))),I q.1]) (fun q=>q.2) (fun q=>q.1≤cs.length∧EX h q.2∧iJ (cs.take q.1)=true) (fun q=>cs.length-q.1) (0,h) rfl rfl ⟨Nat.zero_le _,EX.refl _,rfl⟩ ?_
 rintro ⟨i,g⟩ ⟨hi,xg,kS⟩ L hL
 simp only at hi xg kS hL⊢
 rw [awo]
 have hlen:=(hv.mono xg).len
 simp only [hlen,ag,cK,bS]
 refine ⟨fun aB=>?_,fun cH=>?_⟩
 rotate_left
 ·have hM:i=cs.length:=by omega
  subst hM
  rw [List.take_length] at kS⊢
  rw [awn]
  simp only [hlen,ag]
  refine Ia ?_
  have hk:=hk g xg
  unfold pK at hk
  rw [if_neg (by rw [kS];decide)] at hk
  simp only [nC,ag]
  unfold pH at hk
  have eo:((lW cs).all fun c=>dw c.1 c.2)=sQ cs:=rfl
  rw [eo] at hk
  have e1:decide ((1:Int)≤(cs.length:Int))=decide (1≤cs.length):=by rw [decide_eq_decide];omega
  have e2:decide ((cs.length:Int)≤3)=decide (cs.length≤3):=by rw [decide_eq_decide];omega
  rw [e1,e2]
  cases hc:(decide (1≤cs.length)&&decide (cs.length≤3)) with
  | false=>
   rw [hc,Bool.false_and,if_pos rfl] at hk
   simp only [Bool.not_false,dd]
   rw [agl];exact hk
  | true=>
   rw [hc,Bool.true_and] at hk
   simp only [Bool.not_true,c7]
   rw [agl]
   cases ho:sQ cs with
   | false=>rw [ho,if_pos rfl] at hk;exact hk
   | true=>rw [ho,if_neg (by decide)] at hk;exact hk
 have bF:i<cs.length:=by omega
 obtain ⟨l1,l2⟩:=hl _ (List.getElem_mem bF)
 refine xv (by decide) ?_
 intro r1 g1 x1 q1
 have e2:∀g:ae,aW 37 [(.bool false),(.slice none 0 0),(.bool false),(.slice none 0 0)] g=some (pt g.length 0,g++[.arr 37 z4]):=fun _=>rfl
 rw [e2]
 simp only [aD]
 refine xX q1 ?_
 intro g2 x2 c2 _
 have jX:=xg.trans (x1.trans x2)
 have hs:h.length≤g1.length:=(xg.trans x1).1
 generalize g1.length=is at c2 hs⊢
 -- all texts are numbers
 refine db (σ:=Nat×ae) (fun q=>[I q.1]) (fun q=>q.2) (fun q=>q.1≤cs[i].1.length∧EX g2 q.2∧(cs[i].1.take q.1).all isNum=true) (fun q=>cs[i].1.length-q.1) (0,g2) rfl rfl ⟨Nat.zero_le _,EX.refl _,by simp⟩ ?_
 rintro ⟨k,g3⟩ ⟨fO,x3,rf⟩ L' AX
 simp only at fO x3 rf AX⊢
 have jY:=jX.trans x3
 rw [awd]
 obtain ⟨bi,o,vs,u1,u2,u3⟩:=(hv.mono jY).get bF
 obtain ⟨u4,u5⟩:=yX u2
 simp only [u1,ag,bN,Nat.add_zero,u4,u3.len,cK,bS]
 refine ⟨fun ka=>?_,fun MN=>?_⟩
 ·have jB:k<cs[i].1.length:=by omega
  obtain ⟨b,o',r1,r2⟩:=u3.get k jB
  simp only [r1,r2,ag]
  refine C24 (l2 _ (List.getElem_mem jB)) ?_
  intro g4 x4
  have ei:(jt cs[i].1[k]).isSome=isNum cs[i].1[k]:=rfl
  rw [ei]
  simp only [nC,ag]
  cases ZA:isNum cs[i].1[k] with
  | false=>
   simp only [Bool.not_false,dd]
   have hf:iJ cs=false:=arh bF (by rw [List.all_eq_false];exact ⟨_,List.getElem_mem jB,by rw [ZA];decide⟩)
   have:=hk g4 (jY.trans x4)
   unfold pK at this
   rw [if_pos hf] at this
   exact this
  | true=>
   simp only [Bool.not_true,c7,cC,ag,inc k (by omega),true_and]
   refine AX (k+1,g4) ⟨by show k+1≤_;omega,x3.trans x4,?_⟩ (by show cs[i].1.length-(k+1)<cs[i].1.length-k;omega)
   show (cs[i].1.take (k+1)).all isNum=true
   rw [List.take_succ_eq_append_getElem jB,List.all_append,rf]
   simp [ZA]
 have sk:k=cs[i].1.length:=by omega
 subst sk
 rw [List.take_length] at rf
 have arQ:iJ (cs.take (i+1))=true:=by rw [ari bF,kS,rf];rfl
 have sP:∀{g5:ae} (b:Bool),EX h g5→b= !sQ (cs.take (i+1))→zm Tryz.prog K v (I (bI b)) (I i) L g5:=by
  intro g5 b x5 hb
  rw [awm]
  simp only [cC,ag,inc i (by omega),true_and]
  have:=hL (i+1,g5) ⟨by show i+1≤_;omega,x5,arQ⟩ (by show cs.length-(i+1)<cs.length-i;omega)
  rw [hb]
  exact this
 have ml:(cs[i].1.map bu).length=cs[i].1.length:=List.length_map ..
 rw [awe]
 simp only [u1,ag,bN,Nat.add_zero,u4,u3.len]
 refine Ia ?_
 simp only [nC,ag]
 have e1:decide ((1:Int)≤(cs[i].1.length:Int))=decide (1≤cs[i].1.length):=by rw [decide_eq_decide];omega
 have e8:decide ((cs[i].1.length:Int)≤8)=decide (cs[i].1.length≤8):=by rw [decide_eq_decide];omega
 rw [e1,e8,awf]
 have out:∀eL:Value,bK (B (!(decide (1≤cs[i].1.length)&&decide (cs[i].1.length≤8)))) (.bool true) eL=some (B true)→dw (cs[i].1.map bu) cs[i].2=false→Gu Tryz.prog K v (I (bI (!sQ (cs.take i)))) (I i) (pt is 0) (B (!(decide (1≤cs[i].1.length)&&decide (cs[i].1.length≤8)))) eL L g3:=by
  intro eL hp cU
  rw [agi,hp]
  simp only [ag,dd]
  exact sP true jY (by rw [ac5 bF,cU,Bool.and_false];rfl)
 cases hc:(decide (1≤cs[i].1.length)&&decide (cs[i].1.length≤8)) with
 | false=>
  rw [hc] at out
  simp only [Bool.not_false,eY]
  exact out _ rfl (by unfold dw;rw [ml,hc];rfl)
 | true=>
  rw [hc] at out
  simp only [Bool.not_true,dF,u1,ag,bN,u5]
  refine Ia ?_
  simp only [nC,ag]
  cases hw:(decide (0≤cs[i].2)&&decide (cs[i].2≤50)) with
  | false=>
   exact out _ rfl (by unfold dw;rw [ml,hc,hw];rfl)
  | true=>
   rw [agi]
   simp only [Bool.not_true,cV,ag,c7]
   rw [Bool.and_eq_true,decide_eq_true_eq,decide_eq_true_eq] at hc
   refine ait hv bF ⟨hc.2,fun s df=>⟨l2 s df,List.all_eq_true.1 rf s df⟩⟩ jY hs (c2.mono x3) ?_
   intro b g5 x5 hb
   refine sP b x5 ?_
   rw [hb,ata (by rw [ml];exact hc.1),ac5 bF]
   unfold dw
   rw [ml,decide_eq_true hc.1,decide_eq_true hc.2,hw]
   cases sQ (cs.take i) <;> simp

end
end Go.Proofs.YtelmdbpaoifmoaaGreat


namespace Go.Proofs.YtelmdbpaoifmoaaGreat
open Go.Sim

def qQ (ls:List (List UInt8)):List (List UInt8):=(ls.take 9).map fun s=>s.take 20
def EA (cs:List (List (List UInt8)×Int)):List (List (List UInt8)×Int):=(cs.take 4).map fun c=>(qQ c.1,c.2)

def NX:Value→Bool
 | .string _=>true
 | _=>false

def TS (h:ae) (v:Value) (ls:List (List UInt8)):Prop:=(v=.slice none 0 0∧ls=[])∨∃e i,v=sl e i 0 ls.length∧(ls=[]∨aQ h i=some (ls.map S))

theorem TS.ss {h:ae} {v:Value} {ls:List (List UInt8)} (p:TS h v ls):SS h v ls:=by
 rcases p with ⟨rfl,rfl⟩ | ⟨e,i,rfl,rfl | hc⟩
 ·exact ⟨rfl,fun k hk=>by simp at hk⟩
 ·exact ⟨rfl,fun k hk=>by simp at hk⟩
 ·exact SS.sl hc
theorem TS.dI {h h':ae} {v:Value} {ls:List (List UInt8)} (x:KP NX h h') (p:TS h v ls):TS h' v ls:=by
 rcases p with p | ⟨e,i,rfl,hc⟩
 ·exact .inl p
 ·refine .inr ⟨e,i,rfl,?_⟩
  rcases hc with hc | hc
  ·exact .inl hc
  ·cases ls with
   | nil=>exact .inl rfl
   | cons s t=>right;exact x i _ _ hc rfl
theorem TS.one {h:ae} {v:Value} {ls:List (List UInt8)} (p:TS h v ls):gW v=true∧cZ v=[v]∧fw v=true:=by
 rcases p with ⟨rfl,_⟩ | ⟨e,i,rfl,_⟩ <;> exact ⟨rfl,rfl,rfl⟩

def oE (b:Nat) (h:ae) (v:Value) (cs:List (List (List UInt8)×Int)):Prop:=
 ∃rows,iV b h 24 2 v rows∧rows.length=cs.length∧∀(k:Nat) (row:List Value) (c:List (List UInt8)×Int),rows[k]?=some row→cs[k]?=some c→∃vs,row=[vs,I c.2]∧TS h vs c.1

theorem oE.start (b:Nat) (h:ae):oE b h (.slice none 0 0) []:=⟨[],iV.start ..,rfl,fun k r q h=>by simp at h⟩
theorem oE.chl {b:Nat} {h:ae} {v:Value} {cs:List (List (List UInt8)×Int)} (o:oE b h v cs):mj h v cs:=
 let ⟨rows,a,c,d⟩:=o;⟨rows,a.rs,c,fun k row q h1 h2=>let ⟨vs,e,m⟩:=d k row q h1 h2;⟨vs,e,m.ss⟩⟩
theorem oE.ex {b:Nat} {h h':ae} {v:Value} {cs:List (List (List UInt8)×Int)} (x:EX h h') (o:oE b h v cs):oE b h' v cs:=
 let ⟨rows,a,c,d⟩:=o;⟨rows,a.ex x,c,fun k row q h1 h2=>let ⟨vq,e,m⟩:=d k row q h1 h2;⟨vq,e,m.dI (KP.ex x)⟩⟩

theorem oE.app {h0 h:ae} {v vs:Value} {ls:List (List UInt8)} {w:Int} {cs:List (List (List UInt8)×Int)} {zs:List Value} {K:Value→ae→Prop} (o:oE h0.length h v cs) (hex:EX h0 h) (hq:TS h vs ls) (hz:zs.length=2) (hl:cs.length≤10000)
  (hk:∀v' h',EX h0 h'→oE h0.length h' v' (cs++[(ls,w)])→K v' h'):OH (cT 24 1 zs h [(0,2,.agg #[vs,I w])]) fun y h2=>OH (dA 24 2 32 h2 v y) K:=by
 obtain ⟨rows,o1,o2,o4⟩:=o
 obtain ⟨t1,t2,_⟩:=hq.one
 refine o1.app hex hz (row:=[vs,I w]) rfl (by simp [cZ,Value.cells]) rfl (by omega) (by simp [maxLen];omega) ?_
 intro v' h' x' hold o'
 have fl:∀c r,rows.flatten=c::r→NX c=false:=by
  intro c r e
  cases rows with
  | nil=>simp at e
  | cons row rows=>
   cases cs with
   | nil=>simp at o2
   | cons c0 cs=>
    obtain ⟨vs0,e0,m0⟩:=o4 0 row c0 rfl rfl
    subst e0
    simp only [List.flatten_cons,List.cons_append,List.cons.injEq] at e
    rw [←e.1]
    rcases m0 with ⟨rfl,_⟩ | ⟨_,_,rfl,_⟩ <;> rfl
 have kp:KP NX h h':=o1.kp fl hold
 refine hk v' h' x' ⟨_,o',by simp [o2],fun k row q h1 h2=>?_⟩
 by_cases hk:k<rows.length
 ·rw [List.getElem?_append_left hk] at h1
  rw [List.getElem?_append_left (by omega)] at h2
  obtain ⟨Q6,e,m⟩:=o4 k row q h1 h2
  exact ⟨Q6,e,m.dI kp⟩
 ·rw [List.getElem?_append_right (by omega)] at h1
  rw [List.getElem?_append_right (by omega),←o2] at h2
  have h0:k-rows.length=0:=by
   have:=(List.getElem?_eq_some_iff.1 h1).1
   simp at this;omega
  rw [h0] at h1 h2
  simp only [List.getElem?_cons_zero,Option.some.injEq] at h1 h2
  subst h1 h2
  exact ⟨vs,rfl,hq.dI kp⟩

theorem auK {b:Nat} {h:ae} {v:Value} {ls:List (List UInt8)} (o:fN b h 27 v (ls.map S)):TS h v ls:=by
 rcases o with ⟨rfl,e⟩ | ⟨i,_,rfl,hg⟩
 ·exact .inl ⟨rfl,by simpa using e⟩
 ·exact .inr ⟨27,i,by rw [List.length_map],.inr (by simp [aQ,hg])⟩

section
variable {h : ae} {K : Value → ae → Prop}

theorem C11 {v:Value} {cs:List (List (List UInt8)×Int)} (hv:mj h v cs) (hk:∀v' h',EX h h'→mj h' v' (EA cs)→K v' h'):aj Tryz.prog 11 [v] h K:=by
 refine f11 ?_
 have e0:cT 24 0 [(.slice none 0 0),(.int .i64 (0))] h []=some (sl 24 h.length 0 0,h++[.arr 24 []]):=rfl
 simp only [Jo,e0,aD]
 have x0:EX h (h++[.arr 24 []]):=EX.append _ _
 have OG:oE h.length (h++[ak.arr 24 []]) (sl 24 h.length 0 0) []:=⟨[],⟨fun r hr=>by simp at hr,.inr ⟨h.length,Nat.le_refl _,rfl,by simp⟩⟩,rfl,fun k r q h=>by simp at h⟩
 generalize sl 24 h.length 0 0=v0 at OG⊢
 generalize h++[ak.arr 24 []]=h1 at x0 OG⊢
 refine db (σ:=Nat×Value×ae) (fun q=>[q.2.1,I q.1]) (fun q=>q.2.2) (fun q=>q.1≤cs.length∧q.1≤4∧EX h q.2.2∧oE h.length q.2.2 q.2.1 ((cs.take q.1).map fun c=>(qQ c.1,c.2))) (fun q=>cs.length-q.1)
  (0,v0,h1) rfl rfl ⟨Nat.zero_le _,Nat.zero_le _,x0,OG⟩ ?_
 rintro ⟨i,vo,g⟩ ⟨hi,A8,xg,own⟩ L hL
 simp only at hi A8 xg own hL⊢
 rw [avu]
 have hlen:=(hv.mono xg).len
 simp only [hlen,ag,cK]
 rw [avo]
 by_cases aB:i<cs.length∧i<4
 rotate_left
 ·have out:∀a b:Value,bK a b (.bool false)=some (B false)→Gm Tryz.prog K v vo (I i) a b L g:=by
   intro a b hp
   rw [af8,hp]
   simp only [ag,c7]
   rw [avt]
   refine hk vo g xg ?_
   have:EA cs=(cs.take i).map fun c=>(qQ c.1,c.2):=by
    unfold EA
    by_cases h4:i<4
    ·rw [List.take_of_length_le (by omega),List.take_of_length_le (by omega)]
    ·rw [show i=4 by omega]
   rw [this]
   exact own.chl
  by_cases h1:i<cs.length
  ·rw [decide_eq_true (show (i:Int)<(cs.length:Int) by omega)]
   simp only [eO,qN,ag]
   rw [decide_eq_false (show ¬(i:Int)≤3 by omega)]
   exact out _ _ rfl
  ·rw [decide_eq_false (show ¬(i:Int)<(cs.length:Int) by omega)]
   simp only [ie]
   exact out _ _ rfl
 obtain ⟨bF,hi3⟩:=aB
 rw [decide_eq_true (show (i:Int)<(cs.length:Int) by omega)]
 simp only [eO,qN,ag]
 rw [decide_eq_true (show (i:Int)≤3 by omega),af8]
 obtain ⟨b,o,vs,u1,u2,u3⟩:=(hv.mono xg).get bF
 obtain ⟨u4,u5⟩:=yX u2
 have e23:cN [(.slice none 0 0),(.int .i64 (0))] [(1,1,I cs[i].2)]=some (.agg #[.slice none 0 0,I cs[i].2]):=rfl
 have ea:aW 24 [(.slice none 0 0),(.int .i64 (0))] g=some (pt g.length 0,g++[.arr 24 [.slice none 0 0,I 0]]):=rfl
 simp only [dh,ag,dd,u1,bN,u5,e23,ea,aD]
 have j1:(g++[ak.arr 24 [.slice none 0 0,I 0]])[g.length]?=some (.arr 24 [.slice none 0 0,I 0]):=bO
 have y1:EX g (g++[ak.arr 24 [.slice none 0 0,I 0]]):=EX.append _ _
 generalize g++[ak.arr 24 [.slice none 0 0,I 0]]=g1 at j1 y1⊢
 rw [dX j1]
 simp only [aD]
 have y2:EX g (g1.set g.length (.arr 24 [.slice none 0 0,I cs[i].2])):=y1.set (Nat.le_refl _) _
 have j2:(g1.set g.length (.arr 24 [.slice none 0 0,I cs[i].2]))[g.length]?=some (.arr 24 [.slice none 0 0,I cs[i].2]):=cJ j1
 generalize g1.set g.length (.arr 24 [.slice none 0 0,I cs[i].2])=g2 at y2 j2⊢
 -- fS texts
 refine db (σ:=Nat×Value×ae) (fun q=>[I q.1]) (fun q=>q.2.2) (fun q=>q.1≤cs[i].1.length∧q.1≤9∧EX g q.2.2∧q.2.2[g.length]?=some (.arr 24 [q.2.1,I cs[i].2])∧fN (g.length+1) q.2.2 27 q.2.1 (((cs[i].1.take q.1).map fun s=>s.take 20).map S)) (fun q=>cs[i].1.length-q.1)
  (0,.slice none 0 0,g2) rfl rfl ⟨Nat.zero_le _,Nat.zero_le _,y2,j2,.inl ⟨rfl,by simp⟩⟩ ?_
 rintro ⟨k,vl,g3⟩ ⟨fO,hk9,x3,j3,ol⟩ L' AX
 simp only at fO hk9 x3 j3 ol AX⊢
 rw [avp]
 have jY:=xg.trans x3
 obtain ⟨b,o,vs,u1,u2,u3⟩:=(hv.mono jY).get bF
 obtain ⟨u4,u5⟩:=yX u2
 simp only [u1,ag,bN,Nat.add_zero,u4,u3.len,cK]
 rw [avq]
 by_cases aB:k<cs[i].1.length∧k<9
 rotate_left
 ·have out:∀a b:Value,bK a b (.bool false)=some (B false)→Gn Tryz.prog K v vo (I i) (pt g.length 0) (I k) a b L L' g3:=by
   intro a b hp
   rw [af9,hp]
   simp only [ag,c7]
   rw [avr,cf j3,ag]
   have el:(cs[i].1.take k).map (fun s=>s.take 20)=qQ cs[i].1:=by
    unfold qQ
    by_cases h4:k<9
    ·rw [List.take_of_length_le (by omega),List.take_of_length_le (by omega)]
    ·rw [show k=9 by omega]
   rw [el] at ol
   refine (own.ex x3).app jY (auK ol) rfl (by rw [List.length_map,List.length_take];omega) ?_
   intro v' g4 x4 BT
   rw [avs]
   simp only [cC,ag,inc i (by omega),true_and]
   refine hL (i+1,v',g4) ⟨by show i+1≤_;omega,by show i+1≤4;omega,x4,?_⟩ (by show cs.length-(i+1)<cs.length-i;omega)
   rw [List.take_succ_eq_append_getElem bF,List.map_append]
   exact BT
  by_cases h1:k<cs[i].1.length
  ·rw [decide_eq_true (show (k:Int)<(cs[i].1.length:Int) by omega)]
   simp only [eO,qN,ag]
   rw [decide_eq_false (show ¬(k:Int)≤8 by omega)]
   exact out _ _ rfl
  ·rw [decide_eq_false (show ¬(k:Int)<(cs[i].1.length:Int) by omega)]
   simp only [ie]
   exact out _ _ rfl
 obtain ⟨jB,hk8⟩:=aB
 rw [decide_eq_true (show (k:Int)<(cs[i].1.length:Int) by omega)]
 simp only [eO,qN,ag]
 rw [decide_eq_true (show (k:Int)≤8 by omega),af9]
 obtain ⟨b',o',r1,r2⟩:=u3.get k jB
 have lc:af false 1 g3 (pt g.length 0)=some vl:=by simp [af,aQ,j3,ck]
 have mm:min ((cs[i].1[k].length:Int)) 20=((min cs[i].1[k].length 20:Nat):Int):=by omega
 have e58:iZ (S cs[i].1[k]) none (some (I ((min cs[i].1[k].length 20:Nat):Int)))=some (S (cs[i].1[k].take 20)):=by
  have e:=Hs (a:=cs[i].1[k]) (n:=min cs[i].1[k].length 20) (Nat.min_le_left _ _) .i64
  rw [e]
  congr 2
  by_cases YP:cs[i].1[k].length≤20
  ·rw [List.take_of_length_le YP,List.take_of_length_le (by omega)]
  ·rw [Nat.min_eq_right (by omega)]
 simp only [dh,ag,dd,bN,Nat.add_zero,lc,u1,u4,r1,r2,jq,min2,mm,e58,true_and]
 have Nw:=List.getElem?_eq_some_iff.1 j3
 have e59:cT 27 1 [(.string ⟨#[]⟩)] g3 [(0,1,S (cs[i].1[k].take 20))]=some (sl 27 g3.length 0 1,g3++[.arr 27 [S (cs[i].1[k].take 20)]]):=rfl
 have ld4:af false 1 (g3++[.arr 27 [S (cs[i].1[k].take 20)]]) (pt g.length 0)=some vl:=EX.load (EX.append _ _) lc
 have key:=Db (z:=.string ⟨#[]⟩) (bytes:=16) (x:=S (cs[i].1[k].take 20)) (K:=fun gF h_2=>OP (aE 0 (pt g.length 0)) fun iE=>
  OH (aJ 1 h_2 iE gF) fun _ h_3=>
  OP (ah .add (I k) (.int .i64 (1))) fun dM=>L' [dM] h_3) ol (by rw [List.length_map,List.length_map,List.length_take];omega) (by rw [List.length_map,List.length_map,List.length_take];simp [maxLen];omega) rfl rfl ?_
 ·rw [e59] at key⊢
  simp only [aD] at key⊢
  refine ⟨⟨ld4,trivial⟩,?_⟩
  simpa only [bN,Nat.add_zero,ag,true_and] using key
 ·intro h1 g4 _ hl4 hold iL
  simp only [aD,bN,Nat.add_zero,ag]
  have sf:g.length<g3.length:=Nw.1
  have j4:g4[g.length]?=some (.arr 24 [vl,I cs[i].2]):=by
   rw [hold _ sf ?_]
   ·exact j3
   ·intro n hn
    have:=(ol.lt hn).1
    omega
  rw [show pt g.length 0=pt g.length 0 from rfl,pq j4 (by simp) rfl rfl]
  simp only [aD,cC,ag,inc k (by omega)]
  have nY:(cs[i].1.take (k+1)).map (fun s=>s.take 20)=(cs[i].1.take k).map (fun s=>s.take 20)++[cs[i].1[k].take 20]:=by
   rw [List.take_succ_eq_append_getElem jB,List.map_append];rfl
  have x4:EX g g4:=by
   refine ⟨by omega,fun d hd=>?_⟩
   rw [hold d (by omega) ?_]
   ·exact x3.2 d hd
   ·intro n hn
    have:=(ol.lt hn).1
    omega
  refine AX (k+1,sl 27 (g3.length+1) 0 ((((cs[i].1.take k).map fun s=>s.take 20).map S).length+1),_) ⟨by show k+1≤_;omega,by show k+1≤9;omega,?_,?_,?_⟩ (by show cs[i].1.length-(k+1)<cs[i].1.length-k;omega)
  ·exact x4.set (Nat.le_refl _) _
  ·exact cJ j4
  ·right
   refine ⟨g3.length+1,by omega,?_,?_⟩
   ·simp only [nY,List.map_append,List.length_append,List.length_map,List.length_cons,List.length_nil]
   ·show (g4.set _ _)[g3.length+1]?=_
    rw [List.getElem?_set_ne (by omega),iL,nY,List.map_append]
    rfl

end
end Go.Proofs.YtelmdbpaoifmoaaGreat


namespace Go.Proofs.YtelmdbpaoifmoaaGreat
open Go.Sim

section
variable {h : ae} {K : Value → ae → Prop}

theorem F9 {g:ae} {i:Nat} (hi:g[i]?=some (.arr 107 z4)):ee g (pt i 0)=some (.agg #[.int .i64 107,.bool false,.slice none 0 0,.bool false,.slice none 0 0]):=by
 simp [ee,yQ,hi,mZ,qq]

theorem zS {g:ae} {i:Nat} {v:Value} {q:Rat} (hg:g[i]?=some (.arr 107 z4)) (hv:RV g v q):∃g',aJ 4 g (pt i 0) v=some (undef,g')∧uU g g' i q:=XP (s:=false) (b:=.slice none 0 0) (c:=.bool false) (d:=.slice none 0 0) hg hv
theorem Cell.store {g:ae} {i:Nat} {v:Value} {p q:Rat} (c:Cell g i p) (hv:RV g v q):∃g',aJ 4 g (pt i 0) v=some (undef,g')∧uU g g' i q:=by
 obtain ⟨a,b,e,d,k,_⟩:=c
 exact XP (s:=a) k hv

structure uN (h g:ae) (ij ix ib id iw:Nat) (qs:List Rat) (w:Int) (vq:Value) (s:Jb):Prop where
 ex:EX h g
 FP:g[ij]?=some (.arr 102 [I qs.length,I w,vq])
 out:g[ix]?=some (.arr 107 z4)
 aZ:Cell g ib s.aZ
 done:Cell g id s.done
 iD:Cell g iw s.iD

theorem uN.mono {h g g':ae} {ij ix ib id iw:Nat} {qs:List Rat} {w:Int} {vq:Value} {s:Jb} (x:EX g g') (p:uN h g ij ix ib id iw qs w vq s):uN h g' ij ix ib id iw qs w vq s:=
 ⟨p.ex.trans x,x.get p.FP,x.get p.out,p.aZ.mono x,p.done.mono x,p.iD.mono x⟩

theorem aiJ {ij ix ib id iw:Nat} {qs:List Rat} {w:Int} {vq:Value} {age:Nat} {g0:ae} (hq:QL h vq qs) (aA:dw qs w=true) (A0:age<qs.length)
  (b1:h.length≤ix∧h.length≤ib∧h.length≤id∧h.length≤iw) (d1:ij≠ib∧ij≠id∧ij≠iw) (d2:ix≠ib∧ix≠id∧ix≠iw) (d3:ib≠id∧ib≠iw∧id≠iw)
  (hi:uN h g0 ij ix ib id iw qs w vq (bT qs w age 0))
  (hk:∀r h',EX h h'→RV h' r (bT qs w age (qs.length-age)).aZ→K (.tuple #[r,I ((bT qs w age (qs.length-age)).fx:Nat)]) h'):
  cB [(.int .i64 (0)),(.int .i64 (1))] g0 fun L1 xs hx=>PA Tryz.prog K (I age) (pt ij 0) (pt ix 0) (pt ib 0) (pt id 0) (pt iw 0) L1 xs hx:=by
 obtain ⟨⟨_,l8⟩,⟨w0,tc⟩,hb,_⟩:=vi aA
 have s4:=AO hb
 refine db (σ:=Nat×ae) (fun q=>[I ((bT qs w age q.1).fx:Nat),I (q.1+1:Nat)]) (fun q=>q.2) (fun q=>age+q.1≤qs.length∧uN h q.2 ij ix ib id iw qs w vq (bT qs w age q.1)) (fun q=>qs.length-q.1) (0,g0) rfl rfl ⟨by show age+0≤_;omega,hi⟩ ?_
 clear hi
 rintro ⟨d,g⟩ ⟨hd,inv⟩ L hL
 simp only at hd inv hL⊢
 rw [awU]
 have lj0:af false 1 g (pt ij 0)=some (I qs.length):=by simp [af,aQ,inv.FP,ck]
 have ws:ah .sub (I qs.length) (I age)=some (I (qs.length-age:Nat)):=by rw [eW,wrap64 (by omega) (by omega)];congr 2;omega
 simp only [bN,Nat.add_zero,ag,lj0,ws,qN,bS]
 refine ⟨fun hle=>?_,fun pX=>?_⟩
 rotate_left
 ·have A4:d=qs.length-age:=by omega
  subst A4
  rw [awT]
  obtain ⟨v,l1,l2⟩:=inv.aZ.load
  obtain ⟨g',e1,st⟩:=zS inv.out l2
  simp only [l1,ag,e1,aD]
  obtain ⟨v',m1,m2⟩:=st.cell.load
  simp only [m1,ag]
  exact hk v' g' (st.ex inv.ex b1.1) m2
 have lO:age+d<qs.length:=by omega
 have iu:age+(d+1)≤qs.length:=by omega
 obtain ⟨sz1,QX⟩:=zE (age:=age) (d:=d) aA hd
 obtain ⟨QY,Q0⟩:=zE (age:=age) (d:=d+1) aA iu
 obtain ⟨ed,ew⟩:=rD qs w age d
 have Z5:=(Co (age:=age) (d:=d+1) aA iu).2 (by omega)
 rw [Ox] at Z5
 obtain ⟨vd,l1,l2⟩:=inv.done.load
 have lj2:∀{g':ae},g'[ij]?=some (.arr 102 [I qs.length,I w,vq])→af false 1 g' (pt ij 2)=some vq:=fun k=>by simp [af,aQ,k,ck]
 have lj1:∀{g':ae},g'[ij]?=some (.arr 102 [I qs.length,I w,vq])→af false 1 g' (pt ij 1)=some (I w):=fun k=>by simp [af,aQ,k,ck]
 have lja:∀{g':ae},g'[ij]?=some (.arr 102 [I qs.length,I w,vq])→af true 3 g' (pt ij 0)=some (.agg #[I qs.length,I w,vq]):=fun k=>by simp [af,aQ,k,ck]
 have w1:ah .add (I age) (I (d+1:Nat))=some (I (age+(d+1):Nat)):=by rw [cC,wrap64 (by omega) (by omega)];congr 2
 have w2:ah .sub (I (age+(d+1):Nat)) (.int .i64 1)=some (I (age+d:Nat)):=by rw [eW,wrap64 (by omega) (by omega)];congr 2;omega
 obtain ⟨bi,oi,r,u1,u2,u3⟩:=(hq.mono inv.ex).get lO
 simp only [l1,ag,true_and,lj2 inv.FP,w1,w2,u1,u2]
 refine Ij l2 u3 sz1 (s4 _ (List.getElem_mem lO)) (by omega) ?_
 intro r1 g1 x1 ZK
 have eg:qs[age+d]=qs.getD (age+d) 0:=by rw [List.getD_eq_getElem?_getD,List.getElem?_eq_getElem lO];rfl
 rw [eg,←ed] at ZK
 have inv1:=inv.mono x1
 -- pz is done
 obtain ⟨g2,e2,zC⟩:=inv1.done.store ZK
 simp only [e2,aD]
 have Q8:=zC.dI (Ne.symm d3.2.2) inv1.iD
 have bs2:=zC.dI d3.1 inv1.aZ
 have jb2:g2[ij]?=some (.arr 102 [I qs.length,I w,vq]):=by rw [zC.old _ d1.2.1];exact inv1.FP
 have ou2:g2[ix]?=some (.arr 107 z4):=by rw [zC.old _ d2.2.1];exact inv1.out
 have xh2:=zC.ex inv1.ex b1.2.2.1
 obtain ⟨vw,m1,m2⟩:=Q8.load
 simp only [m1,ag,lja jb2]
 refine RZ (age:=age+d) (hq.mono xh2) (by omega) s4 (by omega) ?_
 intro r3 g3 x3 yI
 have m3:af true 4 g3 (pt iw 0)=some vw:=by
  obtain ⟨a,b,c,e,k,_⟩:=Q8
  rw [gA k] at m1
  rw [gA (x3.get k)];exact m1
 simp only [m3,true_and]
 have jC:=xl (qs:=qs.drop (age+d)) (fun q hq=>s4 q (List.mem_of_mem_drop hq)) _ (Nat.le_refl _)
 rw [List.take_length,List.length_drop] at jC
 refine Ij (m2.mono x3) yI QX jC (by omega) ?_
 intro r4 g4 x4 wo
 rw [←ew] at wo
 have bC:=x3.trans x4
 obtain ⟨g5,e5,sX⟩:=(Q8.mono bC).store wo
 simp only [e5,aD]
 have AH:=sX.dI d3.2.2 (zC.cell.mono bC)
 have Ul:=sX.dI d3.2.1 (bs2.mono bC)
 have FO:g5[ij]?=some (.arr 102 [I qs.length,I w,vq]):=by rw [sX.old _ d1.2.2];exact bC.get jb2
 have ou5:g5[ix]?=some (.arr 107 z4):=by rw [sX.old _ d2.2.2];exact bC.get ou2
 have HX:=sX.ex (xh2.trans bC) b1.2.2.2
 have zL:=sX.cell
 -- one more try
 have e7:aW 107 [(.bool false),(.slice none 0 0),(.bool false),(.slice none 0 0)] g5=some (pt g5.length 0,g5++[.arr 107 z4]):=rfl
 simp only [e7,aD]
 have y1:EX g5 (g5++[.arr 107 z4]):=EX.append _ _
 have j1:(g5++[ak.arr 107 z4])[g5.length]?=some (.arr 107 z4):=bO
 generalize g5++[ak.arr 107 z4]=g6 at y1 j1⊢
 simp only [F9 j1,ag,true_and,lj1 (y1.get FO),lj1 FO]
 refine xw (by omega) (by omega) ?_
 intro r7 g7 x7 hr7
 have dL:=y1.trans x7
 obtain ⟨vd7,n1,n2⟩:=(AH.mono dL).load
 have same:∀{i:Nat} {q:Rat} {ga gb:ae} {v:Value},Cell ga i q→EX ga gb→af true 4 gb (pt i 0)=some v→af true 4 ga (pt i 0)=some v:=by
  intro i q ga gb v c x l
  obtain ⟨a,b,c,e,k,_⟩:=c
  rw [gA (x.get k)] at l
  rw [gA k];exact l
 simp only [F9 (x7.get j1),true_and,n1,ag,same AH dL n1,same (AH.mono y1) x7 n1]
 refine C88 hr7 n2 (HN w0 tc) QY (by omega) ?_
 intro r8 g8 x8 hr8
 have gP:=dL.trans x8
 obtain ⟨vw8,o1,o2⟩:=(zL.mono gP).load
 simp only [F9 ((x7.trans x8).get j1),true_and,o1,ag,same zL gP o1,same (zL.mono y1) (x7.trans x8) o1,same (zL.mono dL) x8 o1]
 refine aiT hr8 o2 Z5 ((HN w0 tc).mul QY) Q0 (by omega) ?_
 intro r9 g9 x9 Nd
 have ht:RV g9 r9 (jd qs w age d):=Nd
 have htz:=Q2 (age:=age) (d:=d) aA iu
 have A3:=Cf (age:=age) (d:=d) aA hd
 have gn:=x7.trans (x8.trans x9)
 obtain ⟨mC,LM,pn⟩:=zS (gn.get j1) ht
 have iL:∀{i:Nat},i<g5.length→i≠g5.length:=fun aB he=>by omega
 have eA:=y1.trans gn
 have ib5:=Ul.lt
 have id5:=AH.lt
 have iw5:=zL.lt
 have ij5:ij<g5.length:=(List.getElem?_eq_some_iff.1 FO).1
 have ix5:ix<g5.length:=(List.getElem?_eq_some_iff.1 ou5).1
 have KR:=pn.dI (iL ib5) (Ul.mono eA)
 have X5:=pn.dI (iL id5) (AH.mono eA)
 have wkA:=pn.dI (iL iw5) (zL.mono eA)
 have jbA:mC[ij]?=some (.arr 102 [I qs.length,I w,vq]):=by rw [pn.old _ (iL ij5)];exact eA.get FO
 have ouA:mC[ix]?=some (.arr 107 z4):=by rw [pn.old _ (iL ix5)];exact eA.get ou5
 have xhA:=pn.ex (HX.trans eA) (by have:=HX.1;omega)
 simp only [F9 (gn.get j1),true_and,LM,aD,fW,ag]
 have next:∀(aZ:Rat) (fx:Nat) {g':ae},uN h g' ij ix ib id iw qs w vq ⟨aZ,fx,(bT qs w age (d+1)).done,(bT qs w age (d+1)).iD⟩→bT qs w age (d+1)=⟨aZ,fx,(bT qs w age (d+1)).done,(bT qs w age (d+1)).iD⟩→GD Tryz.prog K (I age) (pt ij 0) (pt ix 0) (pt ib 0) (I fx) (pt id 0) (pt iw 0) (I (d+1:Nat)) L g':=by
  intro aZ fx g' iv es
  rw [awS]
  have wi:IntKind.wrap .i64 (((d+1:Nat):Int)+1)=((d+1+1:Nat):Int):=by rw [wrap64 (by omega) (by omega)];omega
  simp only [cC,wi,ag,true_and]
  have:=hL (d+1,g') ⟨iu,by show uN h g' ij ix ib id iw qs w vq (bT qs w age (d+1));rw [es];exact iv⟩ (by show qs.length-(d+1)<qs.length-d;omega)
  have em:(bT qs w age (d+1)).fx=fx:=by rw [es]
  simp only [em] at this
  exact this
 -- it is better
 have better:((bT qs w age d).fx=0∨(bT qs w age d).aZ<jd qs w age d)→∀(t u:Value) {g':ae},EX mC g'→bK t (.bool true) u=some (B true)→B0 Tryz.prog K (I age) (pt ij 0) (pt ix 0) (pt ib 0) (I ((bT qs w age d).fx:Nat)) (pt id 0) (pt iw 0) (I (d+1:Nat)) (pt g5.length 0) t u L g':=by
  intro oN t u g' x' Bo
  rw [agC,Bo]
  obtain ⟨vt,p1,p2⟩:=(pn.cell.mono x').load
  obtain ⟨AR,LN,zB⟩:=(KR.mono x').store p2
  simp only [ag,dd,p1,LN,aD]
  refine next (jd qs w age d) (d+1) ⟨zB.ex (xhA.trans x') b1.2.1,by rw [zB.old _ d1.1];exact x'.get jbA,by rw [zB.old _ d2.1];exact x'.get ouA,zB.cell,zB.dI d3.1.symm (X5.mono x'),zB.dI d3.2.1.symm (wkA.mono x')⟩ ?_
  unfold jd at oN⊢
  rw [ed,ew] at oN⊢
  simp only [bT]
  rw [if_pos oN]
 have azP:¬((bT qs w age d).fx=0∨(bT qs w age d).aZ<jd qs w age d)→∀(t u:Value) {g':ae},EX mC g'→bK t (.bool true) u=some (B false)→B0 Tryz.prog K (I age) (pt ij 0) (pt ix 0) (pt ib 0) (I ((bT qs w age d).fx:Nat)) (pt id 0) (pt iw 0) (I (d+1:Nat)) (pt g5.length 0) t u L g':=by
  intro oN t u g' x' Bo
  rw [agC,Bo]
  simp only [ag,c7]
  refine next (bT qs w age d).aZ (bT qs w age d).fx ⟨xhA.trans x',x'.get jbA,x'.get ouA,KR.mono x',X5.mono x',wkA.mono x'⟩ ?_
  unfold jd at oN
  rw [ed,ew] at oN⊢
  simp only [bT]
  rw [if_neg oN]
 rw [awR]
 by_cases hm:(bT qs w age d).fx=0
 ·rw [decide_eq_true (show ((bT qs w age d).fx:Int)=0 by omega)]
  simp only [eY]
  exact better (.inl hm) _ _ (EX.refl mC) rfl
 ·rw [decide_eq_false (show ¬((bT qs w age d).fx:Int)=0 by omega)]
  obtain ⟨vt,p1,p2⟩:=pn.cell.load
  obtain ⟨vb,p3,p4⟩:=KR.load
  simp only [dF,p1,p3,ag]
  refine R4 p2 p4 htz A3 (by decide) ?_
  intro AR ax
  have hc:decide ((0:Int)<mA (jd qs w age d) (bT qs w age d).aZ)=decide ((bT qs w age d).aZ<jd qs w age d):=by
   rw [decide_eq_decide]
   unfold mA
   generalize jd qs w age d=a
   generalize (bT qs w age d).aZ=b
   by_cases e:a=b
   ·subst e
    rw [if_pos rfl]
    exact ⟨fun h=>absurd h (by decide),fun h=>absurd h Rat.lt_irrefl⟩
   ·rw [if_neg e]
    by_cases e2:a<b
    ·rw [if_pos e2]
     exact ⟨fun h=>absurd h (by decide),fun h=>by grind⟩
    ·rw [if_neg e2]
     exact ⟨fun _=>by grind,fun _=>by decide⟩
  simp only [eT,ag,hc]
  by_cases oN:(bT qs w age d).aZ<jd qs w age d
  ·rw [decide_eq_true oN]
   exact better (.inr oN) _ _ ax rfl
  ·rw [decide_eq_false oN]
   exact azP (fun h=>h.elim hm oN) _ _ ax rfl

end
end Go.Proofs.YtelmdbpaoifmoaaGreat


namespace Go.Proofs.YtelmdbpaoifmoaaGreat
open Go.Sim

section
variable {h : ae} {K : Value → ae → Prop}

theorem C44 {qs:List Rat} {w:Int} {vq:Value} {age:Nat} (hq:QL h vq qs) (aA:dw qs w=true) (A0:age<qs.length)
  (hk:∀r h',EX h h'→RV h' r (bT qs w age (qs.length-age)).aZ→K (.tuple #[r,I ((bT qs w age (qs.length-age)).fx:Nat)]) h'):aj Tryz.prog 44 [.agg #[I qs.length,I w,vq],I age] h K:=by
 obtain ⟨rq,rs,_,_⟩:=id hq
 refine f44 ?_
 have e1:bc 102 h (.agg #[I qs.length,I w,vq])=some (pt h.length 0,h++[.arr 102 [I qs.length,I w,vq]]):=by
  rcases rs.2 with ⟨e,_⟩ | ⟨i,o,e,_⟩ <;> rw [e] <;> rfl
 have e7:∀(g:ae),aW 107 [(.bool false),(.slice none 0 0),(.bool false),(.slice none 0 0)] g=some (pt g.length 0,g++[.arr 107 z4]):=fun _=>rfl
 simp only [J5,e1,e7,aD]
 have x0:EX h (h++[.arr 102 [I qs.length,I w,vq]]):=EX.append _ _
 have k0:(h++[ak.arr 102 [I qs.length,I w,vq]])[h.length]?=some (.arr 102 [I qs.length,I w,vq]):=bO
 generalize h++[ak.arr 102 [I qs.length,I w,vq]]=g0 at x0 k0⊢
 have x1:EX g0 (g0++[.arr 107 z4]):=EX.append _ _
 have k1:(g0++[ak.arr 107 z4])[g0.length]?=some (.arr 107 z4):=bO
 generalize g0++[ak.arr 107 z4]=g1 at x1 k1⊢
 have m0:h.length<g0.length:=(List.getElem?_eq_some_iff.1 k0).1
 have m1:g0.length<g1.length:=(List.getElem?_eq_some_iff.1 k1).1
 refine xw (n:=0) (by decide) (by decide) ?_
 intro r2 g2 x2 yH
 have yH:RV g2 r2 0:=yH
 have x3:EX g2 (g2++[.arr 107 z4]):=EX.append _ _
 have k3:(g2++[ak.arr 107 z4])[g2.length]?=some (.arr 107 z4):=bO
 generalize g2++[ak.arr 107 z4]=g3 at x3 k3⊢
 have m2:=x2.1
 have m3:g2.length<g3.length:=(List.getElem?_eq_some_iff.1 k3).1
 obtain ⟨g4,e4,QQ⟩:=zS k3 (yH.mono x3)
 simp only [e4,aD]
 have bC:EX g2 g4:=QQ.ex x3 (Nat.le_refl _)
 refine xw (n:=0) (by decide) (by decide) ?_
 intro r5 g5 x5 wq
 have wq:RV g5 r5 0:=wq
 refine xw (n:=0) (by decide) (by decide) ?_
 intro r6 g6 x6 Nc
 have Nc:RV g6 r6 0:=Nc
 have x7:EX g6 (g6++[.arr 107 z4]):=EX.append _ _
 have k7:(g6++[ak.arr 107 z4])[g6.length]?=some (.arr 107 z4):=bO
 generalize g6++[ak.arr 107 z4]=g7 at x7 k7⊢
 have x8:EX g7 (g7++[.arr 107 z4]):=EX.append _ _
 have k8:(g7++[ak.arr 107 z4])[g7.length]?=some (.arr 107 z4):=bO
 generalize g7++[ak.arr 107 z4]=g8 at x8 k8⊢
 have m4:=QQ.len
 have m5:=x5.1
 have m6:=x6.1
 have m7:g6.length<g7.length:=(List.getElem?_eq_some_iff.1 k7).1
 have eG:=x7.trans x8
 obtain ⟨g9,e9,Hv⟩:=zS (x8.get k7) (((wq.mono x6).mono eG))
 simp only [e9,aD]
 have k9:g9[g7.length]?=some (.arr 107 z4):=by rw [Hv.old _ (by omega)];exact k8
 obtain ⟨mC,LM,pn⟩:=zS k9 (Hv.val (Nc.mono eG))
 simp only [LM,aD]
 have gn:EX g6 g9:=Hv.ex eG (Nat.le_refl _)
 have aAi:EX g6 mC:=pn.ex gn (by omega)
 have HV:=(x5.trans x6).trans aAi
 have HT:=x0.trans (x1.trans x2)
 have xA:=HT.trans (bC.trans HV)
 have jb:=((x1.trans x2).trans (bC.trans HV)).get k0
 have ou:=(x2.trans (bC.trans HV)).get k1
 exact aiJ (g0:=mC) (ij:=h.length) (ix:=g0.length) (ib:=g2.length) (id:=g6.length) (iw:=g7.length) hq aA A0 ⟨by omega,by omega,by omega,by omega⟩ ⟨by omega,by omega,by omega⟩ ⟨by omega,by omega,by omega⟩ ⟨by omega,by omega,by omega⟩
  ⟨xA,jb,ou,QQ.cell.mono HV,pn.dI (by omega) Hv.cell,pn.cell⟩ hk

end
end Go.Proofs.YtelmdbpaoifmoaaGreat


namespace Go.Proofs.YtelmdbpaoifmoaaGreat
open Go.Sim

def kO (ls:List (List UInt8)) (w age:Int):Int:=if ls.all isNum=false then 2 else if pH [(ls,w)]=false∨age<0∨(ls.length:Int)≤age then 1 else 0

section
variable {h : ae} {K : Value → ae → Prop}

theorem C12 {vs:Value} {ls:List (List UInt8)} {w age:Int} (hv:SS h vs ls) (hl:ls.length≤1000∧∀s∈ls,s.length≤700)
  (fG:kO ls w age≠0→∀h',EX h h'→K (.tuple #[S [],I 0,I (kO ls w age)]) h')
  (hk:kO ls w age=0→∀h',EX h h'→K (.tuple #[S (ov (bT (ls.map bu) w age.toNat (ls.length-age.toNat)).aZ.num ((bT (ls.map bu) w age.toNat (ls.length-age.toNat)).aZ.den:Int)),I ((bT (ls.map bu) w age.toNat (ls.length-age.toNat)).fx:Nat),I 0]) h'):
  aj Tryz.prog 12 [.agg #[vs,I w],I age] h K:=by
 refine f12 ?_
 have e1:bc 24 h (.agg #[vs,I w])=some (pt h.length 0,h++[.arr 24 [vs,I w]]):=rfl
 have eS:(.string ⟨#[]⟩:Value)=S []:=rfl
 simp only [Jx,e1,aD,eS]
 have x0:EX h (h++[.arr 24 [vs,I w]]):=EX.append _ _
 have k0:(h++[ak.arr 24 [vs,I w]])[h.length]?=some (.arr 24 [vs,I w]):=bO
 generalize h++[ak.arr 24 [vs,I w]]=g0 at x0 k0⊢
 have mk:cT 24 1 [(.slice none 0 0),(.int .i64 (0))] g0 [(0,2,.agg #[vs,I w])]=some (sl 24 g0.length 0 1,g0++[.arr 24 [vs,I w]]):=rfl
 rw [cf k0]
 simp only [ag,mk,aD]
 have x1:EX g0 (g0++[.arr 24 [vs,I w]]):=EX.append _ _
 have k1:(g0++[ak.arr 24 [vs,I w]])[g0.length]?=some (.arr 24 [vs,I w]):=bO
 generalize g0++[ak.arr 24 [vs,I w]]=g1 at x1 k1⊢
 have zM:=x0.trans x1
 have vP:mj g1 (sl 24 g0.length 0 1) [(ls,w)]:=by
  refine ⟨[[vs,I w]],RS.arr (rows:=[[vs,I w]]) (fun r hr=>by rw [List.mem_singleton.1 hr];rfl) k1,rfl,fun k row c h1 h2=>?_⟩
  cases k with
  | zero=>
   simp only [List.getElem?_cons_zero,Option.some.injEq] at h1 h2
   subst h1 h2
   exact ⟨vs,rfl,hv.mono zM⟩
  | succ k=>simp at h1
 have kS:iJ [(ls,w)]=ls.all isNum:=by simp [iJ]
 have fail:∀(c:Int) {g:ae},EX h g→c≠0→c=kO ls w age→(OP (ah .neq (I c) (.int .i64 (0))) fun aT=>aL aT (K (.tuple #[S [],(.int .i64 (0)),I c]) g) (OP (ah .lss (I age) (.int .i64 (0))) fun bC=>O6 Tryz.prog K (I age) (.slice none 0 0) bC g)):=by
  intro c g x hc he
  simp only [nI,ag,decide_eq_false hc,Bool.not_false,dd]
  subst he
  exact fG hc g x
 refine C43 vP (fun c hc=>by rw [List.mem_singleton.1 hc];exact hl) (by simp) (fun hf g2 x2=>?_) (fun hf ha g2 x2=>?_) (fun hf ha v' g2 x2 lk=>?_)
 ·simp only [dY,fg,fy,ag]
  rw [kS] at hf
  exact fail 2 (zM.trans x2) (by decide) (by unfold kO;rw [if_pos hf])
 ·simp only [dY,fg,fy,ag]
  rw [kS] at hf
  exact fail 1 (zM.trans x2) (by decide) (by unfold kO;rw [if_neg (by rw [hf];decide),if_pos (.inl ha)])
 have xg:=zM.trans x2
 rw [kS] at hf
 have Yd:ah .neq (I 0) (.int .i64 0)=some (B false):=rfl
 simp only [dY,fg,fy,ag,Yd,c7,cK]
 have Fj:lW [(ls,w)]=[(ls.map bu,w)]:=rfl
 rw [Fj] at lk
 obtain ⟨bi,oi,vq,u1,u2,u3⟩:=lk.get (k:=0) (by simp)
 simp only [List.getElem_cons_zero,Int.natCast_zero] at u1 u2 u3
 have aA:dw (ls.map bu) w=true:=by
  unfold pH at ha
  rw [Fj,Bool.and_eq_true] at ha
  simpa using ha.2
 have bad:(age<0∨(ls.length:Int)≤age)→∀t u:Value,bK t (.bool true) u=some (B true)→Gs Tryz.prog K (I age) v' t u g2:=by
  intro hb t u ht
  have he:kO ls w age=1:=by unfold kO;rw [if_neg (by rw [hf];decide),if_pos (.inr hb)]
  rw [agh,ht]
  simp only [ag,dd,eS]
  have:=fG (by rw [he];decide) g2 xg
  rw [he] at this
  exact this
 rw [avV]
 by_cases h0:age<0
 ·rw [decide_eq_true h0]
  simp only [eY]
  exact bad (.inl h0) _ _ rfl
 rw [decide_eq_false h0]
 have lq:af false 1 g2 (pt bi oi)=some (I (ls.map bu).length):=by
  simp only [af] at u2⊢
  cases hc:aQ g2 bi with
  | none=>rw [hc] at u2;cases u2
  | some xs=>
   rw [hc] at u2
   simp only [Option.bind_some,ck,if_true,Bool.false_eq_true,if_false] at u2⊢
   split at u2
   ·injection u2 with u2
    injection u2 with u2
    have u3:=congrArg Array.toList u2
    simp only [List.toList_toArray] at u3
    have u4:=congrArg (fun l=>l[0]?) u3
    simp only [List.getElem?_take,List.getElem?_drop] at u4
    simpa using u4
   ·cases u2
 simp only [dF,u1,ag,bN,Nat.add_zero,lq,j5,List.length_map]
 by_cases h1:(ls.length:Int)≤age
 ·rw [decide_eq_true h1]
  exact bad (.inr h1) _ _ rfl
 rw [decide_eq_false h1]
 have he:kO ls w age=0:=by
  unfold kO
  rw [if_neg (by rw [hf];decide),if_neg]
  rintro (h | h | h)
  ·rw [ha] at h;cases h
  ·exact h0 h
  ·exact h1 h
 have hk:=hk he
 obtain ⟨a,rfl⟩:∃a:Nat,age=(a:Int):=⟨age.toNat,by omega⟩
 rw [Int.toNat_natCast] at hk
 rw [agh]
 simp only [cV,ag,c7,u1,u2]
 have A0:a<(ls.map bu).length:=by rw [List.length_map];omega
 refine C44 u3.1 aA A0 ?_
 intro r g3 x3 hr
 rw [List.length_map] at hr⊢
 have A3:=Cf (qs:=ls.map bu) (w:=w) (age:=a) (d:=ls.length-a) aA (by rw [List.length_map];omega)
 generalize bT (ls.map bu) w a (ls.length-a)=st at*
 have e7:aW 107 [(.bool false),(.slice none 0 0),(.bool false),(.slice none 0 0)] g3=some (pt g3.length 0,g3++[.arr 107 z4]):=rfl
 simp only [dY,fg,fy,ag,e7,aD]
 have y1:EX g3 (g3++[.arr 107 z4]):=EX.append _ _
 have j1:(g3++[ak.arr 107 z4])[g3.length]?=some (.arr 107 z4):=bO
 generalize g3++[ak.arr 107 z4]=g4 at y1 j1⊢
 obtain ⟨g5,e5,sX⟩:=zS j1 (hr.mono y1)
 simp only [e5,aD]
 obtain ⟨v5,l5,r5⟩:=sX.cell.load
 simp only [l5,ag]
 obtain ⟨b1,b2⟩:=A3.dU (by decide)
 have dp:=st.aZ.den_pos
 refine aiK r5 (by omega) b1 (by rw [Int.natAbs_natCast];exact b2) ?_
 intro g6 x6
 simp only [dY,fg,fy,ag,Yd,c7]
 exact hk g6 (xg.trans (x3.trans ((sX.ex y1 (Nat.le_refl _)).trans x6)))

end
end Go.Proofs.YtelmdbpaoifmoaaGreat


namespace Go.Proofs.YtelmdbpaoifmoaaGreat
open Go.Sim

theorem foldl_add (l:List Rat):∀a:Rat,l.foldl (·+·) a=a+ep l:=by
 induction l with
 | nil=>intro a;simp [ep,Rat.add_zero]
 | cons x l ih=>
  intro a
  unfold ep
  simp only [List.foldl_cons]
  rw [ih (a+x),ih (0+x),Rat.zero_add,Rat.add_assoc]
theorem azw (x:Rat) (l:List Rat):ep (x::l)=x+ep l:=by
 unfold ep
 rw [List.foldl_cons,Rat.zero_add,foldl_add]
 rfl
theorem azx {qs:List Rat} {k:Nat} (hk:k<qs.length):ep (qs.drop k)=qs.getD k 0+ep (qs.drop (k+1)):=by
 rw [List.drop_eq_getElem_cons hk,azw,List.getD_eq_getElem?_getD,List.getElem?_eq_getElem hk,Option.getD_some]

theorem X6 (qs:List Rat) (w:Int) (age:Nat):∀d:Nat,age+d≤qs.length→(bT qs w age d).done=ep (qs.drop age)-ep (qs.drop (age+d))
 | 0,_=>by simp only [Nat.add_zero,bT];grind
 | d+1,hd=>by
  rw [(rD qs w age d).1,X6 qs w age d (by omega),azx (k:=age+d) (by omega)]
  have:age+(d+1)=age+d+1:=by omega
  rw [this]
  generalize ep (qs.drop age)=a
  generalize ep (qs.drop (age+d+1))=b
  generalize qs.getD (age+d) 0=c
  grind

theorem arq {qs:List Rat} (h:∀q∈qs,0≤q) (k:Nat):0≤qs.getD k 0:=by
 rw [List.getD_eq_getElem?_getD]
 cases e:qs[k]? with
 | none=>exact Rat.le_refl
 | some q=>exact h q (List.mem_of_getElem? e)

theorem X7 {qs:List Rat} {w:Int} (h:∀q∈qs,0≤q) {age:Nat}:∀d:Nat,0≤(bT qs w age d).done
 | 0=>Rat.le_refl
 | d+1=>by
  rw [(rD qs w age d).1]
  exact Rat.add_nonneg (X7 h d) (arq h _)

theorem apX {a b:Rat} (ha:0≤a) (hb:0<b):0≤a / b:=by
 rw [Rat.div_def]
 exact Rat.mul_nonneg ha (Rat.le_of_lt (Rat.inv_pos.2 hb))

theorem azH {qs:List Rat} {w:Int} (h:dw qs w=true) {age d:Nat} (hd:age+(d+1)≤qs.length):0≤jd qs w age d:=by
 obtain ⟨_,⟨w0,_⟩,_,_,nn,_⟩:=vi h
 refine apX (Rat.mul_nonneg ?_ (X7 nn _)) ((Co h hd).2 (by omega))
 exact_mod_cast w0

theorem ahr (qs:List Rat) (w:Int) (age:Nat):∀d,(bT qs w age d).fx≤d∧(0<d→0<(bT qs w age d).fx)
 | 0=>⟨Nat.le_refl _,fun h=>absurd h (by decide)⟩
 | d+1=>by
  obtain ⟨i1,i2⟩:=ahr qs w age d
  simp only [bT]
  split
  ·simp
  ·rename_i hc
   have:(bT qs w age d).fx≠0:=fun e=>hc (.inl e)
   refine ⟨by simp;omega,fun _=>by simp;omega⟩

def nH (qs:List Rat) (w:Int) (age d:Nat):Rat:=if d=0 then ((-1:Int):Rat) else (bT qs w age d).aZ

theorem azk (qs:List Rat) (w:Int) (age d:Nat):bT qs w age (d+1)=if (bT qs w age d).fx=0∨(bT qs w age d).aZ<jd qs w age d then ⟨jd qs w age d,d+1,(bT qs w age (d+1)).done,(bT qs w age (d+1)).iD⟩ else ⟨(bT qs w age d).aZ,(bT qs w age d).fx,(bT qs w age (d+1)).done,(bT qs w age (d+1)).iD⟩:=by
 unfold jd
 rw [(rD qs w age d).1,(rD qs w age d).2]
 rfl

theorem apK {p q:Rat}:0<mA p q↔q<p:=by
 unfold mA
 by_cases h:p=q
 ·rw [if_pos h,h];constructor
  ·intro h;omega
  ·intro h;exact absurd h (by grind)
 ·rw [if_neg h]
  by_cases h2:p<q
  ·rw [if_pos h2];constructor
   ·intro h;omega
   ·intro h3;exact absurd h3 (by grind)
  ·rw [if_neg h2];constructor
   ·intro _;grind
   ·intro _;decide

theorem al6 {qs:List Rat} {w:Int} (h:dw qs w=true) {age d:Nat} (hd:age+(d+1)≤qs.length):
  (0<mA (jd qs w age d) (nH qs w age d)→nH qs w age (d+1)=jd qs w age d∧(bT qs w age (d+1)).fx=d+1)∧
  (¬0<mA (jd qs w age d) (nH qs w age d)→nH qs w age (d+1)=nH qs w age d∧(bT qs w age (d+1)).fx=(bT qs w age d).fx):=by
 have ht:=azH h hd
 have e:nH qs w age (d+1)=(bT qs w age (d+1)).aZ:=rfl
 rw [e,azk,apK]
 unfold nH
 by_cases d0:d=0
 ·subst d0
  rw [if_pos rfl]
  have hm:(bT qs w age 0).fx=0:=rfl
  have h1:((-1:Int):Rat)<jd qs w age 0:=by
   have:((-1:Int):Rat)<0:=by decide
   grind
  refine ⟨fun _=>?_,fun hc=>absurd h1 hc⟩
  rw [if_pos (.inl hm)]
  exact ⟨rfl,rfl⟩
 ·have hm:=(ahr qs w age d).2 (by omega)
  rw [if_neg d0]
  refine ⟨fun hc=>?_,fun hc=>?_⟩
  ·rw [if_pos (.inr hc)];exact ⟨rfl,rfl⟩
  ·rw [if_neg (by rintro (h | h);omega;exact hc h)];exact ⟨rfl,rfl⟩

theorem al5 {qs:List Rat} {w:Int} (h:dw qs w=true) {age d:Nat} (hd:age+d≤qs.length):cA 380 (nH qs w age d):=by
 unfold nH
 split
 ·have:cA 1 ((-1:Int):Rat):=by constructor <;> decide
  exact this.le (by decide)
 ·exact Cf h hd

theorem LH {qs:List Rat} {w:Int} (h:dw qs w=true) (k:Nat):cA 41 (ep (qs.drop k)):=by
 obtain ⟨⟨_,l8⟩,_,hb,_⟩:=vi h
 have s4:=AO hb
 have hs:=xl (qs:=qs.drop k) (fun q hq=>s4 q (List.mem_of_mem_drop hq)) _ (Nat.le_refl _)
 rw [List.take_length,List.length_drop] at hs
 exact hs.le (by omega)

end Go.Proofs.YtelmdbpaoifmoaaGreat


namespace Go.Proofs.YtelmdbpaoifmoaaGreat
open Go.Sim

theorem uv {g:ae} {i:Nat} (hi:g[i]?=some (.arr 37 z4)):ee g (pt i 0)=some (.agg #[.int .i64 37,.bool false,.slice none 0 0,.bool false,.slice none 0 0]):=by
 simp [ee,yQ,hi,mZ,qq]

section
variable {h : ae} {K : Value → ae → Prop}

theorem C15 {vs:Value} {ls:List (List UInt8)} {w:Int} {age:Nat} (hv:SS h vs ls) (hl:∀s∈ls,s.length≤700∧isNum s=true) (aA:dw (ls.map bu) w=true) (ha:age<ls.length)
  (hk:∀r h',EX h h'→QV h' r (bT (ls.map bu) w age (ls.length-age)).aZ→K (.tuple #[r,I (bT (ls.map bu) w age (ls.length-age)).fx]) h'):aj Tryz.prog 15 [.agg #[vs,I w],I age] h K:=by
 obtain ⟨⟨_,l8⟩,⟨w0,tc⟩,hb,_⟩:=vi aA
 rw [List.length_map] at l8
 have hs:∀s∈ls,cA 4 (bu s):=fun s h1=>AO hb _ (List.mem_map_of_mem h1)
 have ml:(ls.map bu).length=ls.length:=List.length_map ..
 refine f15 ?_
 have e1:bc 24 h (.agg #[vs,I w])=some (pt h.length 0,h++[.arr 24 [vs,I w]]):=rfl
 have e2:∀g:ae,aW 37 [(.bool false),(.slice none 0 0),(.bool false),(.slice none 0 0)] g=some (pt g.length 0,g++[.arr 37 z4]):=fun _=>rfl
 simp only [JV,e1,e2,aD,List.length_append,List.length_cons,List.length_nil,Nat.zero_add]
 have k0:(h++[ak.arr 24 [vs,I w]]++[ak.arr 37 z4])[h.length]?=some (.arr 24 [vs,I w]):=by simp
 have k1:(h++[ak.arr 24 [vs,I w]]++[ak.arr 37 z4])[h.length+1]?=some (.arr 37 z4):=by simp
 have x1:EX h (h++[ak.arr 24 [vs,I w]]++[ak.arr 37 z4]):=(EX.append _ _).push _
 have l1:(h++[ak.arr 24 [vs,I w]]++[ak.arr 37 z4]).length=h.length+2:=by simp
 generalize h++[ak.arr 24 [vs,I w]]++[ak.arr 37 z4]=h1 at k0 k1 x1 l1⊢
 refine xv (by decide) ?_
 intro r2 h2 x2 q2
 refine xX q2 ?_
 intro h3 x3 c3 l3
 refine xv (by decide) ?_
 intro r4 h4 x4 q4
 refine xX q4 ?_
 intro h5 x5 c5 l5
 have a9:=x2.trans (x3.trans (x4.trans x5))
 have m2:h1.length≤h2.length:=x2.1
 have m4:h2.length<h4.length:=by have:=x4.1;omega
 generalize h2.length=b6 at*
 generalize h4.length=b8 at*
 refine db (σ:=Nat×ae) (fun q=>[I (bT (ls.map bu) w age q.1).fx,I ((q.1:Int)+1)]) (fun q=>q.2) (fun q=>age+q.1≤ls.length∧EX h1 q.2∧iH q.2 b6 (nH (ls.map bu) w age q.1)∧iH q.2 b8 (bT (ls.map bu) w age q.1).iD) (fun q=>ls.length-q.1) (0,h5) rfl rfl
  ⟨by omega,a9,(c3.mono (x4.trans x5)),c5⟩ ?_
 rintro ⟨d,g⟩ ⟨hi,xg,My,Mz⟩ L hL
 simp only at hi xg My Mz hL⊢
 rw [awu]
 have lX:∀{g':ae},EX g g'→af false 1 g' (pt h.length 0)=some vs:=fun x=>by simp [af,aQ,(xg.trans x).get k0,ck]
 have pg:∀{g':ae},EX g g'→af false 1 g' (pt h.length 1)=some (I w):=fun x=>by simp [af,aQ,(xg.trans x).get k0,ck]
 have ldc:∀{g':ae},EX g g'→af true 2 g' (pt h.length 0)=some (.agg #[vs,I w]):=fun x=>cf ((xg.trans x).get k0)
 have kW:=hv.mono (x1.trans xg)
 have aqY:IntKind.wrap .i64 ((ls.length:Int)-(age:Int))=((ls.length-age:Nat):Int):=by
  rw [wrap64 (by omega) (by omega)];omega
 simp only [bN,Nat.add_zero,Nat.zero_add,lX (EX.refl g),ag,kW.len,eW,aqY,qN,bS,true_and]
 refine ⟨fun hle=>?_,fun pX=>?_⟩
 rotate_left
 ·have A4:d=ls.length-age:=by omega
  subst A4
  rw [awt]
  obtain ⟨v,l1',l2'⟩:=My.load
  obtain ⟨g',AI,st⟩:=Ay (xg.get k1) l2'
  simp only [l1',ag,AI,aD]
  obtain ⟨v',n1,n2⟩:=st.cell.load
  simp only [n1,ag]
  have:nH (ls.map bu) w age (ls.length-age)=(bT (ls.map bu) w age (ls.length-age)).aZ:=by unfold nH;rw [if_neg (by omega)]
  rw [this] at n2
  exact hk v' g' (st.ex (x1.trans xg) (by omega)) n2
 have lO:age+d<ls.length:=by omega
 have iu:age+(d+1)≤(ls.map bu).length:=by rw [ml];omega
 obtain ⟨sz1,QX⟩:=zE (age:=age) (d:=d) aA (by rw [ml];omega)
 obtain ⟨QY,Q0⟩:=zE (age:=age) (d:=d+1) aA iu
 have szb:=al5 (age:=age) (d:=d) aA (by rw [ml];omega)
 have szt:=Q2 aA iu
 have a1:IntKind.wrap .i64 ((age:Int)+((d:Int)+1))=((age+(d+1):Nat):Int):=by rw [wrap64 (by omega) (by omega)];omega
 have a2:IntKind.wrap .i64 (((age+(d+1):Nat):Int)-1)=((age+d:Nat):Int):=by rw [wrap64 (by omega) (by omega)];omega
 obtain ⟨vu,lu,qu⟩:=Mz.load
 simp only [lu,ag,ldc (EX.refl g),cC,a1,eW,a2]
 refine Ic kW (by omega) hl hs (by omega) ?_
 intro r6 g6 x6 q6
 refine ⟨⟨EX.load x6 lu,trivial⟩,?_⟩
 refine H9 ((qu.mono x6).un QX) (q6.un (LH aA _)) (by omega) ?_
 intro r7 g7 x7 q7
 refine Cz q7 (by omega) ?_
 intro r8 g8 x8 q8
 have ew:(bT (ls.map bu) w age d).iD+ep ((ls.map bu).drop (age+d))=(bT (ls.map bu) w age (d+1)).iD:=(rD _ _ _ _).2.symm
 rw [ew] at q8
 have eG:=x6.trans (x7.trans x8)
 obtain ⟨g9,e9,s9⟩:=(Mz.mono eG).store q8
 have lb8:h1.length≤b8:=by omega
 have x9:EX h1 g9:=s9.ex (xg.trans eG) lb8
 have c6:iH g9 b6 _:=s9.dI (by omega) (My.mono eG)
 have c8:=s9.cell
 have Z1:=hv.mono (x1.trans x9)
 have k9:=x9.get k0
 have k91:=x9.get k1
 simp only [e9,aD,e2]
 have y1:EX g9 (g9++[ak.arr 37 z4]):=EX.append _ _
 have j1:(g9++[ak.arr 37 z4])[g9.length]?=some (.arr 37 z4):=bO
 generalize g9++[ak.arr 37 z4]=ga at y1 j1⊢
 have lw:∀{g':ae},EX g9 g'→af false 1 g' (pt h.length 1)=some (I w):=fun x=>by simp [af,aQ,x.get k9,ck]
 have lc:∀{g':ae},EX g9 g'→af true 2 g' (pt h.length 0)=some (.agg #[vs,I w]):=fun x=>cf (x.get k9)
 obtain ⟨vn,ln,qn⟩:=c8.load
 simp only [uv j1,ag,lw y1,lw (EX.refl g9),true_and]
 refine xv (by omega) ?_
 intro r10 m8 aF GX
 have uI:=y1.trans aF
 refine ⟨⟨uv (aF.get j1),trivial⟩,?_⟩
 simp only [lc uI,lc (EX.refl g9),lc y1,ag,true_and]
 refine Ic (Z1.mono uI) (by omega) hl hs (by omega) ?_
 intro r11 h11 ax q11
 have HZ:=uI.trans ax
 refine ⟨⟨uv ((aF.trans ax).get j1),trivial⟩,?_⟩
 simp only [lc HZ,ag,true_and]
 refine Ic (Z1.mono HZ) (by omega) hl hs (by omega) ?_
 intro uA YK az nA
 have uJ:=HZ.trans az
 refine ⟨⟨uv ((aF.trans (ax.trans az)).get j1),trivial⟩,?_⟩
 refine aiN ((q11.mono az).un (LH aA _)) (nA.un (LH aA _)) (by omega) ?_
 intro r13 YL ay GZ
 have y13:=uJ.trans ay
 refine ⟨⟨uv ((aF.trans (ax.trans (az.trans ay))).get j1),trivial⟩,?_⟩
 refine aiD ((GX.mono (ax.trans (az.trans ay))).un (HN w0 tc)) GZ (by omega) ?_
 intro r14 h14 aP q14
 have zR:=y13.trans aP
 have wQ:∀{g':ae},EX g9 g'→af true 4 g' (pt b8 0)=some vn:=fun x=>EX.load x ln
 refine ⟨⟨uv ((aF.trans (ax.trans (az.trans (ay.trans aP)))).get j1),trivial⟩,?_⟩
 simp only [wQ zR,wQ (EX.refl g9),wQ y1,wQ uI,wQ HZ,wQ uJ,wQ y13,ag,true_and]
 have wp:=(Co (age:=age) (d:=d+1) aA iu).2 (by omega)
 refine aiM q14 ((qn.mono zR).un Q0) wp (by omega) ?_
 intro r15 h15 a9 q15
 have Cv:=zR.trans a9
 refine ⟨⟨uv ((aF.trans (ax.trans (az.trans (ay.trans (aP.trans a9))))).get j1),trivial⟩,?_⟩
 refine Cz q15 (by omega) ?_
 intro r16 h16 aX q16
 have j16:=(aF.trans (ax.trans (az.trans (ay.trans (aP.trans (a9.trans aX)))))).get j1
 have y16:=Cv.trans aX
 refine ⟨⟨uv j16,trivial⟩,?_⟩
 have et:(w:Rat)*(ep ((ls.map bu).drop age)-ep ((ls.map bu).drop (age+(d+1)))) / (bT (ls.map bu) w age (d+1)).iD=jd (ls.map bu) w age d:=by
  unfold jd
  rw [X6 _ _ _ _ iu]
 rw [et] at q16
 obtain ⟨h17,e17,Hi⟩:=Ay j16 q16
 have g9l:g9.length≤ga.length:=y1.1
 have WI:=c6.mono y16
 have y17:EX g9 h17:=Hi.ex y16 (Nat.le_refl _)
 have n6:b6≠g9.length:=by have:=c6.lt;omega
 have n8:b8≠g9.length:=by have:=c8.lt;omega
 obtain ⟨v18,l18,q18⟩:=Hi.cell.load
 obtain ⟨v19,l19,q19⟩:=(Hi.dI n6 WI).load
 simp only [e17,aD,l18,l19,ag]
 refine RO (q18.un szt) (q19.un szb) (by omega) ?_
 intro YP aT
 obtain ⟨b1,b2⟩:=al6 aA iu
 have Cw:=y17.trans aT
 have stop:∀{g':ae} (m:Nat),EX h1 g'→iH g' b6 (nH (ls.map bu) w age (d+1))→iH g' b8 (bT (ls.map bu) w age (d+1)).iD→(bT (ls.map bu) w age (d+1)).fx=m→
   Gz Tryz.prog K (I age) (pt h.length 0) (pt (h.length+1) 0) (pt b6 0) (I m) (pt b8 0) (.int .i64 ((d:Int)+1)) L g':=by
  intro g' m hx h6 h8 hm
  rw [aws]
  have e:IntKind.wrap .i64 ((d:Int)+1+1)=((d+1:Nat):Int)+1:=by rw [wrap64 (by omega) (by omega)];omega
  simp only [cC,ag,e,true_and]
  have:=hL (d+1,g') ⟨by show age+(d+1)≤_;omega,hx,h6,h8⟩ (by show ls.length-(d+1)<ls.length-d;omega)
  simp only [hm] at this
  exact this
 simp only [eT,ag,bS]
 refine ⟨fun hc=>?_,fun hc=>?_⟩
 ·obtain ⟨f1,f2⟩:=b1 hc
  simp only [EX.load aT l18,ag]
  obtain ⟨h21,e21,QH⟩:=((Hi.dI n6 WI).mono aT).store (q18.mono aT)
  simp only [e21,aD]
  have:=stop (d+1) (QH.ex (x9.trans Cw) m2) (by rw [f1];exact QH.cell) (QH.dI (by omega) (c8.mono Cw)) f2
  simpa using this
 ·obtain ⟨f1,f2⟩:=b2 hc
  exact stop _ (x9.trans Cw) (by rw [f1];exact c6.mono Cw) (c8.mono Cw) f2

end
end Go.Proofs.YtelmdbpaoifmoaaGreat


namespace Go.Proofs.YtelmdbpaoifmoaaGreat
open Go.Sim

theorem apS (ls:List (List UInt8)):(qQ ls).length≤9:=by unfold qQ;rw [List.length_map,List.length_take];omega
theorem apT (ls:List (List UInt8)):∀s∈qQ ls,s.length≤20:=by
 intro s hs
 obtain ⟨t,_,rfl⟩:=List.mem_map.1 hs
 rw [List.length_take];omega

theorem Yh {ls:List (List UInt8)} {w age:Int} (h:pK [(ls,w)]≠0):kO ls w age=pK [(ls,w)]:=by
 have e:iJ [(ls,w)]=ls.all isNum:=by simp [iJ]
 unfold pK at h⊢
 unfold kO
 rw [e] at h⊢
 by_cases h1:ls.all isNum=false
 ·rw [if_pos h1,if_pos h1]
 ·rw [if_neg h1,if_neg h1]
  rw [if_neg h1] at h
  by_cases h2:pH [(ls,w)]=false
  ·rw [if_pos h2,if_pos (.inl h2)]
  ·rw [if_neg h2] at h;exact absurd rfl h
theorem Yi {ls:List (List UInt8)} {w age:Int} (h:pK [(ls,w)]=0):ls.all isNum=true∧pH [(ls,w)]=true∧kO ls w age=if age<0∨(ls.length:Int)≤age then 1 else 0:=by
 have e:iJ [(ls,w)]=ls.all isNum:=by simp [iJ]
 unfold pK at h
 unfold kO
 rw [e] at h
 cases h1:ls.all isNum with
 | false=>rw [h1,if_pos rfl] at h;exact absurd h (by decide)
 | true=>
  rw [h1,if_neg (by decide)] at h
  cases h2:pH [(ls,w)] with
  | false=>rw [h2,if_pos rfl] at h;exact absurd h (by decide)
  | true=>
   refine ⟨rfl,rfl,?_⟩
   rw [if_neg (by decide)]
   simp

section
variable {h : ae} {K : Value → ae → Prop}

theorem C3 {vs:Value} {ls:List (List UInt8)} {w age:Int} (hv:SS h vs ls) (hk:∀h',K (.bool true) h'):aj Tryz.prog 3 [.agg #[vs,I w],I age] h K:=by
 refine f3 ?_
 have e1:bc 24 h (.agg #[vs,I w])=some (pt h.length 0,h++[.arr 24 [vs,I w]]):=rfl
 simp only [T3,e1,aD]
 have x0:EX h (h++[.arr 24 [vs,I w]]):=EX.append _ _
 have k0:(h++[ak.arr 24 [vs,I w]])[h.length]?=some (.arr 24 [vs,I w]):=bO
 generalize h++[ak.arr 24 [vs,I w]]=g0 at x0 k0⊢
 have mk:cT 24 1 [(.slice none 0 0),(.int .i64 (0))] g0 [(0,2,.agg #[vs,I w])]=some (sl 24 g0.length 0 1,g0++[.arr 24 [vs,I w]]):=rfl
 rw [cf k0]
 simp only [ag,mk,aD]
 have x1:EX g0 (g0++[.arr 24 [vs,I w]]):=EX.append _ _
 have k1:(g0++[ak.arr 24 [vs,I w]])[g0.length]?=some (.arr 24 [vs,I w]):=bO
 generalize g0++[ak.arr 24 [vs,I w]]=g1 at x1 k1⊢
 have zM:=x0.trans x1
 have vP:mj g1 (sl 24 g0.length 0 1) [(ls,w)]:=by
  refine ⟨[[vs,I w]],RS.arr (rows:=[[vs,I w]]) (fun r hr=>by rw [List.mem_singleton.1 hr];rfl) k1,rfl,fun k row c h1 h2=>?_⟩
  cases k with
  | zero=>
   simp only [List.getElem?_cons_zero,Option.some.injEq] at h1 h2
   subst h1 h2
   exact ⟨vs,rfl,hv.mono zM⟩
  | succ k=>simp at h1
 refine C11 vP ?_
 intro v2 g2 x2 vM
 have aqM:EA [(ls,w)]=[(qQ ls,w)]:=rfl
 rw [aqM] at vM
 have l9:=apS ls
 have N1:=apT ls
 generalize qQ ls=us at*
 obtain ⟨bi,oi,vu,u1,u2,u3⟩:=vM.get (k:=0) (by simp)
 simp only [List.getElem_cons_zero,Int.natCast_zero] at u1 u2 u3
 simp only [u1,u2,ag]
 obtain ⟨u4,u5⟩:=yX u2
 -- pz is refused
 have bad:∀(g:ae) (c:Int),c=kO us w age→c≠0→BZ Tryz.prog K (I age) v2 (S []) (I 0) (I c) (I c) g:=by
  intro g c _ hc
  rw [ags]
  have eS:ah .eql (S []) (.string ⟨#[]⟩)=some (B true):=rfl
  simp only [nI,ag,decide_eq_false hc,Bool.not_false,dd,eS]
  rw [awx]
  simp only [eO,fW,ag,decide_true]
  rw [awy]
  simp only [dh,ag]
  rw [awz]
  simp only [eO,fW,ag,decide_true]
  rw [awA]
  simp only [dh,ag]
  rw [awB]
  simp only [eO]
  refine RL ?_
  rw [awC]
  simp only [dh,ag]
  exact hk _
 have after:∀(v6 d7:Value) (e:Int) {g:ae},EX g2 g→e=kO us w age→(∀g',EX g g'→BZ Tryz.prog K (I age) v2 v6 d7 (I e) (I (kO us w age)) g')→
   aj Tryz.prog 13 [v2] g fun bL h_5=>OP (ah .eql bL (.int .i64 (0))) fun bR=>Pr Tryz.prog K (I age) v2 v6 d7 (I e) bL bR h_5:=by
  intro v6 d7 e g xg he Zz
  refine C13 (vM.mono xg) (fun c hc=>?_) (by simp) ?_
  ·rw [List.mem_singleton.1 hc]
   exact ⟨by show us.length≤1000;omega,fun s hs=>by have:=N1 s hs;omega⟩
  intro g3 x3
  simp only [fW,ag]
  rw [awJ]
  by_cases h0:pK [(us,w)]=0
  rotate_left
  ·rw [decide_eq_false h0]
   simp only [ie]
   rw [agp]
   simp only [tm]
   rw [agq]
   simp only [ie]
   rw [agr]
   simp only [cV,ag,c7]
   have:=Zz g3 x3
   rw [Yh h0] at this
   exact this
  ·rw [decide_eq_true h0]
   obtain ⟨_,_,e3⟩:=Yi (age:=age) h0
   simp only [eO,cK,ag]
   rw [agp]
   have bV:=xg.trans x3
   have last:∀bY cG:Value,bK bY (.bool true) cG=some (B (decide (age<0∨(us.length:Int)≤age)))→GA Tryz.prog K (I age) v2 v6 d7 (I e) (I (pK [(us,w)])) (B true) bY cG g3:=by
    intro bY cG hp
    rw [agq]
    simp only [eO,hp,ag]
    rw [agr]
    simp only [dh,ag,bS]
    have:=Zz g3 x3
    rw [e3] at this
    refine ⟨fun hc=>?_,fun hc=>?_⟩
    ·rw [if_pos hc] at this;exact this
    ·rw [if_neg hc] at this;rw [h0];exact this
   by_cases hn:age<0
   ·rw [decide_eq_true hn]
    simp only [eY]
    exact last _ _ (by rw [decide_eq_true (.inl hn)];rfl)
   ·rw [decide_eq_false hn]
    simp only [dF,u1,ag,bN,Nat.add_zero,EX.load bV u4,(u3.mono bV).len,j5]
    refine last _ _ ?_
    show some (B (decide ((us.length:Int)≤age)))=_
    congr 2
    rw [decide_eq_decide]
    constructor
    ·exact .inr
    ·rintro (h | h)
     ·exact absurd h hn
     ·exact h
 refine C12 u3 ⟨by omega,fun s hs=>by have:=N1 s hs;omega⟩ (fun br g3 x3=>?_) (fun hz g3 x3=>?_)
 ·simp only [dY]
  have e2:∀a b c:Value,(#[a,b,c]:Array Value)[2]?=some c:=fun _ _ _=>rfl
  have AI:∀a b c:Value,(#[a,b,c]:Array Value)[1]?=some b:=fun _ _ _=>rfl
  have LJ:∀a b c:Value,(#[a,b,c]:Array Value)[0]?=some a:=fun _ _ _=>rfl
  simp only [LJ,AI,e2,ag]
  exact after _ _ _ x3 rfl fun g' _=>bad g' _ rfl br
 ·have e2:∀a b c:Value,(#[a,b,c]:Array Value)[2]?=some c:=fun _ _ _=>rfl
  have AI:∀a b c:Value,(#[a,b,c]:Array Value)[1]?=some b:=fun _ _ _=>rfl
  have LJ:∀a b c:Value,(#[a,b,c]:Array Value)[0]?=some a:=fun _ _ _=>rfl
  simp only [dY,LJ,AI,e2,ag]
  refine after _ _ _ x3 hz.symm fun g4 x4=>?_
  rw [hz]
  have pT:pK [(us,w)]=0:=by
   apply Classical.byContradiction
   intro hc
   rw [Yh hc] at hz
   exact hc hz
  obtain ⟨kS,Mx,e3⟩:=Yi (age:=age) pT
  rw [hz] at e3
  have A0:¬(age<0∨(us.length:Int)≤age):=by
   intro hc
   rw [if_pos hc] at e3
   exact absurd e3 (by decide)
  obtain ⟨a,rfl⟩:∃a:Nat,age=(a:Int):=⟨age.toNat,by omega⟩
  rw [Int.toNat_natCast]
  have bC:=x3.trans x4
  have aA:dw (us.map bu) w=true:=by
   unfold pH at Mx
   have Fj:lW [(us,w)]=[(us.map bu,w)]:=rfl
   rw [Fj,Bool.and_eq_true] at Mx
   simpa using Mx.2
  rw [ags]
  have en:ah .neq (I 0) (.int .i64 (0))=some (B false):=rfl
  simp only [en,ag,c7,u1,EX.load bC u2]
  refine C15 (u3.mono bC) (fun s hs=>⟨by have:=N1 s hs;omega,List.all_eq_true.1 kS s hs⟩) aA (by omega) ?_
  intro r g5 x5 hr
  have A3:=Cf (qs:=us.map bu) (w:=w) (age:=a) (d:=us.length-a) aA (by rw [List.length_map];omega)
  generalize bT (us.map bu) w a (us.length-a)=st at*
  have e7:aW 37 [(.bool false),(.slice none 0 0),(.bool false),(.slice none 0 0)] g5=some (pt g5.length 0,g5++[.arr 37 z4]):=rfl
  simp only [dY,fg,fy,ag,e7,aD]
  refine xX hr ?_
  intro g6 x6 c6 _
  obtain ⟨v6,l6,q6⟩:=c6.load
  simp only [l6,ag]
  refine aiy (q6.un A3) (by decide) ?_
  intro g7 x7
  rw [decide_eq_true rfl,awD]
  simp only [eO,fW,ag,decide_true]
  rw [awE]
  simp only [dh,ag]
  rw [awF]
  simp only [eO,fW,ag,decide_true]
  rw [awG]
  simp only [dh,ag]
  rw [awH]
  simp only [eO]
  refine RL ?_
  rw [awI]
  simp only [dh,ag]
  exact hk _

end
end Go.Proofs.YtelmdbpaoifmoaaGreat

